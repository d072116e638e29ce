/-
  The walk of FnExactSumOf. Conditions: none but that the slice reads as numbers.
-/
import Derived.Test.YtjlifphieieoeaaSumOf
namespace Go.Proofs.Ytjlifphieieoeaa
open Go.RowKit
set_option linter.unusedVariables false

set_option maxHeartbeats 400000 in
theorem wk_FnExactSumOf_bad {v : Value} {xs : List Int} {w : World} (hz : ¬ valsC xs = 0) (h : Ints w v xs) :
    Calls Try.prog 3 #[v] w fun e w' => e = .returned (.bool true) ∧ Below w.heap.size w w' := by
  obtain ⟨a, n, c, rfl, H⟩ := h.parts
  have hlen := Lib.hid H.len
  have hcap := H.cap
  have hmost := H.most
  unfold maxLen at hmost
  clear H
  by_cases hbig : 1048576 < n
  · go_enter Try.func3, Try.ntmps3
    go_wp2_with fail
    go_ret
    exact ⟨rfl, Below.refl _ _⟩
  · have hn : Hid (xs.length ≤ 1048576) := Lib.hid (by rw [hlen.out]; omega)
    go_enter Try.func3, Try.ntmps3
    go_wp2_with fail
    refine (copyInts h hn.out).mono ?_
    rintro e w1 ⟨v1, rfl, i1, b1⟩
    go_wp2_with fail
    refine (spec_SumOf_bad hz i1).mono ?_
    rintro e w2 ⟨rfl, b2⟩
    have h2 := (h.below b1).below b2
    go_wp2_with fail
    refine (copyInts h2 hn.out).mono ?_
    rintro e w3 ⟨v3, rfl, i3, b3⟩
    go_wp2_with fail
    refine (impl_SumOf_bad hz i3).mono ?_
    rintro e w4 ⟨rfl, b4⟩
    have h4 := (h2.below b3).below b4
    go_wp2_with fail
    refine (copyInts h4 hn.out).mono ?_
    rintro e w5 ⟨v5, rfl, i5, b5⟩
    go_wp2_with fail
    refine (eqInt64S_c ((i3.below b4).below b5) i5).mono ?_
    rintro e w' ⟨rfl, m6, rfl⟩
    go_wp2_with fail
    go_ret
    have l1 := b1.size
    have l2 := b2.size
    have l3 := b3.size
    have l4 := b4.size
    exact ⟨rfl, below_of_drewN (b1.trans ((b2.mono (by omega)).trans ((b3.mono (by omega)).trans ((b4.mono (by omega)).trans (b5.mono (by omega)))))) m6⟩
set_option maxHeartbeats 400000 in
theorem wk_FnExactSumOf_ok {v : Value} {xs : List Int} {w : World} (hz : valsC xs = 0) (k1 : -1000000000000 ≤ psum xs xs.length) (k2 : psum xs xs.length ≤ 1000000000000) (h : Ints w v xs) :
    Calls Try.prog 3 #[v] w fun e w' => e = .returned (.bool true) ∧ Below w.heap.size w w' := by
  obtain ⟨a, n, c, rfl, H⟩ := h.parts
  have hlen := Lib.hid H.len
  have hcap := H.cap
  have hmost := H.most
  unfold maxLen at hmost
  clear H
  by_cases hbig : 1048576 < n
  · go_enter Try.func3, Try.ntmps3
    go_wp2_with fail
    go_ret
    exact ⟨rfl, Below.refl _ _⟩
  · have hn : Hid (xs.length ≤ 1048576) := Lib.hid (by rw [hlen.out]; omega)
    go_enter Try.func3, Try.ntmps3
    go_wp2_with fail
    refine (copyInts h hn.out).mono ?_
    rintro e w1 ⟨v1, rfl, i1, b1⟩
    go_wp2_with fail
    refine (spec_SumOf_ok hz k1 k2 i1).mono ?_
    rintro e w2 ⟨rfl, b2⟩
    have h2 := (h.below b1).below b2
    go_wp2_with fail
    refine (copyInts h2 hn.out).mono ?_
    rintro e w3 ⟨v3, rfl, i3, b3⟩
    go_wp2_with fail
    refine (impl_SumOf_ok hz k1 k2 i3).mono ?_
    rintro e w4 ⟨rfl, b4⟩
    have h4 := (h2.below b3).below b4
    go_wp2_with fail
    refine (copyInts h4 hn.out).mono ?_
    rintro e w5 ⟨v5, rfl, i5, b5⟩
    go_wp2_with fail
    refine (eqInt64S_c ((i3.below b4).below b5) i5).mono ?_
    rintro e w' ⟨rfl, m6, rfl⟩
    go_wp2_with fail
    go_ret
    have l1 := b1.size
    have l2 := b2.size
    have l3 := b3.size
    have l4 := b4.size
    exact ⟨rfl, below_of_drewN (b1.trans ((b2.mono (by omega)).trans ((b3.mono (by omega)).trans ((b4.mono (by omega)).trans (b5.mono (by omega)))))) m6⟩
set_option maxHeartbeats 400000 in
theorem wk_FnExactSumOf_big {v : Value} {xs : List Int} {w : World} (hz : valsC xs = 0) (KK : Hid (psum xs xs.length < -1000000000000 ∨ 1000000000000 < psum xs xs.length)) (h : Ints w v xs) :
    Calls Try.prog 3 #[v] w fun e w' => e = .returned (.bool true) ∧ Below w.heap.size w w' := by
  obtain ⟨a, n, c, rfl, H⟩ := h.parts
  have hlen := Lib.hid H.len
  have hcap := H.cap
  have hmost := H.most
  unfold maxLen at hmost
  clear H
  by_cases hbig : 1048576 < n
  · go_enter Try.func3, Try.ntmps3
    go_wp2_with fail
    go_ret
    exact ⟨rfl, Below.refl _ _⟩
  · have hn : Hid (xs.length ≤ 1048576) := Lib.hid (by rw [hlen.out]; omega)
    go_enter Try.func3, Try.ntmps3
    go_wp2_with fail
    refine (copyInts h hn.out).mono ?_
    rintro e w1 ⟨v1, rfl, i1, b1⟩
    go_wp2_with fail
    refine (spec_SumOf_big hz KK.out i1).mono ?_
    rintro e w2 ⟨rfl, b2⟩
    have h2 := (h.below b1).below b2
    go_wp2_with fail
    refine (copyInts h2 hn.out).mono ?_
    rintro e w3 ⟨v3, rfl, i3, b3⟩
    go_wp2_with fail
    refine (impl_SumOf_big hz KK.out i3).mono ?_
    rintro e w4 ⟨rfl, b4⟩
    have h4 := (h2.below b3).below b4
    go_wp2_with fail
    refine (copyInts h4 hn.out).mono ?_
    rintro e w5 ⟨v5, rfl, i5, b5⟩
    go_wp2_with fail
    refine (eqInt64S_c ((i3.below b4).below b5) i5).mono ?_
    rintro e w' ⟨rfl, m6, rfl⟩
    go_wp2_with fail
    go_ret
    have l1 := b1.size
    have l2 := b2.size
    have l3 := b3.size
    have l4 := b4.size
    exact ⟨rfl, below_of_drewN (b1.trans ((b2.mono (by omega)).trans ((b3.mono (by omega)).trans ((b4.mono (by omega)).trans (b5.mono (by omega)))))) m6⟩
theorem wk_FnExactSumOf {v : Value} {xs : List Int} {w : World} (h : Ints w v xs) :
    Calls Try.prog 3 #[v] w fun e w' => e = .returned (.bool true) ∧ Below w.heap.size w w' := by
  by_cases hz : valsC xs = 0
  · by_cases k1 : -1000000000000 ≤ psum xs xs.length
    · by_cases k2 : psum xs xs.length ≤ 1000000000000
      · exact wk_FnExactSumOf_ok hz k1 k2 h
      · exact wk_FnExactSumOf_big hz (Lib.hid (by omega)) h
    · exact wk_FnExactSumOf_big hz (Lib.hid (by omega)) h
  · exact wk_FnExactSumOf_bad hz h
end Go.Proofs.Ytjlifphieieoeaa
