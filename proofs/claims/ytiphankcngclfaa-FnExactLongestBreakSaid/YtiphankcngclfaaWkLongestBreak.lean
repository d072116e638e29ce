/-
  The walk of FnExactLongestBreak.
  Conditions: none but that the slice reads as numbers.
-/
import Derived.Test.YtiphankcngclfaaInts
import Derived.Test.YtiphankcngclfaaDayBreak
namespace Go.Proofs.Ytiphankcngclfaa
open Go.RowKit
set_option linter.unusedVariables false

set_option maxHeartbeats 400000 in
theorem wk_FnExactLongestBreak_bad {v : Value} {xs : List Int} (a1 : Int) (w1 : -9223372036854775808 ≤ a1 ∧ a1 ≤ 9223372036854775807) (a2 : Int) (w2 : -9223372036854775808 ≤ a2 ∧ a2 ≤ 9223372036854775807) {w : World} (hd : ¬ dcode xs [a1, a2] = 0) (h : Ints w v xs) :
    Calls Try.prog 8 #[v, .int .i64 a1, .int .i64 a2] w fun e w' => e = .returned (.bool true) ∧ Below w.heap.size w w' := by
  obtain ⟨a, n, c, rfl, H⟩ := h.parts
  have hlen := Lib.hid H.len
  have hcap := H.cap
  have hmost := H.most
  unfold maxLen at hmost
  clear H
  by_cases hbig : 1048576 < n
  · go_enter Try.func8, Try.ntmps8
    go_wp2_with fail
    go_ret
    exact ⟨rfl, Below.refl _ _⟩
  · have hn : Hid (xs.length ≤ 1048576) := Lib.hid (by rw [hlen.out]; omega)
    go_enter Try.func8, Try.ntmps8
    go_wp2_with fail
    refine (copyInts h hn.out).mono ?_
    rintro e w1 ⟨v1, rfl, i1, b1⟩
    go_wp2_with fail
    refine (quiet_below (spec_LongestBreak_bad a1 a2 hd i1)).mono ?_
    rintro e w2 ⟨rfl, b2⟩
    have h2 := (h.below b1).below b2
    go_wp2_with fail
    refine (copyInts h2 hn.out).mono ?_
    rintro e w3 ⟨v3, rfl, i3, b3⟩
    go_wp2_with fail
    refine (impl_LongestBreak_bad a1 a2 hd i3).mono ?_
    rintro e w4 ⟨rfl, b4⟩
    have h4 := (h2.below b3).below b4
    go_wp2_with fail
    refine (copyInts h4 hn.out).mono ?_
    rintro e w5 ⟨v5, rfl, i5, b5⟩
    go_wp2_with fail
    refine (eqInt64S_c ((i3.below b4).below b5) i5).mono ?_
    rintro e w' ⟨rfl, m6, rfl⟩
    go_wp2_with fail
    go_ret
    have l1 := b1.size
    have l2 := b2.size
    have l3 := b3.size
    have l4 := b4.size
    exact ⟨rfl, below_of_drewN (b1.trans ((b2.mono (by omega)).trans ((b3.mono (by omega)).trans ((b4.mono (by omega)).trans (b5.mono (by omega)))))) m6⟩
set_option maxHeartbeats 400000 in
theorem wk_FnExactLongestBreak_range {v : Value} {xs : List Int} (a1 : Int) (w1 : -9223372036854775808 ≤ a1 ∧ a1 ≤ 9223372036854775807) (a2 : Int) (w2 : -9223372036854775808 ≤ a2 ∧ a2 ≤ 9223372036854775807) {w : World} (hd : dcode xs [a1, a2] = 0) (hn' : a2 - a1 < 0 ∨ 999 < a2 - a1) (h : Ints w v xs) :
    Calls Try.prog 8 #[v, .int .i64 a1, .int .i64 a2] w fun e w' => e = .returned (.bool true) ∧ Below w.heap.size w w' := by
  obtain ⟨a, n, c, rfl, H⟩ := h.parts
  have hlen := Lib.hid H.len
  have hcap := H.cap
  have hmost := H.most
  unfold maxLen at hmost
  clear H
  by_cases hbig : 1048576 < n
  · go_enter Try.func8, Try.ntmps8
    go_wp2_with fail
    go_ret
    exact ⟨rfl, Below.refl _ _⟩
  · have hn : Hid (xs.length ≤ 1048576) := Lib.hid (by rw [hlen.out]; omega)
    go_enter Try.func8, Try.ntmps8
    go_wp2_with fail
    refine (copyInts h hn.out).mono ?_
    rintro e w1 ⟨v1, rfl, i1, b1⟩
    go_wp2_with fail
    refine (quiet_below (spec_LongestBreak_range a1 a2 hd hn' i1)).mono ?_
    rintro e w2 ⟨rfl, b2⟩
    have h2 := (h.below b1).below b2
    go_wp2_with fail
    refine (copyInts h2 hn.out).mono ?_
    rintro e w3 ⟨v3, rfl, i3, b3⟩
    go_wp2_with fail
    refine (impl_LongestBreak_range a1 a2 hd hn' i3).mono ?_
    rintro e w4 ⟨rfl, b4⟩
    have h4 := (h2.below b3).below b4
    go_wp2_with fail
    refine (copyInts h4 hn.out).mono ?_
    rintro e w5 ⟨v5, rfl, i5, b5⟩
    go_wp2_with fail
    refine (eqInt64S_c ((i3.below b4).below b5) i5).mono ?_
    rintro e w' ⟨rfl, m6, rfl⟩
    go_wp2_with fail
    go_ret
    have l1 := b1.size
    have l2 := b2.size
    have l3 := b3.size
    have l4 := b4.size
    exact ⟨rfl, below_of_drewN (b1.trans ((b2.mono (by omega)).trans ((b3.mono (by omega)).trans ((b4.mono (by omega)).trans (b5.mono (by omega)))))) m6⟩
set_option maxHeartbeats 400000 in
theorem wk_FnExactLongestBreak_none {v : Value} {xs : List Int} (a1 : Int) (w1 : -9223372036854775808 ≤ a1 ∧ a1 ≤ 9223372036854775807) (a2 : Int) (w2 : -9223372036854775808 ≤ a2 ∧ a2 ≤ 9223372036854775807) {w : World} (hd : dcode xs [a1, a2] = 0) (hn0 : 0 ≤ a2 - a1) (hn1 : a2 - a1 ≤ 999) (hm : (brkC xs a1 (a2 - a1 + 1).toNat).2.2 = 0) (h : Ints w v xs) :
    Calls Try.prog 8 #[v, .int .i64 a1, .int .i64 a2] w fun e w' => e = .returned (.bool true) ∧ Below w.heap.size w w' := by
  obtain ⟨a, n, c, rfl, H⟩ := h.parts
  have hlen := Lib.hid H.len
  have hcap := H.cap
  have hmost := H.most
  unfold maxLen at hmost
  clear H
  by_cases hbig : 1048576 < n
  · go_enter Try.func8, Try.ntmps8
    go_wp2_with fail
    go_ret
    exact ⟨rfl, Below.refl _ _⟩
  · have hn : Hid (xs.length ≤ 1048576) := Lib.hid (by rw [hlen.out]; omega)
    go_enter Try.func8, Try.ntmps8
    go_wp2_with fail
    refine (copyInts h hn.out).mono ?_
    rintro e w1 ⟨v1, rfl, i1, b1⟩
    go_wp2_with fail
    refine (quiet_below (spec_LongestBreak_none a1 a2 hd hn0 hn1 hm i1)).mono ?_
    rintro e w2 ⟨rfl, b2⟩
    have h2 := (h.below b1).below b2
    go_wp2_with fail
    refine (copyInts h2 hn.out).mono ?_
    rintro e w3 ⟨v3, rfl, i3, b3⟩
    go_wp2_with fail
    refine (impl_LongestBreak_none a1 a2 hd hn0 hn1 hm i3).mono ?_
    rintro e w4 ⟨rfl, b4⟩
    have h4 := (h2.below b3).below b4
    go_wp2_with fail
    refine (copyInts h4 hn.out).mono ?_
    rintro e w5 ⟨v5, rfl, i5, b5⟩
    go_wp2_with fail
    refine (eqInt64S_c ((i3.below b4).below b5) i5).mono ?_
    rintro e w' ⟨rfl, m6, rfl⟩
    go_wp2_with fail
    go_ret
    have l1 := b1.size
    have l2 := b2.size
    have l3 := b3.size
    have l4 := b4.size
    exact ⟨rfl, below_of_drewN (b1.trans ((b2.mono (by omega)).trans ((b3.mono (by omega)).trans ((b4.mono (by omega)).trans (b5.mono (by omega)))))) m6⟩
set_option maxHeartbeats 400000 in
theorem wk_FnExactLongestBreak_ok {v : Value} {xs : List Int} (a1 : Int) (w1 : -9223372036854775808 ≤ a1 ∧ a1 ≤ 9223372036854775807) (a2 : Int) (w2 : -9223372036854775808 ≤ a2 ∧ a2 ≤ 9223372036854775807) {w : World} (hd : dcode xs [a1, a2] = 0) (hn0 : 0 ≤ a2 - a1) (hn1 : a2 - a1 ≤ 999) (hm : ¬ (brkC xs a1 (a2 - a1 + 1).toNat).2.2 = 0) (h : Ints w v xs) :
    Calls Try.prog 8 #[v, .int .i64 a1, .int .i64 a2] w fun e w' => e = .returned (.bool true) ∧ Below w.heap.size w w' := by
  obtain ⟨a, n, c, rfl, H⟩ := h.parts
  have hlen := Lib.hid H.len
  have hcap := H.cap
  have hmost := H.most
  unfold maxLen at hmost
  clear H
  by_cases hbig : 1048576 < n
  · go_enter Try.func8, Try.ntmps8
    go_wp2_with fail
    go_ret
    exact ⟨rfl, Below.refl _ _⟩
  · have hn : Hid (xs.length ≤ 1048576) := Lib.hid (by rw [hlen.out]; omega)
    go_enter Try.func8, Try.ntmps8
    go_wp2_with fail
    refine (copyInts h hn.out).mono ?_
    rintro e w1 ⟨v1, rfl, i1, b1⟩
    go_wp2_with fail
    refine (quiet_below (spec_LongestBreak_ok a1 a2 hd hn0 hn1 hm i1)).mono ?_
    rintro e w2 ⟨rfl, b2⟩
    have h2 := (h.below b1).below b2
    go_wp2_with fail
    refine (copyInts h2 hn.out).mono ?_
    rintro e w3 ⟨v3, rfl, i3, b3⟩
    go_wp2_with fail
    refine (impl_LongestBreak_ok a1 a2 hd hn0 hn1 hm i3).mono ?_
    rintro e w4 ⟨rfl, b4⟩
    have h4 := (h2.below b3).below b4
    go_wp2_with fail
    refine (copyInts h4 hn.out).mono ?_
    rintro e w5 ⟨v5, rfl, i5, b5⟩
    go_wp2_with fail
    refine (eqInt64S_c ((i3.below b4).below b5) i5).mono ?_
    rintro e w' ⟨rfl, m6, rfl⟩
    go_wp2_with fail
    go_ret
    have l1 := b1.size
    have l2 := b2.size
    have l3 := b3.size
    have l4 := b4.size
    exact ⟨rfl, below_of_drewN (b1.trans ((b2.mono (by omega)).trans ((b3.mono (by omega)).trans ((b4.mono (by omega)).trans (b5.mono (by omega)))))) m6⟩
theorem wk_FnExactLongestBreak {v : Value} {xs : List Int} (a1 : Int) (w1 : -9223372036854775808 ≤ a1 ∧ a1 ≤ 9223372036854775807) (a2 : Int) (w2 : -9223372036854775808 ≤ a2 ∧ a2 ≤ 9223372036854775807) {w : World} (h : Ints w v xs) :
    Calls Try.prog 8 #[v, .int .i64 a1, .int .i64 a2] w fun e w' => e = .returned (.bool true) ∧ Below w.heap.size w w' := by
  by_cases hd : dcode xs [a1, a2] = 0
  · by_cases hn : 0 ≤ a2 - a1 ∧ a2 - a1 ≤ 999
    · by_cases hm : (brkC xs a1 (a2 - a1 + 1).toNat).2.2 = 0
      · exact wk_FnExactLongestBreak_none a1 w1 a2 w2 hd hn.1 hn.2 hm h
      · exact wk_FnExactLongestBreak_ok a1 w1 a2 w2 hd hn.1 hn.2 hm h
    · exact wk_FnExactLongestBreak_range a1 w1 a2 w2 hd (by omega) h
  · exact wk_FnExactLongestBreak_bad a1 w1 a2 w2 hd h
end Go.Proofs.Ytiphankcngclfaa
