/-
  The walk of FnExactIsRightDraw. Conditions: none but that the slice reads as numbers.
-/
import Derived.Test.YthlfecalpapkdaaRight
namespace Go.Proofs.Ythlfecalpapkdaa
open Go.RowKit
set_option linter.unusedVariables false

set_option maxHeartbeats 400000 in
theorem wk_FnExactIsRightDraw_ok (a0 : Int) (w0 : -9223372036854775808 ≤ a0 ∧ a0 ≤ 9223372036854775807) (a1 : Int) (w1 : -9223372036854775808 ≤ a1 ∧ a1 ≤ 9223372036854775807) (a2 : Int) (w2 : -9223372036854775808 ≤ a2 ∧ a2 ≤ 9223372036854775807) (q3 : Nat) {v : Value} {xs : List Int} {w : World} (k1 : 1 ≤ a1) (k2 : a1 ≤ 2147483646) (k3 : 0 ≤ a2) (k4 : a2 ≤ 2147483646) (hn' : q3 ≤ 200) (hl : xs.length ≤ q3) (h : Ints w v xs) :
    Calls Try.prog 7 #[.int .i64 a0, .int .i64 a1, .int .i64 a2, .int .i64 q3, v] w fun e w' => e = .returned (.bool true) ∧ Below w.heap.size w w' := by
  obtain ⟨a, n, c, rfl, H⟩ := h.parts
  have hlen := Lib.hid H.len
  have hcap := H.cap
  have hmost := H.most
  unfold maxLen at hmost
  clear H
  by_cases hbig : 1048576 < n
  · go_enter Try.func7, Try.ntmps7
    go_wp2_with fail
    go_ret
    exact ⟨rfl, Below.refl _ _⟩
  · have hn : Hid (xs.length ≤ 1048576) := Lib.hid (by rw [hlen.out]; omega)
    go_enter Try.func7, Try.ntmps7
    go_wp2_with fail
    refine (copyInts h hn.out).mono ?_
    rintro e w1 ⟨v1, rfl, i1, b1⟩
    go_wp2_with fail
    refine (spec_IsRightDraw_ok a0 a1 a2 q3 k1 k2 k3 k4 hn' hl i1).mono ?_
    rintro e w2 ⟨rfl, b2⟩
    have h2 := (h.below b1).below b2
    go_wp2_with fail
    refine (copyInts h2 hn.out).mono ?_
    rintro e w3 ⟨v3, rfl, i3, b3⟩
    go_wp2_with fail
    refine (impl_IsRightDraw_ok a0 a1 a2 q3 k1 k2 k3 k4 hn' hl i3).mono ?_
    rintro e w4 ⟨rfl, b4⟩
    have h4 := (h2.below b3).below b4
    go_wp2_with fail
    refine (copyInts h4 hn.out).mono ?_
    rintro e w5 ⟨v5, rfl, i5, b5⟩
    go_wp2_with fail
    refine (eqInt64S_c ((i3.below b4).below b5) i5).mono ?_
    rintro e w' ⟨rfl, m6, rfl⟩
    go_wp2_with fail
    go_ret
    have l1 := b1.size
    have l2 := b2.size
    have l3 := b3.size
    have l4 := b4.size
    exact ⟨rfl, below_of_drewN (b1.trans ((b2.mono (by omega)).trans ((b3.mono (by omega)).trans ((b4.mono (by omega)).trans (b5.mono (by omega)))))) m6⟩
set_option maxHeartbeats 400000 in
theorem wk_FnExactIsRightDraw_bad (a0 : Int) (w0 : -9223372036854775808 ≤ a0 ∧ a0 ≤ 9223372036854775807) (a1 : Int) (w1 : -9223372036854775808 ≤ a1 ∧ a1 ≤ 9223372036854775807) (a2 : Int) (w2 : -9223372036854775808 ≤ a2 ∧ a2 ≤ 9223372036854775807) (a3 : Int) (w3 : -9223372036854775808 ≤ a3 ∧ a3 ≤ 9223372036854775807) {v : Value} {xs : List Int} {w : World} (hb : ¬ ((((1 ≤ a1 ∧ a1 ≤ 2147483646) ∧ 0 ≤ a2 ∧ a2 ≤ 2147483646) ∧ 0 ≤ a3 ∧ a3 ≤ 200) ∧ (xs.length : Int) ≤ a3)) (h : Ints w v xs) :
    Calls Try.prog 7 #[.int .i64 a0, .int .i64 a1, .int .i64 a2, .int .i64 a3, v] w fun e w' => e = .returned (.bool true) ∧ Below w.heap.size w w' := by
  obtain ⟨a, n, c, rfl, H⟩ := h.parts
  have hlen := Lib.hid H.len
  have hcap := H.cap
  have hmost := H.most
  unfold maxLen at hmost
  clear H
  by_cases hbig : 1048576 < n
  · go_enter Try.func7, Try.ntmps7
    go_wp2_with fail
    go_ret
    exact ⟨rfl, Below.refl _ _⟩
  · have hn : Hid (xs.length ≤ 1048576) := Lib.hid (by rw [hlen.out]; omega)
    go_enter Try.func7, Try.ntmps7
    go_wp2_with fail
    refine (copyInts h hn.out).mono ?_
    rintro e w1 ⟨v1, rfl, i1, b1⟩
    go_wp2_with fail
    refine (spec_IsRightDraw_bad a0 a1 a2 a3 hb i1).mono ?_
    rintro e w2 ⟨rfl, b2⟩
    have h2 := (h.below b1).below b2
    go_wp2_with fail
    refine (copyInts h2 hn.out).mono ?_
    rintro e w3 ⟨v3, rfl, i3, b3⟩
    go_wp2_with fail
    refine (impl_IsRightDraw_bad a0 a1 a2 a3 hb i3).mono ?_
    rintro e w4 ⟨rfl, b4⟩
    have h4 := (h2.below b3).below b4
    go_wp2_with fail
    refine (copyInts h4 hn.out).mono ?_
    rintro e w5 ⟨v5, rfl, i5, b5⟩
    go_wp2_with fail
    refine (eqInt64S_c ((i3.below b4).below b5) i5).mono ?_
    rintro e w' ⟨rfl, m6, rfl⟩
    go_wp2_with fail
    go_ret
    have l1 := b1.size
    have l2 := b2.size
    have l3 := b3.size
    have l4 := b4.size
    exact ⟨rfl, below_of_drewN (b1.trans ((b2.mono (by omega)).trans ((b3.mono (by omega)).trans ((b4.mono (by omega)).trans (b5.mono (by omega)))))) m6⟩
theorem wk_FnExactIsRightDraw (a0 : Int) (w0 : -9223372036854775808 ≤ a0 ∧ a0 ≤ 9223372036854775807) (a1 : Int) (w1 : -9223372036854775808 ≤ a1 ∧ a1 ≤ 9223372036854775807) (a2 : Int) (w2 : -9223372036854775808 ≤ a2 ∧ a2 ≤ 9223372036854775807) (a3 : Int) (w3 : -9223372036854775808 ≤ a3 ∧ a3 ≤ 9223372036854775807) {v : Value} {xs : List Int} {w : World} (h : Ints w v xs) :
    Calls Try.prog 7 #[.int .i64 a0, .int .i64 a1, .int .i64 a2, .int .i64 a3, v] w fun e w' => e = .returned (.bool true) ∧ Below w.heap.size w w' := by
  by_cases hb : (((1 ≤ a1 ∧ a1 ≤ 2147483646) ∧ 0 ≤ a2 ∧ a2 ≤ 2147483646) ∧ 0 ≤ a3 ∧ a3 ≤ 200) ∧ (xs.length : Int) ≤ a3
  · obtain ⟨⟨⟨⟨h1, h2⟩, h3, h4⟩, h5, h6⟩, h7⟩ := hb
    obtain ⟨q, rfl⟩ := Int.eq_ofNat_of_zero_le h5
    exact wk_FnExactIsRightDraw_ok a0 w0 a1 w1 a2 w2 q h1 h2 h3 h4 (by omega) (by omega) h
  · exact wk_FnExactIsRightDraw_bad a0 w0 a1 w1 a2 w2 a3 w3 hb h
end Go.Proofs.Ythlfecalpapkdaa
