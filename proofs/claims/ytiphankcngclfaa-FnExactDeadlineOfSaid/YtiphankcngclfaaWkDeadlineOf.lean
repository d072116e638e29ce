/-
  The walk of FnExactDeadlineOf.
  Conditions: none but that the slice reads as numbers.
-/
import Derived.Test.YtiphankcngclfaaInts
import Derived.Test.YtiphankcngclfaaDayMore
namespace Go.Proofs.Ytiphankcngclfaa
open Go.RowKit
set_option linter.unusedVariables false

set_option maxHeartbeats 400000 in
theorem wk_FnExactDeadlineOf_bad {v : Value} {xs : List Int} (a1 : Int) (w1 : -9223372036854775808 ≤ a1 ∧ a1 ≤ 9223372036854775807) (a2 : Int) (w2 : -9223372036854775808 ≤ a2 ∧ a2 ≤ 9223372036854775807) {w : World} (hd : ¬ dcode xs [a1] = 0) (h : Ints w v xs) :
    Calls Try.prog 7 #[v, .int .i64 a1, .int .i64 a2] w fun e w' => e = .returned (.bool true) ∧ Below w.heap.size w w' := by
  obtain ⟨a, n, c, rfl, H⟩ := h.parts
  have hlen := Lib.hid H.len
  have hcap := H.cap
  have hmost := H.most
  unfold maxLen at hmost
  clear H
  by_cases hbig : 1048576 < n
  · go_enter Try.func7, Try.ntmps7
    go_wp2_with fail
    go_ret
    exact ⟨rfl, Below.refl _ _⟩
  · have hn : Hid (xs.length ≤ 1048576) := Lib.hid (by rw [hlen.out]; omega)
    go_enter Try.func7, Try.ntmps7
    go_wp2_with fail
    refine (copyInts h hn.out).mono ?_
    rintro e w1 ⟨v1, rfl, i1, b1⟩
    go_wp2_with fail
    refine (quiet_below (spec_DeadlineOf_bad a1 a2 hd i1)).mono ?_
    rintro e w2 ⟨rfl, b2⟩
    have h2 := (h.below b1).below b2
    go_wp2_with fail
    refine (copyInts h2 hn.out).mono ?_
    rintro e w3 ⟨v3, rfl, i3, b3⟩
    go_wp2_with fail
    refine (impl_DeadlineOf_bad a1 a2 hd i3).mono ?_
    rintro e w4 ⟨rfl, b4⟩
    have h4 := (h2.below b3).below b4
    go_wp2_with fail
    refine (copyInts h4 hn.out).mono ?_
    rintro e w5 ⟨v5, rfl, i5, b5⟩
    go_wp2_with fail
    refine (eqInt64S_c ((i3.below b4).below b5) i5).mono ?_
    rintro e w' ⟨rfl, m6, rfl⟩
    go_wp2_with fail
    go_ret
    have l1 := b1.size
    have l2 := b2.size
    have l3 := b3.size
    have l4 := b4.size
    exact ⟨rfl, below_of_drewN (b1.trans ((b2.mono (by omega)).trans ((b3.mono (by omega)).trans ((b4.mono (by omega)).trans (b5.mono (by omega)))))) m6⟩
set_option maxHeartbeats 400000 in
theorem wk_FnExactDeadlineOf_range {v : Value} {xs : List Int} (a1 : Int) (w1 : -9223372036854775808 ≤ a1 ∧ a1 ≤ 9223372036854775807) (a2 : Int) (w2 : -9223372036854775808 ≤ a2 ∧ a2 ≤ 9223372036854775807) {w : World} (hd : dcode xs [a1] = 0) (hn' : a2 < 0 ∨ 1000 < a2) (h : Ints w v xs) :
    Calls Try.prog 7 #[v, .int .i64 a1, .int .i64 a2] w fun e w' => e = .returned (.bool true) ∧ Below w.heap.size w w' := by
  obtain ⟨a, n, c, rfl, H⟩ := h.parts
  have hlen := Lib.hid H.len
  have hcap := H.cap
  have hmost := H.most
  unfold maxLen at hmost
  clear H
  by_cases hbig : 1048576 < n
  · go_enter Try.func7, Try.ntmps7
    go_wp2_with fail
    go_ret
    exact ⟨rfl, Below.refl _ _⟩
  · have hn : Hid (xs.length ≤ 1048576) := Lib.hid (by rw [hlen.out]; omega)
    go_enter Try.func7, Try.ntmps7
    go_wp2_with fail
    refine (copyInts h hn.out).mono ?_
    rintro e w1 ⟨v1, rfl, i1, b1⟩
    go_wp2_with fail
    refine (quiet_below (spec_DeadlineOf_range a1 a2 hd hn' i1)).mono ?_
    rintro e w2 ⟨rfl, b2⟩
    have h2 := (h.below b1).below b2
    go_wp2_with fail
    refine (copyInts h2 hn.out).mono ?_
    rintro e w3 ⟨v3, rfl, i3, b3⟩
    go_wp2_with fail
    refine (impl_DeadlineOf_range a1 a2 hd hn' i3).mono ?_
    rintro e w4 ⟨rfl, b4⟩
    have h4 := (h2.below b3).below b4
    go_wp2_with fail
    refine (copyInts h4 hn.out).mono ?_
    rintro e w5 ⟨v5, rfl, i5, b5⟩
    go_wp2_with fail
    refine (eqInt64S_c ((i3.below b4).below b5) i5).mono ?_
    rintro e w' ⟨rfl, m6, rfl⟩
    go_wp2_with fail
    go_ret
    have l1 := b1.size
    have l2 := b2.size
    have l3 := b3.size
    have l4 := b4.size
    exact ⟨rfl, below_of_drewN (b1.trans ((b2.mono (by omega)).trans ((b3.mono (by omega)).trans ((b4.mono (by omega)).trans (b5.mono (by omega)))))) m6⟩
set_option maxHeartbeats 400000 in
theorem wk_FnExactDeadlineOf_ok {v : Value} {xs : List Int} (a1 : Int) (w1 : -9223372036854775808 ≤ a1 ∧ a1 ≤ 9223372036854775807) (a2 : Int) (w2 : -9223372036854775808 ≤ a2 ∧ a2 ≤ 9223372036854775807) {w : World} (r : Int) (hd : dcode xs [a1] = 0) (hn0 : 0 ≤ a2) (hn1 : a2 ≤ 1000) (hr : NextIs xs (a1 + a2) r) (hrb : r ≤ 1000000) (hr20 : r ≤ 20000) (h : Ints w v xs) :
    Calls Try.prog 7 #[v, .int .i64 a1, .int .i64 a2] w fun e w' => e = .returned (.bool true) ∧ Below w.heap.size w w' := by
  obtain ⟨a, n, c, rfl, H⟩ := h.parts
  have hlen := Lib.hid H.len
  have hcap := H.cap
  have hmost := H.most
  unfold maxLen at hmost
  clear H
  by_cases hbig : 1048576 < n
  · go_enter Try.func7, Try.ntmps7
    go_wp2_with fail
    go_ret
    exact ⟨rfl, Below.refl _ _⟩
  · have hn : Hid (xs.length ≤ 1048576) := Lib.hid (by rw [hlen.out]; omega)
    go_enter Try.func7, Try.ntmps7
    go_wp2_with fail
    refine (copyInts h hn.out).mono ?_
    rintro e w1 ⟨v1, rfl, i1, b1⟩
    go_wp2_with fail
    refine (quiet_below (spec_DeadlineOf_ok a1 a2 r hd hn0 hn1 hr hrb hr20 i1)).mono ?_
    rintro e w2 ⟨rfl, b2⟩
    have h2 := (h.below b1).below b2
    go_wp2_with fail
    refine (copyInts h2 hn.out).mono ?_
    rintro e w3 ⟨v3, rfl, i3, b3⟩
    go_wp2_with fail
    refine (impl_DeadlineOf_ok a1 a2 r hd hn0 hn1 hr hrb hr20 i3).mono ?_
    rintro e w4 ⟨rfl, b4⟩
    have h4 := (h2.below b3).below b4
    go_wp2_with fail
    refine (copyInts h4 hn.out).mono ?_
    rintro e w5 ⟨v5, rfl, i5, b5⟩
    go_wp2_with fail
    refine (eqInt64S_c ((i3.below b4).below b5) i5).mono ?_
    rintro e w' ⟨rfl, m6, rfl⟩
    go_wp2_with fail
    go_ret
    have l1 := b1.size
    have l2 := b2.size
    have l3 := b3.size
    have l4 := b4.size
    exact ⟨rfl, below_of_drewN (b1.trans ((b2.mono (by omega)).trans ((b3.mono (by omega)).trans ((b4.mono (by omega)).trans (b5.mono (by omega)))))) m6⟩
set_option maxHeartbeats 400000 in
theorem wk_FnExactDeadlineOf_late {v : Value} {xs : List Int} (a1 : Int) (w1 : -9223372036854775808 ≤ a1 ∧ a1 ≤ 9223372036854775807) (a2 : Int) (w2 : -9223372036854775808 ≤ a2 ∧ a2 ≤ 9223372036854775807) {w : World} (r : Int) (hd : dcode xs [a1] = 0) (hn0 : 0 ≤ a2) (hn1 : a2 ≤ 1000) (hr : NextIs xs (a1 + a2) r) (hrb : r ≤ 1000000) (hr20 : 20000 < r) (h : Ints w v xs) :
    Calls Try.prog 7 #[v, .int .i64 a1, .int .i64 a2] w fun e w' => e = .returned (.bool true) ∧ Below w.heap.size w w' := by
  obtain ⟨a, n, c, rfl, H⟩ := h.parts
  have hlen := Lib.hid H.len
  have hcap := H.cap
  have hmost := H.most
  unfold maxLen at hmost
  clear H
  by_cases hbig : 1048576 < n
  · go_enter Try.func7, Try.ntmps7
    go_wp2_with fail
    go_ret
    exact ⟨rfl, Below.refl _ _⟩
  · have hn : Hid (xs.length ≤ 1048576) := Lib.hid (by rw [hlen.out]; omega)
    go_enter Try.func7, Try.ntmps7
    go_wp2_with fail
    refine (copyInts h hn.out).mono ?_
    rintro e w1 ⟨v1, rfl, i1, b1⟩
    go_wp2_with fail
    refine (quiet_below (spec_DeadlineOf_late a1 a2 r hd hn0 hn1 hr hrb hr20 i1)).mono ?_
    rintro e w2 ⟨rfl, b2⟩
    have h2 := (h.below b1).below b2
    go_wp2_with fail
    refine (copyInts h2 hn.out).mono ?_
    rintro e w3 ⟨v3, rfl, i3, b3⟩
    go_wp2_with fail
    refine (impl_DeadlineOf_late a1 a2 r hd hn0 hn1 hr hrb hr20 i3).mono ?_
    rintro e w4 ⟨rfl, b4⟩
    have h4 := (h2.below b3).below b4
    go_wp2_with fail
    refine (copyInts h4 hn.out).mono ?_
    rintro e w5 ⟨v5, rfl, i5, b5⟩
    go_wp2_with fail
    refine (eqInt64S_c ((i3.below b4).below b5) i5).mono ?_
    rintro e w' ⟨rfl, m6, rfl⟩
    go_wp2_with fail
    go_ret
    have l1 := b1.size
    have l2 := b2.size
    have l3 := b3.size
    have l4 := b4.size
    exact ⟨rfl, below_of_drewN (b1.trans ((b2.mono (by omega)).trans ((b3.mono (by omega)).trans ((b4.mono (by omega)).trans (b5.mono (by omega)))))) m6⟩
theorem wk_FnExactDeadlineOf {v : Value} {xs : List Int} (a1 : Int) (w1 : -9223372036854775808 ≤ a1 ∧ a1 ≤ 9223372036854775807) (a2 : Int) (w2 : -9223372036854775808 ≤ a2 ∧ a2 ≤ 9223372036854775807) {w : World} (h : Ints w v xs) :
    Calls Try.prog 7 #[v, .int .i64 a1, .int .i64 a2] w fun e w' => e = .returned (.bool true) ∧ Below w.heap.size w w' := by
  by_cases hd : dcode xs [a1] = 0
  · have hh := (dcode_ok.1 hd).1
    have hq := dcode_day hd
    by_cases hn : 0 ≤ a2 ∧ a2 ≤ 1000
    · have h0 : 0 ≤ a1 + a2 := by omega
      have hb := nextC_le hh h0
      by_cases hr : nextC xs (a1 + a2) ≤ 20000
      · exact wk_FnExactDeadlineOf_ok a1 w1 a2 w2 _ hd hn.1 hn.2 (nextC_is hh h0) (by omega) hr h
      · exact wk_FnExactDeadlineOf_late a1 w1 a2 w2 _ hd hn.1 hn.2 (nextC_is hh h0) (by omega) (by omega) h
    · exact wk_FnExactDeadlineOf_range a1 w1 a2 w2 hd (by omega) h
  · exact wk_FnExactDeadlineOf_bad a1 w1 a2 w2 hd h
end Go.Proofs.Ytiphankcngclfaa
