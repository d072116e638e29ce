/-
  The walk of FnExactAreHolidays. Conditions: none but that the slice reads as numbers.
-/
import Derived.Test.YtkgmeafemjcfeaaInts
import Derived.Test.YtkgmeafemjcfeaaRises
namespace Go.Proofs.Ytkgmeafemjcfeaa
open Go.RowKit
set_option maxHeartbeats 400000 in
theorem wk_FnExactAreHolidays {v : Value} {xs : List Int} {w : World} (h : Ints w v xs) :
    Calls Try.prog 8 #[v] w fun e w' => e = .returned (.bool true) ∧ Below w.heap.size w w' := by
  obtain ⟨a, n, c, rfl, H⟩ := h.parts
  have hlen := Lib.hid H.len
  have hcap := H.cap
  have hmost := H.most
  unfold maxLen at hmost
  clear H
  by_cases hbig : 1048576 < n
  · go_enter Try.func8, Try.ntmps8
    go_wp2_with fail
    go_ret
    exact ⟨rfl, Below.refl _ _⟩
  · have hn : Hid (xs.length ≤ 1048576) := Lib.hid (by rw [hlen.out]; omega)
    go_enter Try.func8, Try.ntmps8
    go_wp2_with fail
    refine (copyInts h hn.out).mono ?_
    rintro e w1 ⟨v1, rfl, i1, b1⟩
    go_wp2_with fail
    refine (spec_AreHolidays i1).mono ?_
    rintro e w' ⟨rfl, m1, rfl⟩
    have h1 := (h.below b1).drewN m1
    go_wp2_with fail
    refine (copyInts h1 hn.out).mono ?_
    rintro e w2 ⟨v2, rfl, i2, b2⟩
    go_wp2_with fail
    refine (impl_AreHolidays i2).mono ?_
    rintro e w' ⟨rfl, m2, rfl⟩
    have h2 := (h1.below b2).drewN m2
    go_wp2_with fail
    refine (copyInts h2 hn.out).mono ?_
    rintro e w3 ⟨v3, rfl, i3, b3⟩
    go_wp2_with fail
    refine (eqInt64S_c ((i2.drewN m2).below b3) i3).mono ?_
    rintro e w' ⟨rfl, m3, rfl⟩
    go_wp2_with fail
    go_ret
    exact ⟨rfl, below_of_drewN (below_next (below_of_drewN (below_next (below_of_drewN b1 m1) (Nat.le_refl _) b2) m2) (Nat.le_refl _) b3) m3⟩
end Go.Proofs.Ytkgmeafemjcfeaa
