/-
  The walk of FnExactMostAlike. Conditions: none but that the slice reads as persons.
-/
import Derived.Test.YtiefdianomeepaaMost
import Derived.Deep.RegionHeld3
namespace Go.Proofs.Ytiefdianomeepaa
open Go.RowKit
set_option linter.unusedVariables false

theorem perAt_S {W0 w' : World} {g : Nat} {p : Per} (h : PerAt W0 g p) (b : Below W0.heap.size W0 w') :
    w'.cell? ⟨g, 0, none⟩ = some (.int .i64 p.number) ∧ w'.cell? ⟨g, 1, none⟩ = some (.string p.first) ∧ w'.cell? ⟨g, 2, none⟩ = some (.string p.last) ∧ w'.cell? ⟨g, 3, none⟩ = some (.int .i64 p.born) ∧ w'.cell? ⟨g, 4, none⟩ = some (.int .i64 p.zone) ∧ Hid (Below W0.heap.size W0 w') := by
  obtain ⟨_, h1, h2, h3, h4, h5⟩ := h.below b
  exact ⟨h1, h2, h3, h4, h5, Lib.hid b⟩
theorem heldB {W0 w' : World} (g : Nat) (p : Per) (h : w'.cell? ⟨g, 0, none⟩ = some (.int .i64 p.number) ∧ w'.cell? ⟨g, 1, none⟩ = some (.string p.first) ∧ w'.cell? ⟨g, 2, none⟩ = some (.string p.last) ∧ w'.cell? ⟨g, 3, none⟩ = some (.int .i64 p.born) ∧ w'.cell? ⟨g, 4, none⟩ = some (.int .i64 p.zone) ∧ Hid (Below W0.heap.size W0 w')) : Below W0.heap.size W0 w' := h.2.2.2.2.2.out
set_option maxHeartbeats 2000000 in
theorem wk_FnExactMostAlike {v : Value} {ps : List Per} {w : World} (h : Persons w v ps) (hp : PersFit ps) (p : Per) (hf : PerFit p) :
    Calls Try.prog 4 #[v, perV p] w fun e w' => e = .returned (.bool true) ∧ Below w.heap.size w w' := by
  have HV : Hid (perV p = .agg #[.int .i64 p.number, .string p.first, .string p.last, .int .i64 p.born, .int .i64 p.zone]) := Lib.hid rfl
  have PA := perAt_new w p 31
  have BB : Below w.heap.size w (w.alloc (.cells #[.int .i64 p.number, .string p.first, .string p.last, .int .i64 p.born, .int .i64 p.zone] 31)) := (Below.refl _ _).alloc (Nat.le_refl _) _
  replace h := h.alloc (.cells #[.int .i64 p.number, .string p.first, .string p.last, .int .i64 p.born, .int .i64 p.zone] 31)
  have HZ := szPersonS_c h hp 1048576 (by omega) (by omega)
  rw [HV.out]
  clear HV
  go_enter Try.func4, Try.ntmps4
  go_wp2_with fail
  refine HZ.mono ?_
  rintro e w1 ⟨r, rfl, hr, b1⟩
  clear HZ
  replace BB := below_next BB (Nat.le_refl _) b1
  replace PA := PA.below b1
  replace h := h.below b1
  rcases hr with rfl | ⟨hr0, hr1, hn⟩
  · go_wp2_with fail
    go_ret
    exact ⟨rfl, BB⟩
  · have hn' : ps.length ≤ 1048576 := by omega
    clear hn b1
    obtain ⟨cb, c0, c1, c2, c3, c4⟩ := id PA
    go_wp2_with fail
    refine (szPerson_l p hf r hr0 (by omega) _).mono ?_
    rintro e w2 ⟨rfl, b2⟩
    clear cb c0 c1 c2 c3 c4
    replace BB := below_next BB (Nat.le_refl _) b2
    replace PA := PA.below b2
    replace h := h.below b2
    generalize szP r p = r2
    by_cases q : r2 < 0
    · go_wp2_with fail
      go_ret
      exact ⟨rfl, BB⟩
    · clear b2
      obtain ⟨cb, c0, c1, c2, c3, c4⟩ := id PA
      have HH := Lib.hid h
      have PH := Lib.hid PA
      clear h PA
      go_wp2_with fail
      go_region_held3 (fun w' => w'.cell? ⟨w.heap.size, 0, none⟩ = some (.int .i64 p.number) ∧ w'.cell? ⟨w.heap.size, 1, none⟩ = some (.string p.first) ∧ w'.cell? ⟨w.heap.size, 2, none⟩ = some (.string p.last) ∧ w'.cell? ⟨w.heap.size, 3, none⟩ = some (.int .i64 p.born) ∧ w'.cell? ⟨w.heap.size, 4, none⟩ = some (.int .i64 p.zone) ∧ Hid (Below w2.heap.size w2 w'))
        (first | exact perAt_S PH.out (by assumption) | exact perAt_S PH.out (Below.refl _ _).drew)
        (first
          | (go_at_call 10; refine (copyPersons (HH.out.below (heldB w.heap.size p (by assumption))) hn').mono ?_; rintro e w3 ⟨v3, rfl, i3, b3⟩; have b4 := below_next (heldB (W0 := w2) w.heap.size p (by assumption)) (Nat.le_refl _) b3)
          | (go_at_call 15; refine (toPerson_l p _).mono ?_; rintro e w5 ⟨rfl, b5⟩; have b6 := below_next (heldB (W0 := w2) w.heap.size p (by assumption)) (Nat.le_refl _) b5)
          | (go_at_call 14; refine (spec_Most (i3.below b5) hp p hf).mono ?_; rintro e w7 ⟨rfl, b7⟩; have b8 := below_next (heldB (W0 := w2) w.heap.size p (by assumption)) (Nat.le_refl _) b7))
      replace BB := below_next BB (Nat.le_refl _) b8
      have h := HH.out.below b8
      have PA := PH.out.below b8
      clear b3 b4 b5 b6 b7 b8 i3 HH PH cb c0 c1 c2 c3 c4
      go_wp2_with fail
      refine (copyPersons h hn').mono ?_
      rintro e wa ⟨va, rfl, ia, ba⟩
      replace BB := below_next BB (Nat.le_refl _) ba
      replace h := h.below ba
      replace PA := PA.below ba
      obtain ⟨cb, c0, c1, c2, c3, c4⟩ := id PA
      go_wp2_with fail
      refine (toPerson_l p _).mono ?_
      rintro e wb ⟨rfl, bb⟩
      replace BB := below_next BB (Nat.le_refl _) bb
      replace h := h.below bb
      replace ia := ia.below bb
      clear cb c0 c1 c2 c3 c4 PA
      go_wp2_with fail
      refine (impl_Most ia hp p hf).mono ?_
      rintro e wc ⟨rfl, bc⟩
      replace BB := below_next BB (Nat.le_refl _) bc
      replace h := h.below bc
      replace ia := ia.below bc
      go_wp2_with fail
      refine (copyPersons h hn').mono ?_
      rintro e wd ⟨vd, rfl, id, bd⟩
      replace BB := below_next BB (Nat.le_refl _) bd
      replace ia := ia.below bd
      go_wp2_with fail
      refine (eqPersonS_same ia id).mono ?_
      rintro e we ⟨rfl, be⟩
      replace BB := below_next BB (Nat.le_refl _) be
      go_wp2_with fail
      go_ret
      exact ⟨rfl, BB⟩
end Go.Proofs.Ytiefdianomeepaa
