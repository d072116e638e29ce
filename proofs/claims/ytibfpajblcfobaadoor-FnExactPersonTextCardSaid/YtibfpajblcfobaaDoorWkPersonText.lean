/-
  The walk of FnExactPersonText.
  Conditions: each lemma names its own.
-/
import Derived.Test.YtibfpajblcfobaaDoorPerArg
import Derived.Test.YtibfpajblcfobaaDoorPerTI
namespace Go.Proofs.YtibfpajblcfobaaDoor
open Go.RowKit
set_option linter.unusedVariables false

set_option maxHeartbeats 1000000 in
theorem wk_FnExactPersonText (p : Per) (hp : PerFit p) {w : World} (hT : LbT w) :
    Calls Tryd.prog 3 #[perV p] w fun e w' => e = .returned (.bool true) ∧ Below w.heap.size w w' := by
  have HVp : Hid (perV p = .agg #[.int .i64 p.number, .string p.first, .string p.last, .int .i64 p.born, .int .i64 p.zone]) := Lib.hid rfl
  by_cases hs0 : szP (1048576) p < 0
  · rw [HVp.out]
    clear HVp
    have PA0 := perAt_new (w) p 23
    have BB : Below w.heap.size w (w.alloc (.cells #[.int .i64 p.number, .string p.first, .string p.last, .int .i64 p.born, .int .i64 p.zone] 23)) := (Below.refl _ _).alloc (by simp; try omega) _
    go_enter Tryd.func3, Tryd.ntmps3
    go_wp2_with fail
    refine (szPerson_c p hp (1048576) (by omega) (by have := szP_bd 1048576 p; omega) _).mono ?_
    rintro e w1 ⟨rfl, b1⟩
    replace PA0 := PA0.below b1
    replace BB := below_next BB (Nat.le_refl _) b1
    have PC0 := PA0
    obtain ⟨cb0, c00, c01, c02, c03, c04⟩ := PC0
    go_wp2_with fail
    clear c00 c01 c02 c03 c04 cb0
    go_ret
    exact ⟨rfl, BB⟩
  · have hb0 := szP_bd (1048576) p
    have SP := Lib.hid (spec_PersonText p hp)
    have IP := Lib.hid (fun (w : World) (hT : LbT w) => impl_PersonText p hp (w := w) hT)
    replace hT := Lib.hid hT
    generalize ptxS p = tx at *
    generalize ptxN p = cx at *
    rw [HVp.out]
    clear HVp
    have PA0 := perAt_new (w) p 23
    have BB : Below w.heap.size w (w.alloc (.cells #[.int .i64 p.number, .string p.first, .string p.last, .int .i64 p.born, .int .i64 p.zone] 23)) := (Below.refl _ _).alloc (by simp; try omega) _
    go_enter Tryd.func3, Tryd.ntmps3
    go_wp2_with fail
    refine (szPerson_c p hp (1048576) (by omega) (by omega) _).mono ?_
    rintro e w1 ⟨rfl, b1⟩
    replace PA0 := PA0.below b1
    replace BB := below_next BB (Nat.le_refl _) b1
    have PC0 := PA0
    obtain ⟨cb0, c00, c01, c02, c03, c04⟩ := PC0
    go_wp2_with fail
    clear c00 c01 c02 c03 c04 cb0
    refine (toPerson_c p _).mono ?_
    rintro e w2 ⟨rfl, b2⟩
    replace PA0 := PA0.below b2
    replace BB := below_next BB (Nat.le_refl _) b2
    have PC0 := PA0
    obtain ⟨cb0, c00, c01, c02, c03, c04⟩ := PC0
    go_wp2_with fail
    clear c00 c01 c02 c03 c04 cb0
    refine (SP.out _).mono ?_
    rintro e w3 ⟨rfl, b3⟩
    replace PA0 := PA0.below b3
    replace BB := below_next BB (Nat.le_refl _) b3
    have PC0 := PA0
    obtain ⟨cb0, c00, c01, c02, c03, c04⟩ := PC0
    go_wp2_with fail
    clear c00 c01 c02 c03 c04 cb0
    refine (toPerson_c p _).mono ?_
    rintro e w4 ⟨rfl, b4⟩
    replace PA0 := PA0.below b4
    replace BB := below_next BB (Nat.le_refl _) b4
    have PC0 := PA0
    obtain ⟨cb0, c00, c01, c02, c03, c04⟩ := PC0
    go_wp2_with fail
    clear c00 c01 c02 c03 c04 cb0
    refine (IP.out _ (hT.out.below BB)).mono ?_
    rintro e w5 ⟨rfl, b5⟩
    replace PA0 := PA0.below b5
    replace BB := below_next BB (Nat.le_refl _) b5
    have PC0 := PA0
    obtain ⟨cb0, c00, c01, c02, c03, c04⟩ := PC0
    go_wp2_with fail
    clear c00 c01 c02 c03 c04 cb0
    go_ret
    exact ⟨rfl, BB⟩
end Go.Proofs.YtibfpajblcfobaaDoor
