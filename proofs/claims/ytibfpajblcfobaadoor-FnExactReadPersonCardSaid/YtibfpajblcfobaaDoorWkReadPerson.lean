/-
  The walk of FnExactReadPerson. Conditions: the library's variables read as they are laid.
-/
import Derived.Test.YtibfpajblcfobaaDoorPerRS
import Derived.Test.YtibfpajblcfobaaDoorPerRI
namespace Go.Proofs.YtibfpajblcfobaaDoor
open Go.RowKit
set_option linter.unusedVariables false

set_option maxHeartbeats 2000000 in
theorem eqPer_c (p : Per) (w : World) : Calls Tryd.prog 12 #[.agg #[.int .i64 p.number, .string p.first, .string p.last, .int .i64 p.born, .int .i64 p.zone], .agg #[.int .i64 p.number, .string p.first, .string p.last, .int .i64 p.born, .int .i64 p.zone]] w fun e w' => e = .returned (.bool true) ∧ Below w.heap.size w w' := by
  go_enter Tryd.func12, Tryd.ntmps12
  go_wp2
  go_ret
  exact ⟨rfl, by go_grown⟩
set_option maxRecDepth 100000 in
set_option maxHeartbeats 4000000 in
theorem wk_FnExactReadPerson (s : ByteArray) (hs : s.size ≤ 9223372036854775807) {w : World} (hM : LbM w) (hE : LbE w) (hT : LbT w) :
    Calls Tryd.prog 4 #[.string s] w fun e w' => e = .returned (.bool true) ∧ Below w.heap.size w w' := by
  by_cases hb : 1048576 < s.size
  · go_enter Tryd.func4, Tryd.ntmps4
    go_wp2_with fail
    go_ret
    exact ⟨rfl, by go_grown⟩
  · have SP := Lib.hid (fun (w : World) => spec_ReadPerson s (by omega) w)
    have IM := Lib.hid (fun (w : World) hM hE hT => impl_ReadPerson s (by omega) (w := w) hM hE hT)
    replace hM := Lib.hid hM
    replace hE := Lib.hid hE
    replace hT := Lib.hid hT
    go_enter Tryd.func4, Tryd.ntmps4
    go_wp2_with fail
    refine (SP.out _).mono ?_
    rintro e w1 ⟨p, c, rfl, R, BB⟩
    replace R := Lib.hid R
    unfold perV
    have PA := perAt_new w1 p 27
    have bx : Below w1.heap.size w1 (w1.alloc (.cells #[.int .i64 p.number, .string p.first, .string p.last, .int .i64 p.born, .int .i64 p.zone] 27)) := (Below.refl _ _).alloc (Nat.le_refl _) _
    replace BB := below_next BB (Nat.le_refl _) bx
    clear bx
    go_wp2_with fail
    generalize (w1.alloc (.cells #[.int .i64 p.number, .string p.first, .string p.last, .int .i64 p.born, .int .i64 p.zone] 27)) = v1 at *
    generalize w1.heap.size = pb at *
    refine (IM.out _ (hM.out.below BB) (hE.out.below BB) (hT.out.below BB)).mono ?_
    rintro e w2 ⟨q, d, rfl, R', b2⟩
    replace BB := below_next BB (Nat.le_refl _) b2
    replace PA := PA.below b2
    obtain ⟨e1, e2⟩ := rdPA_one R' R.out
    subst e1 e2
    clear R' b2
    unfold perV
    have PB := perAt_new w2 q 27
    have bx : Below w2.heap.size w2 (w2.alloc (.cells #[.int .i64 q.number, .string q.first, .string q.last, .int .i64 q.born, .int .i64 q.zone] 27)) := (Below.refl _ _).alloc (Nat.le_refl _) _
    replace BB := below_next BB (Nat.le_refl _) bx
    replace PA := PA.below bx
    clear bx
    obtain ⟨hpb, c0, c1, c2, c3, c4⟩ := PA
    obtain ⟨hqb, d0, d1, d2, d3, d4⟩ := PB
    go_wp2_with fail
    refine (eqPer_c q _).mono ?_
    rintro e w3 ⟨rfl, b3⟩
    replace BB := below_next BB (Nat.le_refl _) b3
    clear b3
    go_wp2_with fail
    go_ret
    exact ⟨rfl, BB⟩
end Go.Proofs.YtibfpajblcfobaaDoor
