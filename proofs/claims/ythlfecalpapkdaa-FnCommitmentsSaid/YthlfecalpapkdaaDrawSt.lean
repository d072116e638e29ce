/-
  The draws of states and of numbers: l03State, DrawNextState, DrawNumberBelow, DrawShuffleNumbers, DrawStatesAfter, DrawSampleOf, DrawPlaceInShuffle, DrawCommitmentOf.
  Conditions: each lemma names its own.
-/
import Derived.Test.YthlfecalpapkdaaPick
namespace Go.Proofs.Ythlfecalpapkdaa
open Go.RowKit
set_option linter.unusedVariables false

/-- One, two, three numbers, drawn from a code. -/
def Ret1 (lo hi : Int) (w : World) (e : Ending) (w' : World) : Prop := ∃ x : Int, e = .returned (.int .i64 x) ∧ lo ≤ x ∧ x ≤ hi ∧ Below w.heap.size w w'
def Ret2 (lo hi lo2 hi2 : Int) (w : World) (e : Ending) (w' : World) : Prop := ∃ x y : Int, e = .returned (.tuple #[.int .i64 x, .int .i64 y]) ∧ (lo ≤ x ∧ x ≤ hi ∧ lo2 ≤ y ∧ y ≤ hi2) ∧ Below w.heap.size w w'
def Ret3 (lo hi lo2 hi2 lo3 hi3 : Int) (w : World) (e : Ending) (w' : World) : Prop := ∃ x y z : Int, e = .returned (.tuple #[.int .i64 x, .int .i64 y, .int .i64 z]) ∧ (lo ≤ x ∧ x ≤ hi ∧ lo2 ≤ y ∧ y ≤ hi2 ∧ lo3 ≤ z ∧ z ≤ hi3) ∧ Below w.heap.size w w'

set_option maxHeartbeats 1000000 in
theorem l03State_c {B g : Nat} {w : World} (h : Src B g w) : Calls Try.prog 59 #[.pointer (some ⟨g, 0, none⟩)] w (Got B g (-1) 2147483647 w) := by
  have hlt := h.lt
  have S := Lib.hid h
  have PP : Past g w w := Past.refl _ _
  clear h
  go_enter Try.func59, Try.ntmps59
  go_wp2_with fail
  refine (next_c S.out 2000000000 (by omega)).mono ?_
  rintro e w1 ⟨r1, rfl, ⟨a1, b1, z1⟩, S', p1⟩
  replace PP := PP.trans p1
  replace S := Lib.hid S'
  clear S'
  replace b1 := b1 (by omega)
  clear z1 p1
  go_wp2_with fail
  refine (next_c S.out 2000000000 (by omega)).mono ?_
  rintro e w2 ⟨r2, rfl, ⟨a2, b2, z2⟩, S', p2⟩
  replace PP := PP.trans p2
  replace S := Lib.hid S'
  clear S'
  replace b2 := b2 (by omega)
  clear z2 p2
  go_wp2_with fail
  refine (next_c S.out 1000 (by omega)).mono ?_
  rintro e w3 ⟨r3, rfl, ⟨a3, b3, z3⟩, S', p3⟩
  replace PP := PP.trans p3
  replace S := Lib.hid S'
  clear S'
  replace b3 := b3 (by omega)
  clear z3 p3
  go_wp2_with fail
  refine (next_c S.out 20 (by omega)).mono ?_
  rintro e w4 ⟨r4, rfl, ⟨a4, b4, z4⟩, S', p4⟩
  replace PP := PP.trans p4
  replace S := Lib.hid S'
  clear S'
  replace b4 := b4 (by omega)
  clear z4 p4
  have HN := Lib.hid (pick_new (T := 2) (cs := #[.int .i64 1, .int .i64 2, .int .i64 0, .int .i64 2147483647, .int .i64 (-1)]) [1, 2, 0, 2147483647, -1] (-1) 2147483647 S.out rfl rfl (by simp) (by simp) (by simp))
  go_wp2_with fail
  refine HN.out.mono ?_
  rintro e w5 ⟨r5, rfl, a5, b5, S', p5⟩
  clear HN
  replace PP := PP.trans p5
  replace S := Lib.hid S'
  clear S' p5
  go_wp2_with fail
  refine (next_c S.out 2000000000 (by omega)).mono ?_
  rintro e w6 ⟨r6, rfl, ⟨a6, b6, z6⟩, S', p6⟩
  replace PP := PP.trans p6
  replace S := Lib.hid S'
  clear S'
  replace b6 := b6 (by omega)
  clear z6 p6
  have HN := Lib.hid (pick_new (T := 2) (cs := #[.int .i64 (1 + r1), .int .i64 (1 + r2), .int .i64 (1 + r3), .int .i64 (2147483646 - r4 / 19), .int .i64 (r5), .int .i64 (1 + r6)]) [1 + r1, 1 + r2, 1 + r3, 2147483646 - r4 / 19, r5, 1 + r6] (-1) 2147483647 S.out rfl rfl (by simp) (by simp) (by simp; omega))
  go_wp2_with fail
  refine HN.out.mono ?_
  rintro e w7 ⟨r7, rfl, a7, b7, S', p7⟩
  clear HN
  replace PP := PP.trans p7
  replace S := Lib.hid S'
  clear S' p7
  go_wp2_with fail
  go_ret
  exact ⟨_, rfl, a7, b7, S.out, PP⟩
set_option maxHeartbeats 1000000 in
theorem DrawNextState_c {v : Value} {bs : List Int} {w : World} (h : Bytes w v bs) (hf : BytesFit bs) : Calls Try.prog 30 #[v] w (Ret1 (-1) 2147483647 w) := by
  have BB : Below w.heap.size w w := Below.refl _ _
  go_enter Try.func30, Try.ntmps30
  go_wp2_with fail
  refine (from_c (h.below BB) hf).mono ?_
  rintro e w1 ⟨g, rfl, S, b1⟩
  replace BB := below_next BB (Nat.le_refl _) b1
  replace S := Lib.hid S
  clear b1
  go_wp2_with fail
  refine (l03State_c S.out).mono ?_
  rintro e w2 ⟨x2, rfl, x2a, x2b, S', p2⟩
  replace BB := src_below BB S.out p2
  replace S := Lib.hid S'
  clear S' p2
  go_wp2_with fail
  go_ret
  exact ⟨_, rfl, x2a, x2b, BB⟩
set_option maxHeartbeats 1000000 in
theorem DrawNumberBelow_c {v : Value} {bs : List Int} {w : World} (h : Bytes w v bs) (hf : BytesFit bs) : Calls Try.prog 26 #[v] w (Ret2 (-1) 2147483647 0 1000001 w) := by
  have BB : Below w.heap.size w w := Below.refl _ _
  go_enter Try.func26, Try.ntmps26
  go_wp2_with fail
  refine (from_c (h.below BB) hf).mono ?_
  rintro e w1 ⟨g, rfl, S, b1⟩
  replace BB := below_next BB (Nat.le_refl _) b1
  replace S := Lib.hid S
  clear b1
  go_wp2_with fail
  refine (l03State_c S.out).mono ?_
  rintro e w2 ⟨x2, rfl, x2a, x2b, S', p2⟩
  replace BB := src_below BB S.out p2
  replace S := Lib.hid S'
  clear S' p2
  go_wp2_with fail
  refine (next_c S.out 12 (by omega)).mono ?_
  rintro e w3 ⟨r3, rfl, ⟨a3, b3, z3⟩, S', p3⟩
  replace BB := src_below BB S.out p3
  replace S := Lib.hid S'
  clear S'
  replace b3 := b3 (by omega)
  clear z3 p3
  go_wp2_with fail
  refine (next_c S.out 12 (by omega)).mono ?_
  rintro e w4 ⟨r4, rfl, ⟨a4, b4, z4⟩, S', p4⟩
  replace BB := src_below BB S.out p4
  replace S := Lib.hid S'
  clear S'
  replace b4 := b4 (by omega)
  clear z4 p4
  have HN := Lib.hid (pick_new (T := 2) (cs := #[.int .i64 1, .int .i64 (1 + r3), .int .i64 (1 + r4), .int .i64 1000000, .int .i64 1000001, .int .i64 0]) [1, 1 + r3, 1 + r4, 1000000, 1000001, 0] 0 1000001 S.out rfl rfl (by simp) (by simp) (by simp; omega))
  go_wp2_with fail
  refine HN.out.mono ?_
  rintro e w5 ⟨r5, rfl, a5, b5, S', p5⟩
  clear HN
  replace BB := src_below BB S.out p5
  replace S := Lib.hid S'
  clear S' p5
  go_wp2_with fail
  go_ret2
  exact ⟨_, _, rfl, ⟨x2a, x2b, a5, b5⟩, BB⟩
set_option maxHeartbeats 1000000 in
theorem DrawShuffleNumbers_c {v : Value} {bs : List Int} {w : World} (h : Bytes w v bs) (hf : BytesFit bs) : Calls Try.prog 35 #[v] w (Ret2 (-1) 2147483647 (-1) 201 w) := by
  have BB : Below w.heap.size w w := Below.refl _ _
  go_enter Try.func35, Try.ntmps35
  go_wp2_with fail
  refine (from_c (h.below BB) hf).mono ?_
  rintro e w1 ⟨g, rfl, S, b1⟩
  replace BB := below_next BB (Nat.le_refl _) b1
  replace S := Lib.hid S
  clear b1
  go_wp2_with fail
  refine (l03State_c S.out).mono ?_
  rintro e w2 ⟨x2, rfl, x2a, x2b, S', p2⟩
  replace BB := src_below BB S.out p2
  replace S := Lib.hid S'
  clear S' p2
  go_wp2_with fail
  refine (next_c S.out 12 (by omega)).mono ?_
  rintro e w3 ⟨r3, rfl, ⟨a3, b3, z3⟩, S', p3⟩
  replace BB := src_below BB S.out p3
  replace S := Lib.hid S'
  clear S'
  replace b3 := b3 (by omega)
  clear z3 p3
  go_wp2_with fail
  refine (next_c S.out 40 (by omega)).mono ?_
  rintro e w4 ⟨r4, rfl, ⟨a4, b4, z4⟩, S', p4⟩
  replace BB := src_below BB S.out p4
  replace S := Lib.hid S'
  clear S'
  replace b4 := b4 (by omega)
  clear z4 p4
  go_wp2_with fail
  refine (next_c S.out 12 (by omega)).mono ?_
  rintro e w5 ⟨r5, rfl, ⟨a5, b5, z5⟩, S', p5⟩
  replace BB := src_below BB S.out p5
  replace S := Lib.hid S'
  clear S'
  replace b5 := b5 (by omega)
  clear z5 p5
  have HN := Lib.hid (pick_new (T := 2) (cs := #[.int .i64 (r3), .int .i64 (r4), .int .i64 200, .int .i64 201, .int .i64 (-1), .int .i64 (r5)]) [r3, r4, 200, 201, -1, r5] (-1) 201 S.out rfl rfl (by simp) (by simp) (by simp; omega))
  go_wp2_with fail
  refine HN.out.mono ?_
  rintro e w6 ⟨r6, rfl, a6, b6, S', p6⟩
  clear HN
  replace BB := src_below BB S.out p6
  replace S := Lib.hid S'
  clear S' p6
  go_wp2_with fail
  go_ret2
  exact ⟨_, _, rfl, ⟨x2a, x2b, a6, b6⟩, BB⟩
set_option maxHeartbeats 1000000 in
theorem DrawStatesAfter_c {v : Value} {bs : List Int} {w : World} (h : Bytes w v bs) (hf : BytesFit bs) : Calls Try.prog 29 #[v] w (Ret2 (-1) 2147483647 (-1) 201 w) := by
  have BB : Below w.heap.size w w := Below.refl _ _
  go_enter Try.func29, Try.ntmps29
  go_wp2_with fail
  refine (DrawShuffleNumbers_c (h.below BB) hf).mono ?_
  rintro e w1 ⟨x1, y1, rfl, hx1, q1⟩
  replace BB := below_next BB (Nat.le_refl _) q1
  clear q1
  go_wp2_with fail
  go_ret2
  exact ⟨_, _, rfl, hx1, BB⟩
set_option maxHeartbeats 1000000 in
theorem DrawSampleOf_c {v : Value} {bs : List Int} {w : World} (h : Bytes w v bs) (hf : BytesFit bs) : Calls Try.prog 34 #[v] w (Ret3 (-1) 2147483647 (-1) 201 (-1) 202 w) := by
  have BB : Below w.heap.size w w := Below.refl _ _
  go_enter Try.func34, Try.ntmps34
  go_wp2_with fail
  refine (from_c (h.below BB) hf).mono ?_
  rintro e w1 ⟨g, rfl, S, b1⟩
  replace BB := below_next BB (Nat.le_refl _) b1
  replace S := Lib.hid S
  clear b1
  go_wp2_with fail
  refine (DrawShuffleNumbers_c (h.below BB) hf).mono ?_
  rintro e w2 ⟨x2, y2, rfl, ⟨c1, c2, c3, c4⟩, q2⟩
  replace BB := below_next BB (Nat.le_refl _) q2
  replace S := Lib.hid (S.out.below q2)
  clear q2
  rcases Int.lt_or_le 0 y2 with hy | hy
  · go_wp2_with fail
    refine (next_c S.out (y2 + 1) (by omega)).mono ?_
    rintro e w3 ⟨r3, rfl, ⟨a3, b3, z3⟩, S', p3⟩
    replace BB := src_below BB S.out p3
    replace S := Lib.hid S'
    clear S'
    replace b3 := b3 (by omega)
    clear z3 p3
    go_wp2_with fail
    refine (next_c S.out (y2 + 1) (by omega)).mono ?_
    rintro e w4 ⟨r4, rfl, ⟨a4, b4, z4⟩, S', p4⟩
    replace BB := src_below BB S.out p4
    replace S := Lib.hid S'
    clear S'
    replace b4 := b4 (by omega)
    clear z4 p4
    have HN := Lib.hid (pick_new (T := 2) (cs := #[.int .i64 (r3), .int .i64 (r4), .int .i64 (y2), .int .i64 (y2 + 1), .int .i64 (-1)]) [r3, r4, y2, y2 + 1, -1] (-1) 202 S.out rfl rfl (by simp) (by simp) (by simp; omega))
    go_wp2_with fail
    refine HN.out.mono ?_
    rintro e w5 ⟨r5, rfl, a5, b5, S', p5⟩
    clear HN
    replace BB := src_below BB S.out p5
    replace S := Lib.hid S'
    clear S' p5
    go_wp2_with fail
    go_ret3
    exact ⟨_, _, _, rfl, ⟨c1, c2, c3, c4, a5, b5⟩, BB⟩
  · go_wp2_with fail
    refine (next_c S.out 1 (by omega)).mono ?_
    rintro e w3 ⟨r3, rfl, ⟨a3, b3, z3⟩, S', p3⟩
    replace BB := src_below BB S.out p3
    replace S := Lib.hid S'
    clear S'
    replace b3 := b3 (by omega)
    clear z3 p3
    go_wp2_with fail
    refine (next_c S.out 1 (by omega)).mono ?_
    rintro e w4 ⟨r4, rfl, ⟨a4, b4, z4⟩, S', p4⟩
    replace BB := src_below BB S.out p4
    replace S := Lib.hid S'
    clear S'
    replace b4 := b4 (by omega)
    clear z4 p4
    have HN := Lib.hid (pick_new (T := 2) (cs := #[.int .i64 (r3), .int .i64 (r4), .int .i64 (y2), .int .i64 (y2 + 1), .int .i64 (-1)]) [r3, r4, y2, y2 + 1, -1] (-1) 202 S.out rfl rfl (by simp) (by simp) (by simp; omega))
    go_wp2_with fail
    refine HN.out.mono ?_
    rintro e w5 ⟨r5, rfl, a5, b5, S', p5⟩
    clear HN
    replace BB := src_below BB S.out p5
    replace S := Lib.hid S'
    clear S' p5
    go_wp2_with fail
    go_ret3
    exact ⟨_, _, _, rfl, ⟨c1, c2, c3, c4, a5, b5⟩, BB⟩
set_option maxHeartbeats 1000000 in
theorem DrawPlaceInShuffle_c {v : Value} {bs : List Int} {w : World} (h : Bytes w v bs) (hf : BytesFit bs) : Calls Try.prog 36 #[v] w (Ret3 (-1) 2147483647 (-1) 201 (-1) 202 w) := by
  have BB : Below w.heap.size w w := Below.refl _ _
  go_enter Try.func36, Try.ntmps36
  go_wp2_with fail
  refine (DrawSampleOf_c (h.below BB) hf).mono ?_
  rintro e w1 ⟨x1, y1, z1, rfl, hx1, q1⟩
  replace BB := below_next BB (Nat.le_refl _) q1
  clear q1
  go_wp2_with fail
  go_ret3
  exact ⟨_, _, _, rfl, hx1, BB⟩
set_option maxHeartbeats 1000000 in
theorem DrawCommitmentOf_c {v : Value} {bs : List Int} {w : World} (h : Bytes w v bs) (hf : BytesFit bs) : Calls Try.prog 39 #[v] w (Ret2 (-1) 2147483647 (-1) 2147483647 w) := by
  have BB : Below w.heap.size w w := Below.refl _ _
  go_enter Try.func39, Try.ntmps39
  go_wp2_with fail
  refine (from_c (h.below BB) hf).mono ?_
  rintro e w1 ⟨g, rfl, S, b1⟩
  replace BB := below_next BB (Nat.le_refl _) b1
  replace S := Lib.hid S
  clear b1
  go_wp2_with fail
  refine (l03State_c S.out).mono ?_
  rintro e w2 ⟨x2, rfl, x2a, x2b, S', p2⟩
  replace BB := src_below BB S.out p2
  replace S := Lib.hid S'
  clear S' p2
  go_wp2_with fail
  refine (next_c S.out 2000000000 (by omega)).mono ?_
  rintro e w3 ⟨r3, rfl, ⟨a3, b3, z3⟩, S', p3⟩
  replace BB := src_below BB S.out p3
  replace S := Lib.hid S'
  clear S'
  replace b3 := b3 (by omega)
  clear z3 p3
  go_wp2_with fail
  refine (next_c S.out 1000 (by omega)).mono ?_
  rintro e w4 ⟨r4, rfl, ⟨a4, b4, z4⟩, S', p4⟩
  replace BB := src_below BB S.out p4
  replace S := Lib.hid S'
  clear S'
  replace b4 := b4 (by omega)
  clear z4 p4
  have HN := Lib.hid (pick_new (T := 2) (cs := #[.int .i64 (r3), .int .i64 (r4), .int .i64 2147483646, .int .i64 2147483647, .int .i64 (-1), .int .i64 0]) [r3, r4, 2147483646, 2147483647, -1, 0] (-1) 2147483647 S.out rfl rfl (by simp) (by simp) (by simp; omega))
  go_wp2_with fail
  refine HN.out.mono ?_
  rintro e w5 ⟨r5, rfl, a5, b5, S', p5⟩
  clear HN
  replace BB := src_below BB S.out p5
  replace S := Lib.hid S'
  clear S' p5
  go_wp2_with fail
  go_ret2
  exact ⟨_, _, rfl, ⟨x2a, x2b, a5, b5⟩, BB⟩
end Go.Proofs.Ythlfecalpapkdaa
