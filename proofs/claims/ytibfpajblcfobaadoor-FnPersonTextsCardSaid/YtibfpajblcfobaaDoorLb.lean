/-
  What the walks take of the library's variables, and how it is kept; the program's decimal numeral.
  Conditions: each lemma names its own.
-/
import Derived.Test.YtibfpajblcfobaaDoorDec
import Derived.Test.YtibfpajblcfobaaDoorShelf
import Derived.Lib.AppendIntMem
import Derived.WalkSmall
namespace Go.Proofs.YtibfpajblcfobaaDoor
open Go.RowKit
set_option linter.unusedVariables false

/-- The table of the powers of ten. -/
def LbT (w : World) : Prop := Lib.TabIs Tryd.prog w "internal/strconv.uint64pow10" .u64 Lib.pow10Tab
theorem gT : Tryd.prog.globalNamed "internal/strconv.uint64pow10" = some 1 := by kernel_rfl
theorem LbT.below {w w' : World} (h : LbT w) (hb : Below w.heap.size w w') : LbT w' := by
  have hc := Lib.TabIs.cell h gT 0 (by simp [Lib.pow10Tab])
  exact var?_below hb gT (World.block_lt_of_cell? w _ hc) h
/-- The cell that bounds a search. -/
def LbM (w : World) : Prop := ∃ m, w.cell? ⟨0, 0, none⟩ = some (.int .i64 m)
theorem LbM.below {w w' : World} (h : LbM w) (hb : Below w.heap.size w w') : LbM w' := by
  obtain ⟨m, hm⟩ := h
  exact ⟨m, (hb.cell (p := ⟨0, 0, none⟩) (World.block_lt_of_cell? w _ hm)).trans hm⟩
/-- The two errors of a parse. -/
def LbE (w : World) : Prop := (∃ ev, w.cell? ⟨2, 0, none⟩ = some ev ∧ (ev = .nilIface ∨ ∃ te pe, ev = .iface te pe)) ∧ (∃ ev, w.cell? ⟨3, 0, none⟩ = some ev ∧ (ev = .nilIface ∨ ∃ te pe, ev = .iface te pe))
theorem LbE.below {w w' : World} (h : LbE w) (hb : Below w.heap.size w w') : LbE w' := by
  obtain ⟨⟨e1, h1, k1⟩, e2, h2, k2⟩ := h
  exact ⟨⟨e1, (hb.cell (p := ⟨2, 0, none⟩) (World.block_lt_of_cell? w _ h1)).trans h1, k1⟩, e2, (hb.cell (p := ⟨3, 0, none⟩) (World.block_lt_of_cell? w _ h2)).trans h2, k2⟩

theorem itoB_size {v : Int} (h0 : -9223372036854775808 ≤ v) (h1 : v ≤ 9223372036854775807) : (itoB v).size ≤ 21 := by
  unfold itoB
  rw [mkB_size]
  exact Lib.itoa_length_le v h0 h1
set_option maxHeartbeats 1000000 in
theorem impl_decimal (v : Int) (h0 : -9223372036854775808 ≤ v) (h1 : v ≤ 9223372036854775807) {w : World} (hl : LbT w) : Calls Tryd.prog 20 #[.int .i64 v] w fun e w' => e = .returned (.string (itoB v)) ∧ Below w.heap.size w w' := by
  have HF := Lib.hid (Tryd.strconv_FormatInt_10 v h0 h1 w hl)
  clear hl
  go_enter Tryd.func20, Tryd.ntmps20
  go_wp2_with fail
  refine HF.out.mono ?_
  rintro e w1 ⟨rfl, k, os, hw⟩
  have b1 : Below w.heap.size w w1 := by rw [hw]; exact Lib.below_grow _ w (Nat.le_refl _) k os
  clear hw
  go_wp2_with fail
  go_ret
  exact ⟨rfl, b1⟩
end Go.Proofs.YtibfpajblcfobaaDoor
