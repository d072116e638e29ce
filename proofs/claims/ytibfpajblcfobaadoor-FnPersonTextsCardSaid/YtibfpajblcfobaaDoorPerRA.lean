/-
  ReadPerson, the program's and the reference's.
  Conditions: each lemma names its own.
-/
import Derived.Test.YtibfpajblcfobaaDoorPerR
namespace Go.Proofs.YtibfpajblcfobaaDoor
open Go.RowKit
set_option linter.unusedVariables false

/-- Five texts in a row. -/
def FiveC (w : World) (b o : Nat) (w0 w1 w2 w3 w4 : ByteArray) : Prop := b < w.heap.size ∧ w.cell? ⟨b, o, none⟩ = some (.string w0) ∧ w.cell? ⟨b, o + 1, none⟩ = some (.string w1) ∧ w.cell? ⟨b, o + 2, none⟩ = some (.string w2) ∧ w.cell? ⟨b, o + 3, none⟩ = some (.string w3) ∧ w.cell? ⟨b, o + 4, none⟩ = some (.string w4)
theorem FiveC.below {w w' : World} {b o : Nat} {w0 w1 w2 w3 w4 : ByteArray} (h : FiveC w b o w0 w1 w2 w3 w4) (hb : Below w.heap.size w w') : FiveC w' b o w0 w1 w2 w3 w4 := by
  obtain ⟨h0, h1, h2, h3, h4, h5⟩ := h
  exact ⟨Nat.lt_of_lt_of_le h0 hb.size, (hb.cell (p := ⟨b, o, none⟩) h0).trans h1, (hb.cell (p := ⟨b, o + 1, none⟩) h0).trans h2, (hb.cell (p := ⟨b, o + 2, none⟩) h0).trans h3, (hb.cell (p := ⟨b, o + 3, none⟩) h0).trans h4, (hb.cell (p := ⟨b, o + 4, none⟩) h0).trans h5⟩
theorem five_cells {w : World} {v : Value} {w0 w1 w2 w3 w4 : ByteArray} (h : Strs w v [w0, w1, w2, w3, w4]) : ∃ b o c, v = .slice (some ⟨b, o, none⟩) 5 c ∧ 5 ≤ c ∧ FiveC w b o w0 w1 w2 w3 w4 := by
  obtain ⟨a, n, c, rfl, H⟩ := h.parts
  obtain rfl : n = 5 := by rw [← H.len]; rfl
  obtain ⟨b, o, rfl, hb, hc⟩ := H.cells (by omega)
  exact ⟨b, o, c, rfl, H.cap, hb, hc 0 _ rfl, hc 1 _ rfl, hc 2 _ rfl, hc 3 _ rfl, hc 4 _ rfl⟩
theorem len_ne {w : World} {v : Value} {ss : List ByteArray} (h : Strs w v ss) : ∃ a n c, v = .slice a n c ∧ ss.length = n := by
  obtain ⟨a, n, c, rfl, H⟩ := h.parts
  exact ⟨a, n, c, rfl, H.len⟩
/-- The cell of the result. -/
def ResAt (w : World) (b : Nat) : Prop := w.heap[b]? = some (.cells #[.int .i64 0, .string ⟨#[]⟩, .string ⟨#[]⟩, .int .i64 0, .int .i64 0] 27)
theorem ResAt.below {w w' : World} {b : Nat} (h : ResAt w b) (hb : Below w.heap.size w w') : ResAt w' b := (hb.block b (Array.getElem?_eq_some_iff.1 h).1).trans h
theorem ResAt.per {w : World} {b : Nat} (h : ResAt w b) : PerAt w b per0 := by
  refine ⟨(Array.getElem?_eq_some_iff.1 h).1, ?_, ?_, ?_, ?_, ?_⟩ <;> rw [cell_of_row _ _ _ _ _ _ h] <;> rfl
theorem ResAt.free {w : World} {b : Nat} (h : ResAt w b) (j : Nat) : w.frozen? ⟨b, j, none⟩ = false := by
  unfold World.frozen?
  rw [show w.heap[(⟨b, j, none⟩ : Addr).block]? = _ from h]
  simp
/-- A person stored, cell by cell. -/
def setPer (w : World) (b : Nat) (p : Per) : World := ((((w.setCell ⟨b, 0, none⟩ (.int .i64 p.number)).setCell ⟨b, 1, none⟩ (.string p.first)).setCell ⟨b, 2, none⟩ (.string p.last)).setCell ⟨b, 3, none⟩ (.int .i64 p.born)).setCell ⟨b, 4, none⟩ (.int .i64 p.zone)
theorem setPer_at {w : World} {b : Nat} {q : Per} (p : Per) (h : PerAt w b q) : PerAt (setPer w b p) b p := by
  obtain ⟨h0, h1, h2, h3, h4, h5⟩ := h
  have ne : ∀ i j : Nat, i ≠ j → (⟨b, i, none⟩ : Addr) ≠ ⟨b, j, none⟩ := fun i j hij e => by injection e with _ e; exact hij e
  unfold setPer
  refine ⟨by simp [World.setCell]; exact h0, ?_, ?_, ?_, ?_, ?_⟩
  · rw [World.cell?_setCell_other (h := ne 4 0 (by decide)), World.cell?_setCell_other (h := ne 3 0 (by decide)), World.cell?_setCell_other (h := ne 2 0 (by decide)), World.cell?_setCell_other (h := ne 1 0 (by decide)), World.cell?_setCell_same (h := h1)]
  · rw [World.cell?_setCell_other (h := ne 4 1 (by decide)), World.cell?_setCell_other (h := ne 3 1 (by decide)), World.cell?_setCell_other (h := ne 2 1 (by decide)), World.cell?_setCell_same (u := .string q.first) (h := by rw [World.cell?_setCell_other (h := ne 0 1 (by decide)), h2])]
  · rw [World.cell?_setCell_other (h := ne 4 2 (by decide)), World.cell?_setCell_other (h := ne 3 2 (by decide)), World.cell?_setCell_same (u := .string q.last) (h := by rw [World.cell?_setCell_other (h := ne 1 2 (by decide)), World.cell?_setCell_other (h := ne 0 2 (by decide)), h3])]
  · rw [World.cell?_setCell_other (h := ne 4 3 (by decide)), World.cell?_setCell_same (u := .int .i64 q.born) (h := by rw [World.cell?_setCell_other (h := ne 2 3 (by decide)), World.cell?_setCell_other (h := ne 1 3 (by decide)), World.cell?_setCell_other (h := ne 0 3 (by decide)), h4])]
  · rw [World.cell?_setCell_same (u := .int .i64 q.zone) (h := by rw [World.cell?_setCell_other (h := ne 3 4 (by decide)), World.cell?_setCell_other (h := ne 2 4 (by decide)), World.cell?_setCell_other (h := ne 1 4 (by decide)), World.cell?_setCell_other (h := ne 0 4 (by decide)), h5])]
theorem setPer_below {B b : Nat} {a w : World} (p : Per) (h : Below B a w) (hb : B ≤ b) : Below B a (setPer w b p) := by
  unfold setPer
  exact ((((h.setCell (p := ⟨b, 0, none⟩) hb _).setCell (p := ⟨b, 1, none⟩) hb _).setCell (p := ⟨b, 2, none⟩) hb _).setCell (p := ⟨b, 3, none⟩) hb _).setCell (p := ⟨b, 4, none⟩) hb _
/-- What a reader of one number hands back. -/
def RdNum (t : ByteArray) (w : World) (e : Ending) (w' : World) : Prop := ∃ (n : Int) (ok : Bool), e = .returned (.tuple #[.int .i64 n, .bool ok]) ∧ RdOk t n ok ∧ (-9223372036854775808 ≤ n ∧ n ≤ 9223372036854775807) ∧ Below w.heap.size w w'
theorem spec_num (t : ByteArray) (ht : t.size ≤ 1048576) (w : World) : Calls Tryd.prog 22 #[.string t] w (RdNum t w) :=
  (spec_value t (by omega) w).mono fun e w' ⟨r, ok, he, hr, hv, hb⟩ => ⟨r, ok, he, rdOk_val hv, ⟨by omega, by omega⟩, hb⟩
theorem impl_num (t : ByteArray) (ht : t.size ≤ 1048576) {w : World} (hE : LbE w) (hT : LbT w) : Calls Tryd.prog 24 #[.string t] w (RdNum t w) :=
  (impl_readDecimal t (by omega) hE hT).mono fun e w' ⟨hb, h⟩ => by
    rcases h with ⟨v, hv, he⟩ | ⟨hv, he⟩
    · exact ⟨v, true, he, rdOk_dec hv, (decOf_iff.1 hv).2, hb⟩
    · exact ⟨0, false, he, rdOk_none hv 0, ⟨by omega, by omega⟩, hb⟩
theorem bodyPost_perspec {b : Nat} {p : Per} {c : Int} {w : World} {tm : Array Value} {R : Ending → World → Prop} (h : PerAt w b p) (hR : R (.returned (.tuple #[perV p, .int .i64 c])) w) (h2 : tm.getD 2 undef = .pointer (some ⟨b, 0, none⟩) := by rfl) (h3 : tm.getD 3 undef = .int .i64 c := by rfl) :
    bodyPost Tryd.prog Tryd.f10 R .ret ⟨tm, []⟩ w := by
  obtain ⟨h0, c0, c1, c2, c3, c4⟩ := h
  refine bodyPost_ret (v := .tuple #[perV p, .int .i64 c]) ?_ rfl hR
  unfold perV
  simp only [Array.getD_eq_getD_getElem?] at h2 h3
  simp [results, Tryd.results10, go_sem, h2, h3, c0, c1, c2, c3, c4]
theorem bodyPost_perimpl {b : Nat} {p : Per} {c : Int} {w : World} {tm : Array Value} {R : Ending → World → Prop} (h : PerAt w b p) (hR : R (.returned (.tuple #[perV p, .int .i64 c])) w) (h2 : tm.getD 2 undef = .pointer (some ⟨b, 0, none⟩) := by rfl) (h3 : tm.getD 3 undef = .int .i64 c := by rfl) :
    bodyPost Tryd.prog Tryd.f11 R .ret ⟨tm, []⟩ w := by
  obtain ⟨h0, c0, c1, c2, c3, c4⟩ := h
  refine bodyPost_ret (v := .tuple #[perV p, .int .i64 c]) ?_ rfl hR
  unfold perV
  simp only [Array.getD_eq_getD_getElem?] at h2 h3
  simp [results, Tryd.results11, go_sem, h2, h3, c0, c1, c2, c3, c4]
end Go.Proofs.YtibfpajblcfobaaDoor
