/-
  The copy that a law makes of a slice of persons.
  Conditions: each lemma names its own.
-/
import Derived.Test.YthnilifepiihjaaPersArgs
namespace Go.Proofs.Ythnilifepiihjaa
open Go.RowKit

theorem info_iper : (Try.prog.info? 35).map (fun i => (i.zero, i.size, i.bytes)) = some (some (.agg #[.int .i64 0, .string ByteArray.empty, .string ByteArray.empty, .int .i64 0, .int .i64 0]), 5, 56) := by kernel_rfl

/-- What slice v in world w1 is once the first k persons of ps are copied. -/
def CopiedP (w0 w1 : World) (v : Value) (ps : List Per) (k : Nat) : Prop :=
  ∃ zs : List Value, zs.length = ps.length * 5 ∧ w1.ownsRow w0.heap.size 35 5 v ps.length ((ps.take k).flatMap perC ++ zs.drop (k * 5))
theorem set_mid5 (ps : List Per) (zs : List Value) (k : Nat) (p : Per) (hx : ps[k]? = some p) (hz : zs.length = ps.length * 5) :
    ((((((ps.take k).flatMap perC ++ zs.drop (k * 5)).set (k * 5) (.int .i64 p.number)).set (k * 5 + 1) (.string p.first)).set (k * 5 + 2) (.string p.last)).set (k * 5 + 3) (.int .i64 p.born)).set (k * 5 + 4) (.int .i64 p.zone) = (ps.take (k + 1)).flatMap perC ++ zs.drop ((k + 1) * 5) := by
  have hk : k < ps.length := (List.getElem?_eq_some_iff.1 hx).1
  have hl : ((ps.take k).flatMap perC).length = k * 5 := by rw [flat_len, List.length_take]; congr 1; omega
  have hd : 5 ≤ (zs.drop (k * 5)).length := by rw [List.length_drop]; omega
  have e : zs.drop ((k + 1) * 5) = (zs.drop (k * 5)).drop 5 := by rw [List.drop_drop]; congr 1; omega
  rw [e]
  generalize zs.drop (k * 5) = ys at *
  match ys, hd with
  | y0 :: y1 :: y2 :: y3 :: y4 :: ys, _ =>
    rw [List.set_append_right _ _ (by omega), List.set_append_right _ _ (by omega), List.set_append_right _ _ (by omega), List.set_append_right _ _ (by omega), List.set_append_right _ _ (by omega)]
    rw [hl]
    simp only [Nat.sub_self, Nat.add_sub_cancel_left, List.set_cons_zero, List.set_cons_succ, List.drop_succ_cons, List.drop_zero]
    rw [List.take_add_one, hx]
    simp [perC]

theorem own_cell {w : World} {base g n c : Nat} {e : TypeId} {xs : List Value} (h : w.ownsRow base e 5 (.slice (some ⟨g, 0, none⟩) n c) n xs) (j : Nat) (hj : j < n * 5) : (∃ u, w.cell? ⟨g, j, none⟩ = some u) ∧ w.frozen? ⟨g, j, none⟩ = false :=
  ⟨⟨xs[j]'(by rw [h.1]; exact hj), by rw [h.cellAt j hj]; exact List.getElem?_eq_getElem _⟩, h.frozenAt j⟩
theorem CopiedP.step {w0 w1 : World} {g n c : Nat} {ps : List Per} {k : Nat} {p : Per} (h : CopiedP w0 w1 (.slice (some ⟨g, 0, none⟩) n c) ps k) (hn : ps.length = n) (hx : ps[k]? = some p) :
    ((∃ u, w1.cell? ⟨g, k * 5, none⟩ = some u) ∧ w1.frozen? ⟨g, k * 5, none⟩ = false) ∧ ((∃ u, (w1.setCell ⟨g, k * 5, none⟩ (.int .i64 p.number)).cell? ⟨g, k * 5 + 1, none⟩ = some u) ∧ (w1.setCell ⟨g, k * 5, none⟩ (.int .i64 p.number)).frozen? ⟨g, k * 5 + 1, none⟩ = false) ∧ ((∃ u, ((w1.setCell ⟨g, k * 5, none⟩ (.int .i64 p.number)).setCell ⟨g, k * 5 + 1, none⟩ (.string p.first)).cell? ⟨g, k * 5 + 2, none⟩ = some u) ∧ ((w1.setCell ⟨g, k * 5, none⟩ (.int .i64 p.number)).setCell ⟨g, k * 5 + 1, none⟩ (.string p.first)).frozen? ⟨g, k * 5 + 2, none⟩ = false) ∧ ((∃ u, (((w1.setCell ⟨g, k * 5, none⟩ (.int .i64 p.number)).setCell ⟨g, k * 5 + 1, none⟩ (.string p.first)).setCell ⟨g, k * 5 + 2, none⟩ (.string p.last)).cell? ⟨g, k * 5 + 3, none⟩ = some u) ∧ (((w1.setCell ⟨g, k * 5, none⟩ (.int .i64 p.number)).setCell ⟨g, k * 5 + 1, none⟩ (.string p.first)).setCell ⟨g, k * 5 + 2, none⟩ (.string p.last)).frozen? ⟨g, k * 5 + 3, none⟩ = false) ∧ ((∃ u, ((((w1.setCell ⟨g, k * 5, none⟩ (.int .i64 p.number)).setCell ⟨g, k * 5 + 1, none⟩ (.string p.first)).setCell ⟨g, k * 5 + 2, none⟩ (.string p.last)).setCell ⟨g, k * 5 + 3, none⟩ (.int .i64 p.born)).cell? ⟨g, k * 5 + 4, none⟩ = some u) ∧ ((((w1.setCell ⟨g, k * 5, none⟩ (.int .i64 p.number)).setCell ⟨g, k * 5 + 1, none⟩ (.string p.first)).setCell ⟨g, k * 5 + 2, none⟩ (.string p.last)).setCell ⟨g, k * 5 + 3, none⟩ (.int .i64 p.born)).frozen? ⟨g, k * 5 + 4, none⟩ = false) ∧
    CopiedP w0 (((((w1.setCell ⟨g, k * 5, none⟩ (.int .i64 p.number)).setCell ⟨g, k * 5 + 1, none⟩ (.string p.first)).setCell ⟨g, k * 5 + 2, none⟩ (.string p.last)).setCell ⟨g, k * 5 + 3, none⟩ (.int .i64 p.born)).setCell ⟨g, k * 5 + 4, none⟩ (.int .i64 p.zone)) (.slice (some ⟨g, 0, none⟩) n c) ps (k + 1) := by
  subst hn
  obtain ⟨zs, hz, ho⟩ := h
  have hk : k < ps.length := (List.getElem?_eq_some_iff.1 hx).1
  have o1 := (ho.stored (k * 5) (.int .i64 p.number)).1
  have o2 := (o1.stored (k * 5 + 1) (.string p.first)).1
  have o3 := (o2.stored (k * 5 + 2) (.string p.last)).1
  have o4 := (o3.stored (k * 5 + 3) (.int .i64 p.born)).1
  have o5 := (o4.stored (k * 5 + 4) (.int .i64 p.zone)).1
  refine ⟨own_cell ho _ (by omega), own_cell o1 _ (by omega), own_cell o2 _ (by omega), own_cell o3 _ (by omega), own_cell o4 _ (by omega), zs, hz, ?_⟩
  rw [← set_mid5 ps zs k p hx hz]
  exact o5
theorem CopiedP.below {w0 w1 w2 : World} {v : Value} {ps : List Per} {k : Nat} (h : CopiedP w0 w1 v ps k) (hb : Below w1.heap.size w1 w2) : CopiedP w0 w2 v ps k := by
  obtain ⟨zs, hz, ho⟩ := h
  refine ⟨zs, hz, ho.1, ?_⟩
  rcases ho.2 with hn | ⟨g, cap, cur, hv, hbg, hg, rest⟩
  · exact .inl hn
  · exact .inr ⟨g, cap, cur, hv, hbg, (hb.block g (Array.getElem?_eq_some_iff.1 hg).1).trans hg, rest⟩
end Go.Proofs.Ythnilifepiihjaa
