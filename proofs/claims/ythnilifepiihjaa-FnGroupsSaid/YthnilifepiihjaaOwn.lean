/-
  Slices of int64 that a call makes for itself: how they are filled; marks.
  Conditions: each lemma names its own.
-/
import Derived.Test.YthnilifepiihjaaPre
namespace Go.Proofs.Ythnilifepiihjaa
open Go.RowKit

theorem info_i64 : (Try.prog.info? 2).map (fun i => (i.zero, i.size, i.bytes)) = some (some (.int .i64 0), 1, 8) := by kernel_rfl

theorem set_mid {α : Type} (f : Int → α) (xs : List Int) (zs : List α) (k : Nat) (x : Int) (hx : xs[k]? = some x) (hz : xs.length = zs.length) :
    ((xs.take k).map f ++ zs.drop k).set k (f x) = (xs.take (k + 1)).map f ++ zs.drop (k + 1) := by
  have hk : k < xs.length := (List.getElem?_eq_some_iff.1 hx).1
  have hl : ((xs.take k).map f).length = k := by simp; omega
  rw [List.set_append_right _ _ (by omega), hl, Nat.sub_self, List.take_add_one, hx]
  rw [List.drop_eq_getElem_cons (by omega : k < zs.length), List.set_cons_zero]
  simp only [Option.toList, List.map_append, List.map_cons, List.map_nil, List.append_assoc, List.cons_append, List.nil_append]

section
variable {w w' : World} {base size n : Nat} {e : TypeId} {v : Value} {cs : List Value}
theorem own_form (h : w.ownsRow base e size v n cs) : ∃ a c, v = .slice a n c ∧ n ≤ c ∧ c ≤ maxLen ∧ (0 < n → ∃ g, a = some ⟨g, 0, none⟩ ∧ base ≤ g ∧ g < w.heap.size) := by
  rcases h.2 with ⟨rfl, rfl⟩ | ⟨g, cap, cur, rfl, hb, hg, hn, hm, hs, ht⟩
  · exact ⟨none, 0, rfl, Nat.le_refl _, Nat.zero_le _, fun h => absurd h (by omega)⟩
  · exact ⟨_, cap, rfl, hn, hm, fun _ => ⟨g, rfl, hb, (Array.getElem?_eq_some_iff.1 hg).1⟩⟩
theorem own_below (h : w.ownsRow base e size v n cs) (hb : Below w.heap.size w w') : w'.ownsRow base e size v n cs := by
  refine ⟨h.1, ?_⟩
  rcases h.2 with hn | ⟨g, cap, cur, hv, hbg, hg, rest⟩
  · exact .inl hn
  · exact .inr ⟨g, cap, cur, hv, hbg, (hb.block g (Array.getElem?_eq_some_iff.1 hg).1).trans hg, rest⟩
theorem own_drewN (h : w.ownsRow base e size v n cs) (m : Nat) : (w.drewN m).ownsRow base e size v n cs := h
theorem own_mono {base' : Nat} (h : w.ownsRow base e size v n cs) (hb : base' ≤ base) : w.ownsRow base' e size v n cs := by
  refine ⟨h.1, ?_⟩
  rcases h.2 with hn | ⟨g, cap, cur, hv, hbg, rest⟩
  · exact .inl hn
  · exact .inr ⟨g, cap, cur, hv, Nat.le_trans hb hbg, rest⟩
theorem below_append {a : World} {w1 : World} {o : Obj} (hb : Below base a w) (hB : base ≤ w.heap.size) (hown : w.ownsRow base e size v n cs) (hg : (w.alloc o).grownBy w1 v.ownBlock) : Below base a w1 :=
  (hb.alloc hB o).grown hg (by simp; omega) (fun k hk => (hown.lt k hk).1)
end

/-- The slice v is filled with the numbers xs up to place k. -/
def Filled (base : Nat) (w : World) (v : Value) (xs : List Int) (k : Nat) : Prop :=
  ∃ zs : List Value, zs.length = xs.length ∧ w.ownsRow base 2 1 v xs.length ((xs.take k).map (Value.int .i64) ++ zs.drop k)
theorem filled_start {base : Nat} {w : World} {v : Value} {xs : List Int} {n : Nat} {zs : List Value} (h : w.ownsRow base 2 1 v n zs) (hn : xs.length = n) : Filled base w v xs 0 := by
  subst hn
  exact ⟨zs, by have := h.1; omega, by simpa using h⟩
theorem Filled.step {base g n c : Nat} {w : World} {xs : List Int} {k : Nat} {x : Int} (h : Filled base w (.slice (some ⟨g, 0, none⟩) n c) xs k) (hn : xs.length = n) (hx : xs[k]? = some x) :
    (∃ u, w.cell? ⟨g, k, none⟩ = some u) ∧ w.frozen? ⟨g, k, none⟩ = false ∧ Filled base (w.setCell ⟨g, k, none⟩ (.int .i64 x)) (.slice (some ⟨g, 0, none⟩) n c) xs (k + 1) := by
  subst hn
  obtain ⟨zs, hz, ho⟩ := h
  have hk : k < xs.length := (List.getElem?_eq_some_iff.1 hx).1
  have hc := ho.cellAt k (by omega)
  refine ⟨⟨zs[k]'(by omega), ?_⟩, ho.frozenAt k, zs, hz, ?_⟩
  · rw [hc, List.getElem?_append_right (by simp; omega)]
    simp [show min k xs.length = k by omega]
  · rw [← set_mid _ xs zs k x hx hz.symm]
    exact (ho.stored k _).1
theorem Filled.full {base : Nat} {w : World} {v : Value} {xs : List Int} (h : Filled base w v xs xs.length) : w.ownsRow base 2 1 v xs.length (xs.map (Value.int .i64)) := by
  obtain ⟨zs, hz, ho⟩ := h
  rw [List.take_length, List.drop_eq_nil_of_le (by omega), List.append_nil] at ho
  exact ho

/-- The marks k, k + 1, .. -/
def marks (k : Int) (n : Nat) : List Int := (List.range n).map (fun j : Nat => k + j)
theorem marks_len (k : Int) (n : Nat) : (marks k n).length = n := by simp [marks]
theorem marks_at (k : Int) {n j : Nat} (h : j < n) : (marks k n)[j]? = some (k + j) := by simp [marks, h]

theorem single_at (w : World) (x : Int) (e : TypeId) : ∀ j u, [Value.int .i64 x][j]? = some u → (w.alloc (.cells #[.int .i64 x] e)).cell? ((⟨w.heap.size, 0, none⟩ : Addr).add j) = some u := by
  intro j u hj
  match j, hj with
  | 0, hj =>
    have hg := heap_alloc_new w (.cells #[.int .i64 x] e)
    rw [Addr.add_lit, cell_of_row _ _ _ _ _ _ hg]
    simpa using hj

end Go.Proofs.Ythnilifepiihjaa
