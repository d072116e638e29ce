/-
  A queue: a slice of numbers from whose front elements are taken and to which elements are appended.
  Conditions: each lemma names its own.
-/
import Derived.Test.YthnilifepiihjaaSteps
import Derived.Deep.AppendSrc
import Derived.Deep.OwnRows
import Derived.Laws.IdiomCopy
import Derived.Deep.Upon
namespace Go.Proofs.Ythnilifepiihjaa
open Go.RowKit
set_option linter.unusedVariables false

/-- The slice v, in a block from base on that is not gs, holds the numbers q; there is room for c. -/
structure TailQ (base gs g o c : Nat) (q : List Int) (w : World) : Prop where
  le : q.length ≤ c
  most : c ≤ maxLen
  base : base ≤ g
  ne : g ≠ gs
  lt : g < w.heap.size
  there : ∀ j, j < c → (w.cell? ⟨g, o + j, none⟩).isSome = true
  free : ∀ j, w.frozen? ⟨g, j, none⟩ = false
  cells : ∀ j x, q[j]? = some x → w.cell? ⟨g, o + j, none⟩ = some (.int .i64 x)
theorem TailQ.keep {base gs g o c : Nat} {q : List Int} {w w' : World} (h : TailQ base gs g o c q w) (hb : w'.heap[g]? = w.heap[g]?) (hs : w.heap.size ≤ w'.heap.size) : TailQ base gs g o c q w' :=
  ⟨h.le, h.most, h.base, h.ne, Nat.lt_of_lt_of_le h.lt hs, fun j hj => by rw [World.cell?_of_block (w := w) (a := ⟨g, o + j, none⟩) hb]; exact h.there j hj, fun j => by rw [World.frozen?_of_block (w := w) (a := ⟨g, j, none⟩) hb]; exact h.free j,
    fun j x hx => by rw [World.cell?_of_block (w := w) (a := ⟨g, o + j, none⟩) hb]; exact h.cells j x hx⟩
theorem TailQ.below {base gs g o c : Nat} {q : List Int} {w w' : World} (h : TailQ base gs g o c q w) (hb : Below w.heap.size w w') : TailQ base gs g o c q w' := h.keep (hb.block g h.lt) hb.size
theorem TailQ.setCell {base gs g o c k : Nat} {q : List Int} {w : World} (h : TailQ base gs g o c q w) (x : Value) : TailQ base gs g o c q (w.setCell ⟨gs, k, none⟩ x) :=
  h.keep (Below.heap_setCell _ _ _ _ h.ne) (by simp [World.setCell])
theorem TailQ.tail {base gs g o c : Nat} {x : Int} {q : List Int} {w : World} (h : TailQ base gs g o c (x :: q) w) (hc : 1 < c) : TailQ base gs g (o + 1) (c - 1) q w :=
  ⟨by have := h.le; simp at this; omega, by have := h.most; omega, h.base, h.ne, h.lt, fun j hj => by rw [Nat.add_assoc, Nat.add_comm 1]; exact h.there (j + 1) (by omega), h.free, fun j y hy => by rw [Nat.add_assoc, Nat.add_comm 1]; exact h.cells (j + 1) y (by simpa using hy)⟩
theorem TailQ.last {base gs g o : Nat} {x : Int} {q : List Int} {w : World} (h : TailQ base gs g o 1 (x :: q) w) : q = [] ∧ TailQ base gs g o 0 [] w := by
  have hl := h.le
  have hq : q = [] := by
    cases q with
    | nil => rfl
    | cons y q => simp at hl
  exact ⟨hq, ⟨Nat.le_refl _, Nat.zero_le _, h.base, h.ne, h.lt, fun j hj => by omega, h.free, fun j y hy => by simp at hy⟩⟩
theorem own_block {base gs n c : Nat} {s : List Int} {w w' : World} (h : OwnI base (.slice (some ⟨gs, 0, none⟩) n c) s w) (hb : w'.heap[gs]? = w.heap[gs]?) (hs : w.heap.size ≤ w'.heap.size) : OwnI base (.slice (some ⟨gs, 0, none⟩) n c) s w' := by
  refine ⟨h.1, ?_⟩
  rcases h.2 with hn | ⟨g, cap, cur, hv, hbg, hg, rest⟩
  · exact .inl hn
  · injection hv with hv1 hv2 hv3
    injection hv1 with hv1
    injection hv1 with hv1
    subst hv1
    subst hv3
    exact .inr ⟨gs, c, cur, by rw [hv2], hbg, hb.trans hg, rest⟩
theorem one_cell_of {x : Int} : ∀ i, i < (#[Value.int .i64 x]).size → (#[Value.int .i64 x])[i]? = some ((fun _ => Value.int .i64 x) i) := by
  intro i hi
  have hi0 : i = 0 := by simpa using hi
  subst hi0
  rfl
theorem tailQ_new {base gs : Nat} {w : World} (hb : base ≤ w.heap.size) (hg : gs < w.heap.size) (x : Int) : TailQ base gs w.heap.size 0 1 [x] (w.alloc (.cells #[.int .i64 x] 2)) := by
  have hr := World.rowIs_alloc w #[.int .i64 x] 2 (fun _ => .int .i64 x) one_cell_of
  refine ⟨Nat.le_refl _, by unfold maxLen; omega, hb, by omega, by simp, fun j hj => ?_, hr.frozen, fun j y hy => ?_⟩
  · rw [Nat.zero_add, hr.cell hj]; rfl
  · have hj : j = 0 := by have := (List.getElem?_eq_some_iff.1 hy).1; simp at this; omega
    subst hj
    rw [Nat.zero_add, hr.cell (by simp)]
    simpa using hy

section
open Go
variable {P : Program}
theorem run_append_tail (T E : TypeId) (i : TypeInfo) (ht : P.underlying T = some (.slice E)) (hi : P.info? E = some i) (hz : i.zero = some (.int .i64 0)) (hsize : i.size = 1) (hby : i.bytes = 8) (ty : TypeId)
    {base gs g o c : Nat} {q : List Int} {w : World} (h : TailQ base gs g o c q w) (hgs : gs < w.heap.size) (hbw : base ≤ w.heap.size) (hq : q.length ≤ 1000) (ad : Addr) (cc : Nat) (x : Int) (hx : w.cell? (ad.add 0) = some (.int .i64 x)) :
    ∃ g' o' c' w', (Builtin.append_ #[T, T] ty #[.slice (some ⟨g, o, none⟩) q.length c, .slice (some ad) 1 cc]).run P w = .ok (.slice (some ⟨g', o', none⟩) (q.length + 1) c') w' ∧
      TailQ base gs g' o' c' (q ++ [x]) w' ∧ w.heap.size ≤ w'.heap.size ∧ (∀ k, k < w.heap.size → k ≠ g → w'.heap[k]? = w.heap[k]?) ∧ w'.os = w.os ∧ w'.tape = w.tape ∧ w'.output = w.output := by
  have hnews : ∀ j u, ([.int .i64 x] : List Value)[j]? = some u → w.cell? (ad.add j) = some u := fun j u hu => by
    have hj : j = 0 := by have := (List.getElem?_eq_some_iff.1 hu).1; simp at this; omega
    subst hj
    rw [hx]
    simpa using hu
  by_cases hroom : q.length + 1 ≤ c
  · have hs := Go.Src.ofSlice (P := P) w (size := i.size) (tx := T) ht ad 1 cc [.int .i64 x] (by simp [hsize]) hnews (by simp [Value.oneCell'])
    have hr := run_append_room_src (P := P) w T T ty E i ht hi g o q.length c _ 1 _ hs hroom (fun j hj => by
      obtain rfl : j = 0 := by simp at hj; omega
      rw [hsize, Nat.mul_one, Nat.add_zero]
      exact h.there _ (by omega)) (fun j hj => h.free _)
    rw [hsize, Nat.mul_one] at hr
    refine ⟨g, o, c, _, hr, ⟨by rw [List.length_append]; exact hroom, h.most, h.base, h.ne, ?_, fun j hj => ?_, fun j => ?_, fun j y hy => ?_⟩, ?_, fun k hk hne => ?_, ?_, ?_, ?_⟩
    · exact Nat.lt_of_lt_of_le h.lt (by simp [World.setCells, World.setCell])
    · by_cases hj2 : j = q.length
      · subst hj2
        have := World.cell?_setCells_in g [.int .i64 x] (o + q.length) w (fun j hj => by
          obtain rfl : j = 0 := by simp at hj; omega
          rw [Nat.add_zero]; exact h.there _ (by omega)) 0 (by simp)
        rw [Nat.add_zero] at this
        rw [this]; rfl
      · rw [World.cell?_setCells_out g [.int .i64 x] (o + q.length) w ⟨g, o + j, none⟩ (fun _ _ => by simp; omega)]
        exact h.there j hj
    · rw [World.frozen?_setCells]; exact h.free j
    · rcases Nat.lt_or_ge j q.length with hlt | hge
      · rw [List.getElem?_append_left hlt] at hy
        rw [World.cell?_setCells_out g [.int .i64 x] (o + q.length) w ⟨g, o + j, none⟩ (fun _ _ => by simp; omega)]
        exact h.cells j y hy
      · rw [List.getElem?_append_right hge] at hy
        have hj : j - q.length = 0 := by have := (List.getElem?_eq_some_iff.1 hy).1; simp at this; omega
        rw [hj] at hy
        obtain rfl : j = q.length := by omega
        have := World.cell?_setCells_in g [.int .i64 x] (o + q.length) w (fun j hj => by
          obtain rfl : j = 0 := by simp at hj; omega
          rw [Nat.add_zero]; exact h.there _ hroom) 0 (by simp)
        rw [Nat.add_zero] at this
        rw [this]
        simpa using hy
    · simp [World.setCells, World.setCell]
    · exact World.heap_setCells_other w g (o + q.length) _ hk hne
    · exact World.os_setCells _ _ _ _
    · rfl
    · exact World.output_setCells _ _ _ _
  · have holds : ∀ j u, (q.map (Value.int .i64))[j]? = some u → w.cell? ((⟨g, o, none⟩ : Addr).add j) = some u := fun j u hu => by
      rw [List.getElem?_map] at hu
      cases hqj : q[j]? with
      | none => rw [hqj] at hu; cases hu
      | some y =>
        rw [hqj] at hu
        rw [Addr.add_lit, h.cells j y hqj]
        exact hu
    have hcl : c = q.length := by have := h.le; omega
    have hr := run_append_grow (P := P) w T ty E i _ ht hi hz ⟨g, o, none⟩ q.length c (q.map (Value.int .i64)) (by simp [hsize]) holds ad 1 cc [.int .i64 x] (by simp [hsize]) hnews (by omega) (by omega) (growslice_fits (by omega) (by rw [hby]; omega))
    have hge := grownCap_ge w (q.length + 1) c E
    have hcm := grownCap_le_maxLen w (q.length + 1) c E (by unfold maxLen; omega)
    generalize grownCap w (q.length + 1) c E = C at *
    have hnb := heap_alloc_new w.drew (.cells ((q.map (Value.int .i64)).toArray ++ [Value.int .i64 x].toArray ++ Builtin.zeroCells (Value.int .i64 0).cells (C - (q.length + 1))) E)
    have hsz : ((q.map (Value.int .i64)).toArray ++ [Value.int .i64 x].toArray ++ Builtin.zeroCells (Value.int .i64 0).cells (C - (q.length + 1))).size = C := by
      rw [Array.size_append, Array.size_append, size_zeroCells]
      simp [Value.cells]
      omega
    generalize hcs : ((q.map (Value.int .i64)).toArray ++ [Value.int .i64 x].toArray ++ Builtin.zeroCells (Value.int .i64 0).cells (C - (q.length + 1))) = cs at *
    refine ⟨_, _, _, _, hr, ⟨by rw [List.length_append]; exact hge, hcm, hbw, by omega, by simp, fun j hj => ?_, fun j => ?_, fun j y hy => ?_⟩, by simp, fun k hk _ => Below.heap_alloc w.drew _ k hk, rfl, rfl, rfl⟩
    · rw [Nat.zero_add]
      show ((w.drew.alloc (.cells cs E)).cell? ⟨w.drew.heap.size, j, none⟩).isSome = true
      rw [cell_of_row _ _ _ _ _ _ hnb, Array.getElem?_eq_getElem (by omega)]
      rfl
    · show (w.drew.alloc (.cells cs E)).frozen? ⟨w.drew.heap.size, j, none⟩ = false
      exact (World.rowIs_alloc w.drew cs E (fun j => cs.getD j undef) (fun i hi => by rw [Array.getD_eq_getD_getElem?, Array.getElem?_eq_getElem hi]; rfl)).frozen j
    · rw [Nat.zero_add]
      show (w.drew.alloc (.cells cs E)).cell? ⟨w.drew.heap.size, j, none⟩ = _
      rw [cell_of_row _ _ _ _ _ _ hnb, ← hcs]
      have hjl : j < (q ++ [x]).length := (List.getElem?_eq_some_iff.1 hy).1
      rw [Array.getElem?_append_left (by simp at hjl ⊢; omega)]
      have : ((q.map (Value.int .i64)).toArray ++ [Value.int .i64 x].toArray) = ((q ++ [x]).map (Value.int .i64)).toArray := by simp
      rw [this, List.getElem?_toArray, List.getElem?_map, hy]
      rfl
theorem wp_append_tail {op : Oper} {a : Act} {K : Act → World → Prop} {Q : Exit → Act → World → Prop} (s x : Operand) (T : TypeId)
    (ho : op.op = .call { callee := .builtin .append, args := #[s, x], argTypes := #[T, T] }) (E : TypeId) (i : TypeInfo) (ht : P.underlying T = some (.slice E)) (hi : P.info? E = some i) (hz : i.zero = some (.int .i64 0)) (hsize : i.size = 1) (hby : i.bytes = 8)
    {base gs g o c n : Nat} {q : List Int} {w : World} (h : TailQ base gs g o c q w) (hn : n = q.length) (hgs : gs < w.heap.size) (hbw : base ≤ w.heap.size) (hq : q.length ≤ 1000) (hs : a.eval s = .slice (some ⟨g, o, none⟩) n c) (ad : Addr) (cc : Nat) (y : Int) (hx : a.eval x = .slice (some ad) 1 cc) (hy : w.cell? (ad.add 0) = some (.int .i64 y))
    (hk : ∀ g' o' c' w', TailQ base gs g' o' c' (q ++ [y]) w' → w.heap.size ≤ w'.heap.size → (∀ k, k < w.heap.size → k ≠ g → w'.heap[k]? = w.heap[k]?) → w'.os = w.os → w'.tape = w.tape → w'.output = w.output → K (a.put op.dst (.slice (some ⟨g', o', none⟩) (n + 1) c')) w') : op.wp P a w K Q := by
  subst hn
  obtain ⟨g', o', c', w', hr, h1, h2, h3, h4, h5, h6⟩ := run_append_tail T E i ht hi hz hsize hby op.type h hgs hbw hq ad cc y hy
  unfold Oper.wp execOp
  simp only [ho, resolve, invoke, builtin, Sem.run_bind, Sem.run_pure, Result.andThen_ok, List.map_toArray, List.map_cons, List.map_nil, hs, hx, hr]
  exact hk _ _ _ _ h1 h2 h3 h4 h5 h6
theorem wpList_append_tail {ops : Array Oper} {rest : List Oper} {op : Oper} {a : Act} {Q : Exit → Act → World → Prop} (hgd : op.guard = none) (s x : Operand) (T : TypeId)
    (ho : op.op = .call { callee := .builtin .append, args := #[s, x], argTypes := #[T, T] }) (E : TypeId) (i : TypeInfo) (ht : P.underlying T = some (.slice E)) (hi : P.info? E = some i) (hz : i.zero = some (.int .i64 0)) (hsize : i.size = 1) (hby : i.bytes = 8)
    {base gs g o c n : Nat} {q : List Int} {w : World} (h : TailQ base gs g o c q w) (hn : n = q.length) (hgs : gs < w.heap.size) (hbw : base ≤ w.heap.size) (hq : q.length ≤ 1000) (hs : a.eval s = .slice (some ⟨g, o, none⟩) n c) (ad : Addr) (cc : Nat) (y : Int) (hx : a.eval x = .slice (some ad) 1 cc) (hy : w.cell? (ad.add 0) = some (.int .i64 y))
    (hk : ∀ g' o' c' w', TailQ base gs g' o' c' (q ++ [y]) w' → w.heap.size ≤ w'.heap.size → (∀ k, k < w.heap.size → k ≠ g → w'.heap[k]? = w.heap[k]?) → w'.os = w.os → w'.tape = w.tape → w'.output = w.output → wpList P ops Q rest (a.put op.dst (.slice (some ⟨g', o', none⟩) (n + 1) c')) w') : wpList P ops Q (op :: rest) a w :=
  wpList_plain hgd fun _ hK => wp_append_tail s x T ho E i ht hi hz hsize hby h hn hgs hbw hq hs ad cc y hx hy fun g' o' c' w' h1 h2 h3 h4 h5 h6 => hK _ _ (hk g' o' c' w' h1 h2 h3 h4 h5 h6)
end
end Go.Proofs.Ythnilifepiihjaa
