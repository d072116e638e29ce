/-
  Slices of texts among a law's arguments: what they cost, the copy that a law makes, how two are compared.
  Conditions: a copied slice has at most 1048576 elements.
-/
import Derived.Test.YtibfpajblcfobaaDoorStr
import Derived.Test.YtibfpajblcfobaaDoorOwn
namespace Go.Proofs.YtibfpajblcfobaaDoor
open Go.RowKit
set_option linter.unusedVariables false

theorem info_str : (Tryd.prog.info? 9).map (fun i => (i.zero, i.size, i.bytes)) = some (some (.string ⟨#[]⟩), 1, 16) := by kernel_rfl
theorem set_midS {α β : Type} (f : β → α) (xs : List β) (zs : List α) (k : Nat) (x : β) (hx : xs[k]? = some x) (hz : xs.length = zs.length) :
    ((xs.take k).map f ++ zs.drop k).set k (f x) = (xs.take (k + 1)).map f ++ zs.drop (k + 1) := by
  have hk : k < xs.length := (List.getElem?_eq_some_iff.1 hx).1
  have hl : ((xs.take k).map f).length = k := by simp; omega
  rw [List.set_append_right _ _ (by omega), hl, Nat.sub_self, List.take_add_one, hx]
  rw [List.drop_eq_getElem_cons (by omega : k < zs.length), List.set_cons_zero]
  simp only [Option.toList, List.map_append, List.map_cons, List.map_nil, List.append_assoc, List.cons_append, List.nil_append]
/-- An own row of texts. -/
def OwnT (base : Nat) (v : Value) (ss : List ByteArray) (w : World) : Prop := w.ownsRow base 9 1 v ss.length (ss.map Value.string)
theorem OwnT.below {base : Nat} {v : Value} {ss : List ByteArray} {w w' : World} (h : OwnT base v ss w) (hb : Below w.heap.size w w') : OwnT base v ss w' := own_below h hb
theorem OwnT.drewN {base : Nat} {v : Value} {ss : List ByteArray} {w : World} (h : OwnT base v ss w) (m : Nat) : OwnT base v ss (w.drewN m) := h
theorem OwnT.strs {base : Nat} {v : Value} {ss : List ByteArray} {w : World} (h : OwnT base v ss w) : Strs w v ss := Row.own h

/-- What slice v in world w1 is once the first k elements of ss are copied. -/
def CopiedT (w0 w1 : World) (v : Value) (ss : List ByteArray) (k : Nat) : Prop :=
  ∃ zs : List Value, zs.length = ss.length ∧ w1.ownsRow w0.heap.size 9 1 v ss.length ((ss.take k).map Value.string ++ zs.drop k)
theorem CopiedT.step {w0 w1 : World} {g n c : Nat} {ss : List ByteArray} {k : Nat} {x : ByteArray} (h : CopiedT w0 w1 (.slice (some ⟨g, 0, none⟩) n c) ss k) (hn : ss.length = n) (hx : ss[k]? = some x) :
    (∃ u, w1.cell? ⟨g, k, none⟩ = some u) ∧ w1.frozen? ⟨g, k, none⟩ = false ∧ CopiedT w0 (w1.setCell ⟨g, k, none⟩ (.string x)) (.slice (some ⟨g, 0, none⟩) n c) ss (k + 1) := by
  subst hn
  obtain ⟨zs, hz, ho⟩ := h
  have hk : k < ss.length := (List.getElem?_eq_some_iff.1 hx).1
  have hc := ho.cellAt k (by omega)
  refine ⟨⟨zs[k]'(by omega), ?_⟩, ho.frozenAt k, zs, hz, ?_⟩
  · rw [hc, List.getElem?_append_right (by simp; omega)]
    simp [show min k ss.length = k by omega]
  · rw [← set_midS _ ss zs k x hx hz.symm]
    exact (ho.stored k _).1

end Go.Proofs.YtibfpajblcfobaaDoor
