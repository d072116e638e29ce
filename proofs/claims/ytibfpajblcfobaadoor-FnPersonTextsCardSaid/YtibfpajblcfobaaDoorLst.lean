/-
  The text of numbers, the program's and the reference's.
  Conditions: each lemma names its own.
-/
import Derived.Test.YtibfpajblcfobaaDoorLb
import Derived.Test.YtibfpajblcfobaaDoorTxW
import Derived.Test.YtibfpajblcfobaaDoorSum
namespace Go.Proofs.YtibfpajblcfobaaDoor
open Go.RowKit
set_option linter.unusedVariables false

/-- The numerals of numbers. -/
def nums (xs : List Int) : List ByteArray := xs.map itoB
theorem nums_len (xs : List Int) : (nums xs).length = xs.length := by simp [nums]
theorem nums_at {xs : List Int} {k : Nat} {x : Int} (h : xs[k]? = some x) : (nums xs)[k]? = some (itoB x) := by unfold nums; rw [List.getElem?_map, h]; rfl
/-- All are values. -/
def ValsF (xs : List Int) : Prop := (∀ x ∈ xs, -1000000000000 ≤ x ∧ x ≤ 1000000000000) ∧ xs.length ≤ 60
theorem valsF_of {xs : List Int} (h : valsC xs = 0) : ValsF xs := by
  obtain ⟨h1, h2⟩ := allTo_of_valsC h
  refine ⟨fun x hx => ?_, h2⟩
  obtain ⟨k, hk, rfl⟩ := List.getElem_of_mem hx
  have : valB (xs.getD k 0) = true := h1 k hk
  rw [getD_of (List.getElem?_eq_getElem hk)] at this
  unfold valB at this
  simpa using this
theorem nums_join {xs : List Int} (h : ValsF xs) (by_ : ByteArray) (hb : by_.size ≤ 10) : (joinB (nums xs) by_).size ≤ 10000 := by
  unfold joinB
  rw [mkB_size]
  have h1 := join_len_le (xs := datas (nums xs)) (m := 21) by_.data.toList (fun l hl => by
    obtain ⟨s, hs, rfl⟩ := List.mem_map.1 hl
    obtain ⟨x, hx, rfl⟩ := List.mem_map.1 hs
    have := h.1 x hx
    rw [size_data]
    exact itoB_size (by omega) (by omega))
  rw [datas_len, nums_len, size_data] at h1
  have h2 : (21 + by_.size) * xs.length ≤ 31 * 60 := Nat.mul_le_mul (by omega) h.2
  omega

/-- The text of numbers. -/
def ltS (xs : List Int) : ByteArray := if xs.length = 0 then minus else joinB (nums xs) comma
theorem single_strL (w : World) (x : ByteArray) (e : TypeId) : ∀ j u, [Value.string x][j]? = some u → (w.alloc (.cells #[.string x] e)).cell? ((⟨w.heap.size, 0, none⟩ : Addr).add j) = some u := by
  intro j u hj
  match j, hj with
  | 0, hj =>
    have hg := heap_alloc_new w (.cells #[.string x] e)
    rw [Addr.add_lit, cell_of_row _ _ _ _ _ _ hg]
    simpa using hj
theorem ownT_snoc {base : Nat} {v : Value} {ss : List ByteArray} {s : ByteArray} {w : World} (h : w.ownsRow base 9 1 v (ss.length + 1) (ss.map Value.string ++ [Value.string s])) : OwnT base v (ss ++ [s]) w := by
  unfold OwnT
  rw [List.length_append, List.map_append]
  exact h
end Go.Proofs.YtibfpajblcfobaaDoor
