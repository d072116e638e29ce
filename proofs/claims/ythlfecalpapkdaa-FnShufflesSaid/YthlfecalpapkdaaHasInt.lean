/-
  hasInt: whether a list of numbers holds one; the beginning of a list.
  Conditions: each lemma names its own.
-/
import Derived.Test.YthlfecalpapkdaaBig
namespace Go.Proofs.Ythlfecalpapkdaa
open Go.RowKit
set_option linter.unusedVariables false

theorem ints_take {w : World} {a : Option Addr} {n c j : Nat} {xs : List Int} (h : Ints w (.slice a n c) xs) (hj : j ≤ n) : Ints w (.slice a j c) (xs.take j) := by
  obtain ⟨a', n', c', hv, H⟩ := h.parts
  injection hv with h1 h2 h3
  subst h1 h2 h3
  have hl : (xs.take j).length = j := by rw [List.length_take, H.len]; omega
  refine ⟨by simp, a, c, by rw [hl], by rw [hl]; exact Nat.le_trans hj H.cap, H.most, H.nil, fun h0 => ?_⟩
  rw [hl] at h0
  obtain ⟨b, o, ha, hb, hc⟩ := H.cells (by omega)
  refine ⟨b, o, ha, hb, fun k u hu => ?_⟩
  rw [List.getElem?_map] at hu
  cases hx : (xs.take j)[k]? with
  | none => rw [hx] at hu; cases hu
  | some x =>
    rw [hx] at hu
    rw [List.getElem?_take] at hx
    split at hx
    · rw [hc k x hx]; exact hu
    · cases hx
def NotIn (xs : List Int) (x : Int) (k : Nat) : Prop := ∀ j y, j < k → xs[j]? = some y → y ≠ x
theorem NotIn.succ {xs : List Int} {x : Int} {k : Nat} {y : Int} (h : NotIn xs x k) (hy : xs[k]? = some y) (hx : ¬ y = x) : NotIn xs x (k + 1) := fun j z hj hz => by
  by_cases e : j = k
  · subst e; rw [hy] at hz; injection hz with hz; subst hz; exact hx
  · exact h j z (by omega) hz
theorem notIn_all {xs : List Int} {x : Int} {k : Nat} (h : NotIn xs x k) (hk : xs.length ≤ k) : ¬ x ∈ xs := fun hm => by
  obtain ⟨j, hj, rfl⟩ := List.getElem_of_mem hm
  exact h j _ (by omega) (List.getElem?_eq_getElem hj) rfl
theorem hasInt_c {v : Value} {xs : List Int} {w : World} (h : Ints w v xs) (x : Int) : Calls Try.prog 37 #[v, .int .i64 x] w fun e w' => e = .returned (.bool (decide (x ∈ xs))) ∧ w = w' := by
  obtain ⟨a, n, c, rfl, H⟩ := h.parts
  have hlen := Lib.hid H.len
  have hcap := H.cap
  have hmost := H.most
  unfold maxLen at hmost
  clear h
  go_enter Try.func37, Try.ntmps37
  go_wp2_with fail
  go_loop [5] (fun i => ∃ k : Nat, k ≤ n ∧ i = .int .i64 k ∧ Hid (NotIn xs x k)) (fun i => n - (intOf i).toNat)
  case atStart => exact ⟨0, Nat.zero_le _, rfl, Lib.hid fun j y hj => absurd hj (by omega)⟩
  case round =>
    obtain ⟨k, hk, rfl, hny⟩ := hrel
    by_cases hlt : k < n
    · have hX := at_of (xs := xs) (k := k) (by have := hlen.out; omega)
      obtain ⟨y, hy⟩ := hX
      obtain ⟨b, o, ha, hbb, hc⟩ := H.cells (by omega)
      subst ha
      have cy := hc k y hy
      have HY := Lib.hid hy
      clear hc H hy
      by_cases q : y = x
      · have hq : (y == x) = true := by simpa using q
        have hm : Hid (x ∈ xs) := Lib.hid (q ▸ List.mem_of_getElem? HY.out)
        clear q
        go_wp2_with fail
        go_ret
        exact ⟨rb (decide_eq_true hm.out).symm, rfl⟩
      · have hq : (y == x) = false := by simpa using q
        have hnext := Lib.hid (hny.out.succ HY.out q)
        clear q hny
        go_wp2_with fail
        go_round
        case rel => exact ⟨k + 1, by omega, by go_num, hnext⟩
        case measure => simp [intOf]; omega
    · have hm : Hid (¬ x ∈ xs) := Lib.hid (notIn_all hny.out (by have := hlen.out; omega))
      clear H
      go_wp2_with fail
      go_ret
      exact ⟨rb (decide_eq_false hm.out).symm, rfl⟩
theorem hasInt_yes {v : Value} {xs : List Int} {w : World} (h : Ints w v xs) {x : Int} (hx : x ∈ xs) : Calls Try.prog 37 #[v, .int .i64 x] w fun e w' => e = .returned (.bool true) ∧ w = w' :=
  (hasInt_c h x).mono fun _ _ ⟨he, hw⟩ => ⟨he.trans (rb (decide_eq_true hx)), hw⟩
end Go.Proofs.Ythlfecalpapkdaa
