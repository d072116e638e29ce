/-
  big: whether a code is too long; two lists of numbers that are the same.
  Conditions: each lemma names its own.
-/
import Derived.Test.YthlfecalpapkdaaBytes
import Derived.Test.YthlfecalpapkdaaLike
namespace Go.Proofs.Ythlfecalpapkdaa
open Go.RowKit
set_option linter.unusedVariables false

theorem big_yes {v : Value} {bs : List Int} {w : World} (h : Bytes w v bs) (hb : 4096 < bs.length) : Calls Try.prog 25 #[v] w fun e w' => e = .returned (.bool true) ∧ w = w' := by
  obtain ⟨a, n, c, rfl, hl, hcap, hmost, _⟩ := row_cells h
  unfold maxLen at hmost
  rw [hl] at hb
  clear hl h
  go_enter Try.func25, Try.ntmps25
  go_wp2_with fail
  go_ret
  exact ⟨by simp; omega, rfl⟩
theorem big_no {v : Value} {bs : List Int} {w : World} (h : Bytes w v bs) (hb : bs.length ≤ 4096) : Calls Try.prog 25 #[v] w fun e w' => e = .returned (.bool false) ∧ w = w' := by
  obtain ⟨a, n, c, rfl, hl, hcap, hmost, _⟩ := row_cells h
  unfold maxLen at hmost
  rw [hl] at hb
  clear hl h
  go_enter Try.func25, Try.ntmps25
  go_wp2_with fail
  go_ret
  exact ⟨by simp; omega, rfl⟩
theorem likeInts_same {v u : Value} {xs : List Int} {w : World} (h : Ints w v xs) (g : Ints w u xs) :
    Calls Try.prog 33 #[v, u] w fun e w' => e = .returned (.bool true) ∧ Below w.heap.size w w' :=
  (likeInts_c h g).mono fun _ _ ⟨he, m, hw⟩ => ⟨he.trans (rb (decide_eq_true rfl)), hw ▸ below_of_drewN (Below.refl _ _) m⟩
theorem likeInts_ne {v u : Value} {xs ys : List Int} {w : World} (h : Ints w v xs) (g : Ints w u ys) :
    Calls Try.prog 33 #[v, u] w fun e w' => e = .returned (.bool (decide (xs = ys))) ∧ Below w.heap.size w w' :=
  (likeInts_c h g).mono fun _ _ ⟨he, m, hw⟩ => ⟨he, hw ▸ below_of_drewN (Below.refl _ _) m⟩
end Go.Proofs.Ythlfecalpapkdaa
