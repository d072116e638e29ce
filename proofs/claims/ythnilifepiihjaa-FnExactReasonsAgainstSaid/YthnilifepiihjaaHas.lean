/-
  Whether a slice holds a number: has and l01Has.
  Conditions: each lemma names its own.
-/
import Derived.Test.YthnilifepiihjaaPre
namespace Go.Proofs.Ythnilifepiihjaa
open Go.RowKit
set_option linter.unusedVariables false

theorem mem_at {xs : List Int} {k : Nat} {x : Int} (h : xs[k]? = some x) : x ∈ xs := List.mem_of_getElem? h
theorem not_mem_of {xs : List Int} {x : Int} (h : AllTo (fun j => !(xs.getD j 0 == x)) xs.length) : ¬ x ∈ xs := by
  intro hx
  obtain ⟨k, hk, rfl⟩ := List.getElem_of_mem hx
  have := h k hk
  simp [List.getD_eq_getElem?_getD, List.getElem?_eq_getElem hk] at this

set_option maxHeartbeats 400000 in
theorem impl_has {v : Value} {xs : List Int} {w : World} (x : Int) (h : Ints w v xs) :
    Calls Try.prog 94 #[v, .int .i64 x] w fun e w' => e = .returned (.bool (decide (x ∈ xs))) ∧ w' = w := by
  obtain ⟨a, n, c, rfl, H⟩ := h.parts
  have hlen := Lib.hid H.len
  have hcap := H.cap
  have hmost := H.most
  unfold maxLen at hmost
  clear h
  go_enter Try.func94, Try.ntmps94
  go_wp2
  go_loop [9] (fun i => ∃ k : Nat, k ≤ n ∧ i = .int .i64 k ∧ AllTo (fun j => !(xs.getD j 0 == x)) k) (fun i => n - (intOf i).toNat)
  case atStart => exact ⟨0, Nat.zero_le _, rfl, allTo_zero _⟩
  case round =>
    obtain ⟨k, hk, rfl, hall⟩ := hrel
    by_cases hlt : k < n
    · obtain ⟨b, o, ha, hbb, hc⟩ := H.cells (by omega)
      subst ha
      obtain ⟨y, hy⟩ := at_of (xs := xs) (k := k) (by have := hlen.out; omega)
      have hcell := hc k y hy
      have HH := Lib.hid H
      have HY := Lib.hid hy
      clear hc hy H
      by_cases hxy : x = y
      · subst hxy
        have hfin := Lib.hid (mem_at HY.out)
        go_wp2
        go_ret
        exact ⟨rb (decide_eq_true hfin.out).symm, rfl⟩
      · have hb : (x == y) = false := by simpa using hxy
        have hnext := hall.succ (by simp only [getD_of HY.out]; simp; exact fun e => hxy e.symm)
        go_wp2
        go_round
        case rel => exact ⟨k + 1, by omega, by go_num, hnext⟩
        case measure => simp [intOf]; omega
    · have hfin := Lib.hid (not_mem_of (x := x) (xs := xs) (fun j hj => hall j (by have := hlen.out; omega)))
      clear H
      go_wp2
      go_ret
      exact ⟨rb (decide_eq_false hfin.out).symm, rfl⟩

set_option maxHeartbeats 400000 in
theorem spec_has {v : Value} {xs : List Int} {w : World} (x : Int) (h : Ints w v xs) :
    Calls Try.prog 103 #[v, .int .i64 x] w fun e w' => e = .returned (.bool (decide (x ∈ xs))) ∧ w' = w := by
  obtain ⟨a, n, c, rfl, H⟩ := h.parts
  have hlen := Lib.hid H.len
  have hcap := H.cap
  have hmost := H.most
  unfold maxLen at hmost
  clear h
  go_enter Try.func103, Try.ntmps103
  go_wp2
  go_loop [5] (fun i => ∃ k : Nat, k ≤ n ∧ i = .int .i64 k ∧ AllTo (fun j => !(xs.getD j 0 == x)) k) (fun i => n - (intOf i).toNat)
  case atStart => exact ⟨0, Nat.zero_le _, rfl, allTo_zero _⟩
  case round =>
    obtain ⟨k, hk, rfl, hall⟩ := hrel
    by_cases hlt : k < n
    · obtain ⟨b, o, ha, hbb, hc⟩ := H.cells (by omega)
      subst ha
      obtain ⟨y, hy⟩ := at_of (xs := xs) (k := k) (by have := hlen.out; omega)
      have hcell := hc k y hy
      have HH := Lib.hid H
      have HY := Lib.hid hy
      clear hc hy H
      by_cases hxy : x = y
      · subst hxy
        have hfin := Lib.hid (mem_at HY.out)
        go_wp2
        go_ret
        exact ⟨rb (decide_eq_true hfin.out).symm, rfl⟩
      · have hb : (y == x) = false := by simpa using (fun e => hxy e.symm : ¬ y = x)
        have hnext := hall.succ (by simp only [getD_of HY.out]; simp; exact fun e => hxy e.symm)
        go_wp2
        go_round
        case rel => exact ⟨k + 1, by omega, by go_num, hnext⟩
        case measure => simp [intOf]; omega
    · have hfin := Lib.hid (not_mem_of (x := x) (xs := xs) (fun j hj => hall j (by have := hlen.out; omega)))
      clear H
      go_wp2
      go_ret
      exact ⟨rb (decide_eq_false hfin.out).symm, rfl⟩

end Go.Proofs.Ythnilifepiihjaa
