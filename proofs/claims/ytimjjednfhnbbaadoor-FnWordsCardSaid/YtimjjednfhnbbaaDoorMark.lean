/-
  Slices of int64 that a call makes for itself: how they are filled, marked and looked through again.
  Conditions: each lemma names its own.
-/
import Derived.Test.YtimjjednfhnbbaaDoorOwn
namespace Go.Proofs.YtimjjednfhnbbaaDoor
open Go.RowKit

set_option maxHeartbeats 400000 in
theorem mark_c {v : Value} {n : Nat} {cs : List Value} {base : Nat} {w : World} (k : Int) (h : w.ownsRow base 2 1 v n cs) (hk0 : 0 ≤ k) (hk1 : k ≤ 4294967296) (hn : n ≤ 1073741824) :
    Calls Tryd.prog 26 #[v, .int .i64 k] w fun e w' => e = .returned (.int .i64 (k + n)) ∧ w'.ownsRow base 2 1 v n ((marks k n).map (Value.int .i64)) ∧ Below base w w' := by
  obtain ⟨a, c, rfl, hcap, hmost, ha⟩ := own_form h
  unfold maxLen at hmost
  have hf := filled_start h (marks_len k n)
  clear h
  go_enter Tryd.func26, Tryd.ntmps26
  go_wp2
  go_loopw [1, 5] (fun q i wr => ∃ j : Nat, j ≤ n ∧ i = .int .i64 j ∧ q = .int .i64 (k + j) ∧ Below base w wr ∧ Filled base wr (.slice a n c) (marks k n) j) (fun _ i _ => n - (intOf i).toNat)
  case atStart => exact ⟨0, Nat.zero_le _, rfl, by simp, Below.refl _ _, hf⟩
  case round =>
    obtain ⟨j, hj, rfl, rfl, hb, hfi⟩ := hrel
    clear hf
    by_cases hlt : j < n
    · obtain ⟨g, hg, hbg, _⟩ := ha (by omega)
      subst hg
      obtain ⟨⟨u, hu⟩, hfz, hst⟩ := hfi.step (marks_len k n) (marks_at k hlt)
      have hb' := hb.setCell (p := ⟨g, j, none⟩) hbg (.int .i64 (k + j))
      have HA := Lib.hid ha
      clear hfi ha
      go_wp2
      go_roundw
      case rel => exact ⟨j + 1, by omega, by go_num, by go_num, hb', hst⟩
      case measure => simp [intOf]; omega
    · obtain rfl : j = n := by omega
      have hl := marks_len k j
      have hfin : wr.ownsRow base 2 1 (.slice a j c) j ((marks k j).map (Value.int .i64)) := by
        have hq : Filled base wr (.slice a j c) (marks k j) (marks k j).length := by rw [hl]; exact hfi
        have := hq.full
        rw [hl] at this
        exact this
      clear hfi hl ha
      go_wp2
      go_ret
      exact ⟨rfl, hfin, hb⟩

set_option maxHeartbeats 400000 in
theorem held_c {v : Value} {n : Nat} {w : World} (k : Int) (h : Ints w v (marks k n)) (hk0 : 0 ≤ k) (hk1 : k ≤ 4294967296) (hn : n ≤ 1073741824) :
    Calls Tryd.prog 27 #[v, .int .i64 k] w fun e w' => e = .returned (.int .i64 (k + n)) ∧ ∃ m, w' = w.drewN m := by
  obtain ⟨a, n', c, rfl, H⟩ := h.parts
  obtain rfl : n' = n := by rw [← H.len]; exact marks_len k n
  have hcap := H.cap
  have hmost := H.most
  unfold maxLen at hmost
  clear h
  go_enter Tryd.func27, Tryd.ntmps27
  go_wp2
  go_loop [1, 5] (fun q i => ∃ j : Nat, j ≤ n' ∧ i = .int .i64 j ∧ q = .int .i64 (k + j)) (fun _ i => n' - (intOf i).toNat)
  case atStart => exact ⟨0, Nat.zero_le _, rfl, by simp⟩
  case round =>
    obtain ⟨j, hj, rfl, rfl⟩ := hrel
    by_cases hlt : j < n'
    · obtain ⟨b, o, ha, hbb, hc⟩ := H.cells (by omega)
      subst ha
      have hcell := hc j _ (marks_at k hlt)
      have HH := Lib.hid H
      clear hc H
      go_wp2
      go_round
      case rel => exact ⟨j + 1, by omega, by go_num, by go_num⟩
      case measure => simp [intOf]; omega
    · obtain rfl : j = n' := by omega
      clear H
      go_wp2
      go_ret
      exact ⟨rfl, 0, rfl⟩
end Go.Proofs.YtimjjednfhnbbaaDoor
