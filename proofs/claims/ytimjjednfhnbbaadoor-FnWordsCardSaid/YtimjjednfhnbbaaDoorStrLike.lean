/-
  likeTexts: two slices that read as the same texts.
  Conditions: none but that both read so.
-/
import Derived.Test.YtimjjednfhnbbaaDoorStr
namespace Go.Proofs.YtimjjednfhnbbaaDoor
open Go.RowKit
set_option linter.unusedVariables false

set_option maxHeartbeats 1000000 in
theorem likeTexts_c {v u : Value} {ss : List ByteArray} {w : World} (h : Strs w v ss) (g : Strs w u ss) :
    Calls Tryd.prog 33 #[v, u] w fun e w' => e = .returned (.bool true) ∧ Below w.heap.size w w' := by
  obtain ⟨a, n, c, rfl, H⟩ := h.parts
  obtain ⟨a', n', c', rfl, H'⟩ := g.parts
  have hlen := Lib.hid H.len
  obtain rfl : n = n' := by rw [← H.len, ← H'.len]
  have hcap := H.cap
  have hmost := H.most
  have hcap' := H'.cap
  have hmost' := H'.most
  unfold maxLen at hmost hmost'
  clear h g
  go_enter Tryd.func33, Tryd.ntmps33
  go_wp2_with fail
  go_loopw [5] (fun i wr => ∃ k m : Nat, k ≤ n ∧ i = .int .i64 k ∧ wr = w.drewN m) (fun i _ => n - (intOf i).toNat)
  case atStart => exact ⟨0, 0, Nat.zero_le _, rfl, rfl⟩
  case round =>
    obtain ⟨k, m, hk, rfl, rfl⟩ := hrel
    by_cases hlt : k < n
    · obtain ⟨b, o, ha, hbb, hc⟩ := H.cells (by omega)
      obtain ⟨b', o', ha', hbb', hc'⟩ := H'.cells (by omega)
      subst ha
      subst ha'
      obtain ⟨x, hx⟩ := str_at (ss := ss) (k := k) (by have := hlen.out; omega)
      have hcell := hc k x hx
      have hcell' := hc' k x hx
      have HH := Lib.hid H
      have HH' := Lib.hid H'
      clear hc hc' hx H H'
      go_wp2_with fail
      go_quiet (fail)
      go_wp2_with fail
      go_roundw
      case rel => exact ⟨k + 1, _, by omega, by go_num, rfl⟩
      case measure => simp [intOf]; omega
    · clear H H'
      go_wp2_with fail
      go_ret
      exact ⟨rfl, below_drewN (Below.refl _ _) _⟩
end Go.Proofs.YtimjjednfhnbbaaDoor
