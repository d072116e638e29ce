/-
  Two slices that read as the same persons are equal to a law.
  Conditions: each lemma names its own.
-/
import Derived.Test.YtehfhpedpdofkaaPersCopy
namespace Go.Proofs.Ytehfhpedpdofkaa
open Go.RowKit

theorem eqPerson_same (p : Per) (w : World) : Calls Try.prog 54 #[.agg #[.int .i64 p.number, .string p.first, .string p.last, .int .i64 p.born, .int .i64 p.zone], .agg #[.int .i64 p.number, .string p.first, .string p.last, .int .i64 p.born, .int .i64 p.zone]] w fun e w' => e = .returned (.bool true) ∧ Below w.heap.size w w' := by
  go_enter Try.func54, Try.ntmps54
  go_wp2
  go_ret
  exact ⟨rfl, by go_grown⟩

set_option maxHeartbeats 1000000 in
theorem eqPersonS_same {v u : Value} {ps : List Per} {w : World} (h : Persons w v ps) (g : Persons w u ps) :
    Calls Try.prog 15 #[v, u] w fun e w' => e = .returned (.bool true) ∧ Below w.heap.size w w' := by
  obtain ⟨a, n, c, rfl, H⟩ := h.parts
  obtain ⟨a', n', c', rfl, H'⟩ := g.parts
  obtain rfl : n = n' := by rw [← H.len, ← H'.len]
  have hlen := Lib.hid H.len
  have hcap := H.cap
  have hmost := H.most
  have hcap' := H'.cap
  have hmost' := H'.most
  unfold maxLen at hmost hmost'
  clear H H'
  have HP := Lib.hid h
  have HG := Lib.hid g
  clear h g
  go_enter Try.func15, Try.ntmps15
  go_wp2_with fail
  go_loopw [5] (fun i wr => ∃ k : Nat, k ≤ n ∧ i = .int .i64 k ∧ Below w.heap.size w wr) (fun i _ => n - (intOf i).toNat)
  case atStart => exact ⟨0, Nat.zero_le _, rfl, Below.refl _ _⟩
  case round =>
    obtain ⟨k, hk, rfl, BB⟩ := hrel
    rename_i wr
    by_cases hlt : k < n
    · obtain ⟨p, hx⟩ := per_at (ps := ps) (k := k) (by have := hlen.out; omega)
      obtain ⟨a1, n1, c1, hv, H⟩ := (HP.out.below BB).parts
      injection hv with hv1 hv2 hv3
      subst hv1 hv2 hv3
      obtain ⟨b, o, ha, hbb, hc⟩ := H.cells (by omega)
      subst ha
      obtain ⟨c0, c1, c2, c3, c4⟩ := hc k p hx
      obtain ⟨a2, n2, c2', hv, H'⟩ := (HG.out.below BB).parts
      injection hv with hv1 hv2 hv3
      subst hv1 hv2 hv3
      obtain ⟨b', o', ha, hbb', hc'⟩ := H'.cells (by omega)
      subst ha
      obtain ⟨d0, d1, d2, d3, d4⟩ := hc' k p hx
      clear hc H hc' H' hx
      go_wp2_with fail
      refine region_ext (by kernel_rfl) (by kernel_rfl) ?_
      repeat (go_big_quiet_step ((with_reducible_and_instances exact ext_call (eqPerson_same p _))))
      refine wpQuiet_nil ?_
      rintro _ ⟨nx, rfl⟩
      have b3 := ext_below _ nx
      generalize extW _ nx = w3 at *
      replace BB := below_next BB (Nat.le_refl _) b3
      clear c0 c1 c2 c3 c4 d0 d1 d2 d3 d4
      go_wp2_with fail
      go_roundw
      case rel => exact ⟨k + 1, by omega, by go_num, BB⟩
      case measure => simp [intOf]; omega
    · go_wp2_with fail
      go_ret
      exact ⟨rfl, BB⟩
theorem copyPersons {v : Value} {ps : List Per} {w : World} (h : Persons w v ps) (hn : ps.length ≤ 1048576) :
    Calls Try.prog 13 #[v] w fun e w' => ∃ v', e = .returned v' ∧ Persons w' v' ps ∧ Below w.heap.size w w' :=
  (toPersonS_c h hn).mono fun _ _ ⟨v', he, ho, hb⟩ => ⟨v', he, Row.own ho, hb⟩
end Go.Proofs.Ytehfhpedpdofkaa
