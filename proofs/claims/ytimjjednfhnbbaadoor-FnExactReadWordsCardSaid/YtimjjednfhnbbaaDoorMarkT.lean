/-
  Slices of texts: how they are marked and looked through.
  Conditions: each lemma names its own.
-/
import Derived.Test.YtimjjednfhnbbaaDoorStrArg
import Derived.Test.YtimjjednfhnbbaaDoorMarkText
namespace Go.Proofs.YtimjjednfhnbbaaDoor
open Go.RowKit
set_option linter.unusedVariables false

/-- The marks k, k + 1, .. as texts. -/
def tmarks (k n : Nat) : List ByteArray := (List.range n).map fun j => mt (k + j)
theorem tmarks_len (k n : Nat) : (tmarks k n).length = n := by simp [tmarks]
theorem tmarks_at (k : Nat) {n j : Nat} (h : j < n) : (tmarks k n)[j]? = some (mt (k + j)) := by simp [tmarks, h]
/-- The slice v is filled with the texts ss up to place k. -/
def FilledT (base : Nat) (w : World) (v : Value) (ss : List ByteArray) (k : Nat) : Prop :=
  ∃ zs : List Value, zs.length = ss.length ∧ w.ownsRow base 9 1 v ss.length ((ss.take k).map Value.string ++ zs.drop k)
theorem FilledT.below {base : Nat} {w w' : World} {v : Value} {ss : List ByteArray} {k : Nat} (h : FilledT base w v ss k) (hb : Below w.heap.size w w') : FilledT base w' v ss k := by
  obtain ⟨zs, h1, h2⟩ := h
  exact ⟨zs, h1, own_below h2 hb⟩
theorem filledT_start {base : Nat} {w : World} {v : Value} {ss : List ByteArray} {n : Nat} {zs : List Value} (h : w.ownsRow base 9 1 v n zs) (hn : ss.length = n) : FilledT base w v ss 0 := by
  subst hn
  exact ⟨zs, by have := h.1; omega, by simpa using h⟩
theorem FilledT.step {base g n c : Nat} {w : World} {ss : List ByteArray} {k : Nat} {x : ByteArray} (h : FilledT base w (.slice (some ⟨g, 0, none⟩) n c) ss k) (hn : ss.length = n) (hx : ss[k]? = some x) :
    (∃ u, w.cell? ⟨g, k, none⟩ = some u) ∧ w.frozen? ⟨g, k, none⟩ = false ∧ FilledT base (w.setCell ⟨g, k, none⟩ (.string x)) (.slice (some ⟨g, 0, none⟩) n c) ss (k + 1) := by
  subst hn
  obtain ⟨zs, hz, ho⟩ := h
  have hk : k < ss.length := (List.getElem?_eq_some_iff.1 hx).1
  have hc := ho.cellAt k (by omega)
  refine ⟨⟨zs[k]'(by omega), ?_⟩, ho.frozenAt k, zs, hz, ?_⟩
  · rw [hc, List.getElem?_append_right (by simp; omega)]
    simp [show min k ss.length = k by omega]
  · rw [← set_midS _ ss zs k x hx hz.symm]
    exact (ho.stored k _).1
theorem FilledT.full {base : Nat} {w : World} {v : Value} {ss : List ByteArray} (h : FilledT base w v ss ss.length) : OwnT base v ss w := by
  obtain ⟨zs, hz, ho⟩ := h
  rw [List.take_length, List.drop_eq_nil_of_le (by omega), List.append_nil] at ho
  exact ho
set_option maxRecDepth 100000 in
set_option maxHeartbeats 1000000 in
theorem markStringS_c {v : Value} {ss : List ByteArray} {base : Nat} {w : World} (h : OwnT base v ss w) (hb0 : base ≤ w.heap.size) (hn : ss.length ≤ 2000000) :
    Calls Tryd.prog 14 #[v, .int .i64 1] w fun e w' => e = .returned (.int .i64 (1 + (ss.length : Int))) ∧ OwnT base v (tmarks 1 ss.length) w' ∧ Below base w w' := by
  obtain ⟨a, c, rfl, hcap, hmost, ha⟩ := own_form h
  unfold maxLen at hmost
  have hf := filledT_start h (tmarks_len 1 ss.length)
  clear h
  generalize ss.length = n at *
  go_enter Tryd.func14, Tryd.ntmps14
  go_wp2_with fail
  go_loopw [1, 5] (fun q i wr => ∃ j : Nat, j ≤ n ∧ i = .int .i64 j ∧ q = .int .i64 (1 + (j : Int)) ∧ Below base w wr ∧ FilledT base wr (.slice a n c) (tmarks 1 n) j) (fun _ i _ => n - (intOf i).toNat)
  case atStart => exact ⟨0, Nat.zero_le _, rfl, by simp, Below.refl _ _, hf⟩
  case round =>
    obtain ⟨j, hj, rfl, rfl, hb, hfi⟩ := hrel
    clear hf
    by_cases hlt : j < n
    · obtain ⟨g, hg, hbg, hgs⟩ := ha (by omega)
      subst hg
      have HM : Hid (∀ w, Calls Tryd.prog 44 #[.int .i64 (1 + (j : Int))] w fun e w' => e = .returned (.string (mt (1 + j))) ∧ Below w.heap.size w w') := Lib.hid fun w => by
        have := markText_c (1 + j) (by omega) w
        rw [show (((1 + j : Nat)) : Int) = 1 + (j : Int) by omega] at this
        exact this
      have hat := Lib.hid (tmarks_at 1 hlt)
      generalize hmt : mt (1 + j) = t at *
      replace hmt := Lib.hid hmt
      replace hfi := Lib.hid hfi
      replace ha := Lib.hid ha
      go_wp2_with fail
      refine (HM.out _).mono ?_
      rintro e w1 ⟨rfl, b1⟩
      have hf1 := hfi.out.below b1
      have hbb : Below base w w1 := hb.trans (b1.mono (by have := hb.size; omega))
      obtain ⟨⟨u, hu⟩, hfz, hst⟩ := hf1.step (tmarks_len 1 n) hat.out
      have hb' := hbb.setCell (p := ⟨g, j, none⟩) hbg (.string t)
      replace hst := Lib.hid hst
      clear hf1 hfi hb b1 hbb
      go_wp2_with fail
      go_roundw
      case rel => exact ⟨j + 1, by omega, by go_num, by go_num, hb', hst.out⟩
      case measure => simp [intOf]; omega
    · obtain rfl : j = n := by omega
      have hfin : Hid (OwnT base (.slice a j c) (tmarks 1 j) wr) := Lib.hid (by
        have hq : FilledT base wr (.slice a j c) (tmarks 1 j) (tmarks 1 j).length := by rw [tmarks_len]; exact hfi
        exact hq.full)
      clear hfi ha
      go_wp2_with fail
      go_ret
      exact ⟨rfl, hfin.out, hb⟩
set_option maxRecDepth 100000 in
set_option maxHeartbeats 2000000 in
theorem heldStringS_c {v : Value} {n : Nat} {w : World} (h : Strs w v (tmarks 1 n)) (hn : n ≤ 2000000) :
    Calls Tryd.prog 15 #[v, .int .i64 1] w fun e w' => e = .returned (.int .i64 (1 + (n : Int))) ∧ Below w.heap.size w w' := by
  have HP := Lib.hid h
  obtain ⟨a, n', c, rfl, H⟩ := h.parts
  obtain rfl : n' = n := by rw [← H.len]; exact tmarks_len 1 n
  have hcap := H.cap
  have hmost := H.most
  unfold maxLen at hmost
  clear h H
  go_enter Tryd.func15, Tryd.ntmps15
  go_wp2_with fail
  go_loopw [1, 5] (fun q i wr => ∃ j : Nat, j ≤ n' ∧ i = .int .i64 j ∧ q = .int .i64 (1 + (j : Int)) ∧ Below w.heap.size w wr) (fun _ i _ => n' - (intOf i).toNat)
  case atStart => exact ⟨0, Nat.zero_le _, rfl, by simp, Below.refl _ _⟩
  case round =>
    obtain ⟨j, hj, rfl, rfl, BB⟩ := hrel
    by_cases hlt : j < n'
    · obtain ⟨a', n2, c', hv', H⟩ := (HP.out.below BB).parts
      injection hv' with hv1 hv2 hv3
      subst hv1 hv2 hv3
      obtain ⟨b, o, ha, hbb, hc⟩ := H.cells (by omega)
      subst ha
      have hcell := hc j _ (tmarks_at 1 hlt)
      have HM : Hid (∀ w, Calls Tryd.prog 44 #[.int .i64 (1 + (j : Int))] w fun e w' => e = .returned (.string (mt (1 + j))) ∧ Below w.heap.size w w') := Lib.hid fun w => by
        have := markText_c (1 + j) (by omega) w
        rw [show (((1 + j : Nat)) : Int) = 1 + (j : Int) by omega] at this
        exact this
      clear hc H
      generalize mt (1 + j) = t at *
      go_wp2_with fail
      refine region_ext (by kernel_rfl) (by kernel_rfl) ?_
      repeat (go_big_quiet_step (with_reducible_and_instances exact ext_call (HM.out _)))
      refine wpQuiet_nil ?_
      rintro _ ⟨nx, rfl⟩
      have b3 := ext_below _ nx
      generalize extW _ nx = w3 at *
      replace BB := below_next BB (Nat.le_refl _) b3
      clear b3 hcell
      go_wp2_with fail
      go_roundw
      case rel => exact ⟨j + 1, by omega, by go_num, by go_num, BB⟩
      case measure => simp [intOf]; omega
    · obtain rfl : j = n' := by omega
      go_wp2_with fail
      go_ret
      exact ⟨rfl, BB⟩
end Go.Proofs.YtimjjednfhnbbaaDoor
