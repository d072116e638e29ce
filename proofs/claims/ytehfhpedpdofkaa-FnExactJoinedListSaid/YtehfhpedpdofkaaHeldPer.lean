/-
  Slices of persons that were marked: how they are looked through again.
  Conditions: each lemma names its own.
-/
import Derived.Test.YtehfhpedpdofkaaMarkPer
import Derived.Test.YtehfhpedpdofkaaPersLik
namespace Go.Proofs.Ytehfhpedpdofkaa
open Go.RowKit
set_option linter.unusedVariables false

set_option maxRecDepth 100000 in
set_option maxHeartbeats 2000000 in
theorem heldPersonS_c {v : Value} {n : Nat} {w : World} (k : Nat) (h : Persons w v (pmarks k n)) (hk : k + 5 * n ≤ 100000000) :
    Calls Try.prog 28 #[v, .int .i64 (k : Int)] w fun e w' => e = .returned (.int .i64 ((k + 5 * n : Nat) : Int)) ∧ Below w.heap.size w w' := by
  obtain ⟨a, n', c, rfl, H⟩ := h.parts
  obtain rfl : n' = n := by rw [← H.len]; exact pmarks_len k n
  have hcap := H.cap
  have hmost := H.most
  unfold maxLen at hmost
  clear H
  have HP := Lib.hid h
  clear h
  go_enter Try.func28, Try.ntmps28
  go_wp2_with fail
  go_loopw [1, 5] (fun q i wr => ∃ j : Nat, j ≤ n' ∧ i = .int .i64 j ∧ q = .int .i64 ((k + 5 * j : Nat) : Int) ∧ Below w.heap.size w wr) (fun _ i _ => n' - (intOf i).toNat)
  case atStart => exact ⟨0, Nat.zero_le _, rfl, by simp, Below.refl _ _⟩
  case round =>
    obtain ⟨j, hj, rfl, rfl, BB⟩ := hrel
    by_cases hlt : j < n'
    · have hx := pmarks_at k hlt
      have hkj : ((k + 5 * j : Nat) : Int) + 5 ≤ 100000000 := by omega
      have hkj0 : 0 ≤ ((k + 5 * j : Nat) : Int) := by omega
      generalize hK : k + 5 * j = K at *
      have HK := Lib.hid hK
      clear hK
      have hform := HP.out.form.2.2.2 (by omega)
      obtain ⟨b, o, rfl⟩ := hform
      obtain ⟨hbb, c0, c1, c2, c3, c4⟩ := (HP.out.below BB).at_ hx
      have HX := Lib.hid hx
      clear hx
      have e3 : (pmark K).born = (K : Int) + 1 + 1 + 1 := by show ((K + 3 : Nat) : Int) = _; omega
      have e4 : (pmark K).zone = (K : Int) + 1 + 1 + 1 + 1 := by show ((K + 4 : Nat) : Int) = _; omega
      have e0 : (pmark K).number = (K : Int) := rfl
      have e1 : (pmark K).first = mt (K + 1) := rfl
      have e2 : (pmark K).last = mt (K + 2) := rfl
      rw [e0] at c0
      rw [e1] at c1
      rw [e2] at c2
      rw [e3] at c3
      rw [e4] at c4
      clear e0 e1 e2 e3 e4
      have M1 := Lib.hid (fun w => mark_i (K + 1) ((K : Int) + 1) (by omega) (by omega) w)
      have M2 := Lib.hid (fun w => mark_i (K + 2) ((K : Int) + 1 + 1) (by omega) (by omega) w)
      generalize mt (K + 1) = s1 at *
      generalize mt (K + 2) = s2 at *
      go_wp2_with fail
      refine region_ext (by kernel_rfl) (by kernel_rfl) ?_
      repeat (go_big_quiet_step ((with_reducible_and_instances exact ext_call (M1.out _))))
      refine wpQuiet_nil ?_
      rintro _ ⟨nx, rfl⟩
      have b3 := ext_below _ nx
      have hs3 := b3.size
      replace c2 := (b3.cell (p := ⟨b, o + j * 5 + 2, none⟩) hbb).trans c2
      replace c3 := (b3.cell (p := ⟨b, o + j * 5 + 3, none⟩) hbb).trans c3
      replace c4 := (b3.cell (p := ⟨b, o + j * 5 + 4, none⟩) hbb).trans c4
      replace hbb := Nat.lt_of_lt_of_le hbb hs3
      clear c0 c1 hs3
      generalize extW _ nx = w3 at *
      replace BB := below_next BB (Nat.le_refl _) b3
      clear b3 nx
      go_wp2_with fail
      refine region_ext (by kernel_rfl) (by kernel_rfl) ?_
      repeat (go_big_quiet_step ((with_reducible_and_instances exact ext_call (M2.out _))))
      refine wpQuiet_nil ?_
      rintro _ ⟨nx, rfl⟩
      have b3 := ext_below _ nx
      replace c3 := (b3.cell (p := ⟨b, o + j * 5 + 3, none⟩) hbb).trans c3
      replace c4 := (b3.cell (p := ⟨b, o + j * 5 + 4, none⟩) hbb).trans c4
      clear c2
      generalize extW _ nx = w4 at *
      replace BB := below_next BB (Nat.le_refl _) b3
      clear b3 nx hbb
      go_wp2_with fail
      clear c3 c4
      go_roundw
      case rel =>
        have hKK := HK.out
        exact ⟨j + 1, by omega, by go_num, by rw [← hKK]; go_num, BB⟩
      case measure => simp [intOf]; omega
    · obtain rfl : j = n' := by omega
      go_wp2_with fail
      go_ret
      exact ⟨rfl, BB⟩
end Go.Proofs.Ytehfhpedpdofkaa
