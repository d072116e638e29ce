/-
  Strictly increasing numbers, as the spec asks for them: l01Rises.
  Conditions: each lemma names its own.
-/
import Derived.Test.YthnilifepiihjaaRisesA
import Derived.Test.YthnilifepiihjaaRange
namespace Go.Proofs.Ythnilifepiihjaa
open Go.RowKit
set_option linter.unusedVariables false

theorem in_yesB (n lo hi : Int) (h1 : lo ≤ n) (h2 : n ≤ hi) (w : World) : Calls Try.prog 71 #[.int .i64 n, .int .i64 lo, .int .i64 hi] w fun e w' => e = .returned (.bool true) ∧ Below w.heap.size w w' :=
  (in_yes n lo hi h1 h2 w).mono fun _ _ ⟨he, hw⟩ => ⟨he, by rw [← hw]; exact Below.refl _ _⟩
theorem in_noB (n lo hi : Int) (h : n < lo ∨ hi < n) (w : World) : Calls Try.prog 71 #[.int .i64 n, .int .i64 lo, .int .i64 hi] w fun e w' => e = .returned (.bool false) ∧ Below w.heap.size w w' :=
  (in_no n lo hi h w).mono fun _ _ ⟨he, hw⟩ => ⟨he, by rw [← hw]; exact Below.refl _ _⟩
set_option maxRecDepth 100000 in
set_option maxHeartbeats 2000000 in
theorem spec_rises {v : Value} {xs : List Int} {w : World} (top : Int) (ht : 0 ≤ top ∧ top ≤ 1000) (h : Ints w v xs) :
    Calls Try.prog 102 #[v, .int .i64 top] w fun e w' => e = .returned (.bool (risesB 0 (top - 1) xs)) ∧ Below w.heap.size w w' := by
  obtain ⟨t0, t1⟩ := ht
  obtain ⟨a, n, c, rfl, H⟩ := h.parts
  have hlen := Lib.hid H.len
  have hcap := H.cap
  have hmost := H.most
  unfold maxLen at hmost
  have HP := Lib.hid h
  clear h
  go_enter Try.func102, Try.ntmps102
  go_wp2_with fail
  go_loopw [5] (fun i wr => ∃ k : Nat, k ≤ n ∧ i = .int .i64 k ∧ AllTo (risesAt 0 (top - 1) xs) k ∧ Below w.heap.size w wr) (fun i _ => n - (intOf i).toNat)
  case atStart => exact ⟨0, Nat.zero_le _, rfl, allTo_zero _, Below.refl _ _⟩
  case round =>
    clear H
    obtain ⟨k, hk, rfl, hall, BB⟩ := hrel
    by_cases hlt : k < n
    · obtain ⟨a', n', c', hv, H⟩ := (HP.out.below BB).parts
      injection hv with hv1 hv2 hv3
      subst hv1 hv2 hv3
      obtain ⟨b, o, ha, hbb, hc⟩ := H.cells (by omega)
      subst ha
      obtain ⟨x, hx⟩ := at_of (xs := xs) (k := k) (by have := hlen.out; omega)
      have hcell := hc k x hx
      by_cases h0 : k = 0
      · subst h0
        rw [Nat.add_zero] at hcell
        have hr := risesAt_zero (lo := 0) (hi := top - 1) hx
        have HX := Lib.hid hx
        clear hc H hx
        by_cases h1 : 0 ≤ x ∧ x ≤ top - 1
        · have hnext := hall.succ (by rw [hr]; simp [h1.1, h1.2])
          have HI := Lib.hid (fun w => in_yesB x 0 (top - 1) h1.1 h1.2 w)
          clear hr
          go_wp2_with fail
          refine region_ext (by kernel_rfl) (by kernel_rfl) ?_
          repeat (go_big_quiet_step ((with_reducible_and_instances exact ext_call (HI.out _))))
          refine wpQuiet_nil ?_
          rintro _ ⟨nx, rfl⟩
          have b3 := ext_below _ nx
          generalize extW _ nx = w3 at *
          replace BB := below_next BB (Nat.le_refl _) b3
          clear hcell
          go_wp2_with fail
          go_roundw
          case rel => exact ⟨1, by omega, by go_num, hnext, BB⟩
          case measure => simp [intOf]; omega
        · have hfin := Lib.hid (allB_false hlt (show risesAt 0 (top - 1) xs 0 = false by rw [hr]; simp; omega))
          have HI := Lib.hid (fun w => in_noB x 0 (top - 1) (by omega) w)
          clear hr h1
          go_wp2_with fail
          refine region_ext (by kernel_rfl) (by kernel_rfl) ?_
          repeat (go_big_quiet_step ((with_reducible_and_instances exact ext_call (HI.out _))))
          refine wpQuiet_nil ?_
          rintro _ ⟨nx, rfl⟩
          have b3 := ext_below _ nx
          generalize extW _ nx = w3 at *
          replace BB := below_next BB (Nat.le_refl _) b3
          clear hcell
          go_wp2_with fail
          go_ret
          exact ⟨rb (by unfold risesB; rw [hlen.out]; exact hfin.out.symm), BB⟩
      · obtain ⟨y, hy⟩ := at_of (xs := xs) (k := k - 1) (by have := hlen.out; omega)
        have hcell' := hc (k - 1) y hy
        have hr := risesAt_succ (lo := 0) (hi := top - 1) (by omega) hx hy
        have hk0 : (0 : Int) < (k : Int) := by omega
        have hk1 : 0 < k := by omega
        have hk2 : decide (0 < k) = true := decide_eq_true hk1
        have HX := Lib.hid hx
        have HY := Lib.hid hy
        clear hc H hx hy
        by_cases h1 : 0 ≤ x ∧ x ≤ top - 1
        · have HI := Lib.hid (fun w => in_yesB x 0 (top - 1) h1.1 h1.2 w)
          by_cases h3 : y < x
          · have hnext := hall.succ (by rw [hr]; simp [h1.1, h1.2, h3])
            have h3' : decide (x ≤ y) = false := decide_eq_false (by omega)
            clear hr
            go_wp2_with fail
            refine region_ext (by kernel_rfl) (by kernel_rfl) ?_
            repeat (go_big_quiet_step ((with_reducible_and_instances exact ext_call (HI.out _))))
            refine wpQuiet_nil ?_
            rintro _ ⟨nx, rfl⟩
            have b3 := ext_below _ nx
            generalize extW _ nx = w3 at *
            replace BB := below_next BB (Nat.le_refl _) b3
            clear hcell hcell'
            go_wp2_with fail
            go_roundw
            case rel => exact ⟨k + 1, by omega, by go_num, hnext, BB⟩
            case measure => simp [intOf]; omega
          · have hfin := Lib.hid (allB_false hlt (show risesAt 0 (top - 1) xs k = false by rw [hr]; simp [h3]))
            have h3' : decide (x ≤ y) = true := decide_eq_true (by omega)
            clear hr
            go_wp2_with fail
            refine region_ext (by kernel_rfl) (by kernel_rfl) ?_
            repeat (go_big_quiet_step ((with_reducible_and_instances exact ext_call (HI.out _))))
            refine wpQuiet_nil ?_
            rintro _ ⟨nx, rfl⟩
            have b3 := ext_below _ nx
            generalize extW _ nx = w3 at *
            replace BB := below_next BB (Nat.le_refl _) b3
            clear hcell hcell'
            go_wp2_with fail
            go_ret
            exact ⟨rb (by unfold risesB; rw [hlen.out]; exact hfin.out.symm), BB⟩
        · have hfin := Lib.hid (allB_false hlt (show risesAt 0 (top - 1) xs k = false by rw [hr]; simp; omega))
          have HI := Lib.hid (fun w => in_noB x 0 (top - 1) (by omega) w)
          clear hr h1
          go_wp2_with fail
          refine region_ext (by kernel_rfl) (by kernel_rfl) ?_
          repeat (go_big_quiet_step ((with_reducible_and_instances exact ext_call (HI.out _))))
          refine wpQuiet_nil ?_
          rintro _ ⟨nx, rfl⟩
          have b3 := ext_below _ nx
          generalize extW _ nx = w3 at *
          replace BB := below_next BB (Nat.le_refl _) b3
          clear hcell hcell'
          go_wp2_with fail
          go_ret
          exact ⟨rb (by unfold risesB; rw [hlen.out]; exact hfin.out.symm), BB⟩
    · have hfin := Lib.hid (allB_true (n := n) (fun j hj => hall j (by omega)))
      go_wp2_with fail
      go_ret
      exact ⟨rb (by unfold risesB; rw [hlen.out]; exact hfin.out.symm), BB⟩
end Go.Proofs.Ythnilifepiihjaa
