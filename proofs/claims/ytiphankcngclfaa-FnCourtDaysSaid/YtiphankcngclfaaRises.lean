/-
  Strictly increasing numbers in a range: increasing and AreHolidays of both packages.
  Conditions: none but that the slice reads as numbers that fit an int64.
-/
import Derived.Test.YtiphankcngclfaaPre
namespace Go.Proofs.Ytiphankcngclfaa
open Go.RowKit

/-- Element j is in the range, and greater than the one before it. -/
def risesAt (lo hi : Int) (xs : List Int) (j : Nat) : Bool := decide (lo ≤ xs.getD j 0) && (decide (xs.getD j 0 ≤ hi) && (j == 0 || decide (xs.getD (j - 1) 0 < xs.getD j 0)))
def risesB (lo hi : Int) (xs : List Int) : Bool := allB (risesAt lo hi xs) xs.length

theorem risesAt_zero {lo hi : Int} {xs : List Int} {x : Int} (hx : xs[0]? = some x) : risesAt lo hi xs 0 = (decide (lo ≤ x) && decide (x ≤ hi)) := by
  unfold risesAt
  rw [getD_of hx]
  simp
theorem risesAt_succ {lo hi : Int} {xs : List Int} {k : Nat} {x y : Int} (hk : 0 < k) (hx : xs[k]? = some x) (hy : xs[k - 1]? = some y) : risesAt lo hi xs k = (decide (lo ≤ x) && (decide (x ≤ hi) && decide (y < x))) := by
  unfold risesAt
  rw [getD_of hx, getD_of hy]
  have : (k == 0) = false := by simp; omega
  simp [this]

set_option maxHeartbeats 800000 in
theorem impl_increasing {v : Value} {xs : List Int} {w : World} (lo hi : Int) (h : Ints w v xs) :
    Calls Try.prog 56 #[v, .int .i64 lo, .int .i64 hi] w fun e w' => e = .returned (.bool (risesB lo hi xs)) ∧ ∃ m, w' = w.drewN m := by
  obtain ⟨a, n, c, rfl, H⟩ := h.parts
  have hlen := Lib.hid H.len
  have hcap := H.cap
  have hmost := H.most
  unfold maxLen at hmost
  go_enter Try.func56, Try.ntmps56
  go_wp2
  go_loop [11] (fun i => ∃ k : Nat, k ≤ n ∧ i = .int .i64 k ∧ AllTo (risesAt lo hi xs) k) (fun i => n - (intOf i).toNat)
  case atStart => exact ⟨0, Nat.zero_le _, rfl, allTo_zero _⟩
  case round =>
    obtain ⟨k, hk, rfl, hall⟩ := hrel
    by_cases hlt : k < n
    · obtain ⟨b, o, ha, hbb, hc⟩ := H.cells (by omega)
      subst ha
      obtain ⟨x, hx⟩ := at_of (xs := xs) (k := k) (by have := hlen.out; omega)
      have hcell := hc k x hx
      by_cases h0 : k = 0
      · subst h0
        rw [Nat.add_zero] at hcell
        have hr := risesAt_zero (lo := lo) (hi := hi) hx
        have HH := Lib.hid H
        have HX := Lib.hid hx
        clear hc H hx
        by_cases h1 : lo ≤ x
        · by_cases h2 : x ≤ hi
          · have hnext := hall.succ (by rw [hr]; simp [h1, h2])
            clear hr
            go_wp2
            go_round
            case rel => exact ⟨1, by omega, by go_num, hnext⟩
            case measure => simp [intOf]; omega
          · have hfin := Lib.hid (allB_false hlt (show risesAt lo hi xs 0 = false by rw [hr]; simp [h2]))
            clear hr
            go_wp2
            go_ret
            exact ⟨rb (by unfold risesB; rw [hlen.out]; exact hfin.out.symm), 0, rfl⟩
        · have hfin := Lib.hid (allB_false hlt (show risesAt lo hi xs 0 = false by rw [hr]; simp [h1]))
          clear hr
          go_wp2
          go_ret
          exact ⟨rb (by unfold risesB; rw [hlen.out]; exact hfin.out.symm), 0, rfl⟩
      · obtain ⟨y, hy⟩ := at_of (xs := xs) (k := k - 1) (by have := hlen.out; omega)
        have hcell' := hc (k - 1) y hy
        have hr := risesAt_succ (lo := lo) (hi := hi) (by omega) hx hy
        have hk0 : (0 : Int) < (k : Int) := by omega
        have HH := Lib.hid H
        have HX := Lib.hid hx
        have HY := Lib.hid hy
        clear hc H hx hy
        by_cases h1 : lo ≤ x
        · by_cases h2 : x ≤ hi
          · by_cases h3 : y < x
            · have hnext := hall.succ (by rw [hr]; simp [h1, h2, h3])
              clear hr
              go_wp2
              go_round
              case rel => exact ⟨k + 1, by omega, by go_num, hnext⟩
              case measure => simp [intOf]; omega
            · have hfin := Lib.hid (allB_false hlt (show risesAt lo hi xs k = false by rw [hr]; simp [h3]))
              clear hr
              go_wp2
              go_ret
              exact ⟨rb (by unfold risesB; rw [hlen.out]; exact hfin.out.symm), 0, rfl⟩
          · have hfin := Lib.hid (allB_false hlt (show risesAt lo hi xs k = false by rw [hr]; simp [h2]))
            clear hr
            go_wp2
            go_ret
            exact ⟨rb (by unfold risesB; rw [hlen.out]; exact hfin.out.symm), 0, rfl⟩
        · have hfin := Lib.hid (allB_false hlt (show risesAt lo hi xs k = false by rw [hr]; simp [h1]))
          clear hr
          go_wp2
          go_ret
          exact ⟨rb (by unfold risesB; rw [hlen.out]; exact hfin.out.symm), 0, rfl⟩
    · have hfin := Lib.hid (allB_true (n := n) (fun j hj => hall j (by omega)))
      clear H
      go_wp2
      go_ret
      exact ⟨rb (by unfold risesB; rw [hlen.out]; exact hfin.out.symm), 0, rfl⟩
/-- Holidays: at most 40 days, strictly increasing. -/
def holB (xs : List Int) : Bool := decide (xs.length ≤ 40) && risesB 0 20000 xs

theorem impl_AreHolidays {v : Value} {xs : List Int} {w : World} (h : Ints w v xs) :
    Calls Try.prog 36 #[v] w fun e w' => e = .returned (.bool (holB xs)) ∧ ∃ m, w' = w.drewN m := by
  obtain ⟨a, n, c, rfl, H⟩ := h.parts
  have hlen := Lib.hid H.len
  have hcap := H.cap
  have hmost := H.most
  unfold maxLen at hmost
  clear H
  by_cases hn : n ≤ 40
  · go_enter Try.func36, Try.ntmps36
    go_wp2_with (first | (go_at_call 56; refine (impl_increasing _ _ h).mono ?_; rintro e w' ⟨rfl, m, rfl⟩) | go_in)
    go_ret
    exact ⟨rb (by unfold holB; rw [hlen.out]; simp [hn]), m, rfl⟩
  · go_enter Try.func36, Try.ntmps36
    go_wp2
    go_ret
    exact ⟨rb (by unfold holB; rw [hlen.out]; simp [hn]), 0, rfl⟩

theorem l02Is_yes (n : Int) (h1 : 0 ≤ n) (h2 : n ≤ 20000) (w : World) : Calls Try.prog 57 #[.int .i64 n] w fun e w' => e = .returned (.bool true) ∧ w' = w := by
  go_enter Try.func57, Try.ntmps57
  go_wp2
  go_ret
  exact ⟨rfl, rfl⟩
theorem l02Is_no (n : Int) (h : n < 0 ∨ 20000 < n) (w : World) : Calls Try.prog 57 #[.int .i64 n] w fun e w' => e = .returned (.bool false) ∧ w' = w := by
  rcases h with h | h
  · go_enter Try.func57, Try.ntmps57
    go_wp2
    go_ret
    exact ⟨rfl, rfl⟩
  · have h' : 0 ≤ n := by omega
    go_enter Try.func57, Try.ntmps57
    go_wp2
    go_ret
    exact ⟨rb (decide_eq_false (by omega)), rfl⟩

set_option maxHeartbeats 1000000 in
theorem spec_AreHolidays {v : Value} {xs : List Int} {w : World} (h : Ints w v xs) :
    Calls Try.prog 37 #[v] w fun e w' => e = .returned (.bool (holB xs)) ∧ ∃ m, w' = w.drewN m := by
  obtain ⟨a, n, c, rfl, H⟩ := h.parts
  have hlen := Lib.hid H.len
  have hcap := H.cap
  have hmost := H.most
  unfold maxLen at hmost
  clear h
  go_enter Try.func37, Try.ntmps37
  go_wp2
  go_loopw [3] (fun i wr => ∃ k m : Nat, k ≤ n ∧ i = .int .i64 k ∧ wr = w.drewN m ∧ AllTo (risesAt 0 20000 xs) k) (fun i _ => n - (intOf i).toNat)
  case atStart => exact ⟨0, 0, Nat.zero_le _, rfl, rfl, allTo_zero _⟩
  case round =>
    obtain ⟨k, m, hk, rfl, rfl, hall⟩ := hrel
    by_cases hlt : k < n
    · obtain ⟨b, o, ha, hbb, hc⟩ := H.cells (by omega)
      subst ha
      obtain ⟨x, hx⟩ := at_of (xs := xs) (k := k) (by have := hlen.out; omega)
      have hcell := hc k x hx
      by_cases hr : 0 ≤ x ∧ x ≤ 20000
      · obtain ⟨h1, h2⟩ := hr
        by_cases h0 : k = 0
        · subst h0
          rw [Nat.add_zero] at hcell
          have hr := risesAt_zero (lo := 0) (hi := 20000) hx
          have hnext := hall.succ (by rw [hr]; simp [h1, h2])
          have HH := Lib.hid H
          have HX := Lib.hid hx
          clear hc H hx hr
          have hk0 : decide ((0 : Int) < ((0 : Nat) : Int)) = false := by simp
          go_wp2
          go_quiet ((go_at_call 57; first | exact Calls.quiet_of_same (l02Is_yes _ h1 h2 _) | exact quiet_add_same (l02Is_yes _ h1 h2 _)))
          go_wp2
          go_roundw
          case rel => exact ⟨1, _, by omega, by go_num, rfl, hnext⟩
          case measure => simp [intOf]; omega
        · obtain ⟨y, hy⟩ := at_of (xs := xs) (k := k - 1) (by have := hlen.out; omega)
          have hcell' := hc (k - 1) y hy
          have hr := risesAt_succ (lo := 0) (hi := 20000) (by omega) hx hy
          have hk0 : 0 < k := by omega
          have hk1 : (0 : Int) ≤ (k : Int) - 1 := by omega
          have HH := Lib.hid H
          have HX := Lib.hid hx
          have HY := Lib.hid hy
          clear hc H hx hy
          by_cases h3 : y < x
          · have hnext := hall.succ (by rw [hr]; simp [h1, h2, h3])
            clear hr
            go_wp2
            go_quiet ((go_at_call 57; first | exact Calls.quiet_of_same (l02Is_yes _ h1 h2 _) | exact quiet_add_same (l02Is_yes _ h1 h2 _)))
            go_wp2
            go_roundw
            case rel => exact ⟨k + 1, _, by omega, by go_num, rfl, hnext⟩
            case measure => simp [intOf]; omega
          · have hfin := Lib.hid (allB_false hlt (show risesAt 0 20000 xs k = false by rw [hr]; simp [h3]))
            have h3' : x ≤ y := by omega
            clear hr
            go_wp2
            go_quiet ((go_at_call 57; first | exact Calls.quiet_of_same (l02Is_yes _ h1 h2 _) | exact quiet_add_same (l02Is_yes _ h1 h2 _)))
            go_wp2
            go_ret
            exact ⟨rb (by unfold holB risesB; rw [hlen.out, hfin.out]; simp), _, World.drewN_drewN _ _ _⟩
      · have hr' : x < 0 ∨ 20000 < x := by omega
        have hfin := Lib.hid (allB_false hlt (show risesAt 0 20000 xs k = false by unfold risesAt; rw [getD_of hx]; rcases hr' with hh | hh <;> simp <;> omega))
        have HH := Lib.hid H
        have HX := Lib.hid hx
        clear hc H hx hr
        have HR := Lib.hid hr'
        clear hr'
        go_wp2
        go_quiet ((go_at_call 57; first | exact Calls.quiet_of_same (l02Is_no _ HR.out _) | exact quiet_add_same (l02Is_no _ HR.out _)))
        go_wp2
        go_ret
        exact ⟨rb (by unfold holB risesB; rw [hlen.out, hfin.out]; simp), _, World.drewN_drewN _ _ _⟩
    · have hfin := Lib.hid (allB_true (n := n) (fun j hj => hall j (by omega)))
      clear H
      by_cases h4 : n ≤ 40
      · go_wp2
        go_ret
        exact ⟨rb (by unfold holB risesB; rw [hlen.out, hfin.out]; simp [h4]; try omega), _, rfl⟩
      · go_wp2
        go_ret
        exact ⟨rb (by unfold holB risesB; rw [hlen.out, hfin.out]; simp [h4]; try omega), _, rfl⟩
end Go.Proofs.Ytiphankcngclfaa
