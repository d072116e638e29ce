/-
  Strictly increasing numbers in a range: increasing.
  Conditions: none but that the slice reads as numbers that fit an int64.
-/
import Derived.Test.YthnilifepiihjaaPre
namespace Go.Proofs.Ythnilifepiihjaa
open Go.RowKit

/-- Element j is in the range, and greater than the one before it. -/
def risesAt (lo hi : Int) (xs : List Int) (j : Nat) : Bool := decide (lo ≤ xs.getD j 0) && (decide (xs.getD j 0 ≤ hi) && (j == 0 || decide (xs.getD (j - 1) 0 < xs.getD j 0)))
def risesB (lo hi : Int) (xs : List Int) : Bool := allB (risesAt lo hi xs) xs.length

theorem risesAt_zero {lo hi : Int} {xs : List Int} {x : Int} (hx : xs[0]? = some x) : risesAt lo hi xs 0 = (decide (lo ≤ x) && decide (x ≤ hi)) := by
  unfold risesAt
  rw [getD_of hx]
  simp
theorem risesAt_succ {lo hi : Int} {xs : List Int} {k : Nat} {x y : Int} (hk : 0 < k) (hx : xs[k]? = some x) (hy : xs[k - 1]? = some y) : risesAt lo hi xs k = (decide (lo ≤ x) && (decide (x ≤ hi) && decide (y < x))) := by
  unfold risesAt
  rw [getD_of hx, getD_of hy]
  have : (k == 0) = false := by simp; omega
  simp [this]

set_option maxHeartbeats 800000 in
theorem impl_increasing {v : Value} {xs : List Int} {w : World} (lo hi : Int) (h : Ints w v xs) :
    Calls Try.prog 93 #[v, .int .i64 lo, .int .i64 hi] w fun e w' => e = .returned (.bool (risesB lo hi xs)) ∧ ∃ m, w' = w.drewN m := by
  obtain ⟨a, n, c, rfl, H⟩ := h.parts
  have hlen := Lib.hid H.len
  have hcap := H.cap
  have hmost := H.most
  unfold maxLen at hmost
  go_enter Try.func93, Try.ntmps93
  go_wp2
  go_loop [11] (fun i => ∃ k : Nat, k ≤ n ∧ i = .int .i64 k ∧ AllTo (risesAt lo hi xs) k) (fun i => n - (intOf i).toNat)
  case atStart => exact ⟨0, Nat.zero_le _, rfl, allTo_zero _⟩
  case round =>
    obtain ⟨k, hk, rfl, hall⟩ := hrel
    by_cases hlt : k < n
    · obtain ⟨b, o, ha, hbb, hc⟩ := H.cells (by omega)
      subst ha
      obtain ⟨x, hx⟩ := at_of (xs := xs) (k := k) (by have := hlen.out; omega)
      have hcell := hc k x hx
      by_cases h0 : k = 0
      · subst h0
        rw [Nat.add_zero] at hcell
        have hr := risesAt_zero (lo := lo) (hi := hi) hx
        have HH := Lib.hid H
        have HX := Lib.hid hx
        clear hc H hx
        by_cases h1 : lo ≤ x
        · by_cases h2 : x ≤ hi
          · have hnext := hall.succ (by rw [hr]; simp [h1, h2])
            clear hr
            go_wp2
            go_round
            case rel => exact ⟨1, by omega, by go_num, hnext⟩
            case measure => simp [intOf]; omega
          · have hfin := Lib.hid (allB_false hlt (show risesAt lo hi xs 0 = false by rw [hr]; simp [h2]))
            clear hr
            go_wp2
            go_ret
            exact ⟨rb (by unfold risesB; rw [hlen.out]; exact hfin.out.symm), 0, rfl⟩
        · have hfin := Lib.hid (allB_false hlt (show risesAt lo hi xs 0 = false by rw [hr]; simp [h1]))
          clear hr
          go_wp2
          go_ret
          exact ⟨rb (by unfold risesB; rw [hlen.out]; exact hfin.out.symm), 0, rfl⟩
      · obtain ⟨y, hy⟩ := at_of (xs := xs) (k := k - 1) (by have := hlen.out; omega)
        have hcell' := hc (k - 1) y hy
        have hr := risesAt_succ (lo := lo) (hi := hi) (by omega) hx hy
        have hk0 : (0 : Int) < (k : Int) := by omega
        have HH := Lib.hid H
        have HX := Lib.hid hx
        have HY := Lib.hid hy
        clear hc H hx hy
        by_cases h1 : lo ≤ x
        · by_cases h2 : x ≤ hi
          · by_cases h3 : y < x
            · have hnext := hall.succ (by rw [hr]; simp [h1, h2, h3])
              clear hr
              go_wp2
              go_round
              case rel => exact ⟨k + 1, by omega, by go_num, hnext⟩
              case measure => simp [intOf]; omega
            · have hfin := Lib.hid (allB_false hlt (show risesAt lo hi xs k = false by rw [hr]; simp [h3]))
              clear hr
              go_wp2
              go_ret
              exact ⟨rb (by unfold risesB; rw [hlen.out]; exact hfin.out.symm), 0, rfl⟩
          · have hfin := Lib.hid (allB_false hlt (show risesAt lo hi xs k = false by rw [hr]; simp [h2]))
            clear hr
            go_wp2
            go_ret
            exact ⟨rb (by unfold risesB; rw [hlen.out]; exact hfin.out.symm), 0, rfl⟩
        · have hfin := Lib.hid (allB_false hlt (show risesAt lo hi xs k = false by rw [hr]; simp [h1]))
          clear hr
          go_wp2
          go_ret
          exact ⟨rb (by unfold risesB; rw [hlen.out]; exact hfin.out.symm), 0, rfl⟩
    · have hfin := Lib.hid (allB_true (n := n) (fun j hj => hall j (by omega)))
      clear H
      go_wp2
      go_ret
      exact ⟨rb (by unfold risesB; rw [hlen.out]; exact hfin.out.symm), 0, rfl⟩
end Go.Proofs.Ythnilifepiihjaa
