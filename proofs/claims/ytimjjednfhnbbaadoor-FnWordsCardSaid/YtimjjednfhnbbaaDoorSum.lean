/-
  Sums of lists: isValue, listCode, sum, SumOf of both packages.
  Conditions: none but that the slice reads as numbers that fit an int64.
-/
import Derived.Test.YtimjjednfhnbbaaDoorPre
import Derived.Test.YtimjjednfhnbbaaDoorRange
namespace Go.Proofs.YtimjjednfhnbbaaDoor
open Go.RowKit

def valB (x : Int) : Bool := decide (-1000000000000 ≤ x) && decide (x ≤ 1000000000000)
def valsB (xs : List Int) : Bool := allB (fun j => valB (xs.getD j 0)) xs.length
def valsC (xs : List Int) : Int := if valsB xs then (if xs.length ≤ 60 then 0 else 3) else 2
def psum (xs : List Int) : Nat → Int
  | 0 => 0
  | k + 1 => psum xs k + xs.getD k 0
def sumC (xs : List Int) : Int × Int := if valsC xs = 0 then (if valB (psum xs xs.length) then (psum xs xs.length, 0) else (0, 3)) else (0, valsC xs)

theorem psum_bd {xs : List Int} {n : Nat} (h : AllTo (fun j => valB (xs.getD j 0)) n) : ∀ k, k ≤ n → -(1000000000000 * (k : Int)) ≤ psum xs k ∧ psum xs k ≤ 1000000000000 * (k : Int)
  | 0, _ => by simp [psum]
  | k + 1, hk => by
    have ih := psum_bd h k (by omega)
    have hv := h k (by omega)
    simp only [valB, Bool.and_eq_true, decide_eq_true_eq] at hv
    unfold psum
    omega
theorem allTo_of_valsC {xs : List Int} (h : valsC xs = 0) : AllTo (fun j => valB (xs.getD j 0)) xs.length ∧ xs.length ≤ 60 := by
  unfold valsC at h
  by_cases h1 : valsB xs = true
  · rw [if_pos h1] at h
    by_cases h2 : xs.length ≤ 60
    · refine ⟨?_, h2⟩
      intro j hj
      by_cases hb : valB (xs.getD j 0) = true
      · exact hb
      · have := allB_false (p := fun j => valB (xs.getD j 0)) hj (by simpa using hb)
        unfold valsB at h1
        rw [this] at h1
        simp at h1
    · rw [if_neg h2] at h
      omega
  · rw [if_neg h1] at h
    omega
theorem isValue_yes (n : Int) (h1 : -1000000000000 ≤ n) (h2 : n ≤ 1000000000000) (w : World) : Calls Tryd.prog 47 #[.int .i64 n] w fun e w' => e = .returned (.bool true) ∧ w = w' := by
  go_enter Tryd.func47, Tryd.ntmps47
  go_wp2_with fail
  refine (within_yes n (-1000000000000) 1000000000000 h1 h2 _).mono ?_
  rintro e w' ⟨rfl, rfl⟩
  go_wp2_with fail
  go_ret
  exact ⟨rfl, rfl⟩
theorem isValue_no (n : Int) (h : n < -1000000000000 ∨ 1000000000000 < n) (w : World) : Calls Tryd.prog 47 #[.int .i64 n] w fun e w' => e = .returned (.bool false) ∧ w = w' := by
  have H := Lib.hid h
  clear h
  go_enter Tryd.func47, Tryd.ntmps47
  go_wp2_with fail
  refine (within_no n (-1000000000000) 1000000000000 H.out _).mono ?_
  rintro e w' ⟨rfl, rfl⟩
  go_wp2_with fail
  go_ret
  exact ⟨rfl, rfl⟩
theorem l01Is_yes (n : Int) (h1 : -1000000000000 ≤ n) (h2 : n ≤ 1000000000000) (w : World) : Calls Tryd.prog 45 #[.int .i64 n] w fun e w' => e = .returned (.bool true) ∧ w = w' := by
  go_enter Tryd.func45, Tryd.ntmps45
  go_wp2_with fail
  refine (in_yes n (-1000000000000) 1000000000000 h1 h2 _).mono ?_
  rintro e w' ⟨rfl, rfl⟩
  go_wp2_with fail
  go_ret
  exact ⟨rfl, rfl⟩
theorem l01Is_no (n : Int) (h : n < -1000000000000 ∨ 1000000000000 < n) (w : World) : Calls Tryd.prog 45 #[.int .i64 n] w fun e w' => e = .returned (.bool false) ∧ w = w' := by
  have H := Lib.hid h
  clear h
  go_enter Tryd.func45, Tryd.ntmps45
  go_wp2_with fail
  refine (in_no n (-1000000000000) 1000000000000 H.out _).mono ?_
  rintro e w' ⟨rfl, rfl⟩
  go_wp2_with fail
  go_ret
  exact ⟨rfl, rfl⟩
theorem few_c (n : Nat) (hn : n ≤ 9223372036854775807) (w : World) : Calls Tryd.prog 43 #[.int .i64 n, .int .i64 60] w fun e w' => e = .returned (.bool (decide (n ≤ 60))) ∧ w = w' := by
  go_enter Tryd.func43, Tryd.ntmps43
  go_wp2_with fail
  go_ret
  exact ⟨rb (by first | rfl | (apply decide_eq_decide.mpr; omega)), rfl⟩

set_option maxHeartbeats 800000 in
theorem impl_listCode {v : Value} {xs : List Int} {w : World} (h : Ints w v xs) :
    Calls Tryd.prog 56 #[v] w fun e w' => e = .returned (.int .i64 (valsC xs)) ∧ w = w' := by
  obtain ⟨a, n, c, rfl, H⟩ := h.parts
  have hlen := Lib.hid H.len
  have hcap := H.cap
  have hmost := H.most
  unfold maxLen at hmost
  clear h
  go_enter Tryd.func56, Tryd.ntmps56
  go_wp2
  go_loop [7] (fun i => ∃ k : Nat, k ≤ n ∧ i = .int .i64 k ∧ AllTo (fun j => valB (xs.getD j 0)) k) (fun i => n - (intOf i).toNat)
  case atStart => exact ⟨0, Nat.zero_le _, rfl, allTo_zero _⟩
  case round =>
    obtain ⟨k, hk, rfl, hall⟩ := hrel
    by_cases hlt : k < n
    · obtain ⟨b, o, ha, hbb, hc⟩ := H.cells (by omega)
      subst ha
      obtain ⟨x, hx⟩ := at_of (xs := xs) (k := k) (by have := hlen.out; omega)
      have hcell := hc k x hx
      have HH := Lib.hid H
      by_cases hr : -1000000000000 ≤ x ∧ x ≤ 1000000000000
      · obtain ⟨h1, h2⟩ := hr
        have hnext := hall.succ (show valB (xs.getD k 0) = true by rw [getD_of hx]; simp [valB, h1, h2])
        clear hc H hx
        go_wp2_with fail
        refine (isValue_yes x h1 h2 _).mono ?_
        rintro e w' ⟨rfl, rfl⟩
        go_wp2_with fail
        go_round
        case rel => exact ⟨k + 1, by omega, by go_num, hnext⟩
        case measure => simp [intOf]; omega
      · have hr' : x < -1000000000000 ∨ 1000000000000 < x := by omega
        have hfin := Lib.hid (allB_false (p := fun j => valB (xs.getD j 0)) hlt (by show valB (xs.getD k 0) = false; rw [getD_of hx]; simp only [valB, Bool.and_eq_false_iff, decide_eq_false_iff_not]; omega))
        have HR := Lib.hid hr'
        clear hc H hx hr hr'
        go_wp2_with fail
        refine (isValue_no x HR.out _).mono ?_
        rintro e w' ⟨rfl, rfl⟩
        go_wp2_with fail
        go_ret
        exact ⟨ri (by unfold valsC valsB; rw [hlen.out, hfin.out]; rfl), rfl⟩
    · have hfin := Lib.hid (allB_true (p := fun j => valB (xs.getD j 0)) (n := n) (fun j hj => hall j (by omega)))
      clear H
      by_cases h6 : n ≤ 60
      · go_wp2_with fail
        refine (few_c n (by omega) _).mono ?_
        rintro e w' ⟨rfl, rfl⟩
        simp only [h6, decide_true]
        go_wp2_with fail
        go_ret
        exact ⟨ri (by unfold valsC valsB; rw [hlen.out, hfin.out]; simp [h6]), rfl⟩
      · go_wp2_with fail
        refine (few_c n (by omega) _).mono ?_
        rintro e w' ⟨rfl, rfl⟩
        simp only [h6, decide_false]
        go_wp2_with fail
        go_ret
        exact ⟨ri (by unfold valsC valsB; rw [hlen.out, hfin.out]; simp [h6]), rfl⟩

set_option maxHeartbeats 800000 in
theorem spec_l01Values {v : Value} {xs : List Int} {w : World} (h : Ints w v xs) :
    Calls Tryd.prog 54 #[v] w fun e w' => e = .returned (.int .i64 (valsC xs)) ∧ w = w' := by
  obtain ⟨a, n, c, rfl, H⟩ := h.parts
  have hlen := Lib.hid H.len
  have hcap := H.cap
  have hmost := H.most
  unfold maxLen at hmost
  clear h
  go_enter Tryd.func54, Tryd.ntmps54
  go_wp2
  go_loop [3] (fun i => ∃ k : Nat, k ≤ n ∧ i = .int .i64 k ∧ AllTo (fun j => valB (xs.getD j 0)) k) (fun i => n - (intOf i).toNat)
  case atStart => exact ⟨0, Nat.zero_le _, rfl, allTo_zero _⟩
  case round =>
    obtain ⟨k, hk, rfl, hall⟩ := hrel
    by_cases hlt : k < n
    · obtain ⟨b, o, ha, hbb, hc⟩ := H.cells (by omega)
      subst ha
      obtain ⟨x, hx⟩ := at_of (xs := xs) (k := k) (by have := hlen.out; omega)
      have hcell := hc k x hx
      have HH := Lib.hid H
      by_cases hr : -1000000000000 ≤ x ∧ x ≤ 1000000000000
      · obtain ⟨h1, h2⟩ := hr
        have hnext := hall.succ (show valB (xs.getD k 0) = true by rw [getD_of hx]; simp [valB, h1, h2])
        clear hc H hx
        go_wp2_with fail
        refine (l01Is_yes x h1 h2 _).mono ?_
        rintro e w' ⟨rfl, rfl⟩
        go_wp2_with fail
        go_round
        case rel => exact ⟨k + 1, by omega, by go_num, hnext⟩
        case measure => simp [intOf]; omega
      · have hr' : x < -1000000000000 ∨ 1000000000000 < x := by omega
        have hfin := Lib.hid (allB_false (p := fun j => valB (xs.getD j 0)) hlt (by show valB (xs.getD k 0) = false; rw [getD_of hx]; simp only [valB, Bool.and_eq_false_iff, decide_eq_false_iff_not]; omega))
        have HR := Lib.hid hr'
        clear hc H hx hr hr'
        go_wp2_with fail
        refine (l01Is_no x HR.out _).mono ?_
        rintro e w' ⟨rfl, rfl⟩
        go_wp2_with fail
        go_ret
        exact ⟨ri (by unfold valsC valsB; rw [hlen.out, hfin.out]; rfl), rfl⟩
    · have hfin := Lib.hid (allB_true (p := fun j => valB (xs.getD j 0)) (n := n) (fun j hj => hall j (by omega)))
      clear H
      by_cases h6 : n ≤ 60
      · go_wp2_with fail
        go_ret
        exact ⟨ri (by unfold valsC valsB; rw [hlen.out, hfin.out]; simp [h6]), rfl⟩
      · go_wp2_with fail
        go_ret
        exact ⟨ri (by unfold valsC valsB; rw [hlen.out, hfin.out]; simp [h6]), rfl⟩

end Go.Proofs.YtimjjednfhnbbaaDoor
