/-
  AddCourtDays, CountCourtDays, LastCourtDay of both packages: what each call returns.
  Conditions: each lemma names its own.
-/
import Derived.Test.YtiphankcngclfaaDayMore
namespace Go.Proofs.Ytiphankcngclfaa
open Go.RowKit
set_option linter.unusedVariables false

theorem addC_next {xs : List Int} (hh : holB xs = true) {d : Int} (h0 : 0 ≤ d) (h1 : d ≤ 20000) (k : Nat) : NextIs xs (addC xs d k + 1) (addC xs d (k + 1)) :=
  nextC_is hh (by have := (addC_bd hh h0 h1 k).1; omega)
theorem addC_big {xs : List Int} (hh : holB xs = true) {d : Int} (h0 : 0 ≤ d) (h1 : d ≤ 20000) (k : Nat) (hk : k ≤ 400) : d ≤ addC xs d k ∧ addC xs d k ≤ 22000 := by
  have := addC_bd hh h0 h1 k
  split at this <;> omega

set_option maxHeartbeats 400000 in
theorem spec_add_c {v : Value} {xs : List Int} {w : World} (d : Int) (n : Nat) (hh : holB xs = true) (h0 : 0 ≤ d) (h1 : d ≤ 20000) (hn : n ≤ 400) (h : Ints w v xs) :
    Calls Try.prog 48 #[v, .int .i64 d, .int .i64 n] w fun e w' => e = .returned (.int .i64 (addC xs d n)) ∧ ∃ m, w' = w.drewN m := by
  have HH := Lib.hid hh
  clear hh
  go_enter Try.func48, Try.ntmps48
  go_wp2_with fail
  go_loopw [1, 2] (fun x i wr => ∃ k m : Nat, k ≤ n ∧ i = .int .i64 ((n : Int) - k) ∧ x = .int .i64 (addC xs d k) ∧ wr = w.drewN m) (fun _ i _ => (intOf i).toNat)
  case atStart => exact ⟨0, 0, Nat.zero_le _, by simp, rfl, rfl⟩
  case round =>
    obtain ⟨k, m, hk, rfl, rfl, rfl⟩ := hrel
    have hb := addC_big HH.out h0 h1 k (by omega)
    have hN := Lib.hid (addC_next HH.out h0 h1 k)
    by_cases hlt : k < n
    · have hb' := addC_big HH.out h0 h1 (k + 1) (by omega)
      have hk' : (0 : Int) < (n : Int) - k := by omega
      go_wp2_with fail
      refine (spec_next_c (addC xs d k + 1) (addC xs d (k + 1)) (by omega) hN.out (by omega) (h.drewN m)).mono ?_
      rintro e w' ⟨rfl, m', rfl⟩
      go_wp2_with fail
      go_roundw
      case rel => exact ⟨k + 1, _, by omega, by go_num, rfl, rfl⟩
      case measure => simp [intOf]; try omega
    · obtain rfl : k = n := by omega
      go_wp2_with fail
      go_ret
      exact ⟨rfl, _, rfl⟩

set_option maxHeartbeats 400000 in
theorem impl_add_ok {v : Value} {xs : List Int} {w : World} (d : Int) (n : Nat) (hh : holB xs = true) (h0 : 0 ≤ d) (h1 : d ≤ 20000) (hn : n ≤ 400) (hr : addC xs d n ≤ 20000) (h : Ints w v xs) :
    Calls Try.prog 49 #[v, .int .i64 d, .int .i64 n] w fun e w' => e = .returned (.tuple #[.int .i64 (addC xs d n), .int .i64 0]) ∧ ∃ m, w' = w.drewN m := by
  have HH := Lib.hid hh
  clear hh
  have HR : Hid (∀ k, k ≤ n → addC xs d k ≤ 20000) := Lib.hid (fun k hk => by
    have := addC_mono HH.out h0 h1 k (n - k)
    rw [show k + (n - k) = n by omega] at this
    omega)
  go_enter Try.func49, Try.ntmps49
  go_wp2_with fail
  go_loopw [1, 11] (fun x i wr => ∃ k m : Nat, k ≤ n ∧ i = .int .i64 k ∧ x = .int .i64 (addC xs d k) ∧ wr = w.drewN m) (fun _ i _ => n - (intOf i).toNat)
  case atStart => exact ⟨0, 0, Nat.zero_le _, rfl, rfl, rfl⟩
  case round =>
    obtain ⟨k, m, hk, rfl, rfl, rfl⟩ := hrel
    have hb := addC_big HH.out h0 h1 k (by omega)
    have hN := Lib.hid (addC_next HH.out h0 h1 k)
    by_cases hlt : k < n
    · have hb' := HR.out (k + 1) (by omega)
      go_wp2_with fail
      refine (impl_next_ok (addC xs d k + 1) (addC xs d (k + 1)) (by omega) hN.out hb' (h.drewN m)).mono ?_
      rintro e w' ⟨rfl, m', rfl⟩
      go_wp2_with fail
      go_roundw
      case rel => exact ⟨k + 1, _, by omega, by go_num, rfl, rfl⟩
      case measure => simp [intOf]; try omega
    · obtain rfl : k = n := by omega
      go_wp2_with fail
      go_ret2
      exact ⟨rfl, _, rfl⟩

set_option maxHeartbeats 400000 in
theorem impl_add_late {v : Value} {xs : List Int} {w : World} (d : Int) (n : Nat) (hh : holB xs = true) (h0 : 0 ≤ d) (h1 : d ≤ 20000) (hn : n ≤ 400) (hr : 20000 < addC xs d n) (h : Ints w v xs) :
    Calls Try.prog 49 #[v, .int .i64 d, .int .i64 n] w fun e w' => e = .returned (.tuple #[.int .i64 0, .int .i64 3]) ∧ ∃ m, w' = w.drewN m := by
  have HH := Lib.hid hh
  clear hh
  go_enter Try.func49, Try.ntmps49
  go_wp2_with fail
  go_loopw [1, 11] (fun x i wr => ∃ k m : Nat, k ≤ n ∧ i = .int .i64 k ∧ x = .int .i64 (addC xs d k) ∧ addC xs d k ≤ 20000 ∧ wr = w.drewN m) (fun _ i _ => n - (intOf i).toNat)
  case atStart => exact ⟨0, 0, Nat.zero_le _, rfl, rfl, h1, rfl⟩
  case round =>
    obtain ⟨k, m, hk, rfl, rfl, hle, rfl⟩ := hrel
    have hb := addC_big HH.out h0 h1 k (by omega)
    have hN := Lib.hid (addC_next HH.out h0 h1 k)
    by_cases hlt : k < n
    · by_cases hb' : addC xs d (k + 1) ≤ 20000
      · go_wp2_with fail
        refine (impl_next_ok (addC xs d k + 1) (addC xs d (k + 1)) (by omega) hN.out hb' (h.drewN m)).mono ?_
        rintro e w' ⟨rfl, m', rfl⟩
        go_wp2_with fail
        go_roundw
        case rel => exact ⟨k + 1, _, by omega, by go_num, rfl, hb', rfl⟩
        case measure => simp [intOf]; try omega
      · have hb2 := addC_big HH.out h0 h1 (k + 1) (by omega)
        go_wp2_with fail
        refine (impl_next_late (addC xs d k + 1) (addC xs d (k + 1)) (by omega) hN.out (by omega) (by omega) (h.drewN m)).mono ?_
        rintro e w' ⟨rfl, m', rfl⟩
        go_wp2_with fail
        go_ret2
        exact ⟨rfl, _, rfl⟩
    · obtain rfl : k = n := by omega
      omega
set_option maxHeartbeats 400000 in
theorem impl_AddCourtDays_range {v : Value} {xs : List Int} {w : World} (d : Int) (n : Int) (hd : dcode xs [d] = 0) (hn : n < 0 ∨ 400 < n) (h : Ints w v xs) :
    Calls Try.prog 28 #[v, .int .i64 d, .int .i64 n] w fun e w' => e = .returned (.tuple #[.int .i64 0, .int .i64 2]) ∧ Below w.heap.size w w' := by
  have hb := dcode_test0 hd
  have he := dcode_eq0 hd
  have hq := dcode_day hd
  have HD := Lib.hid hd
  clear hd
  have HN := Lib.hid hn
  clear hn
  go_enter Try.func28, Try.ntmps28
  go_wp2_with fail
  refine (impl_dayCode (h.alloc _) (ints_new1 _ _ _)).mono ?_
  rintro e w' ⟨rfl, m, rfl⟩
  go_wp2_with fail
  refine (within_no n 0 400 HN.out _).mono ?_
  rintro e w' ⟨rfl, rfl⟩
  go_wp2_with fail
  go_ret2
  exact ⟨rfl, below_of_drewN ((Below.refl _ _).alloc (Nat.le_refl _) _) _⟩
set_option maxHeartbeats 400000 in
theorem spec_AddCourtDays_range {v : Value} {xs : List Int} {w : World} (d : Int) (n : Int) (hd : dcode xs [d] = 0) (hn : n < 0 ∨ 400 < n) (h : Ints w v xs) :
    Calls Try.prog 27 #[v, .int .i64 d, .int .i64 n] w fun e w' => e = .returned (.tuple #[.int .i64 0, .int .i64 2]) ∧ ∃ m, w' = w.drewN m := by
  have HDD : Hid (dcode xs [d, d] = 0) := Lib.hid (by rw [dcode_twice]; exact hd)
  have hq := dcode_day hd
  have HD := Lib.hid hd
  clear hd
  have HN := Lib.hid hn
  clear hn
  go_enter Try.func27, Try.ntmps27
  go_wp2_with fail
  refine (spec_l02Code d d h).mono ?_
  rintro e w' ⟨rfl, m, rfl⟩
  rw [HDD.out]
  go_wp2_with fail
  refine (in_no n 0 400 HN.out _).mono ?_
  rintro e w' ⟨rfl, rfl⟩
  go_wp2_with fail
  go_ret2
  exact ⟨rfl, _, rfl⟩
set_option maxHeartbeats 400000 in
theorem impl_AddCourtDays_ok {v : Value} {xs : List Int} {w : World} (d : Int) (n : Nat) (hd : dcode xs [d] = 0) (hn1 : n ≤ 400) (hr20 : addC xs d n ≤ 20000) (h : Ints w v xs) :
    Calls Try.prog 28 #[v, .int .i64 d, .int .i64 n] w fun e w' => e = .returned (.tuple #[.int .i64 (addC xs d n), .int .i64 0]) ∧ Below w.heap.size w w' := by
  have hh := Lib.hid (dcode_ok.1 hd).1
  have hb := dcode_test0 hd
  have he := dcode_eq0 hd
  have hq := dcode_day hd
  have HD := Lib.hid hd
  clear hd
  go_enter Try.func28, Try.ntmps28
  go_wp2_with fail
  refine (impl_dayCode (h.alloc _) (ints_new1 _ _ _)).mono ?_
  rintro e w' ⟨rfl, m, rfl⟩
  go_wp2_with fail
  refine (within_yes n 0 400 (by omega) (by omega) _).mono ?_
  rintro e w' ⟨rfl, rfl⟩
  go_wp2_with fail
  refine (impl_add_ok d n hh.out hq.1 hq.2 hn1 hr20 ((h.alloc _).drewN m)).mono ?_
  rintro e w' ⟨rfl, m', rfl⟩
  go_wp2_with fail
  go_ret2
  exact ⟨rfl, below_of_drewN ((Below.refl _ _).alloc (Nat.le_refl _) _) _⟩
set_option maxHeartbeats 400000 in
theorem spec_AddCourtDays_ok {v : Value} {xs : List Int} {w : World} (d : Int) (n : Nat) (hd : dcode xs [d] = 0) (hn1 : n ≤ 400) (hr20 : addC xs d n ≤ 20000) (h : Ints w v xs) :
    Calls Try.prog 27 #[v, .int .i64 d, .int .i64 n] w fun e w' => e = .returned (.tuple #[.int .i64 (addC xs d n), .int .i64 0]) ∧ ∃ m, w' = w.drewN m := by
  have hh := Lib.hid (dcode_ok.1 hd).1
  have HDD : Hid (dcode xs [d, d] = 0) := Lib.hid (by rw [dcode_twice]; exact hd)
  have hq := dcode_day hd
  have HD := Lib.hid hd
  clear hd
  go_enter Try.func27, Try.ntmps27
  go_wp2_with fail
  refine (spec_l02Code d d h).mono ?_
  rintro e w' ⟨rfl, m, rfl⟩
  rw [HDD.out]
  go_wp2_with fail
  refine (in_yes n 0 400 (by omega) (by omega) _).mono ?_
  rintro e w' ⟨rfl, rfl⟩
  go_wp2_with fail
  refine (spec_add_c d n hh.out hq.1 hq.2 hn1 (h.drewN m)).mono ?_
  rintro e w' ⟨rfl, m', rfl⟩
  go_wp2_with fail
  refine (limit_ok (addC xs d n) hr20 _).mono ?_
  rintro e w' ⟨rfl, rfl⟩
  go_wp2_with fail
  go_ret2
  exact ⟨rfl, _, rfl⟩
set_option maxHeartbeats 400000 in
theorem impl_AddCourtDays_late {v : Value} {xs : List Int} {w : World} (d : Int) (n : Nat) (hd : dcode xs [d] = 0) (hn1 : n ≤ 400) (hr20 : 20000 < addC xs d n) (h : Ints w v xs) :
    Calls Try.prog 28 #[v, .int .i64 d, .int .i64 n] w fun e w' => e = .returned (.tuple #[.int .i64 0, .int .i64 3]) ∧ Below w.heap.size w w' := by
  have hh := Lib.hid (dcode_ok.1 hd).1
  have hb := dcode_test0 hd
  have he := dcode_eq0 hd
  have hq := dcode_day hd
  have HD := Lib.hid hd
  clear hd
  go_enter Try.func28, Try.ntmps28
  go_wp2_with fail
  refine (impl_dayCode (h.alloc _) (ints_new1 _ _ _)).mono ?_
  rintro e w' ⟨rfl, m, rfl⟩
  go_wp2_with fail
  refine (within_yes n 0 400 (by omega) (by omega) _).mono ?_
  rintro e w' ⟨rfl, rfl⟩
  go_wp2_with fail
  refine (impl_add_late d n hh.out hq.1 hq.2 hn1 hr20 ((h.alloc _).drewN m)).mono ?_
  rintro e w' ⟨rfl, m', rfl⟩
  go_wp2_with fail
  go_ret2
  exact ⟨rfl, below_of_drewN ((Below.refl _ _).alloc (Nat.le_refl _) _) _⟩
set_option maxHeartbeats 400000 in
theorem spec_AddCourtDays_late {v : Value} {xs : List Int} {w : World} (d : Int) (n : Nat) (hd : dcode xs [d] = 0) (hn1 : n ≤ 400) (hr20 : 20000 < addC xs d n) (h : Ints w v xs) :
    Calls Try.prog 27 #[v, .int .i64 d, .int .i64 n] w fun e w' => e = .returned (.tuple #[.int .i64 0, .int .i64 3]) ∧ ∃ m, w' = w.drewN m := by
  have hh := Lib.hid (dcode_ok.1 hd).1
  have HDD : Hid (dcode xs [d, d] = 0) := Lib.hid (by rw [dcode_twice]; exact hd)
  have hq := dcode_day hd
  have HD := Lib.hid hd
  clear hd
  go_enter Try.func27, Try.ntmps27
  go_wp2_with fail
  refine (spec_l02Code d d h).mono ?_
  rintro e w' ⟨rfl, m, rfl⟩
  rw [HDD.out]
  go_wp2_with fail
  refine (in_yes n 0 400 (by omega) (by omega) _).mono ?_
  rintro e w' ⟨rfl, rfl⟩
  go_wp2_with fail
  refine (spec_add_c d n hh.out hq.1 hq.2 hn1 (h.drewN m)).mono ?_
  rintro e w' ⟨rfl, m', rfl⟩
  go_wp2_with fail
  refine (limit_late (addC xs d n) hr20 _).mono ?_
  rintro e w' ⟨rfl, rfl⟩
  go_wp2_with fail
  go_ret2
  exact ⟨rfl, _, rfl⟩
set_option maxHeartbeats 400000 in
theorem impl_CountCourtDays_bad {v : Value} {xs : List Int} {w : World} (d1 d2 : Int) (hd : ¬ dcode xs [d1, d2] = 0) (h : Ints w v xs) :
    Calls Try.prog 20 #[v, .int .i64 d1, .int .i64 d2] w fun e w' => e = .returned (.tuple #[.int .i64 0, .int .i64 (dcode xs [d1, d2])]) ∧ Below w.heap.size w w' := by
  have hb := dcode_test1 hd
  have he := dcode_eq1 hd
  clear hd
  go_enter Try.func20, Try.ntmps20
  go_wp2_with fail
  refine (impl_dayCode (h.alloc _) (ints_new2 _ _ _ _)).mono ?_
  rintro e w' ⟨rfl, m, rfl⟩
  go_wp2_with fail
  go_ret2
  exact ⟨rfl, below_of_drewN ((Below.refl _ _).alloc (Nat.le_refl _) _) _⟩
set_option maxHeartbeats 400000 in
theorem spec_CountCourtDays_bad {v : Value} {xs : List Int} {w : World} (d1 d2 : Int) (hd : ¬ dcode xs [d1, d2] = 0) (h : Ints w v xs) :
    Calls Try.prog 19 #[v, .int .i64 d1, .int .i64 d2] w fun e w' => e = .returned (.tuple #[.int .i64 0, .int .i64 (dcode xs [d1, d2])]) ∧ ∃ m, w' = w.drewN m := by
  have hb := dcode_test1 hd
  have he := dcode_eq1 hd
  clear hd
  go_enter Try.func19, Try.ntmps19
  go_wp2_with fail
  refine (spec_l02Code d1 d2 h).mono ?_
  rintro e w' ⟨rfl, m, rfl⟩
  go_wp2_with fail
  go_ret2
  exact ⟨rfl, _, rfl⟩
set_option maxHeartbeats 400000 in
theorem impl_count_c {v : Value} {xs : List Int} {w : World} (a b : Int) (h0 : 0 ≤ a) (h1 : a ≤ 1000000) (h2 : b ≤ 1000000) (h : Ints w v xs) :
    Calls Try.prog 42 #[v, .int .i64 a, .int .i64 b] w fun e w' => e = .returned (.int .i64 (cntC xs a (b - a).toNat)) ∧ ∃ m, w' = w.drewN m := by
  go_enter Try.func42, Try.ntmps42
  go_wp2_with fail
  go_loopw [7, 8] (fun c i wr => ∃ k m : Nat, k ≤ (b - a).toNat ∧ i = .int .i64 (a + k) ∧ c = .int .i64 (cntC xs a k) ∧ wr = w.drewN m) (fun _ i _ => (b - intOf i).toNat)
  case atStart => exact ⟨0, 0, Nat.zero_le _, by simp, rfl, rfl⟩
  case round =>
    obtain ⟨k, m, hk, rfl, rfl, rfl⟩ := hrel
    have hb := cntC_bd xs a k
    by_cases hlt : k < (b - a).toNat
    · have hlt' : a + k < b := by omega
      go_wp2_with fail
      refine (impl_isCourtDay (a + k) (by omega) (by omega) (h.drewN m)).mono ?_
      rintro e w' ⟨rfl, m', rfl⟩
      by_cases hc : courtB xs (a + k) = true
      · have hs : Hid (cntC xs a (k + 1) = cntC xs a k + 1) := Lib.hid (by simp only [cntC, hc, if_true])
        go_wp2_with fail
        go_roundw
        case rel => exact ⟨k + 1, _, by omega, by go_num, by rw [hs.out], rfl⟩
        case measure => simp [intOf]; try omega
      · have hc' : courtB xs (a + k) = false := by simpa using hc
        have hs : Hid (cntC xs a (k + 1) = cntC xs a k) := Lib.hid (by simp only [cntC]; rw [if_neg hc]; omega)
        clear hc
        go_wp2_with fail
        go_roundw
        case rel => exact ⟨k + 1, _, by omega, by go_num, by rw [hs.out], rfl⟩
        case measure => simp [intOf]; try omega
    · have hge : b ≤ a + k := by omega
      obtain rfl : k = (b - a).toNat := by omega
      go_wp2_with fail
      go_ret
      exact ⟨rfl, _, rfl⟩

set_option maxHeartbeats 800000 in
theorem spec_CountCourtDays_ok {v : Value} {xs : List Int} {w : World} (d1 d2 : Int) (hd : dcode xs [d1, d2] = 0) (h : Ints w v xs) :
    Calls Try.prog 19 #[v, .int .i64 d1, .int .i64 d2] w fun e w' => e = .returned (.tuple #[.int .i64 (cntC xs d1 (d2 - d1).toNat), .int .i64 0]) ∧ ∃ m, w' = w.drewN m := by
  have hq := dcode_day2 hd
  have HD := Lib.hid hd
  clear hd
  obtain ⟨⟨q1, q2⟩, q3, q4⟩ := hq
  go_enter Try.func19, Try.ntmps19
  go_wp2_with fail
  refine (spec_l02Code d1 d2 h).mono ?_
  rintro e w' ⟨rfl, m0, rfl⟩
  rw [HD.out]
  go_wp2_with fail
  go_loopw [9, 10] (fun c i wr => ∃ k m : Nat, k ≤ (d2 - d1).toNat ∧ i = .int .i64 (d1 + k) ∧ c = .int .i64 (cntC xs d1 k) ∧ wr = w.drewN m) (fun _ i _ => (d2 - intOf i).toNat)
  case atStart => exact ⟨0, _, Nat.zero_le _, by simp, rfl, rfl⟩
  case round =>
    obtain ⟨k, m, hk, rfl, rfl, rfl⟩ := hrel
    have hb := cntC_bd xs d1 k
    by_cases hlt : k < (d2 - d1).toNat
    · have hlt' : d1 + k < d2 := by omega
      go_wp2_with fail
      refine (spec_court (d1 + k) (by omega) (by omega) (h.drewN m)).mono ?_
      rintro e w' ⟨rfl, m', rfl⟩
      by_cases hc : courtB xs (d1 + k) = true
      · have hs : Hid (cntC xs d1 (k + 1) = cntC xs d1 k + 1) := Lib.hid (by simp only [cntC, hc, if_true])
        go_wp2_with fail
        go_roundw
        case rel => exact ⟨k + 1, _, by omega, by go_num, by rw [hs.out], rfl⟩
        case measure => simp [intOf]; try omega
      · have hc' : courtB xs (d1 + k) = false := by simpa using hc
        have hs : Hid (cntC xs d1 (k + 1) = cntC xs d1 k) := Lib.hid (by simp only [cntC]; rw [if_neg hc]; omega)
        clear hc
        go_wp2_with fail
        go_roundw
        case rel => exact ⟨k + 1, _, by omega, by go_num, by rw [hs.out], rfl⟩
        case measure => simp [intOf]; try omega
    · have hge : d2 ≤ d1 + k := by omega
      obtain rfl : k = (d2 - d1).toNat := by omega
      go_wp2_with fail
      go_ret2
      exact ⟨rfl, _, rfl⟩
set_option maxHeartbeats 400000 in
theorem impl_CountCourtDays_ok {v : Value} {xs : List Int} {w : World} (d1 d2 : Int) (hd : dcode xs [d1, d2] = 0) (h : Ints w v xs) :
    Calls Try.prog 20 #[v, .int .i64 d1, .int .i64 d2] w fun e w' => e = .returned (.tuple #[.int .i64 (cntC xs d1 (d2 - d1).toNat), .int .i64 0]) ∧ Below w.heap.size w w' := by
  have hb := dcode_test0 hd
  have he := dcode_eq0 hd
  have hq := dcode_day2 hd
  have HD := Lib.hid hd
  clear hd
  go_enter Try.func20, Try.ntmps20
  go_wp2_with fail
  refine (impl_dayCode (h.alloc _) (ints_new2 _ _ _ _)).mono ?_
  rintro e w' ⟨rfl, m, rfl⟩
  go_wp2_with fail
  refine (impl_count_c d1 d2 hq.1.1 (by omega) (by omega) ((h.alloc _).drewN m)).mono ?_
  rintro e w' ⟨rfl, m', rfl⟩
  go_wp2_with fail
  go_ret2
  exact ⟨rfl, below_of_drewN ((Below.refl _ _).alloc (Nat.le_refl _) _) _⟩
set_option maxHeartbeats 800000 in
theorem spec_LastCourtDay_ok {v : Value} {xs : List Int} {w : World} (d : Int) (hd : dcode xs [d] = 0) (h : Ints w v xs) :
    Calls Try.prog 17 #[v, .int .i64 d] w fun e w' => e = .returned (.tuple #[.int .i64 (lastC xs (d + 1).toNat).1, .int .i64 (lastC xs (d + 1).toNat).2]) ∧ ∃ m, w' = w.drewN m := by
  have hq := dcode_day hd
  have HD := Lib.hid hd
  clear hd
  obtain ⟨q1, q2⟩ := hq
  go_enter Try.func17, Try.ntmps17
  go_wp2_with fail
  refine (spec_l02Code d d h).mono ?_
  rintro e w' ⟨rfl, m0, rfl⟩
  rw [dcode_twice, HD.out]
  go_wp2_with fail
  go_loopw [1] (fun i wr => ∃ k m : Nat, k ≤ 20001 ∧ i = .int .i64 ((k : Int) - 1) ∧ Hid (lastC xs (d + 1).toNat = lastC xs k) ∧ wr = (w).drewN m) (fun i _ => (intOf i + 1).toNat)
  case atStart => exact ⟨(d + 1).toNat, _, by omega, by go_num, rfl, rfl⟩
  case round =>
    obtain ⟨k, m, hk, rfl, hl, rfl⟩ := hrel
    cases k with
    | zero =>
      go_wp2_with fail
      go_ret2
      exact ⟨by rw [hl.out]; rfl, _, rfl⟩
    | succ k =>
      have e0 : ((k + 1 : Nat) : Int) - 1 = (k : Int) := by omega
      rw [e0]
      go_wp2_with fail
      refine (spec_court (k : Int) (by omega) (by omega) (h.drewN m)).mono ?_
      rintro e w' ⟨rfl, m', rfl⟩
      by_cases hc : courtB xs (k : Int) = true
      · have hs : Hid (lastC xs (k + 1) = ((k : Int), 0)) := Lib.hid (by simp only [lastC, hc, if_true])
        clear e0
        go_wp2_with fail
        go_ret2
        exact ⟨by rw [hl.out, hs.out]; rfl, _, rfl⟩
      · have hc' : courtB xs (k : Int) = false := by simpa using hc
        have hs : Hid (lastC xs (k + 1) = lastC xs k) := Lib.hid (by simp only [lastC]; rw [if_neg hc])
        clear hc e0
        go_wp2_with fail
        go_roundw
        case rel => exact ⟨k, _, by omega, by go_num, Lib.hid (by rw [hl.out, hs.out]), rfl⟩
        case measure => simp [intOf]; try omega
set_option maxHeartbeats 800000 in
theorem impl_LastCourtDay_ok {v : Value} {xs : List Int} {w : World} (d : Int) (hd : dcode xs [d] = 0) (h : Ints w v xs) :
    Calls Try.prog 18 #[v, .int .i64 d] w fun e w' => e = .returned (.tuple #[.int .i64 (lastC xs (d + 1).toNat).1, .int .i64 (lastC xs (d + 1).toNat).2]) ∧ Below w.heap.size w w' := by
  have hq := dcode_day hd
  have HD := Lib.hid hd
  clear hd
  obtain ⟨q1, q2⟩ := hq
  go_enter Try.func18, Try.ntmps18
  go_wp2_with fail
  refine (impl_dayCode (h.alloc _) (ints_new1 _ _ _)).mono ?_
  rintro e w' ⟨rfl, m0, rfl⟩
  rw [HD.out]
  go_wp2_with fail
  go_loopw [1] (fun i wr => ∃ k m : Nat, k ≤ 20001 ∧ i = .int .i64 ((k : Int) - 1) ∧ Hid (lastC xs (d + 1).toNat = lastC xs k) ∧ wr = (w.alloc (.cells #[.int .i64 d] 2)).drewN m) (fun i _ => (intOf i + 1).toNat)
  case atStart => exact ⟨(d + 1).toNat, _, by omega, by go_num, rfl, rfl⟩
  case round =>
    obtain ⟨k, m, hk, rfl, hl, rfl⟩ := hrel
    cases k with
    | zero =>
      go_wp2_with fail
      go_ret2
      exact ⟨by rw [hl.out]; rfl, below_of_drewN ((Below.refl _ _).alloc (Nat.le_refl _) _) _⟩
    | succ k =>
      have e0 : ((k + 1 : Nat) : Int) - 1 = (k : Int) := by omega
      rw [e0]
      go_wp2_with fail
      refine (impl_isCourtDay (k : Int) (by omega) (by omega) ((h.alloc _).drewN m)).mono ?_
      rintro e w' ⟨rfl, m', rfl⟩
      by_cases hc : courtB xs (k : Int) = true
      · have hs : Hid (lastC xs (k + 1) = ((k : Int), 0)) := Lib.hid (by simp only [lastC, hc, if_true])
        clear e0
        go_wp2_with fail
        go_ret2
        exact ⟨by rw [hl.out, hs.out]; rfl, below_of_drewN ((Below.refl _ _).alloc (Nat.le_refl _) _) _⟩
      · have hc' : courtB xs (k : Int) = false := by simpa using hc
        have hs : Hid (lastC xs (k + 1) = lastC xs k) := Lib.hid (by simp only [lastC]; rw [if_neg hc])
        clear hc e0
        go_wp2_with fail
        go_roundw
        case rel => exact ⟨k, _, by omega, by go_num, Lib.hid (by rw [hl.out, hs.out]), rfl⟩
        case measure => simp [intOf]; try omega
end Go.Proofs.Ytiphankcngclfaa
