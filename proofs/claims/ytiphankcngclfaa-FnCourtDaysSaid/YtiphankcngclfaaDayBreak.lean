/-
  LongestBreak of both packages: what each call returns.
  Conditions: each lemma names its own.
-/
import Derived.Test.YtiphankcngclfaaDayMore
namespace Go.Proofs.Ytiphankcngclfaa
open Go.RowKit
set_option linter.unusedVariables false

set_option maxHeartbeats 400000 in
theorem impl_LongestBreak_bad {v : Value} {xs : List Int} {w : World} (d1 d2 : Int) (hd : ¬ dcode xs [d1, d2] = 0) (h : Ints w v xs) :
    Calls Try.prog 26 #[v, .int .i64 d1, .int .i64 d2] w fun e w' => e = .returned (.tuple #[.int .i64 0, .int .i64 0, .int .i64 (dcode xs [d1, d2])]) ∧ Below w.heap.size w w' := by
  have hb := dcode_test1 hd
  have he := dcode_eq1 hd
  clear hd
  go_enter Try.func26, Try.ntmps26
  go_wp2_with fail
  refine (impl_dayCode (h.alloc _) (ints_new2 _ _ _ _)).mono ?_
  rintro e w' ⟨rfl, m, rfl⟩
  go_wp2_with fail
  go_ret3
  exact ⟨rfl, below_of_drewN ((Below.refl _ _).alloc (Nat.le_refl _) _) _⟩
set_option maxHeartbeats 400000 in
theorem spec_LongestBreak_bad {v : Value} {xs : List Int} {w : World} (d1 d2 : Int) (hd : ¬ dcode xs [d1, d2] = 0) (h : Ints w v xs) :
    Calls Try.prog 25 #[v, .int .i64 d1, .int .i64 d2] w fun e w' => e = .returned (.tuple #[.int .i64 0, .int .i64 0, .int .i64 (dcode xs [d1, d2])]) ∧ ∃ m, w' = w.drewN m := by
  have hb := dcode_test1 hd
  have he := dcode_eq1 hd
  clear hd
  go_enter Try.func25, Try.ntmps25
  go_wp2_with fail
  refine (spec_l02Code d1 d2 h).mono ?_
  rintro e w' ⟨rfl, m, rfl⟩
  go_wp2_with fail
  go_ret3
  exact ⟨rfl, _, rfl⟩
theorem impl_LongestBreak_range {v : Value} {xs : List Int} {w : World} (d1 d2 : Int) (hd : dcode xs [d1, d2] = 0) (hn : d2 - d1 < 0 ∨ 999 < d2 - d1) (h : Ints w v xs) :
    Calls Try.prog 26 #[v, .int .i64 d1, .int .i64 d2] w fun e w' => e = .returned (.tuple #[.int .i64 0, .int .i64 0, .int .i64 2]) ∧ Below w.heap.size w w' := by
  have hq := dcode_day2 hd
  have HD := Lib.hid hd
  clear hd
  obtain ⟨⟨q1, q2⟩, q3, q4⟩ := hq
  rcases hn with hn | hn
  · have hn' : d2 < d1 := by omega
    go_enter Try.func26, Try.ntmps26
    go_wp2_with fail
    refine (impl_dayCode (h.alloc _) (ints_new2 _ _ _ _)).mono ?_
    rintro e w' ⟨rfl, m, rfl⟩
    rw [HD.out]
    go_wp2_with fail
    go_ret3
    exact ⟨rfl, below_of_drewN ((Below.refl _ _).alloc (Nat.le_refl _) _) _⟩
  · have hn' : ¬ d2 < d1 := by omega
    have hn2 : 1000 < d2 - d1 + 1 := by omega
    go_enter Try.func26, Try.ntmps26
    go_wp2_with fail
    refine (impl_dayCode (h.alloc _) (ints_new2 _ _ _ _)).mono ?_
    rintro e w' ⟨rfl, m, rfl⟩
    rw [HD.out]
    go_wp2_with fail
    go_ret3
    exact ⟨rfl, below_of_drewN ((Below.refl _ _).alloc (Nat.le_refl _) _) _⟩
set_option maxHeartbeats 400000 in
theorem spec_LongestBreak_range {v : Value} {xs : List Int} {w : World} (d1 d2 : Int) (hd : dcode xs [d1, d2] = 0) (hn : d2 - d1 < 0 ∨ 999 < d2 - d1) (h : Ints w v xs) :
    Calls Try.prog 25 #[v, .int .i64 d1, .int .i64 d2] w fun e w' => e = .returned (.tuple #[.int .i64 0, .int .i64 0, .int .i64 2]) ∧ ∃ m, w' = w.drewN m := by
  have hq := dcode_day2 hd
  have HD := Lib.hid hd
  clear hd
  obtain ⟨⟨q1, q2⟩, q3, q4⟩ := hq
  have HN := Lib.hid hn
  clear hn
  go_enter Try.func25, Try.ntmps25
  go_wp2_with fail
  refine (spec_l02Code d1 d2 h).mono ?_
  rintro e w' ⟨rfl, m, rfl⟩
  rw [HD.out]
  go_wp2_with fail
  refine (in_no (d2 - d1) 0 999 HN.out _).mono ?_
  rintro e w' ⟨rfl, rfl⟩
  go_wp2_with fail
  go_ret3
  exact ⟨rfl, _, rfl⟩
theorem brk_court {xs : List Int} {a : Int} {k : Nat} (hc : courtB xs (a + k) = true) : (brkC xs a (k + 1)).1 = 0 ∧ (brkC xs a (k + 1)).2.1 = (brkC xs a k).2.1 ∧ (brkC xs a (k + 1)).2.2 = (brkC xs a k).2.2 := by
  have hb := brkC_bd xs a k
  simp only [brkC, hc, if_true]
  rw [if_neg (by omega)]
  exact ⟨rfl, rfl, rfl⟩
theorem brk_more {xs : List Int} {a : Int} {k : Nat} (hc : ¬ courtB xs (a + k) = true) (h : (brkC xs a k).2.2 < (brkC xs a k).1 + 1) :
    (brkC xs a (k + 1)).1 = (brkC xs a k).1 + 1 ∧ (brkC xs a (k + 1)).2.1 = a + k - ((brkC xs a k).1 + 1) + 1 ∧ (brkC xs a (k + 1)).2.2 = (brkC xs a k).1 + 1 := by
  simp only [brkC]
  rw [if_neg hc, if_pos h]
  exact ⟨rfl, rfl, rfl⟩
theorem brk_same {xs : List Int} {a : Int} {k : Nat} (hc : ¬ courtB xs (a + k) = true) (h : ¬ (brkC xs a k).2.2 < (brkC xs a k).1 + 1) :
    (brkC xs a (k + 1)).1 = (brkC xs a k).1 + 1 ∧ (brkC xs a (k + 1)).2.1 = (brkC xs a k).2.1 ∧ (brkC xs a (k + 1)).2.2 = (brkC xs a k).2.2 := by
  simp only [brkC]
  rw [if_neg hc, if_neg h]
  exact ⟨rfl, rfl, rfl⟩
set_option maxHeartbeats 1000000 in
theorem impl_LongestBreak_none {v : Value} {xs : List Int} {w : World} (d1 d2 : Int) (hd : dcode xs [d1, d2] = 0) (hn1 : 0 ≤ d2 - d1) (hn2 : d2 - d1 ≤ 999) (hm : (brkC xs d1 (d2 - d1 + 1).toNat).2.2 = 0) (h : Ints w v xs) :
    Calls Try.prog 26 #[v, .int .i64 d1, .int .i64 d2] w fun e w' => e = .returned (.tuple #[.int .i64 0, .int .i64 0, .int .i64 4]) ∧ Below w.heap.size w w' := by
  have hm' := Lib.hid (show ((brkC xs d1 (d2 - d1 + 1).toNat).2.2 == 0) = true by simpa using hm)
  clear hm
  have hq := dcode_day2 hd
  have HD := Lib.hid hd
  clear hd
  obtain ⟨⟨q1, q2⟩, q3, q4⟩ := hq
  have hn3 : ¬ d2 < d1 := by omega
  have hn4 : ¬ 1000 < d2 - d1 + 1 := by omega
  go_enter Try.func26, Try.ntmps26
  go_wp2_with fail
  refine (impl_dayCode (h.alloc _) (ints_new2 _ _ _ _)).mono ?_
  rintro e w' ⟨rfl, m0, rfl⟩
  rw [HD.out]
  go_wp2_with fail
  go_loopw [10, 11, 12, 13] (fun f s l i wr => ∃ k m : Nat, k ≤ (d2 - d1 + 1).toNat ∧ i = .int .i64 (d1 + k) ∧ f = .int .i64 (brkC xs d1 k).2.1 ∧ s = .int .i64 (brkC xs d1 k).2.2 ∧ l = .int .i64 (brkC xs d1 k).1 ∧ wr = (w.alloc (.cells #[.int .i64 d1, .int .i64 d2] 2)).drewN m) (fun _ _ _ i _ => (d2 + 1 - intOf i).toNat)
  case atStart => exact ⟨0, _, by omega, by simp, rfl, rfl, rfl, rfl⟩
  case round =>
    obtain ⟨k, m, hk, rfl, rfl, rfl, rfl, rfl⟩ := hrel
    have hb := brkC_bd xs d1 k
    obtain ⟨b1, b2, b3, b4⟩ := hb
    by_cases hlt : k < (d2 - d1 + 1).toNat
    · have hlt' : d1 + k ≤ d2 := by omega
      go_wp2_with fail
      refine (impl_isCourtDay (d1 + k) (by omega) (by omega) ((h.alloc _).drewN m)).mono ?_
      rintro e w' ⟨rfl, m', rfl⟩
      by_cases hc : courtB xs (d1 + k) = true
      · have hs := Lib.hid (brk_court hc)
        go_wp2_with fail
        go_roundw
        case rel => exact ⟨k + 1, _, by omega, by go_num, by rw [hs.out.2.1], by rw [hs.out.2.2], by rw [hs.out.1], rfl⟩
        case measure => simp [intOf]; try omega
      · have hc' : courtB xs (d1 + k) = false := by simpa using hc
        by_cases hm2 : (brkC xs d1 k).2.2 < (brkC xs d1 k).1 + 1
        · have hs := Lib.hid (brk_more hc hm2)
          clear hc
          go_wp2_with fail
          go_roundw
          case rel => exact ⟨k + 1, _, by omega, by go_num, by rw [hs.out.2.1], by rw [hs.out.2.2], by rw [hs.out.1], rfl⟩
          case measure => simp [intOf]; try omega
        · have hs := Lib.hid (brk_same hc hm2)
          clear hc
          go_wp2_with fail
          go_roundw
          case rel => exact ⟨k + 1, _, by omega, by go_num, by rw [hs.out.2.1], by rw [hs.out.2.2], by rw [hs.out.1], rfl⟩
          case measure => simp [intOf]; try omega
    · have hge : ¬ d1 + k ≤ d2 := by omega
      obtain rfl : k = (d2 - d1 + 1).toNat := by omega
      have ht := hm'.out
      go_wp2_with fail
      go_ret3
      exact ⟨rfl, below_of_drewN ((Below.refl _ _).alloc (Nat.le_refl _) _) _⟩
set_option maxHeartbeats 1000000 in
theorem impl_LongestBreak_ok {v : Value} {xs : List Int} {w : World} (d1 d2 : Int) (hd : dcode xs [d1, d2] = 0) (hn1 : 0 ≤ d2 - d1) (hn2 : d2 - d1 ≤ 999) (hm : ¬ (brkC xs d1 (d2 - d1 + 1).toNat).2.2 = 0) (h : Ints w v xs) :
    Calls Try.prog 26 #[v, .int .i64 d1, .int .i64 d2] w fun e w' => e = .returned (.tuple #[.int .i64 (brkC xs d1 (d2 - d1 + 1).toNat).2.1, .int .i64 (brkC xs d1 (d2 - d1 + 1).toNat).2.2, .int .i64 0]) ∧ Below w.heap.size w w' := by
  have hm' := Lib.hid (show ((brkC xs d1 (d2 - d1 + 1).toNat).2.2 == 0) = false by simpa using hm)
  clear hm
  have hq := dcode_day2 hd
  have HD := Lib.hid hd
  clear hd
  obtain ⟨⟨q1, q2⟩, q3, q4⟩ := hq
  have hn3 : ¬ d2 < d1 := by omega
  have hn4 : ¬ 1000 < d2 - d1 + 1 := by omega
  go_enter Try.func26, Try.ntmps26
  go_wp2_with fail
  refine (impl_dayCode (h.alloc _) (ints_new2 _ _ _ _)).mono ?_
  rintro e w' ⟨rfl, m0, rfl⟩
  rw [HD.out]
  go_wp2_with fail
  go_loopw [10, 11, 12, 13] (fun f s l i wr => ∃ k m : Nat, k ≤ (d2 - d1 + 1).toNat ∧ i = .int .i64 (d1 + k) ∧ f = .int .i64 (brkC xs d1 k).2.1 ∧ s = .int .i64 (brkC xs d1 k).2.2 ∧ l = .int .i64 (brkC xs d1 k).1 ∧ wr = (w.alloc (.cells #[.int .i64 d1, .int .i64 d2] 2)).drewN m) (fun _ _ _ i _ => (d2 + 1 - intOf i).toNat)
  case atStart => exact ⟨0, _, by omega, by simp, rfl, rfl, rfl, rfl⟩
  case round =>
    obtain ⟨k, m, hk, rfl, rfl, rfl, rfl, rfl⟩ := hrel
    have hb := brkC_bd xs d1 k
    obtain ⟨b1, b2, b3, b4⟩ := hb
    by_cases hlt : k < (d2 - d1 + 1).toNat
    · have hlt' : d1 + k ≤ d2 := by omega
      go_wp2_with fail
      refine (impl_isCourtDay (d1 + k) (by omega) (by omega) ((h.alloc _).drewN m)).mono ?_
      rintro e w' ⟨rfl, m', rfl⟩
      by_cases hc : courtB xs (d1 + k) = true
      · have hs := Lib.hid (brk_court hc)
        go_wp2_with fail
        go_roundw
        case rel => exact ⟨k + 1, _, by omega, by go_num, by rw [hs.out.2.1], by rw [hs.out.2.2], by rw [hs.out.1], rfl⟩
        case measure => simp [intOf]; try omega
      · have hc' : courtB xs (d1 + k) = false := by simpa using hc
        by_cases hm2 : (brkC xs d1 k).2.2 < (brkC xs d1 k).1 + 1
        · have hs := Lib.hid (brk_more hc hm2)
          clear hc
          go_wp2_with fail
          go_roundw
          case rel => exact ⟨k + 1, _, by omega, by go_num, by rw [hs.out.2.1], by rw [hs.out.2.2], by rw [hs.out.1], rfl⟩
          case measure => simp [intOf]; try omega
        · have hs := Lib.hid (brk_same hc hm2)
          clear hc
          go_wp2_with fail
          go_roundw
          case rel => exact ⟨k + 1, _, by omega, by go_num, by rw [hs.out.2.1], by rw [hs.out.2.2], by rw [hs.out.1], rfl⟩
          case measure => simp [intOf]; try omega
    · have hge : ¬ d1 + k ≤ d2 := by omega
      obtain rfl : k = (d2 - d1 + 1).toNat := by omega
      have ht := hm'.out
      go_wp2_with fail
      go_ret3
      exact ⟨rfl, below_of_drewN ((Below.refl _ _).alloc (Nat.le_refl _) _) _⟩
set_option maxHeartbeats 1000000 in
theorem spec_LongestBreak_none {v : Value} {xs : List Int} {w : World} (d1 d2 : Int) (hd : dcode xs [d1, d2] = 0) (hn1 : 0 ≤ d2 - d1) (hn2 : d2 - d1 ≤ 999) (hm : (brkC xs d1 (d2 - d1 + 1).toNat).2.2 = 0) (h : Ints w v xs) :
    Calls Try.prog 25 #[v, .int .i64 d1, .int .i64 d2] w fun e w' => e = .returned (.tuple #[.int .i64 0, .int .i64 0, .int .i64 4]) ∧ ∃ m, w' = w.drewN m := by
  have hm' := Lib.hid (show ((brkC xs d1 (d2 - d1 + 1).toNat).2.2 == 0) = true by simpa using hm)
  clear hm
  have hq := dcode_day2 hd
  have HD := Lib.hid hd
  clear hd
  obtain ⟨⟨q1, q2⟩, q3, q4⟩ := hq
  have hn3 : ¬ d2 < d1 := by omega
  have hn4 : ¬ 1000 < d2 - d1 + 1 := by omega
  go_enter Try.func25, Try.ntmps25
  go_wp2_with fail
  refine (spec_l02Code d1 d2 h).mono ?_
  rintro e w' ⟨rfl, m0, rfl⟩
  rw [HD.out]
  go_wp2_with fail
  refine (in_yes (d2 - d1) 0 999 (by omega) (by omega) _).mono ?_
  rintro e w' ⟨rfl, rfl⟩
  go_wp2_with fail
  go_loopw [10, 11, 12, 13] (fun f s l i wr => ∃ k m : Nat, k ≤ (d2 - d1 + 1).toNat ∧ i = .int .i64 (d1 + k) ∧ f = .int .i64 (brkC xs d1 k).2.1 ∧ s = .int .i64 (brkC xs d1 k).2.2 ∧ l = .int .i64 (brkC xs d1 k).1 ∧ wr = (w).drewN m) (fun _ _ _ i _ => (d2 + 1 - intOf i).toNat)
  case atStart => exact ⟨0, _, by omega, by simp, rfl, rfl, rfl, rfl⟩
  case round =>
    obtain ⟨k, m, hk, rfl, rfl, rfl, rfl, rfl⟩ := hrel
    have hb := brkC_bd xs d1 k
    obtain ⟨b1, b2, b3, b4⟩ := hb
    by_cases hlt : k < (d2 - d1 + 1).toNat
    · have hlt' : d1 + k ≤ d2 := by omega
      go_wp2_with fail
      refine (spec_court (d1 + k) (by omega) (by omega) (h.drewN m)).mono ?_
      rintro e w' ⟨rfl, m', rfl⟩
      by_cases hc : courtB xs (d1 + k) = true
      · have hs := Lib.hid (brk_court hc)
        go_wp2_with fail
        go_roundw
        case rel => exact ⟨k + 1, _, by omega, by go_num, by rw [hs.out.2.1], by rw [hs.out.2.2], by rw [hs.out.1], rfl⟩
        case measure => simp [intOf]; try omega
      · have hc' : courtB xs (d1 + k) = false := by simpa using hc
        by_cases hm2 : (brkC xs d1 k).2.2 < (brkC xs d1 k).1 + 1
        · have hs := Lib.hid (brk_more hc hm2)
          clear hc
          go_wp2_with fail
          go_roundw
          case rel => exact ⟨k + 1, _, by omega, by go_num, by rw [hs.out.2.1], by rw [hs.out.2.2], by rw [hs.out.1], rfl⟩
          case measure => simp [intOf]; try omega
        · have hs := Lib.hid (brk_same hc hm2)
          clear hc
          go_wp2_with fail
          go_roundw
          case rel => exact ⟨k + 1, _, by omega, by go_num, by rw [hs.out.2.1], by rw [hs.out.2.2], by rw [hs.out.1], rfl⟩
          case measure => simp [intOf]; try omega
    · have hge : ¬ d1 + k ≤ d2 := by omega
      obtain rfl : k = (d2 - d1 + 1).toNat := by omega
      have ht := hm'.out
      go_wp2_with fail
      go_ret3
      exact ⟨rfl, _, rfl⟩
set_option maxHeartbeats 1000000 in
theorem spec_LongestBreak_ok {v : Value} {xs : List Int} {w : World} (d1 d2 : Int) (hd : dcode xs [d1, d2] = 0) (hn1 : 0 ≤ d2 - d1) (hn2 : d2 - d1 ≤ 999) (hm : ¬ (brkC xs d1 (d2 - d1 + 1).toNat).2.2 = 0) (h : Ints w v xs) :
    Calls Try.prog 25 #[v, .int .i64 d1, .int .i64 d2] w fun e w' => e = .returned (.tuple #[.int .i64 (brkC xs d1 (d2 - d1 + 1).toNat).2.1, .int .i64 (brkC xs d1 (d2 - d1 + 1).toNat).2.2, .int .i64 0]) ∧ ∃ m, w' = w.drewN m := by
  have hm' := Lib.hid (show ((brkC xs d1 (d2 - d1 + 1).toNat).2.2 == 0) = false by simpa using hm)
  clear hm
  have hq := dcode_day2 hd
  have HD := Lib.hid hd
  clear hd
  obtain ⟨⟨q1, q2⟩, q3, q4⟩ := hq
  have hn3 : ¬ d2 < d1 := by omega
  have hn4 : ¬ 1000 < d2 - d1 + 1 := by omega
  go_enter Try.func25, Try.ntmps25
  go_wp2_with fail
  refine (spec_l02Code d1 d2 h).mono ?_
  rintro e w' ⟨rfl, m0, rfl⟩
  rw [HD.out]
  go_wp2_with fail
  refine (in_yes (d2 - d1) 0 999 (by omega) (by omega) _).mono ?_
  rintro e w' ⟨rfl, rfl⟩
  go_wp2_with fail
  go_loopw [10, 11, 12, 13] (fun f s l i wr => ∃ k m : Nat, k ≤ (d2 - d1 + 1).toNat ∧ i = .int .i64 (d1 + k) ∧ f = .int .i64 (brkC xs d1 k).2.1 ∧ s = .int .i64 (brkC xs d1 k).2.2 ∧ l = .int .i64 (brkC xs d1 k).1 ∧ wr = (w).drewN m) (fun _ _ _ i _ => (d2 + 1 - intOf i).toNat)
  case atStart => exact ⟨0, _, by omega, by simp, rfl, rfl, rfl, rfl⟩
  case round =>
    obtain ⟨k, m, hk, rfl, rfl, rfl, rfl, rfl⟩ := hrel
    have hb := brkC_bd xs d1 k
    obtain ⟨b1, b2, b3, b4⟩ := hb
    by_cases hlt : k < (d2 - d1 + 1).toNat
    · have hlt' : d1 + k ≤ d2 := by omega
      go_wp2_with fail
      refine (spec_court (d1 + k) (by omega) (by omega) (h.drewN m)).mono ?_
      rintro e w' ⟨rfl, m', rfl⟩
      by_cases hc : courtB xs (d1 + k) = true
      · have hs := Lib.hid (brk_court hc)
        go_wp2_with fail
        go_roundw
        case rel => exact ⟨k + 1, _, by omega, by go_num, by rw [hs.out.2.1], by rw [hs.out.2.2], by rw [hs.out.1], rfl⟩
        case measure => simp [intOf]; try omega
      · have hc' : courtB xs (d1 + k) = false := by simpa using hc
        by_cases hm2 : (brkC xs d1 k).2.2 < (brkC xs d1 k).1 + 1
        · have hs := Lib.hid (brk_more hc hm2)
          clear hc
          go_wp2_with fail
          go_roundw
          case rel => exact ⟨k + 1, _, by omega, by go_num, by rw [hs.out.2.1], by rw [hs.out.2.2], by rw [hs.out.1], rfl⟩
          case measure => simp [intOf]; try omega
        · have hs := Lib.hid (brk_same hc hm2)
          clear hc
          go_wp2_with fail
          go_roundw
          case rel => exact ⟨k + 1, _, by omega, by go_num, by rw [hs.out.2.1], by rw [hs.out.2.2], by rw [hs.out.1], rfl⟩
          case measure => simp [intOf]; try omega
    · have hge : ¬ d1 + k ≤ d2 := by omega
      obtain rfl : k = (d2 - d1 + 1).toNat := by omega
      have ht := hm'.out
      go_wp2_with fail
      go_ret3
      exact ⟨rfl, _, rfl⟩
end Go.Proofs.Ytiphankcngclfaa
