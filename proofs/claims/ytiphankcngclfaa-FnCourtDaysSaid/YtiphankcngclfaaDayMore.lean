/-
  NextCourtDay, DeadlineOf, AddCourtDays, LastCourtDay of both packages, case by case: what each call returns.
  Conditions: each lemma names its own.
-/
import Derived.Test.YtiphankcngclfaaDayNext
import Derived.Test.YtiphankcngclfaaRange
namespace Go.Proofs.Ytiphankcngclfaa
open Go.RowKit
set_option linter.unusedVariables false

theorem dcode_eq0 {xs ds : List Int} (h : dcode xs ds = 0) : (dcode xs ds == 0) = true := by rw [h]; rfl
theorem dcode_eq1 {xs ds : List Int} (h : ¬ dcode xs ds = 0) : (dcode xs ds == 0) = false := by rw [beq_eq_false_iff_ne]; exact h

theorem limit_ok (r : Int) (h : r ≤ 20000) (w : World) : Calls Try.prog 43 #[.int .i64 r, .int .i64 0] w fun e w' => e = .returned (.tuple #[.int .i64 r, .int .i64 0]) ∧ w = w' := by
  go_enter Try.func43, Try.ntmps43
  go_wp2
  go_ret2
  exact ⟨rfl, rfl⟩
theorem limit_late (r : Int) (h : 20000 < r) (w : World) : Calls Try.prog 43 #[.int .i64 r, .int .i64 0] w fun e w' => e = .returned (.tuple #[.int .i64 0, .int .i64 3]) ∧ w = w' := by
  go_enter Try.func43, Try.ntmps43
  go_wp2
  go_ret2
  exact ⟨rfl, rfl⟩

set_option maxHeartbeats 400000 in
theorem impl_NextCourtDay_bad {v : Value} {xs : List Int} {w : World} (d : Int) (hd : ¬ dcode xs [d] = 0) (h : Ints w v xs) :
    Calls Try.prog 22 #[v, .int .i64 d] w fun e w' => e = .returned (.tuple #[.int .i64 0, .int .i64 (dcode xs [d])]) ∧ Below w.heap.size w w' := by
  have hb := dcode_test1 hd
  have he := dcode_eq1 hd
  clear hd
  go_enter Try.func22, Try.ntmps22
  go_wp2_with fail
  refine (impl_dayCode (h.alloc _) (ints_new1 _ _ _)).mono ?_
  rintro e w' ⟨rfl, m, rfl⟩
  go_wp2_with fail
  go_ret2
  exact ⟨rfl, below_of_drewN ((Below.refl _ _).alloc (Nat.le_refl _) _) _⟩
set_option maxHeartbeats 400000 in
theorem spec_NextCourtDay_bad {v : Value} {xs : List Int} {w : World} (d : Int) (hd : ¬ dcode xs [d] = 0) (h : Ints w v xs) :
    Calls Try.prog 21 #[v, .int .i64 d] w fun e w' => e = .returned (.tuple #[.int .i64 0, .int .i64 (dcode xs [d])]) ∧ ∃ m, w' = w.drewN m := by
  have hb := dcode_test1 hd
  have he := dcode_eq1 hd
  clear hd
  go_enter Try.func21, Try.ntmps21
  go_wp2_with fail
  refine (spec_l02Code d d h).mono ?_
  rintro e w' ⟨rfl, m, rfl⟩
  rw [dcode_twice]
  go_wp2_with fail
  go_ret2
  exact ⟨rfl, _, rfl⟩
set_option maxHeartbeats 400000 in
theorem impl_LastCourtDay_bad {v : Value} {xs : List Int} {w : World} (d : Int) (hd : ¬ dcode xs [d] = 0) (h : Ints w v xs) :
    Calls Try.prog 18 #[v, .int .i64 d] w fun e w' => e = .returned (.tuple #[.int .i64 0, .int .i64 (dcode xs [d])]) ∧ Below w.heap.size w w' := by
  have hb := dcode_test1 hd
  have he := dcode_eq1 hd
  clear hd
  go_enter Try.func18, Try.ntmps18
  go_wp2_with fail
  refine (impl_dayCode (h.alloc _) (ints_new1 _ _ _)).mono ?_
  rintro e w' ⟨rfl, m, rfl⟩
  go_wp2_with fail
  go_ret2
  exact ⟨rfl, below_of_drewN ((Below.refl _ _).alloc (Nat.le_refl _) _) _⟩
set_option maxHeartbeats 400000 in
theorem spec_LastCourtDay_bad {v : Value} {xs : List Int} {w : World} (d : Int) (hd : ¬ dcode xs [d] = 0) (h : Ints w v xs) :
    Calls Try.prog 17 #[v, .int .i64 d] w fun e w' => e = .returned (.tuple #[.int .i64 0, .int .i64 (dcode xs [d])]) ∧ ∃ m, w' = w.drewN m := by
  have hb := dcode_test1 hd
  have he := dcode_eq1 hd
  clear hd
  go_enter Try.func17, Try.ntmps17
  go_wp2_with fail
  refine (spec_l02Code d d h).mono ?_
  rintro e w' ⟨rfl, m, rfl⟩
  rw [dcode_twice]
  go_wp2_with fail
  go_ret2
  exact ⟨rfl, _, rfl⟩
set_option maxHeartbeats 400000 in
theorem impl_DeadlineOf_bad {v : Value} {xs : List Int} {w : World} (d : Int) (n : Int) (hd : ¬ dcode xs [d] = 0) (h : Ints w v xs) :
    Calls Try.prog 24 #[v, .int .i64 d, .int .i64 n] w fun e w' => e = .returned (.tuple #[.int .i64 0, .int .i64 (dcode xs [d])]) ∧ Below w.heap.size w w' := by
  have hb := dcode_test1 hd
  have he := dcode_eq1 hd
  clear hd
  go_enter Try.func24, Try.ntmps24
  go_wp2_with fail
  refine (impl_dayCode (h.alloc _) (ints_new1 _ _ _)).mono ?_
  rintro e w' ⟨rfl, m, rfl⟩
  go_wp2_with fail
  go_ret2
  exact ⟨rfl, below_of_drewN ((Below.refl _ _).alloc (Nat.le_refl _) _) _⟩
set_option maxHeartbeats 400000 in
theorem spec_DeadlineOf_bad {v : Value} {xs : List Int} {w : World} (d : Int) (n : Int) (hd : ¬ dcode xs [d] = 0) (h : Ints w v xs) :
    Calls Try.prog 23 #[v, .int .i64 d, .int .i64 n] w fun e w' => e = .returned (.tuple #[.int .i64 0, .int .i64 (dcode xs [d])]) ∧ ∃ m, w' = w.drewN m := by
  have hb := dcode_test1 hd
  have he := dcode_eq1 hd
  clear hd
  go_enter Try.func23, Try.ntmps23
  go_wp2_with fail
  refine (spec_l02Code d d h).mono ?_
  rintro e w' ⟨rfl, m, rfl⟩
  rw [dcode_twice]
  go_wp2_with fail
  go_ret2
  exact ⟨rfl, _, rfl⟩
set_option maxHeartbeats 400000 in
theorem impl_AddCourtDays_bad {v : Value} {xs : List Int} {w : World} (d : Int) (n : Int) (hd : ¬ dcode xs [d] = 0) (h : Ints w v xs) :
    Calls Try.prog 28 #[v, .int .i64 d, .int .i64 n] w fun e w' => e = .returned (.tuple #[.int .i64 0, .int .i64 (dcode xs [d])]) ∧ Below w.heap.size w w' := by
  have hb := dcode_test1 hd
  have he := dcode_eq1 hd
  clear hd
  go_enter Try.func28, Try.ntmps28
  go_wp2_with fail
  refine (impl_dayCode (h.alloc _) (ints_new1 _ _ _)).mono ?_
  rintro e w' ⟨rfl, m, rfl⟩
  go_wp2_with fail
  go_ret2
  exact ⟨rfl, below_of_drewN ((Below.refl _ _).alloc (Nat.le_refl _) _) _⟩
set_option maxHeartbeats 400000 in
theorem spec_AddCourtDays_bad {v : Value} {xs : List Int} {w : World} (d : Int) (n : Int) (hd : ¬ dcode xs [d] = 0) (h : Ints w v xs) :
    Calls Try.prog 27 #[v, .int .i64 d, .int .i64 n] w fun e w' => e = .returned (.tuple #[.int .i64 0, .int .i64 (dcode xs [d])]) ∧ ∃ m, w' = w.drewN m := by
  have hb := dcode_test1 hd
  have he := dcode_eq1 hd
  clear hd
  go_enter Try.func27, Try.ntmps27
  go_wp2_with fail
  refine (spec_l02Code d d h).mono ?_
  rintro e w' ⟨rfl, m, rfl⟩
  rw [dcode_twice]
  go_wp2_with fail
  go_ret2
  exact ⟨rfl, _, rfl⟩
set_option maxHeartbeats 400000 in
theorem impl_NextCourtDay_ok {v : Value} {xs : List Int} {w : World} (d : Int) (r : Int) (hd : dcode xs [d] = 0) (hr : NextIs xs d r) (hrb : r ≤ 1000000) (hr20 : r ≤ 20000) (h : Ints w v xs) :
    Calls Try.prog 22 #[v, .int .i64 d] w fun e w' => e = .returned (.tuple #[.int .i64 r, .int .i64 0]) ∧ Below w.heap.size w w' := by
  have hb := dcode_test0 hd
  have he := dcode_eq0 hd
  have hq := dcode_day hd
  have HD := Lib.hid hd
  clear hd
  go_enter Try.func22, Try.ntmps22
  go_wp2_with fail
  refine (impl_dayCode (h.alloc _) (ints_new1 _ _ _)).mono ?_
  rintro e w' ⟨rfl, m, rfl⟩
  go_wp2_with fail
  refine (impl_next_ok d r hq.1 hr hr20 ((h.alloc _).drewN m)).mono ?_
  rintro e w' ⟨rfl, m', rfl⟩
  go_wp2_with fail
  go_ret2
  exact ⟨rfl, below_of_drewN ((Below.refl _ _).alloc (Nat.le_refl _) _) _⟩
set_option maxHeartbeats 400000 in
theorem spec_NextCourtDay_ok {v : Value} {xs : List Int} {w : World} (d : Int) (r : Int) (hd : dcode xs [d] = 0) (hr : NextIs xs d r) (hrb : r ≤ 1000000) (hr20 : r ≤ 20000) (h : Ints w v xs) :
    Calls Try.prog 21 #[v, .int .i64 d] w fun e w' => e = .returned (.tuple #[.int .i64 r, .int .i64 0]) ∧ ∃ m, w' = w.drewN m := by
  have HDD : Hid (dcode xs [d, d] = 0) := Lib.hid (by rw [dcode_twice]; exact hd)
  have hq := dcode_day hd
  have HD := Lib.hid hd
  clear hd
  go_enter Try.func21, Try.ntmps21
  go_wp2_with fail
  refine (spec_l02Code d d h).mono ?_
  rintro e w' ⟨rfl, m, rfl⟩
  rw [HDD.out]
  go_wp2_with fail
  refine (spec_next_c d r hq.1 hr hrb (h.drewN m)).mono ?_
  rintro e w' ⟨rfl, m', rfl⟩
  go_wp2_with fail
  refine (limit_ok r hr20 _).mono ?_
  rintro e w' ⟨rfl, rfl⟩
  go_wp2_with fail
  go_ret2
  exact ⟨rfl, _, rfl⟩
set_option maxHeartbeats 400000 in
theorem impl_NextCourtDay_late {v : Value} {xs : List Int} {w : World} (d : Int) (r : Int) (hd : dcode xs [d] = 0) (hr : NextIs xs d r) (hrb : r ≤ 1000000) (hr20 : 20000 < r) (h : Ints w v xs) :
    Calls Try.prog 22 #[v, .int .i64 d] w fun e w' => e = .returned (.tuple #[.int .i64 0, .int .i64 3]) ∧ Below w.heap.size w w' := by
  have hb := dcode_test0 hd
  have he := dcode_eq0 hd
  have hq := dcode_day hd
  have HD := Lib.hid hd
  clear hd
  go_enter Try.func22, Try.ntmps22
  go_wp2_with fail
  refine (impl_dayCode (h.alloc _) (ints_new1 _ _ _)).mono ?_
  rintro e w' ⟨rfl, m, rfl⟩
  go_wp2_with fail
  refine (impl_next_late d r hq.1 hr hr20 hrb ((h.alloc _).drewN m)).mono ?_
  rintro e w' ⟨rfl, m', rfl⟩
  go_wp2_with fail
  go_ret2
  exact ⟨rfl, below_of_drewN ((Below.refl _ _).alloc (Nat.le_refl _) _) _⟩
set_option maxHeartbeats 400000 in
theorem spec_NextCourtDay_late {v : Value} {xs : List Int} {w : World} (d : Int) (r : Int) (hd : dcode xs [d] = 0) (hr : NextIs xs d r) (hrb : r ≤ 1000000) (hr20 : 20000 < r) (h : Ints w v xs) :
    Calls Try.prog 21 #[v, .int .i64 d] w fun e w' => e = .returned (.tuple #[.int .i64 0, .int .i64 3]) ∧ ∃ m, w' = w.drewN m := by
  have HDD : Hid (dcode xs [d, d] = 0) := Lib.hid (by rw [dcode_twice]; exact hd)
  have hq := dcode_day hd
  have HD := Lib.hid hd
  clear hd
  go_enter Try.func21, Try.ntmps21
  go_wp2_with fail
  refine (spec_l02Code d d h).mono ?_
  rintro e w' ⟨rfl, m, rfl⟩
  rw [HDD.out]
  go_wp2_with fail
  refine (spec_next_c d r hq.1 hr hrb (h.drewN m)).mono ?_
  rintro e w' ⟨rfl, m', rfl⟩
  go_wp2_with fail
  refine (limit_late r hr20 _).mono ?_
  rintro e w' ⟨rfl, rfl⟩
  go_wp2_with fail
  go_ret2
  exact ⟨rfl, _, rfl⟩
set_option maxHeartbeats 400000 in
theorem impl_DeadlineOf_range {v : Value} {xs : List Int} {w : World} (d : Int) (n : Int) (hd : dcode xs [d] = 0) (hn : n < 0 ∨ 1000 < n) (h : Ints w v xs) :
    Calls Try.prog 24 #[v, .int .i64 d, .int .i64 n] w fun e w' => e = .returned (.tuple #[.int .i64 0, .int .i64 2]) ∧ Below w.heap.size w w' := by
  have hb := dcode_test0 hd
  have he := dcode_eq0 hd
  have hq := dcode_day hd
  have HD := Lib.hid hd
  clear hd
  have HN := Lib.hid hn
  clear hn
  go_enter Try.func24, Try.ntmps24
  go_wp2_with fail
  refine (impl_dayCode (h.alloc _) (ints_new1 _ _ _)).mono ?_
  rintro e w' ⟨rfl, m, rfl⟩
  go_wp2_with fail
  refine (within_no n 0 1000 HN.out _).mono ?_
  rintro e w' ⟨rfl, rfl⟩
  go_wp2_with fail
  go_ret2
  exact ⟨rfl, below_of_drewN ((Below.refl _ _).alloc (Nat.le_refl _) _) _⟩
set_option maxHeartbeats 400000 in
theorem spec_DeadlineOf_range {v : Value} {xs : List Int} {w : World} (d : Int) (n : Int) (hd : dcode xs [d] = 0) (hn : n < 0 ∨ 1000 < n) (h : Ints w v xs) :
    Calls Try.prog 23 #[v, .int .i64 d, .int .i64 n] w fun e w' => e = .returned (.tuple #[.int .i64 0, .int .i64 2]) ∧ ∃ m, w' = w.drewN m := by
  have HDD : Hid (dcode xs [d, d] = 0) := Lib.hid (by rw [dcode_twice]; exact hd)
  have hq := dcode_day hd
  have HD := Lib.hid hd
  clear hd
  have HN := Lib.hid hn
  clear hn
  go_enter Try.func23, Try.ntmps23
  go_wp2_with fail
  refine (spec_l02Code d d h).mono ?_
  rintro e w' ⟨rfl, m, rfl⟩
  rw [HDD.out]
  go_wp2_with fail
  refine (in_no n 0 1000 HN.out _).mono ?_
  rintro e w' ⟨rfl, rfl⟩
  go_wp2_with fail
  go_ret2
  exact ⟨rfl, _, rfl⟩
set_option maxHeartbeats 400000 in
theorem impl_DeadlineOf_ok {v : Value} {xs : List Int} {w : World} (d : Int) (n r : Int) (hd : dcode xs [d] = 0) (hn0 : 0 ≤ n) (hn1 : n ≤ 1000) (hr : NextIs xs (d + n) r) (hrb : r ≤ 1000000) (hr20 : r ≤ 20000) (h : Ints w v xs) :
    Calls Try.prog 24 #[v, .int .i64 d, .int .i64 n] w fun e w' => e = .returned (.tuple #[.int .i64 r, .int .i64 0]) ∧ Below w.heap.size w w' := by
  have hb := dcode_test0 hd
  have he := dcode_eq0 hd
  have hq := dcode_day hd
  have HD := Lib.hid hd
  clear hd
  go_enter Try.func24, Try.ntmps24
  go_wp2_with fail
  refine (impl_dayCode (h.alloc _) (ints_new1 _ _ _)).mono ?_
  rintro e w' ⟨rfl, m, rfl⟩
  go_wp2_with fail
  refine (within_yes n 0 1000 hn0 hn1 _).mono ?_
  rintro e w' ⟨rfl, rfl⟩
  go_wp2_with fail
  refine (impl_next_ok (d + n) r (by omega) hr hr20 ((h.alloc _).drewN m)).mono ?_
  rintro e w' ⟨rfl, m', rfl⟩
  go_wp2_with fail
  go_ret2
  exact ⟨rfl, below_of_drewN ((Below.refl _ _).alloc (Nat.le_refl _) _) _⟩
set_option maxHeartbeats 400000 in
theorem spec_DeadlineOf_ok {v : Value} {xs : List Int} {w : World} (d : Int) (n r : Int) (hd : dcode xs [d] = 0) (hn0 : 0 ≤ n) (hn1 : n ≤ 1000) (hr : NextIs xs (d + n) r) (hrb : r ≤ 1000000) (hr20 : r ≤ 20000) (h : Ints w v xs) :
    Calls Try.prog 23 #[v, .int .i64 d, .int .i64 n] w fun e w' => e = .returned (.tuple #[.int .i64 r, .int .i64 0]) ∧ ∃ m, w' = w.drewN m := by
  have HDD : Hid (dcode xs [d, d] = 0) := Lib.hid (by rw [dcode_twice]; exact hd)
  have hq := dcode_day hd
  have HD := Lib.hid hd
  clear hd
  go_enter Try.func23, Try.ntmps23
  go_wp2_with fail
  refine (spec_l02Code d d h).mono ?_
  rintro e w' ⟨rfl, m, rfl⟩
  rw [HDD.out]
  go_wp2_with fail
  refine (in_yes n 0 1000 hn0 hn1 _).mono ?_
  rintro e w' ⟨rfl, rfl⟩
  go_wp2_with fail
  refine (spec_next_c (d + n) r (by omega) hr hrb (h.drewN m)).mono ?_
  rintro e w' ⟨rfl, m', rfl⟩
  go_wp2_with fail
  refine (limit_ok r hr20 _).mono ?_
  rintro e w' ⟨rfl, rfl⟩
  go_wp2_with fail
  go_ret2
  exact ⟨rfl, _, rfl⟩
set_option maxHeartbeats 400000 in
theorem impl_DeadlineOf_late {v : Value} {xs : List Int} {w : World} (d : Int) (n r : Int) (hd : dcode xs [d] = 0) (hn0 : 0 ≤ n) (hn1 : n ≤ 1000) (hr : NextIs xs (d + n) r) (hrb : r ≤ 1000000) (hr20 : 20000 < r) (h : Ints w v xs) :
    Calls Try.prog 24 #[v, .int .i64 d, .int .i64 n] w fun e w' => e = .returned (.tuple #[.int .i64 0, .int .i64 3]) ∧ Below w.heap.size w w' := by
  have hb := dcode_test0 hd
  have he := dcode_eq0 hd
  have hq := dcode_day hd
  have HD := Lib.hid hd
  clear hd
  go_enter Try.func24, Try.ntmps24
  go_wp2_with fail
  refine (impl_dayCode (h.alloc _) (ints_new1 _ _ _)).mono ?_
  rintro e w' ⟨rfl, m, rfl⟩
  go_wp2_with fail
  refine (within_yes n 0 1000 hn0 hn1 _).mono ?_
  rintro e w' ⟨rfl, rfl⟩
  go_wp2_with fail
  refine (impl_next_late (d + n) r (by omega) hr hr20 hrb ((h.alloc _).drewN m)).mono ?_
  rintro e w' ⟨rfl, m', rfl⟩
  go_wp2_with fail
  go_ret2
  exact ⟨rfl, below_of_drewN ((Below.refl _ _).alloc (Nat.le_refl _) _) _⟩
set_option maxHeartbeats 400000 in
theorem spec_DeadlineOf_late {v : Value} {xs : List Int} {w : World} (d : Int) (n r : Int) (hd : dcode xs [d] = 0) (hn0 : 0 ≤ n) (hn1 : n ≤ 1000) (hr : NextIs xs (d + n) r) (hrb : r ≤ 1000000) (hr20 : 20000 < r) (h : Ints w v xs) :
    Calls Try.prog 23 #[v, .int .i64 d, .int .i64 n] w fun e w' => e = .returned (.tuple #[.int .i64 0, .int .i64 3]) ∧ ∃ m, w' = w.drewN m := by
  have HDD : Hid (dcode xs [d, d] = 0) := Lib.hid (by rw [dcode_twice]; exact hd)
  have hq := dcode_day hd
  have HD := Lib.hid hd
  clear hd
  go_enter Try.func23, Try.ntmps23
  go_wp2_with fail
  refine (spec_l02Code d d h).mono ?_
  rintro e w' ⟨rfl, m, rfl⟩
  rw [HDD.out]
  go_wp2_with fail
  refine (in_yes n 0 1000 hn0 hn1 _).mono ?_
  rintro e w' ⟨rfl, rfl⟩
  go_wp2_with fail
  refine (spec_next_c (d + n) r (by omega) hr hrb (h.drewN m)).mono ?_
  rintro e w' ⟨rfl, m', rfl⟩
  go_wp2_with fail
  refine (limit_late r hr20 _).mono ?_
  rintro e w' ⟨rfl, rfl⟩
  go_wp2_with fail
  go_ret2
  exact ⟨rfl, _, rfl⟩
end Go.Proofs.Ytiphankcngclfaa
