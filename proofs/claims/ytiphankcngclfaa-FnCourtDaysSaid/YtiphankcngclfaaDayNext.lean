/-
  IsCourtDay, NextCourtDay, DeadlineOf, AddCourtDays of both packages: what each call returns.
  Conditions: each lemma names its own.
-/
import Derived.Test.YtiphankcngclfaaDay
namespace Go.Proofs.Ytiphankcngclfaa
open Go.RowKit

theorem ints_new1 (w : World) (d : Int) (e : TypeId) : Ints (w.alloc (.cells #[.int .i64 d] e)) (.slice (some ⟨w.heap.size, 0, none⟩) 1 1) [d] := by
  refine ⟨rfl, some ⟨w.heap.size, 0, none⟩, 1, rfl, Nat.le_refl _, by decide, (fun h => by cases h), fun _ => ⟨w.heap.size, 0, rfl, by simp, fun j u hu => ?_⟩⟩
  have hg := heap_alloc_new w (.cells #[.int .i64 d] e)
  rw [cell_of_row _ _ (0 + j) _ _ _ hg]
  match j, hu with
  | 0, hu => simpa using hu
theorem ints_new2 (w : World) (d1 d2 : Int) (e : TypeId) : Ints (w.alloc (.cells #[.int .i64 d1, .int .i64 d2] e)) (.slice (some ⟨w.heap.size, 0, none⟩) 2 2) [d1, d2] := by
  refine ⟨rfl, some ⟨w.heap.size, 0, none⟩, 2, rfl, Nat.le_refl _, by decide, (fun h => by cases h), fun _ => ⟨w.heap.size, 0, rfl, by simp, fun j u hu => ?_⟩⟩
  have hg := heap_alloc_new w (.cells #[.int .i64 d1, .int .i64 d2] e)
  rw [cell_of_row _ _ (0 + j) _ _ _ hg]
  match j, hu with
  | 0, hu => simpa using hu
  | 1, hu => simpa using hu
theorem Ints.alloc {w : World} {v : Value} {xs : List Int} (h : Ints w v xs) (o : Obj) : Ints (w.alloc o) v xs := h.below ((Below.refl _ _).alloc (Nat.le_refl _) o)

theorem dcode_test0 {xs ds : List Int} (h : dcode xs ds = 0) : (dcode xs ds != 0) = false := by rw [h]; rfl
theorem dcode_test1 {xs ds : List Int} (h : ¬ dcode xs ds = 0) : (dcode xs ds != 0) = true := by rw [bne_iff_ne]; exact h
theorem dcode_day {xs : List Int} {d : Int} (h : dcode xs [d] = 0) : 0 ≤ d ∧ d ≤ 20000 := (dcode_ok.1 h).2 d (by simp)
theorem dcode_day2 {xs : List Int} {d1 d2 : Int} (h : dcode xs [d1, d2] = 0) : (0 ≤ d1 ∧ d1 ≤ 20000) ∧ 0 ≤ d2 ∧ d2 ≤ 20000 := ⟨(dcode_ok.1 h).2 d1 (by simp), (dcode_ok.1 h).2 d2 (by simp)⟩

theorem impl_IsCourtDay_ok {v : Value} {xs : List Int} {w : World} (d : Int) (h : Ints w v xs) (hd : dcode xs [d] = 0) :
    Calls Try.prog 15 #[v, .int .i64 d] w fun e w' => e = .returned (.tuple #[.bool (courtB xs d), .int .i64 0]) ∧ Below w.heap.size w w' := by
  have hb := dcode_test0 hd
  have hq := dcode_day hd
  have HD := Lib.hid hd
  clear hd
  go_enter Try.func15, Try.ntmps15
  go_wp2_with fail
  refine (impl_dayCode (h.alloc _) (ints_new1 _ _ _)).mono ?_
  rintro e w' ⟨rfl, m, rfl⟩
  go_wp2_with fail
  refine (impl_isCourtDay d hq.1 (by omega) ((h.alloc _).drewN m)).mono ?_
  rintro e w' ⟨rfl, m', rfl⟩
  go_wp2_with fail
  go_ret2
  exact ⟨rfl, below_of_drewN ((Below.refl _ _).alloc (Nat.le_refl _) _) _⟩
theorem impl_IsCourtDay_bad {v : Value} {xs : List Int} {w : World} (d : Int) (h : Ints w v xs) (hd : ¬ dcode xs [d] = 0) :
    Calls Try.prog 15 #[v, .int .i64 d] w fun e w' => e = .returned (.tuple #[.bool false, .int .i64 (dcode xs [d])]) ∧ Below w.heap.size w w' := by
  have hb := dcode_test1 hd
  clear hd
  go_enter Try.func15, Try.ntmps15
  go_wp2_with fail
  refine (impl_dayCode (h.alloc _) (ints_new1 _ _ _)).mono ?_
  rintro e w' ⟨rfl, m, rfl⟩
  go_wp2_with fail
  go_ret2
  exact ⟨rfl, below_of_drewN ((Below.refl _ _).alloc (Nat.le_refl _) _) m⟩

theorem spec_IsCourtDay_ok {v : Value} {xs : List Int} {w : World} (d : Int) (h : Ints w v xs) (hd : dcode xs [d] = 0) :
    Calls Try.prog 13 #[v, .int .i64 d] w fun e w' => e = .returned (.tuple #[.bool (courtB xs d), .int .i64 0]) ∧ ∃ m, w' = w.drewN m := by
  have hb : (dcode xs [d, d] != 0) = false := by rw [dcode_twice]; exact dcode_test0 hd
  have hq := dcode_day hd
  have HD := Lib.hid hd
  clear hd
  go_enter Try.func13, Try.ntmps13
  go_wp2_with fail
  refine (spec_l02Code d d h).mono ?_
  rintro e w' ⟨rfl, m, rfl⟩
  go_wp2_with fail
  refine (spec_court d hq.1 (by omega) (h.drewN m)).mono ?_
  rintro e w' ⟨rfl, m', rfl⟩
  go_wp2_with fail
  go_ret2
  exact ⟨rfl, _, rfl⟩
theorem spec_IsCourtDay_bad {v : Value} {xs : List Int} {w : World} (d : Int) (h : Ints w v xs) (hd : ¬ dcode xs [d] = 0) :
    Calls Try.prog 13 #[v, .int .i64 d] w fun e w' => e = .returned (.tuple #[.bool false, .int .i64 (dcode xs [d])]) ∧ ∃ m, w' = w.drewN m := by
  have hb := dcode_test1 hd
  clear hd
  go_enter Try.func13, Try.ntmps13
  go_wp2_with fail
  refine (spec_l02Code d d h).mono ?_
  rintro e w' ⟨rfl, m, rfl⟩
  rw [dcode_twice]
  go_wp2_with fail
  go_ret2
  exact ⟨rfl, m, rfl⟩

set_option maxHeartbeats 400000 in
theorem spec_next_c {v : Value} {xs : List Int} {w : World} (d r : Int) (h0 : 0 ≤ d) (hr : NextIs xs d r) (hb : r ≤ 1000000) (h : Ints w v xs) :
    Calls Try.prog 44 #[v, .int .i64 d] w fun e w' => e = .returned (.int .i64 r) ∧ ∃ m, w' = w.drewN m := by
  have hdr := hr.1
  go_enter Try.func44, Try.ntmps44
  go_wp2_with fail
  go_loopw [1] (fun i wr => ∃ (x : Int) (m : Nat), d ≤ x ∧ x ≤ r ∧ i = .int .i64 x ∧ wr = w.drewN m) (fun i _ => (r - intOf i).toNat)
  case atStart => exact ⟨d, 0, Int.le_refl _, hdr, rfl, rfl⟩
  case round =>
    obtain ⟨x, m, hx1, hx2, rfl, rfl⟩ := hrel
    by_cases hlt : x < r
    · have hf := hr.2.2 x hx1 hlt
      go_wp2_with fail
      refine (spec_court x (by omega) (by omega) (h.drewN m)).mono ?_
      rintro e w' ⟨rfl, m', rfl⟩
      go_wp2_with fail
      go_roundw
      case rel => exact ⟨x + 1, _, by omega, by omega, rfl, rfl⟩
      case measure => simp [intOf]; omega
    · obtain rfl : x = r := by omega
      have hf := hr.2.1
      go_wp2_with fail
      refine (spec_court x (by omega) (by omega) (h.drewN m)).mono ?_
      rintro e w' ⟨rfl, m', rfl⟩
      go_wp2_with fail
      go_ret
      exact ⟨rfl, _, rfl⟩

set_option maxHeartbeats 400000 in
theorem impl_next_ok {v : Value} {xs : List Int} {w : World} (d r : Int) (h0 : 0 ≤ d) (hr : NextIs xs d r) (hb : r ≤ 20000) (h : Ints w v xs) :
    Calls Try.prog 45 #[v, .int .i64 d] w fun e w' => e = .returned (.tuple #[.int .i64 r, .int .i64 0]) ∧ ∃ m, w' = w.drewN m := by
  have hdr := hr.1
  go_enter Try.func45, Try.ntmps45
  go_wp2_with fail
  go_loopw [1] (fun i wr => ∃ (x : Int) (m : Nat), d ≤ x ∧ x ≤ r ∧ i = .int .i64 x ∧ wr = w.drewN m) (fun i _ => (r - intOf i).toNat)
  case atStart => exact ⟨d, 0, Int.le_refl _, hdr, rfl, rfl⟩
  case round =>
    obtain ⟨x, m, hx1, hx2, rfl, rfl⟩ := hrel
    by_cases hlt : x < r
    · have hf := hr.2.2 x hx1 hlt
      go_wp2_with fail
      refine (impl_isCourtDay x (by omega) (by omega) (h.drewN m)).mono ?_
      rintro e w' ⟨rfl, m', rfl⟩
      go_wp2_with fail
      go_roundw
      case rel => exact ⟨x + 1, _, by omega, by omega, rfl, rfl⟩
      case measure => simp [intOf]; omega
    · obtain rfl : x = r := by omega
      have hf := hr.2.1
      go_wp2_with fail
      refine (impl_isCourtDay x (by omega) (by omega) (h.drewN m)).mono ?_
      rintro e w' ⟨rfl, m', rfl⟩
      go_wp2_with fail
      go_ret2
      exact ⟨rfl, _, rfl⟩
set_option maxHeartbeats 400000 in
theorem impl_next_late {v : Value} {xs : List Int} {w : World} (d r : Int) (h0 : 0 ≤ d) (hr : NextIs xs d r) (hb : 20000 < r) (hb' : r ≤ 1000000) (h : Ints w v xs) :
    Calls Try.prog 45 #[v, .int .i64 d] w fun e w' => e = .returned (.tuple #[.int .i64 0, .int .i64 3]) ∧ ∃ m, w' = w.drewN m := by
  have hdr := hr.1
  go_enter Try.func45, Try.ntmps45
  go_wp2_with fail
  go_loopw [1] (fun i wr => ∃ (x : Int) (m : Nat), d ≤ x ∧ x ≤ r ∧ i = .int .i64 x ∧ wr = w.drewN m) (fun i _ => (r - intOf i).toNat)
  case atStart => exact ⟨d, 0, Int.le_refl _, hdr, rfl, rfl⟩
  case round =>
    obtain ⟨x, m, hx1, hx2, rfl, rfl⟩ := hrel
    by_cases hlt : x ≤ 20000
    · have hf := hr.2.2 x hx1 (by omega)
      go_wp2_with fail
      refine (impl_isCourtDay x (by omega) (by omega) (h.drewN m)).mono ?_
      rintro e w' ⟨rfl, m', rfl⟩
      go_wp2_with fail
      go_roundw
      case rel => exact ⟨x + 1, _, by omega, by omega, rfl, rfl⟩
      case measure => simp [intOf]; omega
    · go_wp2_with fail
      go_ret2
      exact ⟨rfl, m, rfl⟩
end Go.Proofs.Ytiphankcngclfaa
