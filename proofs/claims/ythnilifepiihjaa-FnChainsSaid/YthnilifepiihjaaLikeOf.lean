/-
  LikenessOf and AreAlike of both packages: what each call returns.
  Conditions: each lemma names its own.
-/
import Derived.Test.YthnilifepiihjaaLik
import Derived.Test.YthnilifepiihjaaPerArg
import Derived.Test.YthnilifepiihjaaLimit
namespace Go.Proofs.Ythnilifepiihjaa
open Go.RowKit
set_option linter.unusedVariables false

set_option maxHeartbeats 1000000 in
theorem impl_LikenessOf_ok (p : Per) (hp : PerFit p) (q : Per) (hq : PerFit q) (kp : perB p = true) (kq : perB q = true) (w : World) :
    Calls Try.prog 16 #[perV p, perV q] w fun e w' => e = .returned (.tuple #[.int .i64 (lik p q), .int .i64 0]) ∧ Below w.heap.size w w' := by
  have HVp : Hid (perV p = .agg #[.int .i64 p.number, .string p.first, .string p.last, .int .i64 p.born, .int .i64 p.zone]) := Lib.hid rfl
  have HVq : Hid (perV q = .agg #[.int .i64 q.number, .string q.first, .string q.last, .int .i64 q.born, .int .i64 q.zone]) := Lib.hid rfl
  have bp1 := ((perB_iff p).1 kp).2.2.2.1
  have bq1 := ((perB_iff q).1 kq).2.2.2.1
  rw [HVp.out, HVq.out]
  clear HVp
  clear HVq
  have PA0 := perAt_new (w) p 35
  have PA1 : PerAt ((w.alloc (.cells #[.int .i64 p.number, .string p.first, .string p.last, .int .i64 p.born, .int .i64 p.zone] 35)).alloc (.cells #[.int .i64 q.number, .string q.first, .string q.last, .int .i64 q.born, .int .i64 q.zone] 35)) (w.heap.size + 1) q := by simpa only [World.size_alloc] using perAt_new (w.alloc (.cells #[.int .i64 p.number, .string p.first, .string p.last, .int .i64 p.born, .int .i64 p.zone] 35)) q 35
  replace PA0 := PA0.alloc (.cells #[.int .i64 q.number, .string q.first, .string q.last, .int .i64 q.born, .int .i64 q.zone] 35)
  have BB : Below w.heap.size w ((w.alloc (.cells #[.int .i64 p.number, .string p.first, .string p.last, .int .i64 p.born, .int .i64 p.zone] 35)).alloc (.cells #[.int .i64 q.number, .string q.first, .string q.last, .int .i64 q.born, .int .i64 q.zone] 35)) := ((Below.refl _ _).alloc (by simp; try omega) _).alloc (by simp; try omega) _
  go_enter Try.func16, Try.ntmps16
  go_wp2_with fail
  refine (impl_IsPerson p hp _).mono ?_
  rintro e w1 ⟨rfl, b1⟩
  replace PA0 := PA0.below b1
  replace PA1 := PA1.below b1
  replace BB := below_next BB (Nat.le_refl _) b1
  have PC0 := PA0
  obtain ⟨cb0, c00, c01, c02, c03, c04⟩ := PC0
  have PC1 := PA1
  obtain ⟨cb1, c10, c11, c12, c13, c14⟩ := PC1
  go_wp2_with fail
  clear c00 c01 c02 c03 c04 cb0 c10 c11 c12 c13 c14 cb1
  refine (impl_IsPerson q hq _).mono ?_
  rintro e w2 ⟨rfl, b2⟩
  replace PA0 := PA0.below b2
  replace PA1 := PA1.below b2
  replace BB := below_next BB (Nat.le_refl _) b2
  have PC0 := PA0
  obtain ⟨cb0, c00, c01, c02, c03, c04⟩ := PC0
  have PC1 := PA1
  obtain ⟨cb1, c10, c11, c12, c13, c14⟩ := PC1
  go_wp2_with fail
  clear c00 c01 c02 c03 c04 cb0 c10 c11 c12 c13 c14 cb1
  refine (impl_likeness p q hp hq bp1 bq1 _).mono ?_
  rintro e w3 ⟨rfl, b3⟩
  replace PA0 := PA0.below b3
  replace PA1 := PA1.below b3
  replace BB := below_next BB (Nat.le_refl _) b3
  have PC0 := PA0
  obtain ⟨cb0, c00, c01, c02, c03, c04⟩ := PC0
  have PC1 := PA1
  obtain ⟨cb1, c10, c11, c12, c13, c14⟩ := PC1
  go_wp2_with fail
  clear c00 c01 c02 c03 c04 cb0 c10 c11 c12 c13 c14 cb1
  go_ret2
  exact ⟨rfl, BB⟩

set_option maxHeartbeats 1000000 in
theorem impl_LikenessOf_bad1 (p : Per) (hp : PerFit p) (q : Per) (hq : PerFit q) (kp : perB p = false) (w : World) :
    Calls Try.prog 16 #[perV p, perV q] w fun e w' => e = .returned (.tuple #[.int .i64 0, .int .i64 1]) ∧ Below w.heap.size w w' := by
  have HVp : Hid (perV p = .agg #[.int .i64 p.number, .string p.first, .string p.last, .int .i64 p.born, .int .i64 p.zone]) := Lib.hid rfl
  have HVq : Hid (perV q = .agg #[.int .i64 q.number, .string q.first, .string q.last, .int .i64 q.born, .int .i64 q.zone]) := Lib.hid rfl
  rw [HVp.out, HVq.out]
  clear HVp
  clear HVq
  have PA0 := perAt_new (w) p 35
  have PA1 : PerAt ((w.alloc (.cells #[.int .i64 p.number, .string p.first, .string p.last, .int .i64 p.born, .int .i64 p.zone] 35)).alloc (.cells #[.int .i64 q.number, .string q.first, .string q.last, .int .i64 q.born, .int .i64 q.zone] 35)) (w.heap.size + 1) q := by simpa only [World.size_alloc] using perAt_new (w.alloc (.cells #[.int .i64 p.number, .string p.first, .string p.last, .int .i64 p.born, .int .i64 p.zone] 35)) q 35
  replace PA0 := PA0.alloc (.cells #[.int .i64 q.number, .string q.first, .string q.last, .int .i64 q.born, .int .i64 q.zone] 35)
  have BB : Below w.heap.size w ((w.alloc (.cells #[.int .i64 p.number, .string p.first, .string p.last, .int .i64 p.born, .int .i64 p.zone] 35)).alloc (.cells #[.int .i64 q.number, .string q.first, .string q.last, .int .i64 q.born, .int .i64 q.zone] 35)) := ((Below.refl _ _).alloc (by simp; try omega) _).alloc (by simp; try omega) _
  go_enter Try.func16, Try.ntmps16
  go_wp2_with fail
  refine (impl_IsPerson p hp _).mono ?_
  rintro e w1 ⟨rfl, b1⟩
  replace PA0 := PA0.below b1
  replace PA1 := PA1.below b1
  replace BB := below_next BB (Nat.le_refl _) b1
  have PC0 := PA0
  obtain ⟨cb0, c00, c01, c02, c03, c04⟩ := PC0
  have PC1 := PA1
  obtain ⟨cb1, c10, c11, c12, c13, c14⟩ := PC1
  go_wp2_with fail
  clear c00 c01 c02 c03 c04 cb0 c10 c11 c12 c13 c14 cb1
  go_ret2
  exact ⟨rfl, BB⟩

set_option maxHeartbeats 1000000 in
theorem impl_LikenessOf_bad2 (p : Per) (hp : PerFit p) (q : Per) (hq : PerFit q) (kp : perB p = true) (kq : perB q = false) (w : World) :
    Calls Try.prog 16 #[perV p, perV q] w fun e w' => e = .returned (.tuple #[.int .i64 0, .int .i64 1]) ∧ Below w.heap.size w w' := by
  have HVp : Hid (perV p = .agg #[.int .i64 p.number, .string p.first, .string p.last, .int .i64 p.born, .int .i64 p.zone]) := Lib.hid rfl
  have HVq : Hid (perV q = .agg #[.int .i64 q.number, .string q.first, .string q.last, .int .i64 q.born, .int .i64 q.zone]) := Lib.hid rfl
  rw [HVp.out, HVq.out]
  clear HVp
  clear HVq
  have PA0 := perAt_new (w) p 35
  have PA1 : PerAt ((w.alloc (.cells #[.int .i64 p.number, .string p.first, .string p.last, .int .i64 p.born, .int .i64 p.zone] 35)).alloc (.cells #[.int .i64 q.number, .string q.first, .string q.last, .int .i64 q.born, .int .i64 q.zone] 35)) (w.heap.size + 1) q := by simpa only [World.size_alloc] using perAt_new (w.alloc (.cells #[.int .i64 p.number, .string p.first, .string p.last, .int .i64 p.born, .int .i64 p.zone] 35)) q 35
  replace PA0 := PA0.alloc (.cells #[.int .i64 q.number, .string q.first, .string q.last, .int .i64 q.born, .int .i64 q.zone] 35)
  have BB : Below w.heap.size w ((w.alloc (.cells #[.int .i64 p.number, .string p.first, .string p.last, .int .i64 p.born, .int .i64 p.zone] 35)).alloc (.cells #[.int .i64 q.number, .string q.first, .string q.last, .int .i64 q.born, .int .i64 q.zone] 35)) := ((Below.refl _ _).alloc (by simp; try omega) _).alloc (by simp; try omega) _
  go_enter Try.func16, Try.ntmps16
  go_wp2_with fail
  refine (impl_IsPerson p hp _).mono ?_
  rintro e w1 ⟨rfl, b1⟩
  replace PA0 := PA0.below b1
  replace PA1 := PA1.below b1
  replace BB := below_next BB (Nat.le_refl _) b1
  have PC0 := PA0
  obtain ⟨cb0, c00, c01, c02, c03, c04⟩ := PC0
  have PC1 := PA1
  obtain ⟨cb1, c10, c11, c12, c13, c14⟩ := PC1
  go_wp2_with fail
  clear c00 c01 c02 c03 c04 cb0 c10 c11 c12 c13 c14 cb1
  refine (impl_IsPerson q hq _).mono ?_
  rintro e w2 ⟨rfl, b2⟩
  replace PA0 := PA0.below b2
  replace PA1 := PA1.below b2
  replace BB := below_next BB (Nat.le_refl _) b2
  have PC0 := PA0
  obtain ⟨cb0, c00, c01, c02, c03, c04⟩ := PC0
  have PC1 := PA1
  obtain ⟨cb1, c10, c11, c12, c13, c14⟩ := PC1
  go_wp2_with fail
  clear c00 c01 c02 c03 c04 cb0 c10 c11 c12 c13 c14 cb1
  go_ret2
  exact ⟨rfl, BB⟩

set_option maxHeartbeats 1000000 in
theorem impl_AreAlike_ok (p : Per) (hp : PerFit p) (q : Per) (hq : PerFit q) (l : Int) (kp : perB p = true) (kq : perB q = true) (hl : 0 ≤ l ∧ l ≤ 100) (w : World) :
    Calls Try.prog 19 #[perV p, perV q, .int .i64 l] w fun e w' => e = .returned (.tuple #[.bool (decide (l ≤ lik p q)), .int .i64 0]) ∧ Below w.heap.size w w' := by
  have HVp : Hid (perV p = .agg #[.int .i64 p.number, .string p.first, .string p.last, .int .i64 p.born, .int .i64 p.zone]) := Lib.hid rfl
  have HVq : Hid (perV q = .agg #[.int .i64 q.number, .string q.first, .string q.last, .int .i64 q.born, .int .i64 q.zone]) := Lib.hid rfl
  have bp1 := ((perB_iff p).1 kp).2.2.2.1
  have bq1 := ((perB_iff q).1 kq).2.2.2.1
  rw [HVp.out, HVq.out]
  clear HVp
  clear HVq
  have PA0 := perAt_new (w) p 35
  have PA1 : PerAt ((w.alloc (.cells #[.int .i64 p.number, .string p.first, .string p.last, .int .i64 p.born, .int .i64 p.zone] 35)).alloc (.cells #[.int .i64 q.number, .string q.first, .string q.last, .int .i64 q.born, .int .i64 q.zone] 35)) (w.heap.size + 1) q := by simpa only [World.size_alloc] using perAt_new (w.alloc (.cells #[.int .i64 p.number, .string p.first, .string p.last, .int .i64 p.born, .int .i64 p.zone] 35)) q 35
  replace PA0 := PA0.alloc (.cells #[.int .i64 q.number, .string q.first, .string q.last, .int .i64 q.born, .int .i64 q.zone] 35)
  have BB : Below w.heap.size w ((w.alloc (.cells #[.int .i64 p.number, .string p.first, .string p.last, .int .i64 p.born, .int .i64 p.zone] 35)).alloc (.cells #[.int .i64 q.number, .string q.first, .string q.last, .int .i64 q.born, .int .i64 q.zone] 35)) := ((Below.refl _ _).alloc (by simp; try omega) _).alloc (by simp; try omega) _
  go_enter Try.func19, Try.ntmps19
  go_wp2_with fail
  refine (impl_IsPerson p hp _).mono ?_
  rintro e w1 ⟨rfl, b1⟩
  replace PA0 := PA0.below b1
  replace PA1 := PA1.below b1
  replace BB := below_next BB (Nat.le_refl _) b1
  have PC0 := PA0
  obtain ⟨cb0, c00, c01, c02, c03, c04⟩ := PC0
  have PC1 := PA1
  obtain ⟨cb1, c10, c11, c12, c13, c14⟩ := PC1
  go_wp2_with fail
  clear c00 c01 c02 c03 c04 cb0 c10 c11 c12 c13 c14 cb1
  refine (impl_IsPerson q hq _).mono ?_
  rintro e w2 ⟨rfl, b2⟩
  replace PA0 := PA0.below b2
  replace PA1 := PA1.below b2
  replace BB := below_next BB (Nat.le_refl _) b2
  have PC0 := PA0
  obtain ⟨cb0, c00, c01, c02, c03, c04⟩ := PC0
  have PC1 := PA1
  obtain ⟨cb1, c10, c11, c12, c13, c14⟩ := PC1
  go_wp2_with fail
  clear c00 c01 c02 c03 c04 cb0 c10 c11 c12 c13 c14 cb1
  refine (limit_yes l hl.1 hl.2 _).mono ?_
  rintro e w' ⟨rfl, rfl⟩
  have PC0 := PA0
  obtain ⟨cb0, c00, c01, c02, c03, c04⟩ := PC0
  have PC1 := PA1
  obtain ⟨cb1, c10, c11, c12, c13, c14⟩ := PC1
  go_wp2_with fail
  clear c00 c01 c02 c03 c04 cb0 c10 c11 c12 c13 c14 cb1
  refine (impl_likeness p q hp hq bp1 bq1 _).mono ?_
  rintro e w3 ⟨rfl, b3⟩
  replace PA0 := PA0.below b3
  replace PA1 := PA1.below b3
  replace BB := below_next BB (Nat.le_refl _) b3
  have PC0 := PA0
  obtain ⟨cb0, c00, c01, c02, c03, c04⟩ := PC0
  have PC1 := PA1
  obtain ⟨cb1, c10, c11, c12, c13, c14⟩ := PC1
  go_wp2_with fail
  clear c00 c01 c02 c03 c04 cb0 c10 c11 c12 c13 c14 cb1
  go_ret2
  exact ⟨rfl, BB⟩

set_option maxHeartbeats 1000000 in
theorem impl_AreAlike_range (p : Per) (hp : PerFit p) (q : Per) (hq : PerFit q) (l : Int) (kp : perB p = true) (kq : perB q = true) (hl : l < 0 ∨ 100 < l) (w : World) :
    Calls Try.prog 19 #[perV p, perV q, .int .i64 l] w fun e w' => e = .returned (.tuple #[.bool false, .int .i64 2]) ∧ Below w.heap.size w w' := by
  have HVp : Hid (perV p = .agg #[.int .i64 p.number, .string p.first, .string p.last, .int .i64 p.born, .int .i64 p.zone]) := Lib.hid rfl
  have HVq : Hid (perV q = .agg #[.int .i64 q.number, .string q.first, .string q.last, .int .i64 q.born, .int .i64 q.zone]) := Lib.hid rfl
  have HL := Lib.hid hl
  clear hl
  rw [HVp.out, HVq.out]
  clear HVp
  clear HVq
  have PA0 := perAt_new (w) p 35
  have PA1 : PerAt ((w.alloc (.cells #[.int .i64 p.number, .string p.first, .string p.last, .int .i64 p.born, .int .i64 p.zone] 35)).alloc (.cells #[.int .i64 q.number, .string q.first, .string q.last, .int .i64 q.born, .int .i64 q.zone] 35)) (w.heap.size + 1) q := by simpa only [World.size_alloc] using perAt_new (w.alloc (.cells #[.int .i64 p.number, .string p.first, .string p.last, .int .i64 p.born, .int .i64 p.zone] 35)) q 35
  replace PA0 := PA0.alloc (.cells #[.int .i64 q.number, .string q.first, .string q.last, .int .i64 q.born, .int .i64 q.zone] 35)
  have BB : Below w.heap.size w ((w.alloc (.cells #[.int .i64 p.number, .string p.first, .string p.last, .int .i64 p.born, .int .i64 p.zone] 35)).alloc (.cells #[.int .i64 q.number, .string q.first, .string q.last, .int .i64 q.born, .int .i64 q.zone] 35)) := ((Below.refl _ _).alloc (by simp; try omega) _).alloc (by simp; try omega) _
  go_enter Try.func19, Try.ntmps19
  go_wp2_with fail
  refine (impl_IsPerson p hp _).mono ?_
  rintro e w1 ⟨rfl, b1⟩
  replace PA0 := PA0.below b1
  replace PA1 := PA1.below b1
  replace BB := below_next BB (Nat.le_refl _) b1
  have PC0 := PA0
  obtain ⟨cb0, c00, c01, c02, c03, c04⟩ := PC0
  have PC1 := PA1
  obtain ⟨cb1, c10, c11, c12, c13, c14⟩ := PC1
  go_wp2_with fail
  clear c00 c01 c02 c03 c04 cb0 c10 c11 c12 c13 c14 cb1
  refine (impl_IsPerson q hq _).mono ?_
  rintro e w2 ⟨rfl, b2⟩
  replace PA0 := PA0.below b2
  replace PA1 := PA1.below b2
  replace BB := below_next BB (Nat.le_refl _) b2
  have PC0 := PA0
  obtain ⟨cb0, c00, c01, c02, c03, c04⟩ := PC0
  have PC1 := PA1
  obtain ⟨cb1, c10, c11, c12, c13, c14⟩ := PC1
  go_wp2_with fail
  clear c00 c01 c02 c03 c04 cb0 c10 c11 c12 c13 c14 cb1
  refine (limit_no l HL.out _).mono ?_
  rintro e w' ⟨rfl, rfl⟩
  have PC0 := PA0
  obtain ⟨cb0, c00, c01, c02, c03, c04⟩ := PC0
  have PC1 := PA1
  obtain ⟨cb1, c10, c11, c12, c13, c14⟩ := PC1
  go_wp2_with fail
  clear c00 c01 c02 c03 c04 cb0 c10 c11 c12 c13 c14 cb1
  go_ret2
  exact ⟨rfl, BB⟩

set_option maxHeartbeats 1000000 in
theorem impl_AreAlike_bad1 (p : Per) (hp : PerFit p) (q : Per) (hq : PerFit q) (l : Int) (kp : perB p = false) (w : World) :
    Calls Try.prog 19 #[perV p, perV q, .int .i64 l] w fun e w' => e = .returned (.tuple #[.bool false, .int .i64 1]) ∧ Below w.heap.size w w' := by
  have HVp : Hid (perV p = .agg #[.int .i64 p.number, .string p.first, .string p.last, .int .i64 p.born, .int .i64 p.zone]) := Lib.hid rfl
  have HVq : Hid (perV q = .agg #[.int .i64 q.number, .string q.first, .string q.last, .int .i64 q.born, .int .i64 q.zone]) := Lib.hid rfl
  rw [HVp.out, HVq.out]
  clear HVp
  clear HVq
  have PA0 := perAt_new (w) p 35
  have PA1 : PerAt ((w.alloc (.cells #[.int .i64 p.number, .string p.first, .string p.last, .int .i64 p.born, .int .i64 p.zone] 35)).alloc (.cells #[.int .i64 q.number, .string q.first, .string q.last, .int .i64 q.born, .int .i64 q.zone] 35)) (w.heap.size + 1) q := by simpa only [World.size_alloc] using perAt_new (w.alloc (.cells #[.int .i64 p.number, .string p.first, .string p.last, .int .i64 p.born, .int .i64 p.zone] 35)) q 35
  replace PA0 := PA0.alloc (.cells #[.int .i64 q.number, .string q.first, .string q.last, .int .i64 q.born, .int .i64 q.zone] 35)
  have BB : Below w.heap.size w ((w.alloc (.cells #[.int .i64 p.number, .string p.first, .string p.last, .int .i64 p.born, .int .i64 p.zone] 35)).alloc (.cells #[.int .i64 q.number, .string q.first, .string q.last, .int .i64 q.born, .int .i64 q.zone] 35)) := ((Below.refl _ _).alloc (by simp; try omega) _).alloc (by simp; try omega) _
  go_enter Try.func19, Try.ntmps19
  go_wp2_with fail
  refine (impl_IsPerson p hp _).mono ?_
  rintro e w1 ⟨rfl, b1⟩
  replace PA0 := PA0.below b1
  replace PA1 := PA1.below b1
  replace BB := below_next BB (Nat.le_refl _) b1
  have PC0 := PA0
  obtain ⟨cb0, c00, c01, c02, c03, c04⟩ := PC0
  have PC1 := PA1
  obtain ⟨cb1, c10, c11, c12, c13, c14⟩ := PC1
  go_wp2_with fail
  clear c00 c01 c02 c03 c04 cb0 c10 c11 c12 c13 c14 cb1
  go_ret2
  exact ⟨rfl, BB⟩

set_option maxHeartbeats 1000000 in
theorem impl_AreAlike_bad2 (p : Per) (hp : PerFit p) (q : Per) (hq : PerFit q) (l : Int) (kp : perB p = true) (kq : perB q = false) (w : World) :
    Calls Try.prog 19 #[perV p, perV q, .int .i64 l] w fun e w' => e = .returned (.tuple #[.bool false, .int .i64 1]) ∧ Below w.heap.size w w' := by
  have HVp : Hid (perV p = .agg #[.int .i64 p.number, .string p.first, .string p.last, .int .i64 p.born, .int .i64 p.zone]) := Lib.hid rfl
  have HVq : Hid (perV q = .agg #[.int .i64 q.number, .string q.first, .string q.last, .int .i64 q.born, .int .i64 q.zone]) := Lib.hid rfl
  rw [HVp.out, HVq.out]
  clear HVp
  clear HVq
  have PA0 := perAt_new (w) p 35
  have PA1 : PerAt ((w.alloc (.cells #[.int .i64 p.number, .string p.first, .string p.last, .int .i64 p.born, .int .i64 p.zone] 35)).alloc (.cells #[.int .i64 q.number, .string q.first, .string q.last, .int .i64 q.born, .int .i64 q.zone] 35)) (w.heap.size + 1) q := by simpa only [World.size_alloc] using perAt_new (w.alloc (.cells #[.int .i64 p.number, .string p.first, .string p.last, .int .i64 p.born, .int .i64 p.zone] 35)) q 35
  replace PA0 := PA0.alloc (.cells #[.int .i64 q.number, .string q.first, .string q.last, .int .i64 q.born, .int .i64 q.zone] 35)
  have BB : Below w.heap.size w ((w.alloc (.cells #[.int .i64 p.number, .string p.first, .string p.last, .int .i64 p.born, .int .i64 p.zone] 35)).alloc (.cells #[.int .i64 q.number, .string q.first, .string q.last, .int .i64 q.born, .int .i64 q.zone] 35)) := ((Below.refl _ _).alloc (by simp; try omega) _).alloc (by simp; try omega) _
  go_enter Try.func19, Try.ntmps19
  go_wp2_with fail
  refine (impl_IsPerson p hp _).mono ?_
  rintro e w1 ⟨rfl, b1⟩
  replace PA0 := PA0.below b1
  replace PA1 := PA1.below b1
  replace BB := below_next BB (Nat.le_refl _) b1
  have PC0 := PA0
  obtain ⟨cb0, c00, c01, c02, c03, c04⟩ := PC0
  have PC1 := PA1
  obtain ⟨cb1, c10, c11, c12, c13, c14⟩ := PC1
  go_wp2_with fail
  clear c00 c01 c02 c03 c04 cb0 c10 c11 c12 c13 c14 cb1
  refine (impl_IsPerson q hq _).mono ?_
  rintro e w2 ⟨rfl, b2⟩
  replace PA0 := PA0.below b2
  replace PA1 := PA1.below b2
  replace BB := below_next BB (Nat.le_refl _) b2
  have PC0 := PA0
  obtain ⟨cb0, c00, c01, c02, c03, c04⟩ := PC0
  have PC1 := PA1
  obtain ⟨cb1, c10, c11, c12, c13, c14⟩ := PC1
  go_wp2_with fail
  clear c00 c01 c02 c03 c04 cb0 c10 c11 c12 c13 c14 cb1
  go_ret2
  exact ⟨rfl, BB⟩

set_option maxHeartbeats 1000000 in
theorem spec_LikenessOf_ok (p : Per) (hp : PerFit p) (q : Per) (hq : PerFit q) (kp : perB p = true) (kq : perB q = true) (w : World) :
    Calls Try.prog 17 #[perV p, perV q] w fun e w' => e = .returned (.tuple #[.int .i64 (lik p q), .int .i64 0]) ∧ Below w.heap.size w w' := by
  have HVp : Hid (perV p = .agg #[.int .i64 p.number, .string p.first, .string p.last, .int .i64 p.born, .int .i64 p.zone]) := Lib.hid rfl
  have HVq : Hid (perV q = .agg #[.int .i64 q.number, .string q.first, .string q.last, .int .i64 q.born, .int .i64 q.zone]) := Lib.hid rfl
  have bp1 := ((perB_iff p).1 kp).2.2.2.1
  have bq1 := ((perB_iff q).1 kq).2.2.2.1
  rw [HVp.out, HVq.out]
  clear HVp
  clear HVq
  have PA0 := perAt_new (w) p 35
  have PA1 : PerAt ((w.alloc (.cells #[.int .i64 p.number, .string p.first, .string p.last, .int .i64 p.born, .int .i64 p.zone] 35)).alloc (.cells #[.int .i64 q.number, .string q.first, .string q.last, .int .i64 q.born, .int .i64 q.zone] 35)) (w.heap.size + 1) q := by simpa only [World.size_alloc] using perAt_new (w.alloc (.cells #[.int .i64 p.number, .string p.first, .string p.last, .int .i64 p.born, .int .i64 p.zone] 35)) q 35
  replace PA0 := PA0.alloc (.cells #[.int .i64 q.number, .string q.first, .string q.last, .int .i64 q.born, .int .i64 q.zone] 35)
  have BB : Below w.heap.size w ((w.alloc (.cells #[.int .i64 p.number, .string p.first, .string p.last, .int .i64 p.born, .int .i64 p.zone] 35)).alloc (.cells #[.int .i64 q.number, .string q.first, .string q.last, .int .i64 q.born, .int .i64 q.zone] 35)) := ((Below.refl _ _).alloc (by simp; try omega) _).alloc (by simp; try omega) _
  go_enter Try.func17, Try.ntmps17
  go_wp2_with fail
  refine (spec_IsPerson p hp _).mono ?_
  rintro e w1 ⟨rfl, b1⟩
  replace PA0 := PA0.below b1
  replace PA1 := PA1.below b1
  replace BB := below_next BB (Nat.le_refl _) b1
  have PC0 := PA0
  obtain ⟨cb0, c00, c01, c02, c03, c04⟩ := PC0
  have PC1 := PA1
  obtain ⟨cb1, c10, c11, c12, c13, c14⟩ := PC1
  go_wp2_with fail
  clear c00 c01 c02 c03 c04 cb0 c10 c11 c12 c13 c14 cb1
  refine (spec_IsPerson q hq _).mono ?_
  rintro e w2 ⟨rfl, b2⟩
  replace PA0 := PA0.below b2
  replace PA1 := PA1.below b2
  replace BB := below_next BB (Nat.le_refl _) b2
  have PC0 := PA0
  obtain ⟨cb0, c00, c01, c02, c03, c04⟩ := PC0
  have PC1 := PA1
  obtain ⟨cb1, c10, c11, c12, c13, c14⟩ := PC1
  go_wp2_with fail
  clear c00 c01 c02 c03 c04 cb0 c10 c11 c12 c13 c14 cb1
  refine (spec_likeness p q hp hq bp1 bq1 _).mono ?_
  rintro e w3 ⟨rfl, b3⟩
  replace PA0 := PA0.below b3
  replace PA1 := PA1.below b3
  replace BB := below_next BB (Nat.le_refl _) b3
  have PC0 := PA0
  obtain ⟨cb0, c00, c01, c02, c03, c04⟩ := PC0
  have PC1 := PA1
  obtain ⟨cb1, c10, c11, c12, c13, c14⟩ := PC1
  go_wp2_with fail
  clear c00 c01 c02 c03 c04 cb0 c10 c11 c12 c13 c14 cb1
  go_ret2
  exact ⟨rfl, BB⟩

set_option maxHeartbeats 1000000 in
theorem spec_LikenessOf_bad1 (p : Per) (hp : PerFit p) (q : Per) (hq : PerFit q) (kp : perB p = false) (w : World) :
    Calls Try.prog 17 #[perV p, perV q] w fun e w' => e = .returned (.tuple #[.int .i64 0, .int .i64 1]) ∧ Below w.heap.size w w' := by
  have HVp : Hid (perV p = .agg #[.int .i64 p.number, .string p.first, .string p.last, .int .i64 p.born, .int .i64 p.zone]) := Lib.hid rfl
  have HVq : Hid (perV q = .agg #[.int .i64 q.number, .string q.first, .string q.last, .int .i64 q.born, .int .i64 q.zone]) := Lib.hid rfl
  rw [HVp.out, HVq.out]
  clear HVp
  clear HVq
  have PA0 := perAt_new (w) p 35
  have PA1 : PerAt ((w.alloc (.cells #[.int .i64 p.number, .string p.first, .string p.last, .int .i64 p.born, .int .i64 p.zone] 35)).alloc (.cells #[.int .i64 q.number, .string q.first, .string q.last, .int .i64 q.born, .int .i64 q.zone] 35)) (w.heap.size + 1) q := by simpa only [World.size_alloc] using perAt_new (w.alloc (.cells #[.int .i64 p.number, .string p.first, .string p.last, .int .i64 p.born, .int .i64 p.zone] 35)) q 35
  replace PA0 := PA0.alloc (.cells #[.int .i64 q.number, .string q.first, .string q.last, .int .i64 q.born, .int .i64 q.zone] 35)
  have BB : Below w.heap.size w ((w.alloc (.cells #[.int .i64 p.number, .string p.first, .string p.last, .int .i64 p.born, .int .i64 p.zone] 35)).alloc (.cells #[.int .i64 q.number, .string q.first, .string q.last, .int .i64 q.born, .int .i64 q.zone] 35)) := ((Below.refl _ _).alloc (by simp; try omega) _).alloc (by simp; try omega) _
  go_enter Try.func17, Try.ntmps17
  go_wp2_with fail
  refine (spec_IsPerson p hp _).mono ?_
  rintro e w1 ⟨rfl, b1⟩
  replace PA0 := PA0.below b1
  replace PA1 := PA1.below b1
  replace BB := below_next BB (Nat.le_refl _) b1
  have PC0 := PA0
  obtain ⟨cb0, c00, c01, c02, c03, c04⟩ := PC0
  have PC1 := PA1
  obtain ⟨cb1, c10, c11, c12, c13, c14⟩ := PC1
  go_wp2_with fail
  clear c00 c01 c02 c03 c04 cb0 c10 c11 c12 c13 c14 cb1
  go_ret2
  exact ⟨rfl, BB⟩

set_option maxHeartbeats 1000000 in
theorem spec_LikenessOf_bad2 (p : Per) (hp : PerFit p) (q : Per) (hq : PerFit q) (kp : perB p = true) (kq : perB q = false) (w : World) :
    Calls Try.prog 17 #[perV p, perV q] w fun e w' => e = .returned (.tuple #[.int .i64 0, .int .i64 1]) ∧ Below w.heap.size w w' := by
  have HVp : Hid (perV p = .agg #[.int .i64 p.number, .string p.first, .string p.last, .int .i64 p.born, .int .i64 p.zone]) := Lib.hid rfl
  have HVq : Hid (perV q = .agg #[.int .i64 q.number, .string q.first, .string q.last, .int .i64 q.born, .int .i64 q.zone]) := Lib.hid rfl
  rw [HVp.out, HVq.out]
  clear HVp
  clear HVq
  have PA0 := perAt_new (w) p 35
  have PA1 : PerAt ((w.alloc (.cells #[.int .i64 p.number, .string p.first, .string p.last, .int .i64 p.born, .int .i64 p.zone] 35)).alloc (.cells #[.int .i64 q.number, .string q.first, .string q.last, .int .i64 q.born, .int .i64 q.zone] 35)) (w.heap.size + 1) q := by simpa only [World.size_alloc] using perAt_new (w.alloc (.cells #[.int .i64 p.number, .string p.first, .string p.last, .int .i64 p.born, .int .i64 p.zone] 35)) q 35
  replace PA0 := PA0.alloc (.cells #[.int .i64 q.number, .string q.first, .string q.last, .int .i64 q.born, .int .i64 q.zone] 35)
  have BB : Below w.heap.size w ((w.alloc (.cells #[.int .i64 p.number, .string p.first, .string p.last, .int .i64 p.born, .int .i64 p.zone] 35)).alloc (.cells #[.int .i64 q.number, .string q.first, .string q.last, .int .i64 q.born, .int .i64 q.zone] 35)) := ((Below.refl _ _).alloc (by simp; try omega) _).alloc (by simp; try omega) _
  go_enter Try.func17, Try.ntmps17
  go_wp2_with fail
  refine (spec_IsPerson p hp _).mono ?_
  rintro e w1 ⟨rfl, b1⟩
  replace PA0 := PA0.below b1
  replace PA1 := PA1.below b1
  replace BB := below_next BB (Nat.le_refl _) b1
  have PC0 := PA0
  obtain ⟨cb0, c00, c01, c02, c03, c04⟩ := PC0
  have PC1 := PA1
  obtain ⟨cb1, c10, c11, c12, c13, c14⟩ := PC1
  go_wp2_with fail
  clear c00 c01 c02 c03 c04 cb0 c10 c11 c12 c13 c14 cb1
  refine (spec_IsPerson q hq _).mono ?_
  rintro e w2 ⟨rfl, b2⟩
  replace PA0 := PA0.below b2
  replace PA1 := PA1.below b2
  replace BB := below_next BB (Nat.le_refl _) b2
  have PC0 := PA0
  obtain ⟨cb0, c00, c01, c02, c03, c04⟩ := PC0
  have PC1 := PA1
  obtain ⟨cb1, c10, c11, c12, c13, c14⟩ := PC1
  go_wp2_with fail
  clear c00 c01 c02 c03 c04 cb0 c10 c11 c12 c13 c14 cb1
  go_ret2
  exact ⟨rfl, BB⟩

set_option maxHeartbeats 1000000 in
theorem spec_AreAlike_ok (p : Per) (hp : PerFit p) (q : Per) (hq : PerFit q) (l : Int) (kp : perB p = true) (kq : perB q = true) (hl : 0 ≤ l ∧ l ≤ 100) (w : World) :
    Calls Try.prog 20 #[perV p, perV q, .int .i64 l] w fun e w' => e = .returned (.tuple #[.bool (decide (l ≤ lik p q)), .int .i64 0]) ∧ Below w.heap.size w w' := by
  have HVp : Hid (perV p = .agg #[.int .i64 p.number, .string p.first, .string p.last, .int .i64 p.born, .int .i64 p.zone]) := Lib.hid rfl
  have HVq : Hid (perV q = .agg #[.int .i64 q.number, .string q.first, .string q.last, .int .i64 q.born, .int .i64 q.zone]) := Lib.hid rfl
  have bp1 := ((perB_iff p).1 kp).2.2.2.1
  have bq1 := ((perB_iff q).1 kq).2.2.2.1
  rw [HVp.out, HVq.out]
  clear HVp
  clear HVq
  have PA0 := perAt_new (w) p 35
  have PA1 : PerAt ((w.alloc (.cells #[.int .i64 p.number, .string p.first, .string p.last, .int .i64 p.born, .int .i64 p.zone] 35)).alloc (.cells #[.int .i64 q.number, .string q.first, .string q.last, .int .i64 q.born, .int .i64 q.zone] 35)) (w.heap.size + 1) q := by simpa only [World.size_alloc] using perAt_new (w.alloc (.cells #[.int .i64 p.number, .string p.first, .string p.last, .int .i64 p.born, .int .i64 p.zone] 35)) q 35
  replace PA0 := PA0.alloc (.cells #[.int .i64 q.number, .string q.first, .string q.last, .int .i64 q.born, .int .i64 q.zone] 35)
  have BB : Below w.heap.size w ((w.alloc (.cells #[.int .i64 p.number, .string p.first, .string p.last, .int .i64 p.born, .int .i64 p.zone] 35)).alloc (.cells #[.int .i64 q.number, .string q.first, .string q.last, .int .i64 q.born, .int .i64 q.zone] 35)) := ((Below.refl _ _).alloc (by simp; try omega) _).alloc (by simp; try omega) _
  go_enter Try.func20, Try.ntmps20
  go_wp2_with fail
  refine (spec_IsPerson p hp _).mono ?_
  rintro e w1 ⟨rfl, b1⟩
  replace PA0 := PA0.below b1
  replace PA1 := PA1.below b1
  replace BB := below_next BB (Nat.le_refl _) b1
  have PC0 := PA0
  obtain ⟨cb0, c00, c01, c02, c03, c04⟩ := PC0
  have PC1 := PA1
  obtain ⟨cb1, c10, c11, c12, c13, c14⟩ := PC1
  go_wp2_with fail
  clear c00 c01 c02 c03 c04 cb0 c10 c11 c12 c13 c14 cb1
  refine (spec_IsPerson q hq _).mono ?_
  rintro e w2 ⟨rfl, b2⟩
  replace PA0 := PA0.below b2
  replace PA1 := PA1.below b2
  replace BB := below_next BB (Nat.le_refl _) b2
  have PC0 := PA0
  obtain ⟨cb0, c00, c01, c02, c03, c04⟩ := PC0
  have PC1 := PA1
  obtain ⟨cb1, c10, c11, c12, c13, c14⟩ := PC1
  go_wp2_with fail
  clear c00 c01 c02 c03 c04 cb0 c10 c11 c12 c13 c14 cb1
  refine (in_yes l 0 100 hl.1 hl.2 _).mono ?_
  rintro e w' ⟨rfl, rfl⟩
  have PC0 := PA0
  obtain ⟨cb0, c00, c01, c02, c03, c04⟩ := PC0
  have PC1 := PA1
  obtain ⟨cb1, c10, c11, c12, c13, c14⟩ := PC1
  go_wp2_with fail
  clear c00 c01 c02 c03 c04 cb0 c10 c11 c12 c13 c14 cb1
  refine (spec_likeness p q hp hq bp1 bq1 _).mono ?_
  rintro e w3 ⟨rfl, b3⟩
  replace PA0 := PA0.below b3
  replace PA1 := PA1.below b3
  replace BB := below_next BB (Nat.le_refl _) b3
  have PC0 := PA0
  obtain ⟨cb0, c00, c01, c02, c03, c04⟩ := PC0
  have PC1 := PA1
  obtain ⟨cb1, c10, c11, c12, c13, c14⟩ := PC1
  go_wp2_with fail
  clear c00 c01 c02 c03 c04 cb0 c10 c11 c12 c13 c14 cb1
  go_ret2
  exact ⟨rfl, BB⟩

set_option maxHeartbeats 1000000 in
theorem spec_AreAlike_range (p : Per) (hp : PerFit p) (q : Per) (hq : PerFit q) (l : Int) (kp : perB p = true) (kq : perB q = true) (hl : l < 0 ∨ 100 < l) (w : World) :
    Calls Try.prog 20 #[perV p, perV q, .int .i64 l] w fun e w' => e = .returned (.tuple #[.bool false, .int .i64 2]) ∧ Below w.heap.size w w' := by
  have HVp : Hid (perV p = .agg #[.int .i64 p.number, .string p.first, .string p.last, .int .i64 p.born, .int .i64 p.zone]) := Lib.hid rfl
  have HVq : Hid (perV q = .agg #[.int .i64 q.number, .string q.first, .string q.last, .int .i64 q.born, .int .i64 q.zone]) := Lib.hid rfl
  have HL := Lib.hid hl
  clear hl
  rw [HVp.out, HVq.out]
  clear HVp
  clear HVq
  have PA0 := perAt_new (w) p 35
  have PA1 : PerAt ((w.alloc (.cells #[.int .i64 p.number, .string p.first, .string p.last, .int .i64 p.born, .int .i64 p.zone] 35)).alloc (.cells #[.int .i64 q.number, .string q.first, .string q.last, .int .i64 q.born, .int .i64 q.zone] 35)) (w.heap.size + 1) q := by simpa only [World.size_alloc] using perAt_new (w.alloc (.cells #[.int .i64 p.number, .string p.first, .string p.last, .int .i64 p.born, .int .i64 p.zone] 35)) q 35
  replace PA0 := PA0.alloc (.cells #[.int .i64 q.number, .string q.first, .string q.last, .int .i64 q.born, .int .i64 q.zone] 35)
  have BB : Below w.heap.size w ((w.alloc (.cells #[.int .i64 p.number, .string p.first, .string p.last, .int .i64 p.born, .int .i64 p.zone] 35)).alloc (.cells #[.int .i64 q.number, .string q.first, .string q.last, .int .i64 q.born, .int .i64 q.zone] 35)) := ((Below.refl _ _).alloc (by simp; try omega) _).alloc (by simp; try omega) _
  go_enter Try.func20, Try.ntmps20
  go_wp2_with fail
  refine (spec_IsPerson p hp _).mono ?_
  rintro e w1 ⟨rfl, b1⟩
  replace PA0 := PA0.below b1
  replace PA1 := PA1.below b1
  replace BB := below_next BB (Nat.le_refl _) b1
  have PC0 := PA0
  obtain ⟨cb0, c00, c01, c02, c03, c04⟩ := PC0
  have PC1 := PA1
  obtain ⟨cb1, c10, c11, c12, c13, c14⟩ := PC1
  go_wp2_with fail
  clear c00 c01 c02 c03 c04 cb0 c10 c11 c12 c13 c14 cb1
  refine (spec_IsPerson q hq _).mono ?_
  rintro e w2 ⟨rfl, b2⟩
  replace PA0 := PA0.below b2
  replace PA1 := PA1.below b2
  replace BB := below_next BB (Nat.le_refl _) b2
  have PC0 := PA0
  obtain ⟨cb0, c00, c01, c02, c03, c04⟩ := PC0
  have PC1 := PA1
  obtain ⟨cb1, c10, c11, c12, c13, c14⟩ := PC1
  go_wp2_with fail
  clear c00 c01 c02 c03 c04 cb0 c10 c11 c12 c13 c14 cb1
  refine (in_no l 0 100 HL.out _).mono ?_
  rintro e w' ⟨rfl, rfl⟩
  have PC0 := PA0
  obtain ⟨cb0, c00, c01, c02, c03, c04⟩ := PC0
  have PC1 := PA1
  obtain ⟨cb1, c10, c11, c12, c13, c14⟩ := PC1
  go_wp2_with fail
  clear c00 c01 c02 c03 c04 cb0 c10 c11 c12 c13 c14 cb1
  go_ret2
  exact ⟨rfl, BB⟩

set_option maxHeartbeats 1000000 in
theorem spec_AreAlike_bad1 (p : Per) (hp : PerFit p) (q : Per) (hq : PerFit q) (l : Int) (kp : perB p = false) (w : World) :
    Calls Try.prog 20 #[perV p, perV q, .int .i64 l] w fun e w' => e = .returned (.tuple #[.bool false, .int .i64 1]) ∧ Below w.heap.size w w' := by
  have HVp : Hid (perV p = .agg #[.int .i64 p.number, .string p.first, .string p.last, .int .i64 p.born, .int .i64 p.zone]) := Lib.hid rfl
  have HVq : Hid (perV q = .agg #[.int .i64 q.number, .string q.first, .string q.last, .int .i64 q.born, .int .i64 q.zone]) := Lib.hid rfl
  rw [HVp.out, HVq.out]
  clear HVp
  clear HVq
  have PA0 := perAt_new (w) p 35
  have PA1 : PerAt ((w.alloc (.cells #[.int .i64 p.number, .string p.first, .string p.last, .int .i64 p.born, .int .i64 p.zone] 35)).alloc (.cells #[.int .i64 q.number, .string q.first, .string q.last, .int .i64 q.born, .int .i64 q.zone] 35)) (w.heap.size + 1) q := by simpa only [World.size_alloc] using perAt_new (w.alloc (.cells #[.int .i64 p.number, .string p.first, .string p.last, .int .i64 p.born, .int .i64 p.zone] 35)) q 35
  replace PA0 := PA0.alloc (.cells #[.int .i64 q.number, .string q.first, .string q.last, .int .i64 q.born, .int .i64 q.zone] 35)
  have BB : Below w.heap.size w ((w.alloc (.cells #[.int .i64 p.number, .string p.first, .string p.last, .int .i64 p.born, .int .i64 p.zone] 35)).alloc (.cells #[.int .i64 q.number, .string q.first, .string q.last, .int .i64 q.born, .int .i64 q.zone] 35)) := ((Below.refl _ _).alloc (by simp; try omega) _).alloc (by simp; try omega) _
  go_enter Try.func20, Try.ntmps20
  go_wp2_with fail
  refine (spec_IsPerson p hp _).mono ?_
  rintro e w1 ⟨rfl, b1⟩
  replace PA0 := PA0.below b1
  replace PA1 := PA1.below b1
  replace BB := below_next BB (Nat.le_refl _) b1
  have PC0 := PA0
  obtain ⟨cb0, c00, c01, c02, c03, c04⟩ := PC0
  have PC1 := PA1
  obtain ⟨cb1, c10, c11, c12, c13, c14⟩ := PC1
  go_wp2_with fail
  clear c00 c01 c02 c03 c04 cb0 c10 c11 c12 c13 c14 cb1
  go_ret2
  exact ⟨rfl, BB⟩

set_option maxHeartbeats 1000000 in
theorem spec_AreAlike_bad2 (p : Per) (hp : PerFit p) (q : Per) (hq : PerFit q) (l : Int) (kp : perB p = true) (kq : perB q = false) (w : World) :
    Calls Try.prog 20 #[perV p, perV q, .int .i64 l] w fun e w' => e = .returned (.tuple #[.bool false, .int .i64 1]) ∧ Below w.heap.size w w' := by
  have HVp : Hid (perV p = .agg #[.int .i64 p.number, .string p.first, .string p.last, .int .i64 p.born, .int .i64 p.zone]) := Lib.hid rfl
  have HVq : Hid (perV q = .agg #[.int .i64 q.number, .string q.first, .string q.last, .int .i64 q.born, .int .i64 q.zone]) := Lib.hid rfl
  rw [HVp.out, HVq.out]
  clear HVp
  clear HVq
  have PA0 := perAt_new (w) p 35
  have PA1 : PerAt ((w.alloc (.cells #[.int .i64 p.number, .string p.first, .string p.last, .int .i64 p.born, .int .i64 p.zone] 35)).alloc (.cells #[.int .i64 q.number, .string q.first, .string q.last, .int .i64 q.born, .int .i64 q.zone] 35)) (w.heap.size + 1) q := by simpa only [World.size_alloc] using perAt_new (w.alloc (.cells #[.int .i64 p.number, .string p.first, .string p.last, .int .i64 p.born, .int .i64 p.zone] 35)) q 35
  replace PA0 := PA0.alloc (.cells #[.int .i64 q.number, .string q.first, .string q.last, .int .i64 q.born, .int .i64 q.zone] 35)
  have BB : Below w.heap.size w ((w.alloc (.cells #[.int .i64 p.number, .string p.first, .string p.last, .int .i64 p.born, .int .i64 p.zone] 35)).alloc (.cells #[.int .i64 q.number, .string q.first, .string q.last, .int .i64 q.born, .int .i64 q.zone] 35)) := ((Below.refl _ _).alloc (by simp; try omega) _).alloc (by simp; try omega) _
  go_enter Try.func20, Try.ntmps20
  go_wp2_with fail
  refine (spec_IsPerson p hp _).mono ?_
  rintro e w1 ⟨rfl, b1⟩
  replace PA0 := PA0.below b1
  replace PA1 := PA1.below b1
  replace BB := below_next BB (Nat.le_refl _) b1
  have PC0 := PA0
  obtain ⟨cb0, c00, c01, c02, c03, c04⟩ := PC0
  have PC1 := PA1
  obtain ⟨cb1, c10, c11, c12, c13, c14⟩ := PC1
  go_wp2_with fail
  clear c00 c01 c02 c03 c04 cb0 c10 c11 c12 c13 c14 cb1
  refine (spec_IsPerson q hq _).mono ?_
  rintro e w2 ⟨rfl, b2⟩
  replace PA0 := PA0.below b2
  replace PA1 := PA1.below b2
  replace BB := below_next BB (Nat.le_refl _) b2
  have PC0 := PA0
  obtain ⟨cb0, c00, c01, c02, c03, c04⟩ := PC0
  have PC1 := PA1
  obtain ⟨cb1, c10, c11, c12, c13, c14⟩ := PC1
  go_wp2_with fail
  clear c00 c01 c02 c03 c04 cb0 c10 c11 c12 c13 c14 cb1
  go_ret2
  exact ⟨rfl, BB⟩

end Go.Proofs.Ythnilifepiihjaa
