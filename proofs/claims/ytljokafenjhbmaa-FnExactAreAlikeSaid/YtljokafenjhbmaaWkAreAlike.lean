/-
  The walk of FnExactAreAlike.
  Conditions: each lemma names its own.
-/
import Derived.Test.YtljokafenjhbmaaLikeOf
namespace Go.Proofs.Ytljokafenjhbmaa
open Go.RowKit
set_option linter.unusedVariables false

set_option maxHeartbeats 1000000 in
theorem wk_FnExactAreAlike_ok (p : Per) (hp : PerFit p) (q : Per) (hq : PerFit q) (l : Int) (w : World) (kp : perB p = true) (kq : perB q = true) (hl : 0 ≤ l ∧ l ≤ 100) :
    Calls Try.prog 9 #[perV p, perV q, .int .i64 l] w fun e w' => e = .returned (.bool true) ∧ Below w.heap.size w w' := by
  have HVp : Hid (perV p = .agg #[.int .i64 p.number, .string p.first, .string p.last, .int .i64 p.born, .int .i64 p.zone]) := Lib.hid rfl
  have HVq : Hid (perV q = .agg #[.int .i64 q.number, .string q.first, .string q.last, .int .i64 q.born, .int .i64 q.zone]) := Lib.hid rfl
  by_cases hs0 : szP (1048576) p < 0
  · rw [HVp.out, HVq.out]
    clear HVp
    clear HVq
    have PA0 := perAt_new (w) p 23
    have PA1 : PerAt ((w.alloc (.cells #[.int .i64 p.number, .string p.first, .string p.last, .int .i64 p.born, .int .i64 p.zone] 23)).alloc (.cells #[.int .i64 q.number, .string q.first, .string q.last, .int .i64 q.born, .int .i64 q.zone] 23)) (w.heap.size + 1) q := by simpa only [World.size_alloc] using perAt_new (w.alloc (.cells #[.int .i64 p.number, .string p.first, .string p.last, .int .i64 p.born, .int .i64 p.zone] 23)) q 23
    replace PA0 := PA0.alloc (.cells #[.int .i64 q.number, .string q.first, .string q.last, .int .i64 q.born, .int .i64 q.zone] 23)
    have BB : Below w.heap.size w ((w.alloc (.cells #[.int .i64 p.number, .string p.first, .string p.last, .int .i64 p.born, .int .i64 p.zone] 23)).alloc (.cells #[.int .i64 q.number, .string q.first, .string q.last, .int .i64 q.born, .int .i64 q.zone] 23)) := ((Below.refl _ _).alloc (by simp; try omega) _).alloc (by simp; try omega) _
    go_enter Try.func9, Try.ntmps9
    go_wp2_with fail
    refine (szPerson_c p hp (1048576) (by omega) (by have := szP_bd 1048576 p; omega) _).mono ?_
    rintro e w1 ⟨rfl, b1⟩
    replace PA0 := PA0.below b1
    replace PA1 := PA1.below b1
    replace BB := below_next BB (Nat.le_refl _) b1
    have PC0 := PA0
    obtain ⟨cb0, c00, c01, c02, c03, c04⟩ := PC0
    have PC1 := PA1
    obtain ⟨cb1, c10, c11, c12, c13, c14⟩ := PC1
    go_wp2_with fail
    clear c00 c01 c02 c03 c04 cb0 c10 c11 c12 c13 c14 cb1
    go_ret
    exact ⟨rfl, BB⟩
  · have hb0 := szP_bd (1048576) p
    by_cases hs1 : szP (szP (1048576) p) q < 0
    · rw [HVp.out, HVq.out]
      clear HVp
      clear HVq
      have PA0 := perAt_new (w) p 23
      have PA1 : PerAt ((w.alloc (.cells #[.int .i64 p.number, .string p.first, .string p.last, .int .i64 p.born, .int .i64 p.zone] 23)).alloc (.cells #[.int .i64 q.number, .string q.first, .string q.last, .int .i64 q.born, .int .i64 q.zone] 23)) (w.heap.size + 1) q := by simpa only [World.size_alloc] using perAt_new (w.alloc (.cells #[.int .i64 p.number, .string p.first, .string p.last, .int .i64 p.born, .int .i64 p.zone] 23)) q 23
      replace PA0 := PA0.alloc (.cells #[.int .i64 q.number, .string q.first, .string q.last, .int .i64 q.born, .int .i64 q.zone] 23)
      have BB : Below w.heap.size w ((w.alloc (.cells #[.int .i64 p.number, .string p.first, .string p.last, .int .i64 p.born, .int .i64 p.zone] 23)).alloc (.cells #[.int .i64 q.number, .string q.first, .string q.last, .int .i64 q.born, .int .i64 q.zone] 23)) := ((Below.refl _ _).alloc (by simp; try omega) _).alloc (by simp; try omega) _
      go_enter Try.func9, Try.ntmps9
      go_wp2_with fail
      refine (szPerson_c p hp (1048576) (by omega) (by have := szP_bd 1048576 p; omega) _).mono ?_
      rintro e w1 ⟨rfl, b1⟩
      replace PA0 := PA0.below b1
      replace PA1 := PA1.below b1
      replace BB := below_next BB (Nat.le_refl _) b1
      have PC0 := PA0
      obtain ⟨cb0, c00, c01, c02, c03, c04⟩ := PC0
      have PC1 := PA1
      obtain ⟨cb1, c10, c11, c12, c13, c14⟩ := PC1
      go_wp2_with fail
      clear c00 c01 c02 c03 c04 cb0 c10 c11 c12 c13 c14 cb1
      refine (szPerson_c q hq (szP (1048576) p) (by omega) (by have := szP_bd 1048576 p; omega) _).mono ?_
      rintro e w2 ⟨rfl, b2⟩
      replace PA0 := PA0.below b2
      replace PA1 := PA1.below b2
      replace BB := below_next BB (Nat.le_refl _) b2
      have PC0 := PA0
      obtain ⟨cb0, c00, c01, c02, c03, c04⟩ := PC0
      have PC1 := PA1
      obtain ⟨cb1, c10, c11, c12, c13, c14⟩ := PC1
      go_wp2_with fail
      clear c00 c01 c02 c03 c04 cb0 c10 c11 c12 c13 c14 cb1
      go_ret
      exact ⟨rfl, BB⟩
    · have hb1 := szP_bd (szP (1048576) p) q
      rw [HVp.out, HVq.out]
      clear HVp
      clear HVq
      have PA0 := perAt_new (w) p 23
      have PA1 : PerAt ((w.alloc (.cells #[.int .i64 p.number, .string p.first, .string p.last, .int .i64 p.born, .int .i64 p.zone] 23)).alloc (.cells #[.int .i64 q.number, .string q.first, .string q.last, .int .i64 q.born, .int .i64 q.zone] 23)) (w.heap.size + 1) q := by simpa only [World.size_alloc] using perAt_new (w.alloc (.cells #[.int .i64 p.number, .string p.first, .string p.last, .int .i64 p.born, .int .i64 p.zone] 23)) q 23
      replace PA0 := PA0.alloc (.cells #[.int .i64 q.number, .string q.first, .string q.last, .int .i64 q.born, .int .i64 q.zone] 23)
      have BB : Below w.heap.size w ((w.alloc (.cells #[.int .i64 p.number, .string p.first, .string p.last, .int .i64 p.born, .int .i64 p.zone] 23)).alloc (.cells #[.int .i64 q.number, .string q.first, .string q.last, .int .i64 q.born, .int .i64 q.zone] 23)) := ((Below.refl _ _).alloc (by simp; try omega) _).alloc (by simp; try omega) _
      go_enter Try.func9, Try.ntmps9
      go_wp2_with fail
      refine (szPerson_c p hp (1048576) (by omega) (by omega) _).mono ?_
      rintro e w1 ⟨rfl, b1⟩
      replace PA0 := PA0.below b1
      replace PA1 := PA1.below b1
      replace BB := below_next BB (Nat.le_refl _) b1
      have PC0 := PA0
      obtain ⟨cb0, c00, c01, c02, c03, c04⟩ := PC0
      have PC1 := PA1
      obtain ⟨cb1, c10, c11, c12, c13, c14⟩ := PC1
      go_wp2_with fail
      clear c00 c01 c02 c03 c04 cb0 c10 c11 c12 c13 c14 cb1
      refine (szPerson_c q hq (szP (1048576) p) (by omega) (by omega) _).mono ?_
      rintro e w2 ⟨rfl, b2⟩
      replace PA0 := PA0.below b2
      replace PA1 := PA1.below b2
      replace BB := below_next BB (Nat.le_refl _) b2
      have PC0 := PA0
      obtain ⟨cb0, c00, c01, c02, c03, c04⟩ := PC0
      have PC1 := PA1
      obtain ⟨cb1, c10, c11, c12, c13, c14⟩ := PC1
      go_wp2_with fail
      clear c00 c01 c02 c03 c04 cb0 c10 c11 c12 c13 c14 cb1
      have PC0 := PA0
      obtain ⟨cb0, c00, c01, c02, c03, c04⟩ := PC0
      have PC1 := PA1
      obtain ⟨cb1, c10, c11, c12, c13, c14⟩ := PC1
      refine region_ext (by kernel_rfl) (by kernel_rfl) ?_
      repeat (go_big_quiet_step ((first | with_reducible_and_instances exact ext_call (toPerson_l p _) | with_reducible_and_instances exact ext_call (toPerson_l q _) | with_reducible_and_instances exact ext_call (spec_AreAlike_ok p hp q hq l kp kq hl _))))
      refine wpQuiet_nil ?_
      rintro _ ⟨nx3, rfl⟩
      clear c00 c01 c02 c03 c04 cb0 c10 c11 c12 c13 c14 cb1
      have b3 := ext_below _ nx3
      generalize extW _ nx3 = w3 at *
      replace PA0 := PA0.below b3
      replace PA1 := PA1.below b3
      replace BB := below_next BB (Nat.le_refl _) b3
      have PC0 := PA0
      obtain ⟨cb0, c00, c01, c02, c03, c04⟩ := PC0
      have PC1 := PA1
      obtain ⟨cb1, c10, c11, c12, c13, c14⟩ := PC1
      go_wp2_with fail
      clear c00 c01 c02 c03 c04 cb0 c10 c11 c12 c13 c14 cb1
      have PC0 := PA0
      obtain ⟨cb0, c00, c01, c02, c03, c04⟩ := PC0
      have PC1 := PA1
      obtain ⟨cb1, c10, c11, c12, c13, c14⟩ := PC1
      refine region_ext (by kernel_rfl) (by kernel_rfl) ?_
      repeat (go_big_quiet_step ((first | with_reducible_and_instances exact ext_call (toPerson_l p _) | with_reducible_and_instances exact ext_call (toPerson_l q _) | with_reducible_and_instances exact ext_call (impl_AreAlike_ok p hp q hq l kp kq hl _))))
      refine wpQuiet_nil ?_
      rintro _ ⟨nx4, rfl⟩
      clear c00 c01 c02 c03 c04 cb0 c10 c11 c12 c13 c14 cb1
      have b4 := ext_below _ nx4
      generalize extW _ nx4 = w4 at *
      replace PA0 := PA0.below b4
      replace PA1 := PA1.below b4
      replace BB := below_next BB (Nat.le_refl _) b4
      have PC0 := PA0
      obtain ⟨cb0, c00, c01, c02, c03, c04⟩ := PC0
      have PC1 := PA1
      obtain ⟨cb1, c10, c11, c12, c13, c14⟩ := PC1
      go_wp2_with fail
      clear c00 c01 c02 c03 c04 cb0 c10 c11 c12 c13 c14 cb1
      go_ret
      exact ⟨rfl, BB⟩
set_option maxHeartbeats 1000000 in
theorem wk_FnExactAreAlike_range (p : Per) (hp : PerFit p) (q : Per) (hq : PerFit q) (l : Int) (w : World) (kp : perB p = true) (kq : perB q = true) (hl : l < 0 ∨ 100 < l) :
    Calls Try.prog 9 #[perV p, perV q, .int .i64 l] w fun e w' => e = .returned (.bool true) ∧ Below w.heap.size w w' := by
  have HVp : Hid (perV p = .agg #[.int .i64 p.number, .string p.first, .string p.last, .int .i64 p.born, .int .i64 p.zone]) := Lib.hid rfl
  have HVq : Hid (perV q = .agg #[.int .i64 q.number, .string q.first, .string q.last, .int .i64 q.born, .int .i64 q.zone]) := Lib.hid rfl
  have HL := Lib.hid hl
  clear hl
  by_cases hs0 : szP (1048576) p < 0
  · rw [HVp.out, HVq.out]
    clear HVp
    clear HVq
    have PA0 := perAt_new (w) p 23
    have PA1 : PerAt ((w.alloc (.cells #[.int .i64 p.number, .string p.first, .string p.last, .int .i64 p.born, .int .i64 p.zone] 23)).alloc (.cells #[.int .i64 q.number, .string q.first, .string q.last, .int .i64 q.born, .int .i64 q.zone] 23)) (w.heap.size + 1) q := by simpa only [World.size_alloc] using perAt_new (w.alloc (.cells #[.int .i64 p.number, .string p.first, .string p.last, .int .i64 p.born, .int .i64 p.zone] 23)) q 23
    replace PA0 := PA0.alloc (.cells #[.int .i64 q.number, .string q.first, .string q.last, .int .i64 q.born, .int .i64 q.zone] 23)
    have BB : Below w.heap.size w ((w.alloc (.cells #[.int .i64 p.number, .string p.first, .string p.last, .int .i64 p.born, .int .i64 p.zone] 23)).alloc (.cells #[.int .i64 q.number, .string q.first, .string q.last, .int .i64 q.born, .int .i64 q.zone] 23)) := ((Below.refl _ _).alloc (by simp; try omega) _).alloc (by simp; try omega) _
    go_enter Try.func9, Try.ntmps9
    go_wp2_with fail
    refine (szPerson_c p hp (1048576) (by omega) (by have := szP_bd 1048576 p; omega) _).mono ?_
    rintro e w1 ⟨rfl, b1⟩
    replace PA0 := PA0.below b1
    replace PA1 := PA1.below b1
    replace BB := below_next BB (Nat.le_refl _) b1
    have PC0 := PA0
    obtain ⟨cb0, c00, c01, c02, c03, c04⟩ := PC0
    have PC1 := PA1
    obtain ⟨cb1, c10, c11, c12, c13, c14⟩ := PC1
    go_wp2_with fail
    clear c00 c01 c02 c03 c04 cb0 c10 c11 c12 c13 c14 cb1
    go_ret
    exact ⟨rfl, BB⟩
  · have hb0 := szP_bd (1048576) p
    by_cases hs1 : szP (szP (1048576) p) q < 0
    · rw [HVp.out, HVq.out]
      clear HVp
      clear HVq
      have PA0 := perAt_new (w) p 23
      have PA1 : PerAt ((w.alloc (.cells #[.int .i64 p.number, .string p.first, .string p.last, .int .i64 p.born, .int .i64 p.zone] 23)).alloc (.cells #[.int .i64 q.number, .string q.first, .string q.last, .int .i64 q.born, .int .i64 q.zone] 23)) (w.heap.size + 1) q := by simpa only [World.size_alloc] using perAt_new (w.alloc (.cells #[.int .i64 p.number, .string p.first, .string p.last, .int .i64 p.born, .int .i64 p.zone] 23)) q 23
      replace PA0 := PA0.alloc (.cells #[.int .i64 q.number, .string q.first, .string q.last, .int .i64 q.born, .int .i64 q.zone] 23)
      have BB : Below w.heap.size w ((w.alloc (.cells #[.int .i64 p.number, .string p.first, .string p.last, .int .i64 p.born, .int .i64 p.zone] 23)).alloc (.cells #[.int .i64 q.number, .string q.first, .string q.last, .int .i64 q.born, .int .i64 q.zone] 23)) := ((Below.refl _ _).alloc (by simp; try omega) _).alloc (by simp; try omega) _
      go_enter Try.func9, Try.ntmps9
      go_wp2_with fail
      refine (szPerson_c p hp (1048576) (by omega) (by have := szP_bd 1048576 p; omega) _).mono ?_
      rintro e w1 ⟨rfl, b1⟩
      replace PA0 := PA0.below b1
      replace PA1 := PA1.below b1
      replace BB := below_next BB (Nat.le_refl _) b1
      have PC0 := PA0
      obtain ⟨cb0, c00, c01, c02, c03, c04⟩ := PC0
      have PC1 := PA1
      obtain ⟨cb1, c10, c11, c12, c13, c14⟩ := PC1
      go_wp2_with fail
      clear c00 c01 c02 c03 c04 cb0 c10 c11 c12 c13 c14 cb1
      refine (szPerson_c q hq (szP (1048576) p) (by omega) (by have := szP_bd 1048576 p; omega) _).mono ?_
      rintro e w2 ⟨rfl, b2⟩
      replace PA0 := PA0.below b2
      replace PA1 := PA1.below b2
      replace BB := below_next BB (Nat.le_refl _) b2
      have PC0 := PA0
      obtain ⟨cb0, c00, c01, c02, c03, c04⟩ := PC0
      have PC1 := PA1
      obtain ⟨cb1, c10, c11, c12, c13, c14⟩ := PC1
      go_wp2_with fail
      clear c00 c01 c02 c03 c04 cb0 c10 c11 c12 c13 c14 cb1
      go_ret
      exact ⟨rfl, BB⟩
    · have hb1 := szP_bd (szP (1048576) p) q
      rw [HVp.out, HVq.out]
      clear HVp
      clear HVq
      have PA0 := perAt_new (w) p 23
      have PA1 : PerAt ((w.alloc (.cells #[.int .i64 p.number, .string p.first, .string p.last, .int .i64 p.born, .int .i64 p.zone] 23)).alloc (.cells #[.int .i64 q.number, .string q.first, .string q.last, .int .i64 q.born, .int .i64 q.zone] 23)) (w.heap.size + 1) q := by simpa only [World.size_alloc] using perAt_new (w.alloc (.cells #[.int .i64 p.number, .string p.first, .string p.last, .int .i64 p.born, .int .i64 p.zone] 23)) q 23
      replace PA0 := PA0.alloc (.cells #[.int .i64 q.number, .string q.first, .string q.last, .int .i64 q.born, .int .i64 q.zone] 23)
      have BB : Below w.heap.size w ((w.alloc (.cells #[.int .i64 p.number, .string p.first, .string p.last, .int .i64 p.born, .int .i64 p.zone] 23)).alloc (.cells #[.int .i64 q.number, .string q.first, .string q.last, .int .i64 q.born, .int .i64 q.zone] 23)) := ((Below.refl _ _).alloc (by simp; try omega) _).alloc (by simp; try omega) _
      go_enter Try.func9, Try.ntmps9
      go_wp2_with fail
      refine (szPerson_c p hp (1048576) (by omega) (by omega) _).mono ?_
      rintro e w1 ⟨rfl, b1⟩
      replace PA0 := PA0.below b1
      replace PA1 := PA1.below b1
      replace BB := below_next BB (Nat.le_refl _) b1
      have PC0 := PA0
      obtain ⟨cb0, c00, c01, c02, c03, c04⟩ := PC0
      have PC1 := PA1
      obtain ⟨cb1, c10, c11, c12, c13, c14⟩ := PC1
      go_wp2_with fail
      clear c00 c01 c02 c03 c04 cb0 c10 c11 c12 c13 c14 cb1
      refine (szPerson_c q hq (szP (1048576) p) (by omega) (by omega) _).mono ?_
      rintro e w2 ⟨rfl, b2⟩
      replace PA0 := PA0.below b2
      replace PA1 := PA1.below b2
      replace BB := below_next BB (Nat.le_refl _) b2
      have PC0 := PA0
      obtain ⟨cb0, c00, c01, c02, c03, c04⟩ := PC0
      have PC1 := PA1
      obtain ⟨cb1, c10, c11, c12, c13, c14⟩ := PC1
      go_wp2_with fail
      clear c00 c01 c02 c03 c04 cb0 c10 c11 c12 c13 c14 cb1
      have PC0 := PA0
      obtain ⟨cb0, c00, c01, c02, c03, c04⟩ := PC0
      have PC1 := PA1
      obtain ⟨cb1, c10, c11, c12, c13, c14⟩ := PC1
      refine region_ext (by kernel_rfl) (by kernel_rfl) ?_
      repeat (go_big_quiet_step ((first | with_reducible_and_instances exact ext_call (toPerson_l p _) | with_reducible_and_instances exact ext_call (toPerson_l q _) | with_reducible_and_instances exact ext_call (spec_AreAlike_range p hp q hq l kp kq HL.out _))))
      refine wpQuiet_nil ?_
      rintro _ ⟨nx3, rfl⟩
      clear c00 c01 c02 c03 c04 cb0 c10 c11 c12 c13 c14 cb1
      have b3 := ext_below _ nx3
      generalize extW _ nx3 = w3 at *
      replace PA0 := PA0.below b3
      replace PA1 := PA1.below b3
      replace BB := below_next BB (Nat.le_refl _) b3
      have PC0 := PA0
      obtain ⟨cb0, c00, c01, c02, c03, c04⟩ := PC0
      have PC1 := PA1
      obtain ⟨cb1, c10, c11, c12, c13, c14⟩ := PC1
      go_wp2_with fail
      clear c00 c01 c02 c03 c04 cb0 c10 c11 c12 c13 c14 cb1
      have PC0 := PA0
      obtain ⟨cb0, c00, c01, c02, c03, c04⟩ := PC0
      have PC1 := PA1
      obtain ⟨cb1, c10, c11, c12, c13, c14⟩ := PC1
      refine region_ext (by kernel_rfl) (by kernel_rfl) ?_
      repeat (go_big_quiet_step ((first | with_reducible_and_instances exact ext_call (toPerson_l p _) | with_reducible_and_instances exact ext_call (toPerson_l q _) | with_reducible_and_instances exact ext_call (impl_AreAlike_range p hp q hq l kp kq HL.out _))))
      refine wpQuiet_nil ?_
      rintro _ ⟨nx4, rfl⟩
      clear c00 c01 c02 c03 c04 cb0 c10 c11 c12 c13 c14 cb1
      have b4 := ext_below _ nx4
      generalize extW _ nx4 = w4 at *
      replace PA0 := PA0.below b4
      replace PA1 := PA1.below b4
      replace BB := below_next BB (Nat.le_refl _) b4
      have PC0 := PA0
      obtain ⟨cb0, c00, c01, c02, c03, c04⟩ := PC0
      have PC1 := PA1
      obtain ⟨cb1, c10, c11, c12, c13, c14⟩ := PC1
      go_wp2_with fail
      clear c00 c01 c02 c03 c04 cb0 c10 c11 c12 c13 c14 cb1
      go_ret
      exact ⟨rfl, BB⟩
set_option maxHeartbeats 1000000 in
theorem wk_FnExactAreAlike_bad1 (p : Per) (hp : PerFit p) (q : Per) (hq : PerFit q) (l : Int) (w : World) (kp : perB p = false) :
    Calls Try.prog 9 #[perV p, perV q, .int .i64 l] w fun e w' => e = .returned (.bool true) ∧ Below w.heap.size w w' := by
  have HVp : Hid (perV p = .agg #[.int .i64 p.number, .string p.first, .string p.last, .int .i64 p.born, .int .i64 p.zone]) := Lib.hid rfl
  have HVq : Hid (perV q = .agg #[.int .i64 q.number, .string q.first, .string q.last, .int .i64 q.born, .int .i64 q.zone]) := Lib.hid rfl
  by_cases hs0 : szP (1048576) p < 0
  · rw [HVp.out, HVq.out]
    clear HVp
    clear HVq
    have PA0 := perAt_new (w) p 23
    have PA1 : PerAt ((w.alloc (.cells #[.int .i64 p.number, .string p.first, .string p.last, .int .i64 p.born, .int .i64 p.zone] 23)).alloc (.cells #[.int .i64 q.number, .string q.first, .string q.last, .int .i64 q.born, .int .i64 q.zone] 23)) (w.heap.size + 1) q := by simpa only [World.size_alloc] using perAt_new (w.alloc (.cells #[.int .i64 p.number, .string p.first, .string p.last, .int .i64 p.born, .int .i64 p.zone] 23)) q 23
    replace PA0 := PA0.alloc (.cells #[.int .i64 q.number, .string q.first, .string q.last, .int .i64 q.born, .int .i64 q.zone] 23)
    have BB : Below w.heap.size w ((w.alloc (.cells #[.int .i64 p.number, .string p.first, .string p.last, .int .i64 p.born, .int .i64 p.zone] 23)).alloc (.cells #[.int .i64 q.number, .string q.first, .string q.last, .int .i64 q.born, .int .i64 q.zone] 23)) := ((Below.refl _ _).alloc (by simp; try omega) _).alloc (by simp; try omega) _
    go_enter Try.func9, Try.ntmps9
    go_wp2_with fail
    refine (szPerson_c p hp (1048576) (by omega) (by have := szP_bd 1048576 p; omega) _).mono ?_
    rintro e w1 ⟨rfl, b1⟩
    replace PA0 := PA0.below b1
    replace PA1 := PA1.below b1
    replace BB := below_next BB (Nat.le_refl _) b1
    have PC0 := PA0
    obtain ⟨cb0, c00, c01, c02, c03, c04⟩ := PC0
    have PC1 := PA1
    obtain ⟨cb1, c10, c11, c12, c13, c14⟩ := PC1
    go_wp2_with fail
    clear c00 c01 c02 c03 c04 cb0 c10 c11 c12 c13 c14 cb1
    go_ret
    exact ⟨rfl, BB⟩
  · have hb0 := szP_bd (1048576) p
    by_cases hs1 : szP (szP (1048576) p) q < 0
    · rw [HVp.out, HVq.out]
      clear HVp
      clear HVq
      have PA0 := perAt_new (w) p 23
      have PA1 : PerAt ((w.alloc (.cells #[.int .i64 p.number, .string p.first, .string p.last, .int .i64 p.born, .int .i64 p.zone] 23)).alloc (.cells #[.int .i64 q.number, .string q.first, .string q.last, .int .i64 q.born, .int .i64 q.zone] 23)) (w.heap.size + 1) q := by simpa only [World.size_alloc] using perAt_new (w.alloc (.cells #[.int .i64 p.number, .string p.first, .string p.last, .int .i64 p.born, .int .i64 p.zone] 23)) q 23
      replace PA0 := PA0.alloc (.cells #[.int .i64 q.number, .string q.first, .string q.last, .int .i64 q.born, .int .i64 q.zone] 23)
      have BB : Below w.heap.size w ((w.alloc (.cells #[.int .i64 p.number, .string p.first, .string p.last, .int .i64 p.born, .int .i64 p.zone] 23)).alloc (.cells #[.int .i64 q.number, .string q.first, .string q.last, .int .i64 q.born, .int .i64 q.zone] 23)) := ((Below.refl _ _).alloc (by simp; try omega) _).alloc (by simp; try omega) _
      go_enter Try.func9, Try.ntmps9
      go_wp2_with fail
      refine (szPerson_c p hp (1048576) (by omega) (by have := szP_bd 1048576 p; omega) _).mono ?_
      rintro e w1 ⟨rfl, b1⟩
      replace PA0 := PA0.below b1
      replace PA1 := PA1.below b1
      replace BB := below_next BB (Nat.le_refl _) b1
      have PC0 := PA0
      obtain ⟨cb0, c00, c01, c02, c03, c04⟩ := PC0
      have PC1 := PA1
      obtain ⟨cb1, c10, c11, c12, c13, c14⟩ := PC1
      go_wp2_with fail
      clear c00 c01 c02 c03 c04 cb0 c10 c11 c12 c13 c14 cb1
      refine (szPerson_c q hq (szP (1048576) p) (by omega) (by have := szP_bd 1048576 p; omega) _).mono ?_
      rintro e w2 ⟨rfl, b2⟩
      replace PA0 := PA0.below b2
      replace PA1 := PA1.below b2
      replace BB := below_next BB (Nat.le_refl _) b2
      have PC0 := PA0
      obtain ⟨cb0, c00, c01, c02, c03, c04⟩ := PC0
      have PC1 := PA1
      obtain ⟨cb1, c10, c11, c12, c13, c14⟩ := PC1
      go_wp2_with fail
      clear c00 c01 c02 c03 c04 cb0 c10 c11 c12 c13 c14 cb1
      go_ret
      exact ⟨rfl, BB⟩
    · have hb1 := szP_bd (szP (1048576) p) q
      rw [HVp.out, HVq.out]
      clear HVp
      clear HVq
      have PA0 := perAt_new (w) p 23
      have PA1 : PerAt ((w.alloc (.cells #[.int .i64 p.number, .string p.first, .string p.last, .int .i64 p.born, .int .i64 p.zone] 23)).alloc (.cells #[.int .i64 q.number, .string q.first, .string q.last, .int .i64 q.born, .int .i64 q.zone] 23)) (w.heap.size + 1) q := by simpa only [World.size_alloc] using perAt_new (w.alloc (.cells #[.int .i64 p.number, .string p.first, .string p.last, .int .i64 p.born, .int .i64 p.zone] 23)) q 23
      replace PA0 := PA0.alloc (.cells #[.int .i64 q.number, .string q.first, .string q.last, .int .i64 q.born, .int .i64 q.zone] 23)
      have BB : Below w.heap.size w ((w.alloc (.cells #[.int .i64 p.number, .string p.first, .string p.last, .int .i64 p.born, .int .i64 p.zone] 23)).alloc (.cells #[.int .i64 q.number, .string q.first, .string q.last, .int .i64 q.born, .int .i64 q.zone] 23)) := ((Below.refl _ _).alloc (by simp; try omega) _).alloc (by simp; try omega) _
      go_enter Try.func9, Try.ntmps9
      go_wp2_with fail
      refine (szPerson_c p hp (1048576) (by omega) (by omega) _).mono ?_
      rintro e w1 ⟨rfl, b1⟩
      replace PA0 := PA0.below b1
      replace PA1 := PA1.below b1
      replace BB := below_next BB (Nat.le_refl _) b1
      have PC0 := PA0
      obtain ⟨cb0, c00, c01, c02, c03, c04⟩ := PC0
      have PC1 := PA1
      obtain ⟨cb1, c10, c11, c12, c13, c14⟩ := PC1
      go_wp2_with fail
      clear c00 c01 c02 c03 c04 cb0 c10 c11 c12 c13 c14 cb1
      refine (szPerson_c q hq (szP (1048576) p) (by omega) (by omega) _).mono ?_
      rintro e w2 ⟨rfl, b2⟩
      replace PA0 := PA0.below b2
      replace PA1 := PA1.below b2
      replace BB := below_next BB (Nat.le_refl _) b2
      have PC0 := PA0
      obtain ⟨cb0, c00, c01, c02, c03, c04⟩ := PC0
      have PC1 := PA1
      obtain ⟨cb1, c10, c11, c12, c13, c14⟩ := PC1
      go_wp2_with fail
      clear c00 c01 c02 c03 c04 cb0 c10 c11 c12 c13 c14 cb1
      have PC0 := PA0
      obtain ⟨cb0, c00, c01, c02, c03, c04⟩ := PC0
      have PC1 := PA1
      obtain ⟨cb1, c10, c11, c12, c13, c14⟩ := PC1
      refine region_ext (by kernel_rfl) (by kernel_rfl) ?_
      repeat (go_big_quiet_step ((first | with_reducible_and_instances exact ext_call (toPerson_l p _) | with_reducible_and_instances exact ext_call (toPerson_l q _) | with_reducible_and_instances exact ext_call (spec_AreAlike_bad1 p hp q hq l kp _))))
      refine wpQuiet_nil ?_
      rintro _ ⟨nx3, rfl⟩
      clear c00 c01 c02 c03 c04 cb0 c10 c11 c12 c13 c14 cb1
      have b3 := ext_below _ nx3
      generalize extW _ nx3 = w3 at *
      replace PA0 := PA0.below b3
      replace PA1 := PA1.below b3
      replace BB := below_next BB (Nat.le_refl _) b3
      have PC0 := PA0
      obtain ⟨cb0, c00, c01, c02, c03, c04⟩ := PC0
      have PC1 := PA1
      obtain ⟨cb1, c10, c11, c12, c13, c14⟩ := PC1
      go_wp2_with fail
      clear c00 c01 c02 c03 c04 cb0 c10 c11 c12 c13 c14 cb1
      have PC0 := PA0
      obtain ⟨cb0, c00, c01, c02, c03, c04⟩ := PC0
      have PC1 := PA1
      obtain ⟨cb1, c10, c11, c12, c13, c14⟩ := PC1
      refine region_ext (by kernel_rfl) (by kernel_rfl) ?_
      repeat (go_big_quiet_step ((first | with_reducible_and_instances exact ext_call (toPerson_l p _) | with_reducible_and_instances exact ext_call (toPerson_l q _) | with_reducible_and_instances exact ext_call (impl_AreAlike_bad1 p hp q hq l kp _))))
      refine wpQuiet_nil ?_
      rintro _ ⟨nx4, rfl⟩
      clear c00 c01 c02 c03 c04 cb0 c10 c11 c12 c13 c14 cb1
      have b4 := ext_below _ nx4
      generalize extW _ nx4 = w4 at *
      replace PA0 := PA0.below b4
      replace PA1 := PA1.below b4
      replace BB := below_next BB (Nat.le_refl _) b4
      have PC0 := PA0
      obtain ⟨cb0, c00, c01, c02, c03, c04⟩ := PC0
      have PC1 := PA1
      obtain ⟨cb1, c10, c11, c12, c13, c14⟩ := PC1
      go_wp2_with fail
      clear c00 c01 c02 c03 c04 cb0 c10 c11 c12 c13 c14 cb1
      go_ret
      exact ⟨rfl, BB⟩
set_option maxHeartbeats 1000000 in
theorem wk_FnExactAreAlike_bad2 (p : Per) (hp : PerFit p) (q : Per) (hq : PerFit q) (l : Int) (w : World) (kp : perB p = true) (kq : perB q = false) :
    Calls Try.prog 9 #[perV p, perV q, .int .i64 l] w fun e w' => e = .returned (.bool true) ∧ Below w.heap.size w w' := by
  have HVp : Hid (perV p = .agg #[.int .i64 p.number, .string p.first, .string p.last, .int .i64 p.born, .int .i64 p.zone]) := Lib.hid rfl
  have HVq : Hid (perV q = .agg #[.int .i64 q.number, .string q.first, .string q.last, .int .i64 q.born, .int .i64 q.zone]) := Lib.hid rfl
  by_cases hs0 : szP (1048576) p < 0
  · rw [HVp.out, HVq.out]
    clear HVp
    clear HVq
    have PA0 := perAt_new (w) p 23
    have PA1 : PerAt ((w.alloc (.cells #[.int .i64 p.number, .string p.first, .string p.last, .int .i64 p.born, .int .i64 p.zone] 23)).alloc (.cells #[.int .i64 q.number, .string q.first, .string q.last, .int .i64 q.born, .int .i64 q.zone] 23)) (w.heap.size + 1) q := by simpa only [World.size_alloc] using perAt_new (w.alloc (.cells #[.int .i64 p.number, .string p.first, .string p.last, .int .i64 p.born, .int .i64 p.zone] 23)) q 23
    replace PA0 := PA0.alloc (.cells #[.int .i64 q.number, .string q.first, .string q.last, .int .i64 q.born, .int .i64 q.zone] 23)
    have BB : Below w.heap.size w ((w.alloc (.cells #[.int .i64 p.number, .string p.first, .string p.last, .int .i64 p.born, .int .i64 p.zone] 23)).alloc (.cells #[.int .i64 q.number, .string q.first, .string q.last, .int .i64 q.born, .int .i64 q.zone] 23)) := ((Below.refl _ _).alloc (by simp; try omega) _).alloc (by simp; try omega) _
    go_enter Try.func9, Try.ntmps9
    go_wp2_with fail
    refine (szPerson_c p hp (1048576) (by omega) (by have := szP_bd 1048576 p; omega) _).mono ?_
    rintro e w1 ⟨rfl, b1⟩
    replace PA0 := PA0.below b1
    replace PA1 := PA1.below b1
    replace BB := below_next BB (Nat.le_refl _) b1
    have PC0 := PA0
    obtain ⟨cb0, c00, c01, c02, c03, c04⟩ := PC0
    have PC1 := PA1
    obtain ⟨cb1, c10, c11, c12, c13, c14⟩ := PC1
    go_wp2_with fail
    clear c00 c01 c02 c03 c04 cb0 c10 c11 c12 c13 c14 cb1
    go_ret
    exact ⟨rfl, BB⟩
  · have hb0 := szP_bd (1048576) p
    by_cases hs1 : szP (szP (1048576) p) q < 0
    · rw [HVp.out, HVq.out]
      clear HVp
      clear HVq
      have PA0 := perAt_new (w) p 23
      have PA1 : PerAt ((w.alloc (.cells #[.int .i64 p.number, .string p.first, .string p.last, .int .i64 p.born, .int .i64 p.zone] 23)).alloc (.cells #[.int .i64 q.number, .string q.first, .string q.last, .int .i64 q.born, .int .i64 q.zone] 23)) (w.heap.size + 1) q := by simpa only [World.size_alloc] using perAt_new (w.alloc (.cells #[.int .i64 p.number, .string p.first, .string p.last, .int .i64 p.born, .int .i64 p.zone] 23)) q 23
      replace PA0 := PA0.alloc (.cells #[.int .i64 q.number, .string q.first, .string q.last, .int .i64 q.born, .int .i64 q.zone] 23)
      have BB : Below w.heap.size w ((w.alloc (.cells #[.int .i64 p.number, .string p.first, .string p.last, .int .i64 p.born, .int .i64 p.zone] 23)).alloc (.cells #[.int .i64 q.number, .string q.first, .string q.last, .int .i64 q.born, .int .i64 q.zone] 23)) := ((Below.refl _ _).alloc (by simp; try omega) _).alloc (by simp; try omega) _
      go_enter Try.func9, Try.ntmps9
      go_wp2_with fail
      refine (szPerson_c p hp (1048576) (by omega) (by have := szP_bd 1048576 p; omega) _).mono ?_
      rintro e w1 ⟨rfl, b1⟩
      replace PA0 := PA0.below b1
      replace PA1 := PA1.below b1
      replace BB := below_next BB (Nat.le_refl _) b1
      have PC0 := PA0
      obtain ⟨cb0, c00, c01, c02, c03, c04⟩ := PC0
      have PC1 := PA1
      obtain ⟨cb1, c10, c11, c12, c13, c14⟩ := PC1
      go_wp2_with fail
      clear c00 c01 c02 c03 c04 cb0 c10 c11 c12 c13 c14 cb1
      refine (szPerson_c q hq (szP (1048576) p) (by omega) (by have := szP_bd 1048576 p; omega) _).mono ?_
      rintro e w2 ⟨rfl, b2⟩
      replace PA0 := PA0.below b2
      replace PA1 := PA1.below b2
      replace BB := below_next BB (Nat.le_refl _) b2
      have PC0 := PA0
      obtain ⟨cb0, c00, c01, c02, c03, c04⟩ := PC0
      have PC1 := PA1
      obtain ⟨cb1, c10, c11, c12, c13, c14⟩ := PC1
      go_wp2_with fail
      clear c00 c01 c02 c03 c04 cb0 c10 c11 c12 c13 c14 cb1
      go_ret
      exact ⟨rfl, BB⟩
    · have hb1 := szP_bd (szP (1048576) p) q
      rw [HVp.out, HVq.out]
      clear HVp
      clear HVq
      have PA0 := perAt_new (w) p 23
      have PA1 : PerAt ((w.alloc (.cells #[.int .i64 p.number, .string p.first, .string p.last, .int .i64 p.born, .int .i64 p.zone] 23)).alloc (.cells #[.int .i64 q.number, .string q.first, .string q.last, .int .i64 q.born, .int .i64 q.zone] 23)) (w.heap.size + 1) q := by simpa only [World.size_alloc] using perAt_new (w.alloc (.cells #[.int .i64 p.number, .string p.first, .string p.last, .int .i64 p.born, .int .i64 p.zone] 23)) q 23
      replace PA0 := PA0.alloc (.cells #[.int .i64 q.number, .string q.first, .string q.last, .int .i64 q.born, .int .i64 q.zone] 23)
      have BB : Below w.heap.size w ((w.alloc (.cells #[.int .i64 p.number, .string p.first, .string p.last, .int .i64 p.born, .int .i64 p.zone] 23)).alloc (.cells #[.int .i64 q.number, .string q.first, .string q.last, .int .i64 q.born, .int .i64 q.zone] 23)) := ((Below.refl _ _).alloc (by simp; try omega) _).alloc (by simp; try omega) _
      go_enter Try.func9, Try.ntmps9
      go_wp2_with fail
      refine (szPerson_c p hp (1048576) (by omega) (by omega) _).mono ?_
      rintro e w1 ⟨rfl, b1⟩
      replace PA0 := PA0.below b1
      replace PA1 := PA1.below b1
      replace BB := below_next BB (Nat.le_refl _) b1
      have PC0 := PA0
      obtain ⟨cb0, c00, c01, c02, c03, c04⟩ := PC0
      have PC1 := PA1
      obtain ⟨cb1, c10, c11, c12, c13, c14⟩ := PC1
      go_wp2_with fail
      clear c00 c01 c02 c03 c04 cb0 c10 c11 c12 c13 c14 cb1
      refine (szPerson_c q hq (szP (1048576) p) (by omega) (by omega) _).mono ?_
      rintro e w2 ⟨rfl, b2⟩
      replace PA0 := PA0.below b2
      replace PA1 := PA1.below b2
      replace BB := below_next BB (Nat.le_refl _) b2
      have PC0 := PA0
      obtain ⟨cb0, c00, c01, c02, c03, c04⟩ := PC0
      have PC1 := PA1
      obtain ⟨cb1, c10, c11, c12, c13, c14⟩ := PC1
      go_wp2_with fail
      clear c00 c01 c02 c03 c04 cb0 c10 c11 c12 c13 c14 cb1
      have PC0 := PA0
      obtain ⟨cb0, c00, c01, c02, c03, c04⟩ := PC0
      have PC1 := PA1
      obtain ⟨cb1, c10, c11, c12, c13, c14⟩ := PC1
      refine region_ext (by kernel_rfl) (by kernel_rfl) ?_
      repeat (go_big_quiet_step ((first | with_reducible_and_instances exact ext_call (toPerson_l p _) | with_reducible_and_instances exact ext_call (toPerson_l q _) | with_reducible_and_instances exact ext_call (spec_AreAlike_bad2 p hp q hq l kp kq _))))
      refine wpQuiet_nil ?_
      rintro _ ⟨nx3, rfl⟩
      clear c00 c01 c02 c03 c04 cb0 c10 c11 c12 c13 c14 cb1
      have b3 := ext_below _ nx3
      generalize extW _ nx3 = w3 at *
      replace PA0 := PA0.below b3
      replace PA1 := PA1.below b3
      replace BB := below_next BB (Nat.le_refl _) b3
      have PC0 := PA0
      obtain ⟨cb0, c00, c01, c02, c03, c04⟩ := PC0
      have PC1 := PA1
      obtain ⟨cb1, c10, c11, c12, c13, c14⟩ := PC1
      go_wp2_with fail
      clear c00 c01 c02 c03 c04 cb0 c10 c11 c12 c13 c14 cb1
      have PC0 := PA0
      obtain ⟨cb0, c00, c01, c02, c03, c04⟩ := PC0
      have PC1 := PA1
      obtain ⟨cb1, c10, c11, c12, c13, c14⟩ := PC1
      refine region_ext (by kernel_rfl) (by kernel_rfl) ?_
      repeat (go_big_quiet_step ((first | with_reducible_and_instances exact ext_call (toPerson_l p _) | with_reducible_and_instances exact ext_call (toPerson_l q _) | with_reducible_and_instances exact ext_call (impl_AreAlike_bad2 p hp q hq l kp kq _))))
      refine wpQuiet_nil ?_
      rintro _ ⟨nx4, rfl⟩
      clear c00 c01 c02 c03 c04 cb0 c10 c11 c12 c13 c14 cb1
      have b4 := ext_below _ nx4
      generalize extW _ nx4 = w4 at *
      replace PA0 := PA0.below b4
      replace PA1 := PA1.below b4
      replace BB := below_next BB (Nat.le_refl _) b4
      have PC0 := PA0
      obtain ⟨cb0, c00, c01, c02, c03, c04⟩ := PC0
      have PC1 := PA1
      obtain ⟨cb1, c10, c11, c12, c13, c14⟩ := PC1
      go_wp2_with fail
      clear c00 c01 c02 c03 c04 cb0 c10 c11 c12 c13 c14 cb1
      go_ret
      exact ⟨rfl, BB⟩
theorem wk_FnExactAreAlike (p : Per) (hp : PerFit p) (q : Per) (hq : PerFit q) (l : Int) (w : World) :
    Calls Try.prog 9 #[perV p, perV q, .int .i64 l] w fun e w' => e = .returned (.bool true) ∧ Below w.heap.size w w' := by
  cases kp : perB p
  · exact wk_FnExactAreAlike_bad1 p hp q hq l w kp
  · cases kq : perB q
    · exact wk_FnExactAreAlike_bad2 p hp q hq l w kp kq
    · by_cases hl : 0 ≤ l ∧ l ≤ 100
      · exact wk_FnExactAreAlike_ok p hp q hq l w kp kq hl
      · exact wk_FnExactAreAlike_range p hp q hq l w kp kq (by omega)
end Go.Proofs.Ytljokafenjhbmaa
