/-
  The walk of FnBreaks. Conditions: none but that the code reads as bytes.
-/
import Derived.Test.YtiphankcngclfaaDrawDay
import Derived.Test.YtiphankcngclfaaDayLaws
import Derived.Test.YtiphankcngclfaaBig
namespace Go.Proofs.Ytiphankcngclfaa
open Go.RowKit
set_option linter.unusedVariables false

set_option maxRecDepth 100000 in
set_option maxHeartbeats 4000000 in
theorem wk_FnBreaks {v : Value} {bs : List Int} {w : World} (h : Bytes w v bs) (hf : BytesFit bs) :
    Calls Try.prog 10 #[v] w fun e w' => e = .returned (.bool true) ∧ Below w.heap.size w w' := by
  by_cases hbig : 4096 < bs.length
  · go_enter Try.func10, Try.ntmps10
    go_wp2_with fail
    refine (big_yes h hbig).mono ?_
    rintro e w' ⟨rfl, rfl⟩
    go_wp2_with fail
    go_ret
    exact ⟨rfl, Below.refl _ _⟩
  · have BB : Below w.heap.size w w := Below.refl _ _
    have hsm : bs.length ≤ 4096 := by omega
    clear hbig
    go_enter Try.func10, Try.ntmps10
    go_wp2_with fail
    refine (big_no h hsm).mono ?_
    rintro e w' ⟨rfl, rfl⟩
    clear hsm
    go_wp2_with fail
    refine (DrawLongestBreak_c (h.below BB) hf).mono ?_
    rintro e w1 ⟨vh, xs, a, b, rfl, ho, hd, q1⟩
    replace BB := below_next BB (Nat.le_refl _) q1
    clear q1
    have ih := Ints.own ho
    clear ho
    replace hd := Lib.hid hd
    have H1 := fun (w : World) (h : Ints w vh xs) => impl_Bk a b h
    have H2 := fun (w : World) (h : Ints w vh xs) => spec_Bk a b h
    generalize hF : (bkP xs a b).1 = F at H1 H2
    replace hF := Lib.hid hF
    generalize hN : (bkP xs a b).2.1 = N at H1 H2
    replace hN := Lib.hid hN
    generalize hc1 : (bkP xs a b).2.2 = c1 at H1 H2
    replace hc1 := Lib.hid hc1
    replace H1 := Lib.hid H1
    replace H2 := Lib.hid H2
    go_wp2_with fail
    refine (H1.out _ ih).mono ?_
    rintro e w2 ⟨rfl, q2⟩
    replace BB := below_next BB (Nat.le_refl _) q2
    replace ih := ih.below q2
    clear q2
    go_wp2_with fail
    refine (H2.out _ ih).mono ?_
    rintro e w3 ⟨rfl, q3⟩
    replace BB := below_next BB (Nat.le_refl _) q3
    replace ih := ih.below q3
    clear q3
    clear H1 H2
    by_cases qc1 : c1 = 0
    · have c1a : (c1 == 0) = true := by simpa using qc1
      have c1b : (c1 != 0) = false := by simpa using qc1
      replace qc1 := Lib.hid qc1
      have hb := bk_ok (xs := xs) (a := a) (b := b) (by rw [hc1.out]; exact qc1.out)
      rw [hF.out, hN.out] at hb
      obtain ⟨g0, ⟨ga, gb⟩, gN, gF, gE, gn, gl, gr⟩ := hb
      replace g0 := Lib.hid g0
      replace gn := Lib.hid gn
      replace gl := Lib.hid gl
      replace gr := Lib.hid gr
      have hd1 := Lib.hid hd.out.1
      have hcount := impl_Ct F (F + N) ih
      by_cases hbig : 20000 < F + N
      · have hq : Hid (Calls Try.prog 20 #[vh, .int .i64 F, .int .i64 (F + N)] _ _) := Lib.hid hcount
        clear hcount
        generalize (ctP xs F (F + N)).1 = z1 at hq
        generalize (ctP xs F (F + N)).2 = z2 at hq
        go_wp2_with fail
        refine (hq.out).mono ?_
        rintro e w4 ⟨rfl, q4⟩
        replace BB := below_next BB (Nat.le_refl _) q4
        replace ih := ih.below q4
        clear q4
        have hr' : b < F + N := by omega
        by_cases hh : a < F
        · skip
          have hL := impl_Ic (F - 1) ih
          rw [ic_yes (dcode_sub g0.out (by simp; omega)) (gl.out hh), dcode_sub g0.out (es := [F - 1]) (by simp; omega)] at hL
          replace hL := Lib.hid hL
          go_wp2_with fail
          refine (hL.out).mono ?_
          rintro e w5 ⟨rfl, q5⟩
          replace BB := below_next BB (Nat.le_refl _) q5
          replace ih := ih.below q5
          clear q5
          go_wp2_with fail
          go_ret
          exact ⟨rfl, BB⟩
        · skip
          go_wp2_with fail
          go_ret
          exact ⟨rfl, BB⟩
      · rw [ct_zero (dcode_sub g0.out (by simp; omega)) (by omega) gn.out] at hcount
        have hq := Lib.hid hcount
        clear hcount
        go_wp2_with fail
        refine (hq.out).mono ?_
        rintro e w6 ⟨rfl, q6⟩
        replace BB := below_next BB (Nat.le_refl _) q6
        replace ih := ih.below q6
        clear q6
        by_cases hh : a < F
        · skip
          have hL := impl_Ic (F - 1) ih
          rw [ic_yes (dcode_sub g0.out (by simp; omega)) (gl.out hh), dcode_sub g0.out (es := [F - 1]) (by simp; omega)] at hL
          replace hL := Lib.hid hL
          go_wp2_with fail
          refine (hL.out).mono ?_
          rintro e w7 ⟨rfl, q7⟩
          replace BB := below_next BB (Nat.le_refl _) q7
          replace ih := ih.below q7
          clear q7
          by_cases hr : F + N ≤ b
          · skip
            have hR := impl_Ic (F + N) ih
            rw [ic_yes (dcode_sub g0.out (by simp; omega)) (gr.out hr), dcode_sub g0.out (es := [F + N]) (by simp; omega)] at hR
            replace hR := Lib.hid hR
            go_wp2_with fail
            refine (hR.out).mono ?_
            rintro e w8 ⟨rfl, q8⟩
            replace BB := below_next BB (Nat.le_refl _) q8
            replace ih := ih.below q8
            clear q8
            go_wp2_with fail
            go_ret
            exact ⟨rfl, BB⟩
          · have hr' : b < F + N := by omega
            go_wp2_with fail
            go_ret
            exact ⟨rfl, BB⟩
        · skip
          by_cases hr : F + N ≤ b
          · skip
            have hR := impl_Ic (F + N) ih
            rw [ic_yes (dcode_sub g0.out (by simp; omega)) (gr.out hr), dcode_sub g0.out (es := [F + N]) (by simp; omega)] at hR
            replace hR := Lib.hid hR
            go_wp2_with fail
            refine (hR.out).mono ?_
            rintro e w9 ⟨rfl, q9⟩
            replace BB := below_next BB (Nat.le_refl _) q9
            replace ih := ih.below q9
            clear q9
            go_wp2_with fail
            go_ret
            exact ⟨rfl, BB⟩
          · have hr' : b < F + N := by omega
            go_wp2_with fail
            go_ret
            exact ⟨rfl, BB⟩
    · have c1a : (c1 == 0) = false := by simpa using qc1
      have c1b : (c1 != 0) = true := by simpa using qc1
      replace qc1 := Lib.hid qc1
      go_wp2_with fail
      go_ret
      exact ⟨rfl, BB⟩
end Go.Proofs.Ytiphankcngclfaa
