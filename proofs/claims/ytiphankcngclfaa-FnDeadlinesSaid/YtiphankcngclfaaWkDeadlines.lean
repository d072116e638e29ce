/-
  The walk of FnDeadlines. Conditions: none but that the code reads as bytes.
-/
import Derived.Test.YtiphankcngclfaaDrawDay
import Derived.Test.YtiphankcngclfaaDayLaws
import Derived.Test.YtiphankcngclfaaBig
namespace Go.Proofs.Ytiphankcngclfaa
open Go.RowKit
set_option linter.unusedVariables false

set_option maxRecDepth 100000 in
set_option maxHeartbeats 8000000 in
theorem wk_FnDeadlines {v : Value} {bs : List Int} {w : World} (h : Bytes w v bs) (hf : BytesFit bs) :
    Calls Try.prog 11 #[v] w fun e w' => e = .returned (.bool true) ∧ Below w.heap.size w w' := by
  by_cases hbig : 4096 < bs.length
  · go_enter Try.func11, Try.ntmps11
    go_wp2_with fail
    refine (big_yes h hbig).mono ?_
    rintro e w' ⟨rfl, rfl⟩
    go_wp2_with fail
    go_ret
    exact ⟨rfl, Below.refl _ _⟩
  · have BB : Below w.heap.size w w := Below.refl _ _
    have hsm : bs.length ≤ 4096 := by omega
    clear hbig
    go_enter Try.func11, Try.ntmps11
    go_wp2_with fail
    refine (big_no h hsm).mono ?_
    rintro e w' ⟨rfl, rfl⟩
    clear hsm
    go_wp2_with fail
    refine (DrawDeadlineOf_c (h.below BB) hf).mono ?_
    rintro e w1 ⟨vh, xs, d, n, rfl, ho, hd, q1⟩
    replace BB := below_next BB (Nat.le_refl _) q1
    clear q1
    have ih := Ints.own ho
    clear ho
    replace hd := Lib.hid hd
    have H1 := fun (w : World) (h : Ints w vh xs) => impl_Dl d n h
    have H2 := fun (w : World) (h : Ints w vh xs) => spec_Dl d n h
    generalize hD : (dlP xs d n).1 = D at H1 H2
    replace hD := Lib.hid hD
    generalize hc1 : (dlP xs d n).2 = c1 at H1 H2
    replace hc1 := Lib.hid hc1
    replace H1 := Lib.hid H1
    replace H2 := Lib.hid H2
    go_wp2_with fail
    refine (H1.out _ ih).mono ?_
    rintro e w2 ⟨rfl, q2⟩
    replace BB := below_next BB (Nat.le_refl _) q2
    replace ih := ih.below q2
    clear q2
    go_wp2_with fail
    refine (H2.out _ ih).mono ?_
    rintro e w3 ⟨rfl, q3⟩
    replace BB := below_next BB (Nat.le_refl _) q3
    replace ih := ih.below q3
    clear q3
    clear H1 H2
    go_wp2_with fail
    refine (DrawNextCourtDay_c (h.below BB) hf).mono ?_
    rintro e w4 ⟨vg, ys, x, rfl, ho, hx, q4⟩
    replace BB := below_next BB (Nat.le_refl _) q4
    replace ih := ih.below q4
    clear q4
    have ig := Ints.own ho
    clear ho
    replace hx := Lib.hid hx
    have H1 := fun (w : World) (h : Ints w vg ys) => impl_Nx x h
    have H2 := fun (w : World) (h : Ints w vg ys) => spec_Nx x h
    generalize hN : (nxP ys x).1 = N at H1 H2
    replace hN := Lib.hid hN
    generalize hc2 : (nxP ys x).2 = c2 at H1 H2
    replace hc2 := Lib.hid hc2
    replace H1 := Lib.hid H1
    replace H2 := Lib.hid H2
    go_wp2_with fail
    refine (H1.out _ ig).mono ?_
    rintro e w5 ⟨rfl, q5⟩
    replace BB := below_next BB (Nat.le_refl _) q5
    replace ih := ih.below q5
    replace ig := ig.below q5
    clear q5
    go_wp2_with fail
    refine (H2.out _ ig).mono ?_
    rintro e w6 ⟨rfl, q6⟩
    replace BB := below_next BB (Nat.le_refl _) q6
    replace ih := ih.below q6
    replace ig := ig.below q6
    clear q6
    clear H1 H2
    have H1 := fun (w : World) (h : Ints w vg ys) => impl_Ls x h
    have H2 := fun (w : World) (h : Ints w vg ys) => spec_Ls x h
    generalize hL : (lsP ys x).1 = L at H1 H2
    replace hL := Lib.hid hL
    generalize hc3 : (lsP ys x).2 = c3 at H1 H2
    replace hc3 := Lib.hid hc3
    replace H1 := Lib.hid H1
    replace H2 := Lib.hid H2
    go_wp2_with fail
    refine (H1.out _ ig).mono ?_
    rintro e w7 ⟨rfl, q7⟩
    replace BB := below_next BB (Nat.le_refl _) q7
    replace ih := ih.below q7
    replace ig := ig.below q7
    clear q7
    go_wp2_with fail
    refine (H2.out _ ig).mono ?_
    rintro e w8 ⟨rfl, q8⟩
    replace BB := below_next BB (Nat.le_refl _) q8
    replace ih := ih.below q8
    replace ig := ig.below q8
    clear q8
    clear H1 H2
    by_cases qc2 : c2 = 0
    · have c2a : (c2 == 0) = true := by simpa using qc2
      have c2b : (c2 != 0) = false := by simpa using qc2
      replace qc2 := Lib.hid qc2
      by_cases qc3 : c3 = 0
      · have c3a : (c3 == 0) = true := by simpa using qc3
        have c3b : (c3 != 0) = false := by simpa using qc3
        replace qc3 := Lib.hid qc3
        have hb := nx_ok (xs := ys) (d := x) (by rw [hc2.out]; exact qc2.out)
        rw [hN.out] at hb
        have hl := ls_ok (xs := ys) (d := x) (by rw [hc3.out]; exact qc3.out)
        rw [hL.out] at hl
        obtain ⟨k0, k1, k2, k3, k4⟩ := hb
        obtain ⟨_, l1, l2, l3, l4⟩ := hl
        have hx0 := dcode_day k0
        obtain ⟨hx1, hx2⟩ := hx0
        have HC := impl_Ct x N ig
        rw [ct_zero (dcode_sub k0 (by simp; omega)) k2 k4] at HC
        have HD := impl_Ct L x ig
        have hdc : Hid (dcode ys [L, x] = 0) := Lib.hid (dcode_sub k0 (by simp; omega))
        replace k0 := Lib.hid k0
        replace k3 := Lib.hid k3
        replace k4 := Lib.hid k4
        replace l3 := Lib.hid l3
        replace l4 := Lib.hid l4
        replace HC := Lib.hid HC
        by_cases hlx : L < x
        · rw [ct_last hdc.out hlx l3.out l4.out] at HD
          have HD' := fun (w : World) (h : Ints w vg ys) => impl_Ct L x h
          clear HD
          skip
          have HE : Hid (∀ (w : World), Ints w vg ys → Calls Try.prog 20 #[vg, .int .i64 L, .int .i64 x] w fun e w' => e = .returned (.tuple #[.int .i64 1, .int .i64 0]) ∧ Below w.heap.size w w') := Lib.hid fun w h => by have := HD' w h; rw [ct_last hdc.out hlx l3.out l4.out] at this; exact this
          clear HD'
          go_wp2_with fail
          refine (HC.out).mono ?_
          rintro e w9 ⟨rfl, q9⟩
          replace BB := below_next BB (Nat.le_refl _) q9
          replace ih := ih.below q9
          replace ig := ig.below q9
          clear q9
          clear HC
          go_wp2_with fail
          refine (HE.out _ ig).mono ?_
          rintro e w10 ⟨rfl, q10⟩
          replace BB := below_next BB (Nat.le_refl _) q10
          replace ih := ih.below q10
          replace ig := ig.below q10
          clear q10
          clear HE
          by_cases qc1 : c1 = 0
          · have c1a : (c1 == 0) = true := by simpa using qc1
            have c1b : (c1 != 0) = false := by simpa using qc1
            replace qc1 := Lib.hid qc1
            have hb := dl_ok (xs := xs) (d := d) (n := n) (by rw [hc1.out]; exact qc1.out)
            rw [hD.out] at hb
            obtain ⟨k1, k2, k3⟩ := hb
            have hL := impl_Ic D ih
            rw [ic_yes k1 k2, k1] at hL
            have hdd := hd.out
            replace hL := Lib.hid hL
            clear k1 k2
            go_wp2_with fail
            refine (hL.out).mono ?_
            rintro e w11 ⟨rfl, q11⟩
            replace BB := below_next BB (Nat.le_refl _) q11
            replace ih := ih.below q11
            replace ig := ig.below q11
            clear q11
            go_wp2_with fail
            go_ret
            exact ⟨rfl, BB⟩
          · have c1a : (c1 == 0) = false := by simpa using qc1
            have c1b : (c1 != 0) = true := by simpa using qc1
            replace qc1 := Lib.hid qc1
            go_wp2_with fail
            go_ret
            exact ⟨rfl, BB⟩
        · obtain rfl : L = x := by omega
          rw [ct_same hdc.out] at HD
          have HD' := fun (w : World) (h : Ints w vg ys) => impl_Ct L L h
          clear HD
          skip
          have HE : Hid (∀ (w : World), Ints w vg ys → Calls Try.prog 20 #[vg, .int .i64 L, .int .i64 L] w fun e w' => e = .returned (.tuple #[.int .i64 0, .int .i64 0]) ∧ Below w.heap.size w w') := Lib.hid fun w h => by have := HD' w h; rw [ct_same hdc.out] at this; exact this
          clear HD'
          go_wp2_with fail
          refine (HC.out).mono ?_
          rintro e w12 ⟨rfl, q12⟩
          replace BB := below_next BB (Nat.le_refl _) q12
          replace ih := ih.below q12
          replace ig := ig.below q12
          clear q12
          clear HC
          go_wp2_with fail
          refine (HE.out _ ig).mono ?_
          rintro e w13 ⟨rfl, q13⟩
          replace BB := below_next BB (Nat.le_refl _) q13
          replace ih := ih.below q13
          replace ig := ig.below q13
          clear q13
          clear HE
          by_cases qc1 : c1 = 0
          · have c1a : (c1 == 0) = true := by simpa using qc1
            have c1b : (c1 != 0) = false := by simpa using qc1
            replace qc1 := Lib.hid qc1
            have hb := dl_ok (xs := xs) (d := d) (n := n) (by rw [hc1.out]; exact qc1.out)
            rw [hD.out] at hb
            obtain ⟨k1, k2, k3⟩ := hb
            have hL := impl_Ic D ih
            rw [ic_yes k1 k2, k1] at hL
            have hdd := hd.out
            replace hL := Lib.hid hL
            clear k1 k2
            go_wp2_with fail
            refine (hL.out).mono ?_
            rintro e w14 ⟨rfl, q14⟩
            replace BB := below_next BB (Nat.le_refl _) q14
            replace ih := ih.below q14
            replace ig := ig.below q14
            clear q14
            go_wp2_with fail
            go_ret
            exact ⟨rfl, BB⟩
          · have c1a : (c1 == 0) = false := by simpa using qc1
            have c1b : (c1 != 0) = true := by simpa using qc1
            replace qc1 := Lib.hid qc1
            go_wp2_with fail
            go_ret
            exact ⟨rfl, BB⟩
      · have c3a : (c3 == 0) = false := by simpa using qc3
        have c3b : (c3 != 0) = true := by simpa using qc3
        replace qc3 := Lib.hid qc3
        by_cases qc1 : c1 = 0
        · have c1a : (c1 == 0) = true := by simpa using qc1
          have c1b : (c1 != 0) = false := by simpa using qc1
          replace qc1 := Lib.hid qc1
          have hb := dl_ok (xs := xs) (d := d) (n := n) (by rw [hc1.out]; exact qc1.out)
          rw [hD.out] at hb
          obtain ⟨k1, k2, k3⟩ := hb
          have hL := impl_Ic D ih
          rw [ic_yes k1 k2, k1] at hL
          have hdd := hd.out
          replace hL := Lib.hid hL
          clear k1 k2
          go_wp2_with fail
          refine (hL.out).mono ?_
          rintro e w15 ⟨rfl, q15⟩
          replace BB := below_next BB (Nat.le_refl _) q15
          replace ih := ih.below q15
          replace ig := ig.below q15
          clear q15
          go_wp2_with fail
          go_ret
          exact ⟨rfl, BB⟩
        · have c1a : (c1 == 0) = false := by simpa using qc1
          have c1b : (c1 != 0) = true := by simpa using qc1
          replace qc1 := Lib.hid qc1
          go_wp2_with fail
          go_ret
          exact ⟨rfl, BB⟩
    · have c2a : (c2 == 0) = false := by simpa using qc2
      have c2b : (c2 != 0) = true := by simpa using qc2
      replace qc2 := Lib.hid qc2
      by_cases qc1 : c1 = 0
      · have c1a : (c1 == 0) = true := by simpa using qc1
        have c1b : (c1 != 0) = false := by simpa using qc1
        replace qc1 := Lib.hid qc1
        have hb := dl_ok (xs := xs) (d := d) (n := n) (by rw [hc1.out]; exact qc1.out)
        rw [hD.out] at hb
        obtain ⟨k1, k2, k3⟩ := hb
        have hL := impl_Ic D ih
        rw [ic_yes k1 k2, k1] at hL
        have hdd := hd.out
        replace hL := Lib.hid hL
        clear k1 k2
        go_wp2_with fail
        refine (hL.out).mono ?_
        rintro e w16 ⟨rfl, q16⟩
        replace BB := below_next BB (Nat.le_refl _) q16
        replace ih := ih.below q16
        replace ig := ig.below q16
        clear q16
        go_wp2_with fail
        go_ret
        exact ⟨rfl, BB⟩
      · have c1a : (c1 == 0) = false := by simpa using qc1
        have c1b : (c1 != 0) = true := by simpa using qc1
        replace qc1 := Lib.hid qc1
        go_wp2_with fail
        go_ret
        exact ⟨rfl, BB⟩
end Go.Proofs.Ytiphankcngclfaa
