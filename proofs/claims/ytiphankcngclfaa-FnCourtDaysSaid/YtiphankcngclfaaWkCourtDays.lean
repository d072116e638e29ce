/-
  The walk of FnCourtDays. Conditions: none but that the code reads as bytes.
-/
import Derived.Test.YtiphankcngclfaaDrawDay
import Derived.Test.YtiphankcngclfaaDayLaws
import Derived.Test.YtiphankcngclfaaBig
namespace Go.Proofs.Ytiphankcngclfaa
open Go.RowKit
set_option linter.unusedVariables false

set_option maxRecDepth 100000 in
set_option maxHeartbeats 8000000 in
theorem wk_FnCourtDays {v : Value} {bs : List Int} {w : World} (h : Bytes w v bs) (hf : BytesFit bs) :
    Calls Try.prog 12 #[v] w fun e w' => e = .returned (.bool true) ∧ Below w.heap.size w w' := by
  by_cases hbig : 4096 < bs.length
  · go_enter Try.func12, Try.ntmps12
    go_wp2_with fail
    refine (big_yes h hbig).mono ?_
    rintro e w' ⟨rfl, rfl⟩
    go_wp2_with fail
    go_ret
    exact ⟨rfl, Below.refl _ _⟩
  · have BB : Below w.heap.size w w := Below.refl _ _
    have hsm : bs.length ≤ 4096 := by omega
    clear hbig
    go_enter Try.func12, Try.ntmps12
    go_wp2_with fail
    refine (big_no h hsm).mono ?_
    rintro e w' ⟨rfl, rfl⟩
    clear hsm
    go_wp2_with fail
    refine (DrawAddCourtDays_c (h.below BB) hf).mono ?_
    rintro e w1 ⟨vh, xs, d, n, rfl, ho, hd, q1⟩
    replace BB := below_next BB (Nat.le_refl _) q1
    clear q1
    have ih := Ints.own ho
    clear ho
    replace hd := Lib.hid hd
    have H1 := fun (w : World) (h : Ints w vh xs) => impl_Ad d n h
    have H2 := fun (w : World) (h : Ints w vh xs) => spec_Ad d n h
    generalize hA : (adP xs d n).1 = A at H1 H2
    replace hA := Lib.hid hA
    generalize hc1 : (adP xs d n).2 = c1 at H1 H2
    replace hc1 := Lib.hid hc1
    replace H1 := Lib.hid H1
    replace H2 := Lib.hid H2
    go_wp2_with fail
    refine (H1.out _ ih).mono ?_
    rintro e w2 ⟨rfl, q2⟩
    replace BB := below_next BB (Nat.le_refl _) q2
    replace ih := ih.below q2
    clear q2
    go_wp2_with fail
    refine (H2.out _ ih).mono ?_
    rintro e w3 ⟨rfl, q3⟩
    replace BB := below_next BB (Nat.le_refl _) q3
    replace ih := ih.below q3
    clear q3
    clear H1 H2
    go_wp2_with fail
    refine (DrawCountCourtDays_c (h.below BB) hf).mono ?_
    rintro e w4 ⟨vg, ys, f, t, rfl, ho, hx, q4⟩
    replace BB := below_next BB (Nat.le_refl _) q4
    replace ih := ih.below q4
    clear q4
    have ig := Ints.own ho
    clear ho
    replace hx := Lib.hid hx
    have H1 := fun (w : World) (h : Ints w vg ys) => impl_Ct f t h
    have H2 := fun (w : World) (h : Ints w vg ys) => spec_Ct f t h
    generalize hC : (ctP ys f t).1 = C at H1 H2
    replace hC := Lib.hid hC
    generalize hc2 : (ctP ys f t).2 = c2 at H1 H2
    replace hc2 := Lib.hid hc2
    replace H1 := Lib.hid H1
    replace H2 := Lib.hid H2
    go_wp2_with fail
    refine (H1.out _ ig).mono ?_
    rintro e w5 ⟨rfl, q5⟩
    replace BB := below_next BB (Nat.le_refl _) q5
    replace ih := ih.below q5
    replace ig := ig.below q5
    clear q5
    go_wp2_with fail
    refine (H2.out _ ig).mono ?_
    rintro e w6 ⟨rfl, q6⟩
    replace BB := below_next BB (Nat.le_refl _) q6
    replace ih := ih.below q6
    replace ig := ig.below q6
    clear q6
    clear H1 H2
    clear ig
    go_wp2_with fail
    refine (DrawIsCourtDay_c (h.below BB) hf).mono ?_
    rintro e w7 ⟨vx, zs, y, rfl, ho, hy, q7⟩
    replace BB := below_next BB (Nat.le_refl _) q7
    replace ih := ih.below q7
    clear q7
    have ix := Ints.own ho
    clear ho
    replace hy := Lib.hid hy
    have H1 := fun (w : World) (h : Ints w vx zs) => impl_Ic y h
    have H2 := fun (w : World) (h : Ints w vx zs) => spec_Ic y h
    generalize hI : icP zs y = I at H1 H2
    replace hI := Lib.hid hI
    generalize hc3 : dcode zs [y] = c3 at H1 H2
    replace hc3 := Lib.hid hc3
    replace H1 := Lib.hid H1
    replace H2 := Lib.hid H2
    go_wp2_with fail
    refine (H1.out _ ix).mono ?_
    rintro e w8 ⟨rfl, q8⟩
    replace BB := below_next BB (Nat.le_refl _) q8
    replace ih := ih.below q8
    replace ix := ix.below q8
    clear q8
    go_wp2_with fail
    refine (H2.out _ ix).mono ?_
    rintro e w9 ⟨rfl, q9⟩
    replace BB := below_next BB (Nat.le_refl _) q9
    replace ih := ih.below q9
    replace ix := ix.below q9
    clear q9
    clear H1 H2
    go_wp2_with fail
    refine (quiet_below (impl_AreHolidays ix)).mono ?_
    rintro e w10 ⟨rfl, q10⟩
    replace BB := below_next BB (Nat.le_refl _) q10
    replace ih := ih.below q10
    replace ix := ix.below q10
    clear q10
    go_wp2_with fail
    refine (quiet_below (spec_AreHolidays ix)).mono ?_
    rintro e w11 ⟨rfl, q11⟩
    replace BB := below_next BB (Nat.le_refl _) q11
    replace ih := ih.below q11
    replace ix := ix.below q11
    clear q11
    clear ix
    by_cases qc1 : c1 = 0
    · have c1a : (c1 == 0) = true := by simpa using qc1
      have c1b : (c1 != 0) = false := by simpa using qc1
      replace qc1 := Lib.hid qc1
      have hb := ad_ok (xs := xs) (d := d) (n := n) (by rw [hc1.out]; exact qc1.out)
      rw [hA.out] at hb
      obtain ⟨k0, k1, k2⟩ := hb
      by_cases hn : n = 0
      · have hn1 : (n == 0) = true := by simpa using hn
        have hAd : (A == d) = true := by simpa using k1 hn
        clear k1 k2 k0 hn
        go_wp2_with fail
        go_ret
        exact ⟨rfl, BB⟩
      · have hn1 : (n == 0) = false := by simpa using hn
        obtain ⟨j0, j1, j2⟩ := k2 hn
        have HA := impl_Ic A ih
        rw [ic_yes j0 j1, j0] at HA
        have HD := fun (w : World) (h : Ints w vh xs) => impl_Ic d h
        have HC := fun (w : World) (h : Ints w vh xs) => impl_Ct d A h
        have hdd := hd.out
        obtain ⟨_, _, hn2, hn3⟩ := hdd
        clear k1 k2 hn
        replace HA := Lib.hid HA
        replace j0 := Lib.hid j0
        replace j1 := Lib.hid j1
        cases hcd : courtB xs d
        · have HE : Hid (∀ (w : World), Ints w vh xs → Calls Try.prog 15 #[vh, .int .i64 d] w fun e w' => e = .returned (.tuple #[.bool false, .int .i64 0]) ∧ Below w.heap.size w w') := Lib.hid fun w h => by have := HD w h; rw [icP, if_pos k0, k0, hcd] at this; exact this
          have HF : Hid (∀ (w : World), Ints w vh xs → Calls Try.prog 20 #[vh, .int .i64 d, .int .i64 A] w fun e w' => e = .returned (.tuple #[.int .i64 (n - 1), .int .i64 0]) ∧ Below w.heap.size w w') := Lib.hid fun w h => by have := HC w h; rw [j2, hcd] at this; simpa using this
          clear HD HC j2 hcd k0
          go_wp2_with fail
          refine (HA.out).mono ?_
          rintro e w12 ⟨rfl, q12⟩
          replace BB := below_next BB (Nat.le_refl _) q12
          replace ih := ih.below q12
          clear q12
          clear HA
          go_wp2_with fail
          refine (HE.out _ ih).mono ?_
          rintro e w13 ⟨rfl, q13⟩
          replace BB := below_next BB (Nat.le_refl _) q13
          replace ih := ih.below q13
          clear q13
          go_wp2_with fail
          refine (HF.out _ ih).mono ?_
          rintro e w14 ⟨rfl, q14⟩
          replace BB := below_next BB (Nat.le_refl _) q14
          replace ih := ih.below q14
          clear q14
          clear HE HF
          have hself : (n - 1 == n - 1) = true := by simp
          go_wp2_with fail
          go_ret
          exact ⟨rfl, BB⟩
        · have HE : Hid (∀ (w : World), Ints w vh xs → Calls Try.prog 15 #[vh, .int .i64 d] w fun e w' => e = .returned (.tuple #[.bool true, .int .i64 0]) ∧ Below w.heap.size w w') := Lib.hid fun w h => by have := HD w h; rw [icP, if_pos k0, k0, hcd] at this; exact this
          have HF : Hid (∀ (w : World), Ints w vh xs → Calls Try.prog 20 #[vh, .int .i64 d, .int .i64 A] w fun e w' => e = .returned (.tuple #[.int .i64 (n), .int .i64 0]) ∧ Below w.heap.size w w') := Lib.hid fun w h => by have := HC w h; rw [j2, hcd] at this; simpa using this
          clear HD HC j2 hcd k0
          go_wp2_with fail
          refine (HA.out).mono ?_
          rintro e w15 ⟨rfl, q15⟩
          replace BB := below_next BB (Nat.le_refl _) q15
          replace ih := ih.below q15
          clear q15
          clear HA
          go_wp2_with fail
          refine (HE.out _ ih).mono ?_
          rintro e w16 ⟨rfl, q16⟩
          replace BB := below_next BB (Nat.le_refl _) q16
          replace ih := ih.below q16
          clear q16
          go_wp2_with fail
          refine (HF.out _ ih).mono ?_
          rintro e w17 ⟨rfl, q17⟩
          replace BB := below_next BB (Nat.le_refl _) q17
          replace ih := ih.below q17
          clear q17
          clear HE HF
          have hself : (n - 1 == n - 1) = true := by simp
          go_wp2_with fail
          go_ret
          exact ⟨rfl, BB⟩
    · have c1a : (c1 == 0) = false := by simpa using qc1
      have c1b : (c1 != 0) = true := by simpa using qc1
      replace qc1 := Lib.hid qc1
      go_wp2_with fail
      go_ret
      exact ⟨rfl, BB⟩
end Go.Proofs.Ytiphankcngclfaa
