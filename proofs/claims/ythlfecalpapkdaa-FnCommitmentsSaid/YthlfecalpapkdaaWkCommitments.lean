/-
  The walk of FnCommitments. Conditions: none but that the code reads as bytes.
-/
import Derived.Test.YthlfecalpapkdaaDrawRight
import Derived.Test.YthlfecalpapkdaaBig
namespace Go.Proofs.Ythlfecalpapkdaa
open Go.RowKit
set_option linter.unusedVariables false

theorem cmI_is {s t : Int} (h : okC s t) : cmI s t = cm s t := by unfold cmI; rw [if_pos h]
theorem commit_ok {s t x : Int} (h : okC s t) (hx : cm s t = x) (w : World) : Calls Try.prog 40 #[.int .i64 s, .int .i64 t] w fun e w' => e = .returned (.tuple #[.int .i64 x, .int .i64 0]) ∧ w = w' := by
  have := impl_CommitmentOf s t w
  rw [cmI_is h, cod_yes h, hx] at this
  exact this
theorem smp_ok {s n : Int} {xs ys : List Int} (h : okN s n) (hl : (xs.length : Int) ≤ n) (hy : (shufL s n.toNat).take xs.length = ys) (w : World) : Calls Try.prog 21 #[.int .i64 s, .int .i64 n, .int .i64 (xs.length : Int)] w (ListIs ys 0 w) := by
  have q : okS s n (xs.length : Int) := ⟨h, by omega, hl⟩
  have := impl_Smp s n (xs.length : Int) w
  rw [show smL s n (xs.length : Int) = ys by unfold smL; rw [if_pos q, ← hy]; rfl, cod_yes q] at this
  exact this

set_option maxRecDepth 100000 in
set_option maxHeartbeats 4000000 in
theorem wk_FnCommitments {v : Value} {bs : List Int} {w : World} (h : Bytes w v bs) (hf : BytesFit bs) :
    Calls Try.prog 10 #[v] w fun e w' => e = .returned (.bool true) ∧ Below w.heap.size w w' := by
  by_cases hbig : 4096 < bs.length
  · go_enter Try.func10, Try.ntmps10
    go_wp2_with fail
    refine (big_yes h hbig).mono ?_
    rintro e w' ⟨rfl, rfl⟩
    go_wp2_with fail
    go_ret
    exact ⟨rfl, Below.refl _ _⟩
  · have BB : Below w.heap.size w w := Below.refl _ _
    have hsm : bs.length ≤ 4096 := by omega
    clear hbig
    go_enter Try.func10, Try.ntmps10
    go_wp2_with fail
    refine (big_no h hsm).mono ?_
    rintro e w' ⟨rfl, rfl⟩
    clear hsm
    go_wp2_with fail
    refine (DrawIsRightDraw_c (h.below BB) hf).mono ?_
    rintro e w1 ⟨cc, s, t, n, v1, xs, rfl, i1, hxl, q1⟩
    replace BB := below_next BB (Nat.le_refl _) q1
    clear q1
    have H1 := fun (w : World) (h : Ints w v1 xs) => impl_Rd cc s t n h
    have H2 := fun (w : World) (h : Ints w v1 xs) => spec_Rd cc s t n h
    generalize hc1 : cod (okR s t n xs) = c1 at H1 H2
    generalize hB : rdB cc s t n xs = B at H1 H2
    replace hc1 := Lib.hid hc1
    replace hB := Lib.hid hB
    replace H1 := Lib.hid H1
    replace H2 := Lib.hid H2
    go_wp2_with fail
    refine (H1.out _ i1).mono ?_
    rintro e w2 ⟨rfl, q2⟩
    replace BB := below_next BB (Nat.le_refl _) q2
    replace i1 := i1.below q2
    clear q2
    go_wp2_with fail
    refine (H2.out _ i1).mono ?_
    rintro e w3 ⟨rfl, q3⟩
    replace BB := below_next BB (Nat.le_refl _) q3
    replace i1 := i1.below q3
    clear q3
    clear H1 H2
    go_wp2_with fail
    refine (DrawCommitmentOf_c (h.below BB) hf).mono ?_
    rintro e w4 ⟨x2, y2, rfl, hd2, q4⟩
    replace BB := below_next BB (Nat.le_refl _) q4
    replace i1 := i1.below q4
    clear q4
    clear hd2
    have H1 := fun w => impl_CommitmentOf x2 y2 w
    have H2 := fun w => spec_CommitmentOf x2 y2 w
    generalize cod (okC x2 y2) = c2 at H1 H2
    generalize cmI x2 y2 = m2 at H1 H2
    replace H1 := Lib.hid H1
    replace H2 := Lib.hid H2
    go_wp2_with fail
    refine (H1.out _).mono ?_
    rintro e w' ⟨rfl, rfl⟩
    go_wp2_with fail
    refine (H2.out _).mono ?_
    rintro e w' ⟨rfl, rfl⟩
    clear H1 H2
    by_cases q : okR s t n xs
    · have g1 : (c1 == 0) = true := by rw [← hc1.out, cod_yes q]; rfl
      have g2 : (c1 != 0) = false := by rw [← hc1.out, cod_yes q]; rfl
      have hB2 : Hid (B = ((cm s t == cc) && decide ((shufL s n.toNat).take xs.length = xs))) := Lib.hid (by rw [← hB.out, rdB, if_pos q]; rfl)
      generalize hcm : cm s t = d at *
      have HC := Lib.hid (fun w => commit_ok (x := d) ⟨q.1.1.1, q.1.1.2⟩ hcm w)
      generalize hys : (shufL s n.toNat).take xs.length = ys at *
      have HS := Lib.hid (fun w => smp_ok (xs := xs) (ys := ys) ⟨q.1.1.1, q.1.2⟩ q.2 hys w)
      replace hcm := Lib.hid hcm
      replace hys := Lib.hid hys
      clear q
      obtain ⟨a, m, c, rfl, HA⟩ := i1.parts
      have hlen := HA.len
      have hcap := HA.cap
      have hmost := HA.most
      unfold maxLen at hmost
      rw [hlen] at HS
      replace hlen := Lib.hid hlen
      clear HA
      go_wp2_with fail
      refine (HC.out _).mono ?_
      rintro e w' ⟨rfl, rfl⟩
      go_wp2_with fail
      refine (HS.out _).mono ?_
      rintro e wz ⟨vz, rfl, iz, qz⟩
      replace BB := below_next BB (Nat.le_refl _) qz
      replace i1 := i1.below qz
      clear qz
      by_cases qd : d = cc
      · have hd : (d == cc) = true := by simpa using qd
        have LK := likeInts_ne iz i1
        have hB3 : B = decide (ys = xs) := by rw [hB2.out, hd, Bool.true_and]
        rw [← hB3] at LK
        replace LK := Lib.hid LK
        clear hB3 qd iz i1
        go_wp2_with fail
        refine LK.out.mono ?_
        rintro e wy ⟨rfl, qy⟩
        replace BB := below_next BB (Nat.le_refl _) qy
        go_wp2_with fail
        go_ret
        exact ⟨by simp, BB⟩
      · have hd : (d == cc) = false := by simpa using qd
        have hB3 : B = false := by rw [hB2.out, hd, Bool.false_and]
        subst hB3
        clear qd iz i1
        go_wp2_with fail
        go_ret
        exact ⟨rfl, BB⟩
    · have g1 : (c1 == 0) = false := by rw [← hc1.out, cod_no q]; rfl
      have g2 : (c1 != 0) = true := by rw [← hc1.out, cod_no q]; rfl
      clear q
      go_wp2_with fail
      go_ret
      exact ⟨rfl, BB⟩
end Go.Proofs.Ythlfecalpapkdaa
