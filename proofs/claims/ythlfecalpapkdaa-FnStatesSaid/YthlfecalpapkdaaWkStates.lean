/-
  The walk of FnStates. Conditions: none but that the code reads as bytes.
-/
import Derived.Test.YthlfecalpapkdaaDrawSt
import Derived.Test.YthlfecalpapkdaaDrawAll
import Derived.Test.YthlfecalpapkdaaBig
namespace Go.Proofs.Ythlfecalpapkdaa
open Go.RowKit
set_option linter.unusedVariables false

theorem statesL_at (s : Int) {n k : Nat} (h : k < n) : (statesL s n)[k]? = some (stt s (k + 1)) := by simp [statesL, h]
theorem nbK_bd {s n : Int} (h : okB s n) : 0 ≤ nbK s n ∧ nbK s n < n := by
  unfold nbK
  rw [if_pos h]
  have hb := nx_bd s
  constructor
  · exact Int.ediv_nonneg (Int.mul_nonneg hb.1 (by omega)) (by omega)
  · have h1 : nx s * n ≤ 2147483646 * n := Int.mul_le_mul_of_nonneg_right hb.2 (by omega)
    omega
theorem nbN_is {s n : Int} (h : okB s n) : nbN s n = nx s := by unfold nbN; rw [if_pos h]
theorem nsI_is {s : Int} (h : 1 ≤ s ∧ s ≤ 2147483646) : nsI s = nx s := by unfold nsI; rw [if_pos h]
theorem impl_NextState_ok {s x : Int} (h : 1 ≤ s ∧ s ≤ 2147483646) (hx : nx s = x) (w : World) : Calls Try.prog 31 #[.int .i64 s] w fun e w' => e = .returned (.tuple #[.int .i64 x, .int .i64 0]) ∧ w = w' := by
  have := impl_NextState s w
  rw [nsI_is h, cod_yes h, hx] at this
  exact this

set_option maxRecDepth 100000 in
set_option maxHeartbeats 2000000 in
theorem wk_FnStates {v : Value} {bs : List Int} {w : World} (h : Bytes w v bs) (hf : BytesFit bs) :
    Calls Try.prog 8 #[v] w fun e w' => e = .returned (.bool true) ∧ Below w.heap.size w w' := by
  by_cases hbig : 4096 < bs.length
  · go_enter Try.func8, Try.ntmps8
    go_wp2_with fail
    refine (big_yes h hbig).mono ?_
    rintro e w' ⟨rfl, rfl⟩
    go_wp2_with fail
    go_ret
    exact ⟨rfl, Below.refl _ _⟩
  · have BB : Below w.heap.size w w := Below.refl _ _
    have hsm : bs.length ≤ 4096 := by omega
    clear hbig
    go_enter Try.func8, Try.ntmps8
    go_wp2_with fail
    refine (big_no h hsm).mono ?_
    rintro e w' ⟨rfl, rfl⟩
    clear hsm
    go_wp2_with fail
    refine (DrawNumberBelow_c (h.below BB) hf).mono ?_
    rintro e w1 ⟨x1, y1, rfl, hd1, q1⟩
    replace BB := below_next BB (Nat.le_refl _) q1
    clear q1
    have H1 := fun w => impl_NumberBelow x1 y1 w
    have H2 := fun w => spec_NumberBelow x1 y1 w
    generalize hc1 : cod (okB x1 y1) = c1 at H1 H2
    generalize hK : nbK x1 y1 = K at H1 H2
    generalize hN : nbN x1 y1 = N at H1 H2
    replace hc1 := Lib.hid hc1
    replace hK := Lib.hid hK
    replace hN := Lib.hid hN
    replace hd1 := Lib.hid hd1
    replace H1 := Lib.hid H1
    replace H2 := Lib.hid H2
    go_wp2_with fail
    refine (H1.out _).mono ?_
    rintro e w' ⟨rfl, rfl⟩
    go_wp2_with fail
    refine (H2.out _).mono ?_
    rintro e w' ⟨rfl, rfl⟩
    clear H1 H2
    go_wp2_with fail
    refine (DrawStatesAfter_c (h.below BB) hf).mono ?_
    rintro e w4 ⟨x2, y2, rfl, hd2, q4⟩
    replace BB := below_next BB (Nat.le_refl _) q4
    clear q4
    have H1 := fun w => impl_States x2 y2 w
    have H2 := fun w => spec_States x2 y2 w
    generalize hc2 : cod (okN x2 y2) = c2 at H1 H2
    generalize hxs : stL x2 y2 = xs at H1 H2
    replace hc2 := Lib.hid hc2
    replace hxs := Lib.hid hxs
    replace hd2 := Lib.hid hd2
    replace H1 := Lib.hid H1
    replace H2 := Lib.hid H2
    go_wp2_with fail
    refine (H1.out _).mono ?_
    rintro e w5 ⟨v3, rfl, i3, q5⟩
    replace BB := below_next BB (Nat.le_refl _) q5
    clear q5
    go_wp2_with fail
    refine (H2.out _).mono ?_
    rintro e w6 ⟨v4, rfl, i4, q6⟩
    replace BB := below_next BB (Nat.le_refl _) q6
    replace i3 := i3.below q6
    clear q6
    clear H1 H2
    go_wp2_with fail
    refine (DrawNextState_c (h.below BB) hf).mono ?_
    rintro e w7 ⟨x5, rfl, hd5, hd5b, q7⟩
    replace BB := below_next BB (Nat.le_refl _) q7
    replace i3 := i3.below q7
    replace i4 := i4.below q7
    clear q7
    have H1 := fun w => impl_NextState x5 w
    have H2 := fun w => spec_NextState x5 w
    generalize cod (1 ≤ x5 ∧ x5 ≤ 2147483646) = c5 at H1 H2
    generalize nsI x5 = n5 at H1 H2
    replace H1 := Lib.hid H1
    replace H2 := Lib.hid H2
    clear hd5 hd5b
    go_wp2_with fail
    refine (H1.out _).mono ?_
    rintro e w' ⟨rfl, rfl⟩
    go_wp2_with fail
    refine (H2.out _).mono ?_
    rintro e w' ⟨rfl, rfl⟩
    clear H1 H2
    go_wp2_with fail
    refine (likeInts_same i3 i4).mono ?_
    rintro e w10 ⟨rfl, q10⟩
    replace BB := below_next BB (Nat.le_refl _) q10
    replace i3 := i3.below q10
    replace i4 := i4.below q10
    clear q10
    clear i4
    obtain ⟨a, n, c, rfl, HA⟩ := i3.parts
    have hlen := Lib.hid HA.len
    have hcap := HA.cap
    have hmost := HA.most
    unfold maxLen at hmost
    clear i3
    by_cases q : okN x2 y2
    · have hzz : (c2 == 0) = true := by rw [← hc2.out, cod_yes q]; rfl
      have hxx : Hid (xs = statesL x2 y2.toNat) := Lib.hid (by rw [← hxs.out]; unfold stL; rw [if_pos q])
      have hnn : Hid (n = y2.toNat) := Lib.hid (by have := hlen.out; rw [hxx.out, statesL_len] at this; omega)
      have hst : Hid (∀ k, 1 ≤ stt x2 k ∧ stt x2 k ≤ 2147483646) := Lib.hid (stt_bd q.1.1 q.1.2)
      clear q
      go_wp2_with fail
      go_loop [22] (fun i => ∃ k : Nat, 1 ≤ k ∧ i = .int .i64 k) (fun i => n - (intOf i).toNat)
      case atStart => exact ⟨1, by omega, rfl⟩
      case round =>
        obtain ⟨k, hk, rfl⟩ := hrel
        by_cases hlt : k < n
        · obtain ⟨b, o, ha, hbb, hcs⟩ := HA.cells (by omega)
          subst ha
          have d1 := hcs (k - 1) (stt x2 k) (by rw [hxx.out, statesL_at _ (by have := hnn.out; omega), show k - 1 + 1 = k by omega])
          have d2 := hcs k (stt x2 (k + 1)) (by rw [hxx.out, statesL_at _ (by have := hnn.out; omega)])
          have HS := Lib.hid (fun w => impl_NextState_ok (x := stt x2 (k + 1)) (hst.out k) rfl w)
          have hki : (k : Int) - 1 = ((k - 1 : Nat) : Int) := by omega
          have hk0 : (0 : Int) ≤ (k : Int) - 1 := by omega
          clear hcs HA
          generalize stt x2 k = s1 at *
          generalize stt x2 (k + 1) = s2 at *
          generalize k - 1 = j at *
          go_wp2_with fail
          refine (HS.out _).mono ?_
          rintro e w' ⟨rfl, rfl⟩
          go_wp2_with fail
          go_round
          case rel => exact ⟨k + 1, by omega, by go_num⟩
          case measure => simp [intOf]; omega
        · clear HA hnn hst hxx
          by_cases qb : okB x1 y1
          · have hz1 : (c1 == 0) = true := by rw [← hc1.out, cod_yes qb]; rfl
            have hz2 : (c1 != 0) = false := by rw [← hc1.out, cod_yes qb]; rfl
            have kb := nbK_bd qb
            rw [hK.out] at kb
            obtain ⟨k0, k1⟩ := kb
            have HS := Lib.hid (fun w => impl_NextState_ok (x := N) qb.1 (by rw [← hN.out, nbN_is qb]) w)
            clear qb
            go_wp2_with fail
            refine (HS.out _).mono ?_
            rintro e w' ⟨rfl, rfl⟩
            go_wp2_with fail
            go_ret
            exact ⟨rfl, BB⟩
          · have hz1 : (c1 == 0) = false := by rw [← hc1.out, cod_no qb]; rfl
            have hz2 : (c1 != 0) = true := by rw [← hc1.out, cod_no qb]; rfl
            clear qb
            go_wp2_with fail
            go_ret
            exact ⟨rfl, BB⟩
    · have hzz : (c2 == 0) = false := by rw [← hc2.out, cod_no q]; rfl
      clear q HA
      go_wp2_with fail
      go_loop [22] (fun i => ∃ k : Nat, 1 ≤ k ∧ i = .int .i64 k) (fun i => n - (intOf i).toNat)
      case atStart => exact ⟨1, by omega, rfl⟩
      case round =>
        obtain ⟨k, hk, rfl⟩ := hrel
        by_cases qb : okB x1 y1
        · have hz1 : (c1 == 0) = true := by rw [← hc1.out, cod_yes qb]; rfl
          have hz2 : (c1 != 0) = false := by rw [← hc1.out, cod_yes qb]; rfl
          have kb := nbK_bd qb
          rw [hK.out] at kb
          obtain ⟨k0, k1⟩ := kb
          have HS := Lib.hid (fun w => impl_NextState_ok (x := N) qb.1 (by rw [← hN.out, nbN_is qb]) w)
          clear qb
          go_wp2_with fail
          refine (HS.out _).mono ?_
          rintro e w' ⟨rfl, rfl⟩
          go_wp2_with fail
          go_ret
          exact ⟨rfl, BB⟩
        · have hz1 : (c1 == 0) = false := by rw [← hc1.out, cod_no qb]; rfl
          have hz2 : (c1 != 0) = true := by rw [← hc1.out, cod_no qb]; rfl
          clear qb
          go_wp2_with fail
          go_ret
          exact ⟨rfl, BB⟩
end Go.Proofs.Ythlfecalpapkdaa
