/-
  The walk of FnLikeness. Conditions: none but that the code reads as bytes.
-/
import Derived.Test.YthnilifepiihjaaLkAll
import Derived.Test.YthnilifepiihjaaDrFind
import Derived.Test.YthnilifepiihjaaFind
import Derived.Test.YthnilifepiihjaaBig
namespace Go.Proofs.Ythnilifepiihjaa
open Go.RowKit
set_option linter.unusedVariables false

set_option maxRecDepth 100000 in
set_option maxHeartbeats 16000000 in
theorem wk_FnLikeness {v : Value} {bs : List Int} {w : World} (h : Bytes w v bs) (hf : BytesFit bs) :
    Calls Try.prog 4 #[v] w fun e w' => e = .returned (.bool true) ∧ Below w.heap.size w w' := by
  by_cases hbig : 4096 < bs.length
  · have HB := Lib.hid (big_yes h hbig)
    go_enter Try.func4, Try.ntmps4
    go_wp2_with fail
    refine HB.out.mono ?_
    rintro e w' ⟨rfl, rfl⟩
    go_wp2_with fail
    go_ret
    exact ⟨rfl, Below.refl _ _⟩
  · have BB : Below w.heap.size w w := Below.refl _ _
    have HB := Lib.hid (big_no h (by omega))
    have hb0 := Lib.hid h
    clear h hbig
    go_enter Try.func4, Try.ntmps4
    go_wp2_with fail
    refine HB.out.mono ?_
    rintro e w0 ⟨rfl, rfl⟩
    clear HB
    go_wp2_with fail
    refine (DrawLikenessOf_c (hb0.out.below BB) hf).mono ?_
    rintro e w2 ⟨a, b, rfl, ha, hb, q2⟩
    replace BB := below_next BB (Nat.le_refl _) q2
    clear q2
    have fa := Lib.hid ha.fit
    have fb := Lib.hid hb.fit
    clear ha hb
    have HI := Lib.hid (fun w => impl_Lk a b fa.out fb.out w)
    have HS := Lib.hid (fun w => spec_Lk a b fa.out fb.out w)
    have HB1 := Lib.hid (fun w => impl_Lk b a fb.out fa.out w)
    have HB2 := Lib.hid (fun w => impl_Lk a a fa.out fa.out w)
    have hback : Hid (lkE a b = 0 → lkE b a = 0 ∧ lkI b a = lkI a b ∧ lkE a a = 0 ∧ lkI a a = 100) := Lib.hid fun h => lk_back h
    generalize lkI a b = n at *
    generalize lkE a b = bad at *
    generalize lkI b a = n1 at *
    generalize lkE b a = bad1 at *
    generalize lkI a a = n2 at *
    generalize lkE a a = bad2 at *
    obtain ⟨PA, PB, bx⟩ := two_pers w2 a b 35
    replace BB := below_next BB (Nat.le_refl _) bx
    clear bx
    obtain ⟨cPA0, cPA1, cPA2, cPA3, cPA4, cPA5⟩ := id PA
    obtain ⟨cPB0, cPB1, cPB2, cPB3, cPB4, cPB5⟩ := id PB
    unfold perV
    go_wp2_with fail
    clear cPA0 cPA1 cPA2 cPA3 cPA4 cPA5 cPB0 cPB1 cPB2 cPB3 cPB4 cPB5
    generalize ((w2.alloc (.cells #[.int .i64 a.number, .string a.first, .string a.last, .int .i64 a.born, .int .i64 a.zone] 35)).alloc (.cells #[.int .i64 b.number, .string b.first, .string b.last, .int .i64 b.born, .int .i64 b.zone] 35)) = w3 at *
    generalize w2.heap.size = xa at *
    refine (HI.out _).mono ?_
    rintro e w4 ⟨rfl, q4⟩
    replace BB := below_next BB (Nat.le_refl _) q4
    replace PA := PA.below q4
    replace PB := PB.below q4
    clear q4
    obtain ⟨cPA0, cPA1, cPA2, cPA3, cPA4, cPA5⟩ := id PA
    obtain ⟨cPB0, cPB1, cPB2, cPB3, cPB4, cPB5⟩ := id PB
    go_wp2_with fail
    clear cPA0 cPA1 cPA2 cPA3 cPA4 cPA5 cPB0 cPB1 cPB2 cPB3 cPB4 cPB5
    refine (HS.out _).mono ?_
    rintro e w5 ⟨rfl, q5⟩
    replace BB := below_next BB (Nat.le_refl _) q5
    replace PA := PA.below q5
    replace PB := PB.below q5
    clear q5
    clear HI HS
    go_wp2_with fail
    refine (DrawAreAlike_c (hb0.out.below BB) hf).mono ?_
    rintro e w6 ⟨c, d, lim, rfl, hc, hd, hlim, q6⟩
    replace BB := below_next BB (Nat.le_refl _) q6
    replace PA := PA.below q6
    replace PB := PB.below q6
    clear q6
    have HI := Lib.hid (fun w => impl_Aa c d hc.fit hd.fit lim w)
    have HS := Lib.hid (fun w => spec_Aa c d hc.fit hd.fit lim w)
    generalize aaB c d lim = al at *
    generalize aaE c d lim = e1 at *
    clear hc hd hlim
    obtain ⟨PC, PD, bx⟩ := two_pers w6 c d 35
    replace BB := below_next BB (Nat.le_refl _) bx
    replace PA := PA.below bx
    replace PB := PB.below bx
    clear bx
    obtain ⟨cPC0, cPC1, cPC2, cPC3, cPC4, cPC5⟩ := id PC
    obtain ⟨cPD0, cPD1, cPD2, cPD3, cPD4, cPD5⟩ := id PD
    unfold perV
    go_wp2_with fail
    clear cPC0 cPC1 cPC2 cPC3 cPC4 cPC5 cPD0 cPD1 cPD2 cPD3 cPD4 cPD5
    generalize ((w6.alloc (.cells #[.int .i64 c.number, .string c.first, .string c.last, .int .i64 c.born, .int .i64 c.zone] 35)).alloc (.cells #[.int .i64 d.number, .string d.first, .string d.last, .int .i64 d.born, .int .i64 d.zone] 35)) = w7 at *
    generalize w6.heap.size = xc at *
    refine (HI.out _).mono ?_
    rintro e w8 ⟨rfl, q8⟩
    replace BB := below_next BB (Nat.le_refl _) q8
    replace PA := PA.below q8
    replace PB := PB.below q8
    replace PC := PC.below q8
    replace PD := PD.below q8
    clear q8
    obtain ⟨cPC0, cPC1, cPC2, cPC3, cPC4, cPC5⟩ := id PC
    obtain ⟨cPD0, cPD1, cPD2, cPD3, cPD4, cPD5⟩ := id PD
    go_wp2_with fail
    clear cPC0 cPC1 cPC2 cPC3 cPC4 cPC5 cPD0 cPD1 cPD2 cPD3 cPD4 cPD5
    refine (HS.out _).mono ?_
    rintro e w9 ⟨rfl, q9⟩
    replace BB := below_next BB (Nat.le_refl _) q9
    replace PA := PA.below q9
    replace PB := PB.below q9
    replace PC := PC.below q9
    replace PD := PD.below q9
    clear q9
    clear HI HS
    clear PC PD
    go_wp2_with fail
    refine (DrawMostAlike_c (hb0.out.below BB) hf).mono ?_
    rintro e w10 ⟨u, ps, p, rfl, ho, hl13, hD, hp, q10⟩
    replace BB := below_next BB (Nat.le_refl _) q10
    replace PA := PA.below q10
    replace PB := PB.below q10
    clear q10
    have PS := Lib.hid ho.persons
    have fps := Lib.hid hD.fit
    have fp := Lib.hid hp.fit
    clear ho hD hp
    have HI := Lib.hid (fun (w : World) (h : Persons w u ps) => impl_MostL h fps.out p fp.out)
    have HS := Lib.hid (fun (w : World) (h : Persons w u ps) => spec_MostL h fps.out p fp.out)
    have hmost : Hid (mstE ps p = 0 → ∃ k : Nat, k < ps.length ∧ mstI ps p = k ∧ ∀ (i : Nat) (q m : Per), ps[i]? = some q → ps[k]? = some m → lkE q p = 0 ∧ lkE m p = 0 ∧ lkI q p ≤ lkI m p) := Lib.hid fun h => lk_most h
    generalize mstI ps p = k at *
    generalize mstE ps p = e2 at *
    have PP := perAt_new w10 p 35
    have bx : Below w10.heap.size w10 (w10.alloc (.cells #[.int .i64 p.number, .string p.first, .string p.last, .int .i64 p.born, .int .i64 p.zone] 35)) := (Below.refl _ _).alloc (Nat.le_refl _) _
    replace BB := below_next BB (Nat.le_refl _) bx
    replace PA := PA.below bx
    replace PB := PB.below bx
    replace PS := Lib.hid (PS.out.below bx)
    clear bx
    obtain ⟨cPP0, cPP1, cPP2, cPP3, cPP4, cPP5⟩ := id PP
    unfold perV
    go_wp2_with fail
    clear cPP0 cPP1 cPP2 cPP3 cPP4 cPP5
    generalize (w10.alloc (.cells #[.int .i64 p.number, .string p.first, .string p.last, .int .i64 p.born, .int .i64 p.zone] 35)) = w11 at *
    generalize w10.heap.size = xp at *
    refine (HI.out _ PS.out).mono ?_
    rintro e w12 ⟨rfl, q12⟩
    replace BB := below_next BB (Nat.le_refl _) q12
    replace PA := PA.below q12
    replace PB := PB.below q12
    replace PP := PP.below q12
    replace PS := Lib.hid (PS.out.below q12)
    clear q12
    obtain ⟨cPP0, cPP1, cPP2, cPP3, cPP4, cPP5⟩ := id PP
    go_wp2_with fail
    clear cPP0 cPP1 cPP2 cPP3 cPP4 cPP5
    refine (HS.out _ PS.out).mono ?_
    rintro e w13 ⟨rfl, q13⟩
    replace BB := below_next BB (Nat.le_refl _) q13
    replace PA := PA.below q13
    replace PB := PB.below q13
    replace PP := PP.below q13
    replace PS := Lib.hid (PS.out.below q13)
    clear q13
    clear HI HS
    go_wp2_with fail
    refine (DrawFindPerson_c (hb0.out.below BB) hf).mono ?_
    rintro e w14 ⟨um, ms, nr, rfl, ho, hm13, hD, q14⟩
    replace BB := below_next BB (Nat.le_refl _) q14
    replace PA := PA.below q14
    replace PB := PB.below q14
    replace PP := PP.below q14
    replace PS := Lib.hid (PS.out.below q14)
    clear q14
    have MS := Lib.hid ho.persons
    have fms := Lib.hid hD.fit
    clear ho hD
    have HI := Lib.hid (fun (w : World) (h : Persons w um ms) => impl_Find h fms.out nr)
    have HS := Lib.hid (fun (w : World) (h : Persons w um ms) => spec_Find h fms.out nr)
    generalize fndI ms nr = f at *
    generalize fndE ms nr = e3 at *
    go_wp2_with fail
    refine (HI.out _ MS.out).mono ?_
    rintro e w15 ⟨rfl, q15⟩
    replace BB := below_next BB (Nat.le_refl _) q15
    replace PA := PA.below q15
    replace PB := PB.below q15
    replace PP := PP.below q15
    replace PS := Lib.hid (PS.out.below q15)
    replace MS := Lib.hid (MS.out.below q15)
    clear q15
    go_wp2_with fail
    refine (HS.out _ MS.out).mono ?_
    rintro e w16 ⟨rfl, q16⟩
    replace BB := below_next BB (Nat.le_refl _) q16
    replace PA := PA.below q16
    replace PB := PB.below q16
    replace PP := PP.below q16
    replace PS := Lib.hid (PS.out.below q16)
    replace MS := Lib.hid (MS.out.below q16)
    clear q16
    clear HI HS
    have H1 := Lib.hid (fun w => impl_IsPerL a fa.out w)
    have H2 := Lib.hid (fun w => spec_IsPerL a fa.out w)
    have H3 := Lib.hid (fun (w : World) (h : Persons w um ms) => impl_ArePersons h fms.out)
    have H4 := Lib.hid (fun (w : World) (h : Persons w um ms) => spec_ArePersons h fms.out)
    generalize perB a = pa at *
    generalize persB ms = pm at *
    obtain ⟨cPA0, cPA1, cPA2, cPA3, cPA4, cPA5⟩ := id PA
    go_wp2_with fail
    refine region_ext (by kernel_rfl) (by kernel_rfl) ?_
    repeat (go_big_quiet_step (first | (with_reducible_and_instances exact ext_call (H1.out _)) | (with_reducible_and_instances exact ext_call (H2.out _)) | (with_reducible_and_instances exact ext_call (H3.out _ (MS.out.ext _))) | (with_reducible_and_instances exact ext_call (H4.out _ (MS.out.ext _)))))
    clear cPA0 cPA1 cPA2 cPA3 cPA4 cPA5
    refine wpQuiet_nil ?_
    rintro _ ⟨nx, rfl⟩
    have bx := ext_below _ nx
    generalize extW _ nx = w17 at *
    replace BB := below_next BB (Nat.le_refl _) bx
    replace PA := PA.below bx
    replace PB := PB.below bx
    replace PP := PP.below bx
    replace PS := Lib.hid (PS.out.below bx)
    replace MS := Lib.hid (MS.out.below bx)
    clear bx
    clear H1 H2 H3 H4
    clear MS
    obtain ⟨au, nu, cu, rfl, HU⟩ := PS.out.parts
    have hnu := Lib.hid HU.len
    have hcu := HU.cap
    have hmu := HU.most
    unfold maxLen at hmu
    clear HU
    replace PA := Lib.hid PA
    replace PB := Lib.hid PB
    replace PP := Lib.hid PP
    by_cases he2 : e2 = 0
    · subst he2
      obtain ⟨kk, hkk, rfl, hall⟩ := hmost.out rfl
      replace hall := Lib.hid hall
      rw [hnu.out] at hkk
      clear hmost
      have hm := per_at (ps := ps) (k := kk) (by rw [hnu.out]; exact hkk)
      obtain ⟨m, hm⟩ := hm
      have hm0 := Lib.hid hm
      clear hm
      go_wp2_with fail
      go_loopw [28] (fun i wr => ∃ j : Nat, j ≤ nu ∧ i = .int .i64 j ∧ Hid (PerAt wr xp p) ∧ Hid (PerAt wr xa a) ∧ Hid (PerAt wr (xa + 1) b) ∧ Hid (Persons wr (.slice au nu cu) ps) ∧ Below w.heap.size w wr) (fun i _ => nu - (intOf i).toNat)
      case atStart => exact ⟨0, Nat.zero_le _, rfl, PP, PA, PB, PS, BB⟩
      case round =>
        clear PP PA PB PS BB
        obtain ⟨j, hj, rfl, PP, PA, PB, PS, BB⟩ := hrel
        replace PP := PP.out
        replace PA := PA.out
        replace PB := PB.out
        by_cases hlt : j < nu
        · have hq := per_at (ps := ps) (k := j) (by rw [hnu.out]; exact hlt)
          obtain ⟨q, hq⟩ := hq
          obtain ⟨e1q, e2q, hle⟩ := hall.out j q m hq hm0.out
          have fq := Lib.hid (fps.out.at_ hq)
          have fm := Lib.hid (fps.out.at_ hm0.out)
          have HQ := Lib.hid (fun w => impl_Lk q p fq.out fp.out w)
          have HM := Lib.hid (fun w => impl_Lk m p fm.out fp.out w)
          rw [e1q] at HQ
          rw [e2q] at HM
          generalize lkI q p = lq at *
          generalize lkI m p = lm at *
          clear e1q e2q
          obtain ⟨b0, o0, rfl⟩ := PS.out.form.2.2.2 (by omega)
          obtain ⟨hbq, d0, d1, d2, d3, d4⟩ := PS.out.at_ hq
          obtain ⟨cPP0, cPP1, cPP2, cPP3, cPP4, cPP5⟩ := id PP
          go_wp2_with fail
          refine region_ext (by kernel_rfl) (by kernel_rfl) ?_
          repeat (go_big_quiet_step ((with_reducible_and_instances exact ext_call (HQ.out _))))
          clear hbq d0 d1 d2 d3 d4 hq
          clear cPP0 cPP1 cPP2 cPP3 cPP4 cPP5
          refine wpQuiet_nil ?_
          rintro _ ⟨nx, rfl⟩
          have bx := ext_below _ nx
          generalize extW _ nx = w18 at *
          replace BB := below_next BB (Nat.le_refl _) bx
          replace PA := PA.below bx
          replace PB := PB.below bx
          replace PP := PP.below bx
          replace PS := Lib.hid (PS.out.below bx)
          clear bx
          obtain ⟨hbq, d0, d1, d2, d3, d4⟩ := PS.out.at_ hm0.out
          obtain ⟨cPP0, cPP1, cPP2, cPP3, cPP4, cPP5⟩ := id PP
          go_wp2_with fail
          refine region_ext (by kernel_rfl) (by kernel_rfl) ?_
          repeat (go_big_quiet_step ((with_reducible_and_instances exact ext_call (HM.out _))))
          clear hbq d0 d1 d2 d3 d4
          clear cPP0 cPP1 cPP2 cPP3 cPP4 cPP5
          refine wpQuiet_nil ?_
          rintro _ ⟨nx, rfl⟩
          have bx := ext_below _ nx
          generalize extW _ nx = w19 at *
          replace BB := below_next BB (Nat.le_refl _) bx
          replace PA := PA.below bx
          replace PB := PB.below bx
          replace PP := PP.below bx
          replace PS := Lib.hid (PS.out.below bx)
          clear bx
          go_wp2_with fail
          go_roundw
          case rel => exact ⟨j + 1, by omega, by go_num, Lib.hid PP, Lib.hid PA, Lib.hid PB, PS, BB⟩
          case measure => simp [intOf]; omega
        · obtain rfl : j = nu := by omega
          clear hlt hall
          by_cases hbad : bad = 0
          · subst hbad
            obtain ⟨rfl, rfl, rfl, rfl⟩ := hback.out rfl
            clear hback
            obtain ⟨cPA0, cPA1, cPA2, cPA3, cPA4, cPA5⟩ := id PA
            obtain ⟨cPB0, cPB1, cPB2, cPB3, cPB4, cPB5⟩ := id PB
            go_wp2_with fail
            clear cPA0 cPA1 cPA2 cPA3 cPA4 cPA5 cPB0 cPB1 cPB2 cPB3 cPB4 cPB5
            refine (HB1.out _).mono ?_
            rintro e w20 ⟨rfl, q20⟩
            replace BB := below_next BB (Nat.le_refl _) q20
            replace PA := PA.below q20
            replace PB := PB.below q20
            replace PP := PP.below q20
            replace PS := Lib.hid (PS.out.below q20)
            clear q20
            obtain ⟨cPA0, cPA1, cPA2, cPA3, cPA4, cPA5⟩ := id PA
            go_wp2_with fail
            clear cPA0 cPA1 cPA2 cPA3 cPA4 cPA5
            refine (HB2.out _).mono ?_
            rintro e w21 ⟨rfl, q21⟩
            replace BB := below_next BB (Nat.le_refl _) q21
            replace PA := PA.below q21
            replace PB := PB.below q21
            replace PP := PP.below q21
            replace PS := Lib.hid (PS.out.below q21)
            clear q21
            go_wp2_with fail
            go_ret
            exact ⟨rfl, BB⟩
          · have hbn : (bad != 0) = true := by simpa using hbad
            go_wp2_with fail
            go_ret
            exact ⟨rfl, BB⟩
    · have he2n : (e2 == 0) = false := by simpa using he2
      clear he2 hmost
      go_wp2_with fail
      go_loopw [28] (fun i wr => i = .int .i64 0 ∧ Hid (PerAt wr xp p) ∧ Hid (PerAt wr xa a) ∧ Hid (PerAt wr (xa + 1) b) ∧ Hid (Persons wr (.slice au nu cu) ps) ∧ Below w.heap.size w wr) (fun i _ => 0)
      case atStart => exact ⟨rfl, PP, PA, PB, PS, BB⟩
      case round =>
        clear PP PA PB PS BB
        obtain ⟨rfl, PP, PA, PB, PS, BB⟩ := hrel
        replace PP := PP.out
        replace PA := PA.out
        replace PB := PB.out
        by_cases hbad : bad = 0
        · subst hbad
          obtain ⟨rfl, rfl, rfl, rfl⟩ := hback.out rfl
          clear hback
          obtain ⟨cPA0, cPA1, cPA2, cPA3, cPA4, cPA5⟩ := id PA
          obtain ⟨cPB0, cPB1, cPB2, cPB3, cPB4, cPB5⟩ := id PB
          go_wp2_with fail
          clear cPA0 cPA1 cPA2 cPA3 cPA4 cPA5 cPB0 cPB1 cPB2 cPB3 cPB4 cPB5
          refine (HB1.out _).mono ?_
          rintro e w20 ⟨rfl, q20⟩
          replace BB := below_next BB (Nat.le_refl _) q20
          replace PA := PA.below q20
          replace PB := PB.below q20
          replace PP := PP.below q20
          replace PS := Lib.hid (PS.out.below q20)
          clear q20
          obtain ⟨cPA0, cPA1, cPA2, cPA3, cPA4, cPA5⟩ := id PA
          go_wp2_with fail
          clear cPA0 cPA1 cPA2 cPA3 cPA4 cPA5
          refine (HB2.out _).mono ?_
          rintro e w21 ⟨rfl, q21⟩
          replace BB := below_next BB (Nat.le_refl _) q21
          replace PA := PA.below q21
          replace PB := PB.below q21
          replace PP := PP.below q21
          replace PS := Lib.hid (PS.out.below q21)
          clear q21
          go_wp2_with fail
          go_ret
          exact ⟨rfl, BB⟩
        · have hbn : (bad != 0) = true := by simpa using hbad
          go_wp2_with fail
          go_ret
          exact ⟨rfl, BB⟩
end Go.Proofs.Ythnilifepiihjaa
