/-
  The walk of FnShuffles. Conditions: none but that the code reads as bytes.
-/
import Derived.Test.YthlfecalpapkdaaDrawSt
import Derived.Test.YthlfecalpapkdaaDrawAll
import Derived.Test.YthlfecalpapkdaaHasInt
namespace Go.Proofs.Ythlfecalpapkdaa
open Go.RowKit
set_option linter.unusedVariables false

theorem shL_ok {s n : Int} (h : okN s n) : shL s n = shufL s n.toNat := by unfold shL; rw [if_pos h]
theorem smL_ok {s n k : Int} (h : okS s n k) : smL s n k = (shufL s n.toNat).take k.toNat := by unfold smL; rw [if_pos h]
theorem plI_at {s n x : Int} (h : okP s n x) : ∃ p : Nat, plI s n x = p ∧ (shufL s n.toNat)[p]? = some x := by
  refine ⟨_, by rw [plI, if_pos h], (placeIs_find (shufL_mem h.1.1.1 h.1.1.2 h.2.1 (by have := h.2.2; omega))).1⟩
theorem shuf_ok {s n : Int} {xs : List Int} (h : okN s n) (hx : shufL s n.toNat = xs) (w : World) : Calls Try.prog 19 #[.int .i64 s, .int .i64 n] w (ListIs xs 0 w) := by
  have := impl_Shuf s n w
  rw [shL_ok h, cod_yes h, hx] at this
  exact this
theorem shuf_ok' {s n : Int} {xs : List Int} (h : okN s n) (hx : shufL s n.toNat = xs) (w : World) : Calls Try.prog 18 #[.int .i64 s, .int .i64 n] w (ListIs xs 0 w) := by
  have := spec_Shuf s n w
  rw [shL_ok h, cod_yes h, hx] at this
  exact this

set_option maxRecDepth 100000 in
set_option maxHeartbeats 4000000 in
theorem wk_FnShuffles {v : Value} {bs : List Int} {w : World} (h : Bytes w v bs) (hf : BytesFit bs) :
    Calls Try.prog 9 #[v] w fun e w' => e = .returned (.bool true) ∧ Below w.heap.size w w' := by
  by_cases hbig : 4096 < bs.length
  · go_enter Try.func9, Try.ntmps9
    go_wp2_with fail
    refine (big_yes h hbig).mono ?_
    rintro e w' ⟨rfl, rfl⟩
    go_wp2_with fail
    go_ret
    exact ⟨rfl, Below.refl _ _⟩
  · have BB : Below w.heap.size w w := Below.refl _ _
    have hsm : bs.length ≤ 4096 := by omega
    clear hbig
    go_enter Try.func9, Try.ntmps9
    go_wp2_with fail
    refine (big_no h hsm).mono ?_
    rintro e w' ⟨rfl, rfl⟩
    clear hsm
    go_wp2_with fail
    refine (DrawSampleOf_c (h.below BB) hf).mono ?_
    rintro e w1 ⟨x1, y1, z1, rfl, hd1, q1⟩
    replace BB := below_next BB (Nat.le_refl _) q1
    clear q1
    replace hd1 := Lib.hid hd1
    have H1 := fun w => impl_Smp x1 y1 z1 w
    have H2 := fun w => spec_Smp x1 y1 z1 w
    generalize hc1 : cod (okS x1 y1 z1) = c1 at H1 H2
    generalize hxs1 : smL x1 y1 z1 = xs1 at H1 H2
    replace hc1 := Lib.hid hc1
    replace hxs1 := Lib.hid hxs1
    replace H1 := Lib.hid H1
    replace H2 := Lib.hid H2
    go_wp2_with fail
    refine (H1.out _).mono ?_
    rintro e w2 ⟨v1, rfl, i1, q2⟩
    replace BB := below_next BB (Nat.le_refl _) q2
    clear q2
    go_wp2_with fail
    refine (H2.out _).mono ?_
    rintro e w3 ⟨u1, rfl, j1, q3⟩
    replace BB := below_next BB (Nat.le_refl _) q3
    replace i1 := i1.below q3
    clear q3
    clear H1 H2
    go_wp2_with fail
    refine (DrawShuffleNumbers_c (h.below BB) hf).mono ?_
    rintro e w4 ⟨x2, y2, rfl, hd2, q4⟩
    replace BB := below_next BB (Nat.le_refl _) q4
    replace i1 := i1.below q4
    replace j1 := j1.below q4
    clear q4
    replace hd2 := Lib.hid hd2
    have H1 := fun w => impl_Shuf x2 y2 w
    have H2 := fun w => spec_Shuf x2 y2 w
    generalize hc2 : cod (okN x2 y2) = c2 at H1 H2
    generalize hxs2 : shL x2 y2 = xs2 at H1 H2
    replace hc2 := Lib.hid hc2
    replace hxs2 := Lib.hid hxs2
    replace H1 := Lib.hid H1
    replace H2 := Lib.hid H2
    go_wp2_with fail
    refine (H1.out _).mono ?_
    rintro e w5 ⟨v2, rfl, i2, q5⟩
    replace BB := below_next BB (Nat.le_refl _) q5
    replace i1 := i1.below q5
    replace j1 := j1.below q5
    clear q5
    go_wp2_with fail
    refine (H2.out _).mono ?_
    rintro e w6 ⟨u2, rfl, j2, q6⟩
    replace BB := below_next BB (Nat.le_refl _) q6
    replace i1 := i1.below q6
    replace j1 := j1.below q6
    replace i2 := i2.below q6
    clear q6
    clear H1 H2
    go_wp2_with fail
    refine (DrawPlaceInShuffle_c (h.below BB) hf).mono ?_
    rintro e w7 ⟨x3, y3, z3, rfl, hd3, q7⟩
    replace BB := below_next BB (Nat.le_refl _) q7
    replace i1 := i1.below q7
    replace j1 := j1.below q7
    replace i2 := i2.below q7
    replace j2 := j2.below q7
    clear q7
    replace hd3 := Lib.hid hd3
    have H1 := fun w => impl_Pl x3 y3 z3 w
    have H2 := fun w => spec_Pl x3 y3 z3 w
    generalize hc3 : cod (okP x3 y3 z3) = c3 at H1 H2
    generalize hp3 : plI x3 y3 z3 = p3 at H1 H2
    replace hc3 := Lib.hid hc3
    replace hp3 := Lib.hid hp3
    replace H1 := Lib.hid H1
    replace H2 := Lib.hid H2
    go_wp2_with fail
    refine (H1.out _).mono ?_
    rintro e w8 ⟨rfl, q8⟩
    replace BB := below_next BB (Nat.le_refl _) q8
    replace i1 := i1.below q8
    replace j1 := j1.below q8
    replace i2 := i2.below q8
    replace j2 := j2.below q8
    clear q8
    go_wp2_with fail
    refine (H2.out _).mono ?_
    rintro e w9 ⟨rfl, q9⟩
    replace BB := below_next BB (Nat.le_refl _) q9
    replace i1 := i1.below q9
    replace j1 := j1.below q9
    replace i2 := i2.below q9
    replace j2 := j2.below q9
    clear q9
    clear H1 H2
    go_wp2_with fail
    refine (likeInts_same i1 j1).mono ?_
    rintro e w10 ⟨rfl, q10⟩
    replace BB := below_next BB (Nat.le_refl _) q10
    replace i1 := i1.below q10
    replace j1 := j1.below q10
    replace i2 := i2.below q10
    replace j2 := j2.below q10
    clear q10
    clear j1
    go_wp2_with fail
    refine (likeInts_same i2 j2).mono ?_
    rintro e w11 ⟨rfl, q11⟩
    replace BB := below_next BB (Nat.le_refl _) q11
    replace i1 := i1.below q11
    replace i2 := i2.below q11
    replace j2 := j2.below q11
    clear q11
    clear j2
    by_cases qp : okP x3 y3 z3
    · have e1 : (c3 == 0) = true := by rw [← hc3.out, cod_yes qp]; rfl
      obtain ⟨p, hp1, hp2⟩ := plI_at qp
      have hp3 : p3 = (p : Int) := by rw [← hp3.out]; exact hp1
      have SA := Lib.hid (fun w => shuf_ok qp.1 rfl w)
      have SB := Lib.hid (fun w => shuf_ok' qp.1 rfl w)
      clear qp hp1
      subst hp3
      generalize shufL x3 y3.toNat = sf at *
      replace hp2 := Lib.hid hp2
      go_wp2_with fail
      refine (SA.out _).mono ?_
      rintro e w12 ⟨va, rfl, ia, q12⟩
      replace BB := below_next BB (Nat.le_refl _) q12
      replace i1 := i1.below q12
      replace i2 := i2.below q12
      clear q12
      go_wp2_with fail
      refine (SB.out _).mono ?_
      rintro e w13 ⟨vb, rfl, ib, q13⟩
      replace BB := below_next BB (Nat.le_refl _) q13
      replace i1 := i1.below q13
      replace i2 := i2.below q13
      replace ia := ia.below q13
      clear q13
      go_wp2_with fail
      refine (likeInts_same ia ib).mono ?_
      rintro e w14 ⟨rfl, q14⟩
      replace BB := below_next BB (Nat.le_refl _) q14
      replace i1 := i1.below q14
      replace i2 := i2.below q14
      replace ia := ia.below q14
      replace ib := ib.below q14
      clear q14
      clear ib
      obtain ⟨a, n, c, rfl, HA⟩ := ia.parts
      have hlen := Lib.hid HA.len
      have hcap := HA.cap
      have hmost := HA.most
      unfold maxLen at hmost
      have hpl : p < n := by have := (List.getElem?_eq_some_iff.1 hp2.out).1; have := hlen.out; omega
      obtain ⟨b, o, ha, hbb, hcs⟩ := HA.cells (by omega)
      subst ha
      have cx := hcs p _ hp2.out
      clear hcs HA ia SA SB
      by_cases qn : okN x2 y2
      · have f1 : (c2 == 0) = true := by rw [← hc2.out, cod_yes qn]; rfl
        have hm : Hid (∀ k : Nat, (k : Int) < y2 → (k : Int) ∈ xs2) := Lib.hid fun k hk => by rw [← hxs2.out, shL_ok qn]; exact shufL_mem qn.1.1 qn.1.2 (by omega) (by omega)
        have hy2 : y2 ≤ 200 := qn.2.2
        clear qn
        go_wp2_with fail
        rename_i wl _ _
        go_loop [27] (fun i => ∃ k : Nat, i = .int .i64 k) (fun i => (y2 - intOf i).toNat)
        case atStart => exact ⟨0, rfl⟩
        case round =>
          obtain ⟨k, rfl⟩ := hrel
          by_cases hlt : (k : Int) < y2
          · have HI := Lib.hid (hasInt_yes i2 (hm.out k hlt))
            go_wp2_with fail
            refine HI.out.mono ?_
            rintro e w' ⟨rfl, rfl⟩
            go_wp2_with fail
            go_round
            case rel => exact ⟨k + 1, by go_num⟩
            case measure => simp [intOf]; omega
          · clear hm
            by_cases qs : okS x1 y1 z1
            · have g1 : (c1 == 0) = true := by rw [← hc1.out, cod_yes qs]; rfl
              have g2 : (c1 != 0) = false := by rw [← hc1.out, cod_yes qs]; rfl
              have hz : Hid (z1 = (z1.toNat : Int)) := Lib.hid (by have := qs.2; omega)
              have hy : Hid (y1 = (y1.toNat : Int)) := Lib.hid (by have := qs.1.2; omega)
              have hzl : Hid (z1.toNat ≤ y1.toNat) := Lib.hid (by have := qs.2; omega)
              have hxx : Hid (xs1 = (shufL x1 y1.toNat).take z1.toNat) := Lib.hid (by rw [← hxs1.out, smL_ok qs])
              have hsl := Lib.hid (shufL_len x1 y1.toNat)
              have SA := Lib.hid (fun w => shuf_ok qs.1 rfl w)
              have SB := Lib.hid (fun w => shuf_ok' qs.1 rfl w)
              clear qs
              generalize z1.toNat = zn at *
              generalize hyn : y1.toNat = yn at *
              replace hyn := Lib.hid hyn
              generalize hsf : shufL x1 yn = sf at *
              replace hsf := Lib.hid hsf
              have hz' := hz.out
              subst hz'
              go_wp2_with fail
              refine (SA.out _).mono ?_
              rintro e w15 ⟨va, rfl, ia, q15⟩
              replace BB := below_next BB (Nat.le_refl _) q15
              replace i1 := i1.below q15
              replace i2 := i2.below q15
              clear q15
              go_wp2_with fail
              refine (SB.out _).mono ?_
              rintro e w16 ⟨vb, rfl, ib, q16⟩
              replace BB := below_next BB (Nat.le_refl _) q16
              replace i1 := i1.below q16
              replace i2 := i2.below q16
              replace ia := ia.below q16
              clear q16
              go_wp2_with fail
              refine (likeInts_same ia ib).mono ?_
              rintro e w17 ⟨rfl, q17⟩
              replace BB := below_next BB (Nat.le_refl _) q17
              replace i1 := i1.below q17
              replace i2 := i2.below q17
              replace ia := ia.below q17
              replace ib := ib.below q17
              clear q17
              obtain ⟨a, n, c, rfl, HA⟩ := ia.parts
              have hlen := Lib.hid HA.len
              have hcap := HA.cap
              have hmost := HA.most
              unfold maxLen at hmost
              have hnn : Hid (n = yn) := Lib.hid (by rw [← hlen.out, hsl.out])
              have hzn : zn ≤ n := by have := hnn.out; have := hzl.out; omega
              have hny : (n : Int) = y1 := by have := hnn.out; have := hy.out; omega
              have hnb : ((n : Int) == y1) = true := by rw [beq_iff_eq]; exact hny
              have hzc : (zn : Int) ≤ (c : Int) := by omega
              have hz0 : (0 : Int) ≤ (zn : Int) := by omega
              have it := ints_take ia hzn
              have e1 : xs1 = sf.take zn := hxx.out
              rw [e1] at i1
              have LK := Lib.hid (likeInts_same it i1)
              clear HA ib hny e1
              go_wp2_with fail
              refine LK.out.mono ?_
              rintro e wz ⟨rfl, qz⟩
              replace BB := below_next BB (Nat.le_refl _) qz
              go_wp2_with fail
              go_ret
              exact ⟨rfl, BB⟩
            · have g1 : (c1 == 0) = false := by rw [← hc1.out, cod_no qs]; rfl
              have g2 : (c1 != 0) = true := by rw [← hc1.out, cod_no qs]; rfl
              clear qs
              go_wp2_with fail
              go_ret
              exact ⟨rfl, BB⟩
      · have f1 : (c2 == 0) = false := by rw [← hc2.out, cod_no qn]; rfl
        clear qn
        go_wp2_with fail
        go_loop [27] (fun i => ∃ k : Nat, i = .int .i64 k) (fun i => (y2 - intOf i).toNat)
        case atStart => exact ⟨0, rfl⟩
        case round =>
          obtain ⟨k, rfl⟩ := hrel
          by_cases qs : okS x1 y1 z1
          · have g1 : (c1 == 0) = true := by rw [← hc1.out, cod_yes qs]; rfl
            have g2 : (c1 != 0) = false := by rw [← hc1.out, cod_yes qs]; rfl
            have hz : Hid (z1 = (z1.toNat : Int)) := Lib.hid (by have := qs.2; omega)
            have hy : Hid (y1 = (y1.toNat : Int)) := Lib.hid (by have := qs.1.2; omega)
            have hzl : Hid (z1.toNat ≤ y1.toNat) := Lib.hid (by have := qs.2; omega)
            have hxx : Hid (xs1 = (shufL x1 y1.toNat).take z1.toNat) := Lib.hid (by rw [← hxs1.out, smL_ok qs])
            have hsl := Lib.hid (shufL_len x1 y1.toNat)
            have SA := Lib.hid (fun w => shuf_ok qs.1 rfl w)
            have SB := Lib.hid (fun w => shuf_ok' qs.1 rfl w)
            clear qs
            generalize z1.toNat = zn at *
            generalize hyn : y1.toNat = yn at *
            replace hyn := Lib.hid hyn
            generalize hsf : shufL x1 yn = sf at *
            replace hsf := Lib.hid hsf
            have hz' := hz.out
            subst hz'
            go_wp2_with fail
            refine (SA.out _).mono ?_
            rintro e w18 ⟨va, rfl, ia, q18⟩
            replace BB := below_next BB (Nat.le_refl _) q18
            replace i1 := i1.below q18
            replace i2 := i2.below q18
            clear q18
            go_wp2_with fail
            refine (SB.out _).mono ?_
            rintro e w19 ⟨vb, rfl, ib, q19⟩
            replace BB := below_next BB (Nat.le_refl _) q19
            replace i1 := i1.below q19
            replace i2 := i2.below q19
            replace ia := ia.below q19
            clear q19
            go_wp2_with fail
            refine (likeInts_same ia ib).mono ?_
            rintro e w20 ⟨rfl, q20⟩
            replace BB := below_next BB (Nat.le_refl _) q20
            replace i1 := i1.below q20
            replace i2 := i2.below q20
            replace ia := ia.below q20
            replace ib := ib.below q20
            clear q20
            obtain ⟨a, n, c, rfl, HA⟩ := ia.parts
            have hlen := Lib.hid HA.len
            have hcap := HA.cap
            have hmost := HA.most
            unfold maxLen at hmost
            have hnn : Hid (n = yn) := Lib.hid (by rw [← hlen.out, hsl.out])
            have hzn : zn ≤ n := by have := hnn.out; have := hzl.out; omega
            have hny : (n : Int) = y1 := by have := hnn.out; have := hy.out; omega
            have hnb : ((n : Int) == y1) = true := by rw [beq_iff_eq]; exact hny
            have hzc : (zn : Int) ≤ (c : Int) := by omega
            have hz0 : (0 : Int) ≤ (zn : Int) := by omega
            have it := ints_take ia hzn
            have e1 : xs1 = sf.take zn := hxx.out
            rw [e1] at i1
            have LK := Lib.hid (likeInts_same it i1)
            clear HA ib hny e1
            go_wp2_with fail
            refine LK.out.mono ?_
            rintro e wz ⟨rfl, qz⟩
            replace BB := below_next BB (Nat.le_refl _) qz
            go_wp2_with fail
            go_ret
            exact ⟨rfl, BB⟩
          · have g1 : (c1 == 0) = false := by rw [← hc1.out, cod_no qs]; rfl
            have g2 : (c1 != 0) = true := by rw [← hc1.out, cod_no qs]; rfl
            clear qs
            go_wp2_with fail
            go_ret
            exact ⟨rfl, BB⟩
    · have e1 : (c3 == 0) = false := by rw [← hc3.out, cod_no qp]; rfl
      clear qp
      by_cases qn : okN x2 y2
      · have f1 : (c2 == 0) = true := by rw [← hc2.out, cod_yes qn]; rfl
        have hm : Hid (∀ k : Nat, (k : Int) < y2 → (k : Int) ∈ xs2) := Lib.hid fun k hk => by rw [← hxs2.out, shL_ok qn]; exact shufL_mem qn.1.1 qn.1.2 (by omega) (by omega)
        have hy2 : y2 ≤ 200 := qn.2.2
        clear qn
        go_wp2_with fail
        rename_i wl _ _
        go_loop [27] (fun i => ∃ k : Nat, i = .int .i64 k) (fun i => (y2 - intOf i).toNat)
        case atStart => exact ⟨0, rfl⟩
        case round =>
          obtain ⟨k, rfl⟩ := hrel
          by_cases hlt : (k : Int) < y2
          · have HI := Lib.hid (hasInt_yes i2 (hm.out k hlt))
            go_wp2_with fail
            refine HI.out.mono ?_
            rintro e w' ⟨rfl, rfl⟩
            go_wp2_with fail
            go_round
            case rel => exact ⟨k + 1, by go_num⟩
            case measure => simp [intOf]; omega
          · clear hm
            by_cases qs : okS x1 y1 z1
            · have g1 : (c1 == 0) = true := by rw [← hc1.out, cod_yes qs]; rfl
              have g2 : (c1 != 0) = false := by rw [← hc1.out, cod_yes qs]; rfl
              have hz : Hid (z1 = (z1.toNat : Int)) := Lib.hid (by have := qs.2; omega)
              have hy : Hid (y1 = (y1.toNat : Int)) := Lib.hid (by have := qs.1.2; omega)
              have hzl : Hid (z1.toNat ≤ y1.toNat) := Lib.hid (by have := qs.2; omega)
              have hxx : Hid (xs1 = (shufL x1 y1.toNat).take z1.toNat) := Lib.hid (by rw [← hxs1.out, smL_ok qs])
              have hsl := Lib.hid (shufL_len x1 y1.toNat)
              have SA := Lib.hid (fun w => shuf_ok qs.1 rfl w)
              have SB := Lib.hid (fun w => shuf_ok' qs.1 rfl w)
              clear qs
              generalize z1.toNat = zn at *
              generalize hyn : y1.toNat = yn at *
              replace hyn := Lib.hid hyn
              generalize hsf : shufL x1 yn = sf at *
              replace hsf := Lib.hid hsf
              have hz' := hz.out
              subst hz'
              go_wp2_with fail
              refine (SA.out _).mono ?_
              rintro e w21 ⟨va, rfl, ia, q21⟩
              replace BB := below_next BB (Nat.le_refl _) q21
              replace i1 := i1.below q21
              replace i2 := i2.below q21
              clear q21
              go_wp2_with fail
              refine (SB.out _).mono ?_
              rintro e w22 ⟨vb, rfl, ib, q22⟩
              replace BB := below_next BB (Nat.le_refl _) q22
              replace i1 := i1.below q22
              replace i2 := i2.below q22
              replace ia := ia.below q22
              clear q22
              go_wp2_with fail
              refine (likeInts_same ia ib).mono ?_
              rintro e w23 ⟨rfl, q23⟩
              replace BB := below_next BB (Nat.le_refl _) q23
              replace i1 := i1.below q23
              replace i2 := i2.below q23
              replace ia := ia.below q23
              replace ib := ib.below q23
              clear q23
              obtain ⟨a, n, c, rfl, HA⟩ := ia.parts
              have hlen := Lib.hid HA.len
              have hcap := HA.cap
              have hmost := HA.most
              unfold maxLen at hmost
              have hnn : Hid (n = yn) := Lib.hid (by rw [← hlen.out, hsl.out])
              have hzn : zn ≤ n := by have := hnn.out; have := hzl.out; omega
              have hny : (n : Int) = y1 := by have := hnn.out; have := hy.out; omega
              have hnb : ((n : Int) == y1) = true := by rw [beq_iff_eq]; exact hny
              have hzc : (zn : Int) ≤ (c : Int) := by omega
              have hz0 : (0 : Int) ≤ (zn : Int) := by omega
              have it := ints_take ia hzn
              have e1 : xs1 = sf.take zn := hxx.out
              rw [e1] at i1
              have LK := Lib.hid (likeInts_same it i1)
              clear HA ib hny e1
              go_wp2_with fail
              refine LK.out.mono ?_
              rintro e wz ⟨rfl, qz⟩
              replace BB := below_next BB (Nat.le_refl _) qz
              go_wp2_with fail
              go_ret
              exact ⟨rfl, BB⟩
            · have g1 : (c1 == 0) = false := by rw [← hc1.out, cod_no qs]; rfl
              have g2 : (c1 != 0) = true := by rw [← hc1.out, cod_no qs]; rfl
              clear qs
              go_wp2_with fail
              go_ret
              exact ⟨rfl, BB⟩
      · have f1 : (c2 == 0) = false := by rw [← hc2.out, cod_no qn]; rfl
        clear qn
        go_wp2_with fail
        go_loop [27] (fun i => ∃ k : Nat, i = .int .i64 k) (fun i => (y2 - intOf i).toNat)
        case atStart => exact ⟨0, rfl⟩
        case round =>
          obtain ⟨k, rfl⟩ := hrel
          by_cases qs : okS x1 y1 z1
          · have g1 : (c1 == 0) = true := by rw [← hc1.out, cod_yes qs]; rfl
            have g2 : (c1 != 0) = false := by rw [← hc1.out, cod_yes qs]; rfl
            have hz : Hid (z1 = (z1.toNat : Int)) := Lib.hid (by have := qs.2; omega)
            have hy : Hid (y1 = (y1.toNat : Int)) := Lib.hid (by have := qs.1.2; omega)
            have hzl : Hid (z1.toNat ≤ y1.toNat) := Lib.hid (by have := qs.2; omega)
            have hxx : Hid (xs1 = (shufL x1 y1.toNat).take z1.toNat) := Lib.hid (by rw [← hxs1.out, smL_ok qs])
            have hsl := Lib.hid (shufL_len x1 y1.toNat)
            have SA := Lib.hid (fun w => shuf_ok qs.1 rfl w)
            have SB := Lib.hid (fun w => shuf_ok' qs.1 rfl w)
            clear qs
            generalize z1.toNat = zn at *
            generalize hyn : y1.toNat = yn at *
            replace hyn := Lib.hid hyn
            generalize hsf : shufL x1 yn = sf at *
            replace hsf := Lib.hid hsf
            have hz' := hz.out
            subst hz'
            go_wp2_with fail
            refine (SA.out _).mono ?_
            rintro e w24 ⟨va, rfl, ia, q24⟩
            replace BB := below_next BB (Nat.le_refl _) q24
            replace i1 := i1.below q24
            replace i2 := i2.below q24
            clear q24
            go_wp2_with fail
            refine (SB.out _).mono ?_
            rintro e w25 ⟨vb, rfl, ib, q25⟩
            replace BB := below_next BB (Nat.le_refl _) q25
            replace i1 := i1.below q25
            replace i2 := i2.below q25
            replace ia := ia.below q25
            clear q25
            go_wp2_with fail
            refine (likeInts_same ia ib).mono ?_
            rintro e w26 ⟨rfl, q26⟩
            replace BB := below_next BB (Nat.le_refl _) q26
            replace i1 := i1.below q26
            replace i2 := i2.below q26
            replace ia := ia.below q26
            replace ib := ib.below q26
            clear q26
            obtain ⟨a, n, c, rfl, HA⟩ := ia.parts
            have hlen := Lib.hid HA.len
            have hcap := HA.cap
            have hmost := HA.most
            unfold maxLen at hmost
            have hnn : Hid (n = yn) := Lib.hid (by rw [← hlen.out, hsl.out])
            have hzn : zn ≤ n := by have := hnn.out; have := hzl.out; omega
            have hny : (n : Int) = y1 := by have := hnn.out; have := hy.out; omega
            have hnb : ((n : Int) == y1) = true := by rw [beq_iff_eq]; exact hny
            have hzc : (zn : Int) ≤ (c : Int) := by omega
            have hz0 : (0 : Int) ≤ (zn : Int) := by omega
            have it := ints_take ia hzn
            have e1 : xs1 = sf.take zn := hxx.out
            rw [e1] at i1
            have LK := Lib.hid (likeInts_same it i1)
            clear HA ib hny e1
            go_wp2_with fail
            refine LK.out.mono ?_
            rintro e wz ⟨rfl, qz⟩
            replace BB := below_next BB (Nat.le_refl _) qz
            go_wp2_with fail
            go_ret
            exact ⟨rfl, BB⟩
          · have g1 : (c1 == 0) = false := by rw [← hc1.out, cod_no qs]; rfl
            have g2 : (c1 != 0) = true := by rw [← hc1.out, cod_no qs]; rfl
            clear qs
            go_wp2_with fail
            go_ret
            exact ⟨rfl, BB⟩
end Go.Proofs.Ythlfecalpapkdaa
