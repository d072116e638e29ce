/-
  MostAlike of both packages.
  Conditions: each lemma names its own.
-/
import Derived.Test.YthnilifepiihjaaPersLik
namespace Go.Proofs.Ythnilifepiihjaa
open Go.RowKit
set_option linter.unusedVariables false

/-- The first one of the first k persons with the greatest likeness to p. -/
def bst (ps : List Per) (p : Per) : Nat → Nat
  | 0 => 0
  | k + 1 => if lik (ps.getD (bst ps p k) perZ) p < lik (ps.getD k perZ) p then k else bst ps p k
theorem bst_le (ps : List Per) (p : Per) : ∀ k, bst ps p (k + 1) ≤ k := by
  intro k
  induction k with
  | zero => unfold bst; split <;> simp [bst]
  | succ k ih => rw [bst]; split <;> omega
theorem bst_most (ps : List Per) (p : Per) : ∀ k j, j < k → lik (ps.getD j perZ) p ≤ lik (ps.getD (bst ps p k) perZ) p := by
  intro k
  induction k with
  | zero => intro j h; omega
  | succ k ih =>
    intro j hj
    rw [bst]
    by_cases e : j = k
    · subst e; split <;> omega
    · have := ih j (by omega)
      split <;> omega
def mstI (ps : List Per) (p : Per) : Int := if persB ps = true ∧ perB p = true then (bst ps p ps.length : Nat) else 0
def mstE (ps : List Per) (p : Per) : Int := if persB ps = true ∧ perB p = true then (if ps.length = 0 then 4 else 0) else 1
theorem bst_step {ps : List Per} {p q m : Per} {k : Nat} (hq : ps[k]? = some q) (hm : ps[bst ps p k]? = some m) : bst ps p (k + 1) = if lik m p < lik q p then k else bst ps p k := by
  rw [bst, getD_per hq, getD_per hm]
theorem bst_first {ps : List Per} {p q : Per} (hq : ps[0]? = some q) : bst ps p 1 = 0 := Nat.le_zero.1 (bst_le ps p 0)

set_option maxHeartbeats 2000000 in
theorem impl_Most {v : Value} {ps : List Per} {w : World} (h : Persons w v ps) (hp : PersFit ps) (p : Per) (hf : PerFit p) :
    Calls Try.prog 22 #[v, perV p] w fun e w' => e = .returned (.tuple #[.int .i64 (mstI ps p), .int .i64 (mstE ps p)]) ∧ Below w.heap.size w w' := by
  have HV : Hid (perV p = .agg #[.int .i64 p.number, .string p.first, .string p.last, .int .i64 p.born, .int .i64 p.zone]) := Lib.hid rfl
  have PA := perAt_new w p 35
  have BB : Below w.heap.size w (w.alloc (.cells #[.int .i64 p.number, .string p.first, .string p.last, .int .i64 p.born, .int .i64 p.zone] 35)) := (Below.refl _ _).alloc (Nat.le_refl _) _
  have HA := Lib.hid (impl_ArePersons (h.alloc (.cells #[.int .i64 p.number, .string p.first, .string p.last, .int .i64 p.born, .int .i64 p.zone] 35)) hp)
  obtain ⟨a, n, c, rfl, H⟩ := h.parts
  have hlen := Lib.hid H.len
  have hcap := H.cap
  have hmost := H.most
  unfold maxLen at hmost
  clear H
  have HP := Lib.hid h
  clear h
  rw [HV.out]
  clear HV
  cases hB : persB ps
  · have R1 : Hid (mstI ps p = 0) := Lib.hid (by unfold mstI; rw [if_neg (by simp [hB])])
    have R2 : Hid (mstE ps p = 1) := Lib.hid (by unfold mstE; rw [if_neg (by simp [hB])])
    rw [hB] at HA
    clear hB
    go_enter Try.func22, Try.ntmps22
    go_wp2_with fail
    refine HA.out.mono ?_
    rintro e w1 ⟨rfl, b1⟩
    replace BB := below_next BB (Nat.le_refl _) b1
    go_wp2_with fail
    go_ret2
    exact ⟨ret2_i R1.out.symm R2.out.symm, BB⟩
  · have HB := Lib.hid hB
    rw [hB] at HA
    clear hB
    have VB := fun k q hx => persB_born HB.out (k := k) (q := q) hx
    replace VB := Lib.hid VB
    have FF := Lib.hid hp
    clear hp
    cases hI : perB p
    · have R1 : Hid (mstI ps p = 0) := Lib.hid (by unfold mstI; rw [if_neg (by simp [hI])])
      have R2 : Hid (mstE ps p = 1) := Lib.hid (by unfold mstE; rw [if_neg (by simp [hI])])
      have HI := Lib.hid hI
      clear hI
      go_enter Try.func22, Try.ntmps22
      go_wp2_with fail
      refine HA.out.mono ?_
      rintro e w1 ⟨rfl, b1⟩
      replace BB := below_next BB (Nat.le_refl _) b1
      replace PA := PA.below b1
      obtain ⟨cb, c0, c1, c2, c3, c4⟩ := PA
      go_wp2_with fail
      refine (impl_IsPerson_l p hf HI.out _).mono ?_
      rintro e w2 ⟨rfl, b2⟩
      replace BB := below_next BB (Nat.le_refl _) b2
      clear cb c0 c1 c2 c3 c4
      go_wp2_with fail
      go_ret2
      exact ⟨ret2_i R1.out.symm R2.out.symm, BB⟩
    · have HI := Lib.hid hI
      clear hI
      have bp := perB_born HI.out
      by_cases h0 : n = 0
      · have R1 : Hid (mstI ps p = 0) := Lib.hid (by unfold mstI; rw [if_pos ⟨HB.out, HI.out⟩, hlen.out, h0]; rfl)
        have R2 : Hid (mstE ps p = 4) := Lib.hid (by unfold mstE; rw [if_pos ⟨HB.out, HI.out⟩, hlen.out, if_pos h0])
        have hz : ((n : Int) == 0) = true := by simp [h0]
        clear h0
        go_enter Try.func22, Try.ntmps22
        go_wp2_with fail
        refine HA.out.mono ?_
        rintro e w1 ⟨rfl, b1⟩
        replace BB := below_next BB (Nat.le_refl _) b1
        replace PA := PA.below b1
        obtain ⟨cb, c0, c1, c2, c3, c4⟩ := PA
        go_wp2_with fail
        refine (impl_IsPerson_l p hf HI.out _).mono ?_
        rintro e w2 ⟨rfl, b2⟩
        replace BB := below_next BB (Nat.le_refl _) b2
        clear cb c0 c1 c2 c3 c4
        go_wp2_with fail
        go_ret2
        exact ⟨ret2_i R1.out.symm R2.out.symm, BB⟩
      · have hz : ((n : Int) == 0) = false := by simp [h0]
        have hn0 : 0 < n := by omega
        clear h0
        go_enter Try.func22, Try.ntmps22
        go_wp2_with fail
        refine HA.out.mono ?_
        rintro e w1 ⟨rfl, b1⟩
        replace BB := below_next BB (Nat.le_refl _) b1
        replace PA := PA.below b1
        obtain ⟨cb, c0, c1, c2, c3, c4⟩ := id PA
        go_wp2_with fail
        refine (impl_IsPerson_l p hf HI.out _).mono ?_
        rintro e w2 ⟨rfl, b2⟩
        replace BB := below_next BB (Nat.le_refl _) b2
        replace PA := PA.below b2
        clear cb c0 c1 c2 c3 c4
        go_wp2_with fail
        go_loopw [6, 22] (fun m i wr => ∃ k : Nat, k ≤ n ∧ i = .int .i64 k ∧ m = .int .i64 (bst ps p k : Nat) ∧ Below w.heap.size w wr ∧ PerAt wr w.heap.size p) (fun _ i _ => n - (intOf i).toNat)
        case atStart => exact ⟨0, Nat.zero_le _, rfl, rfl, BB, PA⟩
        case round =>
          obtain ⟨k, hk, rfl, rfl, BB, PA⟩ := hrel
          rename_i wr
          by_cases hlt : k < n
          · have hX := per_at (ps := ps) (k := k) (by have := hlen.out; omega)
            obtain ⟨q, hx⟩ := hX
            have fq := Lib.hid (FF.out.at_ hx)
            have bq := VB.out k q hx
            have HX := Lib.hid hx
            clear hx
            obtain ⟨a', n', c', hv, H⟩ := (HP.out.below BB).parts
            injection hv with hv1 hv2 hv3
            subst hv1 hv2 hv3
            obtain ⟨b, o, ha, hbb, hc⟩ := H.cells (by omega)
            subst ha
            by_cases hk0 : k = 0
            · subst hk0
              have hs := Lib.hid (bst_first (p := p) HX.out)
              have hl : lik q p = lik q p := rfl
              have hz0 : bst ps p 0 = 0 := rfl
              rw [hz0]
              clear hz0
              obtain ⟨c0, c1, c2, c3, c4⟩ := hc 0 q HX.out
              simp only [Nat.zero_mul, Nat.add_zero] at c0 c1 c2 c3 c4
              have hlik := Lib.hid (fun w => impl_lik_l q p fq.out hf bq bp w)
              generalize lik q p = r1 at *
              clear hl hc H
              go_wp2_with fail
              clear c0 c1 c2 c3 c4
              have PN := perAt_new wr q 35
              have BN : Below w.heap.size w (wr.alloc (.cells #[.int .i64 q.number, .string q.first, .string q.last, .int .i64 q.born, .int .i64 q.zone] 35)) := BB.alloc BB.size _
              have PA' := PA.alloc (.cells #[.int .i64 q.number, .string q.first, .string q.last, .int .i64 q.born, .int .i64 q.zone] 35)
              have HN := HP.out.below BN
              generalize wr.alloc (.cells #[.int .i64 q.number, .string q.first, .string q.last, .int .i64 q.born, .int .i64 q.zone] 35) = w1 at *
              obtain ⟨e0, e1, e2, e3, e4, e5⟩ := PN
              obtain ⟨u0, u1, u2, u3, u4, u5⟩ := id PA'
              obtain ⟨a'', n'', c'', hv, H⟩ := HN.parts
              injection hv with hv1 hv2 hv3
              subst hv2 hv3
              obtain ⟨b', o', ha, hbb', hc⟩ := H.cells (by omega)
              rw [← hv1] at ha
              clear hv1
              injection ha with ha
              injection ha with ha1 ha2
              subst ha1 ha2
              obtain ⟨d0, d1, d2, d3, d4⟩ := hc 0 q HX.out
              simp only [Nat.zero_mul, Nat.add_zero] at d0 d1 d2 d3 d4
              clear hc H
              refine region_ext (by kernel_rfl) (by kernel_rfl) ?_
              repeat (go_big_quiet_step (((with_reducible_and_instances exact ext_call (hlik.out _)))))
              refine wpQuiet_nil ?_
              rintro _ ⟨nx, rfl⟩
              have b3 := ext_below _ nx
              generalize extW _ nx = w3 at *
              replace BN := below_next BN (Nat.le_refl _) b3
              replace PA' := PA'.below b3
              clear d0 d1 d2 d3 d4 e0 e1 e2 e3 e4 e5 u0 u1 u2 u3 u4 u5
              go_wp2_with fail
              go_roundw
              case rel => exact ⟨1, by omega, by go_num, by rw [hs.out], BN, PA'⟩
              case measure => simp [intOf]; omega
            · have hbl : bst ps p k < k := by have := bst_le ps p (k - 1); rw [show k - 1 + 1 = k by omega] at this; omega
              have hM := per_at (ps := ps) (k := bst ps p k) (by have := hlen.out; omega)
              obtain ⟨m, hm⟩ := hM
              have fm := Lib.hid (FF.out.at_ hm)
              have bm := VB.out _ m hm
              have hs := bst_step (p := p) HX.out hm
              have HM := Lib.hid hm
              clear hm
              obtain ⟨c0, c1, c2, c3, c4⟩ := hc k q HX.out
              obtain ⟨d0, d1, d2, d3, d4⟩ := hc _ m HM.out
              have hlik1 := Lib.hid (fun w => impl_lik_l q p fq.out hf bq bp w)
              have hlik2 := Lib.hid (fun w => impl_lik_l m p fm.out hf bm bp w)
              clear hc H
              generalize lik q p = r1 at *
              generalize lik m p = r2 at *
              generalize hbk : bst ps p k = bk at *
              replace hbk := Lib.hid hbk
              by_cases q1 : r2 < r1
              · rw [if_pos q1] at hs
                replace hs := Lib.hid hs
                go_wp2_with fail
                clear c0 c1 c2 c3 c4 d0 d1 d2 d3 d4
                have PN := perAt_new wr q 35
                have BN : Below w.heap.size w (wr.alloc (.cells #[.int .i64 q.number, .string q.first, .string q.last, .int .i64 q.born, .int .i64 q.zone] 35)) := BB.alloc BB.size _
                have PA' := PA.alloc (.cells #[.int .i64 q.number, .string q.first, .string q.last, .int .i64 q.born, .int .i64 q.zone] 35)
                have HN := HP.out.below BN
                generalize wr.alloc (.cells #[.int .i64 q.number, .string q.first, .string q.last, .int .i64 q.born, .int .i64 q.zone] 35) = w1 at *
                obtain ⟨e0, e1, e2, e3, e4, e5⟩ := PN
                obtain ⟨u0, u1, u2, u3, u4, u5⟩ := id PA'
                obtain ⟨a'', n'', c'', hv, H⟩ := HN.parts
                injection hv with hv1 hv2 hv3
                subst hv2 hv3
                obtain ⟨b', o', ha, hbb', hc⟩ := H.cells (by omega)
                rw [← hv1] at ha
                clear hv1
                injection ha with ha
                injection ha with ha1 ha2
                subst ha1 ha2
                obtain ⟨d0, d1, d2, d3, d4⟩ := hc _ m HM.out
                clear hc H
                refine region_ext (by kernel_rfl) (by kernel_rfl) ?_
                repeat (go_big_quiet_step (((first | with_reducible_and_instances exact ext_call (hlik1.out _) | with_reducible_and_instances exact ext_call (hlik2.out _)))))
                refine wpQuiet_nil ?_
                rintro _ ⟨nx, rfl⟩
                have b3 := ext_below _ nx
                generalize extW _ nx = w3 at *
                replace BN := below_next BN (Nat.le_refl _) b3
                replace PA' := PA'.below b3
                clear d0 d1 d2 d3 d4 e0 e1 e2 e3 e4 e5 u0 u1 u2 u3 u4 u5
                go_wp2_with fail
                go_roundw
                case rel => exact ⟨k + 1, by omega, by go_num, by rw [hs.out], BN, PA'⟩
                case measure => simp [intOf]; omega
              · rw [if_neg q1] at hs
                replace hs := Lib.hid hs
                replace q1 : r1 ≤ r2 := by omega
                go_wp2_with fail
                clear c0 c1 c2 c3 c4 d0 d1 d2 d3 d4
                have PN := perAt_new wr q 35
                have BN : Below w.heap.size w (wr.alloc (.cells #[.int .i64 q.number, .string q.first, .string q.last, .int .i64 q.born, .int .i64 q.zone] 35)) := BB.alloc BB.size _
                have PA' := PA.alloc (.cells #[.int .i64 q.number, .string q.first, .string q.last, .int .i64 q.born, .int .i64 q.zone] 35)
                have HN := HP.out.below BN
                generalize wr.alloc (.cells #[.int .i64 q.number, .string q.first, .string q.last, .int .i64 q.born, .int .i64 q.zone] 35) = w1 at *
                obtain ⟨e0, e1, e2, e3, e4, e5⟩ := PN
                obtain ⟨u0, u1, u2, u3, u4, u5⟩ := id PA'
                obtain ⟨a'', n'', c'', hv, H⟩ := HN.parts
                injection hv with hv1 hv2 hv3
                subst hv2 hv3
                obtain ⟨b', o', ha, hbb', hc⟩ := H.cells (by omega)
                rw [← hv1] at ha
                clear hv1
                injection ha with ha
                injection ha with ha1 ha2
                subst ha1 ha2
                obtain ⟨d0, d1, d2, d3, d4⟩ := hc _ m HM.out
                clear hc H
                refine region_ext (by kernel_rfl) (by kernel_rfl) ?_
                repeat (go_big_quiet_step (((first | with_reducible_and_instances exact ext_call (hlik1.out _) | with_reducible_and_instances exact ext_call (hlik2.out _)))))
                refine wpQuiet_nil ?_
                rintro _ ⟨nx, rfl⟩
                have b3 := ext_below _ nx
                generalize extW _ nx = w3 at *
                replace BN := below_next BN (Nat.le_refl _) b3
                replace PA' := PA'.below b3
                clear d0 d1 d2 d3 d4 e0 e1 e2 e3 e4 e5 u0 u1 u2 u3 u4 u5
                go_wp2_with fail
                go_roundw
                case rel => exact ⟨k + 1, by omega, by go_num, by rw [hs.out], BN, PA'⟩
                case measure => simp [intOf]; omega
          · have hkn : k = n := by omega
            subst hkn
            have R1 : Hid (mstI ps p = (bst ps p k : Nat)) := Lib.hid (by unfold mstI; rw [if_pos ⟨HB.out, HI.out⟩, hlen.out])
            have R2 : Hid (mstE ps p = 0) := Lib.hid (by unfold mstE; rw [if_pos ⟨HB.out, HI.out⟩, hlen.out, if_neg (by omega)])
            go_wp2_with fail
            go_ret2
            exact ⟨ret2_i R1.out.symm R2.out.symm, BB⟩
set_option maxHeartbeats 2000000 in
theorem spec_Most {v : Value} {ps : List Per} {w : World} (h : Persons w v ps) (hp : PersFit ps) (p : Per) (hf : PerFit p) :
    Calls Try.prog 23 #[v, perV p] w fun e w' => e = .returned (.tuple #[.int .i64 (mstI ps p), .int .i64 (mstE ps p)]) ∧ Below w.heap.size w w' := by
  have HV : Hid (perV p = .agg #[.int .i64 p.number, .string p.first, .string p.last, .int .i64 p.born, .int .i64 p.zone]) := Lib.hid rfl
  have PA := perAt_new w p 35
  have BB : Below w.heap.size w (w.alloc (.cells #[.int .i64 p.number, .string p.first, .string p.last, .int .i64 p.born, .int .i64 p.zone] 35)) := (Below.refl _ _).alloc (Nat.le_refl _) _
  have HA := Lib.hid (spec_ArePersons (h.alloc (.cells #[.int .i64 p.number, .string p.first, .string p.last, .int .i64 p.born, .int .i64 p.zone] 35)) hp)
  obtain ⟨a, n, c, rfl, H⟩ := h.parts
  have hlen := Lib.hid H.len
  have hcap := H.cap
  have hmost := H.most
  unfold maxLen at hmost
  clear H
  have HP := Lib.hid h
  clear h
  rw [HV.out]
  clear HV
  cases hB : persB ps
  · have R1 : Hid (mstI ps p = 0) := Lib.hid (by unfold mstI; rw [if_neg (by simp [hB])])
    have R2 : Hid (mstE ps p = 1) := Lib.hid (by unfold mstE; rw [if_neg (by simp [hB])])
    rw [hB] at HA
    clear hB
    go_enter Try.func23, Try.ntmps23
    go_wp2_with fail
    refine HA.out.mono ?_
    rintro e w1 ⟨rfl, b1⟩
    replace BB := below_next BB (Nat.le_refl _) b1
    go_wp2_with fail
    go_ret2
    exact ⟨ret2_i R1.out.symm R2.out.symm, BB⟩
  · have HB := Lib.hid hB
    rw [hB] at HA
    clear hB
    have VB := fun k q hx => persB_born HB.out (k := k) (q := q) hx
    replace VB := Lib.hid VB
    have FF := Lib.hid hp
    clear hp
    cases hI : perB p
    · have R1 : Hid (mstI ps p = 0) := Lib.hid (by unfold mstI; rw [if_neg (by simp [hI])])
      have R2 : Hid (mstE ps p = 1) := Lib.hid (by unfold mstE; rw [if_neg (by simp [hI])])
      have HI := Lib.hid hI
      clear hI
      go_enter Try.func23, Try.ntmps23
      go_wp2_with fail
      refine HA.out.mono ?_
      rintro e w1 ⟨rfl, b1⟩
      replace BB := below_next BB (Nat.le_refl _) b1
      replace PA := PA.below b1
      obtain ⟨cb, c0, c1, c2, c3, c4⟩ := PA
      go_wp2_with fail
      refine (spec_IsPerson_l p hf HI.out _).mono ?_
      rintro e w2 ⟨rfl, b2⟩
      replace BB := below_next BB (Nat.le_refl _) b2
      clear cb c0 c1 c2 c3 c4
      go_wp2_with fail
      go_ret2
      exact ⟨ret2_i R1.out.symm R2.out.symm, BB⟩
    · have HI := Lib.hid hI
      clear hI
      have bp := perB_born HI.out
      by_cases h0 : n = 0
      · have R1 : Hid (mstI ps p = 0) := Lib.hid (by unfold mstI; rw [if_pos ⟨HB.out, HI.out⟩, hlen.out, h0]; rfl)
        have R2 : Hid (mstE ps p = 4) := Lib.hid (by unfold mstE; rw [if_pos ⟨HB.out, HI.out⟩, hlen.out, if_pos h0])
        have hz : ((n : Int) == 0) = true := by simp [h0]
        clear h0
        go_enter Try.func23, Try.ntmps23
        go_wp2_with fail
        refine HA.out.mono ?_
        rintro e w1 ⟨rfl, b1⟩
        replace BB := below_next BB (Nat.le_refl _) b1
        replace PA := PA.below b1
        obtain ⟨cb, c0, c1, c2, c3, c4⟩ := PA
        go_wp2_with fail
        refine (spec_IsPerson_l p hf HI.out _).mono ?_
        rintro e w2 ⟨rfl, b2⟩
        replace BB := below_next BB (Nat.le_refl _) b2
        clear cb c0 c1 c2 c3 c4
        go_wp2_with fail
        go_ret2
        exact ⟨ret2_i R1.out.symm R2.out.symm, BB⟩
      · have hz : ((n : Int) == 0) = false := by simp [h0]
        have hn0 : 0 < n := by omega
        clear h0
        go_enter Try.func23, Try.ntmps23
        go_wp2_with fail
        refine HA.out.mono ?_
        rintro e w1 ⟨rfl, b1⟩
        replace BB := below_next BB (Nat.le_refl _) b1
        replace PA := PA.below b1
        obtain ⟨cb, c0, c1, c2, c3, c4⟩ := id PA
        go_wp2_with fail
        refine (spec_IsPerson_l p hf HI.out _).mono ?_
        rintro e w2 ⟨rfl, b2⟩
        replace BB := below_next BB (Nat.le_refl _) b2
        replace PA := PA.below b2
        clear cb c0 c1 c2 c3 c4
        go_wp2_with fail
        go_loopw [6, 7] (fun m i wr => ∃ k : Nat, k ≤ n ∧ i = .int .i64 k ∧ m = .int .i64 (bst ps p k : Nat) ∧ Below w.heap.size w wr ∧ PerAt wr w.heap.size p) (fun _ i _ => n - (intOf i).toNat)
        case atStart => exact ⟨0, Nat.zero_le _, rfl, rfl, BB, PA⟩
        case round =>
          obtain ⟨k, hk, rfl, rfl, BB, PA⟩ := hrel
          rename_i wr
          by_cases hlt : k < n
          · have hX := per_at (ps := ps) (k := k) (by have := hlen.out; omega)
            obtain ⟨q, hx⟩ := hX
            have fq := Lib.hid (FF.out.at_ hx)
            have bq := VB.out k q hx
            have HX := Lib.hid hx
            clear hx
            obtain ⟨a', n', c', hv, H⟩ := (HP.out.below BB).parts
            injection hv with hv1 hv2 hv3
            subst hv1 hv2 hv3
            obtain ⟨b, o, ha, hbb, hc⟩ := H.cells (by omega)
            subst ha
            by_cases hk0 : k = 0
            · subst hk0
              have hs := Lib.hid (bst_first (p := p) HX.out)
              have hl : lik q p = lik q p := rfl
              have hz0 : bst ps p 0 = 0 := rfl
              rw [hz0]
              clear hz0
              obtain ⟨c0, c1, c2, c3, c4⟩ := hc 0 q HX.out
              simp only [Nat.zero_mul, Nat.add_zero] at c0 c1 c2 c3 c4
              have hlik := Lib.hid (fun w => spec_lik_l q p fq.out hf bq bp w)
              generalize lik q p = r1 at *
              clear hl hc H
              obtain ⟨u0, u1, u2, u3, u4, u5⟩ := id PA
              go_wp2_with fail
              refine region_ext (by kernel_rfl) (by kernel_rfl) ?_
              repeat (go_big_quiet_step (((with_reducible_and_instances exact ext_call (hlik.out _)))))
              refine wpQuiet_nil ?_
              rintro _ ⟨nx, rfl⟩
              have b3 := ext_below _ nx
              generalize extW _ nx = w3 at *
              have BN := below_next BB (Nat.le_refl _) b3
              have PA' := PA.below b3
              clear c0 c1 c2 c3 c4 u0 u1 u2 u3 u4 u5
              go_wp2_with fail
              go_roundw
              case rel => exact ⟨1, by omega, by go_num, by rw [hs.out], BN, PA'⟩
              case measure => simp [intOf]; omega
            · have hbl : bst ps p k < k := by have := bst_le ps p (k - 1); rw [show k - 1 + 1 = k by omega] at this; omega
              have hM := per_at (ps := ps) (k := bst ps p k) (by have := hlen.out; omega)
              obtain ⟨m, hm⟩ := hM
              have fm := Lib.hid (FF.out.at_ hm)
              have bm := VB.out _ m hm
              have hs := bst_step (p := p) HX.out hm
              have HM := Lib.hid hm
              clear hm
              obtain ⟨c0, c1, c2, c3, c4⟩ := hc k q HX.out
              obtain ⟨d0, d1, d2, d3, d4⟩ := hc _ m HM.out
              have hlik1 := Lib.hid (fun w => spec_lik_l q p fq.out hf bq bp w)
              have hlik2 := Lib.hid (fun w => spec_lik_l m p fm.out hf bm bp w)
              clear hc H
              generalize lik q p = r1 at *
              generalize lik m p = r2 at *
              generalize hbk : bst ps p k = bk at *
              replace hbk := Lib.hid hbk
              by_cases q1 : r2 < r1
              · rw [if_pos q1] at hs
                replace hs := Lib.hid hs
                obtain ⟨u0, u1, u2, u3, u4, u5⟩ := id PA
                go_wp2_with fail
                refine region_ext (by kernel_rfl) (by kernel_rfl) ?_
                repeat (go_big_quiet_step (((first | with_reducible_and_instances exact ext_call (hlik1.out _) | with_reducible_and_instances exact ext_call (hlik2.out _)))))
                refine wpQuiet_nil ?_
                rintro _ ⟨nx, rfl⟩
                have b3 := ext_below _ nx
                generalize extW _ nx = w3 at *
                have BN := below_next BB (Nat.le_refl _) b3
                have PA' := PA.below b3
                clear c0 c1 c2 c3 c4 d0 d1 d2 d3 d4 u0 u1 u2 u3 u4 u5
                go_wp2_with fail
                go_roundw
                case rel => exact ⟨k + 1, by omega, by go_num, by rw [hs.out], BN, PA'⟩
                case measure => simp [intOf]; omega
              · rw [if_neg q1] at hs
                replace hs := Lib.hid hs
                replace q1 : r1 ≤ r2 := by omega
                obtain ⟨u0, u1, u2, u3, u4, u5⟩ := id PA
                go_wp2_with fail
                refine region_ext (by kernel_rfl) (by kernel_rfl) ?_
                repeat (go_big_quiet_step (((first | with_reducible_and_instances exact ext_call (hlik1.out _) | with_reducible_and_instances exact ext_call (hlik2.out _)))))
                refine wpQuiet_nil ?_
                rintro _ ⟨nx, rfl⟩
                have b3 := ext_below _ nx
                generalize extW _ nx = w3 at *
                have BN := below_next BB (Nat.le_refl _) b3
                have PA' := PA.below b3
                clear c0 c1 c2 c3 c4 d0 d1 d2 d3 d4 u0 u1 u2 u3 u4 u5
                go_wp2_with fail
                go_roundw
                case rel => exact ⟨k + 1, by omega, by go_num, by rw [hs.out], BN, PA'⟩
                case measure => simp [intOf]; omega
          · have hkn : k = n := by omega
            subst hkn
            have R1 : Hid (mstI ps p = (bst ps p k : Nat)) := Lib.hid (by unfold mstI; rw [if_pos ⟨HB.out, HI.out⟩, hlen.out])
            have R2 : Hid (mstE ps p = 0) := Lib.hid (by unfold mstE; rw [if_pos ⟨HB.out, HI.out⟩, hlen.out, if_neg (by omega)])
            go_wp2_with fail
            go_ret2
            exact ⟨ret2_i R1.out.symm R2.out.symm, BB⟩
end Go.Proofs.Ythnilifepiihjaa
