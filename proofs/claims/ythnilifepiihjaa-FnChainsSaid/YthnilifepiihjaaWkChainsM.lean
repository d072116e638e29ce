/-
  The walk of FnChains. Conditions: none but that the code reads as bytes.
-/
import Derived.Test.YthnilifepiihjaaRes
import Derived.Test.YthnilifepiihjaaKeeper
import Derived.Test.YthnilifepiihjaaLikeOf
import Derived.Test.YthnilifepiihjaaMost
import Derived.Test.YthnilifepiihjaaReg
import Derived.Test.YthnilifepiihjaaDrPer
import Derived.Test.YthnilifepiihjaaPersCopy
import Derived.Test.YthnilifepiihjaaLikeB
/-
  ChainBetween of both packages.
  Conditions: each lemma names its own.
-/
namespace Go.Proofs.Ythnilifepiihjaa
open Go.RowKit
set_option linter.unusedVariables false

theorem chn_len (adj : Nat → Nat → Bool) (n : Nat) (s : List Int) : ∀ d v, (chn adj n s d v).length = d + 1
  | 0, v => rfl
  | d + 1, v => by rw [chn, List.length_cons, chn_len]
theorem stp_most {adj : Nat → Nat → Bool} {n a : Nat} (ha : a < n) (k : Nat) (hk : k < n) : nth (stp adj n a) k ≤ (n : Int) + 1 := (roundsOf_ok (rounds_start ha) n).most k hk
def cbB (ps : List Per) (l a b : Int) : Bool := decide (0 ≤ nth (stp (adjB ps l) ps.length b.toNat) a.toNat)
def cbI (ps : List Per) (l a b : Int) : List Int := if jcode ps l [a, b] = 0 ∧ cbB ps l a b = true then natI (chn (adjB ps l) ps.length (stp (adjB ps l) ps.length b.toNat) (nth (stp (adjB ps l) ps.length b.toNat) a.toNat).toNat a.toNat) else []
def cbE (ps : List Per) (l a b : Int) : Int := if jcode ps l [a, b] = 0 then (if cbB ps l a b = true then 0 else 4) else jcode ps l [a, b]
theorem cb_range {ps : List Per} {l a b : Int} (q : jcode ps l [a, b] = 0) : persB ps = true ∧ (0 ≤ a ∧ a < ps.length) ∧ (0 ≤ b ∧ b < ps.length) := by
  obtain ⟨h1, _, h3⟩ := jcode_ok.1 q
  exact ⟨h1, h3 a (by simp), h3 b (by simp)⟩
theorem cbI_cnt (ps : List Per) (l a b : Int) : S_cnt (cbI ps l a b) ≤ 1000000 := by
  unfold cbI S_cnt
  by_cases q : jcode ps l [a, b] = 0 ∧ cbB ps l a b = true
  · rw [if_pos q, natI_len, chn_len]
    obtain ⟨h1, ha, hb⟩ := cb_range q.1
    have h2 := persB_len h1
    have h3 := stp_most (adj := adjB ps l) (n := ps.length) (a := b.toNat) (by omega) a.toNat (by omega)
    omega
  · rw [if_neg q]
    simp

set_option maxRecDepth 100000 in
set_option maxHeartbeats 4000000 in
theorem spec_Chain {v : Value} {ps : List Per} {w : World} (h : Persons w v ps) (hp : PersFit ps) (l a b : Int) :
    Calls Try.prog 33 #[v, .int .i64 l, .int .i64 a, .int .i64 b] w fun e w' => ∃ u, e = .returned (.tuple #[u, .int .i64 (cbE ps l a b)]) ∧ OwnI w.heap.size u (cbI ps l a b) w' ∧ Below w.heap.size w w' := by
  have HC := spec_l05Code h hp l a b
  have b0 : Below w.heap.size w w := Below.refl _ _
  have HG := fun (wr : World) (b : Below w.heap.size w wr) (hB : persB ps = true) (a : Nat) (ha : a < ps.length) => spec_steps (h.below b) hp hB l a ha
  obtain ⟨i0, hi, hz0, hz1, hz2⟩ := info_parts info_i64
  by_cases q : jcode ps l [a, b] = 0
  · obtain ⟨hB, ha, hb⟩ := cb_range q
    have R0 : cbE ps l a b = if cbB ps l a b = true then 0 else 4 := by unfold cbE; rw [if_pos q]
    have R1 : cbI ps l a b = if cbB ps l a b = true then natI (chn (adjB ps l) ps.length (stp (adjB ps l) ps.length b.toNat) (nth (stp (adjB ps l) ps.length b.toNat) a.toNat).toNat a.toNat) else [] := by
      unfold cbI
      by_cases e : cbB ps l a b = true
      · rw [if_pos ⟨q, e⟩, if_pos e]
      · rw [if_neg (fun h => e h.2), if_neg e]
    unfold cbB at R0 R1
    rw [R0, R1]
    rw [q] at HC
    replace HC := Lib.hid HC
    clear q R0 R1
    have hka : a = (a.toNat : Int) := by omega
    have hkb : b = (b.toNat : Int) := by omega
    generalize a.toNat = a' at *
    generalize b.toNat = b' at *
    subst hka hkb
    have han : a' < ps.length := by omega
    have hbn : b' < ps.length := by omega
    replace HG := Lib.hid fun (wr : World) (b : Below w.heap.size w wr) => HG wr b hB b' hbn
    have hS : Hid (Cert (adjB ps l) ps.length b' (stp (adjB ps l) ps.length b')) := Lib.hid (stp_cert hbn)
    have hm := Lib.hid (fun k hk => stp_most (adj := adjB ps l) hbn k hk)
    have hn12 : ps.length ≤ 12 := persB_len hB
    have VB := Lib.hid (fun k q hx => persB_born hB (k := k) (q := q) hx)
    obtain ⟨aa, n, c, rfl, H⟩ := h.parts
    have hlen := H.len
    have hcap := H.cap
    have hmost := H.most
    unfold maxLen at hmost
    have HP := Lib.hid h
    have FF := Lib.hid hp
    clear H h hp hB ha hb
    generalize hn : ps.length = n' at *
    obtain rfl : n' = n := hlen
    replace hn := Lib.hid hn
    generalize stp (adjB ps l) n' b' = S at *
    have hsl := Lib.hid hS.out.len
    by_cases q0 : 0 ≤ nth S a'
    · rw [if_pos (decide_eq_true q0), if_pos (decide_eq_true q0)]
      have hD := Lib.hid (show nth S a' = ((nth S a').toNat : Int) by omega)
      have hDm := hm.out a' han
      generalize hDD : (nth S a').toNat = D at *
      rw [hD.out] at hDm
      clear q0 hDD
      have hKl := Lib.hid (chn_len (adjB ps l) n' S D a')
      generalize hKK : chn (adjB ps l) n' S D a' = K at *
      have hK := Lib.hid hKK
      clear hKK
      go_enter Try.func33, Try.ntmps33
      go_wp2_with fail
      refine HC.out.mono ?_
      rintro e w1 ⟨rfl, b1⟩
      have BB := below_next b0 (Nat.le_refl _) b1
      clear b0 b1 HC
      go_wp2_with fail
      refine (HG.out _ BB).mono ?_
      rintro e w2 ⟨us, rfl, hs, b2⟩
      have hw1 := BB.size
      replace BB := below_next BB (Nat.le_refl _) b2
      clear b2 HG
      obtain ⟨aS, cS, rfl, hcS, hmS, hfS⟩ := own_form hs
      rw [hsl.out] at hcS hfS
      obtain ⟨gs, rfl, _, hgs⟩ := hfS (by omega)
      unfold maxLen at hmS
      clear hfS
      have d1 := (OwnI.at_ hs (k := a') (by rw [hsl.out]; exact han)).1
      rw [hD.out] at d1
      have ho0 : OwnI w.heap.size (.slice (some ⟨w2.heap.size, 0, none⟩) 1 1) (natI ([] ++ [a'])) (w2.alloc (.cells #[.int .i64 (a' : Int)] 2)) :=
        World.ownsRow_lit w2 #[.int .i64 (a' : Int)] 1 BB.size (by decide) rfl
      replace ho0 := Lib.hid ho0
      have hs0 := Lib.hid ((own_mono hs hw1).alloc (.cells #[.int .i64 (a' : Int)] 2))
      have hne0 : (Value.slice (some ⟨w2.heap.size, 0, none⟩) 1 1).ownBlock ≠ some gs := by simp [Value.ownBlock]; omega
      have BB0 := BB.alloc BB.size (.cells #[.int .i64 (a' : Int)] 2)
      rw [hsl.out] at hs0 ⊢
      clear hs BB hw1
      go_wp2_with fail
      clear d1
      go_loopw [2, 12] (fun x u wr => ∃ (c d : Nat) (done : List Nat), c < n' ∧ x = .int .i64 c ∧ Hid (nth S c = (d : Int)) ∧ Hid (done ++ chn (adjB ps l) n' S d c = K) ∧ Hid (OwnI w.heap.size u (natI (done ++ [c])) wr) ∧ Hid (wr.ownsRow w.heap.size 2 1 (.slice (some ⟨gs, 0, none⟩) n' cS) n' (S.map (Value.int .i64))) ∧ u.ownBlock ≠ some gs ∧ Below w.heap.size w wr) (fun x _ _ => (nth S (intOf x).toNat).toNat)
      case atStart => exact ⟨a', D, [], han, rfl, hD, hK, ho0, hs0, hne0, BB0⟩
      case round =>
        clear hK ho0 hs0 hne0 BB0 hD
        obtain ⟨c0, d, done, hc, rfl, hd, hK, ho, hs, hne, BB⟩ := hrel
        rename_i wr
        by_cases hcb : c0 = b'
        · subst hcb
          have hd0 : d = 0 := by have := hS.out.here; have := hd.out; omega
          subst hd0
          have hfin : Hid (done ++ [c0] = K) := hK
          rw [hfin.out] at ho
          have hq : ((c0 : Int) != (c0 : Int)) = false := by simp
          clear hfin hK
          go_wp2_with fail
          go_ret2
          exact ⟨_, rfl, ho.out, BB⟩
        · have hq : ((c0 : Int) != (b' : Int)) = true := by simp; omega
          have hsub : Hid (S.length = n') := hsl
          obtain ⟨g1, g2, g3, g4⟩ := nxt_is hS.out (adjB_comm ps l) hc hcb (by have := hd.out; omega)
          have hpred := (hS.out.pred c0 hc hcb (by have := hd.out; omega)).1
          obtain ⟨d', rfl⟩ : ∃ d', d = d' + 1 := ⟨d - 1, by have := hd.out; omega⟩
          have hK2 : Hid ((done ++ [c0]) ++ chn (adjB ps l) n' S d' (nxt (adjB ps l) n' S c0) = K) := Lib.hid (by rw [← hK.out, chn, List.append_assoc]; rfl)
          have hd2 : Hid (nth S (nxt (adjB ps l) n' S c0) = (d' : Int)) := Lib.hid (by rw [g2, hd.out]; omega)
          have hroom : (natI (done ++ [c0])).length ≤ 100 := by
            have h1 := congrArg List.length hK2.out
            rw [List.length_append, chn_len, hKl.out] at h1
            rw [natI_len]
            omega
          generalize nxt (adjB ps l) n' S c0 = N at *
          replace g3 := Lib.hid g3
          replace g4 := Lib.hid g4
          replace g2 := Lib.hid g2
          clear hpred hK
          have hX := per_at (ps := ps) (k := c0) (by have := hn.out; omega)
          obtain ⟨p, hx⟩ := hX
          have fp := Lib.hid (FF.out.at_ hx)
          have bp := Lib.hid (VB.out c0 p hx)
          have HX := Lib.hid hx
          clear hx
          obtain ⟨wo, rfl⟩ : ∃ wo : World, wo = wr := ⟨_, rfl⟩
          obtain ⟨bb, oo, hao⟩ := HP.out.form.2.2.2 (by omega)
          subst hao
          go_wp2_with fail
          go_loopw [13] (fun x wr => ∃ k : Nat, k ≤ N ∧ x = .int .i64 k ∧ Below wo.heap.size wo wr) (fun x _ => N - (intOf x).toNat)
          case atStart => exact ⟨0, Nat.zero_le _, rfl, Below.refl _ _⟩
          case round =>
            obtain ⟨k, hk, rfl, BI⟩ := hrel
            have hgs3 := (World.ownsRow.lt (own_below hs.out BI) gs rfl).2
            have hsI : OwnI w.heap.size (.slice (some ⟨gs, 0, none⟩) n' cS) S wr := by
              unfold OwnI
              rw [hsub.out]
              exact own_below hs.out BI
            have d1 := (OwnI.at_ hsI (k := k) (by rw [hsub.out]; omega)).1
            have d2 := (OwnI.at_ hsI (k := c0) (by rw [hsub.out]; omega)).1
            have r1 := hm.out k (by omega)
            have r2 := hm.out c0 hc
            have r3 := hS.out.low k (by omega)
            have r4 := hS.out.low c0 hc
            clear hsI
            by_cases hkN : k < N
            · by_cases q1 : nth S k = nth S c0 - 1
              · have hno : ¬ adjB ps l c0 k = true := fun h => g4.out k hkN ⟨q1, h⟩
                obtain ⟨q, hy⟩ := per_at (ps := ps) (k := k) (by have := hn.out; omega)
                have fq := Lib.hid (FF.out.at_ hy)
                have bq := Lib.hid (VB.out k q hy)
                obtain ⟨_, p0, p1, p2, p3, p4⟩ := (HP.out.below (below_next BB (Nat.le_refl _) BI)).at_ HX.out
                obtain ⟨_, x0, x1, x2, x3, x4⟩ := (HP.out.below (below_next BB (Nat.le_refl _) BI)).at_ hy
                have hlik := Lib.hid (fun w => spec_lik_l q p fq.out fp.out bq.out bp.out w)
                have hA := adjB_at (l := l) hy HX.out
                clear hy
                have q3 : lik q p < l := by
                  have : ¬ adjB ps l k c0 = true := by rw [adjB_comm]; exact hno
                  rw [hA] at this
                  exact Int.not_le.1 fun h => this (decide_eq_true h)
                have q1' : (nth S k != nth S c0 - 1) = false := by simp; omega
                clear hA hno q1
                generalize lik q p = lk at *
                generalize nth S k = sk at *
                generalize nth S c0 = sc at *
                go_wp2_with fail
                refine region_ext (by kernel_rfl) (by kernel_rfl) ?_
                repeat (go_big_quiet_step ((with_reducible_and_instances exact ext_call (hlik.out _))))
                refine wpQuiet_nil ?_
                rintro _ ⟨nx, rfl⟩
                have b3 := ext_below _ nx
                generalize extW _ nx = w3 at *
                replace BI := below_next BI (Nat.le_refl _) b3
                clear p0 p1 p2 p3 p4 x0 x1 x2 x3 x4 d1 d2
                go_wp2_with fail
                go_roundw
                case rel => exact ⟨k + 1, by omega, by go_num, BI⟩
                case measure => simp [intOf]; omega
              · have q1' : (nth S k != nth S c0 - 1) = true := by simp; omega
                clear q1
                generalize nth S k = sk at *
                generalize nth S c0 = sc at *
                go_wp2_with fail
                go_quiet (fail)
                go_wp2_with fail
                clear d1 d2
                go_roundw
                case rel => exact ⟨k + 1, by omega, by go_num, below_of_drewN BI _⟩
                case measure => simp [intOf]; omega
            · obtain rfl : k = N := by omega
              have q1 := g2.out
              obtain ⟨q, hy⟩ := per_at (ps := ps) (k := k) (by have := hn.out; omega)
              have fq := Lib.hid (FF.out.at_ hy)
              have bq := Lib.hid (VB.out k q hy)
              obtain ⟨_, p0, p1, p2, p3, p4⟩ := (HP.out.below (below_next BB (Nat.le_refl _) BI)).at_ HX.out
              obtain ⟨_, x0, x1, x2, x3, x4⟩ := (HP.out.below (below_next BB (Nat.le_refl _) BI)).at_ hy
              have hlik := Lib.hid (fun w => spec_lik_l q p fq.out fp.out bq.out bp.out w)
              have hA := adjB_at (l := l) hy HX.out
              clear hy
              have q3 : l ≤ lik q p := by
                have : adjB ps l k c0 = true := by rw [adjB_comm]; exact g3.out
                rw [hA] at this
                exact of_decide_eq_true this
              have q1' : (nth S k != nth S c0 - 1) = false := by simp; omega
              clear hA q1
              generalize lik q p = lk at *
              generalize hsk : nth S k = sk at *
              generalize hsc : nth S c0 = sc at *
              replace hsk := Lib.hid hsk
              replace hsc := Lib.hid hsc
              go_wp2_with fail
              refine region_ext (by kernel_rfl) (by kernel_rfl) ?_
              repeat (go_big_quiet_step ((with_reducible_and_instances exact ext_call (hlik.out _))))
              refine wpQuiet_nil ?_
              rintro _ ⟨nx, rfl⟩
              have b3 := ext_below _ nx
              generalize extW _ nx = w3 at *
              replace BI := below_next BI (Nat.le_refl _) b3
              clear p0 p1 p2 p3 p4 x0 x1 x2 x3 x4 d1 d2
              have BB5 := below_next BB (Nat.le_refl _) BI
              have ho1 := own_below ho.out BI
              have hs1 := own_below hs.out BI
              have hsz := BB5.size
              clear BI BB ho hs b3 hgs3
              go_wp2_with (at_builtin; refine wpList_append_own_at _ rfl _ _ 22 rfl w.heap.size 2 i0 (.int .i64 0) 1 8 Try.underlying22 hi hz0 hz1 hz2 rfl (by decide) _ _ _ rfl (World.ownsRow.alloc ho1 _) ⟨w3.heap.size, 0, none⟩ 1 1 [.int .i64 (k : Int)] rfl rfl ?c1 ?c2 ?c3 ?c4 ?c5 ?_)
              case c1 => exact single_at _ _ _
              case c2 => intro u hu; simp at hu; subst hu; rfl
              case c3 => unfold maxLen; omega
              case c4 => omega
              case c5 => simp; omega
              intro v' w6 hown' hgrow _ hat
              have hs2 := Lib.hid (World.ownsRow.kept (World.ownsRow.alloc hs1 _) hgrow (.inr (by simp only [Value.ownBlock]; exact fun e => hne e.symm)))
              have hb' := below_append BB5 hsz ho1 hgrow
              have hgl2 := (World.ownsRow.lt hs1 gs rfl).2
              have hne3 : v'.ownBlock ≠ some gs := by
                rcases hat with h | h
                · rw [h]; exact hne
                · rw [h]; intro e; injection e with e; first | omega | (simp at e; omega)
              have ho2 : Hid (OwnI w.heap.size v' (natI ((done ++ [c0]) ++ [k])) w6) := Lib.hid (by
                unfold OwnI
                rw [natI_snoc, List.length_append, List.map_append]
                exact hown')
              have hd3 : Hid (nth S k = (d' : Int)) := Lib.hid (by rw [hsk.out]; exact hd2.out)
              clear hown' hgrow hat ho1 hs1 hne BB5
              go_wp2_with fail
              go_roundw
              case rel => exact ⟨k, d', done ++ [c0], by omega, rfl, hd3, hK2, ho2, hs2, hne3, hb'⟩
              case measure =>
                have e1 := hd3.out
                have e2 := hsc.out
                have e3 := hd.out
                simp [intOf]
                omega
    · rw [if_neg (by simpa using q0), if_neg (by simpa using q0)]
      replace q0 : nth S a' < 0 := by omega
      go_enter Try.func33, Try.ntmps33
      go_wp2_with fail
      refine HC.out.mono ?_
      rintro e w1 ⟨rfl, b1⟩
      have BB := below_next b0 (Nat.le_refl _) b1
      clear b0 b1 HC
      go_wp2_with fail
      refine (HG.out _ BB).mono ?_
      rintro e w2 ⟨us, rfl, hs, b2⟩
      have hw1 := BB.size
      replace BB := below_next BB (Nat.le_refl _) b2
      clear b2 HG
      obtain ⟨aS, cS, rfl, hcS, hmS, hfS⟩ := own_form hs
      rw [hsl.out] at hcS hfS
      obtain ⟨gs, rfl, _, hgs⟩ := hfS (by omega)
      unfold maxLen at hmS
      clear hfS
      have d1 := (OwnI.at_ hs (k := a') (by rw [hsl.out]; exact han)).1
      clear hs
      rw [hsl.out]
      generalize nth S a' = sa at *
      go_wp2_with fail
      clear d1
      go_ret2
      exact ⟨_, rfl, World.ownsRow_nil _ _ _ _, BB⟩
  · have R1 : Hid (cbI ps l a b = []) := Lib.hid (by unfold cbI; rw [if_neg (fun h => q h.1)])
    have R0 : Hid (cbE ps l a b = jcode ps l [a, b]) := Lib.hid (by unfold cbE; rw [if_neg q])
    have q1 : (jcode ps l [a, b] != 0) = true := by simpa using q
    rw [R1.out, R0.out]
    replace HC := Lib.hid HC
    clear q R1 R0 HG
    generalize jcode ps l [a, b] = cc at *
    go_enter Try.func33, Try.ntmps33
    go_wp2_with fail
    refine HC.out.mono ?_
    rintro e w1 ⟨rfl, b1⟩
    have BB := below_next b0 (Nat.le_refl _) b1
    go_wp2_with fail
    go_ret2
    exact ⟨_, rfl, World.ownsRow_nil _ _ _ _, BB⟩
set_option maxRecDepth 100000 in
set_option maxHeartbeats 4000000 in
theorem impl_Chain {v : Value} {ps : List Per} {w : World} (h : Persons w v ps) (hp : PersFit ps) (l a b : Int) :
    Calls Try.prog 32 #[v, .int .i64 l, .int .i64 a, .int .i64 b] w fun e w' => ∃ u, e = .returned (.tuple #[u, .int .i64 (cbE ps l a b)]) ∧ OwnI w.heap.size u (cbI ps l a b) w' ∧ Below w.heap.size w w' := by
  have HC := impl_joinCode (h.alloc (.cells #[.int .i64 a, .int .i64 b] 2)) hp (ints_lit2 w a b 2) l
  have b0 : Below w.heap.size w (w.alloc (.cells #[.int .i64 a, .int .i64 b] 2)) := (Below.refl _ _).alloc (Nat.le_refl _) _
  have HG := fun (wr : World) (b : Below w.heap.size w wr) (hB : persB ps = true) (a : Nat) (ha : a < ps.length) => impl_steps (h.below b) hp hB l a ha
  obtain ⟨i0, hi, hz0, hz1, hz2⟩ := info_parts info_i64
  by_cases q : jcode ps l [a, b] = 0
  · obtain ⟨hB, ha, hb⟩ := cb_range q
    have R0 : cbE ps l a b = if cbB ps l a b = true then 0 else 4 := by unfold cbE; rw [if_pos q]
    have R1 : cbI ps l a b = if cbB ps l a b = true then natI (chn (adjB ps l) ps.length (stp (adjB ps l) ps.length b.toNat) (nth (stp (adjB ps l) ps.length b.toNat) a.toNat).toNat a.toNat) else [] := by
      unfold cbI
      by_cases e : cbB ps l a b = true
      · rw [if_pos ⟨q, e⟩, if_pos e]
      · rw [if_neg (fun h => e h.2), if_neg e]
    unfold cbB at R0 R1
    rw [R0, R1]
    rw [q] at HC
    replace HC := Lib.hid HC
    clear q R0 R1
    have hka : a = (a.toNat : Int) := by omega
    have hkb : b = (b.toNat : Int) := by omega
    generalize a.toNat = a' at *
    generalize b.toNat = b' at *
    subst hka hkb
    have han : a' < ps.length := by omega
    have hbn : b' < ps.length := by omega
    replace HG := Lib.hid fun (wr : World) (b : Below w.heap.size w wr) => HG wr b hB b' hbn
    have hS : Hid (Cert (adjB ps l) ps.length b' (stp (adjB ps l) ps.length b')) := Lib.hid (stp_cert hbn)
    have hm := Lib.hid (fun k hk => stp_most (adj := adjB ps l) hbn k hk)
    have hn12 : ps.length ≤ 12 := persB_len hB
    have VB := Lib.hid (fun k q hx => persB_born hB (k := k) (q := q) hx)
    obtain ⟨aa, n, c, rfl, H⟩ := h.parts
    have hlen := H.len
    have hcap := H.cap
    have hmost := H.most
    unfold maxLen at hmost
    have HP := Lib.hid h
    have FF := Lib.hid hp
    clear H h hp hB ha hb
    generalize hn : ps.length = n' at *
    obtain rfl : n' = n := hlen
    replace hn := Lib.hid hn
    generalize stp (adjB ps l) n' b' = S at *
    have hsl := Lib.hid hS.out.len
    by_cases q0 : 0 ≤ nth S a'
    · rw [if_pos (decide_eq_true q0), if_pos (decide_eq_true q0)]
      have hD := Lib.hid (show nth S a' = ((nth S a').toNat : Int) by omega)
      have hDm := hm.out a' han
      generalize hDD : (nth S a').toNat = D at *
      rw [hD.out] at hDm
      clear q0 hDD
      have hKl := Lib.hid (chn_len (adjB ps l) n' S D a')
      generalize hKK : chn (adjB ps l) n' S D a' = K at *
      have hK := Lib.hid hKK
      clear hKK
      go_enter Try.func32, Try.ntmps32
      go_wp2_with fail
      refine HC.out.mono ?_
      rintro e w1 ⟨rfl, b1⟩
      have BB := below_next b0 (Nat.le_refl _) b1
      clear b0 b1 HC
      go_wp2_with fail
      refine (HG.out _ BB).mono ?_
      rintro e w2 ⟨us, rfl, hs, b2⟩
      have hw1 := BB.size
      replace BB := below_next BB (Nat.le_refl _) b2
      clear b2 HG
      obtain ⟨aS, cS, rfl, hcS, hmS, hfS⟩ := own_form hs
      rw [hsl.out] at hcS hfS
      obtain ⟨gs, rfl, _, hgs⟩ := hfS (by omega)
      unfold maxLen at hmS
      clear hfS
      have d1 := (OwnI.at_ hs (k := a') (by rw [hsl.out]; exact han)).1
      rw [hD.out] at d1
      have ho0 : OwnI w.heap.size (.slice (some ⟨w2.heap.size, 0, none⟩) 1 1) (natI ([] ++ [a'])) (w2.alloc (.cells #[.int .i64 (a' : Int)] 2)) :=
        World.ownsRow_lit w2 #[.int .i64 (a' : Int)] 1 BB.size (by decide) rfl
      replace ho0 := Lib.hid ho0
      have hs0 := Lib.hid ((own_mono hs hw1).alloc (.cells #[.int .i64 (a' : Int)] 2))
      have hne0 : (Value.slice (some ⟨w2.heap.size, 0, none⟩) 1 1).ownBlock ≠ some gs := by simp [Value.ownBlock]; omega
      have BB0 := BB.alloc BB.size (.cells #[.int .i64 (a' : Int)] 2)
      rw [hsl.out] at hs0 ⊢
      clear hs BB hw1
      go_wp2_with fail
      clear d1
      go_loopw [12, 13] (fun u x wr => ∃ (c d : Nat) (done : List Nat), c < n' ∧ x = .int .i64 c ∧ Hid (nth S c = (d : Int)) ∧ Hid (done ++ chn (adjB ps l) n' S d c = K) ∧ Hid (OwnI w.heap.size u (natI (done ++ [c])) wr) ∧ Hid (wr.ownsRow w.heap.size 2 1 (.slice (some ⟨gs, 0, none⟩) n' cS) n' (S.map (Value.int .i64))) ∧ u.ownBlock ≠ some gs ∧ Below w.heap.size w wr) (fun _ x _ => (nth S (intOf x).toNat).toNat)
      case atStart => exact ⟨a', D, [], han, rfl, hD, hK, ho0, hs0, hne0, BB0⟩
      case round =>
        clear hK ho0 hs0 hne0 BB0 hD
        obtain ⟨c0, d, done, hc, rfl, hd, hK, ho, hs, hne, BB⟩ := hrel
        rename_i wr
        by_cases hcb : c0 = b'
        · subst hcb
          have hd0 : d = 0 := by have := hS.out.here; have := hd.out; omega
          subst hd0
          have hfin : Hid (done ++ [c0] = K) := hK
          rw [hfin.out] at ho
          have hq : ((c0 : Int) != (c0 : Int)) = false := by simp
          clear hfin hK
          go_wp2_with fail
          go_ret2
          exact ⟨_, rfl, ho.out, BB⟩
        · have hq : ((c0 : Int) != (b' : Int)) = true := by simp; omega
          have hsub : Hid (S.length = n') := hsl
          obtain ⟨g1, g2, g3, g4⟩ := nxt_is hS.out (adjB_comm ps l) hc hcb (by have := hd.out; omega)
          have hpred := (hS.out.pred c0 hc hcb (by have := hd.out; omega)).1
          obtain ⟨d', rfl⟩ : ∃ d', d = d' + 1 := ⟨d - 1, by have := hd.out; omega⟩
          have hK2 : Hid ((done ++ [c0]) ++ chn (adjB ps l) n' S d' (nxt (adjB ps l) n' S c0) = K) := Lib.hid (by rw [← hK.out, chn, List.append_assoc]; rfl)
          have hd2 : Hid (nth S (nxt (adjB ps l) n' S c0) = (d' : Int)) := Lib.hid (by rw [g2, hd.out]; omega)
          have hroom : (natI (done ++ [c0])).length ≤ 100 := by
            have h1 := congrArg List.length hK2.out
            rw [List.length_append, chn_len, hKl.out] at h1
            rw [natI_len]
            omega
          generalize nxt (adjB ps l) n' S c0 = N at *
          replace g3 := Lib.hid g3
          replace g4 := Lib.hid g4
          replace g2 := Lib.hid g2
          clear hpred hK
          have hX := per_at (ps := ps) (k := c0) (by have := hn.out; omega)
          obtain ⟨p, hx⟩ := hX
          have fp := Lib.hid (FF.out.at_ hx)
          have bp := Lib.hid (VB.out c0 p hx)
          have HX := Lib.hid hx
          clear hx
          obtain ⟨wo, rfl⟩ : ∃ wo : World, wo = wr := ⟨_, rfl⟩
          obtain ⟨bb, oo, hao⟩ := HP.out.form.2.2.2 (by omega)
          subst hao
          go_wp2_with fail
          go_loopw [13, 41] (fun v x wr => ∃ k : Nat, k ≤ N ∧ v = .int .i64 c0 ∧ x = .int .i64 k ∧ Below wo.heap.size wo wr) (fun _ x _ => N - (intOf x).toNat)
          case atStart => exact ⟨0, Nat.zero_le _, rfl, rfl, Below.refl _ _⟩
          case round =>
            obtain ⟨k, hk, rfl, rfl, BI⟩ := hrel
            have hgs3 := (World.ownsRow.lt (own_below hs.out BI) gs rfl).2
            have hsI : OwnI w.heap.size (.slice (some ⟨gs, 0, none⟩) n' cS) S wr := by
              unfold OwnI
              rw [hsub.out]
              exact own_below hs.out BI
            have d1 := (OwnI.at_ hsI (k := k) (by rw [hsub.out]; omega)).1
            have d2 := (OwnI.at_ hsI (k := c0) (by rw [hsub.out]; omega)).1
            have r1 := hm.out k (by omega)
            have r2 := hm.out c0 hc
            have r3 := hS.out.low k (by omega)
            have r4 := hS.out.low c0 hc
            clear hsI
            by_cases hkN : k < N
            · by_cases q1 : nth S k = nth S c0 - 1
              · have hno : ¬ adjB ps l c0 k = true := fun h => g4.out k hkN ⟨q1, h⟩
                obtain ⟨q, hy⟩ := per_at (ps := ps) (k := k) (by have := hn.out; omega)
                have fq := Lib.hid (FF.out.at_ hy)
                have bq := Lib.hid (VB.out k q hy)
                obtain ⟨_, p0, p1, p2, p3, p4⟩ := (HP.out.below (below_next BB (Nat.le_refl _) BI)).at_ HX.out
                obtain ⟨_, x0, x1, x2, x3, x4⟩ := (HP.out.below (below_next BB (Nat.le_refl _) BI)).at_ hy
                have hlik := Lib.hid (fun w => impl_lik_l p q fp.out fq.out bp.out bq.out w)
                have hA := adjB_at (l := l) HX.out hy
                clear hy
                have q3 : lik p q < l := by
                  have : ¬ adjB ps l c0 k = true := by exact hno
                  rw [hA] at this
                  exact Int.not_le.1 fun h => this (decide_eq_true h)
                have q1' : (nth S k == nth S c0 - 1) = true := by simp; omega
                clear hA hno q1
                generalize lik p q = lk at *
                generalize nth S k = sk at *
                generalize nth S c0 = sc at *
                go_wp2_with fail
                refine region_ext (by kernel_rfl) (by kernel_rfl) ?_
                repeat (go_big_quiet_step ((with_reducible_and_instances exact ext_call (hlik.out _))))
                refine wpQuiet_nil ?_
                rintro _ ⟨nx, rfl⟩
                have b3 := ext_below _ nx
                generalize extW _ nx = w3 at *
                replace BI := below_next BI (Nat.le_refl _) b3
                clear p0 p1 p2 p3 p4 x0 x1 x2 x3 x4 d1 d2
                go_wp2_with fail
                go_roundw
                case rel => exact ⟨k + 1, by omega, rfl, by go_num, BI⟩
                case measure => simp [intOf]; omega
              · have q1' : (nth S k == nth S c0 - 1) = false := by simp; omega
                clear q1
                generalize nth S k = sk at *
                generalize nth S c0 = sc at *
                go_wp2_with fail
                go_quiet (fail)
                go_wp2_with fail
                clear d1 d2
                go_roundw
                case rel => exact ⟨k + 1, by omega, rfl, by go_num, below_of_drewN BI _⟩
                case measure => simp [intOf]; omega
            · obtain rfl : k = N := by omega
              have q1 := g2.out
              obtain ⟨q, hy⟩ := per_at (ps := ps) (k := k) (by have := hn.out; omega)
              have fq := Lib.hid (FF.out.at_ hy)
              have bq := Lib.hid (VB.out k q hy)
              obtain ⟨_, p0, p1, p2, p3, p4⟩ := (HP.out.below (below_next BB (Nat.le_refl _) BI)).at_ HX.out
              obtain ⟨_, x0, x1, x2, x3, x4⟩ := (HP.out.below (below_next BB (Nat.le_refl _) BI)).at_ hy
              have hlik := Lib.hid (fun w => impl_lik_l p q fp.out fq.out bp.out bq.out w)
              have hA := adjB_at (l := l) HX.out hy
              clear hy
              have q3 : l ≤ lik p q := by
                have : adjB ps l c0 k = true := by exact g3.out
                rw [hA] at this
                exact of_decide_eq_true this
              have q1' : (nth S k == nth S c0 - 1) = true := by simp; omega
              clear hA q1
              generalize lik p q = lk at *
              generalize hsk : nth S k = sk at *
              generalize hsc : nth S c0 = sc at *
              replace hsk := Lib.hid hsk
              replace hsc := Lib.hid hsc
              go_wp2_with fail
              refine region_ext (by kernel_rfl) (by kernel_rfl) ?_
              repeat (go_big_quiet_step ((with_reducible_and_instances exact ext_call (hlik.out _))))
              refine wpQuiet_nil ?_
              rintro _ ⟨nx, rfl⟩
              have b3 := ext_below _ nx
              generalize extW _ nx = w3 at *
              replace BI := below_next BI (Nat.le_refl _) b3
              clear p0 p1 p2 p3 p4 x0 x1 x2 x3 x4 d1 d2
              have BB5 := below_next BB (Nat.le_refl _) BI
              have ho1 := own_below ho.out BI
              have hs1 := own_below hs.out BI
              have hsz := BB5.size
              clear BI BB ho hs b3 hgs3
              go_wp2_with (at_builtin; refine wpList_append_own_at _ rfl _ _ 22 rfl w.heap.size 2 i0 (.int .i64 0) 1 8 Try.underlying22 hi hz0 hz1 hz2 rfl (by decide) _ _ _ rfl (World.ownsRow.alloc ho1 _) ⟨w3.heap.size, 0, none⟩ 1 1 [.int .i64 (k : Int)] rfl rfl ?c1 ?c2 ?c3 ?c4 ?c5 ?_)
              case c1 => exact single_at _ _ _
              case c2 => intro u hu; simp at hu; subst hu; rfl
              case c3 => unfold maxLen; omega
              case c4 => omega
              case c5 => simp; omega
              intro v' w6 hown' hgrow _ hat
              have hs2 := Lib.hid (World.ownsRow.kept (World.ownsRow.alloc hs1 _) hgrow (.inr (by simp only [Value.ownBlock]; exact fun e => hne e.symm)))
              have hb' := below_append BB5 hsz ho1 hgrow
              have hgl2 := (World.ownsRow.lt hs1 gs rfl).2
              have hne3 : v'.ownBlock ≠ some gs := by
                rcases hat with h | h
                · rw [h]; exact hne
                · rw [h]; intro e; injection e with e; first | omega | (simp at e; omega)
              have ho2 : Hid (OwnI w.heap.size v' (natI ((done ++ [c0]) ++ [k])) w6) := Lib.hid (by
                unfold OwnI
                rw [natI_snoc, List.length_append, List.map_append]
                exact hown')
              have hd3 : Hid (nth S k = (d' : Int)) := Lib.hid (by rw [hsk.out]; exact hd2.out)
              clear hown' hgrow hat ho1 hs1 hne BB5
              go_wp2_with fail
              go_roundw
              case rel => exact ⟨k, d', done ++ [c0], by omega, rfl, hd3, hK2, ho2, hs2, hne3, hb'⟩
              case measure =>
                have e1 := hd3.out
                have e2 := hsc.out
                have e3 := hd.out
                simp [intOf]
                omega
    · rw [if_neg (by simpa using q0), if_neg (by simpa using q0)]
      replace q0 : nth S a' < 0 := by omega
      go_enter Try.func32, Try.ntmps32
      go_wp2_with fail
      refine HC.out.mono ?_
      rintro e w1 ⟨rfl, b1⟩
      have BB := below_next b0 (Nat.le_refl _) b1
      clear b0 b1 HC
      go_wp2_with fail
      refine (HG.out _ BB).mono ?_
      rintro e w2 ⟨us, rfl, hs, b2⟩
      have hw1 := BB.size
      replace BB := below_next BB (Nat.le_refl _) b2
      clear b2 HG
      obtain ⟨aS, cS, rfl, hcS, hmS, hfS⟩ := own_form hs
      rw [hsl.out] at hcS hfS
      obtain ⟨gs, rfl, _, hgs⟩ := hfS (by omega)
      unfold maxLen at hmS
      clear hfS
      have d1 := (OwnI.at_ hs (k := a') (by rw [hsl.out]; exact han)).1
      clear hs
      rw [hsl.out]
      generalize nth S a' = sa at *
      go_wp2_with fail
      clear d1
      go_ret2
      exact ⟨_, rfl, World.ownsRow_nil _ _ _ _, BB⟩
  · have R1 : Hid (cbI ps l a b = []) := Lib.hid (by unfold cbI; rw [if_neg (fun h => q h.1)])
    have R0 : Hid (cbE ps l a b = jcode ps l [a, b]) := Lib.hid (by unfold cbE; rw [if_neg q])
    have q1 : (jcode ps l [a, b] != 0) = true := by simpa using q
    rw [R1.out, R0.out]
    replace HC := Lib.hid HC
    clear q R1 R0 HG
    generalize jcode ps l [a, b] = cc at *
    go_enter Try.func32, Try.ntmps32
    go_wp2_with fail
    refine HC.out.mono ?_
    rintro e w1 ⟨rfl, b1⟩
    have BB := below_next b0 (Nat.le_refl _) b1
    go_wp2_with fail
    go_ret2
    exact ⟨_, rfl, World.ownsRow_nil _ _ _ _, BB⟩
end Go.Proofs.Ythnilifepiihjaa

/-
  LikenessOf and AreAlike of both packages, for all persons at once; what the law on likeness needs.
  Conditions: each lemma names its own.
-/
namespace Go.Proofs.Ythnilifepiihjaa
open Go.RowKit
set_option linter.unusedVariables false

def lkI (p q : Per) : Int := if perB p = true ∧ perB q = true then lik p q else 0
def lkE (p q : Per) : Int := if perB p = true ∧ perB q = true then 0 else 1
def aaE (p q : Per) (l : Int) : Int := if perB p = true ∧ perB q = true then (if 0 ≤ l ∧ l ≤ 100 then 0 else 2) else 1
def aaB (p q : Per) (l : Int) : Bool := if perB p = true ∧ perB q = true then (if 0 ≤ l ∧ l ≤ 100 then decide (l ≤ lik p q) else false) else false
theorem impl_Lk (p q : Per) (hp : PerFit p) (hq : PerFit q) (w : World) :
    Calls Try.prog 16 #[.agg #[.int .i64 p.number, .string p.first, .string p.last, .int .i64 p.born, .int .i64 p.zone], .agg #[.int .i64 q.number, .string q.first, .string q.last, .int .i64 q.born, .int .i64 q.zone]] w fun e w' => e = .returned (.tuple #[.int .i64 (lkI p q), .int .i64 (lkE p q)]) ∧ Below w.heap.size w w' := by
  unfold lkI lkE
  cases kp : perB p with
  | false => simp only [Bool.false_eq_true, false_and, if_false]; exact impl_LikenessOf_bad1 p hp q hq kp w
  | true =>
    cases kq : perB q with
    | false => simp only [Bool.false_eq_true, and_false, if_false]; exact impl_LikenessOf_bad2 p hp q hq kp kq w
    | true => simp only [and_self, if_true]; exact impl_LikenessOf_ok p hp q hq kp kq w
theorem impl_Aa (p q : Per) (hp : PerFit p) (hq : PerFit q) (l : Int) (w : World) :
    Calls Try.prog 19 #[.agg #[.int .i64 p.number, .string p.first, .string p.last, .int .i64 p.born, .int .i64 p.zone], .agg #[.int .i64 q.number, .string q.first, .string q.last, .int .i64 q.born, .int .i64 q.zone], .int .i64 l] w fun e w' => e = .returned (.tuple #[.bool (aaB p q l), .int .i64 (aaE p q l)]) ∧ Below w.heap.size w w' := by
  unfold aaB aaE
  cases kp : perB p with
  | false => simp only [Bool.false_eq_true, false_and, if_false]; exact impl_AreAlike_bad1 p hp q hq l kp w
  | true =>
    cases kq : perB q with
    | false => simp only [Bool.false_eq_true, and_false, if_false]; exact impl_AreAlike_bad2 p hp q hq l kp kq w
    | true =>
      simp only [and_self, if_true]
      by_cases hl : 0 ≤ l ∧ l ≤ 100
      · rw [if_pos hl, if_pos hl]; exact impl_AreAlike_ok p hp q hq l kp kq hl w
      · rw [if_neg hl, if_neg hl]; exact impl_AreAlike_range p hp q hq l kp kq (by omega) w
theorem impl_MostL {v : Value} {ps : List Per} {w : World} (h : Persons w v ps) (hp : PersFit ps) (p : Per) (hf : PerFit p) :
    Calls Try.prog 22 #[v, .agg #[.int .i64 p.number, .string p.first, .string p.last, .int .i64 p.born, .int .i64 p.zone]] w fun e w' => e = .returned (.tuple #[.int .i64 (mstI ps p), .int .i64 (mstE ps p)]) ∧ Below w.heap.size w w' := impl_Most h hp p hf
theorem impl_IsPerL (p : Per) (hp : PerFit p) (w : World) : Calls Try.prog 27 #[.agg #[.int .i64 p.number, .string p.first, .string p.last, .int .i64 p.born, .int .i64 p.zone]] w fun e w' => e = .returned (.bool (perB p)) ∧ Below w.heap.size w w' := impl_IsPerson p hp w
theorem spec_Lk (p q : Per) (hp : PerFit p) (hq : PerFit q) (w : World) :
    Calls Try.prog 17 #[.agg #[.int .i64 p.number, .string p.first, .string p.last, .int .i64 p.born, .int .i64 p.zone], .agg #[.int .i64 q.number, .string q.first, .string q.last, .int .i64 q.born, .int .i64 q.zone]] w fun e w' => e = .returned (.tuple #[.int .i64 (lkI p q), .int .i64 (lkE p q)]) ∧ Below w.heap.size w w' := by
  unfold lkI lkE
  cases kp : perB p with
  | false => simp only [Bool.false_eq_true, false_and, if_false]; exact spec_LikenessOf_bad1 p hp q hq kp w
  | true =>
    cases kq : perB q with
    | false => simp only [Bool.false_eq_true, and_false, if_false]; exact spec_LikenessOf_bad2 p hp q hq kp kq w
    | true => simp only [and_self, if_true]; exact spec_LikenessOf_ok p hp q hq kp kq w
theorem spec_Aa (p q : Per) (hp : PerFit p) (hq : PerFit q) (l : Int) (w : World) :
    Calls Try.prog 20 #[.agg #[.int .i64 p.number, .string p.first, .string p.last, .int .i64 p.born, .int .i64 p.zone], .agg #[.int .i64 q.number, .string q.first, .string q.last, .int .i64 q.born, .int .i64 q.zone], .int .i64 l] w fun e w' => e = .returned (.tuple #[.bool (aaB p q l), .int .i64 (aaE p q l)]) ∧ Below w.heap.size w w' := by
  unfold aaB aaE
  cases kp : perB p with
  | false => simp only [Bool.false_eq_true, false_and, if_false]; exact spec_AreAlike_bad1 p hp q hq l kp w
  | true =>
    cases kq : perB q with
    | false => simp only [Bool.false_eq_true, and_false, if_false]; exact spec_AreAlike_bad2 p hp q hq l kp kq w
    | true =>
      simp only [and_self, if_true]
      by_cases hl : 0 ≤ l ∧ l ≤ 100
      · rw [if_pos hl, if_pos hl]; exact spec_AreAlike_ok p hp q hq l kp kq hl w
      · rw [if_neg hl, if_neg hl]; exact spec_AreAlike_range p hp q hq l kp kq (by omega) w
theorem spec_MostL {v : Value} {ps : List Per} {w : World} (h : Persons w v ps) (hp : PersFit ps) (p : Per) (hf : PerFit p) :
    Calls Try.prog 23 #[v, .agg #[.int .i64 p.number, .string p.first, .string p.last, .int .i64 p.born, .int .i64 p.zone]] w fun e w' => e = .returned (.tuple #[.int .i64 (mstI ps p), .int .i64 (mstE ps p)]) ∧ Below w.heap.size w w' := spec_Most h hp p hf
theorem spec_IsPerL (p : Per) (hp : PerFit p) (w : World) : Calls Try.prog 28 #[.agg #[.int .i64 p.number, .string p.first, .string p.last, .int .i64 p.born, .int .i64 p.zone]] w fun e w' => e = .returned (.bool (perB p)) ∧ Below w.heap.size w w' := spec_IsPerson p hp w
theorem lk_back {p q : Per} (h : lkE p q = 0) : lkE q p = 0 ∧ lkI q p = lkI p q ∧ lkE p p = 0 ∧ lkI p p = 100 := by
  unfold lkE at h
  by_cases k : perB p = true ∧ perB q = true
  · unfold lkE lkI
    rw [if_pos k, if_pos ⟨k.2, k.1⟩, if_pos ⟨k.2, k.1⟩, if_pos ⟨k.1, k.1⟩, if_pos ⟨k.1, k.1⟩, lik_self]
    exact ⟨rfl, lik_comm q p, rfl, rfl⟩
  · rw [if_neg k] at h
    cases h
theorem lk_most {ps : List Per} {p : Per} (h : mstE ps p = 0) : ∃ k : Nat, k < ps.length ∧ mstI ps p = k ∧ ∀ (i : Nat) (q m : Per), ps[i]? = some q → ps[k]? = some m → lkE q p = 0 ∧ lkE m p = 0 ∧ lkI q p ≤ lkI m p := by
  unfold mstE at h
  by_cases k : persB ps = true ∧ perB p = true
  · rw [if_pos k] at h
    by_cases hn : ps.length = 0
    · rw [if_pos hn] at h
      cases h
    · have hlt : bst ps p ps.length < ps.length := by
        have := bst_le ps p (ps.length - 1)
        rw [show ps.length - 1 + 1 = ps.length by omega] at this
        omega
      refine ⟨bst ps p ps.length, hlt, by unfold mstI; rw [if_pos k], fun i q m hq hm => ?_⟩
      have bq := persB_at k.1 hq
      have bm := persB_at k.1 hm
      unfold lkE lkI
      rw [if_pos ⟨bq, k.2⟩, if_pos ⟨bm, k.2⟩, if_pos ⟨bq, k.2⟩, if_pos ⟨bm, k.2⟩]
      refine ⟨rfl, rfl, ?_⟩
      have := bst_most ps p ps.length i (List.getElem?_eq_some_iff.1 hq).1
      rwa [getD_per hq, getD_per hm] at this
  · rw [if_neg k] at h
    cases h
theorem mst_k {ps : List Per} {p : Per} : 0 ≤ mstI ps p ∧ mstI ps p ≤ ps.length := by
  unfold mstI
  split
  · have : bst ps p ps.length ≤ ps.length := by
      cases hl : ps.length with
      | zero => exact Nat.le_refl _
      | succ n => have := bst_le ps p n; omega
    omega
  · omega
theorem two_pers (w : World) (p q : Per) (t : TypeId) : PerAt ((w.alloc (.cells #[.int .i64 p.number, .string p.first, .string p.last, .int .i64 p.born, .int .i64 p.zone] t)).alloc (.cells #[.int .i64 q.number, .string q.first, .string q.last, .int .i64 q.born, .int .i64 q.zone] t)) w.heap.size p ∧
    PerAt ((w.alloc (.cells #[.int .i64 p.number, .string p.first, .string p.last, .int .i64 p.born, .int .i64 p.zone] t)).alloc (.cells #[.int .i64 q.number, .string q.first, .string q.last, .int .i64 q.born, .int .i64 q.zone] t)) (w.heap.size + 1) q ∧
    Below w.heap.size w ((w.alloc (.cells #[.int .i64 p.number, .string p.first, .string p.last, .int .i64 p.born, .int .i64 p.zone] t)).alloc (.cells #[.int .i64 q.number, .string q.first, .string q.last, .int .i64 q.born, .int .i64 q.zone] t)) := by
  have h1 := perAt_new w p t
  have h2 := perAt_new (w.alloc (.cells #[.int .i64 p.number, .string p.first, .string p.last, .int .i64 p.born, .int .i64 p.zone] t)) q t
  rw [show (w.alloc (.cells #[.int .i64 p.number, .string p.first, .string p.last, .int .i64 p.born, .int .i64 p.zone] t)).heap.size = w.heap.size + 1 by simp] at h2
  have b1 : Below w.heap.size w (w.alloc (.cells #[.int .i64 p.number, .string p.first, .string p.last, .int .i64 p.born, .int .i64 p.zone] t)) := (Below.refl _ _).alloc (Nat.le_refl _) _
  exact ⟨h1.below ((Below.refl _ _).alloc (Nat.le_refl _) _), h2, b1.alloc b1.size _⟩
end Go.Proofs.Ythnilifepiihjaa

/-
  What the law on chains needs, in plain words: chains end where they should, neighbours are alike, the way back is as long.
  Conditions: none of its own; every lemma names what it takes.
-/
namespace Go.Proofs.Ythnilifepiihjaa
open Go.RowKit
set_option linter.unusedVariables false

theorem chn_ok {adj : Nat → Nat → Bool} {n b : Nat} {s : List Int} (h : Cert adj n b s) (hs : ∀ i j, adj i j = adj j i) : ∀ (d v : Nat), v < n → nth s v = d →
    (chn adj n s d v)[0]? = some v ∧ (chn adj n s d v)[d]? = some b ∧ ∀ i, i < d → ∃ x y, (chn adj n s d v)[i]? = some x ∧ (chn adj n s d v)[i + 1]? = some y ∧ x < n ∧ y < n ∧ adj x y = true := by
  intro d
  induction d with
  | zero =>
    intro v hv hd
    have e : v = b := by
      by_cases e : v = b
      · exact e
      · have := (h.pred v hv e (by omega)).1; omega
    subst e
    exact ⟨rfl, rfl, fun i hi => by omega⟩
  | succ d ih =>
    intro v hv hd
    have hvb : v ≠ b := by
      rintro rfl
      have := h.here
      omega
    obtain ⟨n1, n2, n3, _⟩ := nxt_is h hs hv hvb (by omega)
    obtain ⟨g1, g2, g3⟩ := ih (nxt adj n s v) n1 (by omega)
    refine ⟨rfl, ?_, fun i hi => ?_⟩
    · rw [chn, List.getElem?_cons_succ]
      exact g2
    · cases i with
      | zero => exact ⟨v, nxt adj n s v, rfl, by rw [chn, List.getElem?_cons_succ]; exact g1, hv, n1, n3⟩
      | succ i =>
        obtain ⟨x, y, h1, h2, h3⟩ := g3 i (by omega)
        exact ⟨x, y, by rw [chn, List.getElem?_cons_succ]; exact h1, by rw [chn, List.getElem?_cons_succ]; exact h2, h3⟩
theorem stp_back {adj : Nat → Nat → Bool} {n a b : Nat} (hs : ∀ i j, adj i j = adj j i) (ha : a < n) (hb : b < n) (h0 : 0 ≤ nth (stp adj n b) a) : nth (stp adj n a) b = nth (stp adj n b) a := by
  have c1 := stp_cert (adj := adj) hb
  have c2 := stp_cert (adj := adj) ha
  have w1 := (c1.way (nth (stp adj n b) a).toNat a ha (by omega)).back hs
  obtain ⟨g1, g2⟩ := c2.of_way w1
  have w2 := (c2.way (nth (stp adj n a) b).toNat b hb (by omega)).back hs
  obtain ⟨g3, g4⟩ := c1.of_way w2
  omega
theorem cb_ok {ps : List Per} {l a b : Int} (h : cbE ps l a b = 0) : jcode ps l [a, b] = 0 ∧ cbB ps l a b = true := by
  unfold cbE at h
  by_cases q : jcode ps l [a, b] = 0
  · rw [if_pos q] at h
    by_cases g : cbB ps l a b = true
    · exact ⟨q, g⟩
    · rw [if_neg g] at h; cases h
  · rw [if_neg q] at h
    exact absurd h q
theorem natI_at {L : List Nat} {k x : Nat} (h : L[k]? = some x) : (natI L)[k]? = some (x : Int) := by
  unfold natI
  rw [List.getElem?_map, h]
  rfl
/-- What is known of a chain. -/
structure ChainOk (ps : List Per) (l a b : Int) (c : List Int) : Prop where
  one : 1 ≤ c.length
  first : c[0]? = some a
  last : c[c.length - 1]? = some b
  back : cbE ps l b a = 0
  len : (cbI ps l b a).length = c.length
  step : ∀ i : Nat, i + 1 < c.length → ∃ (x y : Nat) (p q : Per), c[i]? = some (x : Int) ∧ c[i + 1]? = some (y : Int) ∧ ps[x]? = some p ∧ ps[y]? = some q ∧ aaE p q l = 0 ∧ aaB p q l = true
theorem chain_ok {ps : List Per} {l a b : Int} (h : cbE ps l a b = 0) : ChainOk ps l a b (cbI ps l a b) := by
  obtain ⟨h1, h2⟩ := cb_ok h
  obtain ⟨hB, ha, hb⟩ := cb_range h1
  have hl : 0 ≤ l ∧ l ≤ 100 := (jcode_ok.1 h1).2.1
  have h0 : 0 ≤ nth (stp (adjB ps l) ps.length b.toNat) a.toNat := by unfold cbB at h2; simpa using h2
  have hback := stp_back (adjB_comm ps l) (a := a.toNat) (b := b.toNat) (n := ps.length) (by omega) (by omega) h0
  have hj : jcode ps l [b, a] = 0 := jcode_ok.2 ⟨hB, hl, by simp; omega⟩
  have hc : cbB ps l b a = true := by unfold cbB; rw [decide_eq_true_eq, hback]; exact h0
  have e1 : cbI ps l a b = natI (chn (adjB ps l) ps.length (stp (adjB ps l) ps.length b.toNat) (nth (stp (adjB ps l) ps.length b.toNat) a.toNat).toNat a.toNat) := by unfold cbI; rw [if_pos ⟨h1, h2⟩]
  have e2 : cbI ps l b a = natI (chn (adjB ps l) ps.length (stp (adjB ps l) ps.length a.toNat) (nth (stp (adjB ps l) ps.length a.toNat) b.toNat).toNat b.toNat) := by unfold cbI; rw [if_pos ⟨hj, hc⟩]
  generalize hd : (nth (stp (adjB ps l) ps.length b.toNat) a.toNat).toNat = d at *
  have hlen : (cbI ps l a b).length = d + 1 := by rw [e1, natI_len, chn_len]
  obtain ⟨g1, g2, g3⟩ := chn_ok (stp_cert (adj := adjB ps l) (n := ps.length) (a := b.toNat) (by omega)) (adjB_comm ps l) d a.toNat (by omega) (by omega)
  refine ⟨by omega, ?_, ?_, ?_, ?_, fun i hi => ?_⟩
  · rw [e1, natI_at g1, show ((a.toNat : Nat) : Int) = a by omega]
  · rw [hlen, show d + 1 - 1 = d by omega, e1, natI_at g2, show ((b.toNat : Nat) : Int) = b by omega]
  · unfold cbE
    rw [if_pos hj, if_pos hc]
  · rw [e2, natI_len, chn_len, hback, hlen]
    omega
  · obtain ⟨x, y, hx, hy, hxn, hyn, hadj⟩ := g3 i (by omega)
    obtain ⟨p, hp⟩ := per_at hxn
    obtain ⟨q, hq⟩ := per_at hyn
    have bp := persB_at hB hp
    have bq := persB_at hB hq
    rw [adjB_at hp hq] at hadj
    refine ⟨x, y, p, q, by rw [e1]; exact natI_at hx, by rw [e1]; exact natI_at hy, hp, hq, ?_, ?_⟩
    · unfold aaE
      rw [if_pos ⟨bp, bq⟩, if_pos hl]
    · unfold aaB
      rw [if_pos ⟨bp, bq⟩, if_pos hl]
      exact hadj
theorem kp_ok {ps : List Per} {l i : Int} (h : jcode ps l [i] = 0) : jcode ps l [kpI ps l i] = 0 ∧ kpI ps l (kpI ps l i) = kpI ps l i ∧ kpI ps l i ≤ i := by
  obtain ⟨hB, hl, hi⟩ := jcode_ok.1 h
  have hi := hi i (by simp)
  have hn : i.toNat < ps.length := by omega
  have e : kpI ps l i = (kpr (adjB ps l) ps.length i.toNat : Nat) := by unfold kpI; rw [if_pos h]
  have hk := (kpr_mem (adj := adjB ps l) hn).1
  have hle := kpr_le (adj := adjB ps l) hn hn (mem_self hn)
  have hkk := kpr_kpr (adjB_comm ps l) hn
  have hj : jcode ps l [kpI ps l i] = 0 := jcode_ok.2 ⟨hB, hl, by rw [e]; simp; omega⟩
  refine ⟨hj, ?_, by rw [e]; omega⟩
  have e2 : kpI ps l (kpI ps l i) = (kpr (adjB ps l) ps.length (kpI ps l i).toNat : Nat) := by
    rw [show kpI ps l (kpI ps l i) = if jcode ps l [kpI ps l i] = 0 then ((kpr (adjB ps l) ps.length (kpI ps l i).toNat : Nat) : Int) else 0 from rfl, if_pos hj]
  rw [e2, e]
  congr 1
end Go.Proofs.Ythnilifepiihjaa

/-
  A region that draws its order, by one fact for each slot, where one operation may consume a slot (an append that writes on in a row).
  Conditions: a slot's fact stands while the region's other operations run, until the one that consumes it; the last operation waits for all others; no guards, no selects.
-/
namespace Go.Proofs.Ythnilifepiihjaa
open Go.RowKit
set_option linter.unusedVariables false

/-- Who consumes what is right. -/
def consGood (ops : Array Oper) (m : Nat) (pre : List Nat) (cons : Nat → Option Nat) : Bool :=
  ((List.range m).all fun i => match ops[i]? with
    | none => false
    | some o => (slotsOf o).all fun t => cons t == none || cons t == some i) && pre.all fun t => cons t == none
/-- Operation i comes after operation j. -/
def laterOp (ops : Array Oper) : Nat → Nat → Nat → Bool
  | 0, _, _ => false
  | f + 1, i, j => match ops[i]? with
    | some o => o.after.any fun e => Region.binds .any e && (e.on == j || laterOp ops f e.on j)
    | none => false
theorem laterOp_listed {ops : Array Oper} {listed : Array Bool} {m : Nat} (hb : ∀ i o, i ≤ m → ops[i]? = some o → ∀ e ∈ o.after, e.on < i) (hc : ∀ i o, i < m → ops[i]? = some o → listed.getD i false = true → ∀ e ∈ o.after, Region.binds .any e = true → listed.getD e.on false = true) :
    ∀ (f i j : Nat) (o : Oper), i ≤ m → ops[i]? = some o → (∀ e ∈ o.after, Region.binds .any e = true → listed.getD e.on false = true) → laterOp ops f i j = true → listed.getD j false = true := by
  intro f
  induction f with
  | zero => intro i j o _ _ _ h; cases h
  | succ f ih =>
    intro i j o hi ho hd h
    unfold laterOp at h
    rw [ho] at h
    simp only at h
    rw [Array.any_eq_true'] at h
    obtain ⟨e, he, h⟩ := h
    rw [Bool.and_eq_true, Bool.or_eq_true] at h
    have hl := hd e he h.1
    rcases h.2 with h2 | h2
    · have : e.on = j := by simpa using h2
      rw [← this]; exact hl
    · have hlt := hb i o hi ho e he
      cases hoe : ops[e.on]? with
      | none => cases f <;> simp [laterOp, hoe] at h2
      | some oe => exact ih e.on j oe (by omega) hoe (fun e' he' hb' => hc e.on oe (by omega) hoe hl e' he' hb') h2
/-- The fact of slot t must stand while operation i runs. -/
def mustStand (ops : Array Oper) (m : Nat) (cons : Nat → Option Nat) (i t : Nat) : Bool :=
  cons t != some i && (match cons t with | none => true | some j => !laterOp ops m i j) &&
  (List.range m).all fun j => ((ops[j]?).bind (·.dst)) != some t || (j != i && !laterOp ops m j i)
theorem mustStand_mk {ops : Array Oper} {m : Nat} {cons : Nat → Option Nat} {i t : Nat} (h1 : cons t ≠ some i) (h2 : ∀ j, cons t = some j → laterOp ops m i j = false)
    (h3 : ∀ j, j < m → ((ops[j]?).bind (·.dst)) = some t → j ≠ i ∧ laterOp ops m j i = false) : mustStand ops m cons i t = true := by
  unfold mustStand
  rw [Bool.and_eq_true, Bool.and_eq_true, List.all_eq_true]
  refine ⟨⟨by simpa using h1, ?_⟩, fun j hj => ?_⟩
  · split
    · rfl
    · rename_i j hj
      rw [h2 j hj]
      rfl
  · by_cases hd : ((ops[j]?).bind (·.dst)) = some t
    · obtain ⟨h4, h5⟩ := h3 j (List.mem_range.1 hj) hd
      rw [h5, Bool.or_eq_true, Bool.and_eq_true]
      exact .inr ⟨by simpa using h4, rfl⟩
    · rw [Bool.or_eq_true]
      exact .inl (by simpa using hd)
section
variable {P : Program} {ops : Array Oper} {Q : Exit → Act → World → Prop} {F : Nat → World → Value → Prop} {I : World → Prop} {R : Nat → World → World → Prop} {m n : Nat} {pre : List Nat} {cons : Nat → Option Nat}
/-- Each operation does what its slot's fact says. -/
def StepsU (P : Program) (F : Nat → World → Value → Prop) (I : World → Prop) (R : Nat → World → World → Prop) (n : Nat) : Nat → List Oper → Prop
  | _, [] => True
  | k, o :: os => (∀ (f : Nat → Value) (w : World), I w → (∀ t ∈ slotsOf o, F t w (f t)) → wpList P #[] (LeftBy F I (R k) (o.dst.getD 0) w) [o] ⟨litAll n f, []⟩ w) ∧ StepsU P F I R n (k + 1) os
theorem StepsU.at_ : ∀ {os : List Oper} {k : Nat}, StepsU P F I R n k os → ∀ {i : Nat} {o : Oper}, os[i]? = some o → ∀ (f : Nat → Value) (w : World), I w → (∀ t ∈ slotsOf o, F t w (f t)) → wpList P #[] (LeftBy F I (R (k + i)) (o.dst.getD 0) w) [o] ⟨litAll n f, []⟩ w
  | [], _, _, i, o, h => by simp at h
  | q :: os, k, h, 0, o, hi => by
    simp at hi
    subst hi
    exact h.1
  | q :: os, k, h, i + 1, o, hi => by
    have := StepsU.at_ h.2 (i := i) (o := o) (by simpa using hi)
    rw [show k + (i + 1) = k + 1 + i by omega]
    exact this
/-- The state among the region's operations. -/
structure RegU (ops : Array Oper) (F : Nat → World → Value → Prop) (I : World → Prop) (pre : List Nat) (cons : Nat → Option Nat) (m : Nat) (a0 : Act) (listed : Array Bool) (a : Act) (w : World) : Prop where
  inv : I w
  defers : a.defers = a0.defers
  size : a.tmps.size = a0.tmps.size
  same : ∀ t, t ∉ dstsOf ops m → a.tmps[t]? = a0.tmps[t]?
  pre_ : ∀ t ∈ pre, F t w (a.tmps.getD t undef)
  closed : ∀ i o, i < m → ops[i]? = some o → listed.getD i false = true → ∀ e ∈ o.after, Region.binds .any e = true → listed.getD e.on false = true
  done : ∀ i o d, i < m → ops[i]? = some o → o.dst = some d → listed.getD i false = true → (∀ j, cons d = some j → listed.getD j true = false) → F d w (a.tmps.getD d undef)

theorem regAnyU {a0 : Act} (hg : regGood ops m pre n = true) (hn : a0.tmps.size = n) (hp : ∀ t ∈ pre, t < n)
    (hc : consGood ops m pre cons = true) (hF : ∀ i t w w' v, mustStand ops m cons i t = true → F t w v → I w → R i w w' → F t w' v)
    (hstep : StepsU P F I R n 0 (ops.toList.take m))
    (hend : ∀ (f : Nat → Value) w, I w → (∀ d ∈ dstsOf ops m, (cons d = none ∨ cons d = some m) → F d w (f d)) → ∀ o, ops[m]? = some o → wpList P ops Q [o] ⟨(setSlots a0.tmps.toList f (dstsOf ops m)).toArray, a0.defers⟩ w) :
    ∀ (fuel : Nat) (listed : Array Bool) (a : Act) (w : World), listed.size = m + 1 → unl listed.toList = fuel → listed.getD m true = false → RegU ops F I pre cons m a0 listed a w →
      wpAny P .any ops Q fuel listed a w := by
  unfold regGood at hg
  rw [Bool.and_eq_true, Bool.and_eq_true, Bool.and_eq_true] at hg
  obtain ⟨⟨⟨hsz, hall⟩, hlast⟩, hback⟩ := hg
  rw [List.all_eq_true] at hback
  have hbk : ∀ i o, i ≤ m → ops[i]? = some o → ∀ e ∈ o.after, e.on < i := fun i o hi ho e he => by
    have hb := hback i (List.mem_range.2 (by omega))
    rw [ho] at hb
    simp only [Array.all_eq_true', decide_eq_true_eq] at hb
    exact hb e he
  unfold consGood at hc
  rw [Bool.and_eq_true, List.all_eq_true, List.all_eq_true] at hc
  obtain ⟨hcs, hcp⟩ := hc
  replace hsz : ops.size = m + 1 := by simpa using hsz
  rw [List.all_eq_true] at hall
  intro fuel
  induction fuel with
  | zero =>
    intro listed a w hl hu hm hst
    have := unl_zero listed.toList hu m
    rw [Array.getD_eq_getD_getElem?] at hm
    rw [List.getD_eq_getElem?_getD, Array.getElem?_toList, hm] at this
    cases this
  | succ fuel ih =>
    intro listed a w hl hu hm hst
    have hmr : listed[m]? = some false := by
      rw [Array.getD_eq_getD_getElem?] at hm
      cases h : listed[m]? with
      | none => rw [h] at hm; cases hm
      | some b => rw [h] at hm; simp at hm; rw [hm]
    obtain ⟨om, hom⟩ : ∃ o, ops[m]? = some o := ⟨ops[m]'(by omega), Array.getElem?_eq_getElem (by omega)⟩
    rw [hom] at hlast
    simp only [Bool.and_eq_true, List.all_eq_true, List.mem_range, Array.any_eq_true'] at hlast
    have stepAt : ∀ i ∈ Region.ready .any ops listed, wpOp P ops Q i (wpAny P .any ops Q fuel (listed.setIfInBounds i true)) a w := by
      intro i hi
      obtain ⟨hun, o, ho, hdep⟩ := mem_ready.1 hi
      have hilt : i < m + 1 := by rw [← hsz]; exact (Array.getElem?_eq_some_iff.1 ho).1
      have hif : listed.toList[i]? = some false := by
        rw [Array.getElem?_toList]
        rw [Array.getD_eq_getD_getElem?] at hun
        cases h : listed[i]? with
        | none => rw [h] at hun; cases hun
        | some b => rw [h] at hun; simp at hun; rw [hun]
      have hu' : unl (listed.setIfInBounds i true).toList = fuel := by
        rw [Array.toList_setIfInBounds]
        have := unl_set _ _ hif
        omega
      by_cases him : i = m
      · subst him
        rw [hom] at ho
        injection ho with ho
        subst ho
        have hz : fuel = 0 := by
          by_cases hf : fuel = 0
          · exact hf
          · exfalso
            have hallt : ∀ j : Nat, (listed.setIfInBounds i true).toList[j]? = some false → False := by
              intro j hj
              rw [Array.getElem?_toList] at hj
              by_cases hji : j = i
              · subst hji
                rw [Array.getElem?_setIfInBounds_self] at hj
                split at hj <;> cases hj
              · rw [Array.getElem?_setIfInBounds_ne (fun e => hji e.symm)] at hj
                have hjl : j < i := by
                  have := (Array.getElem?_eq_some_iff.1 hj).1
                  omega
                obtain ⟨e, he, hb, hon⟩ := hlast.2 j hjl
                have hon : e.on = j := by simpa using hon
                have := hdep e he hb
                rw [hon, Array.getD_eq_getD_getElem?, hj] at this
                cases this
            have key : ∀ l : List Bool, (∀ j : Nat, l[j]? = some false → False) → unl l = 0 := by
              intro l
              induction l with
              | nil => intro _; rfl
              | cons b l ihl =>
                intro h
                have hb : b = true := by
                  cases b with
                  | true => rfl
                  | false => exact (h 0 rfl).elim
                have := ihl fun j hj => h (j + 1) (by simpa using hj)
                simp [unl, hb, this]
            have := key _ hallt
            omega
        have hdone : ∀ d ∈ dstsOf ops i, (cons d = none ∨ cons d = some i) → F d w (a.tmps.getD d undef) := by
          intro d hd hcd
          obtain ⟨j, oj, hj, hoj, hdj⟩ := mem_dsts hd
          refine hst.done j oj d hj hoj hdj ?_ (fun k hk => by
            rcases hcd with h | h
            · rw [h] at hk; cases hk
            · rw [h] at hk; injection hk with hk; rw [← hk]; exact hun)
          obtain ⟨e, he, hb, hon⟩ := hlast.2 j hj
          have hon : e.on = j := by simpa using hon
          have := hdep e he hb
          rw [hon] at this
          exact this
        have hE := hend (fun t => a.tmps.getD t undef) w hst.inv hdone om hom
        have hae : (⟨(setSlots a0.tmps.toList (fun t => a.tmps.getD t undef) (dstsOf ops i)).toArray, a0.defers⟩ : Act) = a := by
          obtain ⟨tm, df⟩ := a
          have h1 := hst.defers
          have h2 := hst.size
          have h3 := hst.same
          simp only at h1 h2 h3
          subst h1
          congr 1
          refine Array.ext_getElem? fun t => ?_
          simp only [List.getElem?_toArray]
          by_cases htl : t < a0.tmps.size
          · rw [setSlots_at _ _ _ _ (by simpa using htl)]
            split
            · rw [Array.getElem?_eq_getElem (by omega)]
              simp [Array.getD, show t < tm.size by omega]
            · rename_i hnd
              rw [h3 t hnd, Array.getElem?_toList]
          · rw [List.getElem?_eq_none (by rw [setSlots_len]; simp; omega), Array.getElem?_eq_none (by omega)]
        rw [hae] at hE
        unfold wpList at hE
        unfold wpOp
        simp only [hom]
        have hw : Region.wanted om (yielded ops a.tmps) = true := by
          have : om.guard = none := by simpa using hlast.1
          simp [Region.wanted, this]
        rw [if_pos hw] at hE ⊢
        have hrd : Region.ready .any ops (listed.setIfInBounds i true) = [] := by
          rw [hz] at hu'
          have h0 := unl_zero _ hu'
          refine List.eq_nil_iff_forall_not_mem.2 fun j hj => ?_
          have := (mem_ready.1 hj).1
          have h1 := h0 j
          rw [List.getD_eq_getElem?_getD, Array.getElem?_toList] at h1
          rw [Array.getD_eq_getD_getElem?, h1] at this
          cases this
        rcases hE with hE | hE
        · refine .inl (Oper.wp_mono (fun a' w' hq => ?_) hE)
          subst hz
          exact ⟨hrd, hq⟩
        · exact .inr hE
      · have him' : i < m := by omega
        have hgi := hall i (List.mem_range.2 him')
        rw [ho] at hgi
        simp only [Bool.and_eq_true, List.all_eq_true] at hgi
        obtain ⟨⟨⟨hgn, hns⟩, hslots⟩, hdst⟩ := hgi
        have hgn' : o.guard = none := by simpa using hgn
        cases hd : o.dst with
        | none => rw [hd] at hdst; cases hdst
        | some d =>
          rw [hd] at hdst
          simp only [Bool.and_eq_true, decide_eq_true_eq, Bool.not_eq_true', List.all_eq_true, List.mem_range, Bool.or_eq_true, beq_iff_eq, bne_iff_ne] at hdst
          obtain ⟨⟨hdn, hdp⟩, hdu⟩ := hdst
          have hfacts : ∀ t ∈ slotsOf o, t < n ∧ F t w (a.tmps.getD t undef) := by
            intro t ht
            have := hslots t ht
            rw [Bool.or_eq_true] at this
            rcases this with h | h
            · have h' : t ∈ pre := by simpa using h
              exact ⟨hp t h', hst.pre_ t h'⟩
            · rw [Array.any_eq_true'] at h
              obtain ⟨e, he, h⟩ := h
              simp only [Bool.and_eq_true, decide_eq_true_eq, beq_iff_eq] at h
              obtain ⟨⟨hb, hem⟩, hed⟩ := h
              cases hoe : ops[e.on]? with
              | none => rw [hoe] at hed; cases hed
              | some oe =>
                rw [hoe] at hed
                simp only [Option.bind_some] at hed
                refine ⟨?_, hst.done e.on oe t hem hoe hed (hdep e he hb) (fun k hk => by
                  have hct := hcs i (List.mem_range.2 him')
                  rw [ho] at hct
                  simp only [List.all_eq_true, Bool.or_eq_true, beq_iff_eq] at hct
                  rcases hct t ht with h | h
                  · rw [h] at hk; cases hk
                  · rw [h] at hk; injection hk with hk; rw [← hk]; exact hun)⟩
                have hge := hall e.on (List.mem_range.2 hem)
                rw [hoe] at hge
                simp only [Bool.and_eq_true] at hge
                have h2 := hge.2
                rw [hed] at h2
                simp only [Bool.and_eq_true, decide_eq_true_eq] at h2
                exact h2.1.1
          have hS := StepsU.at_ hstep (i := i) (o := o) (by rw [List.getElem?_take_of_lt him', Array.getElem?_toList]; exact ho) (fun t => a.tmps.getD t undef) w hst.inv (fun t ht => (hfacts t ht).2)
          rw [Nat.zero_add] at hS
          unfold wpOp
          simp only [ho]
          rw [if_pos (by simp [Region.wanted, hgn'])]
          refine .inl (wp_of_lit hgn' hns hd hdn (fun t ht => (hfacts t ht).1) hS fun v w' h1 h2 h3 => ?_)
          refine ih _ _ _ (by simpa using hl) hu' ?_ ⟨h2, ?_, ?_, ?_, ?_, ?_, ?_⟩
          · rw [Array.getD_eq_getD_getElem?, Array.getElem?_setIfInBounds_ne him, hmr]
            rfl
          · rw [hd]; exact hst.defers
          · rw [hd]; simp [Act.put, hst.size]
          · intro t ht
            rw [hd]
            have : d ≠ t := by rintro rfl; exact ht (dsts_mem him' ho hd)
            simp only [Act.put]
            rw [Array.getElem?_setIfInBounds_ne this]
            exact hst.same t ht
          · intro t ht
            rw [hd]
            have : d ≠ t := by
              rintro rfl
              have : pre.contains d = true := by simpa using ht
              rw [hdp] at this
              cases this
            simp only [Act.put]
            rw [Array.getD_eq_getD_getElem?, Array.getElem?_setIfInBounds_ne this, ← Array.getD_eq_getD_getElem?]
            refine hF i t w w' _ (mustStand_mk (by have := hcp t ht; simp only [beq_iff_eq] at this; rw [this]; exact fun e => by cases e) (fun j hj => by have := hcp t ht; simp only [beq_iff_eq] at this; rw [this] at hj; cases hj) fun j hj hjd => ?_) (hst.pre_ t ht) hst.inv h3
            have hgj := hall j (List.mem_range.2 hj)
            cases hoj : ops[j]? with
            | none => rw [hoj] at hjd; cases hjd
            | some oj =>
              rw [hoj] at hgj hjd
              simp only [Option.bind_some] at hjd
              simp only [Bool.and_eq_true] at hgj
              have h2 := hgj.2
              rw [hjd] at h2
              simp only [Bool.and_eq_true, Bool.not_eq_true'] at h2
              have hpc : pre.contains t = true := by simpa using ht
              rw [h2.1.2] at hpc
              cases hpc
          · intro j oj hj hoj hlj e he hb
            by_cases hji : j = i
            · subst hji
              rw [ho] at hoj
              injection hoj with hoj
              subst hoj
              exact getD_set_true (hdep e he hb)
            · rw [Array.getD_eq_getD_getElem?, Array.getElem?_setIfInBounds_ne (fun e => hji e.symm), ← Array.getD_eq_getD_getElem?] at hlj
              exact getD_set_true (hst.closed j oj hj hoj hlj e he hb)
          · intro j oj dj hj hoj hdj hlj hcj
            rw [hd]
            by_cases hji : j = i
            · subst hji
              rw [ho] at hoj
              injection hoj with hoj
              subst hoj
              rw [hd] at hdj
              injection hdj with hdj
              subst hdj
              simp only [Act.put]
              rw [Array.getD_eq_getD_getElem?, Array.getElem?_setIfInBounds_self_of_lt (by rw [hst.size, hn]; exact hdn)]
              exact h1
            · have hne : d ≠ dj := by
                rintro rfl
                rcases hdu j hj with h | h
                · exact hji h
                · rw [hoj] at h
                  exact h (by simpa using hdj)
              simp only [Act.put]
              rw [Array.getD_eq_getD_getElem?, Array.getElem?_setIfInBounds_ne hne, ← Array.getD_eq_getD_getElem?]
              have hci : cons dj ≠ some i := fun e => by
                have := hcj i e
                rw [Array.getD_eq_getD_getElem?, Array.getElem?_setIfInBounds_self] at this
                split at this <;> cases this
              refine hF i dj w w' _ (mustStand_mk hci (fun k hk => by
                  by_cases hlat : laterOp ops m i k = true
                  · have hk1 := laterOp_listed (listed := listed) hbk hst.closed m i k o (by omega) ho hdep hlat
                    have hk2 := hcj k hk
                    have hki : k ≠ i := fun e => by rw [e] at hk; exact hci hk
                    rw [Array.getD_eq_getD_getElem?, Array.getElem?_setIfInBounds_ne (fun e => hki e.symm)] at hk2
                    rw [Array.getD_eq_getD_getElem?] at hk1
                    cases hq : listed[k]? with
                    | none => rw [hq] at hk1; cases hk1
                    | some bq => rw [hq] at hk1 hk2; simp at hk1 hk2; rw [hk1] at hk2; cases hk2
                  · simpa using hlat) fun k hk hkd => ?_) (hst.done j oj dj hj hoj hdj ?_ (fun k hk => by
                have := hcj k hk
                have hki : k ≠ i := fun e => by rw [e] at hk; exact hci hk
                rw [Array.getD_eq_getD_getElem?, Array.getElem?_setIfInBounds_ne (fun e => hki e.symm), ← Array.getD_eq_getD_getElem?] at this
                exact this)) hst.inv h3
              · have hkj : k = j := by
                  have hgj := hall j (List.mem_range.2 hj)
                  rw [hoj] at hgj
                  simp only [Bool.and_eq_true] at hgj
                  have h2 := hgj.2
                  rw [hdj] at h2
                  simp only [Bool.and_eq_true, List.all_eq_true, List.mem_range, Bool.or_eq_true, beq_iff_eq, bne_iff_ne] at h2
                  rcases h2.2 k hk with h | h
                  · exact h
                  · exact absurd hkd h
                subst hkj
                refine ⟨hji, ?_⟩
                have hlj0 := hlj
                rw [Array.getD_eq_getD_getElem?, Array.getElem?_setIfInBounds_ne (fun e => hji e.symm), ← Array.getD_eq_getD_getElem?] at hlj0
                by_cases hlat : laterOp ops m k i = true
                · have hk1 := laterOp_listed (listed := listed) hbk hst.closed m k i oj (by omega) hoj (hst.closed k oj hj hoj hlj0) hlat
                  rw [Array.getD_eq_getD_getElem?] at hun hk1
                  cases hq : listed[i]? with
                  | none => rw [hq] at hk1; cases hk1
                  | some bq => rw [hq] at hk1 hun; simp at hk1 hun; rw [hk1] at hun; cases hun
                · simpa using hlat
              · rw [Array.getD_eq_getD_getElem?, Array.getElem?_setIfInBounds_ne (fun e => hji e.symm), ← Array.getD_eq_getD_getElem?] at hlj
                exact hlj
    have hmin : ∀ k, k ≤ m → listed.getD k true = false → ∃ j, j ∈ Region.ready .any ops listed := by
      intro k
      induction k using Nat.strongRecOn with
      | ind k ihk =>
        intro hk hkf
        by_cases hrd : k ∈ Region.ready .any ops listed
        · exact ⟨k, hrd⟩
        · have hks : k < ops.size := by omega
          have hb := hback k (List.mem_range.2 (by omega))
          rw [Array.getElem?_eq_getElem hks] at hb
          simp only [Array.all_eq_true', decide_eq_true_eq] at hb
          have : ¬ ∀ e ∈ (ops[k]'hks).after, Region.binds .any e = true → listed.getD e.on false = true := fun hh => hrd (mem_ready.2 ⟨hkf, _, Array.getElem?_eq_getElem hks, hh⟩)
          simp only [Classical.not_forall] at this
          obtain ⟨e, he, hbd, hno⟩ := this
          have hlt := hb e he
          refine ihk e.on hlt (by omega) ?_
          have hes : e.on < listed.size := by omega
          rw [Array.getD_eq_getD_getElem?, Array.getElem?_eq_getElem hes] at hno ⊢
          simpa using hno
    refine ⟨fun hr => ?_, stepAt⟩
    obtain ⟨j, hj⟩ := hmin m (Nat.le_refl _) hm
    rw [hr] at hj
    cases hj
/-- The region, by its slots' facts. -/
theorem wp_region_use {id : Nat} {a0 : Act} {w0 : World} (hmo : P.follows .mixedOrders = true) (hg : regGood ops m pre n = true) (hn : a0.tmps.size = n) (hp : ∀ t ∈ pre, t < n)
    (hc : consGood ops m pre cons = true) (hF : ∀ i t w w' v, mustStand ops m cons i t = true → F t w v → I w → R i w w' → F t w' v)
    (hI : I w0.drew) (hpre : ∀ t ∈ pre, F t w0.drew (a0.tmps.getD t undef))
    (hstep : StepsU P F I R n 0 (ops.toList.take m))
    (hend : ∀ (f : Nat → Value) w, I w → (∀ d ∈ dstsOf ops m, (cons d = none ∨ cons d = some m) → F d w (f d)) → ∀ o, ops[m]? = some o → wpList P ops Q [o] ⟨(setSlots a0.tmps.toList f (dstsOf ops m)).toArray, a0.defers⟩ w) :
    (Code.region id ops true).wp P Q a0 w0 := by
  have hsz : ops.size = m + 1 := by
    unfold regGood at hg
    rw [Bool.and_eq_true, Bool.and_eq_true, Bool.and_eq_true] at hg
    simpa using hg.1.1.1
  refine wp_region_any hmo (regAnyU hg hn hp hc hF hstep hend _ _ _ _ (by simp [hsz]) ?_ ?_ ⟨hI, rfl, rfl, fun _ _ => rfl, hpre, fun i o hi ho hl => ?_, fun i o d hi ho hd hl _ => ?_⟩)
  · rw [Array.toList_replicate, unl_rep]
  · simp [hsz, Array.getD_eq_getD_getElem?]
  · exfalso
    rw [Array.getD_eq_getD_getElem?, Array.getElem?_replicate] at hl
    split at hl <;> cases hl
  · exfalso
    rw [Array.getD_eq_getD_getElem?, Array.getElem?_replicate] at hl
    split at hl <;> cases hl
/-- A move. -/
theorem stepU_move {d s T : Nat} {pos : String} {after : Array Edge} {k : Nat} (hd : d < n) (hs : s < n) (hFF : ∀ w v, F s w v → F d w v) (hR : ∀ w, R k w w) :
    ∀ (f : Nat → Value) (w : World), I w → (∀ t ∈ slotsOf ⟨some d, .move (.tmp s), T, pos, after, none⟩, F t w (f t)) → wpList P #[] (LeftBy F I (R k) d w) [⟨some d, .move (.tmp s), T, pos, after, none⟩] ⟨litAll n f, []⟩ w := step_move hd hs hFF hR
end
end Go.Proofs.Ythnilifepiihjaa

/-
  A person put in among persons: l04Insert.
  Conditions: each lemma names its own.
-/
namespace Go.Proofs.Ythnilifepiihjaa
open Go.RowKit
set_option linter.unusedVariables false

/-- An own row of persons, in a block. -/
def OwnP (base : Nat) (v : Value) (ps : List Per) (w : World) : Prop := w.ownsRow base 35 5 v ps.length (ps.flatMap perC) ∧ v ≠ .slice none 0 0
theorem OwnP.below {base : Nat} {v : Value} {s : List Per} {w w' : World} (h : OwnP base v s w) (hb : Below w.heap.size w w') : OwnP base v s w' := ⟨own_below h.1 hb, h.2⟩
theorem OwnP.persons {base : Nat} {v : Value} {s : List Per} {w : World} (h : OwnP base v s w) : Persons w v s := Row.own h.1
theorem OwnP.mono {base base' : Nat} {v : Value} {s : List Per} {w : World} (h : OwnP base v s w) (hb : base' ≤ base) : OwnP base' v s w := ⟨own_mono h.1 hb, h.2⟩
theorem OwnP.past {base g : Nat} {v : Value} {s : List Per} {w w' : World} (h : OwnP base v s w) (hp : Past g w w') (hg : g < base) : OwnP base v s w' := ⟨own_past h.1 hp hg, h.2⟩
theorem OwnP.form {base : Nat} {v : Value} {s : List Per} {w : World} (h : OwnP base v s w) : ∃ lb c, v = .slice (some ⟨lb, 0, none⟩) s.length c ∧ base ≤ lb ∧ lb < w.heap.size ∧ s.length ≤ c ∧ c ≤ maxLen ∧
    (∀ j u, (s.flatMap perC)[j]? = some u → w.cell? ⟨lb, j, none⟩ = some u) := by
  obtain ⟨h1, h2⟩ := h
  have hc := fun g (hg : v.ownBlock = some g) => h1.cells hg
  rcases h1.2 with ⟨hv, _⟩ | ⟨lb, c, cur, rfl, hbl, hcell, hnc, hcm, _⟩
  · exact absurd hv h2
  · refine ⟨lb, c, rfl, hbl, (Array.getElem?_eq_some_iff.1 hcell).1, hnc, hcm, fun j u hu => ?_⟩
    have := hc lb rfl j u hu
    rwa [Addr.add_lit, Nat.zero_add] at this
theorem cells_at {w : World} {lb : Nat} {ps : List Per} (h : ∀ j u, (ps.flatMap perC)[j]? = some u → w.cell? ⟨lb, j, none⟩ = some u) {k : Nat} {p : Per} (hp : ps[k]? = some p) :
    w.cell? ⟨lb, k * 5, none⟩ = some (.int .i64 p.number) ∧ w.cell? ⟨lb, k * 5 + 1, none⟩ = some (.string p.first) ∧ w.cell? ⟨lb, k * 5 + 2, none⟩ = some (.string p.last) ∧ w.cell? ⟨lb, k * 5 + 3, none⟩ = some (.int .i64 p.born) ∧ w.cell? ⟨lb, k * 5 + 4, none⟩ = some (.int .i64 p.zone) :=
  ⟨h _ _ (flat_at ps k p hp 0 (by omega)), h _ _ (flat_at ps k p hp 1 (by omega)), h _ _ (flat_at ps k p hp 2 (by omega)), h _ _ (flat_at ps k p hp 3 (by omega)), h _ _ (flat_at ps k p hp 4 (by omega))⟩
theorem flat_split (ps : List Per) (k : Nat) : ps.flatMap perC = (ps.take k).flatMap perC ++ (ps.drop k).flatMap perC := by
  rw [← List.flatMap_append, List.take_append_drop]
theorem flat_take {ps : List Per} {k j : Nat} {u : Value} (h : ((ps.take k).flatMap perC)[j]? = some u) : (ps.flatMap perC)[j]? = some u := by
  rw [flat_split ps k, List.getElem?_append_left (List.getElem?_eq_some_iff.1 h).1]
  exact h
theorem flat_drop {ps : List Per} {k j : Nat} {u : Value} (hk : k ≤ ps.length) (h : ((ps.drop k).flatMap perC)[j]? = some u) : (ps.flatMap perC)[k * 5 + j]? = some u := by
  have hl : ((ps.take k).flatMap perC).length = k * 5 := by rw [flat_len, List.length_take, Nat.min_eq_left hk]
  rw [flat_split ps k, List.getElem?_append_right (by omega), hl, show k * 5 + j - k * 5 = j by omega]
  exact h
theorem news_of {w : World} {b : Nat} {cs : Array Value} {t : TypeId} (hb : w.heap[b]? = some (.cells cs t)) : ∀ j u, cs.toList[j]? = some u → w.cell? ((⟨b, 0, none⟩ : Addr).add j) = some u := fun j u hu => by
  rw [Addr.add_lit, cell_of_row _ _ _ _ _ _ hb]
  simpa using hu
theorem one_cell {u : Value} {ps : List Per} (h : u ∈ ps.flatMap perC) : u.oneCell' = true := by
  obtain ⟨p, _, hu⟩ := List.mem_flatMap.1 h
  unfold perC at hu
  simp at hu
  rcases hu with rfl | rfl | rfl | rfl | rfl <;> rfl

/-- An append to an empty own row of no room turns no block. -/
theorem run_append_empty {P : Program} (t ty e : TypeId) (i : TypeInfo) (z : Value) (bytes : Nat) (ht : P.underlying t = some (.slice e)) (hi : P.info? e = some i) (hz : i.zero = some z)
    (hby : i.bytes = bytes) {w w' : World} {v' : Value} {b : Nat} (hb : w.heap[b]? = some (.cells #[] e (0, 0)))
    (a : Addr) (m c : Nat) (news : List Value) (hl : news.length = m * i.size) (hnews : ∀ j u, news[j]? = some u → w.cell? (a.add j) = some u) (h1 : ∀ u ∈ news, u.oneCell' = true)
    (h63 : m ≤ maxLen) (hbytes : m * bytes ≤ 140737488355328)
    (hr : (Builtin.append_ #[t, t] ty #[.slice (some ⟨b, 0, none⟩) 0 0, .slice (some a) m c]).run P w = .ok v' w') : Below w.heap.size w w' := by
  by_cases hm : m = 0
  · subst hm
    have hn : news = [] := List.eq_nil_of_length_eq_zero (by simpa using hl)
    subst hn
    have h := run_append_room (P := P) w t ty e i ht hi b 0 0 #[] hb a 0 c [] hl hnews h1 (Nat.le_refl _) (by simp)
    rw [hr] at h
    injection h with _ h
    subst h
    refine ⟨rfl, rfl, rfl, by simp [World.setRow], fun k hk => ?_⟩
    by_cases hkb : k = b
    · subst hkb
      rw [setRow_heap w k _ _ e _ hb, hb]
      simp
    · exact setRow_other w b k _ (fun e => hkb e)
  · have h := run_append_grow (P := P) w t ty e i z ht hi hz ⟨b, 0, none⟩ 0 0 [] (by simp) (fun j v hj => by simp at hj) a m c news hl hnews (by omega) (by unfold maxLen at h63; omega) (growslice_fits (by omega) (by rw [hby]; simpa using hbytes))
    rw [hr] at h
    injection h with _ h
    subst h
    exact (Below.refl w.heap.size w).drew.alloc (Nat.le_refl _) _
theorem wpList_append_empty {P : Program} {w : World} {ops : Array Oper} {rest : List Oper} {o : Oper} {a : Act} {Q : Exit → Act → World → Prop} (hgd : o.guard = none) (s x : Operand) (t : TypeId)
    (ho : o.op = .call { callee := .builtin .append, args := #[s, x], argTypes := #[t, t] })
    (base : Nat) (e : TypeId) (i : TypeInfo) (z : Value) (size bytes : Nat) (ht : P.underlying t = some (.slice e)) (hi : P.info? e = some i) (hz : i.zero = some z)
    (hsize : i.size = size) (hby : i.bytes = bytes) (hzs : z.cells.size = size) (hsz : 0 < size)
    (b : Nat) (hs : a.eval s = .slice (some ⟨b, 0, none⟩) 0 0) (hb : w.heap[b]? = some (.cells #[] e (0, 0))) (hbb : base ≤ b)
    (ad : Addr) (m c : Nat) (news : List Value) (hx : a.eval x = .slice (some ad) m c) (hl : news.length = m * size) (hnews : ∀ j u, news[j]? = some u → w.cell? (ad.add j) = some u) (h1 : ∀ u ∈ news, u.oneCell' = true)
    (h63 : m ≤ maxLen) (hbytes : m * bytes ≤ 140737488355328) (hbase : base ≤ w.heap.size)
    (h : ∀ v' w', w'.ownsRow base e size v' m news → v' ≠ .slice none 0 0 → Below w.heap.size w w' → wpList P ops Q rest (a.put o.dst v') w') : wpList P ops Q (o :: rest) a w := by
  refine wpList_plain hgd fun _ hK => ?_
  have hown : w.ownsRow base e size (.slice (some ⟨b, 0, none⟩) 0 0) 0 [] := ⟨by simp, .inr ⟨b, 0, #[], rfl, hbb, hb, Nat.le_refl _, Nat.zero_le _, by simp, by simp⟩⟩
  obtain ⟨v', w', hr, h2, h3, h4⟩ := run_append_own (P := P) w base t o.type e i z size bytes ht hi hz hsize hby hzs hsz _ 0 [] hown ad m c news hl hnews h1 (by omega) (by simpa using hbytes) hbase
  have hbl := run_append_empty (P := P) t o.type e i z bytes ht hi hz hby hb ad m c news (by rw [hsize]; exact hl) hnews h1 h63 hbytes hr
  rw [Nat.zero_add, List.nil_append] at h2
  unfold Oper.wp execOp
  simp only [ho, resolve, invoke, builtin, Sem.run_bind, Sem.run_pure, Result.andThen_ok, List.map_toArray, List.map_cons, List.map_nil, hs, hx, hr]
  exact hK _ _ (h v' w' h2 (fun e => by have := (h4.1 e).1; cases this) hbl)

/-- The facts of the slots of the last region. -/
def insF (lb n c k pb : Nat) (ps : List Per) (p : Per) (w1 : World) (i : Nat) (w : World) (v : Value) : Prop :=
  match i with
  | 0 => v = .slice (some ⟨lb, 0, none⟩) n c
  | 38 => v = .slice (some ⟨lb, 0, none⟩) n c
  | 45 => v = .slice (some ⟨lb, 0, none⟩) n c
  | 3 => v = .pointer (some ⟨pb, 0, none⟩)
  | 5 => v = .int .i64 k
  | 39 => v = .int .i64 k
  | 46 => v = .int .i64 k
  | 40 => v = .slice (some ⟨lb, 0, none⟩) k c
  | 42 => v = .agg #[.int .i64 p.number, .string p.first, .string p.last, .int .i64 p.born, .int .i64 p.zone]
  | 47 => ∃ (ad : Addr) (l c' : Nat), v = .slice (some ad) l c' ∧ l = n - k ∧ ∀ j u, ((ps.drop k).flatMap perC)[j]? = some u → (ad.add j).block < w1.heap.size ∧ w1.cell? (ad.add j) = some u
  | 37 => ∃ b, v = .slice (some ⟨b, 0, none⟩) 0 0 ∧ w1.heap.size ≤ b ∧ w.heap[b]? = some (.cells #[] 35)
  | 43 => ∃ b, v = .slice (some ⟨b, 0, none⟩) 1 1 ∧ w.heap[b]? = some (.cells #[.int .i64 p.number, .string p.first, .string p.last, .int .i64 p.born, .int .i64 p.zone] 35)
  | 41 => OwnP w1.heap.size v (ps.take k) w
  | 44 => OwnP w1.heap.size v (ps.take k ++ [p]) w
  | 48 => OwnP w1.heap.size v (ps.take k ++ [p] ++ ps.drop k) w
  | _ => False
/-- Which operation consumes a slot. -/
def insC (t : Nat) : Option Nat := if t = 37 then some 4 else if t = 41 then some 7 else if t = 43 then some 7 else if t = 44 then some 11 else none
def insR (i : Nat) (w w' : World) : Prop := (i ≠ 7 ∧ i ≠ 11) → Below w.heap.size w w'
theorem insR_refl (i : Nat) (w : World) : insR i w w := fun _ => Below.refl _ _
theorem insR_of {i : Nat} {w w' : World} (h : Below w.heap.size w w') : insR i w w' := fun _ => h
theorem block_below {w w' : World} {b : Nat} {x : Obj} (h : w.heap[b]? = some x) (hb : Below w.heap.size w w') : w'.heap[b]? = some x := (hb.block b (Array.getElem?_eq_some_iff.1 h).1).trans h
theorem insF_stands {lb n c k pb : Nat} {ps : List Per} {p : Per} {w1 : World} {ops : Array Oper} (h1 : ∀ t, t = 37 ∨ t = 41 ∨ t = 43 ∨ t = 44 ∨ t = 48 → mustStand ops 12 insC 7 t = false ∧ mustStand ops 12 insC 11 t = false)
    (i t : Nat) (w w' : World) (v : Value) (hs : mustStand ops 12 insC i t = true) (h : insF lb n c k pb ps p w1 t w v) (hR : insR i w w') : insF lb n c k pb ps p w1 t w' v := by
  have key : (t = 37 ∨ t = 41 ∨ t = 43 ∨ t = 44 ∨ t = 48) → Below w.heap.size w w' := fun ht => by
    refine hR ⟨?_, ?_⟩
    · rintro rfl
      rw [(h1 t ht).1] at hs
      cases hs
    · rintro rfl
      rw [(h1 t ht).2] at hs
      cases hs
  unfold insF at h ⊢
  split at h
  case h_11 => obtain ⟨b, e1, e2, e3⟩ := h; exact ⟨b, e1, e2, block_below e3 (key (by simp))⟩
  case h_12 => obtain ⟨b, e1, e3⟩ := h; exact ⟨b, e1, block_below e3 (key (by simp))⟩
  case h_13 => exact h.below (key (by simp))
  case h_14 => exact h.below (key (by simp))
  case h_15 => exact h.below (key (by simp))
  all_goals exact h
theorem flat_snoc (ps : List Per) (p : Per) : (ps ++ [p]).flatMap perC = ps.flatMap perC ++ perC p := by rw [List.flatMap_append]; simp

set_option maxRecDepth 100000 in
set_option maxHeartbeats 16000000 in
theorem insert_c {base : Nat} {v : Value} {ps : List Per} {w : World} (p : Per) (h : OwnP base v ps w) (hb : base ≤ w.heap.size) (hm : ps.length ≤ 1000) :
    Calls Try.prog 100 #[v, perV p] w fun e w' => ∃ u qs, e = .returned u ∧ OwnP base u qs w' ∧ qs.length ≤ ps.length + 1 ∧ (∀ q ∈ qs, q ∈ ps ∨ q = p) ∧ Below w.heap.size w w' := by
  obtain ⟨i0, hi, hz0, hz1, hz2⟩ := info_parts info_iper
  have PA0 := perAt_new w p 35
  have BB : Below w.heap.size w (w.alloc (.cells #[.int .i64 p.number, .string p.first, .string p.last, .int .i64 p.born, .int .i64 p.zone] 35)) := (Below.refl _ _).alloc (Nat.le_refl _) _
  have HO := Lib.hid (h.below BB)
  obtain ⟨lb, c, rfl, hbl, hlb, hcap, hmost, hcells⟩ := (h.below BB).form
  have hlen : Hid (ps.length = ps.length) := Lib.hid rfl
  replace hcells := Lib.hid hcells
  replace hbl := Lib.hid hbl
  have HM := Lib.hid hmost
  unfold maxLen at hmost
  clear h
  generalize hn' : ps.length = n at *
  replace hn' := Lib.hid hn'
  unfold perV
  go_enter Try.func100, Try.ntmps100
  go_wp2_with fail
  generalize (w.alloc (.cells #[.int .i64 p.number, .string p.first, .string p.last, .int .i64 p.born, .int .i64 p.zone] 35)) = w1 at *
  have hbw := Lib.hid BB.size
  replace hlen := Lib.hid BB
  generalize hpbe : w.heap.size = pb at *
  go_loopw [5] (fun i wr => ∃ k m : Nat, k ≤ n ∧ i = .int .i64 k ∧ wr = w1.drewN m) (fun i _ => n - (intOf i).toNat)
  case atStart => exact ⟨0, 0, Nat.zero_le _, rfl, rfl⟩
  case round =>
    obtain ⟨k, m, hk, rfl, rfl⟩ := hrel
    obtain ⟨hpb, c0, c1, c2, c3, c4⟩ := PA0
    by_cases hlt : k < n
    · obtain ⟨q, hq⟩ := per_at (ps := ps) (k := k) (by have := hn'.out; omega)
      obtain ⟨d0, d1, d2, d3, d4⟩ := cells_at hcells.out hq
      clear hq
      by_cases hle : q.number < p.number
      · go_wp2_with fail
        go_quiet (fail)
        go_wp2_with fail
        go_roundw
        case rel => exact ⟨k + 1, _, by omega, by go_num, rfl⟩
        case measure => simp [intOf]; omega
      · by_cases heq : q.number = p.number
        · go_wp2_with fail
          go_quiet (fail)
          go_wp2_with fail
          go_quiet (fail)
          go_wp2_with fail
          go_ret
          exact ⟨_, ps, rfl, HO.out, by rw [hn'.out]; exact Nat.le_succ _, fun q hq => Or.inl hq, below_of_drewN (below_of_drewN (below_of_drewN (by rw [hpbe]; exact BB) _) _) _⟩
        · go_wp2_with fail
          go_quiet (fail)
          go_wp2_with fail
          go_quiet (fail)
          go_wp2_with fail
          refine wp_region_use (F := insF lb n c k pb ps p w1) (I := Below w1.heap.size w1) (R := insR) (m := 12) (n := 49) (pre := [0, 3, 5]) (cons := insC) (by kernel_rfl) (by kernel_rfl) rfl (by simp) (by kernel_rfl) ?hF (below_of_drewN (below_of_drewN (below_of_drewN (Below.refl _ _) _) _) _).drew ?hpre ?hstep ?hend
          case hF =>
            intro i t w3 w4 v hs hv _ hR
            exact insF_stands (fun t ht => by rcases ht with rfl | rfl | rfl | rfl | rfl <;> exact ⟨by kernel_rfl, by kernel_rfl⟩) i t w3 w4 v hs hv hR
          case hpre =>
            intro t ht
            simp only [List.mem_cons, List.not_mem_nil, or_false] at ht
            rcases ht with rfl | rfl | rfl <;> exact rfl
          case hstep =>
            refine (And.intro ?s37 (And.intro (stepU_move (by omega) (by omega) (fun _ _ h => h) (fun _ => insR_refl _ _)) (And.intro (stepU_move (by omega) (by omega) (fun _ _ h => h) (fun _ => insR_refl _ _)) (And.intro ?s40 (And.intro ?s41 (And.intro ?s42 (And.intro ?s43 (And.intro ?s44 (And.intro (stepU_move (by omega) (by omega) (fun _ _ h => h) (fun _ => insR_refl _ _)) (And.intro (stepU_move (by omega) (by omega) (fun _ _ h => h) (fun _ => insR_refl _ _)) (And.intro ?s47 (And.intro ?s48 trivial))))))))))))
            case s37 =>
              intro f w3 hI hF
              simp only [litAll, List.range, List.range.loop, List.map]
              go_wp2_with fail
              exact ⟨rfl, ⟨_, rfl, hI.size, heap_alloc_new w3 _⟩, hI.alloc hI.size _, insR_of ((Below.refl _ _).alloc (Nat.le_refl _) _)⟩
            case s40 =>
              intro f w3 hI hF
              simp only [litAll, List.range, List.range.loop, List.map]
              rw [show f 38 = .slice (some ⟨lb, 0, none⟩) n c from hF 38 (by decide), show f 39 = .int .i64 k from hF 39 (by decide)]
              go_wp2_with fail
              exact ⟨rfl, rfl, hI, insR_refl _ _⟩
            case s41 =>
              intro f w3 hI hF
              simp only [litAll, List.range, List.range.loop, List.map]
              obtain ⟨b, h37, hb1, hb2⟩ := hF 37 (by decide)
              rw [h37, show f 40 = .slice (some ⟨lb, 0, none⟩) k c from hF 40 (by decide)]
              have hn1 := Lib.hid hn'.out
              have hnews : Hid (∀ j u, ((ps.take k).flatMap perC)[j]? = some u → w3.cell? ((⟨lb, 0, none⟩ : Addr).add j) = some u) := Lib.hid fun j u hu => by rw [Addr.add_lit, Nat.zero_add]; exact (hI.cell (p := ⟨lb, j, none⟩) hlb).trans (hcells.out j u (flat_take hu))
              have hl5 : Hid (((ps.take k).flatMap perC).length = k * 5) := Lib.hid (by rw [flat_len, List.length_take, hn'.out]; omega)
              have hk1 : Hid ((ps.take k).length = k) := Lib.hid (by rw [List.length_take, hn'.out]; omega)
              refine wpList_append_empty rfl _ _ 50 rfl w1.heap.size 35 i0 (.agg #[.int .i64 0, .string ByteArray.empty, .string ByteArray.empty, .int .i64 0, .int .i64 0]) 5 56 Try.underlying50 hi hz0 hz1 hz2 rfl (by decide) b rfl hb2 hb1 ⟨lb, 0, none⟩ k c ((ps.take k).flatMap perC) rfl hl5.out hnews.out (fun u hu => one_cell hu) (by unfold maxLen; omega) (by omega) hI.size ?_
              intro v' w4 hown hne hb4
              have hO : Hid (OwnP w1.heap.size v' (ps.take k) w4) := Lib.hid ⟨by rw [hk1.out]; exact hown, hne⟩
              clear hown hnews hl5 hk1
              go_wp2_with fail
              exact ⟨rfl, hO.out, hI.trans (hb4.mono hI.size), insR_of hb4⟩
            case s42 =>
              intro f w3 hI hF
              simp only [litAll, List.range, List.range.loop, List.map]
              rw [show f 3 = .pointer (some ⟨pb, 0, none⟩) from hF 3 (by decide)]
              have e0 := (hI.cell (p := ⟨pb, 0, none⟩) hpb).trans c0
              have e1 := (hI.cell (p := ⟨pb, 1, none⟩) hpb).trans c1
              have e2 := (hI.cell (p := ⟨pb, 2, none⟩) hpb).trans c2
              have e3 := (hI.cell (p := ⟨pb, 3, none⟩) hpb).trans c3
              have e4 := (hI.cell (p := ⟨pb, 4, none⟩) hpb).trans c4
              go_wp2_with fail
              exact ⟨rfl, rfl, hI, insR_refl _ _⟩
            case s43 =>
              intro f w3 hI hF
              simp only [litAll, List.range, List.range.loop, List.map]
              rw [show f 42 = .agg #[.int .i64 p.number, .string p.first, .string p.last, .int .i64 p.born, .int .i64 p.zone] from hF 42 (by decide)]
              go_wp2_with fail
              exact ⟨rfl, ⟨_, rfl, heap_alloc_new w3 _⟩, hI.alloc hI.size _, insR_of ((Below.refl _ _).alloc (Nat.le_refl _) _)⟩
            case s44 =>
              intro f w3 hI hF
              simp only [litAll, List.range, List.range.loop, List.map]
              have hO1 := Lib.hid (show OwnP w1.heap.size (f 41) (ps.take k) w3 from hF 41 (by decide))
              obtain ⟨b, h43, hb2⟩ := hF 43 (by decide)
              rw [h43]
              have hk1 : Hid ((ps.take k).length = k) := Lib.hid (by rw [List.length_take, hn'.out]; omega)
              have hnews : Hid (∀ j u, (perC p)[j]? = some u → w3.cell? ((⟨b, 0, none⟩ : Addr).add j) = some u) := Lib.hid (news_of hb2)
              generalize f 41 = v41 at *
              refine wpList_append_own w3 rfl _ _ 50 rfl w1.heap.size 35 i0 (.agg #[.int .i64 0, .string ByteArray.empty, .string ByteArray.empty, .int .i64 0, .int .i64 0]) 5 56 Try.underlying50 hi hz0 hz1 hz2 rfl (by decide) v41 _ _ rfl hO1.out.1 ⟨b, 0, none⟩ 1 1 (perC p) rfl rfl hnews.out (fun u hu => one_cell (ps := [p]) (by simpa using hu)) (by rw [hk1.out]; unfold maxLen; omega) (by rw [hk1.out]; omega) hI.size ?_
              intro v' w4 hown hgrow hne
              rw [← flat_snoc, show (ps.take k).length + 1 = (ps.take k ++ [p]).length by simp] at hown
              have hO : Hid (OwnP w1.heap.size v' (ps.take k ++ [p]) w4) := Lib.hid ⟨hown, fun e => hO1.out.2 (hne.1 e).1⟩
              have hI4 : Below w1.heap.size w1 w4 := hI.grown hgrow hI.size (fun g hg => (hO1.out.1.lt g hg).1)
              clear hown hnews hk1 hgrow hne
              go_wp2_with fail
              exact ⟨rfl, hO.out, hI4, fun h => absurd rfl h.1⟩
            case s47 =>
              intro f w3 hI hF
              simp only [litAll, List.range, List.range.loop, List.map]
              rw [show f 45 = .slice (some ⟨lb, 0, none⟩) n c from hF 45 (by decide), show f 46 = .int .i64 k from hF 46 (by decide)]
              have hcl : Hid (∀ j u, ((ps.drop k).flatMap perC)[j]? = some u → w1.cell? ⟨lb, k * 5 + j, none⟩ = some u) := Lib.hid fun j u hu => hcells.out _ u (flat_drop (by rw [hn'.out]; omega) hu)
              have hdn : Hid (c = k → ps.drop k = []) := Lib.hid fun e => List.drop_eq_nil_of_le (by rw [hn'.out]; omega)
              by_cases hck : c = k
              · have hnil := Lib.hid (hdn.out hck)
                go_wp2_with fail
                exact ⟨rfl, ⟨_, _, _, rfl, by omega, fun j u hu => by rw [hnil.out] at hu; simp at hu⟩, hI, insR_refl _ _⟩
              · go_wp2_with fail
                exact ⟨rfl, ⟨_, _, _, rfl, by omega, fun j u hu => by have := hcl.out j u hu; rw [Addr.add_lit]; exact ⟨hlb, by simpa using this⟩⟩, hI, insR_refl _ _⟩
            case s48 =>
              intro f w3 hI hF
              simp only [litAll, List.range, List.range.loop, List.map]
              have hO1 := Lib.hid (show OwnP w1.heap.size (f 44) (ps.take k ++ [p]) w3 from hF 44 (by decide))
              obtain ⟨ad, l, c', h47, hln, hb2⟩ := hF 47 (by decide)
              rw [h47]
              have hk1 : Hid ((ps.take k ++ [p]).length = k + 1) := Lib.hid (by rw [List.length_append, List.length_take, hn'.out, List.length_singleton]; omega)
              have hk2 : Hid ((ps.drop k).length = l) := Lib.hid (by rw [List.length_drop, hn'.out, hln])
              have hnews : Hid (∀ j u, ((ps.drop k).flatMap perC)[j]? = some u → w3.cell? (ad.add j) = some u) := Lib.hid fun j u hu => (hI.cell (hb2 j u hu).1).trans (hb2 j u hu).2
              generalize f 44 = v44 at *
              refine wpList_append_own w3 rfl _ _ 50 rfl w1.heap.size 35 i0 (.agg #[.int .i64 0, .string ByteArray.empty, .string ByteArray.empty, .int .i64 0, .int .i64 0]) 5 56 Try.underlying50 hi hz0 hz1 hz2 rfl (by decide) v44 _ _ rfl hO1.out.1 ad l c' ((ps.drop k).flatMap perC) rfl (by rw [flat_len, hk2.out]) hnews.out (fun u hu => one_cell hu) (by rw [hk1.out]; unfold maxLen; omega) (by rw [hk1.out]; omega) hI.size ?_
              intro v' w4 hown hgrow hne
              rw [← List.flatMap_append, ← hk2.out, ← List.length_append] at hown
              have hO : Hid (OwnP w1.heap.size v' (ps.take k ++ [p] ++ ps.drop k) w4) := Lib.hid ⟨hown, fun e => hO1.out.2 (hne.1 e).1⟩
              have hI4 : Below w1.heap.size w1 w4 := hI.grown hgrow hI.size (fun g hg => (hO1.out.1.lt g hg).1)
              clear hown hnews hk1 hgrow hne
              go_wp2_with fail
              exact ⟨rfl, hO.out, hI4, fun h => absurd rfl h.2⟩
          case hend =>
            intro f w3 hI hF o ho
            injection ho with ho
            subst ho
            have hO : Hid (OwnP w1.heap.size (f 48) (ps.take k ++ [p] ++ ps.drop k) w3) := Lib.hid (hF 48 (by decide) (Or.inl rfl))
            simp only [dstsOf, List.take, List.filterMap, setSlots, List.foldl, List.set]
            clear hF
            generalize f 37 = v37 at *
            generalize f 38 = v38 at *
            generalize f 39 = v39 at *
            generalize f 40 = v40 at *
            generalize f 41 = v41 at *
            generalize f 42 = v42 at *
            generalize f 43 = v43 at *
            generalize f 44 = v44 at *
            generalize f 45 = v45 at *
            generalize f 46 = v46 at *
            generalize f 47 = v47 at *
            generalize f 48 = v48 at *
            go_wp2_with fail
            go_ret
            refine ⟨v48, _, rfl, hO.out.mono (by have := hbw.out; omega), ?_, fun q hq => ?_, ?_⟩
            · simp only [List.length_append, List.length_take, List.length_drop, List.length_singleton, hn'.out]; omega
            · rcases List.mem_append.1 hq with hq | hq
              · rcases List.mem_append.1 hq with hq | hq
                · exact Or.inl (List.mem_of_mem_take hq)
                · exact Or.inr (by simpa using hq)
              · exact Or.inl (List.mem_of_mem_drop hq)
            · rw [hpbe]; exact hlen.out.trans (hI.mono hbw.out)
    · obtain rfl : k = n := by omega
      go_wp2_with fail
      go_quiet (fail)
      go_wp2_with fail
      go_quiet (fail)
      go_wp2_with fail
      refine wp_region_use (F := insF lb k c k pb ps p w1) (I := Below w1.heap.size w1) (R := insR) (m := 12) (n := 49) (pre := [0, 3, 5]) (cons := insC) (by kernel_rfl) (by kernel_rfl) rfl (by simp) (by kernel_rfl) ?hF (below_of_drewN (below_of_drewN (below_of_drewN (Below.refl _ _) _) _) _).drew ?hpre ?hstep ?hend
      case hF =>
        intro i t w3 w4 v hs hv _ hR
        exact insF_stands (fun t ht => by rcases ht with rfl | rfl | rfl | rfl | rfl <;> exact ⟨by kernel_rfl, by kernel_rfl⟩) i t w3 w4 v hs hv hR
      case hpre =>
        intro t ht
        simp only [List.mem_cons, List.not_mem_nil, or_false] at ht
        rcases ht with rfl | rfl | rfl <;> exact rfl
      case hstep =>
        refine (And.intro ?s37 (And.intro (stepU_move (by omega) (by omega) (fun _ _ h => h) (fun _ => insR_refl _ _)) (And.intro (stepU_move (by omega) (by omega) (fun _ _ h => h) (fun _ => insR_refl _ _)) (And.intro ?s40 (And.intro ?s41 (And.intro ?s42 (And.intro ?s43 (And.intro ?s44 (And.intro (stepU_move (by omega) (by omega) (fun _ _ h => h) (fun _ => insR_refl _ _)) (And.intro (stepU_move (by omega) (by omega) (fun _ _ h => h) (fun _ => insR_refl _ _)) (And.intro ?s47 (And.intro ?s48 trivial))))))))))))
        case s37 =>
          intro f w3 hI hF
          simp only [litAll, List.range, List.range.loop, List.map]
          go_wp2_with fail
          exact ⟨rfl, ⟨_, rfl, hI.size, heap_alloc_new w3 _⟩, hI.alloc hI.size _, insR_of ((Below.refl _ _).alloc (Nat.le_refl _) _)⟩
        case s40 =>
          intro f w3 hI hF
          simp only [litAll, List.range, List.range.loop, List.map]
          rw [show f 38 = .slice (some ⟨lb, 0, none⟩) k c from hF 38 (by decide), show f 39 = .int .i64 k from hF 39 (by decide)]
          go_wp2_with fail
          exact ⟨rfl, rfl, hI, insR_refl _ _⟩
        case s41 =>
          intro f w3 hI hF
          simp only [litAll, List.range, List.range.loop, List.map]
          obtain ⟨b, h37, hb1, hb2⟩ := hF 37 (by decide)
          rw [h37, show f 40 = .slice (some ⟨lb, 0, none⟩) k c from hF 40 (by decide)]
          have hn1 := Lib.hid hn'.out
          have hnews : Hid (∀ j u, ((ps.take k).flatMap perC)[j]? = some u → w3.cell? ((⟨lb, 0, none⟩ : Addr).add j) = some u) := Lib.hid fun j u hu => by rw [Addr.add_lit, Nat.zero_add]; exact (hI.cell (p := ⟨lb, j, none⟩) hlb).trans (hcells.out j u (flat_take hu))
          have hl5 : Hid (((ps.take k).flatMap perC).length = k * 5) := Lib.hid (by rw [flat_len, List.length_take, hn'.out]; omega)
          have hk1 : Hid ((ps.take k).length = k) := Lib.hid (by rw [List.length_take, hn'.out]; omega)
          refine wpList_append_empty rfl _ _ 50 rfl w1.heap.size 35 i0 (.agg #[.int .i64 0, .string ByteArray.empty, .string ByteArray.empty, .int .i64 0, .int .i64 0]) 5 56 Try.underlying50 hi hz0 hz1 hz2 rfl (by decide) b rfl hb2 hb1 ⟨lb, 0, none⟩ k c ((ps.take k).flatMap perC) rfl hl5.out hnews.out (fun u hu => one_cell hu) (by unfold maxLen; omega) (by omega) hI.size ?_
          intro v' w4 hown hne hb4
          have hO : Hid (OwnP w1.heap.size v' (ps.take k) w4) := Lib.hid ⟨by rw [hk1.out]; exact hown, hne⟩
          clear hown hnews hl5 hk1
          go_wp2_with fail
          exact ⟨rfl, hO.out, hI.trans (hb4.mono hI.size), insR_of hb4⟩
        case s42 =>
          intro f w3 hI hF
          simp only [litAll, List.range, List.range.loop, List.map]
          rw [show f 3 = .pointer (some ⟨pb, 0, none⟩) from hF 3 (by decide)]
          have e0 := (hI.cell (p := ⟨pb, 0, none⟩) hpb).trans c0
          have e1 := (hI.cell (p := ⟨pb, 1, none⟩) hpb).trans c1
          have e2 := (hI.cell (p := ⟨pb, 2, none⟩) hpb).trans c2
          have e3 := (hI.cell (p := ⟨pb, 3, none⟩) hpb).trans c3
          have e4 := (hI.cell (p := ⟨pb, 4, none⟩) hpb).trans c4
          go_wp2_with fail
          exact ⟨rfl, rfl, hI, insR_refl _ _⟩
        case s43 =>
          intro f w3 hI hF
          simp only [litAll, List.range, List.range.loop, List.map]
          rw [show f 42 = .agg #[.int .i64 p.number, .string p.first, .string p.last, .int .i64 p.born, .int .i64 p.zone] from hF 42 (by decide)]
          go_wp2_with fail
          exact ⟨rfl, ⟨_, rfl, heap_alloc_new w3 _⟩, hI.alloc hI.size _, insR_of ((Below.refl _ _).alloc (Nat.le_refl _) _)⟩
        case s44 =>
          intro f w3 hI hF
          simp only [litAll, List.range, List.range.loop, List.map]
          have hO1 := Lib.hid (show OwnP w1.heap.size (f 41) (ps.take k) w3 from hF 41 (by decide))
          obtain ⟨b, h43, hb2⟩ := hF 43 (by decide)
          rw [h43]
          have hk1 : Hid ((ps.take k).length = k) := Lib.hid (by rw [List.length_take, hn'.out]; omega)
          have hnews : Hid (∀ j u, (perC p)[j]? = some u → w3.cell? ((⟨b, 0, none⟩ : Addr).add j) = some u) := Lib.hid (news_of hb2)
          generalize f 41 = v41 at *
          refine wpList_append_own w3 rfl _ _ 50 rfl w1.heap.size 35 i0 (.agg #[.int .i64 0, .string ByteArray.empty, .string ByteArray.empty, .int .i64 0, .int .i64 0]) 5 56 Try.underlying50 hi hz0 hz1 hz2 rfl (by decide) v41 _ _ rfl hO1.out.1 ⟨b, 0, none⟩ 1 1 (perC p) rfl rfl hnews.out (fun u hu => one_cell (ps := [p]) (by simpa using hu)) (by rw [hk1.out]; unfold maxLen; omega) (by rw [hk1.out]; omega) hI.size ?_
          intro v' w4 hown hgrow hne
          rw [← flat_snoc, show (ps.take k).length + 1 = (ps.take k ++ [p]).length by simp] at hown
          have hO : Hid (OwnP w1.heap.size v' (ps.take k ++ [p]) w4) := Lib.hid ⟨hown, fun e => hO1.out.2 (hne.1 e).1⟩
          have hI4 : Below w1.heap.size w1 w4 := hI.grown hgrow hI.size (fun g hg => (hO1.out.1.lt g hg).1)
          clear hown hnews hk1 hgrow hne
          go_wp2_with fail
          exact ⟨rfl, hO.out, hI4, fun h => absurd rfl h.1⟩
        case s47 =>
          intro f w3 hI hF
          simp only [litAll, List.range, List.range.loop, List.map]
          rw [show f 45 = .slice (some ⟨lb, 0, none⟩) k c from hF 45 (by decide), show f 46 = .int .i64 k from hF 46 (by decide)]
          have hcl : Hid (∀ j u, ((ps.drop k).flatMap perC)[j]? = some u → w1.cell? ⟨lb, k * 5 + j, none⟩ = some u) := Lib.hid fun j u hu => hcells.out _ u (flat_drop (by rw [hn'.out]; omega) hu)
          have hdn : Hid (c = k → ps.drop k = []) := Lib.hid fun e => List.drop_eq_nil_of_le (by rw [hn'.out]; omega)
          by_cases hck : c = k
          · have hnil := Lib.hid (hdn.out hck)
            go_wp2_with fail
            exact ⟨rfl, ⟨_, _, _, rfl, by omega, fun j u hu => by rw [hnil.out] at hu; simp at hu⟩, hI, insR_refl _ _⟩
          · go_wp2_with fail
            exact ⟨rfl, ⟨_, _, _, rfl, by omega, fun j u hu => by have := hcl.out j u hu; rw [Addr.add_lit]; exact ⟨hlb, by simpa using this⟩⟩, hI, insR_refl _ _⟩
        case s48 =>
          intro f w3 hI hF
          simp only [litAll, List.range, List.range.loop, List.map]
          have hO1 := Lib.hid (show OwnP w1.heap.size (f 44) (ps.take k ++ [p]) w3 from hF 44 (by decide))
          obtain ⟨ad, l, c', h47, hln, hb2⟩ := hF 47 (by decide)
          rw [h47]
          have hk1 : Hid ((ps.take k ++ [p]).length = k + 1) := Lib.hid (by rw [List.length_append, List.length_take, hn'.out, List.length_singleton]; omega)
          have hk2 : Hid ((ps.drop k).length = l) := Lib.hid (by rw [List.length_drop, hn'.out, hln])
          have hnews : Hid (∀ j u, ((ps.drop k).flatMap perC)[j]? = some u → w3.cell? (ad.add j) = some u) := Lib.hid fun j u hu => (hI.cell (hb2 j u hu).1).trans (hb2 j u hu).2
          generalize f 44 = v44 at *
          refine wpList_append_own w3 rfl _ _ 50 rfl w1.heap.size 35 i0 (.agg #[.int .i64 0, .string ByteArray.empty, .string ByteArray.empty, .int .i64 0, .int .i64 0]) 5 56 Try.underlying50 hi hz0 hz1 hz2 rfl (by decide) v44 _ _ rfl hO1.out.1 ad l c' ((ps.drop k).flatMap perC) rfl (by rw [flat_len, hk2.out]) hnews.out (fun u hu => one_cell hu) (by rw [hk1.out]; unfold maxLen; omega) (by rw [hk1.out]; omega) hI.size ?_
          intro v' w4 hown hgrow hne
          rw [← List.flatMap_append, ← hk2.out, ← List.length_append] at hown
          have hO : Hid (OwnP w1.heap.size v' (ps.take k ++ [p] ++ ps.drop k) w4) := Lib.hid ⟨hown, fun e => hO1.out.2 (hne.1 e).1⟩
          have hI4 : Below w1.heap.size w1 w4 := hI.grown hgrow hI.size (fun g hg => (hO1.out.1.lt g hg).1)
          clear hown hnews hk1 hgrow hne
          go_wp2_with fail
          exact ⟨rfl, hO.out, hI4, fun h => absurd rfl h.2⟩
      case hend =>
        intro f w3 hI hF o ho
        injection ho with ho
        subst ho
        have hO : Hid (OwnP w1.heap.size (f 48) (ps.take k ++ [p] ++ ps.drop k) w3) := Lib.hid (hF 48 (by decide) (Or.inl rfl))
        simp only [dstsOf, List.take, List.filterMap, setSlots, List.foldl, List.set]
        clear hF
        generalize f 37 = v37 at *
        generalize f 38 = v38 at *
        generalize f 39 = v39 at *
        generalize f 40 = v40 at *
        generalize f 41 = v41 at *
        generalize f 42 = v42 at *
        generalize f 43 = v43 at *
        generalize f 44 = v44 at *
        generalize f 45 = v45 at *
        generalize f 46 = v46 at *
        generalize f 47 = v47 at *
        generalize f 48 = v48 at *
        go_wp2_with fail
        go_ret
        refine ⟨v48, _, rfl, hO.out.mono (by have := hbw.out; omega), ?_, fun q hq => ?_, ?_⟩
        · simp only [List.length_append, List.length_take, List.length_drop, List.length_singleton, hn'.out]; omega
        · rcases List.mem_append.1 hq with hq | hq
          · rcases List.mem_append.1 hq with hq | hq
            · exact Or.inl (List.mem_of_mem_take hq)
            · exact Or.inr (by simpa using hq)
          · exact Or.inl (List.mem_of_mem_drop hq)
        · rw [hpbe]; exact hlen.out.trans (hI.mono hbw.out)
end Go.Proofs.Ythnilifepiihjaa

/-
  A list of persons drawn: l04List.
  Conditions: each lemma names its own.
-/
namespace Go.Proofs.Ythnilifepiihjaa
open Go.RowKit
set_option linter.unusedVariables false

theorem own_empty (w : World) : OwnP w.heap.size (.slice (some ⟨w.heap.size, 0, none⟩) 0 0) [] (w.alloc (.cells #[] 35)) :=
  ⟨World.ownsRow_lit w #[] 0 (Nat.le_refl _) (by decide) rfl, fun e => by cases e⟩
theorem GoodP.draw {p : Per} (h : GoodP p) : DrawP p := by
  obtain ⟨h1, h2, h3, h4, h5⟩ := h
  exact ⟨by omega, h2, h3, by omega, by omega⟩
def AllD (ps : List Per) : Prop := ∀ p ∈ ps, DrawP p
theorem AllD.fit {ps : List Per} (h : AllD ps) : PersFit ps := fun p hp => (h p hp).fit
theorem allD_nil : AllD [] := fun p hp => by simp at hp
theorem AllD.snoc {ps : List Per} {p : Per} (h : AllD ps) (hp : DrawP p) : AllD (ps ++ [p]) := fun q hq => by
  rcases List.mem_append.1 hq with hq | hq
  · exact h q hq
  · have : q = p := by simpa using hq
    exact this ▸ hp
theorem AllD.put {ps qs : List Per} {p : Per} (h : AllD ps) (hp : DrawP p) (hq : ∀ q ∈ qs, q ∈ ps ∨ q = p) : AllD qs := fun q hm => by
  rcases hq q hm with hq | hq
  · exact h q hq
  · exact hq ▸ hp
/-- A list of persons is drawn. -/
def GotPers (B g : Nat) (w : World) (e : Ending) (w' : World) : Prop := ∃ u ps, e = .returned u ∧ OwnP w.heap.size u ps w' ∧ ps.length ≤ 13 ∧ AllD ps ∧ Src B g w' ∧ Past g w w'
set_option maxRecDepth 100000 in
set_option maxHeartbeats 16000000 in
theorem list_c {B g : Nat} {w : World} (h : Src B g w) : Calls Try.prog 72 #[.pointer (some ⟨g, 0, none⟩)] w (GotPers B g w) := by
  obtain ⟨i0, hi, hz0, hz1, hz2⟩ := info_parts info_iper
  have hgb := h.lt
  have h1 := Lib.hid (h.alloc (.cells #[] 35))
  have p1 : Past g w (w.alloc (.cells #[] 35)) := (Past.refl g w).alloc _
  have o1 := Lib.hid (own_empty w)
  replace p1 := Lib.hid p1
  clear h
  go_enter Try.func72, Try.ntmps72
  go_wp2_with fail
  generalize (w.alloc (.cells #[] 35)) = w1 at *
  refine (next_c h1.out 8 (by omega)).mono ?_
  rintro e w2 ⟨r, rfl, ⟨a2, b2, z2⟩, h2, p2⟩
  replace b2 := b2 (by omega)
  replace o1 := Lib.hid (o1.out.past p2 hgb)
  replace p1 := Lib.hid (p1.out.trans p2)
  replace h2 := Lib.hid h2
  clear p2 z2 h1
  have hr : r = ((r.toNat : Nat) : Int) := by omega
  generalize r.toNat = n0 at *
  subst hr
  generalize hu : (Value.slice (some ⟨w.heap.size, 0, none⟩) 0 0) = u0 at *
  replace hu := Lib.hid hu
  go_wp2_with fail
  go_loopw [3, 4] (fun u i wr => ∃ (n : Nat) (ps : List Per), i = .int .i64 n ∧ ps.length + n ≤ 7 ∧ Hid (AllD ps) ∧ Hid (OwnP w.heap.size u ps wr) ∧ Hid (Src B g wr) ∧ Hid (Past g w wr)) (fun _ i _ => (intOf i).toNat)
  case atStart => exact ⟨n0, [], rfl, by simp; omega, Lib.hid allD_nil, o1, h2, p1⟩
  case round =>
    clear h2 p1 o1 hu
    obtain ⟨n, ps, rfl, hn, hD, ho, hS, hP⟩ := hrel
    by_cases hlt : 0 < n
    · go_wp2_with fail
      refine (l04Good_c hS.out).mono ?_
      rintro e w3 ⟨p, rfl, hp, h3, p3⟩
      replace ho := Lib.hid (ho.out.past p3 hgb)
      replace hP := Lib.hid (hP.out.trans p3)
      replace hS := Lib.hid h3
      replace hp := Lib.hid hp.draw
      clear h3 p3
      have hsz := Lib.hid hP.out.size
      go_wp2_with fail
      refine (insert_c p ho.out hsz.out (by omega)).mono ?_
      rintro e w4 ⟨v4, qs, rfl, h4, hql, hqm, b4⟩
      replace hS := Lib.hid (hS.out.below b4)
      replace hP := Lib.hid (hP.out.trans (Past.of_below b4))
      replace hD := Lib.hid (hD.out.put hp.out hqm)
      replace ho := Lib.hid h4
      clear b4 hsz h4 hqm
      go_wp2_with fail
      go_roundw
      case rel => exact ⟨n - 1, qs, by go_num, by omega, hD, ho, hS, hP⟩
      case measure => simp [intOf]; omega
    · obtain rfl : n = 0 := by omega
      clear hlt
      go_wp2_with fail
      refine (next_c hS.out 24 (by omega)).mono ?_
      rintro e w3 ⟨r, rfl, ⟨a3, b3, z3⟩, h3, p3⟩
      replace b3 := b3 (by omega)
      replace ho := Lib.hid (ho.out.past p3 hgb)
      replace hP := Lib.hid (hP.out.trans p3)
      replace hS := Lib.hid h3
      clear h3 p3 z3
      rcases (show r = 0 ∨ r = 1 ∨ (r ≠ 0 ∧ r ≠ 1) by omega) with rfl | rfl | ⟨q0, q1⟩
      · go_wp2_with fail
        refine (l04Draw_c hS.out).mono ?_
        rintro e w4 ⟨p, rfl, hp, h4, p4⟩
        replace ho := Lib.hid (ho.out.past p4 hgb)
        replace hP := Lib.hid (hP.out.trans p4)
        replace hS := Lib.hid h4
        replace hD := Lib.hid (hD.out.snoc hp)
        have hsz := Lib.hid hP.out.size
        clear h4 p4 hp
        have hnews : Hid (∀ j u, (perC p)[j]? = some u → (w4.alloc (.cells #[.int .i64 p.number, .string p.first, .string p.last, .int .i64 p.born, .int .i64 p.zone] 35)).cell? ((⟨w4.heap.size, 0, none⟩ : Addr).add j) = some u) := Lib.hid (news_of (heap_alloc_new w4 _))
        have ho1 := Lib.hid ho.out.1
        unfold perV
        go_wp2_with (at_builtin; refine wpList_append_own _ rfl _ _ 50 rfl w.heap.size 35 i0 (.agg #[.int .i64 0, .string ByteArray.empty, .string ByteArray.empty, .int .i64 0, .int .i64 0]) 5 56 Try.underlying50 hi hz0 hz1 hz2 rfl (by decide) _ _ _ rfl (World.ownsRow.alloc ho1.out _) ⟨w4.heap.size, 0, none⟩ 1 1 (perC p) rfl rfl hnews.out (fun u hu => one_cell (ps := [p]) (by simpa using hu)) (by unfold maxLen; omega) (by omega) (by have := hsz.out; simp; omega) ?_)
        intro v' w5 hown hgrow hne
        have hO : Hid (OwnP w.heap.size v' (ps ++ [p]) w5) := Lib.hid ⟨by rw [flat_snoc, List.length_append]; exact hown, hne⟩
        obtain ⟨s5, t5⟩ := src_append hS.out hgb hP.out ho1.out hgrow
        replace s5 := Lib.hid s5
        replace t5 := Lib.hid t5
        clear hown hgrow hne hnews ho1 ho hS hP hsz
        go_wp2_with fail
        go_ret
        exact ⟨_, _, rfl, hO.out, by simp; omega, hD.out, s5.out, t5.out⟩
      · go_wp2_with fail
        generalize hm0 : ps.length = m0 at *
        replace hm0 := Lib.hid hm0
        obtain ⟨wo, rfl⟩ : ∃ wo : World, wo = w3 := ⟨_, rfl⟩
        go_loopw [3, 5] (fun u i wr => ∃ (k : Nat) (ps : List Per), i = .int .i64 (100 + (k : Int)) ∧ Hid (ps.length = m0 + k) ∧ Hid (m0 + k ≤ 13) ∧ Hid (AllD ps) ∧ Hid (OwnP w.heap.size u ps wr) ∧ Hid (Src B g wr) ∧ Hid (Past g w wr)) (fun _ i _ => 200 - (intOf i).toNat)
        case atStart => exact ⟨0, ps, by simp, Lib.hid (by rw [hm0.out]; rfl), Lib.hid (by omega), hD, ho, hS, hP⟩
        case round =>
          clear hD ho hS hP hm0 ps
          obtain ⟨k, ps, rfl, hl, hk, hD, ho, hS, hP⟩ := hrel
          obtain ⟨lb, c, rfl, _, _, hc1, hc2, _⟩ := ho.out.form
          unfold maxLen at hc2
          have hk13 : k ≤ 13 := by have := hk.out; omega
          generalize hL : ps.length = L at *
          have hL13 : L ≤ 13 := by have := hk.out; have := hl.out; omega
          replace hL := Lib.hid hL
          go_wp2_with fail
          refine (next_c hS.out 2 (by omega)).mono ?_
          rintro e w4 ⟨r, rfl, ⟨a4, b4, z4⟩, h4, p4⟩
          replace b4 := b4 (by omega)
          replace ho := Lib.hid (ho.out.past p4 hgb)
          replace hP := Lib.hid (hP.out.trans p4)
          replace hS := Lib.hid h4
          have hsz := Lib.hid hP.out.size
          clear h4 p4 z4
          by_cases q : (L : Int) < 12 + r
          · have hnews : Hid (∀ j u, (perC ⟨100 + (k : Int), ⟨#[105, 100, 97]⟩, ⟨#[116, 97, 108]⟩, 1970, 0⟩)[j]? = some u → (w4.alloc (.cells #[.int .i64 (100 + (k : Int)), .string ⟨#[105, 100, 97]⟩, .string ⟨#[116, 97, 108]⟩, .int .i64 1970, .int .i64 0] 35)).cell? ((⟨w4.heap.size, 0, none⟩ : Addr).add j) = some u) := Lib.hid (news_of (heap_alloc_new w4 _))
            have ho1 := Lib.hid ho.out.1
            rw [hL.out] at ho1
            have hD2 := Lib.hid (hD.out.snoc (p := ⟨100 + (k : Int), ⟨#[105, 100, 97]⟩, ⟨#[116, 97, 108]⟩, 1970, 0⟩) ⟨⟨by simp only; omega, by simp only; omega⟩, by simp only; decide, by simp only; decide, by simp only; omega, by simp only; omega⟩)
            go_wp2_with (at_builtin; refine wpList_append_own _ rfl _ _ 50 rfl w.heap.size 35 i0 (.agg #[.int .i64 0, .string ByteArray.empty, .string ByteArray.empty, .int .i64 0, .int .i64 0]) 5 56 Try.underlying50 hi hz0 hz1 hz2 rfl (by decide) _ _ _ rfl (World.ownsRow.alloc ho1.out _) ⟨w4.heap.size, 0, none⟩ 1 1 (perC ⟨100 + (k : Int), ⟨#[105, 100, 97]⟩, ⟨#[116, 97, 108]⟩, 1970, 0⟩) rfl rfl hnews.out (fun u hu => one_cell (ps := [⟨100 + (k : Int), ⟨#[105, 100, 97]⟩, ⟨#[116, 97, 108]⟩, 1970, 0⟩]) (by simpa using hu)) (by unfold maxLen; omega) (by omega) (by have := hsz.out; simp; omega) ?_)
            intro v' w5 hown hgrow hne
            have hO : Hid (OwnP w.heap.size v' (ps ++ [⟨100 + (k : Int), ⟨#[105, 100, 97]⟩, ⟨#[116, 97, 108]⟩, 1970, 0⟩]) w5) := Lib.hid ⟨by rw [flat_snoc, List.length_append, hL.out]; exact hown, hne⟩
            obtain ⟨s5, t5⟩ := src_append hS.out hgb hP.out ho1.out hgrow
            replace s5 := Lib.hid s5
            replace t5 := Lib.hid t5
            have hL2 : Hid ((ps ++ [(⟨100 + (k : Int), ⟨#[105, 100, 97]⟩, ⟨#[116, 97, 108]⟩, 1970, 0⟩ : Per)]).length = L + 1) := Lib.hid (by rw [List.length_append, hL.out]; rfl)
            generalize (ps ++ [(⟨100 + (k : Int), ⟨#[105, 100, 97]⟩, ⟨#[116, 97, 108]⟩, 1970, 0⟩ : Per)]) = ps2 at *
            clear hown hgrow hne hnews ho1 ho hS hP hsz hD
            go_wp2_with fail
            go_roundw
            case rel => exact ⟨k + 1, ps2, by go_num, Lib.hid (by rw [hL2.out]; have := hl.out; omega), Lib.hid (by have := hl.out; omega), hD2, hO, s5, t5⟩
            case measure => simp [intOf]; omega
          · go_wp2_with fail
            go_ret
            exact ⟨_, ps, rfl, ho.out, by rw [hL.out]; omega, hD.out, hS.out, hP.out⟩
      · have e0 : (r == 0) = false := by simpa using q0
        have e1 : (r == 1) = false := by simpa using q1
        clear q0 q1
        go_wp2_with fail
        go_ret
        exact ⟨_, ps, rfl, ho.out, by omega, hD.out, hS.out, hP.out⟩
end Go.Proofs.Ythnilifepiihjaa

/-
  Draws of lists of persons, limits and indices from a code.
  Conditions: each lemma names its own.
-/
namespace Go.Proofs.Ythnilifepiihjaa
open Go.RowKit
set_option linter.unusedVariables false

set_option maxRecDepth 100000 in
set_option maxHeartbeats 8000000 in
theorem l05Draw_c {B g : Nat} {w : World} (h : Src B g w) : Calls Try.prog 84 #[.pointer (some ⟨g, 0, none⟩)] w fun e w' => ∃ u ps l, e = .returned (.tuple #[u, .int .i64 l]) ∧ OwnP w.heap.size u ps w' ∧ ps.length ≤ 13 ∧ AllD ps ∧ (-1 ≤ l ∧ l ≤ 101) ∧ Src B g w' ∧ Past g w w' := by
  have hgl := h.lt
  have HL := Lib.hid (list_c h)
  clear h
  go_enter Try.func84, Try.ntmps84
  go_wp2_with fail
  refine HL.out.mono ?_
  rintro e w1 ⟨u, ps, rfl, ho, hl, hD, h1, p1⟩
  replace ho := Lib.hid ho
  replace hD := Lib.hid hD
  clear HL
  go_wp2_with fail
  refine (next_c h1 2 (by omega)).mono ?_
  rintro e w2 ⟨r, rfl, ⟨a2, b2, _⟩, h2, p2⟩
  replace b2 := b2 (by omega)
  replace ho := Lib.hid (ho.out.past p2 hgl)
  replace p1 := p1.trans p2
  clear h1 p2
  have HN := Lib.hid (pick_new (T := 2) (cs := #[.int .i64 60, .int .i64 70, .int .i64 80, .int .i64 50, .int .i64 65, .int .i64 100, .int .i64 0, .int .i64 (101 - 102 * r)]) [60, 70, 80, 50, 65, 100, 0, 101 - 102 * r] (-1) 101 h2 rfl rfl (by simp) (by simp) (by simp; omega))
  go_wp2_with fail
  refine HN.out.mono ?_
  rintro e w3 ⟨l, rfl, l0, l1, h3, p3⟩
  replace ho := Lib.hid (ho.out.past p3 hgl)
  replace p1 := p1.trans p3
  clear HN h2 p3
  go_wp2_with fail
  go_ret2
  exact ⟨u, ps, l, rfl, ho.out, hl, hD.out, ⟨l0, l1⟩, h3, p1⟩
set_option maxRecDepth 100000 in
set_option maxHeartbeats 8000000 in
theorem DrawGroupsOf_c {v : Value} {bs : List Int} {w : World} (h : Bytes w v bs) (hf : BytesFit bs) : Calls Try.prog 40 #[v] w fun e w' => ∃ u ps l, e = .returned (.tuple #[u, .int .i64 l]) ∧ OwnP w.heap.size u ps w' ∧ ps.length ≤ 13 ∧ AllD ps ∧ (-1 ≤ l ∧ l ≤ 101) ∧ Below w.heap.size w w' := by
  have HF := Lib.hid (from_c h hf)
  clear h
  go_enter Try.func40, Try.ntmps40
  go_wp2_with fail
  refine HF.out.mono ?_
  rintro e w1 ⟨g, rfl, h1, b1⟩
  go_wp2_with fail
  refine (l05Draw_c h1).mono ?_
  rintro e w2 ⟨u, ps, l, rfl, ho, hl, hD, hll, h2, p2⟩
  have hsz := Lib.hid b1.size
  have BB := src_below b1 h1 p2
  replace ho := Lib.hid ho
  go_wp2_with fail
  go_ret2
  exact ⟨u, ps, l, rfl, ho.out.mono hsz.out, hl, hD, hll, BB⟩
set_option maxRecDepth 100000 in
set_option maxHeartbeats 8000000 in
theorem DrawLeastSafeLimit_c {v : Value} {bs : List Int} {w : World} (h : Bytes w v bs) (hf : BytesFit bs) : Calls Try.prog 49 #[v] w fun e w' => ∃ u ps, e = .returned u ∧ OwnP w.heap.size u ps w' ∧ ps.length ≤ 13 ∧ AllD ps ∧ Below w.heap.size w w' := by
  have HF := Lib.hid (from_c h hf)
  clear h
  go_enter Try.func49, Try.ntmps49
  go_wp2_with fail
  refine HF.out.mono ?_
  rintro e w1 ⟨g, rfl, h1, b1⟩
  go_wp2_with fail
  refine (list_c h1).mono ?_
  rintro e w2 ⟨u, ps, rfl, ho, hl, hD, h2, p2⟩
  have hsz := Lib.hid b1.size
  have BB := src_below b1 h1 p2
  replace ho := Lib.hid ho
  go_wp2_with fail
  go_ret
  exact ⟨u, ps, rfl, ho.out.mono hsz.out, hl, hD, BB⟩
set_option maxRecDepth 100000 in
set_option maxHeartbeats 8000000 in
theorem DrawKeeperOf_c {v : Value} {bs : List Int} {w : World} (h : Bytes w v bs) (hf : BytesFit bs) : Calls Try.prog 34 #[v] w fun e w' => ∃ u ps l i, e = .returned (.tuple #[u, .int .i64 l, .int .i64 i]) ∧ OwnP w.heap.size u ps w' ∧ ps.length ≤ 13 ∧ AllD ps ∧ (-1 ≤ l ∧ l ≤ 101) ∧ (-1 ≤ i ∧ i ≤ 13) ∧ Below w.heap.size w w' := by
  have HF := Lib.hid (from_c h hf)
  clear h
  go_enter Try.func34, Try.ntmps34
  go_wp2_with fail
  refine HF.out.mono ?_
  rintro e w1 ⟨g, rfl, h1, b1⟩
  have hgl := h1.lt
  have hsz := Lib.hid b1.size
  go_wp2_with fail
  refine (l05Draw_c h1).mono ?_
  rintro e w2 ⟨u, ps, l, rfl, ho, hl, hD, hll, h2, p2⟩
  obtain ⟨lb, c, rfl, hlb, hlw, hlc, hcm, hcells⟩ := ho.form
  clear hcells HF
  unfold maxLen at hcm
  replace ho := Lib.hid ho
  replace hD := Lib.hid hD
  generalize hL : ps.length = L at *
  replace hL := Lib.hid hL
  go_wp2_with fail
  refine (next_c h2 ((L : Int) + 1) (by omega)).mono ?_
  rintro e w3 ⟨r, rfl, ⟨a3, b3, z3⟩, h3, p3⟩
  have hr : r ≤ L := by
    by_cases q : L = 0
    · have := z3 (by omega); omega
    · have := b3 (by omega); omega
  clear b3 z3
  go_wp2_with fail
  refine (next_c h3 24 (by omega)).mono ?_
  rintro e w4 ⟨s, rfl, ⟨a4, b4, z4⟩, h4, p4⟩
  replace b4 := b4 (by omega)
  have BB := src_below b1 h1 ((p2.trans p3).trans p4)
  replace ho := Lib.hid (ho.out.past (p3.trans p4) hgl)
  go_wp2_with fail
  go_ret3
  exact ⟨_, ps, l, _, rfl, ho.out.mono hsz.out, by rw [hL.out]; exact hl, hD.out, hll, by omega, BB⟩
set_option maxRecDepth 100000 in
set_option maxHeartbeats 8000000 in
theorem DrawChainBetween_c {v : Value} {bs : List Int} {w : World} (h : Bytes w v bs) (hf : BytesFit bs) : Calls Try.prog 31 #[v] w fun e w' => ∃ u ps l a b, e = .returned (.tuple #[u, .int .i64 l, .int .i64 a, .int .i64 b]) ∧ OwnP w.heap.size u ps w' ∧ ps.length ≤ 13 ∧ AllD ps ∧ (-1 ≤ l ∧ l ≤ 101) ∧ (-1 ≤ a ∧ a ≤ 13) ∧ (-1 ≤ b ∧ b ≤ 13) ∧ Below w.heap.size w w' := by
  have HB := Lib.hid h
  have HF := Lib.hid (from_c h hf)
  clear h
  go_enter Try.func31, Try.ntmps31
  go_wp2_with fail
  refine HF.out.mono ?_
  rintro e w1 ⟨g, rfl, h1, b1⟩
  have hgl := h1.lt
  have hsz := Lib.hid b1.size
  clear HF
  go_wp2_with fail
  refine (DrawKeeperOf_c (HB.out.below b1) hf).mono ?_
  rintro e w2 ⟨u, ps, l, a, rfl, ho, hl, hD, hll, hla, b2⟩
  have h2 := h1.below b2
  obtain ⟨lb, c, rfl, hlb, hlw, hlc, hcm, hcells⟩ := ho.form
  clear hcells
  unfold maxLen at hcm
  replace ho := Lib.hid ho
  replace hD := Lib.hid hD
  generalize hL : ps.length = L at *
  replace hL := Lib.hid hL
  go_wp2_with fail
  refine (next_c h2 ((L : Int) + 1) (by omega)).mono ?_
  rintro e w3 ⟨r, rfl, ⟨a3, b3, z3⟩, h3, p3⟩
  have hr : r ≤ L := by
    by_cases q : L = 0
    · have := z3 (by omega); omega
    · have := b3 (by omega); omega
  clear b3 z3
  have BB := src_below b1 h1 ((Past.of_below b2).trans p3)
  replace ho := Lib.hid (ho.out.past p3 hgl)
  go_wp2_with fail
  go_returns
  exact ⟨_, ps, l, a, r, rfl, ho.out.mono hsz.out, by rw [hL.out]; exact hl, hD.out, hll, hla, by omega, BB⟩
end Go.Proofs.Ythnilifepiihjaa

/-
  IsTight of both packages.
  Conditions: each lemma names its own.
-/
namespace Go.Proofs.Ythnilifepiihjaa
open Go.RowKit
set_option linter.unusedVariables false

def pairB (adj : Nat → Nat → Bool) (G : List Nat) (i k : Nat) : Bool := adj (G.getD i 0) (G.getD k 0)
/-- All of a list are alike. -/
def tB (adj : Nat → Nat → Bool) (G : List Nat) : Bool := allB (fun i => allB (pairB adj G i) G.length) G.length
def sB (adj : Nat → Nat → Bool) (G : List Nat) : Bool := allB (fun i => allB (pairB adj G i) i) G.length
theorem sB_eq {adj : Nat → Nat → Bool} {G : List Nat} (hs : ∀ i j, adj i j = adj j i) (hr : ∀ i ∈ G, adj i i = true) : sB adj G = tB adj G := by
  rw [Bool.eq_iff_iff]
  constructor
  · intro h
    have h1 := allB_all h
    refine allB_true fun i hi => allB_true fun k hk => ?_
    rcases Nat.lt_trichotomy k i with q | q | q
    · exact allB_all (h1 i hi) k q
    · subst q
      have : G.getD k 0 ∈ G := by rw [List.getD_eq_getElem?_getD, List.getElem?_eq_getElem hk]; exact List.getElem_mem hk
      exact hr _ this
    · have := allB_all (h1 k hk) i q
      unfold pairB at this ⊢
      rw [hs]; exact this
  · intro h
    have h1 := allB_all h
    exact allB_true fun i hi => allB_true fun k hk => allB_all (h1 i hi) k (by omega)
def tgB (ps : List Per) (l i : Int) : Bool := if jcode ps l [i] = 0 then tB (adjB ps l) (grp (adjB ps l) ps.length i.toNat) else false
theorem nth_natI {G : List Nat} {k : Nat} (h : k < G.length) : nth (natI G) k = (G.getD k 0 : Nat) := by
  refine nth_eq ?_
  unfold natI
  rw [List.getElem?_map, List.getElem?_eq_getElem h, List.getD_eq_getElem?_getD, List.getElem?_eq_getElem h]
  rfl
theorem adjB_self {ps : List Per} {l : Int} (hl : l ≤ 100) (i : Nat) : adjB ps l i i = true := by unfold adjB; rw [lik_self]; exact decide_eq_true hl
theorem bi_ret {a b : Bool} {c d : Int} (h : a = b) (g : c = d) : Ending.returned (.tuple #[.bool a, .int .i64 c]) = .returned (.tuple #[.bool b, .int .i64 d]) := by rw [h, g]

set_option maxRecDepth 100000 in
set_option maxHeartbeats 8000000 in
theorem impl_Tight {v : Value} {ps : List Per} {w : World} (h : Persons w v ps) (hp : PersFit ps) (l i : Int) :
    Calls Try.prog 37 #[v, .int .i64 l, .int .i64 i] w fun e w' => e = .returned (.tuple #[.bool (tgB ps l i), .int .i64 (jcode ps l [i])]) ∧ Below w.heap.size w w' := by
  have HC := impl_joinCode (h.alloc (.cells #[.int .i64 i] 2)) hp (ints_lit1 w i 2) l
  have b0 : Below w.heap.size w (w.alloc (.cells #[.int .i64 i] 2)) := (Below.refl _ _).alloc (Nat.le_refl _) _
  have HG := fun (wr : World) (b : Below w.heap.size w wr) (hB : persB ps = true) (a : Nat) (ha : a < ps.length) => impl_group (h.below b) hp hB l a ha
  by_cases q : jcode ps l [i] = 0
  · obtain ⟨hB, hl, hi⟩ := jcode_ok.1 q
    have hi := hi i (by simp)
    have hk : i = (i.toNat : Int) := by omega
    have R1 : Hid (tgB ps l i = tB (adjB ps l) (grp (adjB ps l) ps.length i.toNat)) := Lib.hid (by unfold tgB; rw [if_pos q])
    rw [q] at HC ⊢
    generalize i.toNat = k0 at *
    subst hk
    have hkn : k0 < ps.length := by omega
    have hn12 := persB_len hB
    have hGn : Hid (∀ x ∈ grp (adjB ps l) ps.length k0, x < ps.length) := Lib.hid fun x hx => (mem_grp.1 hx).1
    have hsB := Lib.hid (sB_eq (adj := adjB ps l) (G := grp (adjB ps l) ps.length k0) (adjB_comm ps l) (fun i _ => adjB_self hl.2 i))
    have hGl : (grp (adjB ps l) ps.length k0).length ≤ 12 := by have := grpTo_len (adjB ps l) ps.length k0 ps.length; rw [grpTo_all, natI_len] at this; omega
    replace HG := Lib.hid fun (wr : World) (b : Below w.heap.size w wr) => HG wr b hB k0 hkn
    rw [R1.out]
    replace HC := Lib.hid HC
    have FF := Lib.hid hp
    have VB := Lib.hid (fun k q hx => persB_born hB (k := k) (q := q) hx)
    clear q hB hi hl R1 hp hkn
    generalize grp (adjB ps l) ps.length k0 = G at *
    obtain ⟨aa, n, c, rfl, H⟩ := h.parts
    have hlen := Lib.hid H.len
    have hcap := H.cap
    have hmost := H.most
    unfold maxLen at hmost
    clear H
    have HP := Lib.hid h
    clear h
    go_enter Try.func37, Try.ntmps37
    go_wp2_with fail
    refine HC.out.mono ?_
    rintro e w1 ⟨rfl, b1⟩
    have BB := below_next b0 (Nat.le_refl _) b1
    go_wp2_with fail
    refine (HG.out _ BB).mono ?_
    rintro e w2 ⟨u, rfl, hu, b2⟩
    replace BB := below_next BB (Nat.le_refl _) b2
    clear b1 b2 b0 HC HG
    obtain ⟨aS, cS, rfl, hcS, hmS, hfS⟩ := own_form hu
    rw [natI_len] at hcS hfS ⊢
    unfold maxLen at hmS
    replace hu := Lib.hid hu
    generalize hL : G.length = L at *
    replace hL := Lib.hid hL
    go_wp2_with fail
    go_loopw [28] (fun x wr => ∃ i : Nat, i ≤ L ∧ x = .int .i64 i ∧ Hid (AllTo (fun i => allB (pairB (adjB ps l) G i) L) i) ∧ Hid (OwnI w1.heap.size (.slice aS (natI G).length cS) (natI G) wr) ∧ Below w.heap.size w wr) (fun x _ => L - (intOf x).toNat)
    case atStart => exact ⟨0, Nat.zero_le _, rfl, Lib.hid (allTo_zero _), hu, BB⟩
    case round =>
      clear hu BB
      obtain ⟨i, hi, rfl, hall, hu, BB⟩ := hrel
      by_cases hlt : i < L
      · obtain ⟨gs, rfl, _, _⟩ := hfS (by omega)
        obtain ⟨wo, rfl⟩ : ∃ wo : World, wo = wr := ⟨_, rfl⟩
        obtain ⟨d1, _⟩ := OwnI.at_ hu.out (k := i) (by rw [natI_len, hL.out]; exact hlt)
        rw [nth_natI (by rw [hL.out]; exact hlt)] at d1
        have hgi : G.getD i 0 < n := by
          have h1 : i < G.length := by rw [hL.out]; exact hlt
          have : G.getD i 0 ∈ G := by rw [List.getD_eq_getElem?_getD, List.getElem?_eq_getElem h1]; exact List.getElem_mem h1
          have := hGn.out _ this
          have := hlen.out
          omega
        have hpi := Lib.hid (fun k : Nat => (rfl : pairB (adjB ps l) G i k = adjB ps l (G.getD i 0) (G.getD k 0)))
        generalize hgi0 : G.getD i 0 = gi at *
        replace hgi0 := Lib.hid hgi0
        obtain ⟨b, o, rfl⟩ := HP.out.form.2.2.2 (by omega)
        go_wp2_with fail
        go_loopw [34] (fun x wr => ∃ k : Nat, k ≤ L ∧ x = .int .i64 k ∧ Hid (AllTo (pairB (adjB ps l) G i) k) ∧ Hid (OwnI w1.heap.size (.slice (some ⟨gs, 0, none⟩) (natI G).length cS) (natI G) wr) ∧ Below w.heap.size w wr) (fun x _ => L - (intOf x).toNat)
        case atStart => exact ⟨0, Nat.zero_le _, rfl, Lib.hid (allTo_zero _), hu, BB⟩
        case round =>
          clear hu BB d1
          obtain ⟨k, hk, rfl, hin, hu, BB⟩ := hrel
          have hgl := (World.ownsRow.lt hu.out gs rfl).2
          obtain ⟨d1, _⟩ := OwnI.at_ hu.out (k := i) (by rw [natI_len, hL.out]; exact hlt)
          rw [nth_natI (by rw [hL.out]; exact hlt)] at d1
          have hgie : G.getD i 0 = gi := hgi0.out
          rw [hgie] at d1
          by_cases hkl : k < L
          · obtain ⟨d2, _⟩ := OwnI.at_ hu.out (k := k) (by rw [natI_len, hL.out]; omega)
            rw [nth_natI (by rw [hL.out]; omega)] at d2
            have hgk : G.getD k 0 < n := by
              have h1 : k < G.length := by rw [hL.out]; omega
              have : G.getD k 0 ∈ G := by rw [List.getD_eq_getElem?_getD, List.getElem?_eq_getElem h1]; exact List.getElem_mem h1
              have := hGn.out _ this
              have := hlen.out
              omega
            have hpk : pairB (adjB ps l) G i k = adjB ps l gi (G.getD k 0) := by rw [← hgi0.out]; rfl
            generalize G.getD k 0 = gk at *
            replace hpk := Lib.hid hpk
            have hX := per_at (ps := ps) (k := gi) (by have := hlen.out; omega)
            obtain ⟨p, hx⟩ := hX
            have hY := per_at (ps := ps) (k := gk) (by have := hlen.out; omega)
            obtain ⟨qq, hy⟩ := hY
            have ha := adjB_at (l := l) hx hy
            have fp := Lib.hid (FF.out.at_ hx)
            have fq := Lib.hid (FF.out.at_ hy)
            have bp := Lib.hid (VB.out gi p hx)
            have bq := Lib.hid (VB.out gk qq hy)
            obtain ⟨_, p0, p1, p2, p3, p4⟩ := (HP.out.below BB).at_ hx
            obtain ⟨_, x0, x1, x2, x3, x4⟩ := (HP.out.below BB).at_ hy
            have hlik := Lib.hid (fun w => impl_lik_l p qq fp.out fq.out bp.out bq.out w)
            generalize lik p qq = lk at *
            clear hx hy
            by_cases q3 : l ≤ lk
            · have hnext := Lib.hid (hin.out.succ (show pairB (adjB ps l) G i k = true by rw [hpk.out, ha]; exact decide_eq_true q3))
              clear ha hpk hgie
              go_wp2_with fail
              refine region_ext (by kernel_rfl) (by kernel_rfl) ?_
              repeat (go_big_quiet_step ((with_reducible_and_instances exact ext_call (hlik.out _))))
              refine wpQuiet_nil ?_
              rintro _ ⟨nx, rfl⟩
              have b3 := ext_below _ nx
              generalize extW _ nx = w3 at *
              replace BB := below_next BB (Nat.le_refl _) b3
              replace hu := Lib.hid (hu.out.below b3)
              clear p0 p1 p2 p3 p4 x0 x1 x2 x3 x4 d1 d2
              go_wp2_with fail
              go_roundw
              case rel => exact ⟨k + 1, by omega, by go_num, hnext, hu, BB⟩
              case measure => simp [intOf]; omega
            · have q3' : lk < l := by omega
              have hf : Hid (tB (adjB ps l) G = false) := Lib.hid (by
                have h1 : pairB (adjB ps l) G i k = false := by rw [hpk.out, ha]; exact decide_eq_false q3
                exact allB_false (k := i) (by rw [hL.out]; exact hlt) (allB_false (k := k) (by rw [hL.out]; omega) h1))
              clear ha hpk q3 hgie
              go_wp2_with fail
              refine region_ext (by kernel_rfl) (by kernel_rfl) ?_
              repeat (go_big_quiet_step ((with_reducible_and_instances exact ext_call (hlik.out _))))
              refine wpQuiet_nil ?_
              rintro _ ⟨nx, rfl⟩
              have b3 := ext_below _ nx
              generalize extW _ nx = w3 at *
              replace BB := below_next BB (Nat.le_refl _) b3
              clear p0 p1 p2 p3 p4 x0 x1 x2 x3 x4 d1 d2
              go_wp2_with fail
              go_ret2
              exact ⟨bi_ret hf.out.symm rfl, BB⟩
          · have hkeq : k = L := by omega
            have hnext := Lib.hid (hall.out.succ (show (fun i => allB (pairB (adjB ps l) G i) L) i = true from allB_true (hkeq ▸ hin.out)))
            clear hkeq hgie
            go_wp2_with fail
            clear d1
            go_roundw
            case rel => exact ⟨i + 1, by omega, by go_num, hnext, hu, BB⟩
            case measure => simp [intOf]; omega
      · have hf : Hid (tB (adjB ps l) G = true) := Lib.hid (by
          rw [tB, hL.out]; exact allB_true fun j hj => hall.out j (by omega))
        clear hu
        go_wp2_with fail
        go_ret2
        exact ⟨bi_ret hf.out.symm rfl, BB⟩
  · have R1 : Hid (tgB ps l i = false) := Lib.hid (by unfold tgB; rw [if_neg q])
    have q1 : (jcode ps l [i] != 0) = true := by simpa using q
    rw [R1.out]
    replace HC := Lib.hid HC
    clear q R1
    generalize jcode ps l [i] = cc at *
    go_enter Try.func37, Try.ntmps37
    go_wp2_with fail
    refine HC.out.mono ?_
    rintro e w1 ⟨rfl, b1⟩
    have BB := below_next b0 (Nat.le_refl _) b1
    go_wp2_with fail
    go_ret2
    exact ⟨rfl, BB⟩
set_option maxRecDepth 100000 in
set_option maxHeartbeats 8000000 in
theorem spec_Tight {v : Value} {ps : List Per} {w : World} (h : Persons w v ps) (hp : PersFit ps) (l i : Int) :
    Calls Try.prog 38 #[v, .int .i64 l, .int .i64 i] w fun e w' => e = .returned (.tuple #[.bool (tgB ps l i), .int .i64 (jcode ps l [i])]) ∧ Below w.heap.size w w' := by
  have HC := spec_l05Code h hp l i i
  rw [jcode_twice] at HC
  have b0 : Below w.heap.size w w := Below.refl _ _
  have HG := fun (wr : World) (b : Below w.heap.size w wr) (hB : persB ps = true) (a : Nat) (ha : a < ps.length) => spec_group (h.below b) hp hB l a ha
  by_cases q : jcode ps l [i] = 0
  · obtain ⟨hB, hl, hi⟩ := jcode_ok.1 q
    have hi := hi i (by simp)
    have hk : i = (i.toNat : Int) := by omega
    have R1 : Hid (tgB ps l i = tB (adjB ps l) (grp (adjB ps l) ps.length i.toNat)) := Lib.hid (by unfold tgB; rw [if_pos q])
    rw [q] at HC ⊢
    generalize i.toNat = k0 at *
    subst hk
    have hkn : k0 < ps.length := by omega
    have hn12 := persB_len hB
    have hGn : Hid (∀ x ∈ grp (adjB ps l) ps.length k0, x < ps.length) := Lib.hid fun x hx => (mem_grp.1 hx).1
    have hsB := Lib.hid (sB_eq (adj := adjB ps l) (G := grp (adjB ps l) ps.length k0) (adjB_comm ps l) (fun i _ => adjB_self hl.2 i))
    have hGl : (grp (adjB ps l) ps.length k0).length ≤ 12 := by have := grpTo_len (adjB ps l) ps.length k0 ps.length; rw [grpTo_all, natI_len] at this; omega
    replace HG := Lib.hid fun (wr : World) (b : Below w.heap.size w wr) => HG wr b hB k0 hkn
    rw [R1.out]
    replace HC := Lib.hid HC
    have FF := Lib.hid hp
    have VB := Lib.hid (fun k q hx => persB_born hB (k := k) (q := q) hx)
    clear q hB hi hl R1 hp hkn
    generalize grp (adjB ps l) ps.length k0 = G at *
    obtain ⟨aa, n, c, rfl, H⟩ := h.parts
    have hlen := Lib.hid H.len
    have hcap := H.cap
    have hmost := H.most
    unfold maxLen at hmost
    clear H
    have HP := Lib.hid h
    clear h
    go_enter Try.func38, Try.ntmps38
    go_wp2_with fail
    refine HC.out.mono ?_
    rintro e w1 ⟨rfl, b1⟩
    have BB := below_next b0 (Nat.le_refl _) b1
    go_wp2_with fail
    refine (HG.out _ BB).mono ?_
    rintro e w2 ⟨u, rfl, hu, b2⟩
    replace BB := below_next BB (Nat.le_refl _) b2
    clear b1 b2 b0 HC HG
    obtain ⟨aS, cS, rfl, hcS, hmS, hfS⟩ := own_form hu
    rw [natI_len] at hcS hfS ⊢
    unfold maxLen at hmS
    replace hu := Lib.hid hu
    generalize hL : G.length = L at *
    replace hL := Lib.hid hL
    go_wp2_with fail
    go_loopw [10] (fun x wr => ∃ i : Nat, i ≤ L ∧ x = .int .i64 i ∧ Hid (AllTo (fun i => allB (pairB (adjB ps l) G i) i) i) ∧ Hid (OwnI w1.heap.size (.slice aS (natI G).length cS) (natI G) wr) ∧ Below w.heap.size w wr) (fun x _ => L - (intOf x).toNat)
    case atStart => exact ⟨0, Nat.zero_le _, rfl, Lib.hid (allTo_zero _), hu, BB⟩
    case round =>
      clear hu BB
      obtain ⟨i, hi, rfl, hall, hu, BB⟩ := hrel
      by_cases hlt : i < L
      · obtain ⟨gs, rfl, _, _⟩ := hfS (by omega)
        obtain ⟨wo, rfl⟩ : ∃ wo : World, wo = wr := ⟨_, rfl⟩
        obtain ⟨d1, _⟩ := OwnI.at_ hu.out (k := i) (by rw [natI_len, hL.out]; exact hlt)
        rw [nth_natI (by rw [hL.out]; exact hlt)] at d1
        have hgi : G.getD i 0 < n := by
          have h1 : i < G.length := by rw [hL.out]; exact hlt
          have : G.getD i 0 ∈ G := by rw [List.getD_eq_getElem?_getD, List.getElem?_eq_getElem h1]; exact List.getElem_mem h1
          have := hGn.out _ this
          have := hlen.out
          omega
        have hpi := Lib.hid (fun k : Nat => (rfl : pairB (adjB ps l) G i k = adjB ps l (G.getD i 0) (G.getD k 0)))
        generalize hgi0 : G.getD i 0 = gi at *
        replace hgi0 := Lib.hid hgi0
        obtain ⟨b, o, rfl⟩ := HP.out.form.2.2.2 (by omega)
        go_wp2_with fail
        go_loopw [11] (fun x wr => ∃ k : Nat, k ≤ i ∧ x = .int .i64 k ∧ Hid (AllTo (pairB (adjB ps l) G i) k) ∧ Hid (OwnI w1.heap.size (.slice (some ⟨gs, 0, none⟩) (natI G).length cS) (natI G) wr) ∧ Below w.heap.size w wr) (fun x _ => i - (intOf x).toNat)
        case atStart => exact ⟨0, Nat.zero_le _, rfl, Lib.hid (allTo_zero _), hu, BB⟩
        case round =>
          clear hu BB d1
          obtain ⟨k, hk, rfl, hin, hu, BB⟩ := hrel
          have hgl := (World.ownsRow.lt hu.out gs rfl).2
          obtain ⟨d1, _⟩ := OwnI.at_ hu.out (k := i) (by rw [natI_len, hL.out]; exact hlt)
          rw [nth_natI (by rw [hL.out]; exact hlt)] at d1
          have hgie : G.getD i 0 = gi := hgi0.out
          rw [hgie] at d1
          by_cases hkl : k < i
          · obtain ⟨d2, _⟩ := OwnI.at_ hu.out (k := k) (by rw [natI_len, hL.out]; omega)
            rw [nth_natI (by rw [hL.out]; omega)] at d2
            have hgk : G.getD k 0 < n := by
              have h1 : k < G.length := by rw [hL.out]; omega
              have : G.getD k 0 ∈ G := by rw [List.getD_eq_getElem?_getD, List.getElem?_eq_getElem h1]; exact List.getElem_mem h1
              have := hGn.out _ this
              have := hlen.out
              omega
            have hpk : pairB (adjB ps l) G i k = adjB ps l gi (G.getD k 0) := by rw [← hgi0.out]; rfl
            generalize G.getD k 0 = gk at *
            replace hpk := Lib.hid hpk
            have hX := per_at (ps := ps) (k := gi) (by have := hlen.out; omega)
            obtain ⟨p, hx⟩ := hX
            have hY := per_at (ps := ps) (k := gk) (by have := hlen.out; omega)
            obtain ⟨qq, hy⟩ := hY
            have ha := adjB_at (l := l) hx hy
            have fp := Lib.hid (FF.out.at_ hx)
            have fq := Lib.hid (FF.out.at_ hy)
            have bp := Lib.hid (VB.out gi p hx)
            have bq := Lib.hid (VB.out gk qq hy)
            obtain ⟨_, p0, p1, p2, p3, p4⟩ := (HP.out.below BB).at_ hx
            obtain ⟨_, x0, x1, x2, x3, x4⟩ := (HP.out.below BB).at_ hy
            have hlik := Lib.hid (fun w => spec_lik_l p qq fp.out fq.out bp.out bq.out w)
            generalize lik p qq = lk at *
            clear hx hy
            by_cases q3 : l ≤ lk
            · have hnext := Lib.hid (hin.out.succ (show pairB (adjB ps l) G i k = true by rw [hpk.out, ha]; exact decide_eq_true q3))
              clear ha hpk hgie
              go_wp2_with fail
              refine region_ext (by kernel_rfl) (by kernel_rfl) ?_
              repeat (go_big_quiet_step ((with_reducible_and_instances exact ext_call (hlik.out _))))
              refine wpQuiet_nil ?_
              rintro _ ⟨nx, rfl⟩
              have b3 := ext_below _ nx
              generalize extW _ nx = w3 at *
              replace BB := below_next BB (Nat.le_refl _) b3
              replace hu := Lib.hid (hu.out.below b3)
              clear p0 p1 p2 p3 p4 x0 x1 x2 x3 x4 d1 d2
              go_wp2_with fail
              go_roundw
              case rel => exact ⟨k + 1, by omega, by go_num, hnext, hu, BB⟩
              case measure => simp [intOf]; omega
            · have q3' : lk < l := by omega
              have hf : Hid (tB (adjB ps l) G = false) := Lib.hid (by
                have h1 : pairB (adjB ps l) G i k = false := by rw [hpk.out, ha]; exact decide_eq_false q3
                exact allB_false (k := i) (by rw [hL.out]; exact hlt) (allB_false (k := k) (by rw [hL.out]; omega) h1))
              clear ha hpk q3 hgie
              go_wp2_with fail
              refine region_ext (by kernel_rfl) (by kernel_rfl) ?_
              repeat (go_big_quiet_step ((with_reducible_and_instances exact ext_call (hlik.out _))))
              refine wpQuiet_nil ?_
              rintro _ ⟨nx, rfl⟩
              have b3 := ext_below _ nx
              generalize extW _ nx = w3 at *
              replace BB := below_next BB (Nat.le_refl _) b3
              clear p0 p1 p2 p3 p4 x0 x1 x2 x3 x4 d1 d2
              go_wp2_with fail
              go_ret2
              exact ⟨bi_ret hf.out.symm rfl, BB⟩
          · have hkeq : k = i := by omega
            have hnext := Lib.hid (hall.out.succ (show (fun i => allB (pairB (adjB ps l) G i) i) i = true from allB_true (hkeq ▸ hin.out)))
            clear hkeq hgie
            go_wp2_with fail
            clear d1
            go_roundw
            case rel => exact ⟨i + 1, by omega, by go_num, hnext, hu, BB⟩
            case measure => simp [intOf]; omega
      · have hf : Hid (tB (adjB ps l) G = true) := Lib.hid (by
          rw [← hsB.out, sB, hL.out]; exact allB_true fun j hj => hall.out j (by omega))
        clear hu
        go_wp2_with fail
        go_ret2
        exact ⟨bi_ret hf.out.symm rfl, BB⟩
  · have R1 : Hid (tgB ps l i = false) := Lib.hid (by unfold tgB; rw [if_neg q])
    have q1 : (jcode ps l [i] != 0) = true := by simpa using q
    rw [R1.out]
    replace HC := Lib.hid HC
    clear q R1
    generalize jcode ps l [i] = cc at *
    go_enter Try.func38, Try.ntmps38
    go_wp2_with fail
    refine HC.out.mono ?_
    rintro e w1 ⟨rfl, b1⟩
    have BB := below_next b0 (Nat.le_refl _) b1
    go_wp2_with fail
    go_ret2
    exact ⟨rfl, BB⟩
end Go.Proofs.Ythnilifepiihjaa

/-
  The walk of FnChains. Conditions: none but that the code reads as bytes.
-/
namespace Go.Proofs.Ythnilifepiihjaa
open Go.RowKit
set_option linter.unusedVariables false

theorem ints_cell {w : World} {b o n c k : Nat} {xs : List Int} {x : Int} (h : Ints w (.slice (some ⟨b, o, none⟩) n c) xs) (hx : xs[k]? = some x) : b < w.heap.size ∧ w.cell? ⟨b, o + k, none⟩ = some (.int .i64 x) := by
  obtain ⟨a', n', c', hv, H⟩ := h.parts
  injection hv with h1 h2 h3
  subst h1 h2 h3
  obtain ⟨b', o', ha, hb, hc⟩ := H.cells (by have := H.len; have := (List.getElem?_eq_some_iff.1 hx).1; omega)
  injection ha with ha
  injection ha with e1 e2
  subst e1 e2
  exact ⟨hb, hc k x hx⟩
set_option maxRecDepth 100000 in
set_option maxHeartbeats 16000000 in
theorem wk_FnChains {v : Value} {bs : List Int} {w : World} (h : Bytes w v bs) (hf : BytesFit bs) :
    Calls Try.prog 5 #[v] w fun e w' => e = .returned (.bool true) ∧ Below w.heap.size w w' := by
  by_cases hbig : 4096 < bs.length
  · have HB := Lib.hid (big_yes h hbig)
    go_enter Try.func5, Try.ntmps5
    go_wp2_with fail
    refine HB.out.mono ?_
    rintro e w' ⟨rfl, rfl⟩
    go_wp2_with fail
    go_ret
    exact ⟨rfl, Below.refl _ _⟩
  · have BB : Below w.heap.size w w := Below.refl _ _
    have HB := Lib.hid (big_no h (by omega))
    have hb0 := Lib.hid h
    clear h hbig
    go_enter Try.func5, Try.ntmps5
    go_wp2_with fail
    refine HB.out.mono ?_
    rintro e w0 ⟨rfl, rfl⟩
    clear HB
    go_wp2_with fail
    refine (DrawChainBetween_c (hb0.out.below BB) hf).mono ?_
    rintro e w2 ⟨u, ps, lim, a, b, rfl, ho, hl13, hD, hll, hla, hlb, q2⟩
    replace BB := below_next BB (Nat.le_refl _) q2
    clear q2
    have PS := Lib.hid ho.persons
    have fps := Lib.hid hD.fit
    clear ho hD hll hla hlb hl13
    have HI := Lib.hid (fun (w : World) (h : Persons w u ps) => impl_Chain h fps.out lim a b)
    have HS := Lib.hid (fun (w : World) (h : Persons w u ps) => spec_Chain h fps.out lim a b)
    have HB := Lib.hid (fun (w : World) (h : Persons w u ps) => impl_Chain h fps.out lim b a)
    have hok : Hid (cbE ps lim a b = 0 → ChainOk ps lim a b (cbI ps lim a b)) := Lib.hid fun h => chain_ok h
    generalize hcs : cbI ps lim a b = cs at *
    generalize hbad : cbE ps lim a b = bad at *
    replace hcs := Lib.hid hcs
    replace hbad := Lib.hid hbad
    go_wp2_with fail
    refine (HI.out _ PS.out).mono ?_
    rintro e w3 ⟨cv, rfl, ho, q3⟩
    replace BB := below_next BB (Nat.le_refl _) q3
    replace PS := Lib.hid (PS.out.below q3)
    clear q3
    have CI := Lib.hid (Ints.own ho)
    clear ho HI
    go_wp2_with fail
    refine (HS.out _ PS.out).mono ?_
    rintro e w4 ⟨mv, rfl, ho, q4⟩
    replace BB := below_next BB (Nat.le_refl _) q4
    replace PS := Lib.hid (PS.out.below q4)
    replace CI := Lib.hid (CI.out.below q4)
    clear q4
    have CM := Lib.hid (Ints.own ho)
    clear ho HS
    go_wp2_with fail
    refine (DrawKeeperOf_c (hb0.out.below BB) hf).mono ?_
    rintro e w5 ⟨ux, xs, ly, ix, rfl, ho, hl13, hD, hll, hix, q5⟩
    replace BB := below_next BB (Nat.le_refl _) q5
    replace PS := Lib.hid (PS.out.below q5)
    replace CI := Lib.hid (CI.out.below q5)
    replace CM := Lib.hid (CM.out.below q5)
    clear q5
    have XS := Lib.hid ho.persons
    have fxs := Lib.hid hD.fit
    clear ho hD hll hix hl13
    have HI := Lib.hid (fun (w : World) (h : Persons w ux xs) => impl_Keeper h fxs.out ly ix)
    have HS := Lib.hid (fun (w : World) (h : Persons w ux xs) => spec_Keeper h fxs.out ly ix)
    have HT := Lib.hid (fun (w : World) (h : Persons w ux xs) => impl_Tight h fxs.out ly ix)
    have HU := Lib.hid (fun (w : World) (h : Persons w ux xs) => spec_Tight h fxs.out ly ix)
    have HK := Lib.hid (fun (w : World) (h : Persons w ux xs) => impl_Keeper h fxs.out ly (kpI xs ly ix))
    have hkp : Hid (jcode xs ly [ix] = 0 → jcode xs ly [kpI xs ly ix] = 0 ∧ kpI xs ly (kpI xs ly ix) = kpI xs ly ix ∧ kpI xs ly ix ≤ ix) := Lib.hid fun h => kp_ok h
    generalize kpI xs ly (kpI xs ly ix) = k2 at *
    generalize jcode xs ly [kpI xs ly ix] = c2 at *
    generalize kpI xs ly ix = kx at *
    generalize jcode xs ly [ix] = one at *
    generalize tgB xs ly ix = tg at *
    go_wp2_with fail
    refine (HI.out _ XS.out).mono ?_
    rintro e w6 ⟨rfl, q6⟩
    replace BB := below_next BB (Nat.le_refl _) q6
    replace PS := Lib.hid (PS.out.below q6)
    replace CI := Lib.hid (CI.out.below q6)
    replace CM := Lib.hid (CM.out.below q6)
    replace XS := Lib.hid (XS.out.below q6)
    clear q6
    go_wp2_with fail
    refine (HS.out _ XS.out).mono ?_
    rintro e w7 ⟨rfl, q7⟩
    replace BB := below_next BB (Nat.le_refl _) q7
    replace PS := Lib.hid (PS.out.below q7)
    replace CI := Lib.hid (CI.out.below q7)
    replace CM := Lib.hid (CM.out.below q7)
    replace XS := Lib.hid (XS.out.below q7)
    clear q7
    go_wp2_with fail
    refine (HT.out _ XS.out).mono ?_
    rintro e w8 ⟨rfl, q8⟩
    replace BB := below_next BB (Nat.le_refl _) q8
    replace PS := Lib.hid (PS.out.below q8)
    replace CI := Lib.hid (CI.out.below q8)
    replace CM := Lib.hid (CM.out.below q8)
    replace XS := Lib.hid (XS.out.below q8)
    clear q8
    go_wp2_with fail
    refine (HU.out _ XS.out).mono ?_
    rintro e w9 ⟨rfl, q9⟩
    replace BB := below_next BB (Nat.le_refl _) q9
    replace PS := Lib.hid (PS.out.below q9)
    replace CI := Lib.hid (CI.out.below q9)
    replace CM := Lib.hid (CM.out.below q9)
    replace XS := Lib.hid (XS.out.below q9)
    clear q9
    clear HI HS HT HU
    go_wp2_with fail
    refine (likeInts_same CI.out CM.out).mono ?_
    rintro e w10 ⟨rfl, q10⟩
    replace BB := below_next BB (Nat.le_refl _) q10
    replace PS := Lib.hid (PS.out.below q10)
    replace CI := Lib.hid (CI.out.below q10)
    replace CM := Lib.hid (CM.out.below q10)
    replace XS := Lib.hid (XS.out.below q10)
    clear q10
    by_cases qo : one = 0
    · subst qo
      obtain ⟨rfl, rfl, hki⟩ := hkp.out rfl
      clear hkp
      go_wp2_with fail
      refine (HK.out _ XS.out).mono ?_
      rintro e w11 ⟨rfl, q11⟩
      replace BB := below_next BB (Nat.le_refl _) q11
      replace PS := Lib.hid (PS.out.below q11)
      replace CI := Lib.hid (CI.out.below q11)
      replace CM := Lib.hid (CM.out.below q11)
      replace XS := Lib.hid (XS.out.below q11)
      clear q11
      clear HK
      by_cases qb : bad = 0
      · subst qb
        have K := hok.out rfl
        rw [K.back] at HB
        have kone := K.one
        have kfirst := Lib.hid K.first
        have klast := Lib.hid K.last
        have klen := Lib.hid K.len
        have kstep := Lib.hid K.step
        clear K hok
        obtain ⟨ac, lc, cc, rfl, HC⟩ := CI.out.parts
        obtain ⟨am, lm, cm, rfl, HM⟩ := CM.out.parts
        obtain ⟨au, nu, cu, rfl, HU⟩ := PS.out.parts
        have hlc := Lib.hid HC.len
        have hlm : lm = lc := by have := HC.len; have := HM.len; omega
        subst hlm
        have hcc := HC.cap
        have hmc := HC.most
        have hcm := HM.cap
        have hmm := HM.most
        have hcu := HU.cap
        have hmu := HU.most
        have hnu := Lib.hid HU.len
        unfold maxLen at hmc hmm hmu
        rw [hlc.out] at kone kstep klast klen
        obtain ⟨bc, oc, rfl, _, _⟩ := HC.cells (by omega)
        clear HC HM HU CM
        go_wp2_with fail
        go_loopw [24] (fun i wr => ∃ j : Nat, 1 ≤ j ∧ j ≤ lm ∧ i = .int .i64 j ∧ Hid (Persons wr (.slice au nu cu) ps) ∧ Hid (Ints wr (.slice (some ⟨bc, oc, none⟩) lm cc) cs) ∧ Below w.heap.size w wr) (fun i _ => lm - (intOf i).toNat)
        case atStart => exact ⟨1, Nat.le_refl _, kone, rfl, PS, CI, BB⟩
        case round =>
          clear PS CI XS BB
          obtain ⟨j, hj1, hj, rfl, PS, CI, BB⟩ := hrel
          by_cases hlt : j < lm
          · obtain ⟨i, rfl⟩ : ∃ i, j = i + 1 := ⟨j - 1, by omega⟩
            obtain ⟨x, y, p, q, hx, hy, hp, hq, ee, eb⟩ := kstep.out i hlt
            have fp := Lib.hid (fps.out.at_ hp)
            have fq := Lib.hid (fps.out.at_ hq)
            have HA := Lib.hid (fun w => impl_Aa p q fp.out fq.out lim w)
            rw [ee, eb] at HA
            clear ee eb
            have hxn : x < nu := by have := (List.getElem?_eq_some_iff.1 hp).1; have := hnu.out; omega
            have hyn : y < nu := by have := (List.getElem?_eq_some_iff.1 hq).1; have := hnu.out; omega
            obtain ⟨bu, ou, rfl⟩ := PS.out.form.2.2.2 (by omega)
            obtain ⟨hbu, d0, d1, d2, d3, d4⟩ := PS.out.at_ hp
            obtain ⟨_, f0, f1, f2, f3, f4⟩ := PS.out.at_ hq
            obtain ⟨hbc, g0⟩ := ints_cell CI.out hx
            obtain ⟨_, g1⟩ := ints_cell CI.out hy
            clear hx hy hp hq
            go_wp2_with fail
            refine region_ext (by kernel_rfl) (by kernel_rfl) ?_
            repeat (go_big_quiet_step ((with_reducible_and_instances exact ext_call (HA.out _))))
            clear d0 d1 d2 d3 d4 f0 f1 f2 f3 f4 g0 g1 hbu hbc
            refine wpQuiet_nil ?_
            rintro _ ⟨nx, rfl⟩
            have bx := ext_below _ nx
            generalize extW _ nx = wx at *
            replace BB := below_next BB (Nat.le_refl _) bx
            replace PS := Lib.hid (PS.out.below bx)
            replace CI := Lib.hid (CI.out.below bx)
            clear bx
            go_wp2_with fail
            go_roundw
            case rel => exact ⟨i + 2, by omega, by omega, by go_num, PS, CI, BB⟩
            case measure => simp [intOf]; omega
          · obtain rfl : j = lm := by omega
            clear hlt kstep
            go_wp2_with fail
            refine (HB.out _ PS.out).mono ?_
            rintro e w12 ⟨bv, rfl, ho, q12⟩
            replace BB := below_next BB (Nat.le_refl _) q12
            replace PS := Lib.hid (PS.out.below q12)
            replace CI := Lib.hid (CI.out.below q12)
            clear q12
            have CB := Lib.hid (Ints.own ho)
            clear ho HB
            obtain ⟨ab, lb, cb, rfl, HB⟩ := CB.out.parts
            have hlb : lb = j := by have := HB.len; have := klen.out; omega
            subst hlb
            have hcb := HB.cap
            have hmb := HB.most
            unfold maxLen at hmb
            clear HB CB
            obtain ⟨_, g0⟩ := ints_cell CI.out kfirst.out
            obtain ⟨_, g1⟩ := ints_cell CI.out klast.out
            rw [Nat.add_zero] at g0
            go_wp2_with fail
            go_ret
            exact ⟨rfl, BB⟩
      · have qbn : (bad != 0) = true := by simpa using qb
        clear qb hok
        go_wp2_with fail
        go_ret
        exact ⟨rfl, BB⟩
    · have qon : (one == 0) = false := by simpa using qo
      clear qo hkp HK
      by_cases qb : bad = 0
      · subst qb
        have K := hok.out rfl
        rw [K.back] at HB
        have kone := K.one
        have kfirst := Lib.hid K.first
        have klast := Lib.hid K.last
        have klen := Lib.hid K.len
        have kstep := Lib.hid K.step
        clear K hok
        obtain ⟨ac, lc, cc, rfl, HC⟩ := CI.out.parts
        obtain ⟨am, lm, cm, rfl, HM⟩ := CM.out.parts
        obtain ⟨au, nu, cu, rfl, HU⟩ := PS.out.parts
        have hlc := Lib.hid HC.len
        have hlm : lm = lc := by have := HC.len; have := HM.len; omega
        subst hlm
        have hcc := HC.cap
        have hmc := HC.most
        have hcm := HM.cap
        have hmm := HM.most
        have hcu := HU.cap
        have hmu := HU.most
        have hnu := Lib.hid HU.len
        unfold maxLen at hmc hmm hmu
        rw [hlc.out] at kone kstep klast klen
        obtain ⟨bc, oc, rfl, _, _⟩ := HC.cells (by omega)
        clear HC HM HU CM
        go_wp2_with fail
        go_loopw [24] (fun i wr => ∃ j : Nat, 1 ≤ j ∧ j ≤ lm ∧ i = .int .i64 j ∧ Hid (Persons wr (.slice au nu cu) ps) ∧ Hid (Ints wr (.slice (some ⟨bc, oc, none⟩) lm cc) cs) ∧ Below w.heap.size w wr) (fun i _ => lm - (intOf i).toNat)
        case atStart => exact ⟨1, Nat.le_refl _, kone, rfl, PS, CI, BB⟩
        case round =>
          clear PS CI XS BB
          obtain ⟨j, hj1, hj, rfl, PS, CI, BB⟩ := hrel
          by_cases hlt : j < lm
          · obtain ⟨i, rfl⟩ : ∃ i, j = i + 1 := ⟨j - 1, by omega⟩
            obtain ⟨x, y, p, q, hx, hy, hp, hq, ee, eb⟩ := kstep.out i hlt
            have fp := Lib.hid (fps.out.at_ hp)
            have fq := Lib.hid (fps.out.at_ hq)
            have HA := Lib.hid (fun w => impl_Aa p q fp.out fq.out lim w)
            rw [ee, eb] at HA
            clear ee eb
            have hxn : x < nu := by have := (List.getElem?_eq_some_iff.1 hp).1; have := hnu.out; omega
            have hyn : y < nu := by have := (List.getElem?_eq_some_iff.1 hq).1; have := hnu.out; omega
            obtain ⟨bu, ou, rfl⟩ := PS.out.form.2.2.2 (by omega)
            obtain ⟨hbu, d0, d1, d2, d3, d4⟩ := PS.out.at_ hp
            obtain ⟨_, f0, f1, f2, f3, f4⟩ := PS.out.at_ hq
            obtain ⟨hbc, g0⟩ := ints_cell CI.out hx
            obtain ⟨_, g1⟩ := ints_cell CI.out hy
            clear hx hy hp hq
            go_wp2_with fail
            refine region_ext (by kernel_rfl) (by kernel_rfl) ?_
            repeat (go_big_quiet_step ((with_reducible_and_instances exact ext_call (HA.out _))))
            clear d0 d1 d2 d3 d4 f0 f1 f2 f3 f4 g0 g1 hbu hbc
            refine wpQuiet_nil ?_
            rintro _ ⟨nx, rfl⟩
            have bx := ext_below _ nx
            generalize extW _ nx = wx at *
            replace BB := below_next BB (Nat.le_refl _) bx
            replace PS := Lib.hid (PS.out.below bx)
            replace CI := Lib.hid (CI.out.below bx)
            clear bx
            go_wp2_with fail
            go_roundw
            case rel => exact ⟨i + 2, by omega, by omega, by go_num, PS, CI, BB⟩
            case measure => simp [intOf]; omega
          · obtain rfl : j = lm := by omega
            clear hlt kstep
            go_wp2_with fail
            refine (HB.out _ PS.out).mono ?_
            rintro e w11 ⟨bv, rfl, ho, q11⟩
            replace BB := below_next BB (Nat.le_refl _) q11
            replace PS := Lib.hid (PS.out.below q11)
            replace CI := Lib.hid (CI.out.below q11)
            clear q11
            have CB := Lib.hid (Ints.own ho)
            clear ho HB
            obtain ⟨ab, lb, cb, rfl, HB⟩ := CB.out.parts
            have hlb : lb = j := by have := HB.len; have := klen.out; omega
            subst hlb
            have hcb := HB.cap
            have hmb := HB.most
            unfold maxLen at hmb
            clear HB CB
            obtain ⟨_, g0⟩ := ints_cell CI.out kfirst.out
            obtain ⟨_, g1⟩ := ints_cell CI.out klast.out
            rw [Nat.add_zero] at g0
            go_wp2_with fail
            go_ret
            exact ⟨rfl, BB⟩
      · have qbn : (bad != 0) = true := by simpa using qb
        clear qb hok
        go_wp2_with fail
        go_ret
        exact ⟨rfl, BB⟩
end Go.Proofs.Ythnilifepiihjaa
