/-
  ChainBetween of both packages.
  Conditions: each lemma names its own.
-/
import Derived.Test.YtehfhpedpdofkaaRes
import Derived.Test.YtehfhpedpdofkaaKeeper
namespace Go.Proofs.Ytehfhpedpdofkaa
open Go.RowKit
set_option linter.unusedVariables false

theorem chn_len (adj : Nat → Nat → Bool) (n : Nat) (s : List Int) : ∀ d v, (chn adj n s d v).length = d + 1
  | 0, v => rfl
  | d + 1, v => by rw [chn, List.length_cons, chn_len]
theorem stp_most {adj : Nat → Nat → Bool} {n a : Nat} (ha : a < n) (k : Nat) (hk : k < n) : nth (stp adj n a) k ≤ (n : Int) + 1 := (roundsOf_ok (rounds_start ha) n).most k hk
def cbB (ps : List Per) (l a b : Int) : Bool := decide (0 ≤ nth (stp (adjB ps l) ps.length b.toNat) a.toNat)
def cbI (ps : List Per) (l a b : Int) : List Int := if jcode ps l [a, b] = 0 ∧ cbB ps l a b = true then natI (chn (adjB ps l) ps.length (stp (adjB ps l) ps.length b.toNat) (nth (stp (adjB ps l) ps.length b.toNat) a.toNat).toNat a.toNat) else []
def cbE (ps : List Per) (l a b : Int) : Int := if jcode ps l [a, b] = 0 then (if cbB ps l a b = true then 0 else 4) else jcode ps l [a, b]
theorem cb_range {ps : List Per} {l a b : Int} (q : jcode ps l [a, b] = 0) : persB ps = true ∧ (0 ≤ a ∧ a < ps.length) ∧ (0 ≤ b ∧ b < ps.length) := by
  obtain ⟨h1, _, h3⟩ := jcode_ok.1 q
  exact ⟨h1, h3 a (by simp), h3 b (by simp)⟩
theorem cbI_cnt (ps : List Per) (l a b : Int) : S_cnt (cbI ps l a b) ≤ 1000000 := by
  unfold cbI S_cnt
  by_cases q : jcode ps l [a, b] = 0 ∧ cbB ps l a b = true
  · rw [if_pos q, natI_len, chn_len]
    obtain ⟨h1, ha, hb⟩ := cb_range q.1
    have h2 := persB_len h1
    have h3 := stp_most (adj := adjB ps l) (n := ps.length) (a := b.toNat) (by omega) a.toNat (by omega)
    omega
  · rw [if_neg q]
    simp

set_option maxRecDepth 100000 in
set_option maxHeartbeats 4000000 in
theorem spec_Chain {v : Value} {ps : List Per} {w : World} (h : Persons w v ps) (hp : PersFit ps) (l a b : Int) :
    Calls Try.prog 20 #[v, .int .i64 l, .int .i64 a, .int .i64 b] w fun e w' => ∃ u, e = .returned (.tuple #[u, .int .i64 (cbE ps l a b)]) ∧ OwnI w.heap.size u (cbI ps l a b) w' ∧ Below w.heap.size w w' := by
  have HC := spec_l05Code h hp l a b
  have b0 : Below w.heap.size w w := Below.refl _ _
  have HG := fun (wr : World) (b : Below w.heap.size w wr) (hB : persB ps = true) (a : Nat) (ha : a < ps.length) => spec_steps (h.below b) hp hB l a ha
  obtain ⟨i0, hi, hz0, hz1, hz2⟩ := info_parts info_i64
  by_cases q : jcode ps l [a, b] = 0
  · obtain ⟨hB, ha, hb⟩ := cb_range q
    have R0 : cbE ps l a b = if cbB ps l a b = true then 0 else 4 := by unfold cbE; rw [if_pos q]
    have R1 : cbI ps l a b = if cbB ps l a b = true then natI (chn (adjB ps l) ps.length (stp (adjB ps l) ps.length b.toNat) (nth (stp (adjB ps l) ps.length b.toNat) a.toNat).toNat a.toNat) else [] := by
      unfold cbI
      by_cases e : cbB ps l a b = true
      · rw [if_pos ⟨q, e⟩, if_pos e]
      · rw [if_neg (fun h => e h.2), if_neg e]
    unfold cbB at R0 R1
    rw [R0, R1]
    rw [q] at HC
    replace HC := Lib.hid HC
    clear q R0 R1
    have hka : a = (a.toNat : Int) := by omega
    have hkb : b = (b.toNat : Int) := by omega
    generalize a.toNat = a' at *
    generalize b.toNat = b' at *
    subst hka hkb
    have han : a' < ps.length := by omega
    have hbn : b' < ps.length := by omega
    replace HG := Lib.hid fun (wr : World) (b : Below w.heap.size w wr) => HG wr b hB b' hbn
    have hS : Hid (Cert (adjB ps l) ps.length b' (stp (adjB ps l) ps.length b')) := Lib.hid (stp_cert hbn)
    have hm := Lib.hid (fun k hk => stp_most (adj := adjB ps l) hbn k hk)
    have hn12 : ps.length ≤ 12 := persB_len hB
    have VB := Lib.hid (fun k q hx => persB_born hB (k := k) (q := q) hx)
    obtain ⟨aa, n, c, rfl, H⟩ := h.parts
    have hlen := H.len
    have hcap := H.cap
    have hmost := H.most
    unfold maxLen at hmost
    have HP := Lib.hid h
    have FF := Lib.hid hp
    clear H h hp hB ha hb
    generalize hn : ps.length = n' at *
    obtain rfl : n' = n := hlen
    replace hn := Lib.hid hn
    generalize stp (adjB ps l) n' b' = S at *
    have hsl := Lib.hid hS.out.len
    by_cases q0 : 0 ≤ nth S a'
    · rw [if_pos (decide_eq_true q0), if_pos (decide_eq_true q0)]
      have hD := Lib.hid (show nth S a' = ((nth S a').toNat : Int) by omega)
      have hDm := hm.out a' han
      generalize hDD : (nth S a').toNat = D at *
      rw [hD.out] at hDm
      clear q0 hDD
      have hKl := Lib.hid (chn_len (adjB ps l) n' S D a')
      generalize hKK : chn (adjB ps l) n' S D a' = K at *
      have hK := Lib.hid hKK
      clear hKK
      go_enter Try.func20, Try.ntmps20
      go_wp2_with fail
      refine HC.out.mono ?_
      rintro e w1 ⟨rfl, b1⟩
      have BB := below_next b0 (Nat.le_refl _) b1
      clear b0 b1 HC
      go_wp2_with fail
      refine (HG.out _ BB).mono ?_
      rintro e w2 ⟨us, rfl, hs, b2⟩
      have hw1 := BB.size
      replace BB := below_next BB (Nat.le_refl _) b2
      clear b2 HG
      obtain ⟨aS, cS, rfl, hcS, hmS, hfS⟩ := own_form hs
      rw [hsl.out] at hcS hfS
      obtain ⟨gs, rfl, _, hgs⟩ := hfS (by omega)
      unfold maxLen at hmS
      clear hfS
      have d1 := (OwnI.at_ hs (k := a') (by rw [hsl.out]; exact han)).1
      rw [hD.out] at d1
      have ho0 : OwnI w.heap.size (.slice (some ⟨w2.heap.size, 0, none⟩) 1 1) (natI ([] ++ [a'])) (w2.alloc (.cells #[.int .i64 (a' : Int)] 2)) :=
        World.ownsRow_lit w2 #[.int .i64 (a' : Int)] 1 BB.size (by decide) rfl
      replace ho0 := Lib.hid ho0
      have hs0 := Lib.hid ((own_mono hs hw1).alloc (.cells #[.int .i64 (a' : Int)] 2))
      have hne0 : (Value.slice (some ⟨w2.heap.size, 0, none⟩) 1 1).ownBlock ≠ some gs := by simp [Value.ownBlock]; omega
      have BB0 := BB.alloc BB.size (.cells #[.int .i64 (a' : Int)] 2)
      rw [hsl.out] at hs0 ⊢
      clear hs BB hw1
      go_wp2_with fail
      clear d1
      go_loopw [2, 12] (fun x u wr => ∃ (c d : Nat) (done : List Nat), c < n' ∧ x = .int .i64 c ∧ Hid (nth S c = (d : Int)) ∧ Hid (done ++ chn (adjB ps l) n' S d c = K) ∧ Hid (OwnI w.heap.size u (natI (done ++ [c])) wr) ∧ Hid (wr.ownsRow w.heap.size 2 1 (.slice (some ⟨gs, 0, none⟩) n' cS) n' (S.map (Value.int .i64))) ∧ u.ownBlock ≠ some gs ∧ Below w.heap.size w wr) (fun x _ _ => (nth S (intOf x).toNat).toNat)
      case atStart => exact ⟨a', D, [], han, rfl, hD, hK, ho0, hs0, hne0, BB0⟩
      case round =>
        clear hK ho0 hs0 hne0 BB0 hD
        obtain ⟨c0, d, done, hc, rfl, hd, hK, ho, hs, hne, BB⟩ := hrel
        rename_i wr
        by_cases hcb : c0 = b'
        · subst hcb
          have hd0 : d = 0 := by have := hS.out.here; have := hd.out; omega
          subst hd0
          have hfin : Hid (done ++ [c0] = K) := hK
          rw [hfin.out] at ho
          have hq : ((c0 : Int) != (c0 : Int)) = false := by simp
          clear hfin hK
          go_wp2_with fail
          go_ret2
          exact ⟨_, rfl, ho.out, BB⟩
        · have hq : ((c0 : Int) != (b' : Int)) = true := by simp; omega
          have hsub : Hid (S.length = n') := hsl
          obtain ⟨g1, g2, g3, g4⟩ := nxt_is hS.out (adjB_comm ps l) hc hcb (by have := hd.out; omega)
          have hpred := (hS.out.pred c0 hc hcb (by have := hd.out; omega)).1
          obtain ⟨d', rfl⟩ : ∃ d', d = d' + 1 := ⟨d - 1, by have := hd.out; omega⟩
          have hK2 : Hid ((done ++ [c0]) ++ chn (adjB ps l) n' S d' (nxt (adjB ps l) n' S c0) = K) := Lib.hid (by rw [← hK.out, chn, List.append_assoc]; rfl)
          have hd2 : Hid (nth S (nxt (adjB ps l) n' S c0) = (d' : Int)) := Lib.hid (by rw [g2, hd.out]; omega)
          have hroom : (natI (done ++ [c0])).length ≤ 100 := by
            have h1 := congrArg List.length hK2.out
            rw [List.length_append, chn_len, hKl.out] at h1
            rw [natI_len]
            omega
          generalize nxt (adjB ps l) n' S c0 = N at *
          replace g3 := Lib.hid g3
          replace g4 := Lib.hid g4
          replace g2 := Lib.hid g2
          clear hpred hK
          have hX := per_at (ps := ps) (k := c0) (by have := hn.out; omega)
          obtain ⟨p, hx⟩ := hX
          have fp := Lib.hid (FF.out.at_ hx)
          have bp := Lib.hid (VB.out c0 p hx)
          have HX := Lib.hid hx
          clear hx
          obtain ⟨wo, rfl⟩ : ∃ wo : World, wo = wr := ⟨_, rfl⟩
          obtain ⟨bb, oo, hao⟩ := HP.out.form.2.2.2 (by omega)
          subst hao
          go_wp2_with fail
          go_loopw [13] (fun x wr => ∃ k : Nat, k ≤ N ∧ x = .int .i64 k ∧ Below wo.heap.size wo wr) (fun x _ => N - (intOf x).toNat)
          case atStart => exact ⟨0, Nat.zero_le _, rfl, Below.refl _ _⟩
          case round =>
            obtain ⟨k, hk, rfl, BI⟩ := hrel
            have hgs3 := (World.ownsRow.lt (own_below hs.out BI) gs rfl).2
            have hsI : OwnI w.heap.size (.slice (some ⟨gs, 0, none⟩) n' cS) S wr := by
              unfold OwnI
              rw [hsub.out]
              exact own_below hs.out BI
            have d1 := (OwnI.at_ hsI (k := k) (by rw [hsub.out]; omega)).1
            have d2 := (OwnI.at_ hsI (k := c0) (by rw [hsub.out]; omega)).1
            have r1 := hm.out k (by omega)
            have r2 := hm.out c0 hc
            have r3 := hS.out.low k (by omega)
            have r4 := hS.out.low c0 hc
            clear hsI
            by_cases hkN : k < N
            · by_cases q1 : nth S k = nth S c0 - 1
              · have hno : ¬ adjB ps l c0 k = true := fun h => g4.out k hkN ⟨q1, h⟩
                obtain ⟨q, hy⟩ := per_at (ps := ps) (k := k) (by have := hn.out; omega)
                have fq := Lib.hid (FF.out.at_ hy)
                have bq := Lib.hid (VB.out k q hy)
                obtain ⟨_, p0, p1, p2, p3, p4⟩ := (HP.out.below (below_next BB (Nat.le_refl _) BI)).at_ HX.out
                obtain ⟨_, x0, x1, x2, x3, x4⟩ := (HP.out.below (below_next BB (Nat.le_refl _) BI)).at_ hy
                have hlik := Lib.hid (fun w => spec_lik_l q p fq.out fp.out bq.out bp.out w)
                have hA := adjB_at (l := l) hy HX.out
                clear hy
                have q3 : lik q p < l := by
                  have : ¬ adjB ps l k c0 = true := by rw [adjB_comm]; exact hno
                  rw [hA] at this
                  exact Int.not_le.1 fun h => this (decide_eq_true h)
                have q1' : (nth S k != nth S c0 - 1) = false := by simp; omega
                clear hA hno q1
                generalize lik q p = lk at *
                generalize nth S k = sk at *
                generalize nth S c0 = sc at *
                go_wp2_with fail
                refine region_ext (by kernel_rfl) (by kernel_rfl) ?_
                repeat (go_big_quiet_step ((with_reducible_and_instances exact ext_call (hlik.out _))))
                refine wpQuiet_nil ?_
                rintro _ ⟨nx, rfl⟩
                have b3 := ext_below _ nx
                generalize extW _ nx = w3 at *
                replace BI := below_next BI (Nat.le_refl _) b3
                clear p0 p1 p2 p3 p4 x0 x1 x2 x3 x4 d1 d2
                go_wp2_with fail
                go_roundw
                case rel => exact ⟨k + 1, by omega, by go_num, BI⟩
                case measure => simp [intOf]; omega
              · have q1' : (nth S k != nth S c0 - 1) = true := by simp; omega
                clear q1
                generalize nth S k = sk at *
                generalize nth S c0 = sc at *
                go_wp2_with fail
                go_quiet (fail)
                go_wp2_with fail
                clear d1 d2
                go_roundw
                case rel => exact ⟨k + 1, by omega, by go_num, below_of_drewN BI _⟩
                case measure => simp [intOf]; omega
            · obtain rfl : k = N := by omega
              have q1 := g2.out
              obtain ⟨q, hy⟩ := per_at (ps := ps) (k := k) (by have := hn.out; omega)
              have fq := Lib.hid (FF.out.at_ hy)
              have bq := Lib.hid (VB.out k q hy)
              obtain ⟨_, p0, p1, p2, p3, p4⟩ := (HP.out.below (below_next BB (Nat.le_refl _) BI)).at_ HX.out
              obtain ⟨_, x0, x1, x2, x3, x4⟩ := (HP.out.below (below_next BB (Nat.le_refl _) BI)).at_ hy
              have hlik := Lib.hid (fun w => spec_lik_l q p fq.out fp.out bq.out bp.out w)
              have hA := adjB_at (l := l) hy HX.out
              clear hy
              have q3 : l ≤ lik q p := by
                have : adjB ps l k c0 = true := by rw [adjB_comm]; exact g3.out
                rw [hA] at this
                exact of_decide_eq_true this
              have q1' : (nth S k != nth S c0 - 1) = false := by simp; omega
              clear hA q1
              generalize lik q p = lk at *
              generalize hsk : nth S k = sk at *
              generalize hsc : nth S c0 = sc at *
              replace hsk := Lib.hid hsk
              replace hsc := Lib.hid hsc
              go_wp2_with fail
              refine region_ext (by kernel_rfl) (by kernel_rfl) ?_
              repeat (go_big_quiet_step ((with_reducible_and_instances exact ext_call (hlik.out _))))
              refine wpQuiet_nil ?_
              rintro _ ⟨nx, rfl⟩
              have b3 := ext_below _ nx
              generalize extW _ nx = w3 at *
              replace BI := below_next BI (Nat.le_refl _) b3
              clear p0 p1 p2 p3 p4 x0 x1 x2 x3 x4 d1 d2
              have BB5 := below_next BB (Nat.le_refl _) BI
              have ho1 := own_below ho.out BI
              have hs1 := own_below hs.out BI
              have hsz := BB5.size
              clear BI BB ho hs b3 hgs3
              go_wp2_with (at_builtin; refine wpList_append_own_at _ rfl _ _ 34 rfl w.heap.size 2 i0 (.int .i64 0) 1 8 Try.underlying34 hi hz0 hz1 hz2 rfl (by decide) _ _ _ rfl (World.ownsRow.alloc ho1 _) ⟨w3.heap.size, 0, none⟩ 1 1 [.int .i64 (k : Int)] rfl rfl ?c1 ?c2 ?c3 ?c4 ?c5 ?_)
              case c1 => exact single_at _ _ _
              case c2 => intro u hu; simp at hu; subst hu; rfl
              case c3 => unfold maxLen; omega
              case c4 => omega
              case c5 => simp; omega
              intro v' w6 hown' hgrow _ hat
              have hs2 := Lib.hid (World.ownsRow.kept (World.ownsRow.alloc hs1 _) hgrow (.inr (by simp only [Value.ownBlock]; exact fun e => hne e.symm)))
              have hb' := below_append BB5 hsz ho1 hgrow
              have hgl2 := (World.ownsRow.lt hs1 gs rfl).2
              have hne3 : v'.ownBlock ≠ some gs := by
                rcases hat with h | h
                · rw [h]; exact hne
                · rw [h]; intro e; injection e with e; first | omega | (simp at e; omega)
              have ho2 : Hid (OwnI w.heap.size v' (natI ((done ++ [c0]) ++ [k])) w6) := Lib.hid (by
                unfold OwnI
                rw [natI_snoc, List.length_append, List.map_append]
                exact hown')
              have hd3 : Hid (nth S k = (d' : Int)) := Lib.hid (by rw [hsk.out]; exact hd2.out)
              clear hown' hgrow hat ho1 hs1 hne BB5
              go_wp2_with fail
              go_roundw
              case rel => exact ⟨k, d', done ++ [c0], by omega, rfl, hd3, hK2, ho2, hs2, hne3, hb'⟩
              case measure =>
                have e1 := hd3.out
                have e2 := hsc.out
                have e3 := hd.out
                simp [intOf]
                omega
    · rw [if_neg (by simpa using q0), if_neg (by simpa using q0)]
      replace q0 : nth S a' < 0 := by omega
      go_enter Try.func20, Try.ntmps20
      go_wp2_with fail
      refine HC.out.mono ?_
      rintro e w1 ⟨rfl, b1⟩
      have BB := below_next b0 (Nat.le_refl _) b1
      clear b0 b1 HC
      go_wp2_with fail
      refine (HG.out _ BB).mono ?_
      rintro e w2 ⟨us, rfl, hs, b2⟩
      have hw1 := BB.size
      replace BB := below_next BB (Nat.le_refl _) b2
      clear b2 HG
      obtain ⟨aS, cS, rfl, hcS, hmS, hfS⟩ := own_form hs
      rw [hsl.out] at hcS hfS
      obtain ⟨gs, rfl, _, hgs⟩ := hfS (by omega)
      unfold maxLen at hmS
      clear hfS
      have d1 := (OwnI.at_ hs (k := a') (by rw [hsl.out]; exact han)).1
      clear hs
      rw [hsl.out]
      generalize nth S a' = sa at *
      go_wp2_with fail
      clear d1
      go_ret2
      exact ⟨_, rfl, World.ownsRow_nil _ _ _ _, BB⟩
  · have R1 : Hid (cbI ps l a b = []) := Lib.hid (by unfold cbI; rw [if_neg (fun h => q h.1)])
    have R0 : Hid (cbE ps l a b = jcode ps l [a, b]) := Lib.hid (by unfold cbE; rw [if_neg q])
    have q1 : (jcode ps l [a, b] != 0) = true := by simpa using q
    rw [R1.out, R0.out]
    replace HC := Lib.hid HC
    clear q R1 R0 HG
    generalize jcode ps l [a, b] = cc at *
    go_enter Try.func20, Try.ntmps20
    go_wp2_with fail
    refine HC.out.mono ?_
    rintro e w1 ⟨rfl, b1⟩
    have BB := below_next b0 (Nat.le_refl _) b1
    go_wp2_with fail
    go_ret2
    exact ⟨_, rfl, World.ownsRow_nil _ _ _ _, BB⟩
set_option maxRecDepth 100000 in
set_option maxHeartbeats 4000000 in
theorem impl_Chain {v : Value} {ps : List Per} {w : World} (h : Persons w v ps) (hp : PersFit ps) (l a b : Int) :
    Calls Try.prog 21 #[v, .int .i64 l, .int .i64 a, .int .i64 b] w fun e w' => ∃ u, e = .returned (.tuple #[u, .int .i64 (cbE ps l a b)]) ∧ OwnI w.heap.size u (cbI ps l a b) w' ∧ Below w.heap.size w w' := by
  have HC := impl_joinCode (h.alloc (.cells #[.int .i64 a, .int .i64 b] 2)) hp (ints_lit2 w a b 2) l
  have b0 : Below w.heap.size w (w.alloc (.cells #[.int .i64 a, .int .i64 b] 2)) := (Below.refl _ _).alloc (Nat.le_refl _) _
  have HG := fun (wr : World) (b : Below w.heap.size w wr) (hB : persB ps = true) (a : Nat) (ha : a < ps.length) => impl_steps (h.below b) hp hB l a ha
  obtain ⟨i0, hi, hz0, hz1, hz2⟩ := info_parts info_i64
  by_cases q : jcode ps l [a, b] = 0
  · obtain ⟨hB, ha, hb⟩ := cb_range q
    have R0 : cbE ps l a b = if cbB ps l a b = true then 0 else 4 := by unfold cbE; rw [if_pos q]
    have R1 : cbI ps l a b = if cbB ps l a b = true then natI (chn (adjB ps l) ps.length (stp (adjB ps l) ps.length b.toNat) (nth (stp (adjB ps l) ps.length b.toNat) a.toNat).toNat a.toNat) else [] := by
      unfold cbI
      by_cases e : cbB ps l a b = true
      · rw [if_pos ⟨q, e⟩, if_pos e]
      · rw [if_neg (fun h => e h.2), if_neg e]
    unfold cbB at R0 R1
    rw [R0, R1]
    rw [q] at HC
    replace HC := Lib.hid HC
    clear q R0 R1
    have hka : a = (a.toNat : Int) := by omega
    have hkb : b = (b.toNat : Int) := by omega
    generalize a.toNat = a' at *
    generalize b.toNat = b' at *
    subst hka hkb
    have han : a' < ps.length := by omega
    have hbn : b' < ps.length := by omega
    replace HG := Lib.hid fun (wr : World) (b : Below w.heap.size w wr) => HG wr b hB b' hbn
    have hS : Hid (Cert (adjB ps l) ps.length b' (stp (adjB ps l) ps.length b')) := Lib.hid (stp_cert hbn)
    have hm := Lib.hid (fun k hk => stp_most (adj := adjB ps l) hbn k hk)
    have hn12 : ps.length ≤ 12 := persB_len hB
    have VB := Lib.hid (fun k q hx => persB_born hB (k := k) (q := q) hx)
    obtain ⟨aa, n, c, rfl, H⟩ := h.parts
    have hlen := H.len
    have hcap := H.cap
    have hmost := H.most
    unfold maxLen at hmost
    have HP := Lib.hid h
    have FF := Lib.hid hp
    clear H h hp hB ha hb
    generalize hn : ps.length = n' at *
    obtain rfl : n' = n := hlen
    replace hn := Lib.hid hn
    generalize stp (adjB ps l) n' b' = S at *
    have hsl := Lib.hid hS.out.len
    by_cases q0 : 0 ≤ nth S a'
    · rw [if_pos (decide_eq_true q0), if_pos (decide_eq_true q0)]
      have hD := Lib.hid (show nth S a' = ((nth S a').toNat : Int) by omega)
      have hDm := hm.out a' han
      generalize hDD : (nth S a').toNat = D at *
      rw [hD.out] at hDm
      clear q0 hDD
      have hKl := Lib.hid (chn_len (adjB ps l) n' S D a')
      generalize hKK : chn (adjB ps l) n' S D a' = K at *
      have hK := Lib.hid hKK
      clear hKK
      go_enter Try.func21, Try.ntmps21
      go_wp2_with fail
      refine HC.out.mono ?_
      rintro e w1 ⟨rfl, b1⟩
      have BB := below_next b0 (Nat.le_refl _) b1
      clear b0 b1 HC
      go_wp2_with fail
      refine (HG.out _ BB).mono ?_
      rintro e w2 ⟨us, rfl, hs, b2⟩
      have hw1 := BB.size
      replace BB := below_next BB (Nat.le_refl _) b2
      clear b2 HG
      obtain ⟨aS, cS, rfl, hcS, hmS, hfS⟩ := own_form hs
      rw [hsl.out] at hcS hfS
      obtain ⟨gs, rfl, _, hgs⟩ := hfS (by omega)
      unfold maxLen at hmS
      clear hfS
      have d1 := (OwnI.at_ hs (k := a') (by rw [hsl.out]; exact han)).1
      rw [hD.out] at d1
      have ho0 : OwnI w.heap.size (.slice (some ⟨w2.heap.size, 0, none⟩) 1 1) (natI ([] ++ [a'])) (w2.alloc (.cells #[.int .i64 (a' : Int)] 2)) :=
        World.ownsRow_lit w2 #[.int .i64 (a' : Int)] 1 BB.size (by decide) rfl
      replace ho0 := Lib.hid ho0
      have hs0 := Lib.hid ((own_mono hs hw1).alloc (.cells #[.int .i64 (a' : Int)] 2))
      have hne0 : (Value.slice (some ⟨w2.heap.size, 0, none⟩) 1 1).ownBlock ≠ some gs := by simp [Value.ownBlock]; omega
      have BB0 := BB.alloc BB.size (.cells #[.int .i64 (a' : Int)] 2)
      rw [hsl.out] at hs0 ⊢
      clear hs BB hw1
      go_wp2_with fail
      clear d1
      go_loopw [12, 13] (fun u x wr => ∃ (c d : Nat) (done : List Nat), c < n' ∧ x = .int .i64 c ∧ Hid (nth S c = (d : Int)) ∧ Hid (done ++ chn (adjB ps l) n' S d c = K) ∧ Hid (OwnI w.heap.size u (natI (done ++ [c])) wr) ∧ Hid (wr.ownsRow w.heap.size 2 1 (.slice (some ⟨gs, 0, none⟩) n' cS) n' (S.map (Value.int .i64))) ∧ u.ownBlock ≠ some gs ∧ Below w.heap.size w wr) (fun _ x _ => (nth S (intOf x).toNat).toNat)
      case atStart => exact ⟨a', D, [], han, rfl, hD, hK, ho0, hs0, hne0, BB0⟩
      case round =>
        clear hK ho0 hs0 hne0 BB0 hD
        obtain ⟨c0, d, done, hc, rfl, hd, hK, ho, hs, hne, BB⟩ := hrel
        rename_i wr
        by_cases hcb : c0 = b'
        · subst hcb
          have hd0 : d = 0 := by have := hS.out.here; have := hd.out; omega
          subst hd0
          have hfin : Hid (done ++ [c0] = K) := hK
          rw [hfin.out] at ho
          have hq : ((c0 : Int) != (c0 : Int)) = false := by simp
          clear hfin hK
          go_wp2_with fail
          go_ret2
          exact ⟨_, rfl, ho.out, BB⟩
        · have hq : ((c0 : Int) != (b' : Int)) = true := by simp; omega
          have hsub : Hid (S.length = n') := hsl
          obtain ⟨g1, g2, g3, g4⟩ := nxt_is hS.out (adjB_comm ps l) hc hcb (by have := hd.out; omega)
          have hpred := (hS.out.pred c0 hc hcb (by have := hd.out; omega)).1
          obtain ⟨d', rfl⟩ : ∃ d', d = d' + 1 := ⟨d - 1, by have := hd.out; omega⟩
          have hK2 : Hid ((done ++ [c0]) ++ chn (adjB ps l) n' S d' (nxt (adjB ps l) n' S c0) = K) := Lib.hid (by rw [← hK.out, chn, List.append_assoc]; rfl)
          have hd2 : Hid (nth S (nxt (adjB ps l) n' S c0) = (d' : Int)) := Lib.hid (by rw [g2, hd.out]; omega)
          have hroom : (natI (done ++ [c0])).length ≤ 100 := by
            have h1 := congrArg List.length hK2.out
            rw [List.length_append, chn_len, hKl.out] at h1
            rw [natI_len]
            omega
          generalize nxt (adjB ps l) n' S c0 = N at *
          replace g3 := Lib.hid g3
          replace g4 := Lib.hid g4
          replace g2 := Lib.hid g2
          clear hpred hK
          have hX := per_at (ps := ps) (k := c0) (by have := hn.out; omega)
          obtain ⟨p, hx⟩ := hX
          have fp := Lib.hid (FF.out.at_ hx)
          have bp := Lib.hid (VB.out c0 p hx)
          have HX := Lib.hid hx
          clear hx
          obtain ⟨wo, rfl⟩ : ∃ wo : World, wo = wr := ⟨_, rfl⟩
          obtain ⟨bb, oo, hao⟩ := HP.out.form.2.2.2 (by omega)
          subst hao
          go_wp2_with fail
          go_loopw [13, 41] (fun v x wr => ∃ k : Nat, k ≤ N ∧ v = .int .i64 c0 ∧ x = .int .i64 k ∧ Below wo.heap.size wo wr) (fun _ x _ => N - (intOf x).toNat)
          case atStart => exact ⟨0, Nat.zero_le _, rfl, rfl, Below.refl _ _⟩
          case round =>
            obtain ⟨k, hk, rfl, rfl, BI⟩ := hrel
            have hgs3 := (World.ownsRow.lt (own_below hs.out BI) gs rfl).2
            have hsI : OwnI w.heap.size (.slice (some ⟨gs, 0, none⟩) n' cS) S wr := by
              unfold OwnI
              rw [hsub.out]
              exact own_below hs.out BI
            have d1 := (OwnI.at_ hsI (k := k) (by rw [hsub.out]; omega)).1
            have d2 := (OwnI.at_ hsI (k := c0) (by rw [hsub.out]; omega)).1
            have r1 := hm.out k (by omega)
            have r2 := hm.out c0 hc
            have r3 := hS.out.low k (by omega)
            have r4 := hS.out.low c0 hc
            clear hsI
            by_cases hkN : k < N
            · by_cases q1 : nth S k = nth S c0 - 1
              · have hno : ¬ adjB ps l c0 k = true := fun h => g4.out k hkN ⟨q1, h⟩
                obtain ⟨q, hy⟩ := per_at (ps := ps) (k := k) (by have := hn.out; omega)
                have fq := Lib.hid (FF.out.at_ hy)
                have bq := Lib.hid (VB.out k q hy)
                obtain ⟨_, p0, p1, p2, p3, p4⟩ := (HP.out.below (below_next BB (Nat.le_refl _) BI)).at_ HX.out
                obtain ⟨_, x0, x1, x2, x3, x4⟩ := (HP.out.below (below_next BB (Nat.le_refl _) BI)).at_ hy
                have hlik := Lib.hid (fun w => impl_lik_l p q fp.out fq.out bp.out bq.out w)
                have hA := adjB_at (l := l) HX.out hy
                clear hy
                have q3 : lik p q < l := by
                  have : ¬ adjB ps l c0 k = true := by exact hno
                  rw [hA] at this
                  exact Int.not_le.1 fun h => this (decide_eq_true h)
                have q1' : (nth S k == nth S c0 - 1) = true := by simp; omega
                clear hA hno q1
                generalize lik p q = lk at *
                generalize nth S k = sk at *
                generalize nth S c0 = sc at *
                go_wp2_with fail
                refine region_ext (by kernel_rfl) (by kernel_rfl) ?_
                repeat (go_big_quiet_step ((with_reducible_and_instances exact ext_call (hlik.out _))))
                refine wpQuiet_nil ?_
                rintro _ ⟨nx, rfl⟩
                have b3 := ext_below _ nx
                generalize extW _ nx = w3 at *
                replace BI := below_next BI (Nat.le_refl _) b3
                clear p0 p1 p2 p3 p4 x0 x1 x2 x3 x4 d1 d2
                go_wp2_with fail
                go_roundw
                case rel => exact ⟨k + 1, by omega, rfl, by go_num, BI⟩
                case measure => simp [intOf]; omega
              · have q1' : (nth S k == nth S c0 - 1) = false := by simp; omega
                clear q1
                generalize nth S k = sk at *
                generalize nth S c0 = sc at *
                go_wp2_with fail
                go_quiet (fail)
                go_wp2_with fail
                clear d1 d2
                go_roundw
                case rel => exact ⟨k + 1, by omega, rfl, by go_num, below_of_drewN BI _⟩
                case measure => simp [intOf]; omega
            · obtain rfl : k = N := by omega
              have q1 := g2.out
              obtain ⟨q, hy⟩ := per_at (ps := ps) (k := k) (by have := hn.out; omega)
              have fq := Lib.hid (FF.out.at_ hy)
              have bq := Lib.hid (VB.out k q hy)
              obtain ⟨_, p0, p1, p2, p3, p4⟩ := (HP.out.below (below_next BB (Nat.le_refl _) BI)).at_ HX.out
              obtain ⟨_, x0, x1, x2, x3, x4⟩ := (HP.out.below (below_next BB (Nat.le_refl _) BI)).at_ hy
              have hlik := Lib.hid (fun w => impl_lik_l p q fp.out fq.out bp.out bq.out w)
              have hA := adjB_at (l := l) HX.out hy
              clear hy
              have q3 : l ≤ lik p q := by
                have : adjB ps l c0 k = true := by exact g3.out
                rw [hA] at this
                exact of_decide_eq_true this
              have q1' : (nth S k == nth S c0 - 1) = true := by simp; omega
              clear hA q1
              generalize lik p q = lk at *
              generalize hsk : nth S k = sk at *
              generalize hsc : nth S c0 = sc at *
              replace hsk := Lib.hid hsk
              replace hsc := Lib.hid hsc
              go_wp2_with fail
              refine region_ext (by kernel_rfl) (by kernel_rfl) ?_
              repeat (go_big_quiet_step ((with_reducible_and_instances exact ext_call (hlik.out _))))
              refine wpQuiet_nil ?_
              rintro _ ⟨nx, rfl⟩
              have b3 := ext_below _ nx
              generalize extW _ nx = w3 at *
              replace BI := below_next BI (Nat.le_refl _) b3
              clear p0 p1 p2 p3 p4 x0 x1 x2 x3 x4 d1 d2
              have BB5 := below_next BB (Nat.le_refl _) BI
              have ho1 := own_below ho.out BI
              have hs1 := own_below hs.out BI
              have hsz := BB5.size
              clear BI BB ho hs b3 hgs3
              go_wp2_with (at_builtin; refine wpList_append_own_at _ rfl _ _ 34 rfl w.heap.size 2 i0 (.int .i64 0) 1 8 Try.underlying34 hi hz0 hz1 hz2 rfl (by decide) _ _ _ rfl (World.ownsRow.alloc ho1 _) ⟨w3.heap.size, 0, none⟩ 1 1 [.int .i64 (k : Int)] rfl rfl ?c1 ?c2 ?c3 ?c4 ?c5 ?_)
              case c1 => exact single_at _ _ _
              case c2 => intro u hu; simp at hu; subst hu; rfl
              case c3 => unfold maxLen; omega
              case c4 => omega
              case c5 => simp; omega
              intro v' w6 hown' hgrow _ hat
              have hs2 := Lib.hid (World.ownsRow.kept (World.ownsRow.alloc hs1 _) hgrow (.inr (by simp only [Value.ownBlock]; exact fun e => hne e.symm)))
              have hb' := below_append BB5 hsz ho1 hgrow
              have hgl2 := (World.ownsRow.lt hs1 gs rfl).2
              have hne3 : v'.ownBlock ≠ some gs := by
                rcases hat with h | h
                · rw [h]; exact hne
                · rw [h]; intro e; injection e with e; first | omega | (simp at e; omega)
              have ho2 : Hid (OwnI w.heap.size v' (natI ((done ++ [c0]) ++ [k])) w6) := Lib.hid (by
                unfold OwnI
                rw [natI_snoc, List.length_append, List.map_append]
                exact hown')
              have hd3 : Hid (nth S k = (d' : Int)) := Lib.hid (by rw [hsk.out]; exact hd2.out)
              clear hown' hgrow hat ho1 hs1 hne BB5
              go_wp2_with fail
              go_roundw
              case rel => exact ⟨k, d', done ++ [c0], by omega, rfl, hd3, hK2, ho2, hs2, hne3, hb'⟩
              case measure =>
                have e1 := hd3.out
                have e2 := hsc.out
                have e3 := hd.out
                simp [intOf]
                omega
    · rw [if_neg (by simpa using q0), if_neg (by simpa using q0)]
      replace q0 : nth S a' < 0 := by omega
      go_enter Try.func21, Try.ntmps21
      go_wp2_with fail
      refine HC.out.mono ?_
      rintro e w1 ⟨rfl, b1⟩
      have BB := below_next b0 (Nat.le_refl _) b1
      clear b0 b1 HC
      go_wp2_with fail
      refine (HG.out _ BB).mono ?_
      rintro e w2 ⟨us, rfl, hs, b2⟩
      have hw1 := BB.size
      replace BB := below_next BB (Nat.le_refl _) b2
      clear b2 HG
      obtain ⟨aS, cS, rfl, hcS, hmS, hfS⟩ := own_form hs
      rw [hsl.out] at hcS hfS
      obtain ⟨gs, rfl, _, hgs⟩ := hfS (by omega)
      unfold maxLen at hmS
      clear hfS
      have d1 := (OwnI.at_ hs (k := a') (by rw [hsl.out]; exact han)).1
      clear hs
      rw [hsl.out]
      generalize nth S a' = sa at *
      go_wp2_with fail
      clear d1
      go_ret2
      exact ⟨_, rfl, World.ownsRow_nil _ _ _ _, BB⟩
  · have R1 : Hid (cbI ps l a b = []) := Lib.hid (by unfold cbI; rw [if_neg (fun h => q h.1)])
    have R0 : Hid (cbE ps l a b = jcode ps l [a, b]) := Lib.hid (by unfold cbE; rw [if_neg q])
    have q1 : (jcode ps l [a, b] != 0) = true := by simpa using q
    rw [R1.out, R0.out]
    replace HC := Lib.hid HC
    clear q R1 R0 HG
    generalize jcode ps l [a, b] = cc at *
    go_enter Try.func21, Try.ntmps21
    go_wp2_with fail
    refine HC.out.mono ?_
    rintro e w1 ⟨rfl, b1⟩
    have BB := below_next b0 (Nat.le_refl _) b1
    go_wp2_with fail
    go_ret2
    exact ⟨_, rfl, World.ownsRow_nil _ _ _ _, BB⟩
end Go.Proofs.Ytehfhpedpdofkaa
