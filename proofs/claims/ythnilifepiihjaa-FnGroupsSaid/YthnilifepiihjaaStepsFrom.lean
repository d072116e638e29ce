/-
  The program's numbers of steps of a chain: stepsFrom.
  Conditions: each lemma names its own.
-/
import Derived.Test.YthnilifepiihjaaQueue
import Derived.Deep.LoopGhost
namespace Go.Proofs.Ythnilifepiihjaa
open Go.RowKit
set_option linter.unusedVariables false

/-- What holds of the queue ahead of a round. -/
def OutQ (adj : Nat → Nat → Bool) (n a : Nat) (s : List Int) (q : List Nat) : Prop := (∃ i, Queue adj n a i n s q) ∨ (a < n ∧ q = [a] ∧ s = (negs n).set a 0)
theorem outQ_head {adj : Nat → Nat → Bool} {n a j : Nat} {s : List Int} {q : List Nat} (h : OutQ adj n a s (j :: q)) : Queue adj n a j 0 s q := by
  rcases h with ⟨i, h⟩ | ⟨ha, hq, hs⟩
  · exact h.next
  · injection hq with h1 h2
    subst h1 h2 hs
    exact queue_start ha
theorem outQ_end {adj : Nat → Nat → Bool} {n a : Nat} {s : List Int} (h : OutQ adj n a s []) : Cert adj n a s := by
  rcases h with ⟨i, h⟩ | ⟨_, hq, _⟩
  · exact h.cert
  · cases hq
def natI (q : List Nat) : List Int := q.map (fun j : Nat => (j : Int))
theorem natI_len (q : List Nat) : (natI q).length = q.length := List.length_map _
theorem natI_snoc (q : List Nat) (k : Nat) : natI (q ++ [k]) = natI q ++ [(k : Int)] := by unfold natI; rw [List.map_append]; rfl
theorem natI_cons (q : List Nat) (k : Nat) : natI (k :: q) = (k : Int) :: natI q := rfl
theorem unmarked_le (s : List Int) : unmarked s ≤ s.length := List.countP_le_length

set_option maxRecDepth 100000 in
set_option maxHeartbeats 8000000 in
theorem impl_steps {v : Value} {ps : List Per} {w : World} (h : Persons w v ps) (hp : PersFit ps) (hB : persB ps = true) (l : Int) (a : Nat) (ha : a < ps.length) :
    Calls Try.prog 81 #[v, .int .i64 l, .int .i64 (a : Int)] w fun e w' => ∃ u, e = .returned u ∧ OwnI w.heap.size u (stp (adjB ps l) ps.length a) w' ∧ Below w.heap.size w w' := by
  obtain ⟨i0, hi, hz0, hz1, hz2⟩ := info_parts info_i64
  have hz2' : i0.bytes ≤ 8 := by omega
  have HZ := Lib.hid hz2
  obtain ⟨aa, n, c, rfl, H⟩ := h.parts
  have hlen := Lib.hid H.len
  have hcap := H.cap
  have hmost := H.most
  have hn12 : n ≤ 12 := by have := persB_len hB; have := H.len; omega
  have han : a < n := by have := H.len; omega
  unfold maxLen at hmost
  obtain ⟨b, o, hao⟩ := h.form.2.2.2 (by omega)
  subst hao
  clear H
  have HP := Lib.hid h
  have FF := Lib.hid hp
  have VB := fun k q hx => persB_born hB (k := k) (q := q) hx
  replace VB := Lib.hid VB
  clear h hp hB ha
  go_enter Try.func81, Try.ntmps81
  go_wp2_with (first | (at_make; refine wpList_make_full _ rfl _ _ 22 rfl w.heap.size 2 i0 (.int .i64 0) 1 Try.underlying22 hi hz0 hz1 _ _ _ _ n rfl rfl rfl rfl ?b2 ?b3 ?b4 ?_))
  case b2 => rw [HZ.out]; omega
  case b3 => unfold maxLen; omega
  case b4 => exact Nat.le_refl _
  intro w1 hown hgrow
  have hbel : Below w.heap.size w w1 := (Below.refl _ _).grown hgrow (Nat.le_refl _) (fun k hk => by cases hk)
  have hfill := filled_start hown (negs_len n)
  clear hown hgrow
  replace hfill := Lib.hid hfill
  go_wp2_with fail
  go_loopw [17] (fun i wr => ∃ k : Nat, k ≤ n ∧ i = .int .i64 k ∧ Below w.heap.size w wr ∧ Hid (Filled w.heap.size wr (.slice (some ⟨w.heap.size, 0, none⟩) n n) (negs n) k)) (fun i _ => n - (intOf i).toNat)
  case atStart => exact ⟨0, Nat.zero_le _, rfl, hbel, hfill⟩
  case round =>
    clear hbel hfill
    obtain ⟨k, hk, rfl, BB, hf⟩ := hrel
    by_cases hlt : k < n
    · have hx : (negs n)[k]? = some (-1) := by unfold negs; rw [List.getElem?_replicate, if_pos hlt]
      obtain ⟨⟨u, hu⟩, hfz, hst⟩ := hf.out.step (negs_len n) hx
      have hb' := BB.setCell (p := ⟨w.heap.size, k, none⟩) (Nat.le_refl _) (.int .i64 (-1))
      replace hst := Lib.hid hst
      clear hf hx
      go_wp2_with fail
      go_roundw
      case rel => exact ⟨k + 1, by omega, by go_num, hb', hst⟩
      case measure => simp [intOf]; omega
    · obtain rfl : k = n := by omega
      have ho : OwnI w.heap.size (.slice (some ⟨w.heap.size, 0, none⟩) k k) (negs k) wr := by
        have h1 := hf.out
        have h2 : Filled w.heap.size wr (.slice (some ⟨w.heap.size, 0, none⟩) k k) (negs k) (negs k).length := by rw [negs_len]; exact h1
        exact h2.full
      clear hf
      obtain ⟨c1, c2⟩ := ho.at_ (k := a) (by rw [negs_len]; exact han)
      have ho2 := ho.set a 0
      have hgs := (World.ownsRow.lt ho2 w.heap.size rfl)
      have BB2 := BB.setCell (p := ⟨w.heap.size, a, none⟩) (Nat.le_refl _) (.int .i64 0)
      have hT := tailQ_new (base := w.heap.size) (gs := w.heap.size) BB2.size hgs.2 (a : Int)
      have BB3 := BB2.alloc BB2.size (.cells #[.int .i64 (a : Int)] 2)
      have ho3 := ho2.below ((Below.refl _ _).alloc (Nat.le_refl _) (.cells #[.int .i64 (a : Int)] 2))
      have hO : OutQ (adjB ps l) k a ((negs k).set a 0) [a] := .inr ⟨han, rfl, rfl⟩
      have hsl : ((negs k).set a 0).length = k := by rw [List.length_set, negs_len]
      have hU := unmarked_le ((negs k).set a 0)
      rw [hsl] at hU
      generalize (negs k).set a 0 = s at *
      replace hO := Lib.hid hO
      replace ho3 := Lib.hid ho3
      replace hT := Lib.hid hT
      replace hsl := Lib.hid hsl
      clear ho ho2 BB BB2 hlt
      have hne : w.heap.size ≠ (wr.setCell ⟨w.heap.size, a, none⟩ (.int .i64 0)).heap.size := by omega
      clear hgs
      go_wp2_with fail
      clear c1 c2
      go_loopg [9] (2 * unmarked s + 1) (fun gk u wr => ∃ (s : List Int) (q : List Nat) (g o' c' L : Nat), u = .slice (some ⟨g, o', none⟩) L c' ∧ Hid (q.length = L) ∧ 2 * unmarked s + L ≤ gk ∧ gk ≤ 100 ∧ Hid (TailQ w.heap.size w.heap.size g o' c' (natI q) wr) ∧ Hid (OwnI w.heap.size (.slice (some ⟨w.heap.size, 0, none⟩) k k) s wr) ∧ Hid (OutQ (adjB ps l) k a s q) ∧ Below w.heap.size w wr)
      case atStart => exact ⟨s, [a], _, _, _, 1, rfl, Lib.hid rfl, Nat.le_refl _, by omega, by simpa [natI] using hT, by simpa using ho3, hO, by simpa using BB3⟩
      case round =>
        clear hO ho3 hT BB3 hsl hU s hne
        obtain ⟨s, q, g, o', c', L, rfl, hL, hgk, hg100, hT, ho, hO, BB⟩ := hrel
        have hsl := Lib.hid (show s.length = k by rcases hO.out with ⟨i, h⟩ | ⟨_, _, h⟩; exact h.len; rw [h, List.length_set, negs_len])
        cases q with
        | nil =>
          obtain rfl : L = 0 := by simpa using hL.out.symm
          have hs := Lib.hid (outQ_end hO.out).is
          rw [hs.out] at ho
          have hpl := hlen.out
          go_wp2_with fail
          go_ret
          exact ⟨_, rfl, by rw [hpl]; exact ho.out, BB⟩
        | cons i q =>
          have hQ := outQ_head hO.out
          obtain ⟨hi', hi0⟩ := hQ.at_
          have e0 : wr.cell? ⟨g, o', none⟩ = some (.int .i64 (i : Int)) := hT.out.cells 0 i rfl
          have hcL : L ≤ c' := by have := hT.out.le; rw [natI_len, hL.out] at this; exact this
          have hcm := hT.out.most
          unfold maxLen at hcm
          have hL1 := Lib.hid (show L = q.length + 1 by simpa using hL.out.symm)
          by_cases hc1 : c' = 1
          · subst hc1
            obtain ⟨h1, HT⟩ := TailQ.last (x := (i : Int)) (q := natI q) hT.out
            have h3 : q = [] := by cases q with
              | nil => rfl
              | cons y q => cases h1
            subst h3
            obtain rfl : L = 1 := by simpa using hL1.out
            clear h1
            have HL : Hid (([] : List Nat).length = 0) := Lib.hid rfl
            replace HT : Hid (TailQ w.heap.size w.heap.size g o' 0 (natI []) wr) := Lib.hid HT
            go_wp2_with fail
            clear e0
            obtain ⟨wo, rfl⟩ : ∃ wo : World, wo = wr := ⟨_, rfl⟩
            have hik : i < k := hi'
            go_loopw [9, 39] (fun u x wr => ∃ (j : Nat) (s : List Int) (q : List Nat) (g o' c' L : Nat), j ≤ k ∧ x = .int .i64 j ∧ u = .slice (some ⟨g, o', none⟩) L c' ∧ Hid (q.length = L) ∧ 2 * unmarked s + L < gk ∧ Hid (TailQ w.heap.size w.heap.size g o' c' (natI q) wr) ∧ Hid (OwnI w.heap.size (.slice (some ⟨w.heap.size, 0, none⟩) k k) s wr) ∧ Hid (Queue (adjB ps l) k a i j s q) ∧ Below w.heap.size w wr) (fun _ x _ => k - (intOf x).toNat)
            case atStart => exact ⟨0, s, [], _, _, _, _, Nat.zero_le _, rfl, rfl, Lib.hid rfl, by omega, HT, ho, Lib.hid hQ, BB⟩
            case round =>
              clear HT HL ho hQ BB hT hO hgk hL hL1 hcL hcm hsl hi' hi0 s
              obtain ⟨j, s, q, g, o', c', L, hj, rfl, rfl, hL, hgk, hT, ho, hQ, BB⟩ := hrel
              have hsl := Lib.hid hQ.out.len
              have hgl := (World.ownsRow.lt ho.out w.heap.size rfl).2
              by_cases hjk : j < k
              · obtain ⟨d1, _⟩ := ho.out.at_ (k := i) (by rw [hsl.out]; exact hik)
                obtain ⟨d2, d3⟩ := ho.out.at_ (k := j) (by rw [hsl.out]; exact hjk)
                have hi0 := hQ.out.at_.2
                have hi1 : nth s i < 1000 := by have := hQ.out.toBegun.lt i hik; omega
                by_cases q2 : nth s j < 0
                · have hij : i ≠ j := by rintro rfl; omega
                  have hX := per_at (ps := ps) (k := i) (by have := hlen.out; omega)
                  obtain ⟨p, hx⟩ := hX
                  have hY := per_at (ps := ps) (k := j) (by have := hlen.out; omega)
                  obtain ⟨qq, hy⟩ := hY
                  have ha := adjB_at (l := l) hx hy
                  have fp := Lib.hid (FF.out.at_ hx)
                  have fq := Lib.hid (FF.out.at_ hy)
                  have bp := Lib.hid (VB.out i p hx)
                  have bq := Lib.hid (VB.out j qq hy)
                  obtain ⟨_, p0, p1, p2, p3, p4⟩ := (HP.out.below BB).at_ hx
                  obtain ⟨_, x0, x1, x2, x3, x4⟩ := (HP.out.below BB).at_ hy
                  have hlik := Lib.hid (fun w => impl_lik_l p qq fp.out fq.out bp.out bq.out w)
                  generalize lik p qq = lk at *
                  clear hx hy
                  have Q2 := Lib.hid q2
                  have hum : Hid (unmarked (s.set j (nth s i + 1)) + 1 = unmarked s) := Lib.hid (unmarked_set s j _ (by rw [hsl.out]; exact hjk) q2 (by omega))
                  generalize hnj : nth s j = sj at *
                  replace hnj := Lib.hid hnj
                  by_cases q3 : l ≤ lk
                  · have HA2 : Hid (adjB ps l i j = true) := Lib.hid (by rw [ha]; exact decide_eq_true q3)
                    clear ha
                    have hnew := Lib.hid (hQ.out.set hjk (by rw [hnj.out]; exact Q2.out) HA2.out)
                    generalize hni : nth s i = si at *
                    replace hni := Lib.hid hni
                    go_wp2_with fail
                    refine region_ext (by kernel_rfl) (by kernel_rfl) ?_
                    repeat (go_big_quiet_step ((with_reducible_and_instances exact ext_call (hlik.out _))))
                    refine wpQuiet_nil ?_
                    rintro _ ⟨nx, rfl⟩
                    have b3 := ext_below _ nx
                    generalize extW _ nx = w3 at *
                    replace BB := below_next BB (Nat.le_refl _) b3
                    replace ho := Lib.hid (ho.out.below b3)
                    replace hT := Lib.hid (hT.out.below b3)
                    clear p0 p1 p2 p3 p4 x0 x1 x2 x3 x4 d1 d2 d3
                    obtain ⟨d2, d3⟩ := ho.out.at_ (k := j) (by rw [hsl.out]; exact hjk)
                    obtain ⟨d1, _⟩ := ho.out.at_ (k := i) (by rw [hsl.out]; exact hik)
                    rw [hni.out] at d1
                    have ho3 := ho.out.set j (si + 1)
                    have hT3 := hT.out.setCell (k := j) (.int .i64 (si + 1))
                    have BB3 := BB.setCell (p := ⟨w.heap.size, j, none⟩) (Nat.le_refl _) (.int .i64 (si + 1))
                    have hT4 := hT3.below ((Below.refl _ _).alloc (Nat.le_refl _) (.cells #[.int .i64 (j : Int)] 2))
                    have ho4 := ho3.below ((Below.refl _ _).alloc (Nat.le_refl _) (.cells #[.int .i64 (j : Int)] 2))
                    have BB4 := BB3.alloc BB3.size (.cells #[.int .i64 (j : Int)] 2)
                    have hgs4 := (World.ownsRow.lt ho4 w.heap.size rfl).2
                    have hnl : Hid (L = (natI q).length) := Lib.hid (by rw [natI_len, hL.out])
                    have hqn : (natI q).length ≤ 1000 := by rw [natI_len]; have := hL.out; omega
                    have cx : ((w3.setCell ⟨w.heap.size, j, none⟩ (.int .i64 (si + 1))).alloc (.cells #[.int .i64 (j : Int)] 2)).cell? ((⟨w3.heap.size, 0, none⟩ : Addr).add 0) = some (.int .i64 (j : Int)) := by
                      have h1 := single_at (w3.setCell ⟨w.heap.size, j, none⟩ (.int .i64 (si + 1))) (j : Int) 2 0 _ rfl
                      have h2 : (w3.setCell ⟨w.heap.size, j, none⟩ (.int .i64 (si + 1))).heap.size = w3.heap.size := by simp [World.setCell]
                      rw [h2] at h1
                      exact h1
                    clear ho hT BB ho3 hT3 BB3
                    replace hT4 := Lib.hid hT4
                    replace ho4 := Lib.hid ho4
                    replace BB4 := Lib.hid BB4
                    replace cx := Lib.hid cx
                    replace hgs4 := Lib.hid hgs4
                    go_wp2_with (at_builtin; refine wpList_append_tail rfl _ _ 22 rfl 2 i0 Try.underlying22 hi hz0 hz1 hz2 hT4.out hnl.out hgs4.out BB4.out.size hqn rfl ⟨w3.heap.size, 0, none⟩ 1 (j : Int) rfl cx.out ?_)
                    intro g2 o2 c2 w4 HT4 hs4 hb4 e1 e2 e3
                    have hsz4 : ((w3.setCell ⟨w.heap.size, j, none⟩ (.int .i64 (si + 1))).alloc (.cells #[.int .i64 (j : Int)] 2)).heap.size = w3.heap.size + 1 := by simp [World.setCell]
                    have hgs5 := hgs4.out
                    rw [hsz4] at hgs5
                    have hbb := BB4.out.size
                    rw [hsz4] at hbb
                    have hgb := hT4.out.base
                    have hgn := hT4.out.ne
                    have ho5 := Lib.hid (show OwnI _ _ _ w4 from own_block ho4.out (hb4 _ hgs5 (Ne.symm hgn)) (by rw [hsz4]; exact hs4))
                    have BB5 : Below w.heap.size w w4 := BB4.out.trans ⟨e1, e2, e3, by rw [hsz4]; exact hs4, fun x hx => hb4 x (Nat.lt_of_lt_of_le hx hbb) (by omega)⟩
                    have hL2 : Hid ((q ++ [j]).length = L + 1) := Lib.hid (by rw [List.length_append, hL.out]; rfl)
                    have hgk2 : 2 * unmarked (s.set j (si + 1)) + (L + 1) < gk := by have := hum.out; omega
                    rw [← natI_snoc] at HT4
                    replace HT4 := Lib.hid HT4
                    clear hT4 ho4 BB4 cx hgs4 hb4 e1 e2 e3 hbb hgb hgn hsz4 hgs5
                    go_wp2_with fail
                    clear d1 d2 d3
                    go_roundw
                    case rel => exact ⟨j + 1, _, _, _, _, _, _, by omega, by go_num, rfl, hL2, hgk2, HT4, ho5, hnew, BB5⟩
                    case measure => simp [intOf]; omega
                  · have q3' : lk < l := by omega
                    have HA2 : Hid (adjB ps l i j = false) := Lib.hid (by rw [ha]; exact decide_eq_false q3)
                    clear ha
                    have hnew := Lib.hid (hQ.out.skip (fun h => by rw [HA2.out] at h; cases h))
                    generalize hni : nth s i = si at *
                    replace hni := Lib.hid hni
                    go_wp2_with fail
                    refine region_ext (by kernel_rfl) (by kernel_rfl) ?_
                    repeat (go_big_quiet_step ((with_reducible_and_instances exact ext_call (hlik.out _))))
                    refine wpQuiet_nil ?_
                    rintro _ ⟨nx, rfl⟩
                    have b3 := ext_below _ nx
                    generalize extW _ nx = w3 at *
                    replace BB := below_next BB (Nat.le_refl _) b3
                    replace ho := Lib.hid (ho.out.below b3)
                    replace hT := Lib.hid (hT.out.below b3)
                    clear p0 p1 p2 p3 p4 x0 x1 x2 x3 x4 d1 d2 d3
                    go_wp2_with fail
                    go_roundw
                    case rel => exact ⟨j + 1, s, q, _, _, _, _, by omega, by go_num, rfl, hL, hgk, hT, ho, hnew, BB⟩
                    case measure => simp [intOf]; omega
                · have hnew := Lib.hid (hQ.out.skip (fun _ => by omega))
                  have q2' : decide (nth s j < 0) = false := decide_eq_false q2
                  clear q2
                  generalize nth s i = si at *
                  generalize nth s j = sj at *
                  go_wp2_with fail
                  go_quiet (fail)
                  go_wp2_with fail
                  clear d1 d2 d3
                  go_roundw
                  case rel => exact ⟨j + 1, s, q, _, _, _, _, by omega, by go_num, rfl, hL, hgk, Lib.hid (hT.out.below (below_of_drewN (Below.refl _ _) _)), Lib.hid (ho.out.drewN _), hnew, below_of_drewN BB _⟩
                  case measure => simp [intOf]; omega
              · obtain rfl : j = k := by omega
                have hO2 := Lib.hid (show OutQ (adjB ps l) j a s q from .inl ⟨i, hQ.out⟩)
                go_wp2_with fail
                go_roundg (2 * unmarked s + L)
                case rel => exact ⟨s, q, _, _, _, _, rfl, hL, Nat.le_refl _, by omega, hT, ho, hO2, BB⟩
                case measure => omega
          · have HT := TailQ.tail (x := (i : Int)) (q := natI q) hT.out (by have := hT.out.le; rw [natI_len] at this; simp at this; omega)
            replace HT := Lib.hid HT
            have hL2 := hL1.out
            subst hL2
            have HL : Hid (q.length = q.length) := Lib.hid rfl
            have hc2 : 1 < c' := by omega
            clear hc1
            have hone : (q.length + 1 : Nat) - 1 = q.length := by omega
            go_wp2_with fail
            clear e0
            obtain ⟨wo, rfl⟩ : ∃ wo : World, wo = wr := ⟨_, rfl⟩
            have hik : i < k := hi'
            go_loopw [9, 39] (fun u x wr => ∃ (j : Nat) (s : List Int) (q : List Nat) (g o' c' L : Nat), j ≤ k ∧ x = .int .i64 j ∧ u = .slice (some ⟨g, o', none⟩) L c' ∧ Hid (q.length = L) ∧ 2 * unmarked s + L < gk ∧ Hid (TailQ w.heap.size w.heap.size g o' c' (natI q) wr) ∧ Hid (OwnI w.heap.size (.slice (some ⟨w.heap.size, 0, none⟩) k k) s wr) ∧ Hid (Queue (adjB ps l) k a i j s q) ∧ Below w.heap.size w wr) (fun _ x _ => k - (intOf x).toNat)
            case atStart => exact ⟨0, s, q, _, _, _, _, Nat.zero_le _, rfl, rfl, Lib.hid rfl, by omega, HT, ho, Lib.hid hQ, BB⟩
            case round =>
              clear HT HL ho hQ BB hT hO hgk hL hL1 hcL hcm hsl hi' hi0 hone s
              obtain ⟨j, s, q, g, o', c', L, hj, rfl, rfl, hL, hgk, hT, ho, hQ, BB⟩ := hrel
              have hsl := Lib.hid hQ.out.len
              have hgl := (World.ownsRow.lt ho.out w.heap.size rfl).2
              by_cases hjk : j < k
              · obtain ⟨d1, _⟩ := ho.out.at_ (k := i) (by rw [hsl.out]; exact hik)
                obtain ⟨d2, d3⟩ := ho.out.at_ (k := j) (by rw [hsl.out]; exact hjk)
                have hi0 := hQ.out.at_.2
                have hi1 : nth s i < 1000 := by have := hQ.out.toBegun.lt i hik; omega
                by_cases q2 : nth s j < 0
                · have hij : i ≠ j := by rintro rfl; omega
                  have hX := per_at (ps := ps) (k := i) (by have := hlen.out; omega)
                  obtain ⟨p, hx⟩ := hX
                  have hY := per_at (ps := ps) (k := j) (by have := hlen.out; omega)
                  obtain ⟨qq, hy⟩ := hY
                  have ha := adjB_at (l := l) hx hy
                  have fp := Lib.hid (FF.out.at_ hx)
                  have fq := Lib.hid (FF.out.at_ hy)
                  have bp := Lib.hid (VB.out i p hx)
                  have bq := Lib.hid (VB.out j qq hy)
                  obtain ⟨_, p0, p1, p2, p3, p4⟩ := (HP.out.below BB).at_ hx
                  obtain ⟨_, x0, x1, x2, x3, x4⟩ := (HP.out.below BB).at_ hy
                  have hlik := Lib.hid (fun w => impl_lik_l p qq fp.out fq.out bp.out bq.out w)
                  generalize lik p qq = lk at *
                  clear hx hy
                  have Q2 := Lib.hid q2
                  have hum : Hid (unmarked (s.set j (nth s i + 1)) + 1 = unmarked s) := Lib.hid (unmarked_set s j _ (by rw [hsl.out]; exact hjk) q2 (by omega))
                  generalize hnj : nth s j = sj at *
                  replace hnj := Lib.hid hnj
                  by_cases q3 : l ≤ lk
                  · have HA2 : Hid (adjB ps l i j = true) := Lib.hid (by rw [ha]; exact decide_eq_true q3)
                    clear ha
                    have hnew := Lib.hid (hQ.out.set hjk (by rw [hnj.out]; exact Q2.out) HA2.out)
                    generalize hni : nth s i = si at *
                    replace hni := Lib.hid hni
                    go_wp2_with fail
                    refine region_ext (by kernel_rfl) (by kernel_rfl) ?_
                    repeat (go_big_quiet_step ((with_reducible_and_instances exact ext_call (hlik.out _))))
                    refine wpQuiet_nil ?_
                    rintro _ ⟨nx, rfl⟩
                    have b3 := ext_below _ nx
                    generalize extW _ nx = w3 at *
                    replace BB := below_next BB (Nat.le_refl _) b3
                    replace ho := Lib.hid (ho.out.below b3)
                    replace hT := Lib.hid (hT.out.below b3)
                    clear p0 p1 p2 p3 p4 x0 x1 x2 x3 x4 d1 d2 d3
                    obtain ⟨d2, d3⟩ := ho.out.at_ (k := j) (by rw [hsl.out]; exact hjk)
                    obtain ⟨d1, _⟩ := ho.out.at_ (k := i) (by rw [hsl.out]; exact hik)
                    rw [hni.out] at d1
                    have ho3 := ho.out.set j (si + 1)
                    have hT3 := hT.out.setCell (k := j) (.int .i64 (si + 1))
                    have BB3 := BB.setCell (p := ⟨w.heap.size, j, none⟩) (Nat.le_refl _) (.int .i64 (si + 1))
                    have hT4 := hT3.below ((Below.refl _ _).alloc (Nat.le_refl _) (.cells #[.int .i64 (j : Int)] 2))
                    have ho4 := ho3.below ((Below.refl _ _).alloc (Nat.le_refl _) (.cells #[.int .i64 (j : Int)] 2))
                    have BB4 := BB3.alloc BB3.size (.cells #[.int .i64 (j : Int)] 2)
                    have hgs4 := (World.ownsRow.lt ho4 w.heap.size rfl).2
                    have hnl : Hid (L = (natI q).length) := Lib.hid (by rw [natI_len, hL.out])
                    have hqn : (natI q).length ≤ 1000 := by rw [natI_len]; have := hL.out; omega
                    have cx : ((w3.setCell ⟨w.heap.size, j, none⟩ (.int .i64 (si + 1))).alloc (.cells #[.int .i64 (j : Int)] 2)).cell? ((⟨w3.heap.size, 0, none⟩ : Addr).add 0) = some (.int .i64 (j : Int)) := by
                      have h1 := single_at (w3.setCell ⟨w.heap.size, j, none⟩ (.int .i64 (si + 1))) (j : Int) 2 0 _ rfl
                      have h2 : (w3.setCell ⟨w.heap.size, j, none⟩ (.int .i64 (si + 1))).heap.size = w3.heap.size := by simp [World.setCell]
                      rw [h2] at h1
                      exact h1
                    clear ho hT BB ho3 hT3 BB3
                    replace hT4 := Lib.hid hT4
                    replace ho4 := Lib.hid ho4
                    replace BB4 := Lib.hid BB4
                    replace cx := Lib.hid cx
                    replace hgs4 := Lib.hid hgs4
                    go_wp2_with (at_builtin; refine wpList_append_tail rfl _ _ 22 rfl 2 i0 Try.underlying22 hi hz0 hz1 hz2 hT4.out hnl.out hgs4.out BB4.out.size hqn rfl ⟨w3.heap.size, 0, none⟩ 1 (j : Int) rfl cx.out ?_)
                    intro g2 o2 c2 w4 HT4 hs4 hb4 e1 e2 e3
                    have hsz4 : ((w3.setCell ⟨w.heap.size, j, none⟩ (.int .i64 (si + 1))).alloc (.cells #[.int .i64 (j : Int)] 2)).heap.size = w3.heap.size + 1 := by simp [World.setCell]
                    have hgs5 := hgs4.out
                    rw [hsz4] at hgs5
                    have hbb := BB4.out.size
                    rw [hsz4] at hbb
                    have hgb := hT4.out.base
                    have hgn := hT4.out.ne
                    have ho5 := Lib.hid (show OwnI _ _ _ w4 from own_block ho4.out (hb4 _ hgs5 (Ne.symm hgn)) (by rw [hsz4]; exact hs4))
                    have BB5 : Below w.heap.size w w4 := BB4.out.trans ⟨e1, e2, e3, by rw [hsz4]; exact hs4, fun x hx => hb4 x (Nat.lt_of_lt_of_le hx hbb) (by omega)⟩
                    have hL2 : Hid ((q ++ [j]).length = L + 1) := Lib.hid (by rw [List.length_append, hL.out]; rfl)
                    have hgk2 : 2 * unmarked (s.set j (si + 1)) + (L + 1) < gk := by have := hum.out; omega
                    rw [← natI_snoc] at HT4
                    replace HT4 := Lib.hid HT4
                    clear hT4 ho4 BB4 cx hgs4 hb4 e1 e2 e3 hbb hgb hgn hsz4 hgs5
                    go_wp2_with fail
                    clear d1 d2 d3
                    go_roundw
                    case rel => exact ⟨j + 1, _, _, _, _, _, _, by omega, by go_num, rfl, hL2, hgk2, HT4, ho5, hnew, BB5⟩
                    case measure => simp [intOf]; omega
                  · have q3' : lk < l := by omega
                    have HA2 : Hid (adjB ps l i j = false) := Lib.hid (by rw [ha]; exact decide_eq_false q3)
                    clear ha
                    have hnew := Lib.hid (hQ.out.skip (fun h => by rw [HA2.out] at h; cases h))
                    generalize hni : nth s i = si at *
                    replace hni := Lib.hid hni
                    go_wp2_with fail
                    refine region_ext (by kernel_rfl) (by kernel_rfl) ?_
                    repeat (go_big_quiet_step ((with_reducible_and_instances exact ext_call (hlik.out _))))
                    refine wpQuiet_nil ?_
                    rintro _ ⟨nx, rfl⟩
                    have b3 := ext_below _ nx
                    generalize extW _ nx = w3 at *
                    replace BB := below_next BB (Nat.le_refl _) b3
                    replace ho := Lib.hid (ho.out.below b3)
                    replace hT := Lib.hid (hT.out.below b3)
                    clear p0 p1 p2 p3 p4 x0 x1 x2 x3 x4 d1 d2 d3
                    go_wp2_with fail
                    go_roundw
                    case rel => exact ⟨j + 1, s, q, _, _, _, _, by omega, by go_num, rfl, hL, hgk, hT, ho, hnew, BB⟩
                    case measure => simp [intOf]; omega
                · have hnew := Lib.hid (hQ.out.skip (fun _ => by omega))
                  have q2' : decide (nth s j < 0) = false := decide_eq_false q2
                  clear q2
                  generalize nth s i = si at *
                  generalize nth s j = sj at *
                  go_wp2_with fail
                  go_quiet (fail)
                  go_wp2_with fail
                  clear d1 d2 d3
                  go_roundw
                  case rel => exact ⟨j + 1, s, q, _, _, _, _, by omega, by go_num, rfl, hL, hgk, Lib.hid (hT.out.below (below_of_drewN (Below.refl _ _) _)), Lib.hid (ho.out.drewN _), hnew, below_of_drewN BB _⟩
                  case measure => simp [intOf]; omega
              · obtain rfl : j = k := by omega
                have hO2 := Lib.hid (show OutQ (adjB ps l) j a s q from .inl ⟨i, hQ.out⟩)
                go_wp2_with fail
                go_roundg (2 * unmarked s + L)
                case rel => exact ⟨s, q, _, _, _, _, rfl, hL, Nat.le_refl _, by omega, hT, ho, hO2, BB⟩
                case measure => omega
end Go.Proofs.Ythnilifepiihjaa
