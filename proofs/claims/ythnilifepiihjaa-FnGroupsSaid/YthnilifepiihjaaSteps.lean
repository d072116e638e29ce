/-
  The reference's numbers of steps of a chain: l05Steps.
  Conditions: each lemma names its own.
-/
import Derived.Test.YthnilifepiihjaaPersLik
import Derived.Test.YthnilifepiihjaaReach
import Derived.Test.YthnilifepiihjaaOwnI
namespace Go.Proofs.Ythnilifepiihjaa
open Go.RowKit
set_option linter.unusedVariables false

/-- Whether two persons of a list are alike. -/
def adjB (ps : List Per) (l : Int) (i k : Nat) : Bool := decide (l ≤ lik (ps.getD i perZ) (ps.getD k perZ))
theorem adjB_comm (ps : List Per) (l : Int) (i k : Nat) : adjB ps l i k = adjB ps l k i := by unfold adjB; rw [lik_comm]
theorem adjB_at {ps : List Per} {l : Int} {i k : Nat} {p q : Per} (hp : ps[i]? = some p) (hq : ps[k]? = some q) : adjB ps l i k = decide (l ≤ lik p q) := by
  unfold adjB; rw [getD_per hp, getD_per hq]
def negs (n : Nat) : List Int := List.replicate n (-1)
theorem negs_len (n : Nat) : (negs n).length = n := List.length_replicate
theorem negs_snoc (n : Nat) : (negs (n + 1)).map (Value.int .i64) = (negs n).map (Value.int .i64) ++ [.int .i64 (-1)] := by
  unfold negs; rw [List.replicate_succ', List.map_append]; rfl
set_option maxRecDepth 100000 in
set_option maxHeartbeats 8000000 in
theorem spec_steps {v : Value} {ps : List Per} {w : World} (h : Persons w v ps) (hp : PersFit ps) (hB : persB ps = true) (l : Int) (a : Nat) (ha : a < ps.length) :
    Calls Try.prog 83 #[v, .int .i64 l, .int .i64 (a : Int)] w fun e w' => ∃ u, e = .returned u ∧ OwnI w.heap.size u (stp (adjB ps l) ps.length a) w' ∧ Below w.heap.size w w' := by
  obtain ⟨i0, hi, hz0, hz1, hz2⟩ := info_parts info_i64
  obtain ⟨aa, n, c, rfl, H⟩ := h.parts
  have hlen := Lib.hid H.len
  have hcap := H.cap
  have hmost := H.most
  have hn12 : n ≤ 12 := by have := persB_len hB; have := H.len; omega
  have han : a < n := by have := H.len; omega
  unfold maxLen at hmost
  clear H
  have HP := Lib.hid h
  have FF := Lib.hid hp
  have VB := fun k q hx => persB_born hB (k := k) (q := q) hx
  replace VB := Lib.hid VB
  have HA := Lib.hid ha
  clear h hp hB ha
  have hown : OwnI w.heap.size (.slice (some ⟨w.heap.size, 0, none⟩) 0 0) [] (w.alloc (.cells #[] 2)) := World.ownsRow_lit w #[] 0 (Nat.le_refl _) (by decide) rfl
  have hb0 : Below w.heap.size w (w.alloc (.cells #[] 2)) := (Below.refl _ _).alloc (Nat.le_refl _) _
  replace hown := Lib.hid hown
  go_enter Try.func83, Try.ntmps83
  go_wp2_with fail
  go_loopw [7, 14] (fun u i wr => ∃ k : Nat, k ≤ n ∧ i = .int .i64 k ∧ Hid (OwnI w.heap.size u (negs k) wr) ∧ Below w.heap.size w wr) (fun _ i _ => n - (intOf i).toNat)
  case atStart => exact ⟨0, Nat.zero_le _, rfl, hown, hb0⟩
  case round =>
    clear hown hb0
    obtain ⟨k, hk, rfl, ho, BB⟩ := hrel
    have hsz := BB.size
    have ho := ho.out
    by_cases hlt : k < n
    · have hlr := Lib.hid (negs_len k)
      go_wp2_with (at_builtin; refine wpList_append_own _ rfl _ _ 22 rfl w.heap.size 2 i0 (.int .i64 0) 1 8 Try.underlying22 hi hz0 hz1 hz2 rfl (by decide) _ _ _ rfl (World.ownsRow.alloc ho _) ⟨wr.heap.size, 0, none⟩ 1 1 [.int .i64 (-1)] rfl rfl ?c1 ?c2 ?c3 ?c4 ?c5 ?_)
      case c1 => exact single_at _ _ _
      case c2 => intro u hu; simp at hu; subst hu; rfl
      case c3 => unfold maxLen; rw [hlr.out]; omega
      case c4 => rw [hlr.out]; omega
      case c5 => simp; omega
      intro v' w1 hown' hgrow _
      have hb' := below_append BB hsz ho hgrow
      have ho' : Hid (OwnI w.heap.size v' (negs (k + 1)) w1) := Lib.hid (by
        unfold OwnI
        rw [negs_snoc, negs_len]
        rw [hlr.out] at hown'
        exact hown')
      clear ho hgrow BB hown' hlr
      go_wp2_with fail
      go_roundw
      case rel => exact ⟨k + 1, by omega, by go_num, ho', hb'⟩
      case measure => simp [intOf]; omega
    · obtain rfl : k = n := by omega
      clear hlt
      obtain ⟨ao, co, rfl, hoc, hom, hof⟩ := own_form ho
      rw [negs_len] at hof hoc
      obtain ⟨g, rfl, hg1, _⟩ := hof (by omega)
      clear hof
      unfold maxLen at hom
      obtain ⟨c1, c2⟩ := ho.at_ (k := a) (by rw [negs_len]; exact han)
      have ho2 := ho.set a 0
      have BB2 := BB.setCell (p := ⟨g, a, none⟩) hg1 (.int .i64 0)
      have hR := rounds_start (adj := adjB ps l) han
      rw [negs_len] at ho2
      change Rounds (adjB ps l) k a 0 0 0 ((negs k).set a 0) at hR
      generalize (negs k).set a 0 = s at *
      replace hR := Lib.hid hR
      replace ho2 := Lib.hid ho2
      rw [negs_len]
      clear ho
      obtain ⟨b, o, hao⟩ := HP.out.form.2.2.2 (by omega)
      subst hao
      go_wp2_with fail
      clear c1 c2
      go_loopw [8] (fun i wr => ∃ (r : Nat) (s : List Int), r ≤ k ∧ i = .int .i64 r ∧ Hid (Rounds (adjB ps l) k a r 0 0 s) ∧ Hid (OwnI w.heap.size (.slice (some ⟨g, 0, none⟩) k co) s wr) ∧ Below w.heap.size w wr) (fun i _ => k - (intOf i).toNat)
      case atStart => exact ⟨0, s, Nat.zero_le _, rfl, hR, ho2, BB2⟩
      case round =>
        clear hR ho2 BB2 s BB
        obtain ⟨r, s, hr, rfl, hR, ho, BB⟩ := hrel
        by_cases hrk : r < k
        · obtain ⟨wo, rfl⟩ : ∃ wo : World, wo = wr := ⟨_, rfl⟩
          go_wp2_with fail
          go_loopw [9] (fun x wr => ∃ (i : Nat) (s : List Int), i ≤ k ∧ x = .int .i64 i ∧ Hid (Rounds (adjB ps l) k a r i 0 s) ∧ Hid (OwnI w.heap.size (.slice (some ⟨g, 0, none⟩) k co) s wr) ∧ Below w.heap.size w wr) (fun x _ => k - (intOf x).toNat)
          case atStart => exact ⟨0, s, Nat.zero_le _, rfl, hR, ho, BB⟩
          case round =>
            clear hR ho BB s
            obtain ⟨i, s, hi', rfl, hR, ho, BB⟩ := hrel
            by_cases hik : i < k
            · obtain ⟨wm, rfl⟩ : ∃ wm : World, wm = wr := ⟨_, rfl⟩
              go_wp2_with fail
              go_loopw [10] (fun x wr => ∃ (j : Nat) (s : List Int), j ≤ k ∧ x = .int .i64 j ∧ Hid (Rounds (adjB ps l) k a r i j s) ∧ Hid (OwnI w.heap.size (.slice (some ⟨g, 0, none⟩) k co) s wr) ∧ Below w.heap.size w wr) (fun x _ => k - (intOf x).toNat)
              case atStart => exact ⟨0, s, Nat.zero_le _, rfl, hR, ho, BB⟩
              case round =>
                clear hR ho BB s
                obtain ⟨j, s, hj', rfl, hR, ho, BB⟩ := hrel
                by_cases hjk : j < k
                · have hsl := Lib.hid hR.out.len
                  have hgl := (World.ownsRow.lt ho.out g rfl).2
                  obtain ⟨d1, _⟩ := ho.out.at_ (k := i) (by rw [hsl.out]; exact hik)
                  obtain ⟨d2, d3⟩ := ho.out.at_ (k := j) (by rw [hsl.out]; exact hjk)
                  by_cases q1 : nth s i = (r : Int)
                  · by_cases q2 : nth s j < 0
                    · have hij : i ≠ j := by rintro rfl; omega
                      have hX := per_at (ps := ps) (k := i) (by have := hlen.out; omega)
                      obtain ⟨p, hx⟩ := hX
                      have hY := per_at (ps := ps) (k := j) (by have := hlen.out; omega)
                      obtain ⟨q, hy⟩ := hY
                      have ha := adjB_at (l := l) hx hy
                      have fp := Lib.hid (FF.out.at_ hx)
                      have fq := Lib.hid (FF.out.at_ hy)
                      have bp := Lib.hid (VB.out i p hx)
                      have bq := Lib.hid (VB.out j q hy)
                      obtain ⟨_, p0, p1, p2, p3, p4⟩ := (HP.out.below BB).at_ hx
                      obtain ⟨_, x0, x1, x2, x3, x4⟩ := (HP.out.below BB).at_ hy
                      have hlik := Lib.hid (fun w => spec_lik_l p q fp.out fq.out bp.out bq.out w)
                      generalize lik p q = lk at *
                      clear hx hy
                      have q1' : (nth s i == (r : Int)) = true := by simpa using q1
                      have Q1 := Lib.hid q1
                      have Q2 := Lib.hid q2
                      generalize hni : nth s i = si at *
                      generalize hnj : nth s j = sj at *
                      replace hni := Lib.hid hni
                      replace hnj := Lib.hid hnj
                      clear q1
                      by_cases q3 : l ≤ lk
                      · have HA2 : Hid (adjB ps l i j = true) := Lib.hid (by rw [ha]; exact decide_eq_true q3)
                        clear ha
                        have hnew := Lib.hid (hR.out.set hik hjk (by rw [hni.out, Q1.out]) (by rw [hnj.out]; exact Q2.out) HA2.out)
                        go_wp2_with fail
                        refine region_ext (by kernel_rfl) (by kernel_rfl) ?_
                        repeat (go_big_quiet_step ((with_reducible_and_instances exact ext_call (hlik.out _))))
                        refine wpQuiet_nil ?_
                        rintro _ ⟨nx, rfl⟩
                        have b3 := ext_below _ nx
                        generalize extW _ nx = w3 at *
                        replace BB := below_next BB (Nat.le_refl _) b3
                        replace ho := Lib.hid (ho.out.below b3)
                        clear p0 p1 p2 p3 p4 x0 x1 x2 x3 x4 d1 d2 d3
                        obtain ⟨_, d3⟩ := ho.out.at_ (k := j) (by rw [hsl.out]; exact hjk)
                        obtain ⟨d2, _⟩ := ho.out.at_ (k := j) (by rw [hsl.out]; exact hjk)
                        have ho3 := Lib.hid (ho.out.set j ((r : Int) + 1))
                        have BB3 := BB.setCell (p := ⟨g, j, none⟩) hg1 (.int .i64 ((r : Int) + 1))
                        clear ho BB
                        go_wp2_with fail
                        clear d2 d3
                        go_roundw
                        case rel => exact ⟨j + 1, _, by omega, by go_num, hnew, ho3, BB3⟩
                        case measure => simp [intOf]; omega
                      · have q3' : lk < l := by omega
                        have HA2 : Hid (adjB ps l i j = false) := Lib.hid (by rw [ha]; exact decide_eq_false q3)
                        clear ha
                        have hnew := Lib.hid (hR.out.skip (fun _ h => by rw [HA2.out] at h; cases h))
                        go_wp2_with fail
                        refine region_ext (by kernel_rfl) (by kernel_rfl) ?_
                        repeat (go_big_quiet_step ((with_reducible_and_instances exact ext_call (hlik.out _))))
                        refine wpQuiet_nil ?_
                        rintro _ ⟨nx, rfl⟩
                        have b3 := ext_below _ nx
                        generalize extW _ nx = w3 at *
                        replace BB := below_next BB (Nat.le_refl _) b3
                        replace ho := Lib.hid (ho.out.below b3)
                        clear p0 p1 p2 p3 p4 x0 x1 x2 x3 x4 d1 d2 d3
                        go_wp2_with fail
                        go_roundw
                        case rel => exact ⟨j + 1, s, by omega, by go_num, hnew, ho, BB⟩
                        case measure => simp [intOf]; omega
                    · have hnew := Lib.hid (hR.out.skip (fun _ _ => by omega))
                      have q1' : (nth s i == (r : Int)) = true := by simpa using q1
                      have q2' : decide (nth s j < 0) = false := decide_eq_false (by omega)
                      clear q2 q1
                      generalize nth s i = si at *
                      generalize nth s j = sj at *
                      go_wp2_with fail
                      go_quiet (fail)
                      go_wp2_with fail
                      clear d1 d2 d3
                      go_roundw
                      case rel => exact ⟨j + 1, s, by omega, by go_num, hnew, Lib.hid (ho.out.drewN _), below_of_drewN BB _⟩
                      case measure => simp [intOf]; omega
                  · have hnew := Lib.hid (hR.out.skip (fun h _ => absurd h q1))
                    have q1' : (nth s i == (r : Int)) = false := by simpa using q1
                    clear q1
                    generalize nth s i = si at *
                    generalize nth s j = sj at *
                    go_wp2_with fail
                    go_quiet (fail)
                    go_wp2_with fail
                    clear d1 d2 d3
                    go_roundw
                    case rel => exact ⟨j + 1, s, by omega, by go_num, hnew, Lib.hid (ho.out.drewN _), below_of_drewN BB _⟩
                    case measure => simp [intOf]; omega
                · obtain rfl : j = k := by omega
                  have hnew := Lib.hid hR.out.row
                  go_wp2_with fail
                  go_roundw
                  case rel => exact ⟨i + 1, s, by omega, by go_num, hnew, ho, BB⟩
                  case measure => simp [intOf]; omega
            · obtain rfl : i = k := by omega
              have hnew := Lib.hid hR.out.round
              go_wp2_with fail
              go_roundw
              case rel => exact ⟨r + 1, s, by omega, by go_num, hnew, ho, BB⟩
              case measure => simp [intOf]; omega
        · obtain rfl : r = k := by omega
          have hs := Lib.hid hR.out.cert.is
          rw [hs.out] at ho
          have hpl := hlen.out
          go_wp2_with fail
          go_ret
          exact ⟨_, rfl, by rw [hpl]; exact ho.out, BB⟩
end Go.Proofs.Ythnilifepiihjaa
