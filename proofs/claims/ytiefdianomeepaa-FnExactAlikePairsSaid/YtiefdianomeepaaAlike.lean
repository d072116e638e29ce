/-
  AlikePairs of both packages.
  Conditions: each lemma names its own.
-/
import Derived.Test.YtiefdianomeepaaRes
import Derived.Test.YtiefdianomeepaaPersLik
import Derived.Test.YtiefdianomeepaaJoinB
namespace Go.Proofs.Ytiefdianomeepaa
open Go.RowKit
set_option linter.unusedVariables false

theorem info_sl : (Try.prog.info? 64).map (fun i => (i.zero, i.size, i.bytes)) = some (some (.slice none 0 0), 1, 24) := by kernel_rfl
theorem single_atV (w : World) (x : Value) (e : TypeId) : ∀ j u, [x][j]? = some u → (w.alloc (.cells #[x] e)).cell? ((⟨w.heap.size, 0, none⟩ : Addr).add j) = some u := by
  intro j u hj
  match j, hj with
  | 0, hj =>
    have hg := heap_alloc_new w (.cells #[x] e)
    rw [Addr.add_lit, cell_of_row _ _ _ _ _ _ hg]
    simpa using hj
theorem Tab.blocks {base : Nat} {v : Value} {xss : List (List Int)} {w : World} (h : Tab base v xss w) : ∃ vs : List Value, w.ownsRow base 64 1 v xss.length vs ∧ (∀ (i : Nat) (u : Value) (xs : List Int), vs[i]? = some u → xss[i]? = some xs → OwnI base u xs w) ∧
    (∀ (i j : Nat) (u u' : Value) (g : Nat), i ≠ j → vs[i]? = some u → vs[j]? = some u' → u.ownBlock = some g → u'.ownBlock ≠ some g) ∧ (∀ (i : Nat) (u : Value) (g : Nat), vs[i]? = some u → u.ownBlock = some g → v.ownBlock ≠ some g) ∧
    (∀ (i : Nat) (u : Value) (g : Nat), vs[i]? = some u → u.ownBlock = some g → g < w.heap.size) ∧ (∀ g, v.ownBlock = some g → g < w.heap.size) := by
  obtain ⟨vs, h1, h2, h3, h4⟩ := h
  refine ⟨vs, h1, h2, h3, h4, fun i u g hu hg => ?_, fun g hg => (World.ownsRow.lt h1 g hg).2⟩
  have hl : i < xss.length := by have := h1.1; have := (List.getElem?_eq_some_iff.1 hu).1; omega
  exact (World.ownsRow.lt (h2 i u _ hu (List.getElem?_eq_getElem hl)) g hg).2

theorem ints_nil (w : World) : Ints w (.slice none 0 0) [] := ⟨by simp, none, 0, rfl, Nat.le_refl _, Nat.zero_le _, fun _ => rfl, fun h => absurd h (by simp)⟩
theorem Tab.mono {base base' : Nat} {v : Value} {L : List (List Int)} {w : World} (h : Tab base v L w) (hb : base' ≤ base) : Tab base' v L w := by
  obtain ⟨vs, h1, h2, h3, h4⟩ := h
  exact ⟨vs, own_mono h1 hb, fun i u xs hu hx => own_mono (h2 i u xs hu hx) hb, h3, h4⟩
theorem own_lit2 (w : World) (d d2 : Int) : OwnI w.heap.size (.slice (some ⟨w.heap.size, 0, none⟩) 2 2) [d, d2] (w.alloc (.cells #[.int .i64 d, .int .i64 d2] 2)) :=
  World.ownsRow_lit w #[.int .i64 d, .int .i64 d2] 2 (Nat.le_refl _) (by decide) rfl

theorem PerAt.kept {w w' : World} {b : Nat} {p : Per} {row : Option Nat} (h : PerAt w b p) (hg : w.grownBy w' row) (hne : row ≠ some b) : PerAt w' b p := by
  obtain ⟨h0, h1, h2, h3, h4, h5⟩ := h
  exact ⟨Nat.lt_of_lt_of_le h0 hg.size, hg.cell h1 hne.symm, hg.cell h2 hne.symm, hg.cell h3 hne.symm, hg.cell h4 hne.symm, hg.cell h5 hne.symm⟩
def alB (ps : List Per) (l : Int) (i k : Nat) : Bool := decide (l ≤ lik (ps.getD i perZ) (ps.getD k perZ))
theorem alB_at {ps : List Per} {l : Int} {i k : Nat} {p q : Per} (hp : ps[i]? = some p) (hq : ps[k]? = some q) : alB ps l i k = decide (l ≤ lik p q) := by
  unfold alB; rw [getD_per hp, getD_per hq]
/-- The pairs of i with those from i + 1 on, below k. -/
def prow (al : Nat → Nat → Bool) (i k : Nat) : List (List Int) := ((List.range k).filter fun j => decide (i < j) && al i j).map fun j : Nat => [(i : Int), (j : Int)]
def prs (al : Nat → Nat → Bool) (n : Nat) : Nat → List (List Int)
  | 0 => []
  | i + 1 => prs al n i ++ prow al i n
theorem prow_yes {al : Nat → Nat → Bool} {i k : Nat} (h : i < k) (q : al i k = true) : prow al i (k + 1) = prow al i k ++ [[(i : Int), (k : Int)]] := by
  unfold prow
  rw [List.range_succ, List.filter_append, List.map_append]
  congr 1
  rw [List.filter_cons, if_pos (by simp [h, q]), List.filter_nil]
  rfl
theorem prow_no {al : Nat → Nat → Bool} {i k : Nat} (q : al i k = false) : prow al i (k + 1) = prow al i k := by
  unfold prow
  rw [List.range_succ, List.filter_append, List.map_append, List.filter_cons, if_neg (by simp [q]), List.filter_nil, List.map_nil, List.append_nil]
theorem prow_nil (al : Nat → Nat → Bool) (i : Nat) : prow al i (i + 1) = [] := by
  unfold prow
  rw [List.filter_eq_nil_iff.2 (fun j hj => by have := List.mem_range.1 hj; simp; omega)]
  rfl
theorem prow_len (al : Nat → Nat → Bool) (i k : Nat) : (prow al i k).length ≤ k := by
  unfold prow
  rw [List.length_map]
  exact Nat.le_trans (List.length_filter_le _ _) (by rw [List.length_range]; exact Nat.le_refl _)
theorem prow_tot (al : Nat → Nat → Bool) (i k : Nat) : tot (prow al i k) ≤ 2 * k := by
  have h : ∀ xs : List Nat, tot (xs.map fun j : Nat => [(i : Int), (j : Int)]) = 2 * xs.length := by
    intro xs
    induction xs with
    | nil => rfl
    | cons x xs ih =>
      have : tot ((x :: xs).map fun j : Nat => [(i : Int), (j : Int)]) = 2 + tot (xs.map fun j : Nat => [(i : Int), (j : Int)]) := by simp [tot]
      rw [this, ih, List.length_cons]
      omega
  unfold prow
  rw [h]
  have := List.length_filter_le (fun j => decide (i < j) && al i j) (List.range k)
  rw [List.length_range] at this
  omega
theorem prs_len (al : Nat → Nat → Bool) (n : Nat) : ∀ i, (prs al n i).length ≤ i * n
  | 0 => by simp [prs]
  | i + 1 => by
    have := prs_len al n i
    have := prow_len al i n
    rw [prs, List.length_append, Nat.succ_mul]
    omega
theorem prs_tot (al : Nat → Nat → Bool) (n : Nat) : ∀ i, tot (prs al n i) ≤ i * (2 * n)
  | 0 => by simp [prs, tot]
  | i + 1 => by
    have := prs_tot al n i
    have := prow_tot al i n
    have e : tot (prs al n (i + 1)) = tot (prs al n i) + tot (prow al i n) := by simp [prs, tot]
    rw [e, Nat.succ_mul]
    omega
theorem prs_room {al : Nat → Nat → Bool} {n i k : Nat} (hn : n ≤ 12) (hi : i < n) (hk : k ≤ n) : (prs al n i ++ prow al i k).length ≤ 200 := by
  have h1 := prs_len al n i
  have h2 := prow_len al i k
  have h3 : i * n ≤ 12 * 12 := Nat.mul_le_mul (by omega) hn
  rw [List.length_append]
  omega
def apI (ps : List Per) (l : Int) : List (List Int) := if jcode ps l [] = 0 then prs (alB ps l) ps.length ps.length else []
theorem apI_cnt (ps : List Per) (l : Int) : SS_cnt (apI ps l) ≤ 1000000 := by
  unfold apI SS_cnt
  by_cases q : jcode ps l [] = 0
  · rw [if_pos q]
    have h := persB_len (jcode_ok.1 q).1
    have h1 := prs_tot (alB ps l) ps.length ps.length
    have h3 : ps.length * (2 * ps.length) ≤ 12 * 24 := Nat.mul_le_mul h (by omega)
    omega
  · rw [if_neg q]
    simp [tot]

set_option maxRecDepth 100000 in
set_option maxHeartbeats 4000000 in
theorem spec_Alike {v : Value} {ps : List Per} {w : World} (h : Persons w v ps) (hp : PersFit ps) (l : Int) :
    Calls Try.prog 19 #[v, .int .i64 l] w fun e w' => ∃ u, e = .returned (.tuple #[u, .int .i64 (jcode ps l [])]) ∧ Tab w.heap.size u (apI ps l) w' ∧ Below w.heap.size w w' := by
  have HC := spec_l05Limit h hp l
  obtain ⟨i0, hi, hz0, hz1, hz2⟩ := info_parts info_sl
  obtain ⟨aa, n, c, rfl, H⟩ := h.parts
  have hlen := Lib.hid H.len
  have hcap := H.cap
  have hmost := H.most
  unfold maxLen at hmost
  have HP := Lib.hid h
  have FF := Lib.hid hp
  clear H h hp
  by_cases q : jcode ps l [] = 0
  · obtain ⟨hB, _, _⟩ := jcode_ok.1 q
    have R1 : Hid (apI ps l = prs (alB ps l) n n) := Lib.hid (by unfold apI; rw [if_pos q, hlen.out])
    have hn12 : n ≤ 12 := by have := persB_len hB; have := hlen.out; omega
    have VB := Lib.hid (fun k q hx => persB_born hB (k := k) (q := q) hx)
    rw [q] at HC ⊢
    rw [R1.out]
    replace HC := Lib.hid HC
    clear q hB R1
    go_enter Try.func19, Try.ntmps19
    go_wp2_with fail
    refine HC.out.mono ?_
    rintro e w1 ⟨rfl, BB⟩
    clear HC
    have hT : Hid (Tab w.heap.size (.slice (some ⟨w1.heap.size, 0, none⟩) 0 0) (prs (alB ps l) n 0) (w1.alloc (.cells #[] 64))) := Lib.hid ((tab_new (Nat.le_refl _)).mono BB.size)
    replace BB := BB.alloc BB.size (.cells #[] 64)
    go_wp2_with fail
    go_loopw [7, 8] (fun u i wr => ∃ k : Nat, k ≤ n ∧ i = .int .i64 k ∧ Hid (Tab w.heap.size u (prs (alB ps l) n k) wr) ∧ Below w.heap.size w wr) (fun _ i _ => n - (intOf i).toNat)
    case atStart => exact ⟨0, Nat.zero_le _, rfl, hT, BB⟩
    case round =>
      clear hT BB
      obtain ⟨k, hk, rfl, hT, BB⟩ := hrel
      rename_i wr
      by_cases hlt : k < n
      · have hX := per_at (ps := ps) (k := k) (by have := hlen.out; omega)
        obtain ⟨p, hx⟩ := hX
        have fp := Lib.hid (FF.out.at_ hx)
        have bp := Lib.hid (VB.out k p hx)
        have HX := Lib.hid hx
        clear hx
        obtain ⟨b, o, rfl⟩ := HP.out.form.2.2.2 (by omega)
        have hT0 := hT
        rw [← List.append_nil (prs (alB ps l) n k), ← prow_nil (alB ps l) k] at hT0
        clear hT
        go_wp2_with fail
        go_loopw [7, 9] (fun u i wr => ∃ j : Nat, k + 1 ≤ j ∧ j ≤ n ∧ i = .int .i64 j ∧ Hid (Tab w.heap.size u (prs (alB ps l) n k ++ prow (alB ps l) k j) wr) ∧ Below w.heap.size w wr) (fun _ i _ => n - (intOf i).toNat)
        case atStart => exact ⟨k + 1, Nat.le_refl _, by omega, by go_num, hT0, BB⟩
        case round =>
          obtain ⟨j, hkj, hj, rfl, hT, BR⟩ := hrel
          rename_i wr
          clear hT0
          by_cases hjk : j < n
          · have hY := per_at (ps := ps) (k := j) (by have := hlen.out; omega)
            obtain ⟨q, hy⟩ := hY
            have fq := Lib.hid (FF.out.at_ hy)
            have bq := Lib.hid (VB.out j q hy)
            have hal := alB_at (l := l) HX.out hy
            obtain ⟨_, c0, c1, c2, c3, c4⟩ := (HP.out.below BR).at_ HX.out
            obtain ⟨hbb, d0, d1, d2, d3, d4⟩ := (HP.out.below BR).at_ hy
            have hlik := Lib.hid (fun w => spec_lik_l p q fp.out fq.out bp.out bq.out w)
            have hl := lik_bd p q
            clear hy
            have hroom := prs_room (al := alB ps l) (i := k) (k := j) hn12 hlt hj
            by_cases qq : l ≤ lik p q
            · have hyes := Lib.hid (prow_yes (al := alB ps l) (i := k) (k := j) (by omega) (by rw [hal]; exact decide_eq_true qq))
              clear hal
              generalize lik p q = x at *
              go_wp2_with fail
              refine region_ext (by kernel_rfl) (by kernel_rfl) ?_
              repeat (go_big_quiet_step ((with_reducible_and_instances exact ext_call (hlik.out _))))
              refine wpQuiet_nil ?_
              rintro _ ⟨nx, rfl⟩
              have b3 := ext_below _ nx
              generalize extW _ nx = w3 at *
              replace BR := below_next BR (Nat.le_refl _) b3
              replace hT := Lib.hid (hT.out.below b3)
              clear c0 c1 c2 c3 c4 d0 d1 d2 d3 d4 b3 hbb
              have hsz := BR.size
              obtain ⟨vs, t1, t2, t3, t4, t5, t6⟩ := hT.out.blocks
              have b4 : Below w3.heap.size w3 (w3.alloc (.cells #[.int .i64 (k : Int), .int .i64 (j : Int)] 2)) := (Below.refl _ _).alloc (Nat.le_refl _) _
              have hu := Lib.hid (own_lit2 w3 k j)
              have BR2 := below_next BR (Nat.le_refl _) b4
              have t1' := own_below t1 b4
              have t2' : ∀ (i : Nat) (u : Value) (xs : List Int), vs[i]? = some u → (prs (alB ps l) n k ++ prow (alB ps l) k j)[i]? = some xs → OwnI w.heap.size u xs (w3.alloc (.cells #[.int .i64 (k : Int), .int .i64 (j : Int)] 2)) := fun i u xs h1 h2 => (t2 i u xs h1 h2).below b4
              replace t2' := Lib.hid t2'
              replace t3 := Lib.hid t3
              replace t4 := Lib.hid t4
              replace t5 := Lib.hid t5
              replace t6 := Lib.hid t6
              clear t2 t1 hT
              generalize hM : prs (alB ps l) n k ++ prow (alB ps l) k j = M at *
              replace hM := Lib.hid hM
              go_wp2_with (at_builtin; refine wpList_append_own_at _ rfl _ _ 39 rfl w.heap.size 64 i0 (.slice none 0 0) 1 24 Try.underlying39 hi hz0 hz1 hz2 rfl (by decide) _ _ _ rfl (World.ownsRow.alloc t1' _) ⟨w3.heap.size + 1, 0, none⟩ 1 1 [.slice (some ⟨w3.heap.size, 0, none⟩) 2 2] rfl rfl ?c1 ?c2 ?c3 ?c4 ?c5 ?_)
              case c1 =>
                have e : (w3.alloc (.cells #[.int .i64 (k : Int), .int .i64 (j : Int)] 2)).heap.size = w3.heap.size + 1 := by simp
                rw [← e]
                exact single_atV _ _ _
              case c2 => intro u hu; simp at hu; subst hu; rfl
              case c3 => unfold maxLen; omega
              case c4 => omega
              case c5 => simp; omega
              intro v' w5 hown' hgrow _ hat
              have hT3 : Hid (Tab w.heap.size v' (prs (alB ps l) n k ++ prow (alB ps l) k (j + 1)) w5) := Lib.hid (by
                rw [hyes.out, ← List.append_assoc, hM.out]
                exact Tab.snoc (H := w3.heap.size) t1' t2'.out t3.out t4.out t5.out t6.out hu.out hsz b4.size hown' hgrow (by simpa using hat))
              have BR3 := below_append BR2 (by simp; omega) t1' hgrow
              clear hown' hgrow hat t1' t2' t3 t4 t5 t6 hu
              go_wp2_with fail
              go_roundw
              case rel => exact ⟨j + 1, by omega, by omega, by go_num, hT3, BR3⟩
              case measure => simp [intOf]; omega
            · have hno := prow_no (al := alB ps l) (i := k) (k := j) (by rw [hal]; exact decide_eq_false qq)
              rw [← hno] at hT
              replace qq : lik p q < l := by omega
              clear hal hno
              generalize lik p q = x at *
              go_wp2_with fail
              refine region_ext (by kernel_rfl) (by kernel_rfl) ?_
              repeat (go_big_quiet_step ((with_reducible_and_instances exact ext_call (hlik.out _))))
              refine wpQuiet_nil ?_
              rintro _ ⟨nx, rfl⟩
              have b3 := ext_below _ nx
              generalize extW _ nx = w3 at *
              replace BR := below_next BR (Nat.le_refl _) b3
              replace hT := Lib.hid (hT.out.below b3)
              clear c0 c1 c2 c3 c4 d0 d1 d2 d3 d4 b3 hbb
              go_wp2_with fail
              go_roundw
              case rel => exact ⟨j + 1, by omega, by omega, by go_num, hT, BR⟩
              case measure => simp [intOf]; omega
          · obtain rfl : j = n := by omega
            have hT2 : Hid (Tab w.heap.size _ (prs (alB ps l) j (k + 1)) _) := hT
            clear hT
            go_wp2_with fail
            go_roundw
            case rel => exact ⟨k + 1, by omega, by go_num, hT2, BR⟩
            case measure => simp [intOf]; omega
      · obtain rfl : k = n := by omega
        clear hlt
        go_wp2_with fail
        go_ret2
        exact ⟨_, rfl, hT.out, BB⟩
  · have R1 : Hid (apI ps l = []) := Lib.hid (by unfold apI; rw [if_neg q])
    have q1 : (jcode ps l [] != 0) = true := by simpa using q
    rw [R1.out]
    replace HC := Lib.hid HC
    clear q R1
    generalize jcode ps l [] = cc at *
    go_enter Try.func19, Try.ntmps19
    go_wp2_with fail
    refine HC.out.mono ?_
    rintro e w1 ⟨rfl, b1⟩
    go_wp2_with fail
    go_ret2
    exact ⟨_, rfl, tab_nil _ _, b1⟩
set_option maxRecDepth 100000 in
set_option maxHeartbeats 4000000 in
theorem impl_Alike {v : Value} {ps : List Per} {w : World} (h : Persons w v ps) (hp : PersFit ps) (l : Int) :
    Calls Try.prog 20 #[v, .int .i64 l] w fun e w' => ∃ u, e = .returned (.tuple #[u, .int .i64 (jcode ps l [])]) ∧ Tab w.heap.size u (apI ps l) w' ∧ Below w.heap.size w w' := by
  have HC := impl_joinCode h hp (ints_nil w) l
  obtain ⟨i0, hi, hz0, hz1, hz2⟩ := info_parts info_sl
  obtain ⟨aa, n, c, rfl, H⟩ := h.parts
  have hlen := Lib.hid H.len
  have hcap := H.cap
  have hmost := H.most
  unfold maxLen at hmost
  have HP := Lib.hid h
  have FF := Lib.hid hp
  clear H h hp
  by_cases q : jcode ps l [] = 0
  · obtain ⟨hB, _, _⟩ := jcode_ok.1 q
    have R1 : Hid (apI ps l = prs (alB ps l) n n) := Lib.hid (by unfold apI; rw [if_pos q, hlen.out])
    have hn12 : n ≤ 12 := by have := persB_len hB; have := hlen.out; omega
    have VB := Lib.hid (fun k q hx => persB_born hB (k := k) (q := q) hx)
    rw [q] at HC ⊢
    rw [R1.out]
    replace HC := Lib.hid HC
    clear q hB R1
    go_enter Try.func20, Try.ntmps20
    go_wp2_with fail
    refine HC.out.mono ?_
    rintro e w1 ⟨rfl, BB⟩
    clear HC
    have hT : Hid (Tab w.heap.size (.slice (some ⟨w1.heap.size, 0, none⟩) 0 0) (prs (alB ps l) n 0) (w1.alloc (.cells #[] 64))) := Lib.hid ((tab_new (Nat.le_refl _)).mono BB.size)
    replace BB := BB.alloc BB.size (.cells #[] 64)
    go_wp2_with fail
    go_loopw [7, 20] (fun u i wr => ∃ k : Nat, k ≤ n ∧ i = .int .i64 k ∧ Hid (Tab w.heap.size u (prs (alB ps l) n k) wr) ∧ Below w.heap.size w wr) (fun _ i _ => n - (intOf i).toNat)
    case atStart => exact ⟨0, Nat.zero_le _, rfl, hT, BB⟩
    case round =>
      clear hT BB
      obtain ⟨k, hk, rfl, hT, BB⟩ := hrel
      rename_i wr
      by_cases hlt : k < n
      · have hX := per_at (ps := ps) (k := k) (by have := hlen.out; omega)
        obtain ⟨p, hx⟩ := hX
        have fp := Lib.hid (FF.out.at_ hx)
        have bp := Lib.hid (VB.out k p hx)
        have HX := Lib.hid hx
        clear hx
        obtain ⟨wo, rfl⟩ : ∃ wo : World, wo = wr := ⟨_, rfl⟩
        obtain ⟨b, o, rfl⟩ := HP.out.form.2.2.2 (by omega)
        obtain ⟨_, c0, c1, c2, c3, c4⟩ := (HP.out.below BB).at_ HX.out
        go_wp2_with fail
        clear c0 c1 c2 c3 c4
        have PN := perAt_new wo p 34
        have BN : Below w.heap.size w (wo.alloc (.cells #[.int .i64 p.number, .string p.first, .string p.last, .int .i64 p.born, .int .i64 p.zone] 34)) := BB.alloc BB.size _
        have hT0 : Hid (Tab w.heap.size _ (prs (alB ps l) n k ++ prow (alB ps l) k (k + 1)) (wo.alloc (.cells #[.int .i64 p.number, .string p.first, .string p.last, .int .i64 p.born, .int .i64 p.zone] 34))) := Lib.hid (by
          rw [prow_nil, List.append_nil]
          exact hT.out.below ((Below.refl _ _).alloc (Nat.le_refl _) _))
        have hne0 := fun e => Nat.lt_irrefl _ (hT.out.blocks.choose_spec.2.2.2.2.2 _ e)
        clear hT BB
        go_loopw [7, 10] (fun u i wr => ∃ j : Nat, k + 1 ≤ j ∧ j ≤ n ∧ i = .int .i64 j ∧ Hid (Tab w.heap.size u (prs (alB ps l) n k ++ prow (alB ps l) k j) wr) ∧ Below w.heap.size w wr ∧ PerAt wr wo.heap.size p ∧ u.ownBlock ≠ some wo.heap.size) (fun _ i _ => n - (intOf i).toNat)
        case atStart => exact ⟨k + 1, Nat.le_refl _, by omega, by go_num, hT0, BN, PN, hne0⟩
        case round =>
          obtain ⟨j, hkj, hj, rfl, hT, BR, PR, hne⟩ := hrel
          rename_i wr
          clear hT0
          by_cases hjk : j < n
          · have hY := per_at (ps := ps) (k := j) (by have := hlen.out; omega)
            obtain ⟨q, hy⟩ := hY
            have fq := Lib.hid (FF.out.at_ hy)
            have bq := Lib.hid (VB.out j q hy)
            have hal := alB_at (l := l) HX.out hy
            obtain ⟨c0, c1, c2, c3, c4, c5⟩ := id PR
            obtain ⟨hbb, d0, d1, d2, d3, d4⟩ := (HP.out.below BR).at_ hy
            have hlik := Lib.hid (fun w => impl_lik_l p q fp.out fq.out bp.out bq.out w)
            have hl := lik_bd p q
            clear hy
            have hroom := prs_room (al := alB ps l) (i := k) (k := j) hn12 hlt hj
            by_cases qq : l ≤ lik p q
            · have hyes := Lib.hid (prow_yes (al := alB ps l) (i := k) (k := j) (by omega) (by rw [hal]; exact decide_eq_true qq))
              clear hal
              generalize lik p q = x at *
              go_wp2_with fail
              refine region_ext (by kernel_rfl) (by kernel_rfl) ?_
              repeat (go_big_quiet_step ((with_reducible_and_instances exact ext_call (hlik.out _))))
              refine wpQuiet_nil ?_
              rintro _ ⟨nx, rfl⟩
              have b3 := ext_below _ nx
              generalize extW _ nx = w3 at *
              replace BR := below_next BR (Nat.le_refl _) b3
              replace hT := Lib.hid (hT.out.below b3)
              replace PR := PR.below b3
              clear c0 c1 c2 c3 c4 c5 d0 d1 d2 d3 d4 b3 hbb
              have hsz := BR.size
              obtain ⟨vs, t1, t2, t3, t4, t5, t6⟩ := hT.out.blocks
              have b4 : Below w3.heap.size w3 (w3.alloc (.cells #[.int .i64 (k : Int), .int .i64 (j : Int)] 2)) := (Below.refl _ _).alloc (Nat.le_refl _) _
              have hu := Lib.hid (own_lit2 w3 k j)
              have BR2 := below_next BR (Nat.le_refl _) b4
              have PR2 := PR.below b4
              have t1' := own_below t1 b4
              have t2' : ∀ (i : Nat) (u : Value) (xs : List Int), vs[i]? = some u → (prs (alB ps l) n k ++ prow (alB ps l) k j)[i]? = some xs → OwnI w.heap.size u xs (w3.alloc (.cells #[.int .i64 (k : Int), .int .i64 (j : Int)] 2)) := fun i u xs h1 h2 => (t2 i u xs h1 h2).below b4
              replace t2' := Lib.hid t2'
              replace t3 := Lib.hid t3
              replace t4 := Lib.hid t4
              replace t5 := Lib.hid t5
              replace t6 := Lib.hid t6
              clear t2 t1 hT
              generalize hM : prs (alB ps l) n k ++ prow (alB ps l) k j = M at *
              replace hM := Lib.hid hM
              go_wp2_with (at_builtin; refine wpList_append_own_at _ rfl _ _ 39 rfl w.heap.size 64 i0 (.slice none 0 0) 1 24 Try.underlying39 hi hz0 hz1 hz2 rfl (by decide) _ _ _ rfl (World.ownsRow.alloc t1' _) ⟨w3.heap.size + 1, 0, none⟩ 1 1 [.slice (some ⟨w3.heap.size, 0, none⟩) 2 2] rfl rfl ?c1 ?c2 ?c3 ?c4 ?c5 ?_)
              case c1 =>
                have e : (w3.alloc (.cells #[.int .i64 (k : Int), .int .i64 (j : Int)] 2)).heap.size = w3.heap.size + 1 := by simp
                rw [← e]
                exact single_atV _ _ _
              case c2 => intro u hu; simp at hu; subst hu; rfl
              case c3 => unfold maxLen; omega
              case c4 => omega
              case c5 => simp; omega
              intro v' w5 hown' hgrow _ hat
              have hT3 : Hid (Tab w.heap.size v' (prs (alB ps l) n k ++ prow (alB ps l) k (j + 1)) w5) := Lib.hid (by
                rw [hyes.out, ← List.append_assoc, hM.out]
                exact Tab.snoc (H := w3.heap.size) t1' t2'.out t3.out t4.out t5.out t6.out hu.out hsz b4.size hown' hgrow (by simpa using hat))
              have BR3 := below_append BR2 (by simp; omega) t1' hgrow
              have hw3 := PR.1
              replace PR2 := (PR2.alloc _).kept hgrow hne
              have hne2 : v'.ownBlock ≠ some wo.heap.size := by
                rcases hat with h | h
                · rw [h]; exact hne
                · rw [h]; intro e; injection e with e; first | omega | (simp at e; omega)
              clear hown' hgrow hat t1' t2' t3 t4 t5 t6 hu
              go_wp2_with fail
              go_roundw
              case rel => exact ⟨j + 1, by omega, by omega, by go_num, hT3, BR3, PR2, hne2⟩
              case measure => simp [intOf]; omega
            · have hno := prow_no (al := alB ps l) (i := k) (k := j) (by rw [hal]; exact decide_eq_false qq)
              rw [← hno] at hT
              replace qq : lik p q < l := by omega
              clear hal hno
              generalize lik p q = x at *
              go_wp2_with fail
              refine region_ext (by kernel_rfl) (by kernel_rfl) ?_
              repeat (go_big_quiet_step ((with_reducible_and_instances exact ext_call (hlik.out _))))
              refine wpQuiet_nil ?_
              rintro _ ⟨nx, rfl⟩
              have b3 := ext_below _ nx
              generalize extW _ nx = w3 at *
              replace BR := below_next BR (Nat.le_refl _) b3
              replace hT := Lib.hid (hT.out.below b3)
              replace PR := PR.below b3
              clear c0 c1 c2 c3 c4 c5 d0 d1 d2 d3 d4 b3 hbb
              go_wp2_with fail
              go_roundw
              case rel => exact ⟨j + 1, by omega, by omega, by go_num, hT, BR, PR, hne⟩
              case measure => simp [intOf]; omega
          · obtain rfl : j = n := by omega
            have hT2 : Hid (Tab w.heap.size _ (prs (alB ps l) j (k + 1)) _) := hT
            clear hT
            go_wp2_with fail
            go_roundw
            case rel => exact ⟨k + 1, by omega, by go_num, hT2, BR⟩
            case measure => simp [intOf]; omega
      · obtain rfl : k = n := by omega
        clear hlt
        go_wp2_with fail
        go_ret2
        exact ⟨_, rfl, hT.out, BB⟩
  · have R1 : Hid (apI ps l = []) := Lib.hid (by unfold apI; rw [if_neg q])
    have q1 : (jcode ps l [] != 0) = true := by simpa using q
    rw [R1.out]
    replace HC := Lib.hid HC
    clear q R1
    generalize jcode ps l [] = cc at *
    go_enter Try.func20, Try.ntmps20
    go_wp2_with fail
    refine HC.out.mono ?_
    rintro e w1 ⟨rfl, b1⟩
    go_wp2_with fail
    go_ret2
    exact ⟨_, rfl, tab_nil _ _, b1⟩
end Go.Proofs.Ytiefdianomeepaa
