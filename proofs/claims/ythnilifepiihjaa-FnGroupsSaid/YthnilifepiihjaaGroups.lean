/-
  All groups of persons: groups and l05Groups.
  Conditions: each lemma names its own.
-/
import Derived.Test.YthnilifepiihjaaGroup
import Derived.Test.YthnilifepiihjaaTab
namespace Go.Proofs.Ythnilifepiihjaa
open Go.RowKit
set_option linter.unusedVariables false

theorem info_sl : (Try.prog.info? 22).map (fun i => (i.zero, i.size, i.bytes)) = some (some (.slice none 0 0), 1, 24) := by kernel_rfl
theorem single_atV (w : World) (x : Value) (e : TypeId) : ∀ j u, [x][j]? = some u → (w.alloc (.cells #[x] e)).cell? ((⟨w.heap.size, 0, none⟩ : Addr).add j) = some u := by
  intro j u hj
  match j, hj with
  | 0, hj =>
    have hg := heap_alloc_new w (.cells #[x] e)
    rw [Addr.add_lit, cell_of_row _ _ _ _ _ _ hg]
    simpa using hj
/-- The groups whose keepers stand among the first k. -/
def grpsTo (adj : Nat → Nat → Bool) (n k : Nat) : List (List Int) := ((List.range k).filter fun a => kpr adj n a == a).map fun a => natI (grp adj n a)
theorem grpsTo_yes {adj : Nat → Nat → Bool} {n k : Nat} (h : kpr adj n k = k) : grpsTo adj n (k + 1) = grpsTo adj n k ++ [natI (grp adj n k)] := by
  unfold grpsTo
  rw [List.range_succ, List.filter_append, List.map_append]
  congr 1
  rw [List.filter_cons, if_pos (by simpa using h)]
  rfl
theorem grpsTo_no {adj : Nat → Nat → Bool} {n k : Nat} (h : ¬ kpr adj n k = k) : grpsTo adj n (k + 1) = grpsTo adj n k := by
  unfold grpsTo
  rw [List.range_succ, List.filter_append, List.map_append, List.filter_cons, if_neg (by simpa using h), List.filter_nil, List.map_nil, List.append_nil]
theorem grpsTo_len (adj : Nat → Nat → Bool) (n k : Nat) : (grpsTo adj n k).length ≤ k := by
  unfold grpsTo
  rw [List.length_map]
  exact Nat.le_trans (List.length_filter_le _ _) (by rw [List.length_range]; exact Nat.le_refl _)
def grpsL (adj : Nat → Nat → Bool) (n : Nat) : List (List Int) := (grps adj n).map natI
theorem grpsTo_all (adj : Nat → Nat → Bool) (n : Nat) : grpsTo adj n n = grpsL adj n := by
  unfold grpsTo grpsL grps kprs
  rw [List.map_map]
  rfl
theorem Tab.blocks {base : Nat} {v : Value} {xss : List (List Int)} {w : World} (h : Tab base v xss w) : ∃ vs : List Value, w.ownsRow base 22 1 v xss.length vs ∧ (∀ (i : Nat) (u : Value) (xs : List Int), vs[i]? = some u → xss[i]? = some xs → OwnI base u xs w) ∧
    (∀ (i j : Nat) (u u' : Value) (g : Nat), i ≠ j → vs[i]? = some u → vs[j]? = some u' → u.ownBlock = some g → u'.ownBlock ≠ some g) ∧ (∀ (i : Nat) (u : Value) (g : Nat), vs[i]? = some u → u.ownBlock = some g → v.ownBlock ≠ some g) ∧
    (∀ (i : Nat) (u : Value) (g : Nat), vs[i]? = some u → u.ownBlock = some g → g < w.heap.size) ∧ (∀ g, v.ownBlock = some g → g < w.heap.size) := by
  obtain ⟨vs, h1, h2, h3, h4⟩ := h
  refine ⟨vs, h1, h2, h3, h4, fun i u g hu hg => ?_, fun g hg => (World.ownsRow.lt h1 g hg).2⟩
  have hl : i < xss.length := by have := h1.1; have := (List.getElem?_eq_some_iff.1 hu).1; omega
  exact (World.ownsRow.lt (h2 i u _ hu (List.getElem?_eq_getElem hl)) g hg).2

set_option maxRecDepth 100000 in
set_option maxHeartbeats 4000000 in
theorem impl_groups {v : Value} {ps : List Per} {w : World} (h : Persons w v ps) (hp : PersFit ps) (hB : persB ps = true) (l : Int) :
    Calls Try.prog 87 #[v, .int .i64 l] w fun e w' => ∃ u, e = .returned u ∧ Tab w.heap.size u (grpsL (adjB ps l) ps.length) w' ∧ Below w.heap.size w w' := by
  obtain ⟨i0, hi, hz0, hz1, hz2⟩ := info_parts info_sl
  have hn12 : ps.length ≤ 12 := persB_len hB
  have hT := tab_new (w := w) (Nat.le_refl _)
  have hb0 : Below w.heap.size w (w.alloc (.cells #[] 22)) := (Below.refl _ _).alloc (Nat.le_refl _) _
  have HG := fun (wr : World) (b : Below w.heap.size w wr) (a : Nat) (ha : a < ps.length) => impl_group (h.below b) hp hB l a ha
  obtain ⟨aa, n, c, rfl, H⟩ := h.parts
  have hlen := Lib.hid H.len
  have hcap := H.cap
  have hmost := H.most
  unfold maxLen at hmost
  clear H h hp hB
  generalize hn : ps.length = m at *
  obtain rfl : m = n := hlen.out
  replace hn := Lib.hid hn
  replace HG := Lib.hid HG
  replace hT := Lib.hid hT
  go_enter Try.func87, Try.ntmps87
  go_wp2_with fail
  go_loopw [5, 11] (fun u i wr => ∃ k : Nat, k ≤ m ∧ i = .int .i64 k ∧ Hid (Tab w.heap.size u (grpsTo (adjB ps l) m k) wr) ∧ Below w.heap.size w wr) (fun _ i _ => m - (intOf i).toNat)
  case atStart => exact ⟨0, Nat.zero_le _, rfl, hT, hb0⟩
  case round =>
    clear hT hb0
    obtain ⟨k, hk, rfl, hT, BB⟩ := hrel
    rename_i wr
    by_cases hlt : k < m
    · have hsz := BB.size
      go_wp2_with fail
      refine (HG.out _ BB k hlt).mono ?_
      rintro e w2 ⟨u, rfl, hu, b2⟩
      have BB2 := below_next BB (Nat.le_refl _) b2
      have hsz2 := BB2.size
      have hwr := b2.size
      obtain ⟨t, ht⟩ := grp_cons (adj := adjB ps l) hlt
      have hfirst : nth (natI (grp (adjB ps l) m k)) 0 = (kpr (adjB ps l) m k : Nat) := by rw [ht]; rfl
      have hpos : 0 < (natI (grp (adjB ps l) m k)).length := by rw [ht]; simp [natI]
      obtain ⟨aS, cS, rfl, hcS, hmS, hfS⟩ := own_form hu
      obtain ⟨gs, rfl, _, _⟩ := hfS (by omega)
      unfold maxLen at hmS
      have d0 := (OwnI.at_ hu (k := 0) hpos).1
      rw [hfirst] at d0
      have hgl := grpsTo_len (adjB ps l) m k
      obtain ⟨vs, t1, t2, t3, t4, t5, t6⟩ := hT.out.blocks
      by_cases q : kpr (adjB ps l) m k = k
      · have hg := Lib.hid (grpsTo_yes q)
        rw [q] at d0
        generalize hL : (natI (grp (adjB ps l) m k)).length = L at *
        replace hL := Lib.hid hL
        have t1' := own_below t1 b2
        have t2' : ∀ (i : Nat) (u : Value) (xs : List Int), vs[i]? = some u → (grpsTo (adjB ps l) m k)[i]? = some xs → OwnI w.heap.size u xs w2 := fun i u xs h1 h2 => (t2 i u xs h1 h2).below b2
        replace t2' := Lib.hid t2'
        replace t3 := Lib.hid t3
        replace t4 := Lib.hid t4
        replace t5 := Lib.hid t5
        replace t6 := Lib.hid t6
        replace hu := Lib.hid hu
        clear t2 t1 ht hfirst hT
        go_wp2_with (at_builtin; refine wpList_append_own_at _ rfl _ _ 68 rfl w.heap.size 22 i0 (.slice none 0 0) 1 24 Try.underlying68 hi hz0 hz1 hz2 rfl (by decide) _ _ _ rfl (World.ownsRow.alloc t1' _) ⟨w2.heap.size, 0, none⟩ 1 1 [.slice (some ⟨gs, 0, none⟩) L cS] rfl rfl ?c1 ?c2 ?c3 ?c4 ?c5 ?_)
        case c1 => exact single_atV _ _ _
        case c2 => intro u hu; simp at hu; subst hu; rfl
        case c3 => unfold maxLen; omega
        case c4 => omega
        case c5 => simp; omega
        intro v' w3 hown' hgrow _ hat
        have hT3 : Hid (Tab w.heap.size v' (grpsTo (adjB ps l) m (k + 1)) w3) := Lib.hid (by
          rw [hg.out]
          exact Tab.snoc (H := wr.heap.size) t1' t2'.out t3.out t4.out t5.out t6.out (by have := hL.out; subst this; exact hu.out) hsz hwr hown' hgrow (by simpa using hat))
        have BB3 := below_append BB2 hsz2 t1' hgrow
        clear hown' hgrow hat t1' t2' t3 t4 t5 t6 hu
        go_wp2_with fail
        clear d0
        go_roundw
        case rel => exact ⟨k + 1, by omega, by go_num, hT3, BB3⟩
        case measure => simp [intOf]; omega
      · have hg := grpsTo_no q
        have hq : (((kpr (adjB ps l) m k : Nat) : Int) == (k : Int)) = false := by rw [beq_eq_false_iff_ne]; omega
        have hT2 := Lib.hid (hT.out.below b2)
        rw [← hg] at hT2
        generalize (kpr (adjB ps l) m k : Nat) = kk at *
        clear hg t1 t2 t3 t4 t5 t6 hT ht hfirst hu
        generalize (natI (grp (adjB ps l) m k)).length = L at *
        go_wp2_with fail
        clear d0
        go_roundw
        case rel => exact ⟨k + 1, by omega, by go_num, hT2, BB2⟩
        case measure => simp [intOf]; omega
    · obtain rfl : k = m := by omega
      rw [grpsTo_all] at hT
      clear hlt
      go_wp2_with fail
      go_ret
      exact ⟨_, rfl, hT.out, BB⟩
set_option maxRecDepth 100000 in
set_option maxHeartbeats 4000000 in
theorem spec_groups {v : Value} {ps : List Per} {w : World} (h : Persons w v ps) (hp : PersFit ps) (hB : persB ps = true) (l : Int) :
    Calls Try.prog 89 #[v, .int .i64 l] w fun e w' => ∃ u, e = .returned u ∧ Tab w.heap.size u (grpsL (adjB ps l) ps.length) w' ∧ Below w.heap.size w w' := by
  obtain ⟨i0, hi, hz0, hz1, hz2⟩ := info_parts info_sl
  have hn12 : ps.length ≤ 12 := persB_len hB
  have hT := tab_new (w := w) (Nat.le_refl _)
  have hb0 : Below w.heap.size w (w.alloc (.cells #[] 22)) := (Below.refl _ _).alloc (Nat.le_refl _) _
  have HG := fun (wr : World) (b : Below w.heap.size w wr) (a : Nat) (ha : a < ps.length) => spec_group (h.below b) hp hB l a ha
  obtain ⟨aa, n, c, rfl, H⟩ := h.parts
  have hlen := Lib.hid H.len
  have hcap := H.cap
  have hmost := H.most
  unfold maxLen at hmost
  clear H h hp hB
  generalize hn : ps.length = m at *
  obtain rfl : m = n := hlen.out
  replace hn := Lib.hid hn
  replace HG := Lib.hid HG
  replace hT := Lib.hid hT
  go_enter Try.func89, Try.ntmps89
  go_wp2_with fail
  go_loopw [5, 6] (fun u i wr => ∃ k : Nat, k ≤ m ∧ i = .int .i64 k ∧ Hid (Tab w.heap.size u (grpsTo (adjB ps l) m k) wr) ∧ Below w.heap.size w wr) (fun _ i _ => m - (intOf i).toNat)
  case atStart => exact ⟨0, Nat.zero_le _, rfl, hT, hb0⟩
  case round =>
    clear hT hb0
    obtain ⟨k, hk, rfl, hT, BB⟩ := hrel
    rename_i wr
    by_cases hlt : k < m
    · have hsz := BB.size
      go_wp2_with fail
      refine (HG.out _ BB k hlt).mono ?_
      rintro e w2 ⟨u, rfl, hu, b2⟩
      have BB2 := below_next BB (Nat.le_refl _) b2
      have hsz2 := BB2.size
      have hwr := b2.size
      obtain ⟨t, ht⟩ := grp_cons (adj := adjB ps l) hlt
      have hfirst : nth (natI (grp (adjB ps l) m k)) 0 = (kpr (adjB ps l) m k : Nat) := by rw [ht]; rfl
      have hpos : 0 < (natI (grp (adjB ps l) m k)).length := by rw [ht]; simp [natI]
      obtain ⟨aS, cS, rfl, hcS, hmS, hfS⟩ := own_form hu
      obtain ⟨gs, rfl, _, _⟩ := hfS (by omega)
      unfold maxLen at hmS
      have d0 := (OwnI.at_ hu (k := 0) hpos).1
      rw [hfirst] at d0
      have hgl := grpsTo_len (adjB ps l) m k
      obtain ⟨vs, t1, t2, t3, t4, t5, t6⟩ := hT.out.blocks
      by_cases q : kpr (adjB ps l) m k = k
      · have hg := Lib.hid (grpsTo_yes q)
        rw [q] at d0
        generalize hL : (natI (grp (adjB ps l) m k)).length = L at *
        replace hL := Lib.hid hL
        have t1' := own_below t1 b2
        have t2' : ∀ (i : Nat) (u : Value) (xs : List Int), vs[i]? = some u → (grpsTo (adjB ps l) m k)[i]? = some xs → OwnI w.heap.size u xs w2 := fun i u xs h1 h2 => (t2 i u xs h1 h2).below b2
        replace t2' := Lib.hid t2'
        replace t3 := Lib.hid t3
        replace t4 := Lib.hid t4
        replace t5 := Lib.hid t5
        replace t6 := Lib.hid t6
        replace hu := Lib.hid hu
        clear t2 t1 ht hfirst hT
        go_wp2_with (at_builtin; refine wpList_append_own_at _ rfl _ _ 68 rfl w.heap.size 22 i0 (.slice none 0 0) 1 24 Try.underlying68 hi hz0 hz1 hz2 rfl (by decide) _ _ _ rfl (World.ownsRow.alloc t1' _) ⟨w2.heap.size, 0, none⟩ 1 1 [.slice (some ⟨gs, 0, none⟩) L cS] rfl rfl ?c1 ?c2 ?c3 ?c4 ?c5 ?_)
        case c1 => exact single_atV _ _ _
        case c2 => intro u hu; simp at hu; subst hu; rfl
        case c3 => unfold maxLen; omega
        case c4 => omega
        case c5 => simp; omega
        intro v' w3 hown' hgrow _ hat
        have hT3 : Hid (Tab w.heap.size v' (grpsTo (adjB ps l) m (k + 1)) w3) := Lib.hid (by
          rw [hg.out]
          exact Tab.snoc (H := wr.heap.size) t1' t2'.out t3.out t4.out t5.out t6.out (by have := hL.out; subst this; exact hu.out) hsz hwr hown' hgrow (by simpa using hat))
        have BB3 := below_append BB2 hsz2 t1' hgrow
        clear hown' hgrow hat t1' t2' t3 t4 t5 t6 hu
        go_wp2_with fail
        clear d0
        go_roundw
        case rel => exact ⟨k + 1, by omega, by go_num, hT3, BB3⟩
        case measure => simp [intOf]; omega
      · have hg := grpsTo_no q
        have hq : (((kpr (adjB ps l) m k : Nat) : Int) == (k : Int)) = false := by rw [beq_eq_false_iff_ne]; omega
        have hT2 := Lib.hid (hT.out.below b2)
        rw [← hg] at hT2
        generalize (kpr (adjB ps l) m k : Nat) = kk at *
        clear hg t1 t2 t3 t4 t5 t6 hT ht hfirst hu
        generalize (natI (grp (adjB ps l) m k)).length = L at *
        go_wp2_with fail
        clear d0
        go_roundw
        case rel => exact ⟨k + 1, by omega, by go_num, hT2, BB2⟩
        case measure => simp [intOf]; omega
    · obtain rfl : k = m := by omega
      rw [grpsTo_all] at hT
      clear hlt
      go_wp2_with fail
      go_ret
      exact ⟨_, rfl, hT.out, BB⟩
end Go.Proofs.Ythnilifepiihjaa
