/-
  Groups of persons: group and l05Group.
  Conditions: each lemma names its own.
-/
import Derived.Test.YthnilifepiihjaaStepsFrom
import Derived.Maps.AppendAt
namespace Go.Proofs.Ythnilifepiihjaa
open Go.RowKit
set_option linter.unusedVariables false

theorem OwnI.other {base : Nat} {v : Value} {s : List Int} {w w1 : World} {o : Obj} {row : Option Nat} (h : OwnI base v s w) (hg : (w.alloc o).grownBy w1 row) (hne : v.ownBlock ≠ row) : OwnI base v s w1 :=
  World.ownsRow.kept (World.ownsRow.alloc h o) hg (.inr hne)
/-- The members of a group among the first k. -/
def grpTo (adj : Nat → Nat → Bool) (n a k : Nat) : List Int := natI ((List.range k).filter (mem adj n a))
theorem grpTo_yes {adj : Nat → Nat → Bool} {n a k : Nat} (h : 0 ≤ nth (stp adj n a) k) : grpTo adj n a (k + 1) = grpTo adj n a k ++ [(k : Int)] := by
  unfold grpTo
  rw [List.range_succ, List.filter_append, ← natI_snoc]
  congr 2
  rw [List.filter_cons, if_pos (by unfold mem; exact decide_eq_true h)]
  rfl
theorem grpTo_no {adj : Nat → Nat → Bool} {n a k : Nat} (h : ¬ 0 ≤ nth (stp adj n a) k) : grpTo adj n a (k + 1) = grpTo adj n a k := by
  unfold grpTo
  rw [List.range_succ, List.filter_append, List.filter_cons, if_neg (by unfold mem; rw [decide_eq_true_eq]; exact h), List.filter_nil, List.append_nil]
theorem grpTo_all (adj : Nat → Nat → Bool) (n a : Nat) : grpTo adj n a n = natI (grp adj n a) := rfl
theorem grpTo_len (adj : Nat → Nat → Bool) (n a k : Nat) : (grpTo adj n a k).length ≤ k := by
  unfold grpTo
  rw [natI_len]
  exact Nat.le_trans (List.length_filter_le _ _) (by rw [List.length_range]; exact Nat.le_refl _)
theorem own_none_ne {base : Nat} {v : Value} {s : List Int} {w : World} (h : OwnI base v s w) {g : Nat} (hg : g < base) : v.ownBlock ≠ some g := fun e => by have := (World.ownsRow.lt h g e).1; omega

set_option maxRecDepth 100000 in
set_option maxHeartbeats 4000000 in
theorem impl_group {v : Value} {ps : List Per} {w : World} (h : Persons w v ps) (hp : PersFit ps) (hB : persB ps = true) (l : Int) (a : Nat) (ha : a < ps.length) :
    Calls Try.prog 85 #[v, .int .i64 l, .int .i64 (a : Int)] w fun e w' => ∃ u, e = .returned u ∧ OwnI w.heap.size u (natI (grp (adjB ps l) ps.length a)) w' ∧ Below w.heap.size w w' := by
  obtain ⟨i0, hi, hz0, hz1, hz2⟩ := info_parts info_i64
  have hn12 : ps.length ≤ 12 := persB_len hB
  have hl := Lib.hid (stp_len (adj := adjB ps l) ha)
  have hE : OwnI w.heap.size (.slice (some ⟨w.heap.size, 0, none⟩) 0 0) (grpTo (adjB ps l) ps.length a 0) (w.alloc (.cells #[] 2)) := World.ownsRow_lit w #[] 0 (Nat.le_refl _) (by decide) rfl
  have hb0 : Below w.heap.size w (w.alloc (.cells #[] 2)) := (Below.refl _ _).alloc (Nat.le_refl _) _
  have HS := Lib.hid (impl_steps (h.alloc (.cells #[] 2)) hp hB l a ha)
  generalize hn : ps.length = n at *
  replace hn := Lib.hid hn
  clear h hp hB
  go_enter Try.func85, Try.ntmps85
  go_wp2_with fail
  refine HS.out.mono ?_
  rintro e w1 ⟨us, rfl, hs, b1⟩
  have ho := hE.below b1
  have BB := below_next hb0 (Nat.le_refl _) b1
  have hne : us.ownBlock ≠ some w.heap.size := own_none_ne hs (by simp)
  clear hE hb0 b1 HS
  obtain ⟨aS, cS, rfl, hcS, hmS, hfS⟩ := own_form hs
  rw [hl.out] at hcS hfS ⊢
  obtain ⟨gs, rfl, _, _⟩ := hfS (by omega)
  unfold maxLen at hmS
  replace hne : gs ≠ w.heap.size := by simpa [Value.ownBlock] using hne
  have hne2 : (Value.slice (some ⟨w.heap.size, 0, none⟩) 0 0).ownBlock ≠ some gs := by simp [Value.ownBlock]; omega
  go_wp2_with fail
  go_loopw [7, 16] (fun u i wr => ∃ k : Nat, k ≤ n ∧ i = .int .i64 k ∧ Hid (OwnI (w.heap.size + 1) (.slice (some ⟨gs, 0, none⟩) (stp (adjB ps l) n a).length cS) (stp (adjB ps l) n a) wr) ∧ Hid (OwnI w.heap.size u (grpTo (adjB ps l) n a k) wr) ∧ u.ownBlock ≠ some gs ∧ Below w.heap.size w wr) (fun _ i _ => n - (intOf i).toNat)
  case atStart => exact ⟨0, Nat.zero_le _, rfl, Lib.hid (by simpa using hs), Lib.hid ho, hne2, BB⟩
  case round =>
    clear hne2 BB ho hs
    obtain ⟨k, hk, rfl, hs, ho, hne, BB⟩ := hrel
    have hsz := BB.size
    by_cases hlt : k < n
    · obtain ⟨d1, _⟩ := OwnI.at_ hs.out (k := k) (by rw [hl.out]; exact hlt)
      have hgl := grpTo_len (adjB ps l) n a k
      by_cases q : 0 ≤ nth (stp (adjB ps l) n a) k
      · have hg := Lib.hid (grpTo_yes q)
        generalize nth (stp (adjB ps l) n a) k = sk at *
        have ho1 := ho.out
        have hs1 := hs.out
        go_wp2_with (at_builtin; refine wpList_append_own_at _ rfl _ _ 22 rfl w.heap.size 2 i0 (.int .i64 0) 1 8 Try.underlying22 hi hz0 hz1 hz2 rfl (by decide) _ _ _ rfl (World.ownsRow.alloc ho1 _) ⟨wr.heap.size, 0, none⟩ 1 1 [.int .i64 (k : Int)] rfl rfl ?c1 ?c2 ?c3 ?c4 ?c5 ?_)
        case c1 => exact single_at _ _ _
        case c2 => intro u hu; simp at hu; subst hu; rfl
        case c3 => unfold maxLen; omega
        case c4 => omega
        case c5 => simp; omega
        intro v' w2 hown' hgrow _ hat
        have hs2 := Lib.hid (hs1.other hgrow (by simp only [Value.ownBlock]; exact fun e => hne e.symm))
        have hb' := below_append BB hsz ho1 hgrow
        have hgl2 := (World.ownsRow.lt hs1 gs rfl).2
        have hne3 : v'.ownBlock ≠ some gs := by
          rcases hat with h | h
          · rw [h]; exact hne
          · rw [h]; intro e; injection e with e; first | omega | (simp at e; omega)
        have ho2 : Hid (OwnI w.heap.size v' (grpTo (adjB ps l) n a (k + 1)) w2) := Lib.hid (by
          unfold OwnI
          rw [hg.out, List.length_append, List.map_append]
          exact hown')
        clear hown' hgrow hat ho1 hs1 hs ho hne BB
        go_wp2_with fail
        clear d1
        go_roundw
        case rel => exact ⟨k + 1, by omega, by go_num, hs2, ho2, hne3, hb'⟩
        case measure => simp [intOf]; omega
      · have hg := grpTo_no q
        rw [← hg] at ho
        clear hg
        have q' : nth (stp (adjB ps l) n a) k < 0 := by omega
        clear q
        generalize nth (stp (adjB ps l) n a) k = sk at *
        go_wp2_with fail
        clear d1
        go_roundw
        case rel => exact ⟨k + 1, by omega, by go_num, hs, ho, hne, BB⟩
        case measure => simp [intOf]; omega
    · obtain rfl : k = n := by omega
      rw [grpTo_all] at ho
      clear hlt hs
      go_wp2_with fail
      go_ret
      exact ⟨_, rfl, ho.out, BB⟩
set_option maxRecDepth 100000 in
set_option maxHeartbeats 4000000 in
theorem spec_group {v : Value} {ps : List Per} {w : World} (h : Persons w v ps) (hp : PersFit ps) (hB : persB ps = true) (l : Int) (a : Nat) (ha : a < ps.length) :
    Calls Try.prog 86 #[v, .int .i64 l, .int .i64 (a : Int)] w fun e w' => ∃ u, e = .returned u ∧ OwnI w.heap.size u (natI (grp (adjB ps l) ps.length a)) w' ∧ Below w.heap.size w w' := by
  obtain ⟨i0, hi, hz0, hz1, hz2⟩ := info_parts info_i64
  have hn12 : ps.length ≤ 12 := persB_len hB
  have hl := Lib.hid (stp_len (adj := adjB ps l) ha)
  have HS := Lib.hid (spec_steps h hp hB l a ha)
  generalize hn : ps.length = n at *
  replace hn := Lib.hid hn
  clear h hp hB
  go_enter Try.func86, Try.ntmps86
  go_wp2_with fail
  refine HS.out.mono ?_
  rintro e w1 ⟨us, rfl, hs, b1⟩
  have BB := b1
  clear b1 HS
  obtain ⟨aS, cS, rfl, hcS, hmS, hfS⟩ := own_form hs
  rw [hl.out] at hcS hfS ⊢
  obtain ⟨gs, rfl, _, hgs⟩ := hfS (by omega)
  unfold maxLen at hmS
  have ho : OwnI w.heap.size (.slice (some ⟨w1.heap.size, 0, none⟩) 0 0) (grpTo (adjB ps l) n a 0) (w1.alloc (.cells #[] 2)) := World.ownsRow_lit w1 #[] 0 BB.size (by decide) rfl
  replace hs := hs.below ((Below.refl _ _).alloc (Nat.le_refl _) (.cells #[] 2))
  replace BB := BB.alloc BB.size (.cells #[] 2)
  have hne2 : (Value.slice (some ⟨w1.heap.size, 0, none⟩) 0 0).ownBlock ≠ some gs := by simp [Value.ownBlock]; omega
  replace hs := Lib.hid hs
  replace ho := Lib.hid ho
  go_wp2_with fail
  go_loopw [8, 9] (fun u i wr => ∃ k : Nat, k ≤ n ∧ i = .int .i64 k ∧ Hid (OwnI w.heap.size (.slice (some ⟨gs, 0, none⟩) (stp (adjB ps l) n a).length cS) (stp (adjB ps l) n a) wr) ∧ Hid (OwnI w.heap.size u (grpTo (adjB ps l) n a k) wr) ∧ u.ownBlock ≠ some gs ∧ Below w.heap.size w wr) (fun _ i _ => n - (intOf i).toNat)
  case atStart => exact ⟨0, Nat.zero_le _, rfl, by simpa [hl.out] using hs, ho, hne2, BB⟩
  case round =>
    clear hne2 BB ho hs
    obtain ⟨k, hk, rfl, hs, ho, hne, BB⟩ := hrel
    have hsz := BB.size
    by_cases hlt : k < n
    · obtain ⟨d1, _⟩ := OwnI.at_ hs.out (k := k) (by rw [hl.out]; exact hlt)
      have hgl := grpTo_len (adjB ps l) n a k
      by_cases q : 0 ≤ nth (stp (adjB ps l) n a) k
      · have hg := Lib.hid (grpTo_yes q)
        generalize nth (stp (adjB ps l) n a) k = sk at *
        have ho1 := ho.out
        have hs1 := hs.out
        go_wp2_with (at_builtin; refine wpList_append_own_at _ rfl _ _ 22 rfl w.heap.size 2 i0 (.int .i64 0) 1 8 Try.underlying22 hi hz0 hz1 hz2 rfl (by decide) _ _ _ rfl (World.ownsRow.alloc ho1 _) ⟨wr.heap.size, 0, none⟩ 1 1 [.int .i64 (k : Int)] rfl rfl ?c1 ?c2 ?c3 ?c4 ?c5 ?_)
        case c1 => exact single_at _ _ _
        case c2 => intro u hu; simp at hu; subst hu; rfl
        case c3 => unfold maxLen; omega
        case c4 => omega
        case c5 => simp; omega
        intro v' w2 hown' hgrow _ hat
        have hs2 := Lib.hid (hs1.other hgrow (by simp only [Value.ownBlock]; exact fun e => hne e.symm))
        have hb' := below_append BB hsz ho1 hgrow
        have hgl2 := (World.ownsRow.lt hs1 gs rfl).2
        have hne3 : v'.ownBlock ≠ some gs := by
          rcases hat with h | h
          · rw [h]; exact hne
          · rw [h]; intro e; injection e with e; first | omega | (simp at e; omega)
        have ho2 : Hid (OwnI w.heap.size v' (grpTo (adjB ps l) n a (k + 1)) w2) := Lib.hid (by
          unfold OwnI
          rw [hg.out, List.length_append, List.map_append]
          exact hown')
        clear hown' hgrow hat ho1 hs1 hs ho hne BB
        go_wp2_with fail
        clear d1
        go_roundw
        case rel => exact ⟨k + 1, by omega, by go_num, hs2, ho2, hne3, hb'⟩
        case measure => simp [intOf]; omega
      · have hg := grpTo_no q
        rw [← hg] at ho
        clear hg
        have q' : nth (stp (adjB ps l) n a) k < 0 := by omega
        clear q
        generalize nth (stp (adjB ps l) n a) k = sk at *
        go_wp2_with fail
        clear d1
        go_roundw
        case rel => exact ⟨k + 1, by omega, by go_num, hs, ho, hne, BB⟩
        case measure => simp [intOf]; omega
    · obtain rfl : k = n := by omega
      rw [grpTo_all] at ho
      clear hlt hs
      go_wp2_with fail
      go_ret
      exact ⟨_, rfl, ho.out, BB⟩
end Go.Proofs.Ythnilifepiihjaa
