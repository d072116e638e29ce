/-
  GroupsOf of both packages.
  Conditions: each lemma names its own.
-/
import Derived.Test.YthnilifepiihjaaKeeper
import Derived.Test.YthnilifepiihjaaMarkSS
import Derived.Test.YthnilifepiihjaaRes
namespace Go.Proofs.Ythnilifepiihjaa
open Go.RowKit
set_option linter.unusedVariables false

def gpI (ps : List Per) (l : Int) : List (List Int) := if jcode ps l [] = 0 then grpsL (adjB ps l) ps.length else []
theorem Tab.mono {base base' : Nat} {v : Value} {L : List (List Int)} {w : World} (h : Tab base v L w) (hb : base' ≤ base) : Tab base' v L w := by
  obtain ⟨vs, h1, h2, h3, h4⟩ := h
  exact ⟨vs, own_mono h1 hb, fun i u xs hu hx => own_mono (h2 i u xs hu hx) hb, h3, h4⟩
theorem gpI_cnt (ps : List Per) (l : Int) : SS_cnt (gpI ps l) ≤ 1000000 := by
  unfold gpI SS_cnt tot
  by_cases q : jcode ps l [] = 0
  · rw [if_pos q]
    have := persB_len (jcode_ok.1 q).1
    have hs := grps_sum (n := ps.length) (adjB_comm ps l)
    have he : ((grpsL (adjB ps l) ps.length).map List.length) = (grps (adjB ps l) ps.length).map List.length := by
      unfold grpsL
      rw [List.map_map]
      exact List.map_congr_left fun x _ => natI_len x
    rw [he, hs]
    omega
  · rw [if_neg q]
    simp
set_option maxHeartbeats 4000000 in
theorem impl_Groups {v : Value} {ps : List Per} {w : World} (h : Persons w v ps) (hp : PersFit ps) (l : Int) :
    Calls Try.prog 41 #[v, .int .i64 l] w fun e w' => ∃ u, e = .returned (.tuple #[u, .int .i64 (jcode ps l [])]) ∧ Tab w.heap.size u (gpI ps l) w' ∧ Below w.heap.size w w' := by
  have HC := impl_joinCode h hp (ints_nil w) l
  have HG := fun (wr : World) (b : Below w.heap.size w wr) (hB : persB ps = true) => impl_groups (h.below b) hp hB l
  obtain ⟨aa, n, c, rfl, H⟩ := h.parts
  clear H h
  by_cases q : jcode ps l [] = 0
  · obtain ⟨hB, _, _⟩ := jcode_ok.1 q
    have R1 : Hid (gpI ps l = grpsL (adjB ps l) ps.length) := Lib.hid (by unfold gpI; rw [if_pos q])
    rw [q] at HC ⊢
    replace HG := Lib.hid fun (wr : World) (b : Below w.heap.size w wr) => HG wr b hB
    rw [R1.out]
    replace HC := Lib.hid HC
    clear q hB R1
    go_enter Try.func41, Try.ntmps41
    go_wp2_with fail
    refine HC.out.mono ?_
    rintro e w1 ⟨rfl, b1⟩
    have BB := b1
    have hs := Lib.hid b1.size
    go_wp2_with fail
    refine (HG.out _ BB).mono ?_
    rintro e w2 ⟨u, rfl, hu, b2⟩
    replace BB := below_next BB (Nat.le_refl _) b2
    replace hu := Lib.hid (Tab.mono hu hs.out)
    go_wp2_with fail
    go_ret2
    exact ⟨_, rfl, hu.out, BB⟩
  · have R1 : Hid (gpI ps l = []) := Lib.hid (by unfold gpI; rw [if_neg q])
    have q1 : (jcode ps l [] != 0) = true := by simpa using q
    rw [R1.out]
    replace HC := Lib.hid HC
    clear q R1
    generalize jcode ps l [] = cc at *
    go_enter Try.func41, Try.ntmps41
    go_wp2_with fail
    refine HC.out.mono ?_
    rintro e w1 ⟨rfl, b1⟩
    go_wp2_with fail
    go_ret2
    exact ⟨_, rfl, tab_nil _ _, b1⟩
set_option maxHeartbeats 4000000 in
theorem spec_Groups {v : Value} {ps : List Per} {w : World} (h : Persons w v ps) (hp : PersFit ps) (l : Int) :
    Calls Try.prog 42 #[v, .int .i64 l] w fun e w' => ∃ u, e = .returned (.tuple #[u, .int .i64 (jcode ps l [])]) ∧ Tab w.heap.size u (gpI ps l) w' ∧ Below w.heap.size w w' := by
  have HC := spec_l05Limit h hp l
  have HG := fun (wr : World) (b : Below w.heap.size w wr) (hB : persB ps = true) => spec_groups (h.below b) hp hB l
  obtain ⟨aa, n, c, rfl, H⟩ := h.parts
  clear H h
  by_cases q : jcode ps l [] = 0
  · obtain ⟨hB, _, _⟩ := jcode_ok.1 q
    have R1 : Hid (gpI ps l = grpsL (adjB ps l) ps.length) := Lib.hid (by unfold gpI; rw [if_pos q])
    rw [q] at HC ⊢
    replace HG := Lib.hid fun (wr : World) (b : Below w.heap.size w wr) => HG wr b hB
    rw [R1.out]
    replace HC := Lib.hid HC
    clear q hB R1
    go_enter Try.func42, Try.ntmps42
    go_wp2_with fail
    refine HC.out.mono ?_
    rintro e w1 ⟨rfl, b1⟩
    have BB := b1
    have hs := Lib.hid b1.size
    go_wp2_with fail
    refine (HG.out _ BB).mono ?_
    rintro e w2 ⟨u, rfl, hu, b2⟩
    replace BB := below_next BB (Nat.le_refl _) b2
    replace hu := Lib.hid (Tab.mono hu hs.out)
    go_wp2_with fail
    go_ret2
    exact ⟨_, rfl, hu.out, BB⟩
  · have R1 : Hid (gpI ps l = []) := Lib.hid (by unfold gpI; rw [if_neg q])
    have q1 : (jcode ps l [] != 0) = true := by simpa using q
    rw [R1.out]
    replace HC := Lib.hid HC
    clear q R1
    generalize jcode ps l [] = cc at *
    go_enter Try.func42, Try.ntmps42
    go_wp2_with fail
    refine HC.out.mono ?_
    rintro e w1 ⟨rfl, b1⟩
    go_wp2_with fail
    go_ret2
    exact ⟨_, rfl, tab_nil _ _, b1⟩
end Go.Proofs.Ythnilifepiihjaa
