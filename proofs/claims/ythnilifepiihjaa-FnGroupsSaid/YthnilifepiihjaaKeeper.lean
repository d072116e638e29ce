/-
  KeeperOf and CountDuplicates of both packages.
  Conditions: each lemma names its own.
-/
import Derived.Test.YthnilifepiihjaaGroups
import Derived.Test.YthnilifepiihjaaJoin
namespace Go.Proofs.Ythnilifepiihjaa
open Go.RowKit
set_option linter.unusedVariables false

theorem ints_lit1 (w : World) (d : Int) (e : TypeId) : Ints (w.alloc (.cells #[.int .i64 d] e)) (.slice (some ⟨w.heap.size, 0, none⟩) 1 1) [d] := by
  refine ⟨by simp, some ⟨w.heap.size, 0, none⟩, 1, rfl, by simp, by unfold maxLen; omega, (fun h => by cases h), fun _ => ⟨w.heap.size, 0, rfl, by simp, fun j u hu => ?_⟩⟩
  have := single_at w d e j u (by simpa using hu)
  rwa [Addr.add_lit] at this
theorem ints_lit2 (w : World) (d d2 : Int) (e : TypeId) : Ints (w.alloc (.cells #[.int .i64 d, .int .i64 d2] e)) (.slice (some ⟨w.heap.size, 0, none⟩) 2 2) [d, d2] := by
  refine ⟨by simp, some ⟨w.heap.size, 0, none⟩, 2, rfl, by simp, by unfold maxLen; omega, (fun h => by cases h), fun _ => ⟨w.heap.size, 0, rfl, by simp, fun j u hu => ?_⟩⟩
  have hg := heap_alloc_new w (.cells #[.int .i64 d, .int .i64 d2] e)
  rw [cell_of_row _ _ _ _ _ _ hg]
  match j, hu with
  | 0, hu => simpa using hu
  | 1, hu => simpa using hu
theorem ints_nil (w : World) : Ints w (.slice none 0 0) [] := ⟨by simp, none, 0, rfl, Nat.le_refl _, Nat.zero_le _, fun _ => rfl, fun h => absurd h (by simp)⟩
def kpI (ps : List Per) (l i : Int) : Int := if jcode ps l [i] = 0 then (kpr (adjB ps l) ps.length i.toNat : Nat) else 0
def cdI (ps : List Per) (l : Int) : Int := if jcode ps l [] = 0 then (ps.length : Int) - ((grpsL (adjB ps l) ps.length).length : Int) else 0

set_option maxHeartbeats 4000000 in
theorem impl_Keeper {v : Value} {ps : List Per} {w : World} (h : Persons w v ps) (hp : PersFit ps) (l i : Int) :
    Calls Try.prog 35 #[v, .int .i64 l, .int .i64 i] w fun e w' => e = .returned (.tuple #[.int .i64 (kpI ps l i), .int .i64 (jcode ps l [i])]) ∧ Below w.heap.size w w' := by
  have HC := impl_joinCode (h.alloc (.cells #[.int .i64 i] 2)) hp (ints_lit1 w i 2) l
  have b0 : Below w.heap.size w (w.alloc (.cells #[.int .i64 i] 2)) := (Below.refl _ _).alloc (Nat.le_refl _) _
  have HG := fun (wr : World) (b : Below w.heap.size w wr) (hB : persB ps = true) (a : Nat) (ha : a < ps.length) => impl_group (h.below b) hp hB l a ha
  by_cases q : jcode ps l [i] = 0
  · obtain ⟨hB, hl, hi⟩ := jcode_ok.1 q
    have hi := hi i (by simp)
    have hk : i = (i.toNat : Int) := by omega
    have R1 : Hid (kpI ps l i = (kpr (adjB ps l) ps.length i.toNat : Nat)) := Lib.hid (by unfold kpI; rw [if_pos q])
    rw [q] at HC ⊢
    generalize i.toNat = k at *
    subst hk
    have hkn : k < ps.length := by omega
    obtain ⟨t, ht⟩ := grp_cons (adj := adjB ps l) hkn
    have hfirst : nth (natI (grp (adjB ps l) ps.length k)) 0 = (kpr (adjB ps l) ps.length k : Nat) := by rw [ht]; rfl
    have hpos : 0 < (natI (grp (adjB ps l) ps.length k)).length := by rw [ht]; simp [natI]
    replace HG := Lib.hid fun (wr : World) (b : Below w.heap.size w wr) => HG wr b hB k hkn
    rw [R1.out]
    replace hfirst := Lib.hid hfirst
    replace hpos := Lib.hid hpos
    replace HC := Lib.hid HC
    clear q hB hi hl ht R1
    generalize (kpr (adjB ps l) ps.length k : Nat) = kk at *
    go_enter Try.func35, Try.ntmps35
    go_wp2_with fail
    refine HC.out.mono ?_
    rintro e w1 ⟨rfl, b1⟩
    have BB := below_next b0 (Nat.le_refl _) b1
    go_wp2_with fail
    refine (HG.out _ BB).mono ?_
    rintro e w2 ⟨u, rfl, hu, b2⟩
    replace BB := below_next BB (Nat.le_refl _) b2
    obtain ⟨aS, cS, rfl, hcS, hmS, hfS⟩ := own_form hu
    have hp0 := hpos.out
    obtain ⟨gs, rfl, _, _⟩ := hfS (by omega)
    unfold maxLen at hmS
    have d0 := (OwnI.at_ hu (k := 0) hp0).1
    rw [hfirst.out] at d0
    clear hu hfS
    generalize (natI (grp (adjB ps l) ps.length k)).length = L at *
    go_wp2_with fail
    go_ret2
    exact ⟨rfl, BB⟩
  · have R1 : Hid (kpI ps l i = 0) := Lib.hid (by unfold kpI; rw [if_neg q])
    have q1 : (jcode ps l [i] != 0) = true := by simpa using q
    rw [R1.out]
    replace HC := Lib.hid HC
    clear q R1
    generalize jcode ps l [i] = cc at *
    go_enter Try.func35, Try.ntmps35
    go_wp2_with fail
    refine HC.out.mono ?_
    rintro e w1 ⟨rfl, b1⟩
    have BB := below_next b0 (Nat.le_refl _) b1
    go_wp2_with fail
    go_ret2
    exact ⟨rfl, BB⟩
set_option maxHeartbeats 4000000 in
theorem spec_Keeper {v : Value} {ps : List Per} {w : World} (h : Persons w v ps) (hp : PersFit ps) (l i : Int) :
    Calls Try.prog 36 #[v, .int .i64 l, .int .i64 i] w fun e w' => e = .returned (.tuple #[.int .i64 (kpI ps l i), .int .i64 (jcode ps l [i])]) ∧ Below w.heap.size w w' := by
  have HC := spec_l05Code h hp l i i
  rw [jcode_twice] at HC
  have b0 : Below w.heap.size w w := Below.refl _ _
  have HG := fun (wr : World) (b : Below w.heap.size w wr) (hB : persB ps = true) (a : Nat) (ha : a < ps.length) => spec_group (h.below b) hp hB l a ha
  by_cases q : jcode ps l [i] = 0
  · obtain ⟨hB, hl, hi⟩ := jcode_ok.1 q
    have hi := hi i (by simp)
    have hk : i = (i.toNat : Int) := by omega
    have R1 : Hid (kpI ps l i = (kpr (adjB ps l) ps.length i.toNat : Nat)) := Lib.hid (by unfold kpI; rw [if_pos q])
    rw [q] at HC ⊢
    generalize i.toNat = k at *
    subst hk
    have hkn : k < ps.length := by omega
    obtain ⟨t, ht⟩ := grp_cons (adj := adjB ps l) hkn
    have hfirst : nth (natI (grp (adjB ps l) ps.length k)) 0 = (kpr (adjB ps l) ps.length k : Nat) := by rw [ht]; rfl
    have hpos : 0 < (natI (grp (adjB ps l) ps.length k)).length := by rw [ht]; simp [natI]
    replace HG := Lib.hid fun (wr : World) (b : Below w.heap.size w wr) => HG wr b hB k hkn
    rw [R1.out]
    replace hfirst := Lib.hid hfirst
    replace hpos := Lib.hid hpos
    replace HC := Lib.hid HC
    clear q hB hi hl ht R1
    generalize (kpr (adjB ps l) ps.length k : Nat) = kk at *
    go_enter Try.func36, Try.ntmps36
    go_wp2_with fail
    refine HC.out.mono ?_
    rintro e w1 ⟨rfl, b1⟩
    have BB := below_next b0 (Nat.le_refl _) b1
    go_wp2_with fail
    refine (HG.out _ BB).mono ?_
    rintro e w2 ⟨u, rfl, hu, b2⟩
    replace BB := below_next BB (Nat.le_refl _) b2
    obtain ⟨aS, cS, rfl, hcS, hmS, hfS⟩ := own_form hu
    have hp0 := hpos.out
    obtain ⟨gs, rfl, _, _⟩ := hfS (by omega)
    unfold maxLen at hmS
    have d0 := (OwnI.at_ hu (k := 0) hp0).1
    rw [hfirst.out] at d0
    clear hu hfS
    generalize (natI (grp (adjB ps l) ps.length k)).length = L at *
    go_wp2_with fail
    go_ret2
    exact ⟨rfl, BB⟩
  · have R1 : Hid (kpI ps l i = 0) := Lib.hid (by unfold kpI; rw [if_neg q])
    have q1 : (jcode ps l [i] != 0) = true := by simpa using q
    rw [R1.out]
    replace HC := Lib.hid HC
    clear q R1
    generalize jcode ps l [i] = cc at *
    go_enter Try.func36, Try.ntmps36
    go_wp2_with fail
    refine HC.out.mono ?_
    rintro e w1 ⟨rfl, b1⟩
    have BB := below_next b0 (Nat.le_refl _) b1
    go_wp2_with fail
    go_ret2
    exact ⟨rfl, BB⟩
set_option maxHeartbeats 4000000 in
theorem impl_Count {v : Value} {ps : List Per} {w : World} (h : Persons w v ps) (hp : PersFit ps) (l : Int) :
    Calls Try.prog 47 #[v, .int .i64 l] w fun e w' => e = .returned (.tuple #[.int .i64 (cdI ps l), .int .i64 (jcode ps l [])]) ∧ Below w.heap.size w w' := by
  have HC := impl_joinCode h hp (ints_nil w) l
  have HG := fun (wr : World) (b : Below w.heap.size w wr) (hB : persB ps = true) => impl_groups (h.below b) hp hB l
  obtain ⟨aa, n, c, rfl, H⟩ := h.parts
  have hlen := Lib.hid H.len
  have hcap := H.cap
  have hmost := H.most
  unfold maxLen at hmost
  clear H h
  by_cases q : jcode ps l [] = 0
  · obtain ⟨hB, _, _⟩ := jcode_ok.1 q
    have R1 : Hid (cdI ps l = (n : Int) - ((grpsL (adjB ps l) ps.length).length : Int)) := Lib.hid (by unfold cdI; rw [if_pos q, hlen.out])
    have hgl : (grpsL (adjB ps l) ps.length).length ≤ n := by rw [← grpsTo_all]; have := grpsTo_len (adjB ps l) ps.length ps.length; have := hlen.out; omega
    rw [q] at HC ⊢
    replace HG := Lib.hid fun (wr : World) (b : Below w.heap.size w wr) => HG wr b hB
    rw [R1.out]
    replace HC := Lib.hid HC
    clear q hB R1
    go_enter Try.func47, Try.ntmps47
    go_wp2_with fail
    refine HC.out.mono ?_
    rintro e w1 ⟨rfl, b1⟩
    have BB := b1
    go_wp2_with fail
    refine (HG.out _ BB).mono ?_
    rintro e w2 ⟨u, rfl, hu, b2⟩
    replace BB := below_next BB (Nat.le_refl _) b2
    obtain ⟨aS, cS, rfl, hcS, hmS, _⟩ := hu.form
    unfold maxLen at hmS
    clear hu
    generalize hL : (grpsL (adjB ps l) ps.length).length = L at *
    replace hL := Lib.hid hL
    go_wp2_with fail
    go_ret2
    exact ⟨ret2_i (by rw [hL.out]) rfl, BB⟩
  · have R1 : Hid (cdI ps l = 0) := Lib.hid (by unfold cdI; rw [if_neg q])
    have q1 : (jcode ps l [] != 0) = true := by simpa using q
    rw [R1.out]
    replace HC := Lib.hid HC
    clear q R1
    generalize jcode ps l [] = cc at *
    go_enter Try.func47, Try.ntmps47
    go_wp2_with fail
    refine HC.out.mono ?_
    rintro e w1 ⟨rfl, b1⟩
    go_wp2_with fail
    go_ret2
    exact ⟨rfl, b1⟩
set_option maxHeartbeats 4000000 in
theorem spec_Count {v : Value} {ps : List Per} {w : World} (h : Persons w v ps) (hp : PersFit ps) (l : Int) :
    Calls Try.prog 48 #[v, .int .i64 l] w fun e w' => e = .returned (.tuple #[.int .i64 (cdI ps l), .int .i64 (jcode ps l [])]) ∧ Below w.heap.size w w' := by
  have HC := spec_l05Limit h hp l
  have HG := fun (wr : World) (b : Below w.heap.size w wr) (hB : persB ps = true) => spec_groups (h.below b) hp hB l
  obtain ⟨aa, n, c, rfl, H⟩ := h.parts
  have hlen := Lib.hid H.len
  have hcap := H.cap
  have hmost := H.most
  unfold maxLen at hmost
  clear H h
  by_cases q : jcode ps l [] = 0
  · obtain ⟨hB, _, _⟩ := jcode_ok.1 q
    have R1 : Hid (cdI ps l = (n : Int) - ((grpsL (adjB ps l) ps.length).length : Int)) := Lib.hid (by unfold cdI; rw [if_pos q, hlen.out])
    have hgl : (grpsL (adjB ps l) ps.length).length ≤ n := by rw [← grpsTo_all]; have := grpsTo_len (adjB ps l) ps.length ps.length; have := hlen.out; omega
    rw [q] at HC ⊢
    replace HG := Lib.hid fun (wr : World) (b : Below w.heap.size w wr) => HG wr b hB
    rw [R1.out]
    replace HC := Lib.hid HC
    clear q hB R1
    go_enter Try.func48, Try.ntmps48
    go_wp2_with fail
    refine HC.out.mono ?_
    rintro e w1 ⟨rfl, b1⟩
    have BB := b1
    go_wp2_with fail
    refine (HG.out _ BB).mono ?_
    rintro e w2 ⟨u, rfl, hu, b2⟩
    replace BB := below_next BB (Nat.le_refl _) b2
    obtain ⟨aS, cS, rfl, hcS, hmS, _⟩ := hu.form
    unfold maxLen at hmS
    clear hu
    generalize hL : (grpsL (adjB ps l) ps.length).length = L at *
    replace hL := Lib.hid hL
    go_wp2_with fail
    go_ret2
    exact ⟨ret2_i (by rw [hL.out]) rfl, BB⟩
  · have R1 : Hid (cdI ps l = 0) := Lib.hid (by unfold cdI; rw [if_neg q])
    have q1 : (jcode ps l [] != 0) = true := by simpa using q
    rw [R1.out]
    replace HC := Lib.hid HC
    clear q R1
    generalize jcode ps l [] = cc at *
    go_enter Try.func48, Try.ntmps48
    go_wp2_with fail
    refine HC.out.mono ?_
    rintro e w1 ⟨rfl, b1⟩
    go_wp2_with fail
    go_ret2
    exact ⟨rfl, b1⟩
end Go.Proofs.Ythnilifepiihjaa
