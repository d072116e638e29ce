/-
  IsTight of both packages.
  Conditions: each lemma names its own.
-/
import Derived.Test.YtehfhpedpdofkaaKeeper
namespace Go.Proofs.Ytehfhpedpdofkaa
open Go.RowKit
set_option linter.unusedVariables false

def pairB (adj : Nat → Nat → Bool) (G : List Nat) (i k : Nat) : Bool := adj (G.getD i 0) (G.getD k 0)
/-- All of a list are alike. -/
def tB (adj : Nat → Nat → Bool) (G : List Nat) : Bool := allB (fun i => allB (pairB adj G i) G.length) G.length
def sB (adj : Nat → Nat → Bool) (G : List Nat) : Bool := allB (fun i => allB (pairB adj G i) i) G.length
theorem sB_eq {adj : Nat → Nat → Bool} {G : List Nat} (hs : ∀ i j, adj i j = adj j i) (hr : ∀ i ∈ G, adj i i = true) : sB adj G = tB adj G := by
  rw [Bool.eq_iff_iff]
  constructor
  · intro h
    have h1 := allB_all h
    refine allB_true fun i hi => allB_true fun k hk => ?_
    rcases Nat.lt_trichotomy k i with q | q | q
    · exact allB_all (h1 i hi) k q
    · subst q
      have : G.getD k 0 ∈ G := by rw [List.getD_eq_getElem?_getD, List.getElem?_eq_getElem hk]; exact List.getElem_mem hk
      exact hr _ this
    · have := allB_all (h1 k hk) i q
      unfold pairB at this ⊢
      rw [hs]; exact this
  · intro h
    have h1 := allB_all h
    exact allB_true fun i hi => allB_true fun k hk => allB_all (h1 i hi) k (by omega)
def tgB (ps : List Per) (l i : Int) : Bool := if jcode ps l [i] = 0 then tB (adjB ps l) (grp (adjB ps l) ps.length i.toNat) else false
theorem nth_natI {G : List Nat} {k : Nat} (h : k < G.length) : nth (natI G) k = (G.getD k 0 : Nat) := by
  refine nth_eq ?_
  unfold natI
  rw [List.getElem?_map, List.getElem?_eq_getElem h, List.getD_eq_getElem?_getD, List.getElem?_eq_getElem h]
  rfl
theorem adjB_self {ps : List Per} {l : Int} (hl : l ≤ 100) (i : Nat) : adjB ps l i i = true := by unfold adjB; rw [lik_self]; exact decide_eq_true hl
theorem bi_ret {a b : Bool} {c d : Int} (h : a = b) (g : c = d) : Ending.returned (.tuple #[.bool a, .int .i64 c]) = .returned (.tuple #[.bool b, .int .i64 d]) := by rw [h, g]

set_option maxRecDepth 100000 in
set_option maxHeartbeats 8000000 in
theorem impl_Tight {v : Value} {ps : List Per} {w : World} (h : Persons w v ps) (hp : PersFit ps) (l i : Int) :
    Calls Try.prog 17 #[v, .int .i64 l, .int .i64 i] w fun e w' => e = .returned (.tuple #[.bool (tgB ps l i), .int .i64 (jcode ps l [i])]) ∧ Below w.heap.size w w' := by
  have HC := impl_joinCode (h.alloc (.cells #[.int .i64 i] 2)) hp (ints_lit1 w i 2) l
  have b0 : Below w.heap.size w (w.alloc (.cells #[.int .i64 i] 2)) := (Below.refl _ _).alloc (Nat.le_refl _) _
  have HG := fun (wr : World) (b : Below w.heap.size w wr) (hB : persB ps = true) (a : Nat) (ha : a < ps.length) => impl_group (h.below b) hp hB l a ha
  by_cases q : jcode ps l [i] = 0
  · obtain ⟨hB, hl, hi⟩ := jcode_ok.1 q
    have hi := hi i (by simp)
    have hk : i = (i.toNat : Int) := by omega
    have R1 : Hid (tgB ps l i = tB (adjB ps l) (grp (adjB ps l) ps.length i.toNat)) := Lib.hid (by unfold tgB; rw [if_pos q])
    rw [q] at HC ⊢
    generalize i.toNat = k0 at *
    subst hk
    have hkn : k0 < ps.length := by omega
    have hn12 := persB_len hB
    have hGn : Hid (∀ x ∈ grp (adjB ps l) ps.length k0, x < ps.length) := Lib.hid fun x hx => (mem_grp.1 hx).1
    have hsB := Lib.hid (sB_eq (adj := adjB ps l) (G := grp (adjB ps l) ps.length k0) (adjB_comm ps l) (fun i _ => adjB_self hl.2 i))
    have hGl : (grp (adjB ps l) ps.length k0).length ≤ 12 := by have := grpTo_len (adjB ps l) ps.length k0 ps.length; rw [grpTo_all, natI_len] at this; omega
    replace HG := Lib.hid fun (wr : World) (b : Below w.heap.size w wr) => HG wr b hB k0 hkn
    rw [R1.out]
    replace HC := Lib.hid HC
    have FF := Lib.hid hp
    have VB := Lib.hid (fun k q hx => persB_born hB (k := k) (q := q) hx)
    clear q hB hi hl R1 hp hkn
    generalize grp (adjB ps l) ps.length k0 = G at *
    obtain ⟨aa, n, c, rfl, H⟩ := h.parts
    have hlen := Lib.hid H.len
    have hcap := H.cap
    have hmost := H.most
    unfold maxLen at hmost
    clear H
    have HP := Lib.hid h
    clear h
    go_enter Try.func17, Try.ntmps17
    go_wp2_with fail
    refine HC.out.mono ?_
    rintro e w1 ⟨rfl, b1⟩
    have BB := below_next b0 (Nat.le_refl _) b1
    go_wp2_with fail
    refine (HG.out _ BB).mono ?_
    rintro e w2 ⟨u, rfl, hu, b2⟩
    replace BB := below_next BB (Nat.le_refl _) b2
    clear b1 b2 b0 HC HG
    obtain ⟨aS, cS, rfl, hcS, hmS, hfS⟩ := own_form hu
    rw [natI_len] at hcS hfS ⊢
    unfold maxLen at hmS
    replace hu := Lib.hid hu
    generalize hL : G.length = L at *
    replace hL := Lib.hid hL
    go_wp2_with fail
    go_loopw [28] (fun x wr => ∃ i : Nat, i ≤ L ∧ x = .int .i64 i ∧ Hid (AllTo (fun i => allB (pairB (adjB ps l) G i) L) i) ∧ Hid (OwnI w1.heap.size (.slice aS (natI G).length cS) (natI G) wr) ∧ Below w.heap.size w wr) (fun x _ => L - (intOf x).toNat)
    case atStart => exact ⟨0, Nat.zero_le _, rfl, Lib.hid (allTo_zero _), hu, BB⟩
    case round =>
      clear hu BB
      obtain ⟨i, hi, rfl, hall, hu, BB⟩ := hrel
      by_cases hlt : i < L
      · obtain ⟨gs, rfl, _, _⟩ := hfS (by omega)
        obtain ⟨wo, rfl⟩ : ∃ wo : World, wo = wr := ⟨_, rfl⟩
        obtain ⟨d1, _⟩ := OwnI.at_ hu.out (k := i) (by rw [natI_len, hL.out]; exact hlt)
        rw [nth_natI (by rw [hL.out]; exact hlt)] at d1
        have hgi : G.getD i 0 < n := by
          have h1 : i < G.length := by rw [hL.out]; exact hlt
          have : G.getD i 0 ∈ G := by rw [List.getD_eq_getElem?_getD, List.getElem?_eq_getElem h1]; exact List.getElem_mem h1
          have := hGn.out _ this
          have := hlen.out
          omega
        have hpi := Lib.hid (fun k : Nat => (rfl : pairB (adjB ps l) G i k = adjB ps l (G.getD i 0) (G.getD k 0)))
        generalize hgi0 : G.getD i 0 = gi at *
        replace hgi0 := Lib.hid hgi0
        obtain ⟨b, o, rfl⟩ := HP.out.form.2.2.2 (by omega)
        go_wp2_with fail
        go_loopw [34] (fun x wr => ∃ k : Nat, k ≤ L ∧ x = .int .i64 k ∧ Hid (AllTo (pairB (adjB ps l) G i) k) ∧ Hid (OwnI w1.heap.size (.slice (some ⟨gs, 0, none⟩) (natI G).length cS) (natI G) wr) ∧ Below w.heap.size w wr) (fun x _ => L - (intOf x).toNat)
        case atStart => exact ⟨0, Nat.zero_le _, rfl, Lib.hid (allTo_zero _), hu, BB⟩
        case round =>
          clear hu BB d1
          obtain ⟨k, hk, rfl, hin, hu, BB⟩ := hrel
          have hgl := (World.ownsRow.lt hu.out gs rfl).2
          obtain ⟨d1, _⟩ := OwnI.at_ hu.out (k := i) (by rw [natI_len, hL.out]; exact hlt)
          rw [nth_natI (by rw [hL.out]; exact hlt)] at d1
          have hgie : G.getD i 0 = gi := hgi0.out
          rw [hgie] at d1
          by_cases hkl : k < L
          · obtain ⟨d2, _⟩ := OwnI.at_ hu.out (k := k) (by rw [natI_len, hL.out]; omega)
            rw [nth_natI (by rw [hL.out]; omega)] at d2
            have hgk : G.getD k 0 < n := by
              have h1 : k < G.length := by rw [hL.out]; omega
              have : G.getD k 0 ∈ G := by rw [List.getD_eq_getElem?_getD, List.getElem?_eq_getElem h1]; exact List.getElem_mem h1
              have := hGn.out _ this
              have := hlen.out
              omega
            have hpk : pairB (adjB ps l) G i k = adjB ps l gi (G.getD k 0) := by rw [← hgi0.out]; rfl
            generalize G.getD k 0 = gk at *
            replace hpk := Lib.hid hpk
            have hX := per_at (ps := ps) (k := gi) (by have := hlen.out; omega)
            obtain ⟨p, hx⟩ := hX
            have hY := per_at (ps := ps) (k := gk) (by have := hlen.out; omega)
            obtain ⟨qq, hy⟩ := hY
            have ha := adjB_at (l := l) hx hy
            have fp := Lib.hid (FF.out.at_ hx)
            have fq := Lib.hid (FF.out.at_ hy)
            have bp := Lib.hid (VB.out gi p hx)
            have bq := Lib.hid (VB.out gk qq hy)
            obtain ⟨_, p0, p1, p2, p3, p4⟩ := (HP.out.below BB).at_ hx
            obtain ⟨_, x0, x1, x2, x3, x4⟩ := (HP.out.below BB).at_ hy
            have hlik := Lib.hid (fun w => impl_lik_l p qq fp.out fq.out bp.out bq.out w)
            generalize lik p qq = lk at *
            clear hx hy
            by_cases q3 : l ≤ lk
            · have hnext := Lib.hid (hin.out.succ (show pairB (adjB ps l) G i k = true by rw [hpk.out, ha]; exact decide_eq_true q3))
              clear ha hpk hgie
              go_wp2_with fail
              refine region_ext (by kernel_rfl) (by kernel_rfl) ?_
              repeat (go_big_quiet_step ((with_reducible_and_instances exact ext_call (hlik.out _))))
              refine wpQuiet_nil ?_
              rintro _ ⟨nx, rfl⟩
              have b3 := ext_below _ nx
              generalize extW _ nx = w3 at *
              replace BB := below_next BB (Nat.le_refl _) b3
              replace hu := Lib.hid (hu.out.below b3)
              clear p0 p1 p2 p3 p4 x0 x1 x2 x3 x4 d1 d2
              go_wp2_with fail
              go_roundw
              case rel => exact ⟨k + 1, by omega, by go_num, hnext, hu, BB⟩
              case measure => simp [intOf]; omega
            · have q3' : lk < l := by omega
              have hf : Hid (tB (adjB ps l) G = false) := Lib.hid (by
                have h1 : pairB (adjB ps l) G i k = false := by rw [hpk.out, ha]; exact decide_eq_false q3
                exact allB_false (k := i) (by rw [hL.out]; exact hlt) (allB_false (k := k) (by rw [hL.out]; omega) h1))
              clear ha hpk q3 hgie
              go_wp2_with fail
              refine region_ext (by kernel_rfl) (by kernel_rfl) ?_
              repeat (go_big_quiet_step ((with_reducible_and_instances exact ext_call (hlik.out _))))
              refine wpQuiet_nil ?_
              rintro _ ⟨nx, rfl⟩
              have b3 := ext_below _ nx
              generalize extW _ nx = w3 at *
              replace BB := below_next BB (Nat.le_refl _) b3
              clear p0 p1 p2 p3 p4 x0 x1 x2 x3 x4 d1 d2
              go_wp2_with fail
              go_ret2
              exact ⟨bi_ret hf.out.symm rfl, BB⟩
          · have hkeq : k = L := by omega
            have hnext := Lib.hid (hall.out.succ (show (fun i => allB (pairB (adjB ps l) G i) L) i = true from allB_true (hkeq ▸ hin.out)))
            clear hkeq hgie
            go_wp2_with fail
            clear d1
            go_roundw
            case rel => exact ⟨i + 1, by omega, by go_num, hnext, hu, BB⟩
            case measure => simp [intOf]; omega
      · have hf : Hid (tB (adjB ps l) G = true) := Lib.hid (by
          rw [tB, hL.out]; exact allB_true fun j hj => hall.out j (by omega))
        clear hu
        go_wp2_with fail
        go_ret2
        exact ⟨bi_ret hf.out.symm rfl, BB⟩
  · have R1 : Hid (tgB ps l i = false) := Lib.hid (by unfold tgB; rw [if_neg q])
    have q1 : (jcode ps l [i] != 0) = true := by simpa using q
    rw [R1.out]
    replace HC := Lib.hid HC
    clear q R1
    generalize jcode ps l [i] = cc at *
    go_enter Try.func17, Try.ntmps17
    go_wp2_with fail
    refine HC.out.mono ?_
    rintro e w1 ⟨rfl, b1⟩
    have BB := below_next b0 (Nat.le_refl _) b1
    go_wp2_with fail
    go_ret2
    exact ⟨rfl, BB⟩
set_option maxRecDepth 100000 in
set_option maxHeartbeats 8000000 in
theorem spec_Tight {v : Value} {ps : List Per} {w : World} (h : Persons w v ps) (hp : PersFit ps) (l i : Int) :
    Calls Try.prog 16 #[v, .int .i64 l, .int .i64 i] w fun e w' => e = .returned (.tuple #[.bool (tgB ps l i), .int .i64 (jcode ps l [i])]) ∧ Below w.heap.size w w' := by
  have HC := spec_l05Code h hp l i i
  rw [jcode_twice] at HC
  have b0 : Below w.heap.size w w := Below.refl _ _
  have HG := fun (wr : World) (b : Below w.heap.size w wr) (hB : persB ps = true) (a : Nat) (ha : a < ps.length) => spec_group (h.below b) hp hB l a ha
  by_cases q : jcode ps l [i] = 0
  · obtain ⟨hB, hl, hi⟩ := jcode_ok.1 q
    have hi := hi i (by simp)
    have hk : i = (i.toNat : Int) := by omega
    have R1 : Hid (tgB ps l i = tB (adjB ps l) (grp (adjB ps l) ps.length i.toNat)) := Lib.hid (by unfold tgB; rw [if_pos q])
    rw [q] at HC ⊢
    generalize i.toNat = k0 at *
    subst hk
    have hkn : k0 < ps.length := by omega
    have hn12 := persB_len hB
    have hGn : Hid (∀ x ∈ grp (adjB ps l) ps.length k0, x < ps.length) := Lib.hid fun x hx => (mem_grp.1 hx).1
    have hsB := Lib.hid (sB_eq (adj := adjB ps l) (G := grp (adjB ps l) ps.length k0) (adjB_comm ps l) (fun i _ => adjB_self hl.2 i))
    have hGl : (grp (adjB ps l) ps.length k0).length ≤ 12 := by have := grpTo_len (adjB ps l) ps.length k0 ps.length; rw [grpTo_all, natI_len] at this; omega
    replace HG := Lib.hid fun (wr : World) (b : Below w.heap.size w wr) => HG wr b hB k0 hkn
    rw [R1.out]
    replace HC := Lib.hid HC
    have FF := Lib.hid hp
    have VB := Lib.hid (fun k q hx => persB_born hB (k := k) (q := q) hx)
    clear q hB hi hl R1 hp hkn
    generalize grp (adjB ps l) ps.length k0 = G at *
    obtain ⟨aa, n, c, rfl, H⟩ := h.parts
    have hlen := Lib.hid H.len
    have hcap := H.cap
    have hmost := H.most
    unfold maxLen at hmost
    clear H
    have HP := Lib.hid h
    clear h
    go_enter Try.func16, Try.ntmps16
    go_wp2_with fail
    refine HC.out.mono ?_
    rintro e w1 ⟨rfl, b1⟩
    have BB := below_next b0 (Nat.le_refl _) b1
    go_wp2_with fail
    refine (HG.out _ BB).mono ?_
    rintro e w2 ⟨u, rfl, hu, b2⟩
    replace BB := below_next BB (Nat.le_refl _) b2
    clear b1 b2 b0 HC HG
    obtain ⟨aS, cS, rfl, hcS, hmS, hfS⟩ := own_form hu
    rw [natI_len] at hcS hfS ⊢
    unfold maxLen at hmS
    replace hu := Lib.hid hu
    generalize hL : G.length = L at *
    replace hL := Lib.hid hL
    go_wp2_with fail
    go_loopw [10] (fun x wr => ∃ i : Nat, i ≤ L ∧ x = .int .i64 i ∧ Hid (AllTo (fun i => allB (pairB (adjB ps l) G i) i) i) ∧ Hid (OwnI w1.heap.size (.slice aS (natI G).length cS) (natI G) wr) ∧ Below w.heap.size w wr) (fun x _ => L - (intOf x).toNat)
    case atStart => exact ⟨0, Nat.zero_le _, rfl, Lib.hid (allTo_zero _), hu, BB⟩
    case round =>
      clear hu BB
      obtain ⟨i, hi, rfl, hall, hu, BB⟩ := hrel
      by_cases hlt : i < L
      · obtain ⟨gs, rfl, _, _⟩ := hfS (by omega)
        obtain ⟨wo, rfl⟩ : ∃ wo : World, wo = wr := ⟨_, rfl⟩
        obtain ⟨d1, _⟩ := OwnI.at_ hu.out (k := i) (by rw [natI_len, hL.out]; exact hlt)
        rw [nth_natI (by rw [hL.out]; exact hlt)] at d1
        have hgi : G.getD i 0 < n := by
          have h1 : i < G.length := by rw [hL.out]; exact hlt
          have : G.getD i 0 ∈ G := by rw [List.getD_eq_getElem?_getD, List.getElem?_eq_getElem h1]; exact List.getElem_mem h1
          have := hGn.out _ this
          have := hlen.out
          omega
        have hpi := Lib.hid (fun k : Nat => (rfl : pairB (adjB ps l) G i k = adjB ps l (G.getD i 0) (G.getD k 0)))
        generalize hgi0 : G.getD i 0 = gi at *
        replace hgi0 := Lib.hid hgi0
        obtain ⟨b, o, rfl⟩ := HP.out.form.2.2.2 (by omega)
        go_wp2_with fail
        go_loopw [11] (fun x wr => ∃ k : Nat, k ≤ i ∧ x = .int .i64 k ∧ Hid (AllTo (pairB (adjB ps l) G i) k) ∧ Hid (OwnI w1.heap.size (.slice (some ⟨gs, 0, none⟩) (natI G).length cS) (natI G) wr) ∧ Below w.heap.size w wr) (fun x _ => i - (intOf x).toNat)
        case atStart => exact ⟨0, Nat.zero_le _, rfl, Lib.hid (allTo_zero _), hu, BB⟩
        case round =>
          clear hu BB d1
          obtain ⟨k, hk, rfl, hin, hu, BB⟩ := hrel
          have hgl := (World.ownsRow.lt hu.out gs rfl).2
          obtain ⟨d1, _⟩ := OwnI.at_ hu.out (k := i) (by rw [natI_len, hL.out]; exact hlt)
          rw [nth_natI (by rw [hL.out]; exact hlt)] at d1
          have hgie : G.getD i 0 = gi := hgi0.out
          rw [hgie] at d1
          by_cases hkl : k < i
          · obtain ⟨d2, _⟩ := OwnI.at_ hu.out (k := k) (by rw [natI_len, hL.out]; omega)
            rw [nth_natI (by rw [hL.out]; omega)] at d2
            have hgk : G.getD k 0 < n := by
              have h1 : k < G.length := by rw [hL.out]; omega
              have : G.getD k 0 ∈ G := by rw [List.getD_eq_getElem?_getD, List.getElem?_eq_getElem h1]; exact List.getElem_mem h1
              have := hGn.out _ this
              have := hlen.out
              omega
            have hpk : pairB (adjB ps l) G i k = adjB ps l gi (G.getD k 0) := by rw [← hgi0.out]; rfl
            generalize G.getD k 0 = gk at *
            replace hpk := Lib.hid hpk
            have hX := per_at (ps := ps) (k := gi) (by have := hlen.out; omega)
            obtain ⟨p, hx⟩ := hX
            have hY := per_at (ps := ps) (k := gk) (by have := hlen.out; omega)
            obtain ⟨qq, hy⟩ := hY
            have ha := adjB_at (l := l) hx hy
            have fp := Lib.hid (FF.out.at_ hx)
            have fq := Lib.hid (FF.out.at_ hy)
            have bp := Lib.hid (VB.out gi p hx)
            have bq := Lib.hid (VB.out gk qq hy)
            obtain ⟨_, p0, p1, p2, p3, p4⟩ := (HP.out.below BB).at_ hx
            obtain ⟨_, x0, x1, x2, x3, x4⟩ := (HP.out.below BB).at_ hy
            have hlik := Lib.hid (fun w => spec_lik_l p qq fp.out fq.out bp.out bq.out w)
            generalize lik p qq = lk at *
            clear hx hy
            by_cases q3 : l ≤ lk
            · have hnext := Lib.hid (hin.out.succ (show pairB (adjB ps l) G i k = true by rw [hpk.out, ha]; exact decide_eq_true q3))
              clear ha hpk hgie
              go_wp2_with fail
              refine region_ext (by kernel_rfl) (by kernel_rfl) ?_
              repeat (go_big_quiet_step ((with_reducible_and_instances exact ext_call (hlik.out _))))
              refine wpQuiet_nil ?_
              rintro _ ⟨nx, rfl⟩
              have b3 := ext_below _ nx
              generalize extW _ nx = w3 at *
              replace BB := below_next BB (Nat.le_refl _) b3
              replace hu := Lib.hid (hu.out.below b3)
              clear p0 p1 p2 p3 p4 x0 x1 x2 x3 x4 d1 d2
              go_wp2_with fail
              go_roundw
              case rel => exact ⟨k + 1, by omega, by go_num, hnext, hu, BB⟩
              case measure => simp [intOf]; omega
            · have q3' : lk < l := by omega
              have hf : Hid (tB (adjB ps l) G = false) := Lib.hid (by
                have h1 : pairB (adjB ps l) G i k = false := by rw [hpk.out, ha]; exact decide_eq_false q3
                exact allB_false (k := i) (by rw [hL.out]; exact hlt) (allB_false (k := k) (by rw [hL.out]; omega) h1))
              clear ha hpk q3 hgie
              go_wp2_with fail
              refine region_ext (by kernel_rfl) (by kernel_rfl) ?_
              repeat (go_big_quiet_step ((with_reducible_and_instances exact ext_call (hlik.out _))))
              refine wpQuiet_nil ?_
              rintro _ ⟨nx, rfl⟩
              have b3 := ext_below _ nx
              generalize extW _ nx = w3 at *
              replace BB := below_next BB (Nat.le_refl _) b3
              clear p0 p1 p2 p3 p4 x0 x1 x2 x3 x4 d1 d2
              go_wp2_with fail
              go_ret2
              exact ⟨bi_ret hf.out.symm rfl, BB⟩
          · have hkeq : k = i := by omega
            have hnext := Lib.hid (hall.out.succ (show (fun i => allB (pairB (adjB ps l) G i) i) i = true from allB_true (hkeq ▸ hin.out)))
            clear hkeq hgie
            go_wp2_with fail
            clear d1
            go_roundw
            case rel => exact ⟨i + 1, by omega, by go_num, hnext, hu, BB⟩
            case measure => simp [intOf]; omega
      · have hf : Hid (tB (adjB ps l) G = true) := Lib.hid (by
          rw [← hsB.out, sB, hL.out]; exact allB_true fun j hj => hall.out j (by omega))
        clear hu
        go_wp2_with fail
        go_ret2
        exact ⟨bi_ret hf.out.symm rfl, BB⟩
  · have R1 : Hid (tgB ps l i = false) := Lib.hid (by unfold tgB; rw [if_neg q])
    have q1 : (jcode ps l [i] != 0) = true := by simpa using q
    rw [R1.out]
    replace HC := Lib.hid HC
    clear q R1
    generalize jcode ps l [i] = cc at *
    go_enter Try.func16, Try.ntmps16
    go_wp2_with fail
    refine HC.out.mono ?_
    rintro e w1 ⟨rfl, b1⟩
    have BB := below_next b0 (Nat.le_refl _) b1
    go_wp2_with fail
    go_ret2
    exact ⟨rfl, BB⟩
end Go.Proofs.Ytehfhpedpdofkaa
