/-
  Slices of slices of numbers: how they are compared, marked and looked through again.
  Conditions: each lemma names its own.
-/
import Derived.Test.YtehfhpedpdofkaaTab
import Derived.Test.YtehfhpedpdofkaaMark
import Derived.Test.YtehfhpedpdofkaaMarkPer
import Derived.Test.YtehfhpedpdofkaaIntsEq
namespace Go.Proofs.Ytehfhpedpdofkaa
open Go.RowKit
set_option linter.unusedVariables false

/-- v reads as slices that read as xss. -/
def TabR (w : World) (v : Value) (xss : List (List Int)) : Prop :=
  ∃ vs : List Value, Row w 1 v xss.length vs ∧ ∀ (i : Nat) (u : Value) (xs : List Int), vs[i]? = some u → xss[i]? = some xs → Ints w u xs
theorem TabR.below {w w' : World} {v : Value} {xss : List (List Int)} (h : TabR w v xss) (hb : Below w.heap.size w w') : TabR w' v xss := by
  obtain ⟨vs, h1, h2⟩ := h
  exact ⟨vs, h1.below hb, fun i u xs hu hx => (h2 i u xs hu hx).below hb⟩
theorem Tab.reads {base : Nat} {w : World} {v : Value} {xss : List (List Int)} (h : Tab base v xss w) : TabR w v xss := by
  obtain ⟨vs, h1, h2, _, _⟩ := h
  exact ⟨vs, Row.own h1, fun i u xs hu hx => Ints.own (h2 i u xs hu hx)⟩
theorem TabR.form {w : World} {v : Value} {xss : List (List Int)} (h : TabR w v xss) : ∃ a c, v = .slice a xss.length c ∧ xss.length ≤ c ∧ c ≤ maxLen := by
  obtain ⟨vs, ⟨_, a, c, hv, h2, h3, _⟩, _⟩ := h
  exact ⟨a, c, hv, h2, h3⟩
theorem TabR.at_ {w : World} {a : Option Addr} {n c k : Nat} {xss : List (List Int)} (h : TabR w (.slice a n c) xss) (hk : k < n) :
    ∃ b o u xs, a = some ⟨b, o, none⟩ ∧ b < w.heap.size ∧ w.cell? ⟨b, o + k, none⟩ = some u ∧ xss[k]? = some xs ∧ Ints w u xs := by
  obtain ⟨vs, ⟨hl, a', c', hv, h2, h3, h0, h4⟩, h5⟩ := h
  injection hv with e1 e2 e3
  subst e1 e2 e3
  obtain ⟨b, o, ha, hb, hc⟩ := h4 (by omega)
  have hk' : k < vs.length := by omega
  exact ⟨b, o, vs[k], xss[k], ha, hb, hc k _ (List.getElem?_eq_getElem hk'), List.getElem?_eq_getElem hk, h5 k _ _ (List.getElem?_eq_getElem hk') (List.getElem?_eq_getElem hk)⟩
theorem eqI_same {v u : Value} {xs : List Int} {w : World} (h : Ints w v xs) (g : Ints w u xs) :
    Calls Try.prog 22 #[v, u] w fun e w' => e = .returned (.bool true) ∧ Below w.heap.size w w' :=
  (eqInt64S_c h g).mono fun _ _ ⟨he, m, hw⟩ => ⟨by rw [he]; simp, by rw [hw]; exact below_drewN (Below.refl _ _) m⟩

set_option maxHeartbeats 1000000 in
theorem eqInt64SS_same {v u : Value} {xss : List (List Int)} {w : World} (h : TabR w v xss) (g : TabR w u xss) :
    Calls Try.prog 31 #[v, u] w fun e w' => e = .returned (.bool true) ∧ Below w.heap.size w w' := by
  obtain ⟨a, c, rfl, hcap, hmost⟩ := h.form
  obtain ⟨a', c', rfl, hcap', hmost'⟩ := g.form
  have HP := Lib.hid h
  have HG := Lib.hid g
  clear h g
  generalize hn : xss.length = n at *
  clear hn
  unfold maxLen at hmost hmost'
  go_enter Try.func31, Try.ntmps31
  go_wp2_with fail
  go_loopw [5] (fun i wr => ∃ k : Nat, k ≤ n ∧ i = .int .i64 k ∧ Below w.heap.size w wr) (fun i _ => n - (intOf i).toNat)
  case atStart => exact ⟨0, Nat.zero_le _, rfl, Below.refl _ _⟩
  case round =>
    obtain ⟨k, hk, rfl, BB⟩ := hrel
    rename_i wr
    by_cases hlt : k < n
    · obtain ⟨b, o, x, xs, hab, hbb, c0, hx, hi⟩ := (HP.out.below BB).at_ hlt
      obtain ⟨b', o', x', xs', hab', hbb', d0, hx', hi'⟩ := (HG.out.below BB).at_ hlt
      subst hab hab'
      obtain rfl : xs = xs' := by rw [hx] at hx'; injection hx'
      have HE := Lib.hid (fun n : Ext wr => eqI_same (hi.below (ext_below wr n)) (hi'.below (ext_below wr n)))
      clear hx hx' hi hi'
      go_wp2_with fail
      refine region_ext (by kernel_rfl) (by kernel_rfl) ?_
      repeat (go_big_quiet_step ((with_reducible_and_instances exact ext_call (HE.out _))))
      refine wpQuiet_nil ?_
      rintro _ ⟨nx, rfl⟩
      have b3 := ext_below _ nx
      clear HE
      generalize extW _ nx = w3 at *
      replace BB := below_next BB (Nat.le_refl _) b3
      clear c0 d0
      go_wp2_with fail
      go_roundw
      case rel => exact ⟨k + 1, by omega, by go_num, BB⟩
      case measure => simp [intOf]; omega
    · go_wp2_with fail
      go_ret
      exact ⟨rfl, BB⟩

set_option maxHeartbeats 400000 in
theorem mark_g {v : Value} {n : Nat} {cs : List Value} {base : Nat} {w : World} (k : Int) (h : w.ownsRow base 2 1 v n cs) (hk0 : 0 ≤ k) (hk1 : k ≤ 4294967296) (hn : n ≤ 1073741824) :
    Calls Try.prog 24 #[v, .int .i64 k] w fun e w' => e = .returned (.int .i64 (k + n)) ∧ w'.ownsRow base 2 1 v n ((marks k n).map (Value.int .i64)) ∧ Below base w w' ∧ w.grownBy w' v.ownBlock := by
  obtain ⟨a, c, rfl, hcap, hmost, ha⟩ := own_form h
  unfold maxLen at hmost
  have hf := filled_start h (marks_len k n)
  clear h
  go_enter Try.func24, Try.ntmps24
  go_wp2
  go_loopw [1, 5] (fun q i wr => ∃ j : Nat, j ≤ n ∧ i = .int .i64 j ∧ q = .int .i64 (k + j) ∧ Below base w wr ∧ w.grownBy wr (Value.slice a n c).ownBlock ∧ Filled base wr (.slice a n c) (marks k n) j) (fun _ i _ => n - (intOf i).toNat)
  case atStart => exact ⟨0, Nat.zero_le _, rfl, by simp, Below.refl _ _, World.grownBy.refl _ _, hf⟩
  case round =>
    obtain ⟨j, hj, rfl, rfl, hb, hgr, hfi⟩ := hrel
    clear hf
    by_cases hlt : j < n
    · obtain ⟨g, hg, hbg, _⟩ := ha (by omega)
      subst hg
      obtain ⟨⟨u, hu⟩, hfz, hst⟩ := hfi.step (marks_len k n) (marks_at k hlt)
      have hb' := hb.setCell (p := ⟨g, j, none⟩) hbg (.int .i64 (k + j))
      have hg' := hgr.trans (grown_set wr g j (.int .i64 (k + j)))
      have HA := Lib.hid ha
      clear hfi ha hgr
      go_wp2
      go_roundw
      case rel => exact ⟨j + 1, by omega, by go_num, by go_num, hb', hg', hst⟩
      case measure => simp [intOf]; omega
    · obtain rfl : j = n := by omega
      have hl := marks_len k j
      have hfin : wr.ownsRow base 2 1 (.slice a j c) j ((marks k j).map (Value.int .i64)) := by
        have hq : Filled base wr (.slice a j c) (marks k j) (marks k j).length := by rw [hl]; exact hfi
        have := hq.full
        rw [hl] at this
        exact this
      clear hfi hl ha
      go_wp2
      go_ret
      exact ⟨rfl, hfin, hb, hgr⟩

def tot (xss : List (List Int)) : Nat := (xss.map List.length).sum
def marksS : Int → List (List Int) → List (List Int)
  | _, [] => []
  | k, xs :: r => marks k xs.length :: marksS (k + xs.length) r
theorem marksS_len : ∀ (k : Int) (xss : List (List Int)), (marksS k xss).length = xss.length
  | _, [] => rfl
  | k, xs :: r => by simp [marksS, marksS_len _ r]
theorem marksS_at : ∀ (k : Int) (xss : List (List Int)) (i : Nat) (xs : List Int), xss[i]? = some xs → (marksS k xss)[i]? = some (marks (k + (tot (xss.take i) : Nat)) xs.length)
  | _, [], i, xs, h => by simp at h
  | k, x :: r, 0, xs, h => by
    simp at h
    subst h
    simp [marksS, tot]
  | k, x :: r, i + 1, xs, h => by
    simp only [List.getElem?_cons_succ] at h
    simp only [marksS, List.getElem?_cons_succ, List.take_succ_cons]
    rw [marksS_at _ r i xs h]
    congr 2
    simp only [tot, List.map_cons, List.sum_cons]
    omega
theorem tot_take {xss : List (List Int)} {i : Nat} {xs : List Int} (h : xss[i]? = some xs) : tot (xss.take (i + 1)) = tot (xss.take i) + xs.length := by
  rw [List.take_add_one, h]
  simp [tot]
theorem tot_le (xss : List (List Int)) (i : Nat) : tot (xss.take i) ≤ tot xss := by
  have : tot xss = tot (xss.take i) + tot (xss.drop i) := by
    conv => lhs; rw [← List.take_append_drop i xss]
    simp only [tot, List.map_append, List.sum_append]
  omega
theorem tot_marks : ∀ (k : Int) (xss : List (List Int)), tot (marksS k xss) = tot xss
  | _, [] => rfl
  | k, xs :: r => by
    have := tot_marks (k + xs.length) r
    simp only [tot, marksS, List.map_cons, List.sum_cons, marks_len] at *
    omega

set_option maxHeartbeats 1000000 in
theorem markInt64SS_c {base : Nat} {v : Value} {xss : List (List Int)} {w : World} (k : Int) (h : Tab base v xss w) (hb0 : base ≤ w.heap.size) (hk0 : 0 ≤ k) (hk1 : k + (tot xss : Int) ≤ 1073741824) :
    Calls Try.prog 32 #[v, .int .i64 k] w fun e w' => e = .returned (.int .i64 (k + (tot xss : Nat))) ∧ Tab base v (marksS k xss) w' ∧ Below base w w' := by
  obtain ⟨a, c, rfl, hcap, hmost, ha⟩ := h.form
  obtain ⟨vs, h1, h2, h3, h4⟩ := h
  have hlen : vs.length = xss.length := by have := h1.1; omega
  have H3 := Lib.hid h3
  have H4 := Lib.hid h4
  have HL := Lib.hid hlen
  have HT := Lib.hid (tot_le xss)
  have HN : Hid (xss.length = xss.length) := Lib.hid rfl
  clear h3 h4 hlen
  generalize hn : xss.length = n at *
  have Hn := Lib.hid hn
  clear hn HN
  unfold maxLen at hmost
  have H1 := Lib.hid h1
  have H2 : Hid (∀ (i : Nat) (u : Value) (ys : List Int), vs[i]? = some u → (if i < 0 then (marksS k xss)[i]? else xss[i]?) = some ys → OwnI base u ys w) := Lib.hid fun i u ys hu hy => h2 i u ys hu (by simpa using hy)
  clear h1 h2
  go_enter Try.func32, Try.ntmps32
  go_wp2_with fail
  go_loopw [1, 5] (fun q i wr => ∃ j : Nat, j ≤ n ∧ i = .int .i64 j ∧ q = .int .i64 (k + (tot (xss.take j) : Nat)) ∧ Below base w wr ∧ Hid (wr.ownsRow base 34 1 (.slice a n c) n vs) ∧ Hid (∀ (i : Nat) (u : Value) (ys : List Int), vs[i]? = some u → (if i < j then (marksS k xss)[i]? else xss[i]?) = some ys → OwnI base u ys wr)) (fun _ i _ => n - (intOf i).toNat)
  case atStart => exact ⟨0, Nat.zero_le _, rfl, by simp [tot], Below.refl _ _, H1, H2⟩
  case round =>
    obtain ⟨j, hj, rfl, rfl, hb, hO, hI⟩ := hrel
    clear H1 H2
    have ht := HT.out j
    by_cases hlt : j < n
    · obtain ⟨g, hag, hbg, hgw⟩ := ha (by omega)
      subst hag
      have HA := Lib.hid ha
      have hjv : j < vs.length := by have := HL.out; omega
      obtain ⟨u, hu⟩ : ∃ u, vs[j]? = some u := ⟨vs[j], List.getElem?_eq_getElem hjv⟩
      obtain ⟨xs, hx⟩ : ∃ xs, xss[j]? = some xs := ⟨xss[j]'(by have := Hn.out; omega), List.getElem?_eq_getElem _⟩
      have hui : OwnI base u xs wr := hI.out j u xs hu (by rw [if_neg (by omega)]; exact hx)
      have hcell : wr.cell? ⟨g, j, none⟩ = some u := by rw [World.ownsRow.cellAt hO.out j (by omega), hu]
      have htt := tot_take hx
      have ht2 := HT.out (j + 1)
      have HC := mark_g (k + (tot (xss.take j) : Nat)) hui (by omega) (by omega) (by omega)
      have Hu := Lib.hid hu
      have Hx := Lib.hid hx
      clear ha hu hx hui
      generalize htj : tot (xss.take j) = tj at *
      have HT2 := Lib.hid htj
      clear htj
      have HTT := Lib.hid htt
      clear htt
      go_wp2_with fail
      refine HC.mono ?_
      rintro e w2 ⟨rfl, ho2, b2, g2⟩
      clear hcell HC
      have hO2 : Hid (w2.ownsRow base 34 1 (.slice (some ⟨g, 0, none⟩) n c) n vs) := Lib.hid (hO.out.kept g2 (.inr fun e => H4.out j u g Hu.out e.symm rfl))
      have hI2 : Hid (∀ (i : Nat) (u : Value) (ys : List Int), vs[i]? = some u → (if i < j + 1 then (marksS k xss)[i]? else xss[i]?) = some ys → OwnI base u ys w2) := Lib.hid (fun i u' ys hu' hy => by
        rcases Nat.lt_trichotomy i j with hij | hij | hij
        · refine World.ownsRow.kept (hI.out i u' ys hu' (by rw [if_pos hij]; rw [if_pos (by omega)] at hy; exact hy)) g2 ?_
          cases hq : u'.ownBlock with
          | none => exact .inl rfl
          | some q => exact .inr fun e => H3.out i j u' u q (by omega) hu' Hu.out hq e.symm
        · subst hij
          rw [Hu.out] at hu'
          injection hu' with hu'
          subst hu'
          rw [if_pos (by omega), marksS_at k xss i xs Hx.out] at hy
          injection hy with hy
          subst hy
          have := HT2.out
          rw [this]
          show w2.ownsRow base _ 1 _ _ _
          rw [marks_len]
          exact ho2
        · refine World.ownsRow.kept (hI.out i u' ys hu' (by rw [if_neg (by omega)]; rw [if_neg (by omega)] at hy; exact hy)) g2 ?_
          cases hq : u'.ownBlock with
          | none => exact .inl rfl
          | some q => exact .inr fun e => H3.out i j u' u q (by omega) hu' Hu.out hq e.symm)
      replace hb := hb.trans b2
      clear b2 g2 ho2 hO hI
      go_wp2_with fail
      go_roundw
      case rel => exact ⟨j + 1, by omega, by go_num, by rw [HTT.out]; go_num, hb, hO2, hI2⟩
      case measure => simp [intOf]; omega
    · obtain rfl : j = n := by omega
      have htn : tot (xss.take j) = tot xss := by rw [List.take_of_length_le (by have := Hn.out; omega)]
      rw [htn]
      have hfin : Tab base (.slice a j c) (marksS k xss) wr := by
        refine ⟨vs, by rw [marksS_len, Hn.out]; exact hO.out, fun i u ys hu hy => ?_, H3.out, H4.out⟩
        have hi : i < vs.length := (List.getElem?_eq_some_iff.1 hu).1
        exact hI.out i u ys hu (by rw [if_pos (by have := HL.out; omega)]; exact hy)
      clear ht htn hO hI ha
      go_wp2_with fail
      go_ret
      exact ⟨rfl, hfin, hb⟩

set_option maxHeartbeats 1000000 in
theorem heldInt64SS_c {v : Value} {xss : List (List Int)} {w : World} (k : Int) (h : TabR w v (marksS k xss)) (hk0 : 0 ≤ k) (hk1 : k + (tot xss : Int) ≤ 1073741824) :
    Calls Try.prog 33 #[v, .int .i64 k] w fun e w' => e = .returned (.int .i64 (k + (tot xss : Nat))) ∧ Below w.heap.size w w' := by
  obtain ⟨a, c, rfl, hcap, hmost⟩ := h.form
  have HP := Lib.hid h
  clear h
  rw [marksS_len] at HP hcap
  rw [marksS_len]
  have HT := Lib.hid (tot_le xss)
  generalize hn : xss.length = n at *
  have Hn := Lib.hid hn
  clear hn
  unfold maxLen at hmost
  go_enter Try.func33, Try.ntmps33
  go_wp2_with fail
  go_loopw [1, 5] (fun q i wr => ∃ j : Nat, j ≤ n ∧ i = .int .i64 j ∧ q = .int .i64 (k + (tot (xss.take j) : Nat)) ∧ Below w.heap.size w wr) (fun _ i _ => n - (intOf i).toNat)
  case atStart => exact ⟨0, Nat.zero_le _, rfl, by simp [tot], Below.refl _ _⟩
  case round =>
    obtain ⟨j, hj, rfl, rfl, hb⟩ := hrel
    have ht := HT.out j
    by_cases hlt : j < n
    · obtain ⟨b, o, u, ys, hab, hbb, hcell, hx, hi⟩ := (HP.out.below hb).at_ hlt
      subst hab
      obtain ⟨xs, hxs⟩ : ∃ xs, xss[j]? = some xs := ⟨xss[j]'(by have := Hn.out; omega), List.getElem?_eq_getElem _⟩
      rw [marksS_at k xss j xs hxs] at hx
      injection hx with hx
      subst hx
      have htt := tot_take hxs
      have ht2 := HT.out (j + 1)
      have HC := held_c (k + (tot (xss.take j) : Nat)) hi (by omega) (by omega) (by omega)
      clear hi hxs
      generalize tot (xss.take j) = tj at *
      have HTT := Lib.hid htt
      have ht2' : (tj : Int) + xs.length ≤ tot xss := by omega
      clear htt ht2
      go_wp2_with fail
      refine HC.mono ?_
      rintro e w2 ⟨rfl, m, rfl⟩
      clear HC
      replace hb := below_drewN hb m
      go_wp2_with fail
      go_roundw
      case rel => exact ⟨j + 1, by omega, by go_num, by rw [HTT.out]; go_num, hb⟩
      case measure => simp [intOf]; omega
    · obtain rfl : j = n := by omega
      have htn : tot (xss.take j) = tot xss := by rw [List.take_of_length_le (by have := Hn.out; omega)]
      rw [htn]
      clear ht htn
      go_wp2_with fail
      go_ret
      exact ⟨rfl, hb⟩
end Go.Proofs.Ytehfhpedpdofkaa
