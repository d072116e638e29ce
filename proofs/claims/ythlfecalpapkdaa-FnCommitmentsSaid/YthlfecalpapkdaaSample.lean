/-
  ShuffleNumbers and SampleOf of both packages: what each call returns.
  Conditions: each lemma names its own.
-/
import Derived.Test.YthlfecalpapkdaaShuffle
namespace Go.Proofs.Ythlfecalpapkdaa
open Go.RowKit
set_option linter.unusedVariables false

/-- The first k elements of what is owned. -/
theorem own_cut {w : World} {base : Nat} {e : TypeId} {a : Option Addr} {n cap : Nat} {xs : List Int} {k : Nat} (h : w.ownsRow base e 1 (.slice a n cap) n (xs.map (Value.int .i64))) (hk : k ≤ n) :
    w.ownsRow base e 1 (.slice a k cap) k ((xs.take k).map (Value.int .i64)) := by
  have hl : xs.length = n := by have := h.1; simpa using this
  refine ⟨by simp; omega, ?_⟩
  rcases h.2 with ⟨hv, hn⟩ | ⟨g, cap', cur, hv, hb, hg, hnc, hm, hs, ht⟩
  · injection hv with ha hn' hc
    subst ha hc hn
    obtain rfl : k = 0 := by omega
    exact .inl ⟨rfl, rfl⟩
  · injection hv with ha _ hc
    subst ha hc
    refine .inr ⟨g, cap, cur, rfl, hb, hg, by omega, hm, hs, ?_⟩
    rw [List.map_take, ← ht, List.take_take]
    congr 1
    omega
theorem own_nil_cap {w : World} {base : Nat} {e : TypeId} {a : Option Addr} {n n' cap : Nat} {cs : List Value} (h : w.ownsRow base e 1 (.slice a n cap) n' cs) : a = none → cap = 0 := by
  intro ha
  subst ha
  rcases h.2 with ⟨hv, _⟩ | ⟨g, cap', cur, hv, _⟩
  · injection hv
  · injection hv with ha
    cases ha

set_option maxHeartbeats 400000 in
theorem clone_c {v : Value} {xs : List Int} {w : World} (h : Ints w v xs) (hn : xs.length ≤ 1048576) :
    Calls Try.prog 64 #[v] w fun e w' => ∃ v, e = .returned v ∧ w'.ownsRow w.heap.size 2 1 v xs.length ((xs).map (Value.int .i64)) ∧ Below w.heap.size w w' := by
  obtain ⟨a, n, c, rfl, H⟩ := h.parts
  have hlen := Lib.hid H.len
  have hcap := H.cap
  have hmost := H.most
  have hnil := Lib.hid H.nil
  have hn' : n ≤ 1048576 := by have := hlen.out; omega
  unfold maxLen at hmost
  obtain ⟨i0, hi, hz0, hz1, hz2⟩ := info_parts info_i64
  have HZ := Lib.hid hz2
  clear hz2
  go_enter Try.func64, Try.ntmps64
  go_wp2_with (first | (at_make; refine wpList_make_own _ rfl _ _ 22 rfl w.heap.size 2 i0 (.int .i64 0) 1 Try.underlying22 hi hz0 hz1 _ _ _ n rfl rfl rfl ?b2 ?b3 ?b4 ?_))
  case b2 => rw [HZ.out]; omega
  case b3 => unfold maxLen; omega
  case b4 => exact Nat.le_refl _
  intro w1 hown hgrow
  have hbel : Below w.heap.size w w1 := (Below.refl _ _).grown hgrow (Nat.le_refl _) (fun k hk => by cases hk)
  have hsz := hbel.size
  have hcells : ∀ ad, a = some ad → ∀ j u, (xs.map (Value.int .i64))[j]? = some u → w1.cell? (ad.add j) = some u := by
    intro ad had j u hu
    have hj : 0 < n := by
      rcases Nat.eq_zero_or_pos n with h0 | h0
      · have : xs = [] := List.eq_nil_of_length_eq_zero (by have := hlen.out; omega)
        subst this
        simp at hu
      · exact h0
    obtain ⟨b, o, ha, hbb, hc⟩ := H.cells hj
    rw [had] at ha
    injection ha with ha
    subst ha
    rw [List.getElem?_map] at hu
    cases hx : xs[j]? with
    | none => rw [hx] at hu; cases hu
    | some x =>
      rw [hx] at hu
      injection hu with hu
      rw [Addr.add_lit, ← hu]
      exact (hbel.cell (p := ⟨b, o + j, none⟩) hbb).trans (hc j x hx)
  have HC := Lib.hid hcells
  clear hcells hgrow H
  go_wp2_with (at_builtin; refine wpList_append_fits_any _ rfl _ _ 22 rfl w.heap.size 2 i0 1 Try.underlying22 hi hz1 w.heap.size 0 n [] rfl hown _ n c (xs.map (Value.int .i64)) rfl ?d1 ?d2 ?d3 ?d4 ?d5 ?_)
  case d1 => simpa using hlen.out
  case d2 => intro ha; have := hnil.out ha; omega
  case d3 => exact HC.out
  case d4 => exact ints_oneCell _ _
  case d5 => omega
  intro w2 hown2 hgrow2
  have hb2 := hbel.grown hgrow2 hsz (fun k hk => by injection hk with hk; omega)
  have hfin : w2.ownsRow w.heap.size 2 1 (.slice (some ⟨w.heap.size, 0, none⟩) n n) xs.length (xs.map (Value.int .i64)) := by
    have hl := hlen.out
    subst hl
    simpa using hown2
  clear hown hown2 hgrow2 hbel
  go_wp2_with fail
  go_ret
  exact ⟨_, rfl, hfin, hb2⟩

theorem impl_ShuffleNumbers_ok {w : World} (a0 : Int) (n : Nat) (h1 : 1 ≤ a0) (h2 : a0 ≤ 2147483646) (hn : n ≤ 200) :
    Calls Try.prog 19 #[.int .i64 a0, .int .i64 n] w fun e w' => ∃ v, e = .returned (.tuple #[v, .int .i64 0]) ∧ w'.ownsRow w.heap.size 2 1 v n ((shufL a0 n).map (Value.int .i64)) ∧ Below w.heap.size w w' := by
  go_enter Try.func19, Try.ntmps19
  go_wp2_with fail
  refine (isState_yes _ h1 h2 _).mono ?_
  rintro e w' ⟨rfl, rfl⟩
  go_wp2_with fail
  refine (isDrawn_yes (n : Int) (by omega) (by omega) _).mono ?_
  rintro e w' ⟨rfl, rfl⟩
  go_wp2_with fail
  refine (impl_shuffle_c a0 n h1 h2 hn).mono ?_
  rintro e w1 ⟨v1, rfl, o1, b1⟩
  go_wp2_with fail
  go_ret2
  exact ⟨_, rfl, o1, b1⟩

theorem spec_ShuffleNumbers_ok {w : World} (a0 : Int) (n : Nat) (h1 : 1 ≤ a0) (h2 : a0 ≤ 2147483646) (hn : n ≤ 200) :
    Calls Try.prog 18 #[.int .i64 a0, .int .i64 n] w fun e w' => ∃ v, e = .returned (.tuple #[v, .int .i64 0]) ∧ w'.ownsRow w.heap.size 2 1 v n ((shufL a0 n).map (Value.int .i64)) ∧ Below w.heap.size w w' := by
  go_enter Try.func18, Try.ntmps18
  go_wp2_with fail
  refine (l03Code_ok _ (n : Int) h1 h2 (by omega) (by omega) _).mono ?_
  rintro e w' ⟨rfl, rfl⟩
  go_wp2_with fail
  refine (spec_shuffle_c a0 n h1 h2 hn).mono ?_
  rintro e w1 ⟨v1, rfl, o1, b1⟩
  go_wp2_with fail
  go_ret2
  exact ⟨_, rfl, o1, b1⟩

theorem spec_ShuffleNumbers_bad {w : World} (a0 n : Int) (h : ¬ ((1 ≤ a0 ∧ a0 ≤ 2147483646) ∧ 0 ≤ n ∧ n ≤ 200)) :
    Calls Try.prog 18 #[.int .i64 a0, .int .i64 n] w fun e w' => ∃ v, e = .returned (.tuple #[v, .int .i64 2]) ∧ w'.ownsRow w.heap.size 2 1 v 0 (([] : List Int).map (Value.int .i64)) ∧ Below w.heap.size w w' := by
  have HH := Lib.hid h
  clear h
  go_enter Try.func18, Try.ntmps18
  go_wp2_with fail
  refine (l03Code_bad _ _ HH.out _).mono ?_
  rintro e w' ⟨rfl, rfl⟩
  go_wp2_with fail
  go_ret2
  exact ⟨_, rfl, World.ownsRow_nil _ _ _ _, Below.refl _ _⟩

theorem impl_ShuffleNumbers_bad {w : World} (a0 n : Int) (h : ¬ ((1 ≤ a0 ∧ a0 ≤ 2147483646) ∧ 0 ≤ n ∧ n ≤ 200)) :
    Calls Try.prog 19 #[.int .i64 a0, .int .i64 n] w fun e w' => ∃ v, e = .returned (.tuple #[v, .int .i64 2]) ∧ w'.ownsRow w.heap.size 2 1 v 0 (([] : List Int).map (Value.int .i64)) ∧ Below w.heap.size w w' := by
  by_cases q : 1 ≤ a0 ∧ a0 ≤ 2147483646
  · have HQ := Lib.hid q
    have HN : Hid (n < 0 ∨ 200 < n) := Lib.hid (by omega)
    clear q h
    go_enter Try.func19, Try.ntmps19
    go_wp2_with fail
    refine (isState_yes _ HQ.out.1 HQ.out.2 _).mono ?_
    rintro e w' ⟨rfl, rfl⟩
    go_wp2_with fail
    refine (isDrawn_no _ HN.out _).mono ?_
    rintro e w' ⟨rfl, rfl⟩
    go_wp2_with fail
    go_ret2
    exact ⟨_, rfl, World.ownsRow_nil _ _ _ _, Below.refl _ _⟩
  · have HN : Hid (a0 < 1 ∨ 2147483646 < a0) := Lib.hid (by omega)
    clear q h
    go_enter Try.func19, Try.ntmps19
    go_wp2_with fail
    refine (isState_no _ HN.out _).mono ?_
    rintro e w' ⟨rfl, rfl⟩
    go_wp2_with fail
    go_ret2
    exact ⟨_, rfl, World.ownsRow_nil _ _ _ _, Below.refl _ _⟩

theorem impl_sample_c {w : World} (a0 : Int) (n k : Nat) (h1 : 1 ≤ a0) (h2 : a0 ≤ 2147483646) (hn : n ≤ 200) (hk : k ≤ n) :
    Calls Try.prog 51 #[.int .i64 a0, .int .i64 n, .int .i64 k] w fun e w' => ∃ v, e = .returned v ∧ w'.ownsRow w.heap.size 2 1 v k (((shufL a0 n).take k).map (Value.int .i64)) ∧ Below w.heap.size w w' := by
  go_enter Try.func51, Try.ntmps51
  go_wp2_with fail
  refine (impl_shuffle_c a0 n h1 h2 hn).mono ?_
  rintro e w1 ⟨v1, rfl, o1, b1⟩
  obtain ⟨a, c, hv, hcap, hmost, ha⟩ := own_form o1
  subst hv
  unfold maxLen at hmost
  have hnc := Lib.hid (own_nil_cap o1)
  have o2 := own_cut o1 hk
  have hl : ((shufL a0 n).take k).length = k := by rw [List.length_take, shufL_len]; omega
  have HL := Lib.hid hl
  clear hl
  have l1 := b1.size
  go_wp2_with fail
  refine (clone_c (Ints.own o2) (by rw [HL.out]; omega)).mono ?_
  rintro e w2 ⟨v2, rfl, o3, b3⟩
  go_wp2_with fail
  go_ret
  refine ⟨_, rfl, ?_, b1.trans (b3.mono l1)⟩
  have o4 := own_mono o3 l1
  rw [HL.out] at o4
  exact o4

theorem impl_SampleOf_ok {w : World} (a0 : Int) (n k : Nat) (h1 : 1 ≤ a0) (h2 : a0 ≤ 2147483646) (hn : n ≤ 200) (hk : k ≤ n) :
    Calls Try.prog 21 #[.int .i64 a0, .int .i64 n, .int .i64 k] w fun e w' => ∃ v, e = .returned (.tuple #[v, .int .i64 0]) ∧ w'.ownsRow w.heap.size 2 1 v k (((shufL a0 n).take k).map (Value.int .i64)) ∧ Below w.heap.size w w' := by
  go_enter Try.func21, Try.ntmps21
  go_wp2_with fail
  refine (isState_yes _ h1 h2 _).mono ?_
  rintro e w' ⟨rfl, rfl⟩
  go_wp2_with fail
  refine (isDrawn_yes (n : Int) (by omega) (by omega) _).mono ?_
  rintro e w' ⟨rfl, rfl⟩
  go_wp2_with fail
  refine (within_yes (k : Int) 0 (n : Int) (by omega) (by omega) _).mono ?_
  rintro e w' ⟨rfl, rfl⟩
  go_wp2_with fail
  refine (impl_sample_c a0 n k h1 h2 hn hk).mono ?_
  rintro e w1 ⟨v1, rfl, o1, b1⟩
  go_wp2_with fail
  go_ret2
  exact ⟨_, rfl, o1, b1⟩

theorem spec_SampleOf_ok {w : World} (a0 : Int) (n k : Nat) (h1 : 1 ≤ a0) (h2 : a0 ≤ 2147483646) (hn : n ≤ 200) (hk : k ≤ n) :
    Calls Try.prog 20 #[.int .i64 a0, .int .i64 n, .int .i64 k] w fun e w' => ∃ v, e = .returned (.tuple #[v, .int .i64 0]) ∧ w'.ownsRow w.heap.size 2 1 v k (((shufL a0 n).take k).map (Value.int .i64)) ∧ Below w.heap.size w w' := by
  go_enter Try.func20, Try.ntmps20
  go_wp2_with fail
  refine (l03Code_ok _ (n : Int) h1 h2 (by omega) (by omega) _).mono ?_
  rintro e w' ⟨rfl, rfl⟩
  go_wp2_with fail
  refine (in_yes (k : Int) 0 (n : Int) (by omega) (by omega) _).mono ?_
  rintro e w' ⟨rfl, rfl⟩
  go_wp2_with fail
  refine (spec_shuffle_c a0 n h1 h2 hn).mono ?_
  rintro e w1 ⟨v1, rfl, o1, b1⟩
  obtain ⟨a, c, hv, hcap, hmost, ha⟩ := own_form o1
  subst hv
  unfold maxLen at hmost
  have hnc := Lib.hid (own_nil_cap o1)
  have o2 := own_cut o1 hk
  go_wp2_with fail
  go_ret2
  exact ⟨_, rfl, o2, b1⟩

theorem impl_SampleOf_bad {w : World} (a0 n k : Int) (h : ¬ ((1 ≤ a0 ∧ a0 ≤ 2147483646) ∧ 0 ≤ n ∧ n ≤ 200)) :
    Calls Try.prog 21 #[.int .i64 a0, .int .i64 n, .int .i64 k] w fun e w' => ∃ v, e = .returned (.tuple #[v, .int .i64 2]) ∧ w'.ownsRow w.heap.size 2 1 v 0 (([] : List Int).map (Value.int .i64)) ∧ Below w.heap.size w w' := by
  by_cases q : 1 ≤ a0 ∧ a0 ≤ 2147483646
  · have HQ := Lib.hid q
    have HN : Hid (n < 0 ∨ 200 < n) := Lib.hid (by omega)
    clear q h
    go_enter Try.func21, Try.ntmps21
    go_wp2_with fail
    refine (isState_yes _ HQ.out.1 HQ.out.2 _).mono ?_
    rintro e w' ⟨rfl, rfl⟩
    go_wp2_with fail
    refine (isDrawn_no _ HN.out _).mono ?_
    rintro e w' ⟨rfl, rfl⟩
    go_wp2_with fail
    go_ret2
    exact ⟨_, rfl, World.ownsRow_nil _ _ _ _, Below.refl _ _⟩
  · have HN : Hid (a0 < 1 ∨ 2147483646 < a0) := Lib.hid (by omega)
    clear q h
    go_enter Try.func21, Try.ntmps21
    go_wp2_with fail
    refine (isState_no _ HN.out _).mono ?_
    rintro e w' ⟨rfl, rfl⟩
    go_wp2_with fail
    go_ret2
    exact ⟨_, rfl, World.ownsRow_nil _ _ _ _, Below.refl _ _⟩

theorem spec_SampleOf_bad {w : World} (a0 n k : Int) (h : ¬ ((1 ≤ a0 ∧ a0 ≤ 2147483646) ∧ 0 ≤ n ∧ n ≤ 200)) :
    Calls Try.prog 20 #[.int .i64 a0, .int .i64 n, .int .i64 k] w fun e w' => ∃ v, e = .returned (.tuple #[v, .int .i64 2]) ∧ w'.ownsRow w.heap.size 2 1 v 0 (([] : List Int).map (Value.int .i64)) ∧ Below w.heap.size w w' := by
  have HH := Lib.hid h
  clear h
  go_enter Try.func20, Try.ntmps20
  go_wp2_with fail
  refine (l03Code_bad _ _ HH.out _).mono ?_
  rintro e w' ⟨rfl, rfl⟩
  go_wp2_with fail
  go_ret2
  exact ⟨_, rfl, World.ownsRow_nil _ _ _ _, Below.refl _ _⟩

theorem impl_SampleOf_range {w : World} (a0 : Int) (n : Nat) (k : Int) (h1 : 1 ≤ a0) (h2 : a0 ≤ 2147483646) (hn : n ≤ 200) (hk : k < 0 ∨ (n : Int) < k) :
    Calls Try.prog 21 #[.int .i64 a0, .int .i64 n, .int .i64 k] w fun e w' => ∃ v, e = .returned (.tuple #[v, .int .i64 2]) ∧ w'.ownsRow w.heap.size 2 1 v 0 (([] : List Int).map (Value.int .i64)) ∧ Below w.heap.size w w' := by
  have HK := Lib.hid hk
  clear hk
  go_enter Try.func21, Try.ntmps21
  go_wp2_with fail
  refine (isState_yes _ h1 h2 _).mono ?_
  rintro e w' ⟨rfl, rfl⟩
  go_wp2_with fail
  refine (isDrawn_yes (n : Int) (by omega) (by omega) _).mono ?_
  rintro e w' ⟨rfl, rfl⟩
  go_wp2_with fail
  refine (within_no k 0 (n : Int) HK.out _).mono ?_
  rintro e w' ⟨rfl, rfl⟩
  go_wp2_with fail
  go_ret2
  exact ⟨_, rfl, World.ownsRow_nil _ _ _ _, Below.refl _ _⟩

theorem spec_SampleOf_range {w : World} (a0 : Int) (n : Nat) (k : Int) (h1 : 1 ≤ a0) (h2 : a0 ≤ 2147483646) (hn : n ≤ 200) (hk : k < 0 ∨ (n : Int) < k) :
    Calls Try.prog 20 #[.int .i64 a0, .int .i64 n, .int .i64 k] w fun e w' => ∃ v, e = .returned (.tuple #[v, .int .i64 2]) ∧ w'.ownsRow w.heap.size 2 1 v 0 (([] : List Int).map (Value.int .i64)) ∧ Below w.heap.size w w' := by
  have HK := Lib.hid hk
  clear hk
  go_enter Try.func20, Try.ntmps20
  go_wp2_with fail
  refine (l03Code_ok _ (n : Int) h1 h2 (by omega) (by omega) _).mono ?_
  rintro e w' ⟨rfl, rfl⟩
  go_wp2_with fail
  refine (in_no k 0 (n : Int) HK.out _).mono ?_
  rintro e w' ⟨rfl, rfl⟩
  go_wp2_with fail
  go_ret2
  exact ⟨_, rfl, World.ownsRow_nil _ _ _ _, Below.refl _ _⟩

end Go.Proofs.Ythlfecalpapkdaa
