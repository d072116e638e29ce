/-
  PlaceInShuffle of both packages: what each call returns.
  Conditions: each lemma names its own.
-/
import Derived.Test.YthlfecalpapkdaaShuffle
namespace Go.Proofs.Ythlfecalpapkdaa
open Go.RowKit
set_option linter.unusedVariables false

theorem swap_mem {l : List Int} {i j : Nat} (hi : i < l.length) (hj : j < l.length) {x : Int} (hx : x ∈ l) : x ∈ swapL l i j := by
  obtain ⟨p, hp, rfl⟩ := List.getElem_of_mem hx
  have hlen := swapL_len l i j
  have ei : l.getD i 0 = l[i] := by simp [List.getD_eq_getElem?_getD, hi]
  have ej : l.getD j 0 = l[j] := by simp [List.getD_eq_getElem?_getD, hj]
  by_cases h1 : p = i
  · subst h1
    refine List.mem_of_getElem? (i := j) ?_
    unfold swapL
    rw [ei, List.getElem?_set_self (by simpa using hj)]
  · by_cases h2 : p = j
    · subst h2
      refine List.mem_of_getElem? (i := i) ?_
      unfold swapL
      rw [List.getElem?_set_ne (by omega), ej, List.getElem?_set_self hi]
    · refine List.mem_of_getElem? (i := p) ?_
      unfold swapL
      rw [List.getElem?_set_ne (by omega), List.getElem?_set_ne (by omega)]
      exact List.getElem?_eq_getElem hp
theorem shuf_mem {s : Int} (h1 : 1 ≤ s) (h2 : s ≤ 2147483646) {n : Nat} {x : Int} (h0 : 0 ≤ x) (hx : x < n) : ∀ i, i ≤ n - 1 → x ∈ (shufTo s n i).1 := by
  intro i
  induction i with
  | zero =>
    intro _
    obtain ⟨q, rfl⟩ := Int.eq_ofNat_of_zero_le h0
    simp only [shufTo, firstL, List.mem_map, List.mem_range]
    exact ⟨q, by omega, rfl⟩
  | succ i ih =>
    intro hi
    have hl := shufTo_len s n i
    have hs := shufTo_st h1 h2 n i
    have hp := (pick_bd (nx_bd (shufTo s n i).2).1 (nx_bd (shufTo s n i).2).2 (show i < n by omega)).2
    simp only [shufTo]
    exact swap_mem (by omega) (by omega) (ih (by omega))
theorem shufL_mem {s : Int} (h1 : 1 ≤ s) (h2 : s ≤ 2147483646) {n : Nat} {x : Int} (h0 : 0 ≤ x) (hx : x < n) : x ∈ shufL s n := shuf_mem h1 h2 h0 hx _ (Nat.le_refl _)
/-- p is the first place of x. -/
def PlaceIs (l : List Int) (x : Int) (p : Nat) : Prop := l[p]? = some x ∧ ∀ q, q < p → ∀ y, l[q]? = some y → y ≠ x
theorem place_exists {x : Int} : ∀ {l : List Int}, x ∈ l → ∃ p, PlaceIs l x p := by
  intro l
  induction l with
  | nil => intro h; simp at h
  | cons y l ih =>
    intro h
    by_cases hy : y = x
    · exact ⟨0, by simp [hy], fun q hq => absurd hq (by omega)⟩
    · have hm : x ∈ l := by
        rcases List.mem_cons.1 h with h | h
        · exact absurd h.symm hy
        · exact h
      obtain ⟨p, hp, hq⟩ := ih hm
      refine ⟨p + 1, by simpa using hp, fun q hlt z hz => ?_⟩
      cases q with
      | zero => simp at hz; subst hz; exact hy
      | succ q => exact hq q (by omega) z (by simpa using hz)
theorem place_lt {l : List Int} {x : Int} {p : Nat} (h : PlaceIs l x p) : p < l.length := (List.getElem?_eq_some_iff.1 h.1).1

set_option maxHeartbeats 800000 in
theorem impl_PlaceInShuffle_ok {w : World} (a0 : Int) (n : Nat) (h1 : 1 ≤ a0) (h2 : a0 ≤ 2147483646) (hn : n ≤ 200) (x : Int) (p : Nat) (hx0 : 0 ≤ x) (hx1 : x < n) (hp : PlaceIs (shufL a0 n) x p) :
    Calls Try.prog 17 #[.int .i64 a0, .int .i64 n, .int .i64 x] w fun e w' => e = .returned (.tuple #[.int .i64 p, .int .i64 0]) ∧ Below w.heap.size w w' := by
  have hpn : p < n := by have := place_lt hp; rw [shufL_len] at this; exact this
  go_enter Try.func17, Try.ntmps17
  go_wp2_with fail
  refine (isState_yes _ h1 h2 _).mono ?_
  rintro e w' ⟨rfl, rfl⟩
  go_wp2_with fail
  refine (isDrawn_yes (n : Int) (by omega) (by omega) _).mono ?_
  rintro e w' ⟨rfl, rfl⟩
  go_wp2_with fail
  refine (within_yes x 0 ((n : Int) - 1) hx0 (by omega) _).mono ?_
  rintro e w' ⟨rfl, rfl⟩
  go_wp2_with fail
  refine (impl_shuffle_c a0 n h1 h2 hn).mono ?_
  rintro e w1 ⟨v1, rfl, o1, b1⟩
  obtain ⟨a, cp, hv, hcap, hmost, ha⟩ := own_form o1
  subst hv
  unfold maxLen at hmost
  obtain ⟨g, hg, _, _⟩ := ha (by omega)
  subst hg
  have HP := Lib.hid hp
  have HO := Lib.hid o1
  clear hp o1 ha
  go_wp2_with fail
  go_loop [10] (fun i => ∃ q : Nat, q ≤ p ∧ i = .int .i64 q) (fun i => p - (intOf i).toNat)
  case atStart => exact ⟨0, Nat.zero_le _, rfl⟩
  case round =>
    obtain ⟨q, hq, rfl⟩ := hrel
    by_cases hlt : q < p
    · obtain ⟨y, hy⟩ := at_of (xs := shufL a0 n) (k := q) (by rw [shufL_len]; omega)
      have hc := own_at HO.out hy
      have hne : (y != x) = true := by rw [bne_iff_ne]; exact HP.out.2 q hlt y hy
      have HY := Lib.hid hy
      clear hy
      go_wp2_with fail
      go_round
      case rel => exact ⟨q + 1, by omega, by go_num⟩
      case measure => simp [intOf]; try omega
    · obtain rfl : q = p := by omega
      have hc := own_at HO.out HP.out.1
      go_wp2_with fail
      go_ret2
      exact ⟨rfl, b1⟩

theorem impl_PlaceInShuffle_bad {w : World} (a0 n x : Int) (h : ¬ (((1 ≤ a0 ∧ a0 ≤ 2147483646) ∧ 0 ≤ n ∧ n ≤ 200) ∧ 0 ≤ x ∧ x < n)) :
    Calls Try.prog 17 #[.int .i64 a0, .int .i64 n, .int .i64 x] w fun e w' => e = .returned (.tuple #[.int .i64 0, .int .i64 2]) ∧ Below w.heap.size w w' := by
  by_cases q1 : 1 ≤ a0 ∧ a0 ≤ 2147483646
  · have Q1 := Lib.hid q1
    by_cases q2 : 0 ≤ n ∧ n ≤ 200
    · have Q2 := Lib.hid q2
      have HX : Hid (x < 0 ∨ n - 1 < x) := Lib.hid (by omega)
      have hnb : -1 ≤ n - 1 ∧ n - 1 ≤ 199 := by omega
      clear q1 q2 h
      go_enter Try.func17, Try.ntmps17
      go_wp2_with fail
      refine (isState_yes _ Q1.out.1 Q1.out.2 _).mono ?_
      rintro e w' ⟨rfl, rfl⟩
      go_wp2_with fail
      refine (isDrawn_yes _ Q2.out.1 Q2.out.2 _).mono ?_
      rintro e w' ⟨rfl, rfl⟩
      go_wp2_with fail
      refine (within_no x 0 (n - 1) HX.out _).mono ?_
      rintro e w' ⟨rfl, rfl⟩
      go_wp2_with fail
      go_ret2
      exact ⟨rfl, Below.refl _ _⟩
    · have Q2 : Hid (n < 0 ∨ 200 < n) := Lib.hid (by omega)
      clear q1 q2 h
      go_enter Try.func17, Try.ntmps17
      go_wp2_with fail
      refine (isState_yes _ Q1.out.1 Q1.out.2 _).mono ?_
      rintro e w' ⟨rfl, rfl⟩
      go_wp2_with fail
      refine (isDrawn_no _ Q2.out _).mono ?_
      rintro e w' ⟨rfl, rfl⟩
      go_wp2_with fail
      go_ret2
      exact ⟨rfl, Below.refl _ _⟩
  · have Q1 : Hid (a0 < 1 ∨ 2147483646 < a0) := Lib.hid (by omega)
    clear q1 h
    go_enter Try.func17, Try.ntmps17
    go_wp2_with fail
    refine (isState_no _ Q1.out _).mono ?_
    rintro e w' ⟨rfl, rfl⟩
    go_wp2_with fail
    go_ret2
    exact ⟨rfl, Below.refl _ _⟩

set_option maxHeartbeats 800000 in
theorem spec_PlaceInShuffle_ok {w : World} (a0 : Int) (n : Nat) (h1 : 1 ≤ a0) (h2 : a0 ≤ 2147483646) (hn : n ≤ 200) (x : Int) (p : Nat) (hx0 : 0 ≤ x) (hx1 : x < n) (hp : PlaceIs (shufL a0 n) x p) :
    Calls Try.prog 16 #[.int .i64 a0, .int .i64 n, .int .i64 x] w fun e w' => e = .returned (.tuple #[.int .i64 p, .int .i64 0]) ∧ Below w.heap.size w w' := by
  have hpn : p < n := by have := place_lt hp; rw [shufL_len] at this; exact this
  go_enter Try.func16, Try.ntmps16
  go_wp2_with fail
  refine (l03Code_ok _ (n : Int) h1 h2 (by omega) (by omega) _).mono ?_
  rintro e w' ⟨rfl, rfl⟩
  go_wp2_with fail
  refine (in_yes x 0 ((n : Int) - 1) hx0 (by omega) _).mono ?_
  rintro e w' ⟨rfl, rfl⟩
  go_wp2_with fail
  refine (spec_shuffle_c a0 n h1 h2 hn).mono ?_
  rintro e w1 ⟨v1, rfl, o1, b1⟩
  obtain ⟨a, cp, hv, hcap, hmost, ha⟩ := own_form o1
  subst hv
  unfold maxLen at hmost
  obtain ⟨g, hg, _, _⟩ := ha (by omega)
  subst hg
  have HP := Lib.hid hp
  have HO := Lib.hid o1
  clear hp o1 ha
  go_wp2_with fail
  go_loop [10] (fun i => ∃ q : Nat, q ≤ p ∧ i = .int .i64 q) (fun i => p - (intOf i).toNat)
  case atStart => exact ⟨0, Nat.zero_le _, rfl⟩
  case round =>
    obtain ⟨q, hq, rfl⟩ := hrel
    by_cases hlt : q < p
    · obtain ⟨y, hy⟩ := at_of (xs := shufL a0 n) (k := q) (by rw [shufL_len]; omega)
      have hc := own_at HO.out hy
      have hne : (y != x) = true := by rw [bne_iff_ne]; exact HP.out.2 q hlt y hy
      have HY := Lib.hid hy
      clear hy
      go_wp2_with fail
      go_round
      case rel => exact ⟨q + 1, by omega, by go_num⟩
      case measure => simp [intOf]; try omega
    · obtain rfl : q = p := by omega
      have hc := own_at HO.out HP.out.1
      go_wp2_with fail
      go_ret2
      exact ⟨rfl, b1⟩

theorem spec_PlaceInShuffle_bad {w : World} (a0 n x : Int) (h : ¬ (((1 ≤ a0 ∧ a0 ≤ 2147483646) ∧ 0 ≤ n ∧ n ≤ 200) ∧ 0 ≤ x ∧ x < n)) :
    Calls Try.prog 16 #[.int .i64 a0, .int .i64 n, .int .i64 x] w fun e w' => e = .returned (.tuple #[.int .i64 0, .int .i64 2]) ∧ Below w.heap.size w w' := by
  by_cases q : (1 ≤ a0 ∧ a0 ≤ 2147483646) ∧ 0 ≤ n ∧ n ≤ 200
  · have HQ := Lib.hid q
    have HX : Hid (x < 0 ∨ n - 1 < x) := Lib.hid (by omega)
    have hnb : -1 ≤ n - 1 ∧ n - 1 ≤ 199 := by omega
    clear q h
    go_enter Try.func16, Try.ntmps16
    go_wp2_with fail
    refine (l03Code_ok _ _ HQ.out.1.1 HQ.out.1.2 HQ.out.2.1 HQ.out.2.2 _).mono ?_
    rintro e w' ⟨rfl, rfl⟩
    go_wp2_with fail
    refine (in_no x 0 (n - 1) HX.out _).mono ?_
    rintro e w' ⟨rfl, rfl⟩
    go_wp2_with fail
    go_ret2
    exact ⟨rfl, Below.refl _ _⟩
  · have HQ := Lib.hid q
    clear q h
    go_enter Try.func16, Try.ntmps16
    go_wp2_with fail
    refine (l03Code_bad _ _ HQ.out _).mono ?_
    rintro e w' ⟨rfl, rfl⟩
    go_wp2_with fail
    go_ret2
    exact ⟨rfl, Below.refl _ _⟩

end Go.Proofs.Ythlfecalpapkdaa
