/-
  What the functions on draws return, for all arguments at once.
  Conditions: each lemma names its own.
-/
import Derived.Test.YthlfecalpapkdaaSample
import Derived.Test.YthlfecalpapkdaaPlace
import Derived.Test.YthlfecalpapkdaaRight
namespace Go.Proofs.Ythlfecalpapkdaa
open Go.RowKit
set_option linter.unusedVariables false

theorem ret2_i {a b c d : Int} (h : a = b) (g : c = d) : Ending.returned (.tuple #[.int .i64 a, .int .i64 c]) = .returned (.tuple #[.int .i64 b, .int .i64 d]) := by rw [h, g]
theorem ret3_i {a b c d x y : Int} (h : a = b) (g : c = d) (k : x = y) : Ending.returned (.tuple #[.int .i64 a, .int .i64 c, .int .i64 x]) = .returned (.tuple #[.int .i64 b, .int .i64 d, .int .i64 y]) := by rw [h, g, k]
abbrev okN (s n : Int) : Prop := (1 ≤ s ∧ s ≤ 2147483646) ∧ 0 ≤ n ∧ n ≤ 200
def cod (b : Prop) [Decidable b] : Int := if b then 0 else 2
theorem cod_yes {b : Prop} [Decidable b] (h : b) : cod b = 0 := by unfold cod; rw [if_pos h]
theorem cod_no {b : Prop} [Decidable b] (h : ¬ b) : cod b = 2 := by unfold cod; rw [if_neg h]
/-- A list and a code. -/
def ListIs (xs : List Int) (c : Int) (w : World) (e : Ending) (w' : World) : Prop := ∃ v, e = .returned (.tuple #[v, .int .i64 c]) ∧ Ints w' v xs ∧ Below w.heap.size w w'
theorem listIs_of {n : Nat} {xs : List Int} {c : Int} {w : World} {e : Ending} {w' : World} (h : ∃ v, e = .returned (.tuple #[v, .int .i64 c]) ∧ w'.ownsRow w.heap.size 2 1 v n (xs.map (Value.int .i64)) ∧ Below w.heap.size w w') : ListIs xs c w e w' := by
  obtain ⟨v, he, ho, hb⟩ := h
  exact ⟨v, he, Ints.own ho, hb⟩

def nsI (s : Int) : Int := if 1 ≤ s ∧ s ≤ 2147483646 then nx s else 0
theorem impl_NextState (s : Int) (w : World) : Calls Try.prog 31 #[.int .i64 s] w fun e w' => e = .returned (.tuple #[.int .i64 (nsI s), .int .i64 (cod (1 ≤ s ∧ s ≤ 2147483646))]) ∧ w = w' := by
  by_cases q : 1 ≤ s ∧ s ≤ 2147483646
  · have e1 : Hid (nsI s = nx s) := Lib.hid (by unfold nsI; rw [if_pos q])
    have e2 := Lib.hid (cod_yes q)
    obtain ⟨q1, q2⟩ := q
    go_enter Try.func31, Try.ntmps31
    go_wp2_with (first | (go_at_call 44; refine (isState_yes _ q1 q2 _).mono ?_; rintro e w' ⟨rfl, rfl⟩) | (go_at_call 46; refine (impl_next _ q1 q2 _).mono ?_; rintro e w' ⟨rfl, rfl⟩))
    go_ret2
    exact ⟨ret2_i e1.out.symm e2.out.symm, rfl⟩
  · have e1 : Hid (nsI s = 0) := Lib.hid (by unfold nsI; rw [if_neg q])
    have e2 := Lib.hid (cod_no q)
    have q' := Lib.hid (show s < 1 ∨ 2147483646 < s by omega)
    clear q
    go_enter Try.func31, Try.ntmps31
    go_wp2_with ((go_at_call 44; refine (isState_no _ q'.out _).mono ?_; rintro e w' ⟨rfl, rfl⟩))
    go_ret2
    exact ⟨ret2_i e1.out.symm e2.out.symm, rfl⟩
theorem spec_NextState (s : Int) (w : World) : Calls Try.prog 32 #[.int .i64 s] w fun e w' => e = .returned (.tuple #[.int .i64 (nsI s), .int .i64 (cod (1 ≤ s ∧ s ≤ 2147483646))]) ∧ w = w' := by
  by_cases q : 1 ≤ s ∧ s ≤ 2147483646
  · have e1 : Hid (nsI s = nx s) := Lib.hid (by unfold nsI; rw [if_pos q])
    have e2 := Lib.hid (cod_yes q)
    obtain ⟨q1, q2⟩ := q
    go_enter Try.func32, Try.ntmps32
    go_wp2_with (first | (go_at_call 63; refine (l03Is_yes _ q1 q2 _).mono ?_; rintro e w' ⟨rfl, rfl⟩) | (go_at_call 43; refine (spec_next _ q1 q2 _).mono ?_; rintro e w' ⟨rfl, rfl⟩))
    go_ret2
    exact ⟨ret2_i e1.out.symm e2.out.symm, rfl⟩
  · have e1 : Hid (nsI s = 0) := Lib.hid (by unfold nsI; rw [if_neg q])
    have e2 := Lib.hid (cod_no q)
    have q' := Lib.hid (show s < 1 ∨ 2147483646 < s by omega)
    clear q
    go_enter Try.func32, Try.ntmps32
    go_wp2_with ((go_at_call 63; refine (l03Is_no _ q'.out _).mono ?_; rintro e w' ⟨rfl, rfl⟩))
    go_ret2
    exact ⟨ret2_i e1.out.symm e2.out.symm, rfl⟩

abbrev okB (s n : Int) : Prop := (1 ≤ s ∧ s ≤ 2147483646) ∧ 1 ≤ n ∧ n ≤ 1000000
def nbK (s n : Int) : Int := if okB s n then nx s * n / 2147483647 else 0
def nbN (s n : Int) : Int := if okB s n then nx s else 0
theorem impl_NumberBelow (s n : Int) (w : World) : Calls Try.prog 27 #[.int .i64 s, .int .i64 n] w fun e w' => e = .returned (.tuple #[.int .i64 (nbK s n), .int .i64 (nbN s n), .int .i64 (cod (okB s n))]) ∧ w = w' := by
  by_cases q : 1 ≤ s ∧ s ≤ 2147483646
  · have qh := Lib.hid q
    obtain ⟨q1, q2⟩ := q
    by_cases p : 1 ≤ n ∧ n ≤ 1000000
    · have e1 : Hid (nbK s n = nx s * n / 2147483647) := Lib.hid (by unfold nbK; rw [if_pos ⟨qh.out, p⟩])
      have e2 : Hid (nbN s n = nx s) := Lib.hid (by unfold nbN; rw [if_pos ⟨qh.out, p⟩])
      have e3 := Lib.hid (cod_yes (b := okB s n) ⟨qh.out, p⟩)
      obtain ⟨p1, p2⟩ := p
      go_enter Try.func27, Try.ntmps27
      go_wp2_with (first | (go_at_call 44; refine (isState_yes _ q1 q2 _).mono ?_; rintro e w' ⟨rfl, rfl⟩) | (go_at_call 49; refine (within_yes _ _ _ p1 p2 _).mono ?_; rintro e w' ⟨rfl, rfl⟩) | (go_at_call 62; refine (impl_below _ _ q1 q2 (by omega) p2 _).mono ?_; rintro e w' ⟨rfl, rfl⟩))
      go_ret3
      exact ⟨ret3_i e1.out.symm e2.out.symm e3.out.symm, rfl⟩
    · have hb : ¬ okB s n := fun h => p h.2
      have e1 : Hid (nbK s n = 0) := Lib.hid (by unfold nbK; rw [if_neg hb])
      have e2 : Hid (nbN s n = 0) := Lib.hid (by unfold nbN; rw [if_neg hb])
      have e3 := Lib.hid (cod_no hb)
      have p' := Lib.hid (show n < 1 ∨ 1000000 < n by omega)
      clear p hb
      go_enter Try.func27, Try.ntmps27
      go_wp2_with (first | (go_at_call 44; refine (isState_yes _ q1 q2 _).mono ?_; rintro e w' ⟨rfl, rfl⟩) | (go_at_call 49; refine (within_no _ _ _ p'.out _).mono ?_; rintro e w' ⟨rfl, rfl⟩))
      go_ret3
      exact ⟨ret3_i e1.out.symm e2.out.symm e3.out.symm, rfl⟩
  · have hb : ¬ okB s n := fun h => q h.1
    have e1 : Hid (nbK s n = 0) := Lib.hid (by unfold nbK; rw [if_neg hb])
    have e2 : Hid (nbN s n = 0) := Lib.hid (by unfold nbN; rw [if_neg hb])
    have e3 := Lib.hid (cod_no hb)
    have q' := Lib.hid (show s < 1 ∨ 2147483646 < s by omega)
    clear q hb
    go_enter Try.func27, Try.ntmps27
    go_wp2_with ((go_at_call 44; refine (isState_no _ q'.out _).mono ?_; rintro e w' ⟨rfl, rfl⟩))
    go_ret3
    exact ⟨ret3_i e1.out.symm e2.out.symm e3.out.symm, rfl⟩
theorem spec_NumberBelow (s n : Int) (w : World) : Calls Try.prog 28 #[.int .i64 s, .int .i64 n] w fun e w' => e = .returned (.tuple #[.int .i64 (nbK s n), .int .i64 (nbN s n), .int .i64 (cod (okB s n))]) ∧ w = w' := by
  by_cases q : 1 ≤ s ∧ s ≤ 2147483646
  · have qh := Lib.hid q
    obtain ⟨q1, q2⟩ := q
    by_cases p : 1 ≤ n ∧ n ≤ 1000000
    · have e1 : Hid (nbK s n = nx s * n / 2147483647) := Lib.hid (by unfold nbK; rw [if_pos ⟨qh.out, p⟩])
      have e2 : Hid (nbN s n = nx s) := Lib.hid (by unfold nbN; rw [if_pos ⟨qh.out, p⟩])
      have e3 := Lib.hid (cod_yes (b := okB s n) ⟨qh.out, p⟩)
      obtain ⟨p1, p2⟩ := p
      have hb0 := nx_bd s
      obtain ⟨b0, b1⟩ := hb0
      have hmul : 0 ≤ nx s * n ∧ nx s * n ≤ 2147483646000000 := ⟨Int.mul_nonneg b0 (by omega), Int.le_trans (Int.mul_le_mul b1 p2 (by omega) (by omega)) (by omega)⟩
      obtain ⟨m0, m1⟩ := hmul
      go_enter Try.func28, Try.ntmps28
      go_wp2_with (first | (go_at_call 63; refine (l03Is_yes _ q1 q2 _).mono ?_; rintro e w' ⟨rfl, rfl⟩) | (go_at_call 47; refine (in_yes _ _ _ p1 p2 _).mono ?_; rintro e w' ⟨rfl, rfl⟩) | (go_at_call 43; refine (spec_next _ q1 q2 _).mono ?_; rintro e w' ⟨rfl, rfl⟩))
      go_ret3
      exact ⟨ret3_i e1.out.symm e2.out.symm e3.out.symm, rfl⟩
    · have hb : ¬ okB s n := fun h => p h.2
      have e1 : Hid (nbK s n = 0) := Lib.hid (by unfold nbK; rw [if_neg hb])
      have e2 : Hid (nbN s n = 0) := Lib.hid (by unfold nbN; rw [if_neg hb])
      have e3 := Lib.hid (cod_no hb)
      have p' := Lib.hid (show n < 1 ∨ 1000000 < n by omega)
      clear p hb
      go_enter Try.func28, Try.ntmps28
      go_wp2_with (first | (go_at_call 63; refine (l03Is_yes _ q1 q2 _).mono ?_; rintro e w' ⟨rfl, rfl⟩) | (go_at_call 47; refine (in_no _ _ _ p'.out _).mono ?_; rintro e w' ⟨rfl, rfl⟩))
      go_ret3
      exact ⟨ret3_i e1.out.symm e2.out.symm e3.out.symm, rfl⟩
  · have hb : ¬ okB s n := fun h => q h.1
    have e1 : Hid (nbK s n = 0) := Lib.hid (by unfold nbK; rw [if_neg hb])
    have e2 : Hid (nbN s n = 0) := Lib.hid (by unfold nbN; rw [if_neg hb])
    have e3 := Lib.hid (cod_no hb)
    have q' := Lib.hid (show s < 1 ∨ 2147483646 < s by omega)
    clear q hb
    go_enter Try.func28, Try.ntmps28
    go_wp2_with ((go_at_call 63; refine (l03Is_no _ q'.out _).mono ?_; rintro e w' ⟨rfl, rfl⟩))
    go_ret3
    exact ⟨ret3_i e1.out.symm e2.out.symm e3.out.symm, rfl⟩

abbrev okC (s t : Int) : Prop := (1 ≤ s ∧ s ≤ 2147483646) ∧ 0 ≤ t ∧ t ≤ 2147483646
def cmI (s t : Int) : Int := if okC s t then cm s t else 0
theorem impl_CommitmentOf (s n : Int) (w : World) : Calls Try.prog 40 #[.int .i64 s, .int .i64 n] w fun e w' => e = .returned (.tuple #[.int .i64 (cmI s n), .int .i64 (cod (okC s n))]) ∧ w = w' := by
  by_cases q : 1 ≤ s ∧ s ≤ 2147483646
  · have qh := Lib.hid q
    obtain ⟨q1, q2⟩ := q
    by_cases p : 0 ≤ n ∧ n ≤ 2147483646
    · have e1 : Hid (cmI s n = cm s n) := Lib.hid (by unfold cmI; rw [if_pos ⟨qh.out, p⟩])
      have e3 := Lib.hid (cod_yes (b := okC s n) ⟨qh.out, p⟩)
      obtain ⟨p1, p2⟩ := p
      go_enter Try.func40, Try.ntmps40
      go_wp2_with (first | (go_at_call 44; refine (isState_yes _ q1 q2 _).mono ?_; rintro e w' ⟨rfl, rfl⟩) | (go_at_call 54; refine (isSalt_yes _ p1 p2 _).mono ?_; rintro e w' ⟨rfl, rfl⟩) | (go_at_call 56; refine (impl_commitment _ _ q1 q2 p1 p2 _).mono ?_; rintro e w' ⟨rfl, rfl⟩))
      go_ret2
      exact ⟨ret2_i e1.out.symm e3.out.symm, rfl⟩
    · have hb : ¬ okC s n := fun h => p h.2
      have e1 : Hid (cmI s n = 0) := Lib.hid (by unfold cmI; rw [if_neg hb])
      have e3 := Lib.hid (cod_no hb)
      have p' := Lib.hid (show n < 0 ∨ 2147483646 < n by omega)
      clear p hb
      go_enter Try.func40, Try.ntmps40
      go_wp2_with (first | (go_at_call 44; refine (isState_yes _ q1 q2 _).mono ?_; rintro e w' ⟨rfl, rfl⟩) | (go_at_call 54; refine (isSalt_no _ p'.out _).mono ?_; rintro e w' ⟨rfl, rfl⟩))
      go_ret2
      exact ⟨ret2_i e1.out.symm e3.out.symm, rfl⟩
  · have hb : ¬ okC s n := fun h => q h.1
    have e1 : Hid (cmI s n = 0) := Lib.hid (by unfold cmI; rw [if_neg hb])
    have e3 := Lib.hid (cod_no hb)
    have q' := Lib.hid (show s < 1 ∨ 2147483646 < s by omega)
    clear q hb
    go_enter Try.func40, Try.ntmps40
    go_wp2_with ((go_at_call 44; refine (isState_no _ q'.out _).mono ?_; rintro e w' ⟨rfl, rfl⟩))
    go_ret2
    exact ⟨ret2_i e1.out.symm e3.out.symm, rfl⟩
theorem spec_CommitmentOf (s n : Int) (w : World) : Calls Try.prog 41 #[.int .i64 s, .int .i64 n] w fun e w' => e = .returned (.tuple #[.int .i64 (cmI s n), .int .i64 (cod (okC s n))]) ∧ w = w' := by
  by_cases q : 1 ≤ s ∧ s ≤ 2147483646
  · have qh := Lib.hid q
    obtain ⟨q1, q2⟩ := q
    by_cases p : 0 ≤ n ∧ n ≤ 2147483646
    · have e1 : Hid (cmI s n = cm s n) := Lib.hid (by unfold cmI; rw [if_pos ⟨qh.out, p⟩])
      have e3 := Lib.hid (cod_yes (b := okC s n) ⟨qh.out, p⟩)
      obtain ⟨p1, p2⟩ := p
      go_enter Try.func41, Try.ntmps41
      go_wp2_with (first | (go_at_call 63; refine (l03Is_yes _ q1 q2 _).mono ?_; rintro e w' ⟨rfl, rfl⟩) | (go_at_call 47; refine (in_yes _ _ _ p1 p2 _).mono ?_; rintro e w' ⟨rfl, rfl⟩) | (go_at_call 52; refine (spec_commit _ _ q1 q2 p1 p2 _).mono ?_; rintro e w' ⟨rfl, rfl⟩))
      go_ret2
      exact ⟨ret2_i e1.out.symm e3.out.symm, rfl⟩
    · have hb : ¬ okC s n := fun h => p h.2
      have e1 : Hid (cmI s n = 0) := Lib.hid (by unfold cmI; rw [if_neg hb])
      have e3 := Lib.hid (cod_no hb)
      have p' := Lib.hid (show n < 0 ∨ 2147483646 < n by omega)
      clear p hb
      go_enter Try.func41, Try.ntmps41
      go_wp2_with (first | (go_at_call 63; refine (l03Is_yes _ q1 q2 _).mono ?_; rintro e w' ⟨rfl, rfl⟩) | (go_at_call 47; refine (in_no _ _ _ p'.out _).mono ?_; rintro e w' ⟨rfl, rfl⟩))
      go_ret2
      exact ⟨ret2_i e1.out.symm e3.out.symm, rfl⟩
  · have hb : ¬ okC s n := fun h => q h.1
    have e1 : Hid (cmI s n = 0) := Lib.hid (by unfold cmI; rw [if_neg hb])
    have e3 := Lib.hid (cod_no hb)
    have q' := Lib.hid (show s < 1 ∨ 2147483646 < s by omega)
    clear q hb
    go_enter Try.func41, Try.ntmps41
    go_wp2_with ((go_at_call 63; refine (l03Is_no _ q'.out _).mono ?_; rintro e w' ⟨rfl, rfl⟩))
    go_ret2
    exact ⟨ret2_i e1.out.symm e3.out.symm, rfl⟩

/-- States, shuffled numbers, samples, places. -/
def stL (s n : Int) : List Int := if okN s n then statesL s n.toNat else []
def shL (s n : Int) : List Int := if okN s n then shufL s n.toNat else []
abbrev okS (s n k : Int) : Prop := okN s n ∧ 0 ≤ k ∧ k ≤ n
def smL (s n k : Int) : List Int := if okS s n k then (shufL s n.toNat).take k.toNat else []
theorem impl_States (s n : Int) (w : World) : Calls Try.prog 12 #[.int .i64 s, .int .i64 n] w (ListIs (stL s n) (cod (okN s n)) w) := by
  by_cases q : okN s n
  · have hn : n = (n.toNat : Int) := by have := q.2; omega
    rw [stL, if_pos q, cod_yes q]
    generalize n.toNat = m at *
    subst hn
    exact (impl_StatesAfter_ok s m q.1.1 q.1.2 (by have := q.2; omega)).mono fun _ _ h => listIs_of h
  · rw [stL, if_neg q, cod_no q]
    exact (impl_StatesAfter_bad s n q).mono fun _ _ h => listIs_of h
theorem spec_States (s n : Int) (w : World) : Calls Try.prog 11 #[.int .i64 s, .int .i64 n] w (ListIs (stL s n) (cod (okN s n)) w) := by
  by_cases q : okN s n
  · have hn : n = (n.toNat : Int) := by have := q.2; omega
    rw [stL, if_pos q, cod_yes q]
    generalize n.toNat = m at *
    subst hn
    exact (spec_StatesAfter_ok s m q.1.1 q.1.2 (by have := q.2; omega)).mono fun _ _ h => listIs_of h
  · rw [stL, if_neg q, cod_no q]
    exact (spec_StatesAfter_bad s n q).mono fun _ _ h => listIs_of h
theorem impl_Shuf (s n : Int) (w : World) : Calls Try.prog 19 #[.int .i64 s, .int .i64 n] w (ListIs (shL s n) (cod (okN s n)) w) := by
  by_cases q : okN s n
  · have hn : n = (n.toNat : Int) := by have := q.2; omega
    rw [shL, if_pos q, cod_yes q]
    generalize n.toNat = m at *
    subst hn
    exact (impl_ShuffleNumbers_ok s m q.1.1 q.1.2 (by have := q.2; omega)).mono fun _ _ h => listIs_of h
  · rw [shL, if_neg q, cod_no q]
    exact (impl_ShuffleNumbers_bad s n q).mono fun _ _ h => listIs_of h
theorem spec_Shuf (s n : Int) (w : World) : Calls Try.prog 18 #[.int .i64 s, .int .i64 n] w (ListIs (shL s n) (cod (okN s n)) w) := by
  by_cases q : okN s n
  · have hn : n = (n.toNat : Int) := by have := q.2; omega
    rw [shL, if_pos q, cod_yes q]
    generalize n.toNat = m at *
    subst hn
    exact (spec_ShuffleNumbers_ok s m q.1.1 q.1.2 (by have := q.2; omega)).mono fun _ _ h => listIs_of h
  · rw [shL, if_neg q, cod_no q]
    exact (spec_ShuffleNumbers_bad s n q).mono fun _ _ h => listIs_of h
theorem impl_Smp (s n k : Int) (w : World) : Calls Try.prog 21 #[.int .i64 s, .int .i64 n, .int .i64 k] w (ListIs (smL s n k) (cod (okS s n k)) w) := by
  by_cases q : okN s n
  · have hn : n = (n.toNat : Int) := by have := q.2; omega
    by_cases p : 0 ≤ k ∧ k ≤ n
    · have hk : k = (k.toNat : Int) := by omega
      rw [smL, if_pos ⟨q, p⟩, cod_yes ⟨q, p⟩]
      generalize n.toNat = m at *
      generalize k.toNat = j at *
      subst hn hk
      exact (impl_SampleOf_ok s m j q.1.1 q.1.2 (by have := q.2; omega) (by omega)).mono fun _ _ h => listIs_of h
    · rw [smL, if_neg (fun h => p h.2), cod_no (fun h => p h.2)]
      generalize n.toNat = m at *
      subst hn
      exact (impl_SampleOf_range s m k q.1.1 q.1.2 (by have := q.2; omega) (by omega)).mono fun _ _ h => listIs_of h
  · rw [smL, if_neg (fun h => q h.1), cod_no (fun h => q h.1)]
    exact (impl_SampleOf_bad s n k q).mono fun _ _ h => listIs_of h
theorem spec_Smp (s n k : Int) (w : World) : Calls Try.prog 20 #[.int .i64 s, .int .i64 n, .int .i64 k] w (ListIs (smL s n k) (cod (okS s n k)) w) := by
  by_cases q : okN s n
  · have hn : n = (n.toNat : Int) := by have := q.2; omega
    by_cases p : 0 ≤ k ∧ k ≤ n
    · have hk : k = (k.toNat : Int) := by omega
      rw [smL, if_pos ⟨q, p⟩, cod_yes ⟨q, p⟩]
      generalize n.toNat = m at *
      generalize k.toNat = j at *
      subst hn hk
      exact (spec_SampleOf_ok s m j q.1.1 q.1.2 (by have := q.2; omega) (by omega)).mono fun _ _ h => listIs_of h
    · rw [smL, if_neg (fun h => p h.2), cod_no (fun h => p h.2)]
      generalize n.toNat = m at *
      subst hn
      exact (spec_SampleOf_range s m k q.1.1 q.1.2 (by have := q.2; omega) (by omega)).mono fun _ _ h => listIs_of h
  · rw [smL, if_neg (fun h => q h.1), cod_no (fun h => q h.1)]
    exact (spec_SampleOf_bad s n k q).mono fun _ _ h => listIs_of h
abbrev okP (s n x : Int) : Prop := okN s n ∧ 0 ≤ x ∧ x < n
def plI (s n x : Int) : Int := if okP s n x then ((shufL s n.toNat).findIdx (· == x) : Nat) else 0
theorem placeIs_find {l : List Int} {x : Int} (h : x ∈ l) : PlaceIs l x (l.findIdx (· == x)) := by
  obtain ⟨p, hp⟩ := place_exists h
  have hlt := place_lt hp
  have : l.findIdx (· == x) = p := by
    rw [List.findIdx_eq hlt]
    refine ⟨?_, fun j hj => ?_⟩
    · have := hp.1
      rw [List.getElem?_eq_getElem hlt] at this
      injection this with this
      simpa using this
    · have := hp.2 j hj _ (List.getElem?_eq_getElem (by omega))
      simpa using this
  rw [this]
  exact hp
theorem impl_Pl (s n x : Int) (w : World) : Calls Try.prog 17 #[.int .i64 s, .int .i64 n, .int .i64 x] w fun e w' => e = .returned (.tuple #[.int .i64 (plI s n x), .int .i64 (cod (okP s n x))]) ∧ Below w.heap.size w w' := by
  by_cases q : okP s n x
  · have hn : n = (n.toNat : Int) := by have := q.1.2; omega
    rw [plI, if_pos q, cod_yes q]
    generalize n.toNat = m at *
    subst hn
    exact impl_PlaceInShuffle_ok s m q.1.1.1 q.1.1.2 (by have := q.1.2; omega) x _ q.2.1 q.2.2 (placeIs_find (shufL_mem q.1.1.1 q.1.1.2 q.2.1 q.2.2))
  · rw [plI, if_neg q, cod_no q]
    exact impl_PlaceInShuffle_bad s n x q
theorem spec_Pl (s n x : Int) (w : World) : Calls Try.prog 16 #[.int .i64 s, .int .i64 n, .int .i64 x] w fun e w' => e = .returned (.tuple #[.int .i64 (plI s n x), .int .i64 (cod (okP s n x))]) ∧ Below w.heap.size w w' := by
  by_cases q : okP s n x
  · have hn : n = (n.toNat : Int) := by have := q.1.2; omega
    rw [plI, if_pos q, cod_yes q]
    generalize n.toNat = m at *
    subst hn
    exact spec_PlaceInShuffle_ok s m q.1.1.1 q.1.1.2 (by have := q.1.2; omega) x _ q.2.1 q.2.2 (placeIs_find (shufL_mem q.1.1.1 q.1.1.2 q.2.1 q.2.2))
  · rw [plI, if_neg q, cod_no q]
    exact spec_PlaceInShuffle_bad s n x q
abbrev okR (s t n : Int) (xs : List Int) : Prop := (((1 ≤ s ∧ s ≤ 2147483646) ∧ 0 ≤ t ∧ t ≤ 2147483646) ∧ 0 ≤ n ∧ n ≤ 200) ∧ (xs.length : Int) ≤ n
def rdB (cc s t n : Int) (xs : List Int) : Bool := if okR s t n xs then rightB cc s t n.toNat xs else false
theorem impl_Rd {v : Value} {xs : List Int} {w : World} (cc s t n : Int) (h : Ints w v xs) :
    Calls Try.prog 24 #[.int .i64 cc, .int .i64 s, .int .i64 t, .int .i64 n, v] w fun e w' => e = .returned (.tuple #[.bool (rdB cc s t n xs), .int .i64 (cod (okR s t n xs))]) ∧ Below w.heap.size w w' := by
  by_cases q : okR s t n xs
  · have hn : n = (n.toNat : Int) := by have := q.1.2; omega
    rw [rdB, if_pos q, cod_yes q]
    generalize n.toNat = m at *
    subst hn
    exact impl_IsRightDraw_ok cc s t m q.1.1.1.1 q.1.1.1.2 q.1.1.2.1 q.1.1.2.2 (by have := q.1.2; omega) (by have := q.2; omega) h
  · rw [rdB, if_neg q, cod_no q]
    exact impl_IsRightDraw_bad cc s t n q h
theorem spec_Rd {v : Value} {xs : List Int} {w : World} (cc s t n : Int) (h : Ints w v xs) :
    Calls Try.prog 22 #[.int .i64 cc, .int .i64 s, .int .i64 t, .int .i64 n, v] w fun e w' => e = .returned (.tuple #[.bool (rdB cc s t n xs), .int .i64 (cod (okR s t n xs))]) ∧ Below w.heap.size w w' := by
  by_cases q : okR s t n xs
  · have hn : n = (n.toNat : Int) := by have := q.1.2; omega
    rw [rdB, if_pos q, cod_yes q]
    generalize n.toNat = m at *
    subst hn
    exact spec_IsRightDraw_ok cc s t m q.1.1.1.1 q.1.1.1.2 q.1.1.2.1 q.1.1.2.2 (by have := q.1.2; omega) (by have := q.2; omega) h
  · rw [rdB, if_neg q, cod_no q]
    exact spec_IsRightDraw_bad cc s t n q h
end Go.Proofs.Ythlfecalpapkdaa
