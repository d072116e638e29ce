/-
  StatesAfter of both packages: what each call returns.
  Conditions: each lemma names its own.
-/
import Derived.Test.YthlfecalpapkdaaOwn
import Derived.Test.YthlfecalpapkdaaNext
import Derived.Test.YthlfecalpapkdaaDrawCodes
namespace Go.Proofs.Ythlfecalpapkdaa
open Go.RowKit

/-- The k-th state behind s. -/
def stt (s : Int) : Nat → Int
  | 0 => s
  | k + 1 => nx (stt s k)
theorem stt_bd {s : Int} (h1 : 1 ≤ s) (h2 : s ≤ 2147483646) : ∀ k, 1 ≤ stt s k ∧ stt s k ≤ 2147483646 := by
  intro k
  induction k with
  | zero => exact ⟨h1, h2⟩
  | succ k ih => exact ⟨nx_pos _ ih.1 ih.2, (nx_bd _).2⟩
/-- The k states behind s. -/
def statesL (s : Int) (n : Nat) : List Int := (List.range n).map (fun j => stt s (j + 1))
theorem statesL_len (s : Int) (n : Nat) : (statesL s n).length = n := by simp [statesL]
theorem statesL_succ (s : Int) (n : Nat) : statesL s (n + 1) = statesL s n ++ [nx (stt s n)] := by simp [statesL, List.range_succ, stt]

set_option maxHeartbeats 1000000 in
theorem impl_StatesAfter_ok {w : World} (a0 : Int) (n : Nat) (h1 : 1 ≤ a0) (h2 : a0 ≤ 2147483646) (hn : n ≤ 200) :
    Calls Try.prog 12 #[.int .i64 a0, .int .i64 n] w fun e w' => ∃ v, e = .returned (.tuple #[v, .int .i64 0]) ∧ w'.ownsRow w.heap.size 2 1 v n ((statesL a0 n).map (Value.int .i64)) ∧ Below w.heap.size w w' := by
  obtain ⟨i0, hi, hz0, hz1, hz2⟩ := info_parts info_i64
  have HZ := Lib.hid hz2
  have hn0 : (0 : Int) ≤ (n : Int) := by omega
  go_enter Try.func12, Try.ntmps12
  go_wp2_with (first | (go_at_call 44; refine (isState_yes _ h1 h2 _).mono ?_; rintro e w' ⟨rfl, rfl⟩) | (go_at_call 45; refine (isDrawn_yes _ hn0 (by omega) _).mono ?_; rintro e w' ⟨rfl, rfl⟩))
  go_loopw [0, 6, 17] (fun s v i wr => ∃ k : Nat, k ≤ n ∧ i = .int .i64 k ∧ s = .int .i64 (stt a0 k) ∧ wr.ownsRow w.heap.size 2 1 v k ((statesL a0 k).map (Value.int .i64)) ∧ Below w.heap.size w wr) (fun _ _ i _ => n - (intOf i).toNat)
  case atStart => exact ⟨0, Nat.zero_le _, by simp, rfl, World.ownsRow_lit w #[] 0 (Nat.le_refl _) (by decide) rfl, (Below.refl _ _).alloc (Nat.le_refl _) _⟩
  case round =>
    obtain ⟨k, hk, rfl, rfl, hown, hb⟩ := hrel
    have hst := stt_bd h1 h2 k
    have hsz := hb.size
    by_cases hlt : k < n
    · have hpos : (0 : Int) < (n : Int) - k := by omega
      go_wp2_with (first | (go_at_call 46; refine (impl_next _ hst.1 hst.2 _).mono ?_; rintro e w' ⟨rfl, rfl⟩) | (at_builtin; refine wpList_append_own _ rfl _ _ 22 rfl w.heap.size 2 i0 (.int .i64 0) 1 8 Try.underlying22 hi hz0 hz1 hz2 rfl (by decide) _ _ _ rfl (hown.alloc _) ⟨wr.heap.size, 0, none⟩ 1 1 [.int .i64 (nx (stt a0 k))] rfl rfl ?c1 ?c2 ?c3 ?c4 ?c5 ?_))
      case c1 => exact single_at _ _ _
      case c2 => intro u hu; simp at hu; subst hu; rfl
      case c3 => unfold maxLen; omega
      case c4 => omega
      case c5 => simp; omega
      intro v' w1 hown' hgrow _
      have hb' := below_append hb hsz hown hgrow
      have hs := Lib.hid (statesL_succ a0 k)
      clear hown hgrow hb
      go_wp2
      go_roundw
      case rel => exact ⟨k + 1, by omega, by go_num, rfl, by rw [hs.out, List.map_append]; exact hown', hb'⟩
      case measure => simp [intOf]; try omega
    · obtain rfl : k = n := by omega
      have hge : ¬ (0 : Int) < (k : Int) - k := by omega
      go_wp2
      go_ret2
      exact ⟨_, rfl, hown, hb⟩

theorem impl_StatesAfter_bad {w : World} (a0 n : Int) (h : ¬ ((1 ≤ a0 ∧ a0 ≤ 2147483646) ∧ 0 ≤ n ∧ n ≤ 200)) :
    Calls Try.prog 12 #[.int .i64 a0, .int .i64 n] w fun e w' => ∃ v, e = .returned (.tuple #[v, .int .i64 2]) ∧ w'.ownsRow w.heap.size 2 1 v 0 (([] : List Int).map (Value.int .i64)) ∧ Below w.heap.size w w' := by
  by_cases h1 : 1 ≤ a0 <;> by_cases h2 : a0 ≤ 2147483646 <;> by_cases h3 : 0 ≤ n <;> by_cases h4 : n ≤ 200 <;> try omega
  all_goals
    clear h
    go_enter Try.func12, Try.ntmps12
    go_wp2
    go_ret2
    exact ⟨_, rfl, World.ownsRow_nil _ _ _ _, Below.refl _ _⟩

set_option maxHeartbeats 1000000 in
theorem spec_StatesAfter_ok {w : World} (a0 : Int) (n : Nat) (h1 : 1 ≤ a0) (h2 : a0 ≤ 2147483646) (hn : n ≤ 200) :
    Calls Try.prog 11 #[.int .i64 a0, .int .i64 n] w fun e w' => ∃ v, e = .returned (.tuple #[v, .int .i64 0]) ∧ w'.ownsRow w.heap.size 2 1 v n ((statesL a0 n).map (Value.int .i64)) ∧ Below w.heap.size w w' := by
  obtain ⟨i0, hi, hz0, hz1, hz2⟩ := info_parts info_i64
  have HZ := Lib.hid hz2
  have hn0 : (0 : Int) ≤ (n : Int) := by omega
  go_enter Try.func11, Try.ntmps11
  go_wp2_with (go_at_call 42; refine (l03Code_ok _ _ h1 h2 hn0 (by omega) _).mono ?_; rintro e w' ⟨rfl, rfl⟩)
  go_loopw [0, 1, 7] (fun s i v wr => ∃ k : Nat, k ≤ n ∧ i = .int .i64 ((n : Int) - k) ∧ s = .int .i64 (stt a0 k) ∧ wr.ownsRow w.heap.size 2 1 v k ((statesL a0 k).map (Value.int .i64)) ∧ Below w.heap.size w wr) (fun _ i _ _ => (intOf i).toNat)
  case atStart => exact ⟨0, Nat.zero_le _, by simp, rfl, World.ownsRow_lit w #[] 0 (Nat.le_refl _) (by decide) rfl, (Below.refl _ _).alloc (Nat.le_refl _) _⟩
  case round =>
    obtain ⟨k, hk, rfl, rfl, hown, hb⟩ := hrel
    have hst := stt_bd h1 h2 k
    have hsz := hb.size
    by_cases hlt : k < n
    · have hpos : (0 : Int) < (n : Int) - k := by omega
      go_wp2_with (first | (go_at_call 43; refine (spec_next _ hst.1 hst.2 _).mono ?_; rintro e w' ⟨rfl, rfl⟩) | (at_builtin; refine wpList_append_own _ rfl _ _ 22 rfl w.heap.size 2 i0 (.int .i64 0) 1 8 Try.underlying22 hi hz0 hz1 hz2 rfl (by decide) _ _ _ rfl (hown.alloc _) ⟨wr.heap.size, 0, none⟩ 1 1 [.int .i64 (nx (stt a0 k))] rfl rfl ?c1 ?c2 ?c3 ?c4 ?c5 ?_))
      case c1 => exact single_at _ _ _
      case c2 => intro u hu; simp at hu; subst hu; rfl
      case c3 => unfold maxLen; omega
      case c4 => omega
      case c5 => simp; omega
      intro v' w1 hown' hgrow _
      have hb' := below_append hb hsz hown hgrow
      have hs := Lib.hid (statesL_succ a0 k)
      clear hown hgrow hb
      go_wp2
      go_roundw
      case rel => exact ⟨k + 1, by omega, by go_num, rfl, by rw [hs.out, List.map_append]; exact hown', hb'⟩
      case measure => simp [intOf]; try omega
    · obtain rfl : k = n := by omega
      have hge : ¬ (0 : Int) < (k : Int) - k := by omega
      go_wp2
      go_ret2
      exact ⟨_, rfl, hown, hb⟩

theorem spec_StatesAfter_bad {w : World} (a0 n : Int) (h : ¬ ((1 ≤ a0 ∧ a0 ≤ 2147483646) ∧ 0 ≤ n ∧ n ≤ 200)) :
    Calls Try.prog 11 #[.int .i64 a0, .int .i64 n] w fun e w' => ∃ v, e = .returned (.tuple #[v, .int .i64 2]) ∧ w'.ownsRow w.heap.size 2 1 v 0 (([] : List Int).map (Value.int .i64)) ∧ Below w.heap.size w w' := by
  by_cases h1 : 1 ≤ a0 <;> by_cases h2 : a0 ≤ 2147483646 <;> by_cases h3 : 0 ≤ n <;> by_cases h4 : n ≤ 200 <;> try omega
  all_goals
    clear h
    go_enter Try.func11, Try.ntmps11
    go_wp2
    go_ret2
    exact ⟨_, rfl, World.ownsRow_nil _ _ _ _, Below.refl _ _⟩

end Go.Proofs.Ythlfecalpapkdaa
