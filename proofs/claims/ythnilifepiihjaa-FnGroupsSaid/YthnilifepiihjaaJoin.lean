/-
  The codes of persons, a limit and indices: joinCode, l05Code, l05Limit.
  Conditions: each lemma names its own.
-/
import Derived.Test.YthnilifepiihjaaPersLik
import Derived.Test.YthnilifepiihjaaLimit
namespace Go.Proofs.Ythnilifepiihjaa
open Go.RowKit
set_option linter.unusedVariables false

def idxB (n : Nat) (i : Int) : Bool := decide (0 ≤ i) && decide (i < n)
def jcode (ps : List Per) (l : Int) (is : List Int) : Int := if persB ps = true then (if 0 ≤ l ∧ l ≤ 100 then (if is.all (idxB ps.length) = true then 0 else 2) else 2) else 1
theorem jcode_ok {ps : List Per} {l : Int} {is : List Int} : jcode ps l is = 0 ↔ persB ps = true ∧ (0 ≤ l ∧ l ≤ 100) ∧ ∀ i ∈ is, 0 ≤ i ∧ i < ps.length := by
  unfold jcode
  by_cases h1 : persB ps = true
  · rw [if_pos h1]
    by_cases h2 : 0 ≤ l ∧ l ≤ 100
    · rw [if_pos h2]
      by_cases h3 : is.all (idxB ps.length) = true
      · rw [if_pos h3]
        rw [List.all_eq_true] at h3
        exact ⟨fun _ => ⟨h1, h2, fun i hi => by have := h3 i hi; unfold idxB at this; simpa using this⟩, fun _ => rfl⟩
      · rw [if_neg h3]
        refine ⟨fun h => absurd h (by decide), fun h => absurd ?_ h3⟩
        rw [List.all_eq_true]
        intro i hi
        have := h.2.2 i hi
        unfold idxB
        simpa using this
    · rw [if_neg h2]; exact ⟨fun h => absurd h (by decide), fun h => absurd h.2.1 h2⟩
  · rw [if_neg h1]; exact ⟨fun h => absurd h (by decide), fun h => absurd h.1 h1⟩
theorem jcode_twice (ps : List Per) (l i : Int) : jcode ps l [i, i] = jcode ps l [i] := by unfold jcode; simp
theorem at_yes (i : Int) (n : Nat) (h0 : 0 ≤ i) (h1 : i < n) (w : World) : Calls Try.prog 101 #[.int .i64 i, .int .i64 (n : Int)] w fun e w' => e = .returned (.bool true) ∧ w = w' := by
  go_enter Try.func101, Try.ntmps101
  go_wp2_with fail
  go_ret
  exact ⟨rfl, rfl⟩
theorem at_no (i : Int) (n : Nat) (h : i < 0 ∨ (n : Int) ≤ i) (w : World) : Calls Try.prog 101 #[.int .i64 i, .int .i64 (n : Int)] w fun e w' => e = .returned (.bool false) ∧ w = w' := by
  by_cases h0 : 0 ≤ i
  · have h1 : (n : Int) ≤ i := by omega
    clear h
    go_enter Try.func101, Try.ntmps101
    go_wp2_with fail
    go_ret
    exact ⟨rb (decide_eq_false (by omega)), rfl⟩
  · clear h
    go_enter Try.func101, Try.ntmps101
    go_wp2_with fail
    go_ret
    exact ⟨rfl, rfl⟩

set_option maxHeartbeats 2000000 in
theorem impl_joinCode {v u : Value} {ps : List Per} {is : List Int} {w : World} (h : Persons w v ps) (hp : PersFit ps) (g : Ints w u is) (l : Int) :
    Calls Try.prog 80 #[v, .int .i64 l, u] w fun e w' => e = .returned (.int .i64 (jcode ps l is)) ∧ Below w.heap.size w w' := by
  have HA := Lib.hid (impl_ArePersons h hp)
  have HG := Lib.hid g
  obtain ⟨a, n, c, rfl, H⟩ := h.parts
  have hlen := Lib.hid H.len
  have hcap := H.cap
  have hmost := H.most
  unfold maxLen at hmost
  clear H h hp g
  cases hB : persB ps
  · have R1 : Hid (jcode ps l is = 1) := Lib.hid (by unfold jcode; rw [if_neg (by simp [hB])])
    rw [hB] at HA
    clear hB
    go_enter Try.func80, Try.ntmps80
    go_wp2_with fail
    refine HA.out.mono ?_
    rintro e w1 ⟨rfl, b1⟩
    go_wp2_with fail
    go_ret
    exact ⟨ri R1.out.symm, b1⟩
  · have HB := Lib.hid hB
    rw [hB] at HA
    clear hB
    by_cases hl : 0 ≤ l ∧ l ≤ 100
    · have HL := Lib.hid hl
      have HY := Lib.hid (fun w => limit_yes l hl.1 hl.2 w)
      clear hl
      obtain ⟨a2, n2, c2, rfl, H2⟩ := HG.out.parts
      have hlen2 := Lib.hid H2.len
      have hcap2 := H2.cap
      have hmost2 := H2.most
      unfold maxLen at hmost2
      clear H2
      go_enter Try.func80, Try.ntmps80
      go_wp2_with fail
      refine HA.out.mono ?_
      rintro e w1 ⟨rfl, b1⟩
      go_wp2_with fail
      refine (HY.out _).mono ?_
      rintro e w' ⟨rfl, rfl⟩
      have HG1 := Lib.hid (HG.out.below b1)
      go_wp2_with fail
      go_loop [17] (fun i => ∃ k : Nat, k ≤ n2 ∧ i = .int .i64 k ∧ Hid (AllTo (fun j => idxB n (is.getD j 0)) k)) (fun i => n2 - (intOf i).toNat)
      case atStart => exact ⟨0, Nat.zero_le _, rfl, Lib.hid (allTo_zero _)⟩
      case round =>
        obtain ⟨k, hk, rfl, hall⟩ := hrel
        by_cases hlt : k < n2
        · have hX := at_of (xs := is) (k := k) (by have := hlen2.out; omega)
          obtain ⟨x, hx⟩ := hX
          obtain ⟨a', n', c', hv, H2⟩ := HG1.out.parts
          injection hv with hv1 hv2 hv3
          subst hv2 hv3
          obtain ⟨b, o, ha, hbb, hcs⟩ := H2.cells (by omega)
          rw [← hv1] at ha
          clear hv1
          subst ha
          have cx := hcs k x hx
          have hgd := getD_of hx
          have HXX := Lib.hid (List.mem_of_getElem? hx)
          clear hcs H2 hx
          by_cases q : 0 ≤ x ∧ x < n
          · have HQ := Lib.hid (fun w => at_yes x n q.1 q.2 w)
            have hnext := Lib.hid (hall.out.succ (show (fun j => idxB n (is.getD j 0)) k = true by show idxB n (is.getD k 0) = true; rw [hgd]; unfold idxB; simpa using q))
            clear q hgd
            go_wp2_with fail
            refine (HQ.out _).mono ?_
            rintro e w' ⟨rfl, rfl⟩
            go_wp2_with fail
            go_round
            case rel => exact ⟨k + 1, by omega, by go_num, hnext⟩
            case measure => simp [intOf]; omega
          · have HQ := Lib.hid (fun w => at_no x n (by omega) w)
            have R1 : Hid (jcode ps l is = 2) := Lib.hid (by
              unfold jcode
              rw [if_pos HB.out, if_pos HL.out, if_neg]
              intro h
              rw [List.all_eq_true] at h
              have := h x HXX.out
              unfold idxB at this
              rw [hlen.out] at this
              exact q (by simpa using this))
            clear q hgd
            go_wp2_with fail
            refine (HQ.out _).mono ?_
            rintro e w' ⟨rfl, rfl⟩
            go_wp2_with fail
            go_ret
            exact ⟨ri R1.out.symm, b1⟩
        · have R1 : Hid (jcode ps l is = 0) := Lib.hid (by
            unfold jcode
            rw [if_pos HB.out, if_pos HL.out, if_pos]
            rw [List.all_eq_true]
            intro x hx
            obtain ⟨j, hj, rfl⟩ := List.getElem_of_mem hx
            have := hall.out j (by have := hlen2.out; omega)
            rw [hlen.out]
            have e : is.getD j 0 = is[j] := getD_of (List.getElem?_eq_getElem hj)
            rw [← e]
            exact this)
          go_wp2_with fail
          go_ret
          exact ⟨ri R1.out.symm, b1⟩
    · have HY := Lib.hid (fun w => limit_no l (by omega) w)
      have R1 : Hid (jcode ps l is = 2) := Lib.hid (by unfold jcode; rw [if_pos HB.out, if_neg hl])
      clear hl
      go_enter Try.func80, Try.ntmps80
      go_wp2_with fail
      refine HA.out.mono ?_
      rintro e w1 ⟨rfl, b1⟩
      go_wp2_with fail
      refine (HY.out _).mono ?_
      rintro e w' ⟨rfl, rfl⟩
      go_wp2_with fail
      go_ret
      exact ⟨ri R1.out.symm, b1⟩

set_option maxHeartbeats 2000000 in
theorem spec_l05Code {v : Value} {ps : List Per} {w : World} (h : Persons w v ps) (hp : PersFit ps) (l a b : Int) :
    Calls Try.prog 82 #[v, .int .i64 l, .int .i64 a, .int .i64 b] w fun e w' => e = .returned (.int .i64 (jcode ps l [a, b])) ∧ Below w.heap.size w w' := by
  have HA := Lib.hid (spec_ArePersons h hp)
  obtain ⟨aa, n, c, rfl, H⟩ := h.parts
  have hlen := Lib.hid H.len
  have hcap := H.cap
  have hmost := H.most
  unfold maxLen at hmost
  clear H h hp
  cases hB : persB ps
  · have R1 : Hid (jcode ps l [a, b] = 1) := Lib.hid (by unfold jcode; rw [if_neg (by simp [hB])])
    rw [hB] at HA
    clear hB
    go_enter Try.func82, Try.ntmps82
    go_wp2_with fail
    refine HA.out.mono ?_
    rintro e w1 ⟨rfl, b1⟩
    go_wp2_with fail
    go_ret
    exact ⟨ri R1.out.symm, b1⟩
  · have HB := Lib.hid hB
    rw [hB] at HA
    clear hB
    by_cases hl : 0 ≤ l ∧ l ≤ 100
    · skip
      by_cases ha : 0 ≤ a ∧ a ≤ (n : Int) - 1
      · skip
        by_cases hb : 0 ≤ b ∧ b ≤ (n : Int) - 1
        · skip
          have R1 : Hid (jcode ps l [a, b] = 0) := Lib.hid (by rw [jcode_ok]; exact ⟨HB.out, hl, by simp; rw [hlen.out]; omega⟩)
          have Q0 := Lib.hid (fun w => in_yes l 0 100 (by omega) (by omega) w)
          have Q1 := Lib.hid (fun w => in_yes a 0 ((n : Int) - 1) (by omega) (by omega) w)
          have Q2 := Lib.hid (fun w => in_yes b 0 ((n : Int) - 1) (by omega) (by omega) w)
          clear hl ha hb
          go_enter Try.func82, Try.ntmps82
          go_wp2_with fail
          refine HA.out.mono ?_
          rintro e w1 ⟨rfl, b1⟩
          go_wp2_with fail
          refine (Q0.out _).mono ?_
          rintro e w' ⟨rfl, rfl⟩
          go_wp2_with fail
          refine (Q1.out _).mono ?_
          rintro e w' ⟨rfl, rfl⟩
          go_wp2_with fail
          refine (Q2.out _).mono ?_
          rintro e w' ⟨rfl, rfl⟩
          go_wp2_with fail
          go_ret
          exact ⟨ri R1.out.symm, b1⟩
        · skip
          have R1 : Hid (jcode ps l [a, b] = 2) := Lib.hid (by unfold jcode; rw [if_pos HB.out, if_pos hl, if_neg]; intro h; rw [List.all_eq_true] at h; have := h b (by simp); unfold idxB at this; rw [hlen.out] at this; simp at this; omega)
          have Q0 := Lib.hid (fun w => in_yes l 0 100 (by omega) (by omega) w)
          have Q1 := Lib.hid (fun w => in_yes a 0 ((n : Int) - 1) (by omega) (by omega) w)
          have Q2 := Lib.hid (fun w => in_no b 0 ((n : Int) - 1) (by omega) w)
          clear hl ha hb
          go_enter Try.func82, Try.ntmps82
          go_wp2_with fail
          refine HA.out.mono ?_
          rintro e w1 ⟨rfl, b1⟩
          go_wp2_with fail
          refine (Q0.out _).mono ?_
          rintro e w' ⟨rfl, rfl⟩
          go_wp2_with fail
          refine (Q1.out _).mono ?_
          rintro e w' ⟨rfl, rfl⟩
          go_wp2_with fail
          refine (Q2.out _).mono ?_
          rintro e w' ⟨rfl, rfl⟩
          go_wp2_with fail
          go_ret
          exact ⟨ri R1.out.symm, b1⟩
      · skip
        have R1 : Hid (jcode ps l [a, b] = 2) := Lib.hid (by unfold jcode; rw [if_pos HB.out, if_pos hl, if_neg]; intro h; rw [List.all_eq_true] at h; have := h a (by simp); unfold idxB at this; rw [hlen.out] at this; simp at this; omega)
        have Q0 := Lib.hid (fun w => in_yes l 0 100 (by omega) (by omega) w)
        have Q1 := Lib.hid (fun w => in_no a 0 ((n : Int) - 1) (by omega) w)
        clear hl ha
        go_enter Try.func82, Try.ntmps82
        go_wp2_with fail
        refine HA.out.mono ?_
        rintro e w1 ⟨rfl, b1⟩
        go_wp2_with fail
        refine (Q0.out _).mono ?_
        rintro e w' ⟨rfl, rfl⟩
        go_wp2_with fail
        refine (Q1.out _).mono ?_
        rintro e w' ⟨rfl, rfl⟩
        go_wp2_with fail
        go_ret
        exact ⟨ri R1.out.symm, b1⟩
    · skip
      have R1 : Hid (jcode ps l [a, b] = 2) := Lib.hid (by unfold jcode; rw [if_pos HB.out, if_neg hl])
      have Q0 := Lib.hid (fun w => in_no l 0 100 (by omega) w)
      clear hl
      go_enter Try.func82, Try.ntmps82
      go_wp2_with fail
      refine HA.out.mono ?_
      rintro e w1 ⟨rfl, b1⟩
      go_wp2_with fail
      refine (Q0.out _).mono ?_
      rintro e w' ⟨rfl, rfl⟩
      go_wp2_with fail
      go_ret
      exact ⟨ri R1.out.symm, b1⟩
set_option maxHeartbeats 2000000 in
theorem spec_l05Limit {v : Value} {ps : List Per} {w : World} (h : Persons w v ps) (hp : PersFit ps) (l : Int) :
    Calls Try.prog 88 #[v, .int .i64 l] w fun e w' => e = .returned (.int .i64 (jcode ps l [])) ∧ Below w.heap.size w w' := by
  have HA := Lib.hid (spec_ArePersons h hp)
  obtain ⟨aa, n, c, rfl, H⟩ := h.parts
  have hlen := Lib.hid H.len
  have hcap := H.cap
  have hmost := H.most
  unfold maxLen at hmost
  clear H h hp
  cases hB : persB ps
  · have R1 : Hid (jcode ps l [] = 1) := Lib.hid (by unfold jcode; rw [if_neg (by simp [hB])])
    rw [hB] at HA
    clear hB
    go_enter Try.func88, Try.ntmps88
    go_wp2_with fail
    refine HA.out.mono ?_
    rintro e w1 ⟨rfl, b1⟩
    go_wp2_with fail
    go_ret
    exact ⟨ri R1.out.symm, b1⟩
  · have HB := Lib.hid hB
    rw [hB] at HA
    clear hB
    by_cases hl : 0 ≤ l ∧ l ≤ 100
    · skip
      have R1 : Hid (jcode ps l [] = 0) := Lib.hid (by rw [jcode_ok]; exact ⟨HB.out, hl, by simp⟩)
      have Q0 := Lib.hid (fun w => in_yes l 0 100 (by omega) (by omega) w)
      clear hl
      go_enter Try.func88, Try.ntmps88
      go_wp2_with fail
      refine HA.out.mono ?_
      rintro e w1 ⟨rfl, b1⟩
      go_wp2_with fail
      refine (Q0.out _).mono ?_
      rintro e w' ⟨rfl, rfl⟩
      go_wp2_with fail
      go_ret
      exact ⟨ri R1.out.symm, b1⟩
    · skip
      have R1 : Hid (jcode ps l [] = 2) := Lib.hid (by unfold jcode; rw [if_pos HB.out, if_neg hl])
      have Q0 := Lib.hid (fun w => in_no l 0 100 (by omega) w)
      clear hl
      go_enter Try.func88, Try.ntmps88
      go_wp2_with fail
      refine HA.out.mono ?_
      rintro e w1 ⟨rfl, b1⟩
      go_wp2_with fail
      refine (Q0.out _).mono ?_
      rintro e w' ⟨rfl, rfl⟩
      go_wp2_with fail
      go_ret
      exact ⟨ri R1.out.symm, b1⟩
end Go.Proofs.Ythnilifepiihjaa
