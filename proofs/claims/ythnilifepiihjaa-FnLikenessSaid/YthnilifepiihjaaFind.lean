/-
  FindPerson of both packages.
  Conditions: each lemma names its own.
-/
import Derived.Test.YthnilifepiihjaaPersLik
namespace Go.Proofs.Ythnilifepiihjaa
open Go.RowKit
set_option linter.unusedVariables false

/-- The first person with a number, and the code. -/
def fndK (ps : List Per) (x : Int) : Nat := ps.findIdx (fun p => p.number == x)
def fndI (ps : List Per) (x : Int) : Int := if persB ps = true then (if fndK ps x < ps.length then (fndK ps x : Int) else 0) else 0
def fndE (ps : List Per) (x : Int) : Int := if persB ps = true then (if fndK ps x < ps.length then 0 else 4) else 1
def NotYet (ps : List Per) (x : Int) (k : Nat) : Prop := ∀ j p, j < k → ps[j]? = some p → p.number ≠ x
theorem notYet_zero (ps : List Per) (x : Int) : NotYet ps x 0 := fun j p h => absurd h (by omega)
theorem NotYet.succ {ps : List Per} {x : Int} {k : Nat} {p : Per} (h : NotYet ps x k) (hp : ps[k]? = some p) (hx : ¬ p.number = x) : NotYet ps x (k + 1) := fun j q hj hq => by
  by_cases e : j = k
  · subst e; rw [hp] at hq; injection hq with hq; subst hq; exact hx
  · exact h j q (by omega) hq
theorem fndK_at {ps : List Per} {x : Int} {k : Nat} {p : Per} (h : NotYet ps x k) (hp : ps[k]? = some p) (hx : p.number = x) : fndK ps x = k := by
  have hk : k < ps.length := (List.getElem?_eq_some_iff.1 hp).1
  unfold fndK
  rw [List.findIdx_eq hk]
  refine ⟨?_, fun j hj => ?_⟩
  · rw [(List.getElem?_eq_some_iff.1 hp).2]; simpa using hx
  · have := h j _ hj (List.getElem?_eq_getElem (by omega))
    simpa using this
theorem fndK_none {ps : List Per} {x : Int} (h : NotYet ps x ps.length) : ¬ fndK ps x < ps.length := by
  unfold fndK
  rw [List.findIdx_lt_length]
  rintro ⟨p, hp, hx⟩
  obtain ⟨k, hk, rfl⟩ := List.getElem_of_mem hp
  exact h k _ hk (List.getElem?_eq_getElem hk) (by simpa using hx)

set_option maxHeartbeats 1000000 in
theorem impl_Find {v : Value} {ps : List Per} {w : World} (h : Persons w v ps) (hp : PersFit ps) (x : Int) :
    Calls Try.prog 25 #[v, .int .i64 x] w fun e w' => e = .returned (.tuple #[.int .i64 (fndI ps x), .int .i64 (fndE ps x)]) ∧ Below w.heap.size w w' := by
  have HA := Lib.hid (impl_ArePersons h hp)
  obtain ⟨a, n, c, rfl, H⟩ := h.parts
  have hlen := Lib.hid H.len
  have hcap := H.cap
  have hmost := H.most
  unfold maxLen at hmost
  clear H
  have HP := Lib.hid h
  clear h
  cases hB : persB ps
  · have R1 : Hid (fndI ps x = 0) := Lib.hid (by unfold fndI; rw [if_neg (by simp [hB])])
    have R2 : Hid (fndE ps x = 1) := Lib.hid (by unfold fndE; rw [if_neg (by simp [hB])])
    rw [hB] at HA
    clear hB
    go_enter Try.func25, Try.ntmps25
    go_wp2_with fail
    refine HA.out.mono ?_
    rintro e w1 ⟨rfl, b1⟩
    go_wp2_with fail
    go_ret2
    exact ⟨ret2_i R1.out.symm R2.out.symm, b1⟩
  · have HB := Lib.hid hB
    rw [hB] at HA
    clear hB
    go_enter Try.func25, Try.ntmps25
    go_wp2_with fail
    refine HA.out.mono ?_
    rintro e w1 ⟨rfl, b1⟩
    go_wp2_with fail
    go_loopw [13] (fun i wr => ∃ k : Nat, k ≤ n ∧ i = .int .i64 k ∧ Below w.heap.size w wr ∧ Hid (NotYet ps x k)) (fun i _ => n - (intOf i).toNat)
    case atStart => exact ⟨0, Nat.zero_le _, rfl, b1, Lib.hid (notYet_zero _ _)⟩
    case round =>
      obtain ⟨k, hk, rfl, BB, hny⟩ := hrel
      rename_i wr
      by_cases hlt : k < n
      · obtain ⟨p, hx⟩ := per_at (ps := ps) (k := k) (by have := hlen.out; omega)
        obtain ⟨a', n', c', hv, H⟩ := (HP.out.below BB).parts
        injection hv with hv1 hv2 hv3
        subst hv1 hv2 hv3
        obtain ⟨b, o, ha, hbb, hc⟩ := H.cells (by omega)
        subst ha
        have HX := Lib.hid hx
        obtain ⟨c0, c1, c2, c3, c4⟩ := hc k p hx
        clear hc H hx
        by_cases q : p.number = x
        · have hq : (p.number == x) = true := by simpa using q
          have hk' := Lib.hid (fndK_at hny.out HX.out q)
          clear q
          go_wp2_with fail
          go_ret2
          refine ⟨ret2_i ?_ ?_, BB.alloc BB.size _⟩
          · unfold fndI; rw [if_pos HB.out, hk'.out, if_pos (by have := hlen.out; omega)]
          · unfold fndE; rw [if_pos HB.out, hk'.out, if_pos (by have := hlen.out; omega)]
        · have hq : (p.number == x) = false := by simpa using q
          have hnext := Lib.hid (hny.out.succ HX.out q)
          clear q hny
          have BN := BB.alloc BB.size (.cells #[.int .i64 p.number, .string p.first, .string p.last, .int .i64 p.born, .int .i64 p.zone] 35)
          go_wp2_with fail
          go_roundw
          case rel => exact ⟨k + 1, by omega, by go_num, BN, hnext⟩
          case measure => simp [intOf]; omega
      · have hkn : Hid (¬ fndK ps x < ps.length) := Lib.hid (fndK_none (fun j p hj => hny.out j p (by have := hlen.out; omega)))
        go_wp2_with fail
        go_ret2
        refine ⟨ret2_i ?_ ?_, BB⟩
        · unfold fndI; rw [if_pos HB.out, if_neg hkn.out]
        · unfold fndE; rw [if_pos HB.out, if_neg hkn.out]

/-- What the reference's search returns. -/
def fndS (ps : List Per) (x : Int) : Int := if fndK ps x < ps.length then (fndK ps x : Int) else -1
set_option maxHeartbeats 1000000 in
theorem spec_l04Find {v : Value} {ps : List Per} {w : World} (h : Persons w v ps) (x : Int) :
    Calls Try.prog 74 #[v, .int .i64 x] w fun e w' => e = .returned (.int .i64 (fndS ps x)) ∧ w = w' := by
  obtain ⟨a, n, c, rfl, H⟩ := h.parts
  have hlen := Lib.hid H.len
  have hcap := H.cap
  have hmost := H.most
  unfold maxLen at hmost
  clear h
  go_enter Try.func74, Try.ntmps74
  go_wp2_with fail
  go_loop [5] (fun i => ∃ k : Nat, k ≤ n ∧ i = .int .i64 k ∧ Hid (NotYet ps x k)) (fun i => n - (intOf i).toNat)
  case atStart => exact ⟨0, Nat.zero_le _, rfl, Lib.hid (notYet_zero _ _)⟩
  case round =>
    obtain ⟨k, hk, rfl, hny⟩ := hrel
    by_cases hlt : k < n
    · obtain ⟨p, hx⟩ := per_at (ps := ps) (k := k) (by have := hlen.out; omega)
      obtain ⟨b, o, ha, hbb, hc⟩ := H.cells (by omega)
      subst ha
      have HX := Lib.hid hx
      obtain ⟨c0, c1, c2, c3, c4⟩ := hc k p hx
      clear hc H hx
      by_cases q : p.number = x
      · have hq : (p.number == x) = true := by simpa using q
        have hk' := Lib.hid (fndK_at hny.out HX.out q)
        clear q
        go_wp2_with fail
        go_ret
        exact ⟨ri (by unfold fndS; rw [hk'.out, if_pos (by have := hlen.out; omega)]), rfl⟩
      · have hq : (p.number == x) = false := by simpa using q
        have hnext := Lib.hid (hny.out.succ HX.out q)
        clear q hny
        go_wp2_with fail
        go_round
        case rel => exact ⟨k + 1, by omega, by go_num, hnext⟩
        case measure => simp [intOf]; omega
    · have hkn : Hid (¬ fndK ps x < ps.length) := Lib.hid (fndK_none (fun j p hj => hny.out j p (by have := hlen.out; omega)))
      clear H
      go_wp2_with fail
      go_ret
      exact ⟨ri (by unfold fndS; rw [if_neg hkn.out]), rfl⟩

set_option maxHeartbeats 1000000 in
theorem spec_Find {v : Value} {ps : List Per} {w : World} (h : Persons w v ps) (hp : PersFit ps) (x : Int) :
    Calls Try.prog 26 #[v, .int .i64 x] w fun e w' => e = .returned (.tuple #[.int .i64 (fndI ps x), .int .i64 (fndE ps x)]) ∧ Below w.heap.size w w' := by
  have HA := Lib.hid (spec_ArePersons h hp)
  have HP := Lib.hid h
  clear h
  cases hB : persB ps
  · have R1 : Hid (fndI ps x = 0) := Lib.hid (by unfold fndI; rw [if_neg (by simp [hB])])
    have R2 : Hid (fndE ps x = 1) := Lib.hid (by unfold fndE; rw [if_neg (by simp [hB])])
    rw [hB] at HA
    clear hB
    go_enter Try.func26, Try.ntmps26
    go_wp2_with fail
    refine HA.out.mono ?_
    rintro e w1 ⟨rfl, b1⟩
    go_wp2_with fail
    go_ret2
    exact ⟨ret2_i R1.out.symm R2.out.symm, b1⟩
  · have HB := Lib.hid hB
    rw [hB] at HA
    clear hB
    have HS := fun w1 (b1 : Below w.heap.size w w1) => spec_l04Find (HP.out.below b1) x
    by_cases q : fndK ps x < ps.length
    · have R0 : Hid (fndS ps x = (fndK ps x : Int)) := Lib.hid (by unfold fndS; rw [if_pos q])
      have R1 : Hid (fndI ps x = (fndK ps x : Int)) := Lib.hid (by unfold fndI; rw [if_pos HB.out, if_pos q])
      have R2 : Hid (fndE ps x = 0) := Lib.hid (by unfold fndE; rw [if_pos HB.out, if_pos q])
      rw [R0.out] at HS
      have HS := Lib.hid HS
      go_enter Try.func26, Try.ntmps26
      go_wp2_with fail
      refine HA.out.mono ?_
      rintro e w1 ⟨rfl, b1⟩
      go_wp2_with fail
      refine (HS.out _ b1).mono ?_
      rintro e w2 ⟨rfl, rfl⟩
      go_wp2_with fail
      go_ret2
      exact ⟨ret2_i R1.out.symm R2.out.symm, b1⟩
    · have R0 : Hid (fndS ps x = -1) := Lib.hid (by unfold fndS; rw [if_neg q])
      have R1 : Hid (fndI ps x = 0) := Lib.hid (by unfold fndI; rw [if_pos HB.out, if_neg q])
      have R2 : Hid (fndE ps x = 4) := Lib.hid (by unfold fndE; rw [if_pos HB.out, if_neg q])
      rw [R0.out] at HS
      have HS := Lib.hid HS
      go_enter Try.func26, Try.ntmps26
      go_wp2_with fail
      refine HA.out.mono ?_
      rintro e w1 ⟨rfl, b1⟩
      go_wp2_with fail
      refine (HS.out _ b1).mono ?_
      rintro e w2 ⟨rfl, rfl⟩
      go_wp2_with fail
      go_ret2
      exact ⟨ret2_i R1.out.symm R2.out.symm, b1⟩
end Go.Proofs.Ythnilifepiihjaa
