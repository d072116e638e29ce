/-
  Points and the likeness of two persons, of both packages.
  Conditions: each lemma names its own.
-/
import Derived.Test.YthnilifepiihjaaStep
namespace Go.Proofs.Ythnilifepiihjaa
open Go.RowKit
set_option linter.unusedVariables false

theorem bytes_beq (a b : ByteArray) : (a.toList == b.toList) = decide (a = b) := by
  rw [Bool.eq_iff_iff]
  simp only [beq_iff_eq, decide_eq_true_eq, Lib.toList_data]
  constructor
  · intro h
    obtain ⟨⟨l⟩⟩ := a
    obtain ⟨⟨k⟩⟩ := b
    simpa using h
  · rintro rfl
    rfl
theorem pts_same (a : ByteArray) (e s : Int) : pts a a e s = e := pts_self a e s
theorem pts_step {a b : ByteArray} {e s : Int} (h : ¬ a = b) (hs : stepB a.data.toList b.data.toList = true) : pts a b e s = s := by unfold pts; rw [if_neg h, if_pos hs]
theorem pts_none {a b : ByteArray} {e s : Int} (h : ¬ a = b) (hs : stepB a.data.toList b.data.toList = false) : pts a b e s = 0 := by unfold pts; rw [if_neg h, if_neg (by simp [hs])]

set_option maxHeartbeats 400000 in
theorem impl_pts (a b : ByteArray) (e s : Int) (w : World) (ha : a.size ≤ 9223372036854775807) (hb : b.size ≤ 9223372036854775807) :
    Calls Try.prog 97 #[.string a, .string b, .int .i64 e, .int .i64 s] w fun r w' => r = .returned (.int .i64 (pts a b e s)) ∧ ∃ m, w' = w.drewN m := by
  by_cases h : a = b
  · subst h
    have HB := Lib.hid (pts_same a e s)
    go_enter Try.func97, Try.ntmps97
    go_wp2_with fail
    go_ret
    exact ⟨ri HB.out.symm, 0, rfl⟩
  · have hq : (a.toList == b.toList) = false := by rw [bytes_beq]; exact decide_eq_false h
    cases hs : stepB a.data.toList b.data.toList
    · have HB := Lib.hid (pts_none (e := e) (s := s) h hs)
      clear h
      go_enter Try.func97, Try.ntmps97
      go_wp2_with fail
      refine (impl_step a b _ ha hb).mono ?_
      rintro r w' ⟨rfl, m, rfl⟩
      go_wp2_with fail
      go_ret
      exact ⟨ri HB.out.symm, m, rfl⟩
    · have HB := Lib.hid (pts_step (e := e) (s := s) h hs)
      clear h
      go_enter Try.func97, Try.ntmps97
      go_wp2_with fail
      refine (impl_step a b _ ha hb).mono ?_
      rintro r w' ⟨rfl, m, rfl⟩
      go_wp2_with fail
      go_ret
      exact ⟨ri HB.out.symm, m, rfl⟩

set_option maxHeartbeats 400000 in
theorem spec_pts (a b : ByteArray) (e s : Int) (w : World) (ha : a.size ≤ 9223372036854775807) (hb : b.size ≤ 9223372036854775807) :
    Calls Try.prog 98 #[.string a, .string b, .int .i64 e, .int .i64 s] w fun r w' => r = .returned (.int .i64 (pts a b e s)) ∧ ∃ m, w' = w.drewN m := by
  by_cases h : a = b
  · subst h
    have HB := Lib.hid (pts_same a e s)
    go_enter Try.func98, Try.ntmps98
    go_wp2_with fail
    go_ret
    exact ⟨ri HB.out.symm, 0, rfl⟩
  · have hq : (a.toList == b.toList) = false := by rw [bytes_beq]; exact decide_eq_false h
    cases hs : stepB a.data.toList b.data.toList
    · have HB := Lib.hid (pts_none (e := e) (s := s) h hs)
      clear h
      go_enter Try.func98, Try.ntmps98
      go_wp2_with fail
      refine (spec_step a b _ ha hb).mono ?_
      rintro r w' ⟨rfl, m, rfl⟩
      go_wp2_with fail
      go_ret
      exact ⟨ri HB.out.symm, m, rfl⟩
    · have HB := Lib.hid (pts_step (e := e) (s := s) h hs)
      clear h
      go_enter Try.func98, Try.ntmps98
      go_wp2_with fail
      refine (spec_step a b _ ha hb).mono ?_
      rintro r w' ⟨rfl, m, rfl⟩
      go_wp2_with fail
      go_ret
      exact ⟨ri HB.out.symm, m, rfl⟩

set_option maxHeartbeats 2000000 in
theorem impl_likeness (p q : Per) (hp : PerFit p) (hq : PerFit q) (b1 : 1900 ≤ p.born ∧ p.born ≤ 2100) (b2 : 1900 ≤ q.born ∧ q.born ≤ 2100) (w : World) :
    Calls Try.prog 67 #[perV p, perV q] w fun r w' => r = .returned (.int .i64 (lik p q)) ∧ Below w.heap.size w w' := by
  have f1 := hp.first
  have f2 := hp.last
  have f3 := hq.first
  have f4 := hq.last
  have x1 := pts_bd p.last q.last (e := 40) (s := 25) (by omega) (by omega)
  have x2 := pts_bd p.first q.first (e := 30) (s := 20) (by omega) (by omega)
  clear hp hq
  have HL : Hid (lik p q = pts p.last q.last 40 25 + pts p.first q.first 30 20 + bornP p.born q.born + zoneP p.zone q.zone) := Lib.hid rfl
  unfold perV
  have born : (p.born = q.born) ∨ (p.born - q.born = 1) ∨ (q.born - p.born = 1) ∨ (2 ≤ p.born - q.born) ∨ (2 ≤ q.born - p.born) := by omega
  have zone : (p.zone = q.zone) ∨ ¬ (p.zone = q.zone) := by omega
  rcases born with hb | hb | hb | hb | hb <;> rcases zone with hz | hz
  · have HB : Hid (bornP p.born q.born = 20) := Lib.hid (by unfold bornP; rw [if_pos hb])
    have HZ : Hid (zoneP p.zone q.zone = 10) := Lib.hid (by unfold zoneP; rw [if_pos hz])
    have hb1 : p.born ≤ q.born ∧ q.born ≤ p.born := by omega
    have hz1 : (p.zone == q.zone) = true := by rw [beq_iff_eq]; exact hz
    clear hb
    clear hz
    go_enter Try.func67, Try.ntmps67
    go_wp2_with fail
    go_quiet ((go_at_call 97; exact Calls.quiet_of (impl_pts _ _ _ _ _ (by assumption) (by assumption))))
    go_wp2_with fail
    go_ret
    exact ⟨ri (by rw [HL.out, HB.out, HZ.out]; try omega), below_of_drewN (((Below.refl _ _).alloc (Nat.le_refl _) _).alloc (by simp) _) _⟩
  · have HB : Hid (bornP p.born q.born = 20) := Lib.hid (by unfold bornP; rw [if_pos hb])
    have HZ : Hid (zoneP p.zone q.zone = 0) := Lib.hid (by unfold zoneP; rw [if_neg hz])
    have hb1 : p.born ≤ q.born ∧ q.born ≤ p.born := by omega
    have hz1 : (p.zone == q.zone) = false := by rw [beq_eq_false_iff_ne]; exact hz
    clear hb
    clear hz
    go_enter Try.func67, Try.ntmps67
    go_wp2_with fail
    go_quiet ((go_at_call 97; exact Calls.quiet_of (impl_pts _ _ _ _ _ (by assumption) (by assumption))))
    go_wp2_with fail
    go_ret
    exact ⟨ri (by rw [HL.out, HB.out, HZ.out]; try omega), below_of_drewN (((Below.refl _ _).alloc (Nat.le_refl _) _).alloc (by simp) _) _⟩
  · have HB : Hid (bornP p.born q.born = 10) := Lib.hid (by unfold bornP; rw [if_neg (by omega), if_pos (.inl hb)])
    have HZ : Hid (zoneP p.zone q.zone = 10) := Lib.hid (by unfold zoneP; rw [if_pos hz])
    have hb1 : p.born - q.born ≤ 1 ∧ 1 ≤ p.born - q.born := by omega
    have hz1 : (p.zone == q.zone) = true := by rw [beq_iff_eq]; exact hz
    clear hb
    clear hz
    go_enter Try.func67, Try.ntmps67
    go_wp2_with fail
    go_quiet ((go_at_call 97; exact Calls.quiet_of (impl_pts _ _ _ _ _ (by assumption) (by assumption))))
    go_wp2_with fail
    go_ret
    exact ⟨ri (by rw [HL.out, HB.out, HZ.out]; try omega), below_of_drewN (((Below.refl _ _).alloc (Nat.le_refl _) _).alloc (by simp) _) _⟩
  · have HB : Hid (bornP p.born q.born = 10) := Lib.hid (by unfold bornP; rw [if_neg (by omega), if_pos (.inl hb)])
    have HZ : Hid (zoneP p.zone q.zone = 0) := Lib.hid (by unfold zoneP; rw [if_neg hz])
    have hb1 : p.born - q.born ≤ 1 ∧ 1 ≤ p.born - q.born := by omega
    have hz1 : (p.zone == q.zone) = false := by rw [beq_eq_false_iff_ne]; exact hz
    clear hb
    clear hz
    go_enter Try.func67, Try.ntmps67
    go_wp2_with fail
    go_quiet ((go_at_call 97; exact Calls.quiet_of (impl_pts _ _ _ _ _ (by assumption) (by assumption))))
    go_wp2_with fail
    go_ret
    exact ⟨ri (by rw [HL.out, HB.out, HZ.out]; try omega), below_of_drewN (((Below.refl _ _).alloc (Nat.le_refl _) _).alloc (by simp) _) _⟩
  · have HB : Hid (bornP p.born q.born = 10) := Lib.hid (by unfold bornP; rw [if_neg (by omega), if_pos (.inr hb)])
    have HZ : Hid (zoneP p.zone q.zone = 10) := Lib.hid (by unfold zoneP; rw [if_pos hz])
    have hb1 : q.born - p.born ≤ 1 ∧ 1 ≤ q.born - p.born := by omega
    have hz1 : (p.zone == q.zone) = true := by rw [beq_iff_eq]; exact hz
    clear hb
    clear hz
    go_enter Try.func67, Try.ntmps67
    go_wp2_with fail
    go_quiet ((go_at_call 97; exact Calls.quiet_of (impl_pts _ _ _ _ _ (by assumption) (by assumption))))
    go_wp2_with fail
    go_ret
    exact ⟨ri (by rw [HL.out, HB.out, HZ.out]; try omega), below_of_drewN (((Below.refl _ _).alloc (Nat.le_refl _) _).alloc (by simp) _) _⟩
  · have HB : Hid (bornP p.born q.born = 10) := Lib.hid (by unfold bornP; rw [if_neg (by omega), if_pos (.inr hb)])
    have HZ : Hid (zoneP p.zone q.zone = 0) := Lib.hid (by unfold zoneP; rw [if_neg hz])
    have hb1 : q.born - p.born ≤ 1 ∧ 1 ≤ q.born - p.born := by omega
    have hz1 : (p.zone == q.zone) = false := by rw [beq_eq_false_iff_ne]; exact hz
    clear hb
    clear hz
    go_enter Try.func67, Try.ntmps67
    go_wp2_with fail
    go_quiet ((go_at_call 97; exact Calls.quiet_of (impl_pts _ _ _ _ _ (by assumption) (by assumption))))
    go_wp2_with fail
    go_ret
    exact ⟨ri (by rw [HL.out, HB.out, HZ.out]; try omega), below_of_drewN (((Below.refl _ _).alloc (Nat.le_refl _) _).alloc (by simp) _) _⟩
  · have HB : Hid (bornP p.born q.born = 0) := Lib.hid (by unfold bornP; rw [if_neg (by omega), if_neg (by omega)])
    have HZ : Hid (zoneP p.zone q.zone = 10) := Lib.hid (by unfold zoneP; rw [if_pos hz])
    skip
    have hz1 : (p.zone == q.zone) = true := by rw [beq_iff_eq]; exact hz
    skip
    clear hz
    go_enter Try.func67, Try.ntmps67
    go_wp2_with fail
    go_quiet ((go_at_call 97; exact Calls.quiet_of (impl_pts _ _ _ _ _ (by assumption) (by assumption))))
    go_wp2_with fail
    go_ret
    exact ⟨ri (by rw [HL.out, HB.out, HZ.out]; try omega), below_of_drewN (((Below.refl _ _).alloc (Nat.le_refl _) _).alloc (by simp) _) _⟩
  · have HB : Hid (bornP p.born q.born = 0) := Lib.hid (by unfold bornP; rw [if_neg (by omega), if_neg (by omega)])
    have HZ : Hid (zoneP p.zone q.zone = 0) := Lib.hid (by unfold zoneP; rw [if_neg hz])
    skip
    have hz1 : (p.zone == q.zone) = false := by rw [beq_eq_false_iff_ne]; exact hz
    skip
    clear hz
    go_enter Try.func67, Try.ntmps67
    go_wp2_with fail
    go_quiet ((go_at_call 97; exact Calls.quiet_of (impl_pts _ _ _ _ _ (by assumption) (by assumption))))
    go_wp2_with fail
    go_ret
    exact ⟨ri (by rw [HL.out, HB.out, HZ.out]; try omega), below_of_drewN (((Below.refl _ _).alloc (Nat.le_refl _) _).alloc (by simp) _) _⟩
  · have HB : Hid (bornP p.born q.born = 0) := Lib.hid (by unfold bornP; rw [if_neg (by omega), if_neg (by omega)])
    have HZ : Hid (zoneP p.zone q.zone = 10) := Lib.hid (by unfold zoneP; rw [if_pos hz])
    skip
    have hz1 : (p.zone == q.zone) = true := by rw [beq_iff_eq]; exact hz
    skip
    clear hz
    go_enter Try.func67, Try.ntmps67
    go_wp2_with fail
    go_quiet ((go_at_call 97; exact Calls.quiet_of (impl_pts _ _ _ _ _ (by assumption) (by assumption))))
    go_wp2_with fail
    go_ret
    exact ⟨ri (by rw [HL.out, HB.out, HZ.out]; try omega), below_of_drewN (((Below.refl _ _).alloc (Nat.le_refl _) _).alloc (by simp) _) _⟩
  · have HB : Hid (bornP p.born q.born = 0) := Lib.hid (by unfold bornP; rw [if_neg (by omega), if_neg (by omega)])
    have HZ : Hid (zoneP p.zone q.zone = 0) := Lib.hid (by unfold zoneP; rw [if_neg hz])
    skip
    have hz1 : (p.zone == q.zone) = false := by rw [beq_eq_false_iff_ne]; exact hz
    skip
    clear hz
    go_enter Try.func67, Try.ntmps67
    go_wp2_with fail
    go_quiet ((go_at_call 97; exact Calls.quiet_of (impl_pts _ _ _ _ _ (by assumption) (by assumption))))
    go_wp2_with fail
    go_ret
    exact ⟨ri (by rw [HL.out, HB.out, HZ.out]; try omega), below_of_drewN (((Below.refl _ _).alloc (Nat.le_refl _) _).alloc (by simp) _) _⟩

set_option maxHeartbeats 2000000 in
theorem spec_likeness (p q : Per) (hp : PerFit p) (hq : PerFit q) (b1 : 1900 ≤ p.born ∧ p.born ≤ 2100) (b2 : 1900 ≤ q.born ∧ q.born ≤ 2100) (w : World) :
    Calls Try.prog 68 #[perV p, perV q] w fun r w' => r = .returned (.int .i64 (lik p q)) ∧ Below w.heap.size w w' := by
  have f1 := hp.first
  have f2 := hp.last
  have f3 := hq.first
  have f4 := hq.last
  have x1 := pts_bd p.last q.last (e := 40) (s := 25) (by omega) (by omega)
  have x2 := pts_bd p.first q.first (e := 30) (s := 20) (by omega) (by omega)
  clear hp hq
  have HL : Hid (lik p q = pts p.last q.last 40 25 + pts p.first q.first 30 20 + bornP p.born q.born + zoneP p.zone q.zone) := Lib.hid rfl
  unfold perV
  have born : (p.born = q.born) ∨ (p.born - q.born = 1) ∨ (q.born - p.born = 1) ∨ (2 ≤ p.born - q.born) ∨ (2 ≤ q.born - p.born) := by omega
  have zone : (p.zone = q.zone) ∨ ¬ (p.zone = q.zone) := by omega
  rcases born with hb | hb | hb | hb | hb <;> rcases zone with hz | hz
  · have HB : Hid (bornP p.born q.born = 20) := Lib.hid (by unfold bornP; rw [if_pos hb])
    have HZ : Hid (zoneP p.zone q.zone = 10) := Lib.hid (by unfold zoneP; rw [if_pos hz])
    have hb1 : p.born ≤ q.born ∧ q.born ≤ p.born := by omega
    have hz1 : (p.zone == q.zone) = true := by rw [beq_iff_eq]; exact hz
    clear hb
    clear hz
    go_enter Try.func68, Try.ntmps68
    go_wp2_with fail
    go_quiet ((go_at_call 98; exact Calls.quiet_of (spec_pts _ _ _ _ _ (by assumption) (by assumption))))
    go_wp2
    go_ret
    exact ⟨ri (by rw [HL.out, HB.out, HZ.out]; try omega), below_of_drewN (((Below.refl _ _).alloc (Nat.le_refl _) _).alloc (by simp) _) _⟩
  · have HB : Hid (bornP p.born q.born = 20) := Lib.hid (by unfold bornP; rw [if_pos hb])
    have HZ : Hid (zoneP p.zone q.zone = 0) := Lib.hid (by unfold zoneP; rw [if_neg hz])
    have hb1 : p.born ≤ q.born ∧ q.born ≤ p.born := by omega
    have hz1 : (p.zone == q.zone) = false := by rw [beq_eq_false_iff_ne]; exact hz
    clear hb
    clear hz
    go_enter Try.func68, Try.ntmps68
    go_wp2_with fail
    go_quiet ((go_at_call 98; exact Calls.quiet_of (spec_pts _ _ _ _ _ (by assumption) (by assumption))))
    go_wp2
    go_ret
    exact ⟨ri (by rw [HL.out, HB.out, HZ.out]; try omega), below_of_drewN (((Below.refl _ _).alloc (Nat.le_refl _) _).alloc (by simp) _) _⟩
  · have HB : Hid (bornP p.born q.born = 10) := Lib.hid (by unfold bornP; rw [if_neg (by omega), if_pos (.inl hb)])
    have HZ : Hid (zoneP p.zone q.zone = 10) := Lib.hid (by unfold zoneP; rw [if_pos hz])
    have hb1 : p.born - q.born ≤ 1 ∧ 1 ≤ p.born - q.born := by omega
    have hz1 : (p.zone == q.zone) = true := by rw [beq_iff_eq]; exact hz
    clear hb
    clear hz
    go_enter Try.func68, Try.ntmps68
    go_wp2_with fail
    go_quiet ((go_at_call 98; exact Calls.quiet_of (spec_pts _ _ _ _ _ (by assumption) (by assumption))))
    go_wp2
    go_ret
    exact ⟨ri (by rw [HL.out, HB.out, HZ.out]; try omega), below_of_drewN (((Below.refl _ _).alloc (Nat.le_refl _) _).alloc (by simp) _) _⟩
  · have HB : Hid (bornP p.born q.born = 10) := Lib.hid (by unfold bornP; rw [if_neg (by omega), if_pos (.inl hb)])
    have HZ : Hid (zoneP p.zone q.zone = 0) := Lib.hid (by unfold zoneP; rw [if_neg hz])
    have hb1 : p.born - q.born ≤ 1 ∧ 1 ≤ p.born - q.born := by omega
    have hz1 : (p.zone == q.zone) = false := by rw [beq_eq_false_iff_ne]; exact hz
    clear hb
    clear hz
    go_enter Try.func68, Try.ntmps68
    go_wp2_with fail
    go_quiet ((go_at_call 98; exact Calls.quiet_of (spec_pts _ _ _ _ _ (by assumption) (by assumption))))
    go_wp2
    go_ret
    exact ⟨ri (by rw [HL.out, HB.out, HZ.out]; try omega), below_of_drewN (((Below.refl _ _).alloc (Nat.le_refl _) _).alloc (by simp) _) _⟩
  · have HB : Hid (bornP p.born q.born = 10) := Lib.hid (by unfold bornP; rw [if_neg (by omega), if_pos (.inr hb)])
    have HZ : Hid (zoneP p.zone q.zone = 10) := Lib.hid (by unfold zoneP; rw [if_pos hz])
    have hb1 : q.born - p.born ≤ 1 ∧ 1 ≤ q.born - p.born := by omega
    have hz1 : (p.zone == q.zone) = true := by rw [beq_iff_eq]; exact hz
    clear hb
    clear hz
    go_enter Try.func68, Try.ntmps68
    go_wp2_with fail
    go_quiet ((go_at_call 98; exact Calls.quiet_of (spec_pts _ _ _ _ _ (by assumption) (by assumption))))
    go_wp2
    go_ret
    exact ⟨ri (by rw [HL.out, HB.out, HZ.out]; try omega), below_of_drewN (((Below.refl _ _).alloc (Nat.le_refl _) _).alloc (by simp) _) _⟩
  · have HB : Hid (bornP p.born q.born = 10) := Lib.hid (by unfold bornP; rw [if_neg (by omega), if_pos (.inr hb)])
    have HZ : Hid (zoneP p.zone q.zone = 0) := Lib.hid (by unfold zoneP; rw [if_neg hz])
    have hb1 : q.born - p.born ≤ 1 ∧ 1 ≤ q.born - p.born := by omega
    have hz1 : (p.zone == q.zone) = false := by rw [beq_eq_false_iff_ne]; exact hz
    clear hb
    clear hz
    go_enter Try.func68, Try.ntmps68
    go_wp2_with fail
    go_quiet ((go_at_call 98; exact Calls.quiet_of (spec_pts _ _ _ _ _ (by assumption) (by assumption))))
    go_wp2
    go_ret
    exact ⟨ri (by rw [HL.out, HB.out, HZ.out]; try omega), below_of_drewN (((Below.refl _ _).alloc (Nat.le_refl _) _).alloc (by simp) _) _⟩
  · have HB : Hid (bornP p.born q.born = 0) := Lib.hid (by unfold bornP; rw [if_neg (by omega), if_neg (by omega)])
    have HZ : Hid (zoneP p.zone q.zone = 10) := Lib.hid (by unfold zoneP; rw [if_pos hz])
    skip
    have hz1 : (p.zone == q.zone) = true := by rw [beq_iff_eq]; exact hz
    skip
    clear hz
    go_enter Try.func68, Try.ntmps68
    go_wp2_with fail
    go_quiet ((go_at_call 98; exact Calls.quiet_of (spec_pts _ _ _ _ _ (by assumption) (by assumption))))
    go_wp2
    go_ret
    exact ⟨ri (by rw [HL.out, HB.out, HZ.out]; try omega), below_of_drewN (((Below.refl _ _).alloc (Nat.le_refl _) _).alloc (by simp) _) _⟩
  · have HB : Hid (bornP p.born q.born = 0) := Lib.hid (by unfold bornP; rw [if_neg (by omega), if_neg (by omega)])
    have HZ : Hid (zoneP p.zone q.zone = 0) := Lib.hid (by unfold zoneP; rw [if_neg hz])
    skip
    have hz1 : (p.zone == q.zone) = false := by rw [beq_eq_false_iff_ne]; exact hz
    skip
    clear hz
    go_enter Try.func68, Try.ntmps68
    go_wp2_with fail
    go_quiet ((go_at_call 98; exact Calls.quiet_of (spec_pts _ _ _ _ _ (by assumption) (by assumption))))
    go_wp2
    go_ret
    exact ⟨ri (by rw [HL.out, HB.out, HZ.out]; try omega), below_of_drewN (((Below.refl _ _).alloc (Nat.le_refl _) _).alloc (by simp) _) _⟩
  · have HB : Hid (bornP p.born q.born = 0) := Lib.hid (by unfold bornP; rw [if_neg (by omega), if_neg (by omega)])
    have HZ : Hid (zoneP p.zone q.zone = 10) := Lib.hid (by unfold zoneP; rw [if_pos hz])
    skip
    have hz1 : (p.zone == q.zone) = true := by rw [beq_iff_eq]; exact hz
    skip
    clear hz
    go_enter Try.func68, Try.ntmps68
    go_wp2_with fail
    go_quiet ((go_at_call 98; exact Calls.quiet_of (spec_pts _ _ _ _ _ (by assumption) (by assumption))))
    go_wp2
    go_ret
    exact ⟨ri (by rw [HL.out, HB.out, HZ.out]; try omega), below_of_drewN (((Below.refl _ _).alloc (Nat.le_refl _) _).alloc (by simp) _) _⟩
  · have HB : Hid (bornP p.born q.born = 0) := Lib.hid (by unfold bornP; rw [if_neg (by omega), if_neg (by omega)])
    have HZ : Hid (zoneP p.zone q.zone = 0) := Lib.hid (by unfold zoneP; rw [if_neg hz])
    skip
    have hz1 : (p.zone == q.zone) = false := by rw [beq_eq_false_iff_ne]; exact hz
    skip
    clear hz
    go_enter Try.func68, Try.ntmps68
    go_wp2_with fail
    go_quiet ((go_at_call 98; exact Calls.quiet_of (spec_pts _ _ _ _ _ (by assumption) (by assumption))))
    go_wp2
    go_ret
    exact ⟨ri (by rw [HL.out, HB.out, HZ.out]; try omega), below_of_drewN (((Below.refl _ _).alloc (Nat.le_refl _) _).alloc (by simp) _) _⟩

end Go.Proofs.Ythnilifepiihjaa
