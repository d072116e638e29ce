/-
  One step between two words: oneStep and l04Step.
  Conditions: each lemma names its own.
-/
import Derived.Test.YthnilifepiihjaaStepPlain
import Derived.Lib.IndexBytes
namespace Go.Proofs.Ythnilifepiihjaa
open Go.RowKit
set_option linter.unusedVariables false

theorem step_more {s t : ByteArray} {k : Nat} (h : Hid (∀ j, j < k → s.data.toList[j]? = t.data.toList[j]?)) (h1 : k < s.size) (h2 : k < t.size) (he : s[k] = t[k]) : Hid (∀ j, j < k + 1 → s.data.toList[j]? = t.data.toList[j]?) := by
  intro j hj
  rcases Nat.lt_or_ge j k with hlt | hge
  · exact h.out j hlt
  · obtain rfl : j = k := by omega
    have e1 : s.data.toList[j]? = some s[j] := by rw [List.getElem?_eq_getElem (by simpa using h1)]; rfl
    have e2 : t.data.toList[j]? = some t[j] := by rw [List.getElem?_eq_getElem (by simpa using h2)]; rfl
    rw [e1, e2, he]
theorem step_stop {s t : ByteArray} {k : Nat} (h : Hid (∀ j, j < k → s.data.toList[j]? = t.data.toList[j]?)) (hk : k ≤ s.size) (hl : s.size ≤ t.size) (he : k = s.size ∨ ∃ (h1 : k < s.size) (h2 : k < t.size), ¬ s[k] = t[k]) :
    cpre s.data.toList t.data.toList = k := by
  refine cpre_is k _ _ (by simpa using hk) (by simpa using hl) h.out ?_
  rcases he with he | ⟨h1, h2, he⟩
  · left; simpa using he
  · right
    have e1 : s.data.toList[k]? = some s[k] := by rw [List.getElem?_eq_getElem (by simpa using h1)]; rfl
    have e2 : t.data.toList[k]? = some t[k] := by rw [List.getElem?_eq_getElem (by simpa using h2)]; rfl
    rw [e1, e2]
    intro q
    injection q with q
    exact he q

theorem ext_eq (s t : ByteArray) (a b : Nat) : ((s.extract a s.size).toList == (t.extract b t.size).toList) = (s.data.toList.drop a == t.data.toList.drop b) := by
  rw [Lib.toList_data, Lib.toList_data, Lib.extract_to_end, Lib.extract_to_end]
theorem stepO_same {s t : ByteArray} {k : Nat} (hc : cpre s.data.toList t.data.toList = k) (h1 : t.size ≤ s.size) (h2 : s.size ≤ t.size) (hk : k < s.size) : stepO s.data.toList t.data.toList = (s.data.toList.drop (k + 1) == t.data.toList.drop (k + 1)) := by
  unfold stepO
  rw [if_pos (by simp; omega), hc, decide_eq_true (by simpa using hk)]
  rfl
theorem stepO_none {s t : ByteArray} {k : Nat} (hc : cpre s.data.toList t.data.toList = k) (h1 : t.size ≤ s.size) (h2 : s.size ≤ t.size) (hk : s.size ≤ k) : stepO s.data.toList t.data.toList = false := by
  unfold stepO
  rw [if_pos (by simp; omega), hc, decide_eq_false (by simp; omega)]
  rfl
theorem stepO_more {s t : ByteArray} {k : Nat} (hc : cpre s.data.toList t.data.toList = k) (h1 : t.size = s.size + 1) : stepO s.data.toList t.data.toList = (s.data.toList.drop k == t.data.toList.drop (k + 1)) := by
  unfold stepO
  rw [if_neg (by simp; omega), if_pos (by simp; omega), hc]
theorem stepO_end {s t : ByteArray} (hc : cpre s.data.toList t.data.toList = s.size) (h1 : t.size = s.size + 1) : stepO s.data.toList t.data.toList = true := by
  rw [stepO_more hc h1, List.drop_eq_nil_of_le (by simp), List.drop_eq_nil_of_le (by simp; omega)]
  rfl
theorem ext_end (s : ByteArray) (a : Nat) (h : s.size ≤ a) : (s.extract a s.size).toList.isEmpty = true := by
  rw [Lib.toList_data, Lib.extract_to_end, List.drop_eq_nil_of_le (by simpa using h)]
  rfl
theorem stepO_far {s t : ByteArray} (h1 : s.size + 1 < t.size) : stepO s.data.toList t.data.toList = false := by
  unfold stepO
  rw [if_neg (by simp; omega), if_neg (by simp; omega)]

set_option maxHeartbeats 2000000 in
theorem impl_step_less (s t : ByteArray) (w : World) (hs : s.size ≤ 9223372036854775807) (ht : t.size ≤ 9223372036854775807) (hl : s.size ≤ t.size) :
    Calls Try.prog 105 #[.string s, .string t] w fun e w' => e = .returned (.bool (stepO s.data.toList t.data.toList)) ∧ ∃ m, w' = w.drewN m := by
  have hx0 : s.size ≤ t.size := by omega
  go_enter Try.func105, Try.ntmps105
  go_wp2_with fail
  go_loopw [5] (fun i wr => ∃ k m : Nat, k ≤ s.size ∧ i = .int .i64 k ∧ wr = w.drewN m ∧ Hid (∀ j, j < k → s.data.toList[j]? = t.data.toList[j]?)) (fun i _ => s.size - (intOf i).toNat)
  case atStart => exact ⟨0, 0, Nat.zero_le _, rfl, rfl, fun j hj => absurd hj (by omega)⟩
  case round =>
    obtain ⟨k, m, hk, rfl, rfl, hj⟩ := hrel
    by_cases hlt : k < s.size
    · have hlt' : k < t.size := by omega
      by_cases he : s[k] = t[k]
      · have hnext : Hid (∀ j, j < k + 1 → s.data.toList[j]? = t.data.toList[j]?) := step_more hj hlt hlt' he
        have hb : ((s[k].toNat : Int) == (t[k].toNat : Int)) = true := by rw [he]; simp
        clear he
        go_wp2_with fail
        go_quiet (fail)
        go_wp2_with fail
        go_roundw
        case rel => exact ⟨k + 1, _, by omega, by go_num, rfl, hnext⟩
        case measure => simp [intOf]; try omega
      · have hcp := Lib.hid (step_stop hj (Nat.le_of_lt hlt) hx0 (.inr ⟨hlt, hlt', he⟩))
        have hb : ((s[k].toNat : Int) == (t[k].toNat : Int)) = false := by simp; intro h; exact he (UInt8.toNat_inj.1 (by omega))
        clear he
        go_wp2_with fail
        go_quiet (fail)
        have hA1 : t.size ≤ s.size ∨ t.size = s.size + 1 ∨ s.size + 1 < t.size := by omega
        rcases hA1 with hA | hA | hA
        · have HB := Lib.hid (stepO_same hcp.out hA hx0 hlt)
          go_wp2_with fail
          go_quiet (fail)
          go_wp2_with fail
          go_ret
          exact ⟨rb (by rw [ext_eq, HB.out]), _, World.drewN_drewN _ _ _⟩
        · have hA2 : t.size ≤ s.size + 1 ∧ s.size + 1 ≤ t.size := by omega
          have HB := Lib.hid (stepO_more hcp.out hA)
          clear hA
          go_wp2_with fail
          go_quiet (fail)
          go_wp2_with fail
          go_ret
          exact ⟨rb (by rw [ext_eq, HB.out]), _, World.drewN_drewN _ _ _⟩
        · have HB := Lib.hid (stepO_far hA)
          go_wp2_with fail
          go_ret
          exact ⟨rb HB.out.symm, _, rfl⟩

    · obtain rfl : k = s.size := by omega
      have hcp := Lib.hid (step_stop hj (Nat.le_refl _) hx0 (.inl rfl))
      go_wp2_with fail
      go_quiet (fail)
      have hA1 : t.size ≤ s.size ∨ t.size = s.size + 1 ∨ s.size + 1 < t.size := by omega
      rcases hA1 with hA | hA | hA
      · have HB := Lib.hid (stepO_none hcp.out hA hx0 (Nat.le_refl _))
        go_wp2_with fail
        go_quiet (fail)
        go_wp2_with fail
        go_ret
        exact ⟨rb (by rw [HB.out]), _, World.drewN_drewN _ _ _⟩
      · have hA2 : t.size ≤ s.size + 1 ∧ s.size + 1 ≤ t.size := by omega
        have HB := Lib.hid (stepO_end hcp.out hA)
        clear hA
        go_wp2_with fail
        go_quiet (fail)
        go_wp2_with fail
        go_ret
        exact ⟨rb (by rw [HB.out, ext_end _ _ (by omega)]), _, World.drewN_drewN _ _ _⟩
      · have HB := Lib.hid (stepO_far hA)
        go_wp2_with fail
        go_ret
        exact ⟨rb HB.out.symm, _, rfl⟩

set_option maxHeartbeats 2000000 in
theorem impl_step_more (s t : ByteArray) (w : World) (hs : s.size ≤ 9223372036854775807) (ht : t.size ≤ 9223372036854775807) (hl : t.size < s.size) :
    Calls Try.prog 105 #[.string s, .string t] w fun e w' => e = .returned (.bool (stepO t.data.toList s.data.toList)) ∧ ∃ m, w' = w.drewN m := by
  have hx0 : t.size ≤ s.size := by omega
  go_enter Try.func105, Try.ntmps105
  go_wp2_with fail
  go_loopw [5] (fun i wr => ∃ k m : Nat, k ≤ t.size ∧ i = .int .i64 k ∧ wr = w.drewN m ∧ Hid (∀ j, j < k → t.data.toList[j]? = s.data.toList[j]?)) (fun i _ => t.size - (intOf i).toNat)
  case atStart => exact ⟨0, 0, Nat.zero_le _, rfl, rfl, fun j hj => absurd hj (by omega)⟩
  case round =>
    obtain ⟨k, m, hk, rfl, rfl, hj⟩ := hrel
    by_cases hlt : k < t.size
    · have hlt' : k < s.size := by omega
      by_cases he : t[k] = s[k]
      · have hnext : Hid (∀ j, j < k + 1 → t.data.toList[j]? = s.data.toList[j]?) := step_more hj hlt hlt' he
        have hb : ((t[k].toNat : Int) == (s[k].toNat : Int)) = true := by rw [he]; simp
        clear he
        go_wp2_with fail
        go_quiet (fail)
        go_wp2_with fail
        go_roundw
        case rel => exact ⟨k + 1, _, by omega, by go_num, rfl, hnext⟩
        case measure => simp [intOf]; try omega
      · have hcp := Lib.hid (step_stop hj (Nat.le_of_lt hlt) hx0 (.inr ⟨hlt, hlt', he⟩))
        have hb : ((t[k].toNat : Int) == (s[k].toNat : Int)) = false := by simp; intro h; exact he (UInt8.toNat_inj.1 (by omega))
        clear he
        go_wp2_with fail
        go_quiet (fail)
        have hA1 : s.size ≤ t.size ∨ s.size = t.size + 1 ∨ t.size + 1 < s.size := by omega
        rcases hA1 with hA | hA | hA
        · omega
        · have hA2 : s.size ≤ t.size + 1 ∧ t.size + 1 ≤ s.size := by omega
          have HB := Lib.hid (stepO_more hcp.out hA)
          clear hA
          go_wp2_with fail
          go_quiet (fail)
          go_wp2_with fail
          go_ret
          exact ⟨rb (by rw [ext_eq, HB.out]), _, World.drewN_drewN _ _ _⟩
        · have HB := Lib.hid (stepO_far hA)
          go_wp2_with fail
          go_ret
          exact ⟨rb HB.out.symm, _, rfl⟩

    · obtain rfl : k = t.size := by omega
      have hcp := Lib.hid (step_stop hj (Nat.le_refl _) hx0 (.inl rfl))
      go_wp2_with fail
      go_quiet (fail)
      have hA1 : s.size ≤ t.size ∨ s.size = t.size + 1 ∨ t.size + 1 < s.size := by omega
      rcases hA1 with hA | hA | hA
      · omega
      · have hA2 : s.size ≤ t.size + 1 ∧ t.size + 1 ≤ s.size := by omega
        have HB := Lib.hid (stepO_end hcp.out hA)
        clear hA
        go_wp2_with fail
        go_quiet (fail)
        go_wp2_with fail
        go_ret
        exact ⟨rb (by rw [HB.out, ext_end _ _ (by omega)]), _, World.drewN_drewN _ _ _⟩
      · have HB := Lib.hid (stepO_far hA)
        go_wp2_with fail
        go_ret
        exact ⟨rb HB.out.symm, _, rfl⟩

theorem impl_step (s t : ByteArray) (w : World) (hs : s.size ≤ 9223372036854775807) (ht : t.size ≤ 9223372036854775807) :
    Calls Try.prog 105 #[.string s, .string t] w fun e w' => e = .returned (.bool (stepB s.data.toList t.data.toList)) ∧ ∃ m, w' = w.drewN m := by
  unfold stepB
  by_cases h : t.size < s.size
  · rw [if_pos (by simpa using h)]
    exact impl_step_more s t w hs ht h
  · rw [if_neg (by simpa using h)]
    exact impl_step_less s t w hs ht (by omega)

set_option maxHeartbeats 2000000 in
theorem spec_step_less (s t : ByteArray) (w : World) (hs : s.size ≤ 9223372036854775807) (ht : t.size ≤ 9223372036854775807) (hl : s.size ≤ t.size) :
    Calls Try.prog 106 #[.string s, .string t] w fun e w' => e = .returned (.bool (stepO s.data.toList t.data.toList)) ∧ ∃ m, w' = w.drewN m := by
  have hx0 : s.size ≤ t.size := by omega
  go_enter Try.func106, Try.ntmps106
  go_wp2_with fail
  go_loopw [5] (fun i wr => ∃ k m : Nat, k ≤ s.size ∧ i = .int .i64 k ∧ wr = w.drewN m ∧ Hid (∀ j, j < k → s.data.toList[j]? = t.data.toList[j]?)) (fun i _ => s.size - (intOf i).toNat)
  case atStart => exact ⟨0, 0, Nat.zero_le _, rfl, rfl, fun j hj => absurd hj (by omega)⟩
  case round =>
    obtain ⟨k, m, hk, rfl, rfl, hj⟩ := hrel
    by_cases hlt : k < s.size
    · have hlt' : k < t.size := by omega
      by_cases he : s[k] = t[k]
      · have hnext : Hid (∀ j, j < k + 1 → s.data.toList[j]? = t.data.toList[j]?) := step_more hj hlt hlt' he
        have hb : ((s[k].toNat : Int) == (t[k].toNat : Int)) = true := by rw [he]; simp
        clear he
        go_wp2_with fail
        go_quiet (fail)
        go_wp2_with fail
        go_roundw
        case rel => exact ⟨k + 1, _, by omega, by go_num, rfl, hnext⟩
        case measure => simp [intOf]; try omega
      · have hcp := Lib.hid (step_stop hj (Nat.le_of_lt hlt) hx0 (.inr ⟨hlt, hlt', he⟩))
        have hb : ((s[k].toNat : Int) == (t[k].toNat : Int)) = false := by simp; intro h; exact he (UInt8.toNat_inj.1 (by omega))
        clear he
        go_wp2_with fail
        go_quiet (fail)
        have hA1 : t.size ≤ s.size ∨ t.size = s.size + 1 ∨ s.size + 1 < t.size := by omega
        rcases hA1 with hA | hA | hA
        · have HB := Lib.hid (stepO_same hcp.out hA hx0 hlt)
          go_wp2_with fail
          go_quiet (fail)
          go_wp2_with fail
          go_ret
          exact ⟨rb (by rw [ext_eq, HB.out]), _, World.drewN_drewN _ _ _⟩
        · have hA2 : t.size ≤ s.size + 1 ∧ s.size + 1 ≤ t.size := by omega
          have HB := Lib.hid (stepO_more hcp.out hA)
          have hE : ((s.size : Int) + 1 == (t.size : Int)) = true := by rw [beq_iff_eq]; omega
          clear hA
          go_wp2_with fail
          go_quiet (fail)
          go_wp2_with fail
          go_ret
          exact ⟨rb (by rw [ext_eq, HB.out]), _, World.drewN_drewN _ _ _⟩
        · have HB := Lib.hid (stepO_far hA)
          have hE : ((s.size : Int) + 1 == (t.size : Int)) = false := by rw [beq_eq_false_iff_ne]; omega
          go_wp2_with fail
          go_quiet (fail)
          go_wp2_with fail
          go_ret
          exact ⟨rb HB.out.symm, _, World.drewN_drewN _ _ _⟩

    · obtain rfl : k = s.size := by omega
      have hcp := Lib.hid (step_stop hj (Nat.le_refl _) hx0 (.inl rfl))
      go_wp2_with fail
      go_quiet (fail)
      have hA1 : t.size ≤ s.size ∨ t.size = s.size + 1 ∨ s.size + 1 < t.size := by omega
      rcases hA1 with hA | hA | hA
      · have HB := Lib.hid (stepO_none hcp.out hA hx0 (Nat.le_refl _))
        go_wp2_with fail
        go_quiet (fail)
        go_wp2_with fail
        go_ret
        exact ⟨rb (by rw [HB.out]), _, World.drewN_drewN _ _ _⟩
      · have hA2 : t.size ≤ s.size + 1 ∧ s.size + 1 ≤ t.size := by omega
        have HB := Lib.hid (stepO_end hcp.out hA)
        have hE : ((s.size : Int) + 1 == (t.size : Int)) = true := by rw [beq_iff_eq]; omega
        clear hA
        go_wp2_with fail
        go_quiet (fail)
        go_wp2_with fail
        go_ret
        exact ⟨rb (by rw [HB.out, ext_end _ _ (by omega)]), _, World.drewN_drewN _ _ _⟩
      · have HB := Lib.hid (stepO_far hA)
        have hE : ((s.size : Int) + 1 == (t.size : Int)) = false := by rw [beq_eq_false_iff_ne]; omega
        go_wp2_with fail
        go_quiet (fail)
        go_wp2_with fail
        go_ret
        exact ⟨rb HB.out.symm, _, World.drewN_drewN _ _ _⟩

set_option maxHeartbeats 2000000 in
theorem spec_step_more (s t : ByteArray) (w : World) (hs : s.size ≤ 9223372036854775807) (ht : t.size ≤ 9223372036854775807) (hl : t.size < s.size) :
    Calls Try.prog 106 #[.string s, .string t] w fun e w' => e = .returned (.bool (stepO t.data.toList s.data.toList)) ∧ ∃ m, w' = w.drewN m := by
  have hx0 : t.size ≤ s.size := by omega
  go_enter Try.func106, Try.ntmps106
  go_wp2_with fail
  go_loopw [5] (fun i wr => ∃ k m : Nat, k ≤ t.size ∧ i = .int .i64 k ∧ wr = w.drewN m ∧ Hid (∀ j, j < k → t.data.toList[j]? = s.data.toList[j]?)) (fun i _ => t.size - (intOf i).toNat)
  case atStart => exact ⟨0, 0, Nat.zero_le _, rfl, rfl, fun j hj => absurd hj (by omega)⟩
  case round =>
    obtain ⟨k, m, hk, rfl, rfl, hj⟩ := hrel
    by_cases hlt : k < t.size
    · have hlt' : k < s.size := by omega
      by_cases he : t[k] = s[k]
      · have hnext : Hid (∀ j, j < k + 1 → t.data.toList[j]? = s.data.toList[j]?) := step_more hj hlt hlt' he
        have hb : ((t[k].toNat : Int) == (s[k].toNat : Int)) = true := by rw [he]; simp
        clear he
        go_wp2_with fail
        go_quiet (fail)
        go_wp2_with fail
        go_roundw
        case rel => exact ⟨k + 1, _, by omega, by go_num, rfl, hnext⟩
        case measure => simp [intOf]; try omega
      · have hcp := Lib.hid (step_stop hj (Nat.le_of_lt hlt) hx0 (.inr ⟨hlt, hlt', he⟩))
        have hb : ((t[k].toNat : Int) == (s[k].toNat : Int)) = false := by simp; intro h; exact he (UInt8.toNat_inj.1 (by omega))
        clear he
        go_wp2_with fail
        go_quiet (fail)
        have hA1 : s.size ≤ t.size ∨ s.size = t.size + 1 ∨ t.size + 1 < s.size := by omega
        rcases hA1 with hA | hA | hA
        · omega
        · have hA2 : s.size ≤ t.size + 1 ∧ t.size + 1 ≤ s.size := by omega
          have HB := Lib.hid (stepO_more hcp.out hA)
          have hE : ((t.size : Int) + 1 == (s.size : Int)) = true := by rw [beq_iff_eq]; omega
          clear hA
          go_wp2_with fail
          go_quiet (fail)
          go_wp2_with fail
          go_ret
          exact ⟨rb (by rw [ext_eq, HB.out]), _, World.drewN_drewN _ _ _⟩
        · have HB := Lib.hid (stepO_far hA)
          have hE : ((t.size : Int) + 1 == (s.size : Int)) = false := by rw [beq_eq_false_iff_ne]; omega
          go_wp2_with fail
          go_quiet (fail)
          go_wp2_with fail
          go_ret
          exact ⟨rb HB.out.symm, _, World.drewN_drewN _ _ _⟩

    · obtain rfl : k = t.size := by omega
      have hcp := Lib.hid (step_stop hj (Nat.le_refl _) hx0 (.inl rfl))
      go_wp2_with fail
      go_quiet (fail)
      have hA1 : s.size ≤ t.size ∨ s.size = t.size + 1 ∨ t.size + 1 < s.size := by omega
      rcases hA1 with hA | hA | hA
      · omega
      · have hA2 : s.size ≤ t.size + 1 ∧ t.size + 1 ≤ s.size := by omega
        have HB := Lib.hid (stepO_end hcp.out hA)
        have hE : ((t.size : Int) + 1 == (s.size : Int)) = true := by rw [beq_iff_eq]; omega
        clear hA
        go_wp2_with fail
        go_quiet (fail)
        go_wp2_with fail
        go_ret
        exact ⟨rb (by rw [HB.out, ext_end _ _ (by omega)]), _, World.drewN_drewN _ _ _⟩
      · have HB := Lib.hid (stepO_far hA)
        have hE : ((t.size : Int) + 1 == (s.size : Int)) = false := by rw [beq_eq_false_iff_ne]; omega
        go_wp2_with fail
        go_quiet (fail)
        go_wp2_with fail
        go_ret
        exact ⟨rb HB.out.symm, _, World.drewN_drewN _ _ _⟩

theorem spec_step (s t : ByteArray) (w : World) (hs : s.size ≤ 9223372036854775807) (ht : t.size ≤ 9223372036854775807) :
    Calls Try.prog 106 #[.string s, .string t] w fun e w' => e = .returned (.bool (stepB s.data.toList t.data.toList)) ∧ ∃ m, w' = w.drewN m := by
  unfold stepB
  by_cases h : t.size < s.size
  · rw [if_pos (by simpa using h)]
    exact spec_step_more s t w hs ht h
  · rw [if_neg (by simpa using h)]
    exact spec_step_less s t w hs ht (by omega)

end Go.Proofs.Ythnilifepiihjaa
