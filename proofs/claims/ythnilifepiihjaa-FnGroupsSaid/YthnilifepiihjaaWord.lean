/-
  IsWord, the program's and the reference's: both say whether a text is a word.
  Conditions: the text's length fits an int.
-/
import Derived.Test.YthnilifepiihjaaPre
namespace Go.Proofs.Ythnilifepiihjaa
open Go.RowKit

/-- The first k bytes are letters. -/
def Letters (l : List UInt8) (k : Nat) : Prop := ∀ c ∈ l.take k, 97 ≤ c.toNat ∧ c.toNat ≤ 122
/-- A word: 1 to 16 letters. -/
def wordB (l : List UInt8) : Bool := l.all (fun c => decide (97 ≤ c.toNat) && decide (c.toNat ≤ 122)) && (decide (1 ≤ l.length) && decide (l.length ≤ 16))

theorem letters_zero (l : List UInt8) : Letters l 0 := by intro c hc; simp at hc
theorem letters_succ {s : ByteArray} {k : Nat} (h : Letters s.data.toList k) (hk : k < s.size) (h1 : 97 ≤ s[k].toNat) (h2 : s[k].toNat ≤ 122) : Letters s.data.toList (k + 1) := by
  intro c hc
  rw [List.take_succ_eq_append_getElem (by simpa using hk)] at hc
  rcases List.mem_append.1 hc with hc | hc
  · exact h c hc
  · simp at hc
    subst hc
    exact ⟨h1, h2⟩
theorem word_of_letters {l : List UInt8} (h : Letters l l.length) : wordB l = (decide (1 ≤ l.length) && decide (l.length ≤ 16)) := by
  unfold wordB
  rw [show l.all (fun c => decide (97 ≤ c.toNat) && decide (c.toNat ≤ 122)) = true from ?_]
  · rfl
  · rw [List.all_eq_true]
    intro c hc
    have := h c (by rw [List.take_length]; exact hc)
    simp [this.1, this.2]
theorem word_bad {s : ByteArray} {k : Nat} (hk : k < s.size) (h : ¬ (97 ≤ s[k].toNat ∧ s[k].toNat ≤ 122)) : wordB s.data.toList = false := by
  unfold wordB
  rw [show s.data.toList.all (fun c => decide (97 ≤ c.toNat) && decide (c.toNat ≤ 122)) = false from ?_]
  · rfl
  · rw [List.all_eq_false]
    refine ⟨s[k], ?_, ?_⟩
    · exact List.getElem_mem (by simpa using hk)
    · simp only [Bool.and_eq_true, decide_eq_true_eq]
      exact h
theorem word_size {s : ByteArray} (h : Letters s.data.toList s.size) : wordB s.data.toList = (decide (1 ≤ s.size) && decide (s.size ≤ 16)) := by
  have e : s.data.toList.length = s.size := by simp
  rw [word_of_letters (by rw [e]; exact h), e]
/-- A word has 1 to 16 bytes. -/
theorem word_len {l : List UInt8} (h : wordB l = true) : 1 ≤ l.length ∧ l.length ≤ 16 := by
  unfold wordB at h
  simp at h
  omega

set_option maxHeartbeats 400000 in
theorem impl_IsWord (s : ByteArray) (w : World) (hs : s.size ≤ 9223372036854775807) :
    Calls Try.prog 76 #[.string s] w fun e w' => e = .returned (.bool (wordB s.data.toList)) ∧ w = w' := by
  go_enter Try.func76, Try.ntmps76
  go_wp2
  go_loop [3] (fun i => ∃ k : Nat, k ≤ s.size ∧ i = .int .i64 k ∧ Letters s.data.toList k) (fun i => s.size - (intOf i).toNat)
  case atStart => exact ⟨0, Nat.zero_le _, rfl, letters_zero _⟩
  case round =>
    obtain ⟨k, hk, rfl, hl⟩ := hrel
    by_cases hlt : k < s.size
    · by_cases h1 : 97 ≤ s[k].toNat
      · by_cases h2 : s[k].toNat ≤ 122
        · have hnext := letters_succ hl hlt h1 h2
          go_wp2
          go_round
          case rel => exact ⟨k + 1, by omega, by go_num, hnext⟩
          case measure => simp [intOf]; omega
        · have hb := Lib.hid (word_bad hlt (fun h => h2 h.2))
          go_wp2
          go_ret
          exact ⟨rb hb.out.symm, rfl⟩
      · have hb := Lib.hid (word_bad hlt (fun h => h1 h.1))
        go_wp2
        go_ret
        exact ⟨rb hb.out.symm, rfl⟩
    · obtain rfl : k = s.size := by omega
      have hb := Lib.hid (word_size hl)
      by_cases h1 : 1 ≤ s.size <;> by_cases h2 : s.size ≤ 16 <;> try omega
      all_goals
        go_wp2
        go_ret
        exact ⟨rb (by rw [hb.out]; simp [h1, h2]; try omega), rfl⟩

set_option maxHeartbeats 400000 in
theorem spec_IsWord (s : ByteArray) (w : World) (hs : s.size ≤ 9223372036854775807) :
    Calls Try.prog 78 #[.string s] w fun e w' => e = .returned (.bool (wordB s.data.toList)) ∧ w = w' := by
  go_enter Try.func78, Try.ntmps78
  go_wp2
  go_loop [3] (fun i => ∃ k : Nat, k ≤ s.size ∧ i = .int .i64 k ∧ Letters s.data.toList k) (fun i => s.size - (intOf i).toNat)
  case atStart => exact ⟨0, Nat.zero_le _, rfl, letters_zero _⟩
  case round =>
    obtain ⟨k, hk, rfl, hl⟩ := hrel
    by_cases hlt : k < s.size
    · by_cases h1 : 97 ≤ s[k].toNat
      · by_cases h2 : s[k].toNat ≤ 122
        · have hnext := letters_succ hl hlt h1 h2
          go_wp2
          go_round
          case rel => exact ⟨k + 1, by omega, by go_num, hnext⟩
          case measure => simp [intOf]; omega
        · have hb := Lib.hid (word_bad hlt (fun h => h2 h.2))
          go_wp2
          go_ret
          exact ⟨rb hb.out.symm, rfl⟩
      · have hb := Lib.hid (word_bad hlt (fun h => h1 h.1))
        go_wp2
        go_ret
        exact ⟨rb hb.out.symm, rfl⟩
    · obtain rfl : k = s.size := by omega
      have hb := Lib.hid (word_size hl)
      by_cases h1 : 1 ≤ s.size <;> by_cases h2 : s.size ≤ 16 <;> try omega
      all_goals
        go_wp2
        go_ret
        exact ⟨rb (by rw [hb.out]; simp [h1, h2]; try omega), rfl⟩
end Go.Proofs.Ythnilifepiihjaa
