/-
  Numbers read: l01Value of the reference.
  Conditions: each lemma names its own.
-/
import Derived.Test.YtibfpajblcfobaaDoorDec
namespace Go.Proofs.YtibfpajblcfobaaDoor
open Go.RowKit
set_option linter.unusedVariables false

/-- What l01Value hands back. -/
def ValPost (s : ByteArray) (w : World) (e : Ending) (w' : World) : Prop :=
  ∃ (r : Nat) (ok : Bool), e = .returned (.tuple #[.int .i64 (r : Int), .bool ok]) ∧ r < 10000000000000 ∧ valOf s.data.toList = (if ok then some r else none) ∧ Below w.heap.size w w'
theorem valOf_len {l : List UInt8} (h : l.length < 1 ∨ 13 < l.length) : valOf l = none := by
  unfold valOf
  rcases h with h | h
  · have : l = [] := List.eq_nil_of_length_eq_zero (by omega)
    subst this
    rw [if_pos (by simp)]
    cases hn : natOf [] with
    | none => rfl
    | some n => exact absurd (natOf_iff.1 hn) (decDigits_ne n)
  · rw [if_neg (by omega)]
theorem valOf_bad {s : ByteArray} {k : Nat} (hk : k < s.size) (h : ¬ (48 ≤ s[k].toNat ∧ s[k].toNat ≤ 57)) : valOf s.data.toList = none := by
  cases hv : valOf s.data.toList with
  | none => rfl
  | some n =>
    obtain ⟨h1, _⟩ := valOf_iff.1 hv
    have := digs_decDigits n
    rw [h1] at this
    exact absurd (this s[k] (List.getElem_mem (by simpa using hk))) h
theorem dec_step {s : ByteArray} {k n : Nat} (hk : k < s.size) (h : Lib.decFrom 0 (s.data.toList.take k) = some n) (h1 : 48 ≤ s[k].toNat) (h2 : s[k].toNat ≤ 57) :
    Lib.decFrom 0 (s.data.toList.take (k + 1)) = some (n * 10 + (s[k].toNat - 48)) :=
  Lib.decFrom_take _ k 0 n s[k] _ h (List.getElem?_eq_getElem (by simpa using hk)) (digit_some h1 h2)
theorem dec_bound {s : ByteArray} {k n : Nat} (h : Lib.decFrom 0 (s.data.toList.take k) = some n) (hk : k ≤ 13) : n < 10000000000000 := by
  have h1 := Lib.decFrom_lt _ 0 n h
  have h2 : (s.data.toList.take k).length ≤ 13 := by rw [List.length_take]; omega
  have h3 := Nat.pow_le_pow_right (n := 10) (by decide) h2
  omega
theorem valOf_end {s : ByteArray} {n : Nat} (h : Lib.decFrom 0 s.data.toList = some n) (hl : s.size ≤ 13) : valOf s.data.toList = if Lib.decDigits n = s.data.toList then some n else none := by
  unfold valOf natOf
  rw [if_pos (by rw [size_data]; exact hl), h]
theorem tl (s : ByteArray) : s.toList = s.data.toList := Lib.toList_data s
theorem str_ne {a b : ByteArray} (h : ¬ a = b) : (a.toList == b.toList) = false := by
  rw [beq_eq_false_iff_ne, tl, tl]
  exact fun e => h (bytes_inj e)
set_option maxRecDepth 100000 in
set_option maxHeartbeats 2000000 in
theorem spec_value (s : ByteArray) (hs : s.size ≤ 9223372036854775807) (w : World) : Calls Tryd.prog 22 #[.string s] w (ValPost s w) := by
  by_cases hsz : s.size < 1 ∨ 13 < s.size
  · have hv := Lib.hid (valOf_len (l := s.data.toList) (by rw [size_data]; exact hsz))
    rcases hsz with h | h
    · go_enter Tryd.func22, Tryd.ntmps22
      go_wp2_with fail
      go_ret2
      exact ⟨0, false, rfl, by omega, hv.out, Below.refl _ _⟩
    · have h1 : 1 ≤ s.size := by omega
      go_enter Tryd.func22, Tryd.ntmps22
      go_wp2_with fail
      go_ret2
      exact ⟨0, false, rfl, by omega, hv.out, Below.refl _ _⟩
  · have h1 : 1 ≤ s.size := by omega
    have h13 : s.size ≤ 13 := by omega
    clear hsz
    go_enter Tryd.func22, Tryd.ntmps22
    go_wp2_with fail
    go_loop [4, 5] (fun q i => ∃ k n : Nat, k ≤ s.size ∧ i = .int .i64 k ∧ q = .int .i64 (n : Int) ∧ Hid (Lib.decFrom 0 (s.data.toList.take k) = some n)) (fun _ i => s.size - (intOf i).toNat)
    case atStart => exact ⟨0, 0, Nat.zero_le _, rfl, rfl, Lib.hid rfl⟩
    case round =>
      obtain ⟨k, n, hk, rfl, rfl, hd⟩ := hrel
      have hb := dec_bound hd.out (by omega)
      by_cases hlt : k < s.size
      · by_cases c1 : 48 ≤ s[k].toNat
        · by_cases c2 : s[k].toNat ≤ 57
          · have hst := Lib.hid (dec_step hlt hd.out c1 c2)
            have he : Hid (10 * (n : Int) + ((s[k].toNat : Int) - 48) = ((n * 10 + (s[k].toNat - 48) : Nat) : Int)) := Lib.hid (by omega)
            go_wp2_with fail
            go_round
            case rel => exact ⟨k + 1, _, by omega, by go_num, by rw [he.out], hst⟩
            case measure => simp [intOf]; omega
          · have hv := Lib.hid (valOf_bad hlt (fun h => c2 h.2))
            go_wp2_with fail
            go_ret2
            exact ⟨0, false, rfl, by omega, hv.out, Below.refl _ _⟩
        · have hv := Lib.hid (valOf_bad hlt (fun h => c1 h.1))
          go_wp2_with fail
          go_ret2
          exact ⟨0, false, rfl, by omega, hv.out, Below.refl _ _⟩
      · obtain rfl : k = s.size := by omega
        have hd2 : Lib.decFrom 0 s.data.toList = some n := by have := hd.out; rw [List.take_of_length_le (by rw [size_data]; omega)] at this; exact this
        have hv := Lib.hid (valOf_end hd2 h13)
        have HD := Lib.hid (fun w => spec_dec n (by omega) w)
        clear hd2
        by_cases hq : decB n = s
        · rw [hq] at HD
          have hv2 : Hid (valOf s.data.toList = some n) := Lib.hid (by rw [hv.out, if_pos (by rw [← hq]; unfold decB; rw [mkB_data])])
          clear hq
          go_wp2_with fail
          refine (HD.out _).mono ?_
          rintro e w1 ⟨rfl, b1⟩
          go_wp2_with fail
          go_ret2
          exact ⟨n, true, rfl, hb, hv2.out, b1⟩
        · have hv2 : Hid (valOf s.data.toList = none) := Lib.hid (by rw [hv.out, if_neg (fun e => hq (bytes_inj (by unfold decB; rw [mkB_data]; exact e)))])
          have hne := str_ne hq
          generalize decB n = t at *
          clear hq
          go_wp2_with fail
          refine (HD.out _).mono ?_
          rintro e w1 ⟨rfl, b1⟩
          go_wp2_with fail
          go_ret2
          exact ⟨n, false, rfl, hb, hv2.out, b1⟩
end Go.Proofs.YtibfpajblcfobaaDoor
