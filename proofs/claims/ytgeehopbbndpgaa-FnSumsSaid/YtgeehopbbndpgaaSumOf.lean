/-
  SumOf of both packages.
  Conditions: none but that the slice reads as numbers that fit an int64.
-/
import Derived.Test.YtgeehopbbndpgaaSum
namespace Go.Proofs.Ytgeehopbbndpgaa
open Go.RowKit

theorem impl_SumOf_bad {v : Value} {xs : List Int} {w : World} (hz : ¬ valsC xs = 0) (h : Ints w v xs) :
    Calls Try.prog 6 #[v] w fun e w' => e = .returned (.tuple #[.int .i64 0, .int .i64 (valsC xs)]) ∧ Below w.heap.size w w' := by
  have hc := impl_listCode h
  generalize valsC xs = r at *
  go_enter Try.func6, Try.ntmps6
  go_wp2_with fail
  refine hc.mono ?_
  rintro e w' ⟨rfl, rfl⟩
  go_wp2_with fail
  go_ret2
  exact ⟨rfl, Below.refl _ _⟩
theorem impl_SumOf_ok {v : Value} {xs : List Int} {w : World} (hz : valsC xs = 0) (h1 : -1000000000000 ≤ psum xs xs.length) (h2 : psum xs xs.length ≤ 1000000000000) (h : Ints w v xs) :
    Calls Try.prog 6 #[v] w fun e w' => e = .returned (.tuple #[.int .i64 (psum xs xs.length), .int .i64 0]) ∧ Below w.heap.size w w' := by
  have hc := impl_listCode h
  rw [hz] at hc
  have hs := impl_sum h hz
  generalize psum xs xs.length = p at *
  have HZ := Lib.hid hz
  clear hz
  go_enter Try.func6, Try.ntmps6
  go_wp2_with fail
  refine hc.mono ?_
  rintro e w' ⟨rfl, rfl⟩
  go_wp2_with fail
  refine hs.mono ?_
  rintro e w' ⟨rfl, rfl⟩
  go_wp2_with fail
  refine (isValue_yes p h1 h2 _).mono ?_
  rintro e w' ⟨rfl, rfl⟩
  go_wp2_with fail
  refine hs.mono ?_
  rintro e w' ⟨rfl, rfl⟩
  go_wp2_with fail
  go_ret2
  exact ⟨rfl, Below.refl _ _⟩
theorem impl_SumOf_big {v : Value} {xs : List Int} {w : World} (hz : valsC xs = 0) (h1 : psum xs xs.length < -1000000000000 ∨ 1000000000000 < psum xs xs.length) (h : Ints w v xs) :
    Calls Try.prog 6 #[v] w fun e w' => e = .returned (.tuple #[.int .i64 0, .int .i64 3]) ∧ Below w.heap.size w w' := by
  have hc := impl_listCode h
  rw [hz] at hc
  have hs := impl_sum h hz
  generalize psum xs xs.length = p at *
  have HZ := Lib.hid hz
  have H1 := Lib.hid h1
  clear hz h1
  go_enter Try.func6, Try.ntmps6
  go_wp2_with fail
  refine hc.mono ?_
  rintro e w' ⟨rfl, rfl⟩
  go_wp2_with fail
  refine hs.mono ?_
  rintro e w' ⟨rfl, rfl⟩
  go_wp2_with fail
  refine (isValue_no p H1.out _).mono ?_
  rintro e w' ⟨rfl, rfl⟩
  go_wp2_with fail
  go_ret2
  exact ⟨rfl, Below.refl _ _⟩

theorem spec_SumOf_bad {v : Value} {xs : List Int} {w : World} (hz : ¬ valsC xs = 0) (h : Ints w v xs) :
    Calls Try.prog 7 #[v] w fun e w' => e = .returned (.tuple #[.int .i64 0, .int .i64 (valsC xs)]) ∧ Below w.heap.size w w' := by
  have hc := spec_l01Values h
  generalize valsC xs = r at *
  obtain ⟨a, n, c, rfl, H⟩ := h.parts
  have hlen := Lib.hid H.len
  have hcap := H.cap
  have hmost := H.most
  unfold maxLen at hmost
  clear H
  go_enter Try.func7, Try.ntmps7
  go_wp2_with fail
  refine hc.mono ?_
  rintro e w' ⟨rfl, rfl⟩
  by_cases h0 : 0 < n
  · go_wp2_with fail
    go_loop [5, 6] (fun s i => i = .int .i64 0 ∧ s = .int .i64 0) (fun _ _ => 0)
    case atStart => exact ⟨rfl, rfl⟩
    case round =>
      obtain ⟨rfl, rfl⟩ := hrel
      go_wp2_with fail
      go_ret2
      exact ⟨rfl, Below.refl _ _⟩
  · go_wp2_with fail
    go_loop [5, 6] (fun s i => i = .int .i64 0 ∧ s = .int .i64 0) (fun _ _ => 0)
    case atStart => exact ⟨rfl, rfl⟩
    case round =>
      obtain ⟨rfl, rfl⟩ := hrel
      go_wp2_with fail
      go_ret2
      exact ⟨rfl, Below.refl _ _⟩

set_option maxHeartbeats 800000 in
theorem spec_SumOf_ok {v : Value} {xs : List Int} {w : World} (hz : valsC xs = 0) (h1 : -1000000000000 ≤ psum xs xs.length) (h2 : psum xs xs.length ≤ 1000000000000) (h : Ints w v xs) :
    Calls Try.prog 7 #[v] w fun e w' => e = .returned (.tuple #[.int .i64 (psum xs xs.length), .int .i64 0]) ∧ Below w.heap.size w w' := by
  have hc := spec_l01Values h
  rw [hz] at hc
  obtain ⟨a, n, c, rfl, H⟩ := h.parts
  have hlen := Lib.hid H.len
  have hcap := H.cap
  have hmost := H.most
  unfold maxLen at hmost
  clear h
  have hbd := Lib.hid (psum_bd (allTo_of_valsC hz).1)
  have h60 : n ≤ 60 := by have := (allTo_of_valsC hz).2; have := hlen.out; omega
  have hall := Lib.hid (allTo_of_valsC hz).1
  have H1 := Lib.hid h1
  have H2 := Lib.hid h2
  clear hz h1 h2
  obtain ⟨P, hP⟩ : ∃ P, P = psum xs xs.length := ⟨_, rfl⟩
  rw [← hP]
  have HP := Lib.hid hP
  clear hP
  go_enter Try.func7, Try.ntmps7
  go_wp2_with fail
  refine hc.mono ?_
  rintro e w' ⟨rfl, rfl⟩
  clear hc
  go_wp2_with fail
  go_loop [5, 6] (fun s i => ∃ k : Nat, k ≤ n ∧ i = .int .i64 k ∧ s = .int .i64 (psum xs k)) (fun _ i => n - (intOf i).toNat)
  case atStart => exact ⟨0, Nat.zero_le _, rfl, rfl⟩
  case round =>
    obtain ⟨k, hk, rfl, rfl⟩ := hrel
    have hb := hbd.out k (by have := hlen.out; omega)
    by_cases hlt : k < n
    · obtain ⟨b, o, ha, hbb, hc⟩ := H.cells (by omega)
      subst ha
      obtain ⟨x, hx⟩ := at_of (xs := xs) (k := k) (by have := hlen.out; omega)
      have hcell := hc k x hx
      have hv := hall.out k (by have := hlen.out; omega)
      have hs : psum xs (k + 1) = psum xs k + x := by show psum xs k + xs.getD k 0 = _; rw [getD_of hx]
      simp only [getD_of hx, valB, Bool.and_eq_true, decide_eq_true_eq] at hv
      have HH := Lib.hid H
      have HS := Lib.hid hs
      obtain ⟨hv1, hv2⟩ := hv
      obtain ⟨hb1, hb2⟩ := hb
      have hb3 : -60000000000000 ≤ psum xs k := by omega
      have hb4 : psum xs k ≤ 60000000000000 := by omega
      clear hc H hx hs hb1 hb2
      generalize psum xs k = p at *
      go_wp2_with fail
      go_round
      case rel => exact ⟨k + 1, by omega, by go_num, by rw [HS.out]⟩
      case measure => simp [intOf]; omega
    · clear H
      obtain rfl : k = n := by omega
      clear hb
      have h1 := H1.out
      have h2 := H2.out
      clear H1 H2
      rw [hlen.out] at h1 h2
      have hp : P = psum xs k := by rw [HP.out, hlen.out]
      rw [← hp] at h1 h2
      rw [← hp]
      clear hp
      go_wp2_with fail
      refine (l01Is_yes P h1 h2 _).mono ?_
      rintro e w' ⟨rfl, rfl⟩
      go_wp2_with fail
      go_ret2
      exact ⟨rfl, Below.refl _ _⟩

set_option maxHeartbeats 800000 in
theorem spec_SumOf_big {v : Value} {xs : List Int} {w : World} (hz : valsC xs = 0) (h1 : psum xs xs.length < -1000000000000 ∨ 1000000000000 < psum xs xs.length) (h : Ints w v xs) :
    Calls Try.prog 7 #[v] w fun e w' => e = .returned (.tuple #[.int .i64 0, .int .i64 3]) ∧ Below w.heap.size w w' := by
  have hc := spec_l01Values h
  rw [hz] at hc
  obtain ⟨a, n, c, rfl, H⟩ := h.parts
  have hlen := Lib.hid H.len
  have hcap := H.cap
  have hmost := H.most
  unfold maxLen at hmost
  clear h
  have hbd := Lib.hid (psum_bd (allTo_of_valsC hz).1)
  have h60 : n ≤ 60 := by have := (allTo_of_valsC hz).2; have := hlen.out; omega
  have hall := Lib.hid (allTo_of_valsC hz).1
  have H1 := Lib.hid h1
  clear hz h1
  go_enter Try.func7, Try.ntmps7
  go_wp2_with fail
  refine hc.mono ?_
  rintro e w' ⟨rfl, rfl⟩
  clear hc
  go_wp2_with fail
  go_loop [5, 6] (fun s i => ∃ k : Nat, k ≤ n ∧ i = .int .i64 k ∧ s = .int .i64 (psum xs k)) (fun _ i => n - (intOf i).toNat)
  case atStart => exact ⟨0, Nat.zero_le _, rfl, rfl⟩
  case round =>
    obtain ⟨k, hk, rfl, rfl⟩ := hrel
    have hb := hbd.out k (by have := hlen.out; omega)
    by_cases hlt : k < n
    · obtain ⟨b, o, ha, hbb, hc⟩ := H.cells (by omega)
      subst ha
      obtain ⟨x, hx⟩ := at_of (xs := xs) (k := k) (by have := hlen.out; omega)
      have hcell := hc k x hx
      have hv := hall.out k (by have := hlen.out; omega)
      have hs : psum xs (k + 1) = psum xs k + x := by show psum xs k + xs.getD k 0 = _; rw [getD_of hx]
      simp only [getD_of hx, valB, Bool.and_eq_true, decide_eq_true_eq] at hv
      have HH := Lib.hid H
      have HS := Lib.hid hs
      obtain ⟨hv1, hv2⟩ := hv
      obtain ⟨hb1, hb2⟩ := hb
      have hb3 : -60000000000000 ≤ psum xs k := by omega
      have hb4 : psum xs k ≤ 60000000000000 := by omega
      clear hc H hx hs hb1 hb2
      generalize psum xs k = p at *
      go_wp2_with fail
      go_round
      case rel => exact ⟨k + 1, by omega, by go_num, by rw [HS.out]⟩
      case measure => simp [intOf]; omega
    · clear H
      obtain rfl : k = n := by omega
      clear hb
      have h1 := H1.out
      clear H1
      rw [hlen.out] at h1
      generalize psum xs k = p at *
      have H1 := Lib.hid h1
      clear h1
      go_wp2_with fail
      refine (l01Is_no p H1.out _).mono ?_
      rintro e w' ⟨rfl, rfl⟩
      go_wp2_with fail
      go_ret2
      exact ⟨rfl, Below.refl _ _⟩
end Go.Proofs.Ytgeehopbbndpgaa
