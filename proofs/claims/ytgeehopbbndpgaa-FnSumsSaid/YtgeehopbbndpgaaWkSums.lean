/-
  The walk of FnSums. Conditions: none but that the code reads as bytes.
-/
import Derived.Test.YtgeehopbbndpgaaDrawSum
import Derived.Test.YtgeehopbbndpgaaSumOf
import Derived.Test.YtgeehopbbndpgaaWord
namespace Go.Proofs.Ytgeehopbbndpgaa
open Go.RowKit
set_option linter.unusedVariables false

theorem big_yes {v : Value} {bs : List Int} {w : World} (h : Bytes w v bs) (hb : 4096 < bs.length) : Calls Try.prog 4 #[v] w fun e w' => e = .returned (.bool true) ∧ w = w' := by
  obtain ⟨a, n, c, rfl, hl, hcap, hmost, _⟩ := row_cells h
  unfold maxLen at hmost
  rw [hl] at hb
  clear hl h
  go_enter Try.func4, Try.ntmps4
  go_wp2_with fail
  go_ret
  exact ⟨by simp; omega, rfl⟩
theorem big_no {v : Value} {bs : List Int} {w : World} (h : Bytes w v bs) (hb : bs.length ≤ 4096) : Calls Try.prog 4 #[v] w fun e w' => e = .returned (.bool false) ∧ w = w' := by
  obtain ⟨a, n, c, rfl, hl, hcap, hmost, _⟩ := row_cells h
  unfold maxLen at hmost
  rw [hl] at hb
  clear hl h
  go_enter Try.func4, Try.ntmps4
  go_wp2_with fail
  go_ret
  exact ⟨by simp; omega, rfl⟩

theorem sumC_ok {xs : List Int} (hz : valsC xs = 0) (h1 : -1000000000000 ≤ psum xs xs.length) (h2 : psum xs xs.length ≤ 1000000000000) : sumC xs = (psum xs xs.length, 0) := by
  unfold sumC; rw [if_pos hz, if_pos (by unfold valB; simp; omega)]
theorem sumC_big {xs : List Int} (hz : valsC xs = 0) (h : psum xs xs.length < -1000000000000 ∨ 1000000000000 < psum xs xs.length) : sumC xs = (0, 3) := by
  unfold sumC; rw [if_pos hz, if_neg (by unfold valB; simp; omega)]
theorem sumC_bad {xs : List Int} (hz : ¬ valsC xs = 0) : sumC xs = (0, valsC xs) := by
  unfold sumC; rw [if_neg hz]
theorem impl_SumOf {v : Value} {xs : List Int} {w : World} (h : Ints w v xs) :
    Calls Try.prog 6 #[v] w fun e w' => e = .returned (.tuple #[.int .i64 (sumC xs).1, .int .i64 (sumC xs).2]) ∧ Below w.heap.size w w' := by
  by_cases hz : valsC xs = 0
  · by_cases h1 : -1000000000000 ≤ psum xs xs.length ∧ psum xs xs.length ≤ 1000000000000
    · rw [sumC_ok hz h1.1 h1.2]; exact impl_SumOf_ok hz h1.1 h1.2 h
    · rw [sumC_big hz (by omega)]; exact impl_SumOf_big hz (by omega) h
  · rw [sumC_bad hz]; exact impl_SumOf_bad hz h
theorem spec_SumOf {v : Value} {xs : List Int} {w : World} (h : Ints w v xs) :
    Calls Try.prog 7 #[v] w fun e w' => e = .returned (.tuple #[.int .i64 (sumC xs).1, .int .i64 (sumC xs).2]) ∧ Below w.heap.size w w' := by
  by_cases hz : valsC xs = 0
  · by_cases h1 : -1000000000000 ≤ psum xs xs.length ∧ psum xs xs.length ≤ 1000000000000
    · rw [sumC_ok hz h1.1 h1.2]; exact spec_SumOf_ok hz h1.1 h1.2 h
    · rw [sumC_big hz (by omega)]; exact spec_SumOf_big hz (by omega) h
  · rw [sumC_bad hz]; exact spec_SumOf_bad hz h
theorem psum_take (xs : List Int) : ∀ k, k ≤ xs.length → psum xs k = (xs.take k).sum := by
  intro k
  induction k with
  | zero => intro _; simp [psum]
  | succ k ih =>
    intro hk
    rw [psum, ih (by omega), List.take_add_one, List.sum_append, List.getD_eq_getElem?_getD, List.getElem?_eq_getElem (by omega)]
    simp
theorem sum_rev (xs : List Int) : xs.reverse.sum = xs.sum := by
  induction xs with
  | nil => rfl
  | cons x xs ih => rw [List.reverse_cons, List.sum_append, ih, List.sum_cons]; simp; omega
theorem valsB_iff (xs : List Int) : valsB xs = true ↔ ∀ x ∈ xs, valB x = true := by
  constructor
  · intro h x hx
    obtain ⟨k, hk, rfl⟩ := List.getElem_of_mem hx
    have := allB_all h k hk
    rw [List.getD_eq_getElem?_getD, List.getElem?_eq_getElem hk] at this
    exact this
  · intro h
    refine allB_true fun j hj => ?_
    show valB (xs.getD j 0) = true
    rw [List.getD_eq_getElem?_getD, List.getElem?_eq_getElem hj]
    exact h _ (List.getElem_mem hj)
theorem sumC_rev (xs : List Int) : sumC xs.reverse = sumC xs := by
  have h1 : valsB xs.reverse = valsB xs := by
    rw [Bool.eq_iff_iff, valsB_iff, valsB_iff]
    simp
  have h2 : psum xs.reverse xs.reverse.length = psum xs xs.length := by
    rw [psum_take _ _ (Nat.le_refl _), psum_take _ _ (Nat.le_refl _), List.take_length, List.take_length, sum_rev]
  have h3 : valsC xs.reverse = valsC xs := by unfold valsC; rw [h1, List.length_reverse]
  unfold sumC
  rw [h3, h2]
theorem rev_take {xs : List Int} {k : Nat} {x : Int} (hk : k < xs.length) (hx : xs[xs.length - 1 - k]? = some x) : xs.reverse.take (k + 1) = xs.reverse.take k ++ [x] := by
  rw [List.take_add_one, List.getElem?_reverse hk, hx]
  rfl

def revV (xs : List Int) (k : Nat) : List Value := (xs.reverse.take k).map (Value.int .i64)
theorem revV_succ {xs : List Int} {k : Nat} {x : Int} (hk : k < xs.length) (hx : xs[xs.length - 1 - k]? = some x) : revV xs (k + 1) = revV xs k ++ [.int .i64 x] := by
  unfold revV; rw [rev_take hk hx, List.map_append]; rfl
theorem revV_all {xs : List Int} {k : Nat} (hk : xs.length = k) : revV xs k = xs.reverse.map (Value.int .i64) := by
  unfold revV; rw [List.take_of_length_le (by rw [List.length_reverse, hk]; exact Nat.le_refl _)]
set_option maxHeartbeats 2000000 in
theorem wk_FnSums {v : Value} {bs : List Int} {w : World} (h : Bytes w v bs) (hf : BytesFit bs) :
    Calls Try.prog 3 #[v] w fun e w' => e = .returned (.bool true) ∧ Below w.heap.size w w' := by
  by_cases hbig : 4096 < bs.length
  · go_enter Try.func3, Try.ntmps3
    go_wp2_with fail
    refine (big_yes h hbig).mono ?_
    rintro e w' ⟨rfl, rfl⟩
    go_wp2_with fail
    go_ret
    exact ⟨rfl, Below.refl _ _⟩
  · obtain ⟨i0, hi, hz0, hz1, hz2⟩ := info_parts info_i64
    go_enter Try.func3, Try.ntmps3
    go_wp2_with fail
    refine (big_no h (by omega)).mono ?_
    rintro e w' ⟨rfl, rfl⟩
    clear hbig
    go_wp2_with fail
    refine (DrawSumOf_c h hf).mono ?_
    rintro e w1 ⟨u, xs, rfl, hu, hm, b1⟩
    have BB := b1
    replace h := h.below b1
    have hlen := Lib.hid hm.1
    clear hm
    go_wp2_with fail
    refine (impl_SumOf hu).mono ?_
    rintro e w2 ⟨rfl, b2⟩
    replace BB := below_next BB (Nat.le_refl _) b2
    replace h := h.below b2
    replace hu := hu.below b2
    go_wp2_with fail
    refine (spec_SumOf hu).mono ?_
    rintro e w3 ⟨rfl, b3⟩
    replace BB := below_next BB (Nat.le_refl _) b3
    replace h := h.below b3
    replace hu := hu.below b3
    go_wp2_with fail
    refine (DrawIsWord_c h hf).mono ?_
    rintro e w4 ⟨s, rfl, hs, b4⟩
    replace BB := below_next BB (Nat.le_refl _) b4
    replace hu := hu.below b4
    have hs' : s.size ≤ 9223372036854775807 := by omega
    clear h b1 b2 b3 b4
    go_wp2_with fail
    refine (impl_IsWord s _ hs').mono ?_
    rintro e w' ⟨rfl, rfl⟩
    go_wp2_with fail
    refine (spec_IsWord s _ hs').mono ?_
    rintro e w' ⟨rfl, rfl⟩
    obtain ⟨a, n, c, rfl, H⟩ := hu.parts
    have hl := H.len
    have hcap := H.cap
    have hmost := H.most
    have hn : n ≤ 61 := by have := hlen.out; omega
    have HL := Lib.hid hl
    have HU := Lib.hid hu
    unfold maxLen at hmost
    clear H hl hu
    have hrev := Lib.hid (sumC_rev xs)
    go_wp2_with fail
    have hown : (w4.alloc (.cells #[] 2)).ownsRow w4.heap.size 2 1 (.slice (some ⟨w4.heap.size, 0, none⟩) 0 0) 0 (([] : List Int).map (Value.int .i64)) := World.ownsRow_lit w4 #[] 0 (Nat.le_refl _) (by decide) rfl
    have hb0 : Below w4.heap.size w4 (w4.alloc (.cells #[] 2)) := (Below.refl _ _).alloc (Nat.le_refl _) _
    go_loopw [9, 10] (fun v i wr => ∃ k : Nat, k ≤ n ∧ i = .int .i64 ((n : Int) - 1 - k) ∧ wr.ownsRow w4.heap.size 2 1 v k (revV xs k) ∧ Below w4.heap.size w4 wr) (fun _ i _ => (intOf i + 1).toNat)
    case atStart => exact ⟨0, Nat.zero_le _, by simp, by simpa [revV] using hown, hb0⟩
    case round =>
      obtain ⟨k, hk, rfl, ho, hb⟩ := hrel
      clear hown hb0
      have hsz := hb.size
      by_cases hlt : k < n
      · have hX := at_of (xs := xs) (k := n - 1 - k) (by have := HL.out; omega)
        obtain ⟨x, hx⟩ := hX
        obtain ⟨a', n', c', hv, H⟩ := (HU.out.below hb).parts
        injection hv with hv1 hv2 hv3
        subst hv1 hv2 hv3
        obtain ⟨b, o, ha, hbb, hc⟩ := H.cells (by omega)
        subst ha
        have cx := hc _ x hx
        have hidx : (n : Int) - 1 - k = ((n - 1 - k : Nat) : Int) := by omega
        have hrt := Lib.hid (revV_succ (xs := xs) (k := k) (x := x) (by have := HL.out; omega) (by rw [HL.out]; exact hx))
        have hnx : (n : Int) - 1 - k - 1 = (n : Int) - 1 - ((k + 1 : Nat) : Int) := by omega
        replace hnx := Lib.hid hnx
        rw [hidx]
        generalize hj : n - 1 - k = j at *
        replace hj := Lib.hid hj
        replace hidx := Lib.hid hidx
        have hjc : j < c := by have := hj.out; omega
        have hjn : j < n := by have := hj.out; omega
        clear hx hc H
        go_wp2_with (at_builtin; refine wpList_append_own _ rfl _ _ 24 rfl w4.heap.size 2 i0 (.int .i64 0) 1 8 Try.underlying24 hi hz0 hz1 hz2 rfl (by decide) _ _ _ rfl (ho.alloc _) ⟨wr.heap.size, 0, none⟩ 1 1 [.int .i64 x] rfl rfl ?c1 ?c2 ?c3 ?c4 ?c5 ?_)
        case c1 => exact single_at _ _ _
        case c2 => intro u hu; simp at hu; subst hu; rfl
        case c3 => unfold maxLen; omega
        case c4 => omega
        case c5 => simp; omega
        intro v' w5 hown' hgrow _
        have hb' := below_append hb hsz ho hgrow
        clear ho hgrow hb
        go_wp2_with fail
        go_roundw
        case rel => exact ⟨k + 1, by omega, by rw [← hidx.out, hnx.out], by rw [hrt.out]; exact hown', hb'⟩
        case measure => simp [intOf]; try omega
      · obtain rfl : k = n := by omega
        rw [revV_all HL.out] at ho
        have hI := Ints.own ho
        replace BB := below_next BB (Nat.le_refl _) hb
        have hneg : (k : Int) - 1 - k < 0 := by omega
        have hS := impl_SumOf hI
        rw [hrev.out] at hS
        replace hS := Lib.hid hS
        clear ho hI
        go_wp2_with fail
        refine hS.out.mono ?_
        rintro e w6 ⟨rfl, b6⟩
        replace BB := below_next BB (Nat.le_refl _) b6
        go_wp2_with fail
        go_ret
        exact ⟨rfl, BB⟩
end Go.Proofs.Ytgeehopbbndpgaa
