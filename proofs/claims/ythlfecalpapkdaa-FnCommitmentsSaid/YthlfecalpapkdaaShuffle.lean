/-
  The shuffle of both packages: what each call returns.
  Conditions: each lemma names its own.
-/
import Derived.Test.YthlfecalpapkdaaStates
import Derived.Test.YthlfecalpapkdaaShufPlain
namespace Go.Proofs.Ythlfecalpapkdaa
open Go.RowKit

theorem own_at {w : World} {base : Nat} {e : TypeId} {g n c : Nat} {xs : List Int} (h : w.ownsRow base e 1 (.slice (some ⟨g, 0, none⟩) n c) n (xs.map (Value.int .i64))) {j : Nat} {x : Int} (hx : xs[j]? = some x) :
    w.cell? ⟨g, j, none⟩ = some (.int .i64 x) := by
  have hl : xs.length = n := by have := h.1; simpa using this
  have hj : j < xs.length := (List.getElem?_eq_some_iff.1 hx).1
  rw [h.cellAt j (by omega), List.getElem?_map, hx]
  rfl
theorem own_set {w : World} {base : Nat} {e : TypeId} {g n c : Nat} {xs : List Int} (h : w.ownsRow base e 1 (.slice (some ⟨g, 0, none⟩) n c) n (xs.map (Value.int .i64))) (j : Nat) (x : Int) :
    (w.setCell ⟨g, j, none⟩ (.int .i64 x)).ownsRow base e 1 (.slice (some ⟨g, 0, none⟩) n c) n ((xs.set j x).map (Value.int .i64)) := by
  have := (h.stored j (.int .i64 x)).1
  rw [map_set] at this
  exact this
theorem own_swap {w : World} {base : Nat} {e : TypeId} {g n c : Nat} {xs : List Int} (h : w.ownsRow base e 1 (.slice (some ⟨g, 0, none⟩) n c) n (xs.map (Value.int .i64))) {i j : Nat} {x y : Int} (hx : xs[i]? = some x) (hy : xs[j]? = some y) :
    ((w.setCell ⟨g, i, none⟩ (.int .i64 y)).setCell ⟨g, j, none⟩ (.int .i64 x)).ownsRow base e 1 (.slice (some ⟨g, 0, none⟩) n c) n ((swapL xs i j).map (Value.int .i64)) := by
  have := own_set (own_set h i y) j x
  unfold swapL
  rw [getD_of hx, getD_of hy]
  exact this
/-- The cell at j behind a store at i. -/
theorem cell_set_at {w : World} {base : Nat} {e : TypeId} {g n c : Nat} {xs : List Int} (h : w.ownsRow base e 1 (.slice (some ⟨g, 0, none⟩) n c) n (xs.map (Value.int .i64))) (i : Nat) (y : Int) {j : Nat} (hj : j < n) :
    (∃ z, (w.setCell ⟨g, i, none⟩ (.int .i64 y)).cell? ⟨g, j, none⟩ = some z) ∧ (w.setCell ⟨g, i, none⟩ (.int .i64 y)).frozen? ⟨g, j, none⟩ = false := by
  have ho := own_set h i y
  have hl : xs.length = n := by have := h.1; simpa using this
  have hz := own_at ho (j := j) (x := (xs.set i y)[j]'(by simp; omega)) (List.getElem?_eq_getElem _)
  exact ⟨⟨_, hz⟩, ho.frozenAt j⟩

set_option maxHeartbeats 1000000 in
theorem spec_shuffle_c {w : World} (a0 : Int) (n : Nat) (h1 : 1 ≤ a0) (h2 : a0 ≤ 2147483646) (hn : n ≤ 200) :
    Calls Try.prog 48 #[.int .i64 a0, .int .i64 n] w fun e w' => ∃ v, e = .returned v ∧ w'.ownsRow w.heap.size 2 1 v n ((shufL a0 n).map (Value.int .i64)) ∧ Below w.heap.size w w' := by
  obtain ⟨i0, hi, hz0, hz1, hz2⟩ := info_parts info_i64
  have HZ := Lib.hid hz2
  have hn0 : (0 : Int) ≤ (n : Int) := by omega
  go_enter Try.func48, Try.ntmps48
  go_wp2_with fail
  go_loopw [5, 6] (fun v i wr => ∃ k : Nat, k ≤ n ∧ i = .int .i64 k ∧ wr.ownsRow w.heap.size 2 1 v k ((firstL k).map (Value.int .i64)) ∧ Below w.heap.size w wr) (fun _ i _ => n - (intOf i).toNat)
  case atStart => exact ⟨0, Nat.zero_le _, rfl, World.ownsRow_lit w #[] 0 (Nat.le_refl _) (by decide) rfl, (Below.refl _ _).alloc (Nat.le_refl _) _⟩
  case round =>
    obtain ⟨k, hk, rfl, hown, hb⟩ := hrel
    have hsz := hb.size
    by_cases hlt : k < n
    · go_wp2_with ((at_builtin; refine wpList_append_own _ rfl _ _ 22 rfl w.heap.size 2 i0 (.int .i64 0) 1 8 Try.underlying22 hi hz0 hz1 hz2 rfl (by decide) _ _ _ rfl (hown.alloc _) ⟨wr.heap.size, 0, none⟩ 1 1 [.int .i64 (k : Int)] rfl rfl ?c1 ?c2 ?c3 ?c4 ?c5 ?_))
      case c1 => exact single_at _ _ _
      case c2 => intro u hu; simp at hu; subst hu; rfl
      case c3 => unfold maxLen; omega
      case c4 => omega
      case c5 => simp; omega
      intro v' w1 hown' hgrow _
      have hb' := below_append hb hsz hown hgrow
      have hs := Lib.hid (firstL_succ k)
      clear hown hgrow hb
      go_wp2
      go_roundw
      case rel => exact ⟨k + 1, by omega, by go_num, by rw [hs.out, List.map_append]; exact hown', hb'⟩
      case measure => simp [intOf]; try omega
    · obtain rfl : k = n := by omega
      obtain ⟨w0, rfl⟩ : ∃ w0 : World, w0 = wr := ⟨_, rfl⟩
      obtain ⟨v0, rfl⟩ : ∃ v0 : Value, v0 = u5 := ⟨_, rfl⟩
      obtain ⟨a, c, hv, hcap, hmost, ha⟩ := own_form hown
      subst hv
      unfold maxLen at hmost
      go_wp2_with fail
      go_loopw [0, 7] (fun s i wr => ∃ j : Nat, (j = 0 ∨ j < k) ∧ i = .int .i64 j ∧ s = .int .i64 (shufTo a0 k j).2 ∧ wr.ownsRow w.heap.size 2 1 (.slice a k c) k ((shufTo a0 k j).1.map (Value.int .i64)) ∧ Below w.heap.size w wr) (fun _ i _ => k - (intOf i).toNat)
      case atStart => exact ⟨0, .inl rfl, rfl, rfl, hown, hb⟩
      case round =>
        obtain ⟨j, hj, rfl, rfl, ho, hbe⟩ := hrel
        have hj' : j ≤ k := by omega
        have HJ := Lib.hid hj
        clear hj hown hb
        have hst := shufTo_st h1 h2 k j
        have hnb := nx_bd (shufTo a0 k j).2
        by_cases hlt2 : j + 1 < k
        · have hlt3 : (j : Int) + 1 < (k : Int) := by omega
          obtain ⟨g, hg, hbg, _⟩ := ha (by omega)
          subst hg
          have hlen := Lib.hid (shufTo_len a0 k j)
          have hp := pick_bd hnb.1 hnb.2 (show j < k by omega)
          obtain ⟨x, hx⟩ := at_of (xs := (shufTo a0 k j).1) (k := j) (by have := hlen.out; omega)
          obtain ⟨y, hy⟩ := at_of (xs := (shufTo a0 k j).1) (k := j + pick (nx (shufTo a0 k j).2) k j) (by have := hlen.out; have := hp.2; omega)
          have hS : Hid (shufTo a0 k (j + 1) = (swapL (shufTo a0 k j).1 j (j + pick (nx (shufTo a0 k j).2) k j), nx (shufTo a0 k j).2)) := Lib.hid rfl
          have hc1 := own_at ho hx
          have hc2 := own_at ho hy
          have hf1 := ho.frozenAt j
          have hnew := own_swap ho hx hy
          obtain ⟨⟨z, hc3⟩, hf3⟩ := cell_set_at ho j y (j := j + pick (nx (shufTo a0 k j).2) k j) hp.2
          have hbe2 := (hbe.setCell (p := ⟨g, j, none⟩) hbg (.int .i64 y)).setCell (p := ⟨g, j + pick (nx (shufTo a0 k j).2) k j, none⟩) hbg (.int .i64 x)
          have hm1 : 0 ≤ nx (shufTo a0 k j).2 * ((k : Int) - j) := Int.mul_nonneg hnb.1 (by omega)
          have hm2 : nx (shufTo a0 k j).2 * ((k : Int) - j) ≤ 2147483646 * ((k : Int) - j) := Int.mul_le_mul_of_nonneg_right hnb.2 (by omega)
          have HP := Lib.hid hp.1
          have hp2 := hp.2
          have HX := Lib.hid hx
          have HY := Lib.hid hy
          have HA := Lib.hid ha
          clear hp hx hy ho hbe ha
          generalize hq : pick (nx (shufTo a0 k j).2) k j = q at *
          have HQ := Lib.hid hq
          clear hq
          go_wp2_with fail
          refine (spec_next _ hst.1 hst.2 _).mono ?_
          rintro e w' ⟨rfl, rfl⟩
          have hPo := HP.out
          go_wp2_with fail
          go_roundw
          case rel => exact ⟨j + 1, .inr (by omega), by go_num, by rw [hS.out], by rw [hS.out]; exact hnew, hbe2⟩
          case measure => simp [intOf]; try omega
        · have hge : ¬ (j : Int) + 1 < (k : Int) := by omega
          have hfin : Hid (shufTo a0 k j = shufTo a0 k (k - 1)) := Lib.hid (by rw [show j = k - 1 by have := HJ.out; omega])
          go_wp2_with fail
          go_ret
          refine ⟨_, rfl, ?_, hbe⟩
          unfold shufL
          rw [← hfin.out]
          exact ho
set_option maxHeartbeats 1000000 in
theorem impl_shuffle_c {w : World} (a0 : Int) (n : Nat) (h1 : 1 ≤ a0) (h2 : a0 ≤ 2147483646) (hn : n ≤ 200) :
    Calls Try.prog 50 #[.int .i64 a0, .int .i64 n] w fun e w' => ∃ v, e = .returned (.tuple #[v, .int .i64 (shufTo a0 n (n - 1)).2]) ∧ w'.ownsRow w.heap.size 2 1 v n ((shufL a0 n).map (Value.int .i64)) ∧ Below w.heap.size w w' := by
  obtain ⟨i0, hi, hz0, hz1, hz2⟩ := info_parts info_i64
  have HZ := Lib.hid hz2
  have hn0 : (0 : Int) ≤ (n : Int) := by omega
  go_enter Try.func50, Try.ntmps50
  go_wp2_with fail
  go_loopw [6, 13] (fun v i wr => ∃ k : Nat, k ≤ n ∧ i = .int .i64 k ∧ wr.ownsRow w.heap.size 2 1 v k ((firstL k).map (Value.int .i64)) ∧ Below w.heap.size w wr) (fun _ i _ => n - (intOf i).toNat)
  case atStart => exact ⟨0, Nat.zero_le _, rfl, World.ownsRow_lit w #[] 0 (Nat.le_refl _) (by decide) rfl, (Below.refl _ _).alloc (Nat.le_refl _) _⟩
  case round =>
    obtain ⟨k, hk, rfl, hown, hb⟩ := hrel
    have hsz := hb.size
    by_cases hlt : k < n
    · go_wp2_with ((at_builtin; refine wpList_append_own _ rfl _ _ 22 rfl w.heap.size 2 i0 (.int .i64 0) 1 8 Try.underlying22 hi hz0 hz1 hz2 rfl (by decide) _ _ _ rfl (hown.alloc _) ⟨wr.heap.size, 0, none⟩ 1 1 [.int .i64 (k : Int)] rfl rfl ?c1 ?c2 ?c3 ?c4 ?c5 ?_))
      case c1 => exact single_at _ _ _
      case c2 => intro u hu; simp at hu; subst hu; rfl
      case c3 => unfold maxLen; omega
      case c4 => omega
      case c5 => simp; omega
      intro v' w1 hown' hgrow _
      have hb' := below_append hb hsz hown hgrow
      have hs := Lib.hid (firstL_succ k)
      clear hown hgrow hb
      go_wp2
      go_roundw
      case rel => exact ⟨k + 1, by omega, by go_num, by rw [hs.out, List.map_append]; exact hown', hb'⟩
      case measure => simp [intOf]; try omega
    · obtain rfl : k = n := by omega
      obtain ⟨w0, rfl⟩ : ∃ w0 : World, w0 = wr := ⟨_, rfl⟩
      obtain ⟨v0, rfl⟩ : ∃ v0 : Value, v0 = u6 := ⟨_, rfl⟩
      obtain ⟨a, c, hv, hcap, hmost, ha⟩ := own_form hown
      subst hv
      unfold maxLen at hmost
      go_wp2_with fail
      go_loopw [0, 8] (fun s i wr => ∃ j : Nat, (j = 0 ∨ j < k) ∧ i = .int .i64 j ∧ s = .int .i64 (shufTo a0 k j).2 ∧ wr.ownsRow w.heap.size 2 1 (.slice a k c) k ((shufTo a0 k j).1.map (Value.int .i64)) ∧ Below w.heap.size w wr) (fun _ i _ => k - (intOf i).toNat)
      case atStart => exact ⟨0, .inl rfl, rfl, rfl, hown, hb⟩
      case round =>
        obtain ⟨j, hj, rfl, rfl, ho, hbe⟩ := hrel
        have hj' : j ≤ k := by omega
        have HJ := Lib.hid hj
        clear hj hown hb
        have hst := shufTo_st h1 h2 k j
        have hnb := nx_bd (shufTo a0 k j).2
        by_cases hlt2 : j + 1 < k
        · have hlt3 : (j : Int) + 1 < (k : Int) := by omega
          obtain ⟨g, hg, hbg, _⟩ := ha (by omega)
          subst hg
          have hlen := Lib.hid (shufTo_len a0 k j)
          have hp := pick_bd hnb.1 hnb.2 (show j < k by omega)
          obtain ⟨x, hx⟩ := at_of (xs := (shufTo a0 k j).1) (k := j) (by have := hlen.out; omega)
          obtain ⟨y, hy⟩ := at_of (xs := (shufTo a0 k j).1) (k := j + pick (nx (shufTo a0 k j).2) k j) (by have := hlen.out; have := hp.2; omega)
          have hS : Hid (shufTo a0 k (j + 1) = (swapL (shufTo a0 k j).1 j (j + pick (nx (shufTo a0 k j).2) k j), nx (shufTo a0 k j).2)) := Lib.hid rfl
          have hc1 := own_at ho hx
          have hc2 := own_at ho hy
          have hf1 := ho.frozenAt j
          have hnew := own_swap ho hx hy
          obtain ⟨⟨z, hc3⟩, hf3⟩ := cell_set_at ho j y (j := j + pick (nx (shufTo a0 k j).2) k j) hp.2
          have hbe2 := (hbe.setCell (p := ⟨g, j, none⟩) hbg (.int .i64 y)).setCell (p := ⟨g, j + pick (nx (shufTo a0 k j).2) k j, none⟩) hbg (.int .i64 x)
          have hm1 : 0 ≤ nx (shufTo a0 k j).2 * ((k : Int) - j) := Int.mul_nonneg hnb.1 (by omega)
          have hm2 : nx (shufTo a0 k j).2 * ((k : Int) - j) ≤ 2147483646 * ((k : Int) - j) := Int.mul_le_mul_of_nonneg_right hnb.2 (by omega)
          have HP := Lib.hid hp.1
          have hp2 := hp.2
          have HX := Lib.hid hx
          have HY := Lib.hid hy
          have HA := Lib.hid ha
          clear hp hx hy ho hbe ha
          generalize hq : pick (nx (shufTo a0 k j).2) k j = q at *
          have HQ := Lib.hid hq
          clear hq
          go_wp2_with fail
          refine (impl_below _ ((k : Int) - j) hst.1 hst.2 (by omega) (by omega) _).mono ?_
          rintro e w' ⟨rfl, rfl⟩
          have hPo := HP.out
          have hb1 : (0 : Int) ≤ (j : Int) + q := by omega
          go_wp2_with fail
          go_region
          go_wp2_with fail
          go_roundw
          case rel => exact ⟨j + 1, .inr (by omega), by go_num, by rw [hS.out], by rw [hS.out]; exact hnew, hbe2.drew⟩
          case measure => simp [intOf]; try omega
        · have hge : ¬ (j : Int) + 1 < (k : Int) := by omega
          have hfin : Hid (shufTo a0 k j = shufTo a0 k (k - 1)) := Lib.hid (by rw [show j = k - 1 by have := HJ.out; omega])
          go_wp2_with fail
          go_ret2
          refine ⟨_, by rw [← hfin.out]; rfl, ?_, hbe⟩
          unfold shufL
          rw [← hfin.out]
          exact ho
end Go.Proofs.Ythlfecalpapkdaa
