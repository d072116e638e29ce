/-
  Whether two slices of int64 are equal: likeInts of the laws.
  Conditions: none but that both read as numbers.
-/
import Derived.Test.YthnilifepiihjaaPre
namespace Go.Proofs.Ythnilifepiihjaa
open Go.RowKit

set_option maxHeartbeats 400000 in
theorem likeInts_c {v u : Value} {xs ys : List Int} {w : World} (h : Ints w v xs) (g : Ints w u ys) :
    Calls Try.prog 39 #[v, u] w fun e w' => e = .returned (.bool (decide (xs = ys))) ∧ ∃ m, w' = w.drewN m := by
  obtain ⟨a, n, c, rfl, H⟩ := h.parts
  obtain ⟨a', n', c', rfl, H'⟩ := g.parts
  have hlen := Lib.hid H.len
  have hlen' := Lib.hid H'.len
  have hcap := H.cap
  have hmost := H.most
  have hcap' := H'.cap
  have hmost' := H'.most
  unfold maxLen at hmost hmost'
  by_cases hne : n = n'
  · subst hne
    go_enter Try.func39, Try.ntmps39
    go_wp2
    go_loopw [5] (fun i wr => ∃ k m : Nat, k ≤ n ∧ i = .int .i64 k ∧ wr = w.drewN m ∧ AllTo (fun j => xs.getD j 0 == ys.getD j 0) k) (fun i _ => n - (intOf i).toNat)
    case atStart => exact ⟨0, 0, Nat.zero_le _, rfl, rfl, allTo_zero _⟩
    case round =>
      obtain ⟨k, m, hk, rfl, rfl, hall⟩ := hrel
      by_cases hlt : k < n
      · obtain ⟨b, o, ha, hbb, hc⟩ := H.cells (by omega)
        obtain ⟨b', o', ha', hbb', hc'⟩ := H'.cells (by omega)
        subst ha
        subst ha'
        obtain ⟨x, hx⟩ := at_of (xs := xs) (k := k) (by have := hlen.out; omega)
        obtain ⟨y, hy⟩ := at_of (xs := ys) (k := k) (by have := hlen'.out; omega)
        have hcell := hc k x hx
        have hcell' := hc' k y hy
        have HX := Lib.hid hx
        have HY := Lib.hid hy
        have HH := Lib.hid H
        have HH' := Lib.hid H'
        clear hc hc' hx hy H H'
        by_cases hxy : x = y
        · subst hxy
          have hnext := hall.succ (by simp [List.getD_eq_getElem?_getD, HX.out, HY.out])
          go_wp2
          go_quiet (fail)
          go_wp2
          go_roundw
          case rel => exact ⟨k + 1, _, by omega, by go_num, rfl, hnext⟩
          case measure => simp [intOf]; omega
        · have hb : (x == y) = false := by simpa using hxy
          have hb' : (x != y) = true := by simpa using hxy
          go_wp2
          go_quiet (fail)
          go_wp2
          go_ret
          refine ⟨rb ?_, m + nq, World.drewN_drewN _ _ _⟩
          have h1 := HX.out
          have h2 := HY.out
          symm
          rw [decide_eq_false_iff_not]
          rintro rfl
          rw [h1] at h2
          exact hxy (by injection h2)
      · obtain rfl : k = n := by omega
        have hfin := Lib.hid (list_eq_of (xs := xs) (ys := ys) (by rw [hlen.out, hlen'.out]) (by rw [hlen.out]; exact hall))
        clear H H'
        go_wp2
        go_ret
        exact ⟨rb (decide_eq_true hfin.out).symm, _, rfl⟩
  · have hb : ((n : Int) != (n' : Int)) = true := by rw [bne_iff_ne]; omega
    go_enter Try.func39, Try.ntmps39
    go_wp2
    go_ret
    refine ⟨rb (decide_eq_false ?_).symm, 0, rfl⟩
    rintro rfl
    exact hne (by rw [← hlen.out, ← hlen'.out])
end Go.Proofs.Ythnilifepiihjaa
