/-
  Slices of persons that a call makes for itself: how they are marked and looked through again.
  Conditions: each lemma names its own.
-/
import Derived.Test.YtehfhpedpdofkaaMarkText
import Derived.Test.YtehfhpedpdofkaaPersEq
import Derived.Test.YtehfhpedpdofkaaOwn
import Derived.Maps.AppendAt
namespace Go.Proofs.Ytehfhpedpdofkaa
open Go.RowKit
set_option linter.unusedVariables false

def pmark (k : Nat) : Per := ⟨k, mt (k + 1), mt (k + 2), (k + 3 : Nat), (k + 4 : Nat)⟩
def pmarks (k n : Nat) : List Per := (List.range n).map fun i => pmark (k + 5 * i)
theorem pmarks_len (k n : Nat) : (pmarks k n).length = n := by simp [pmarks]
theorem pmarks_at (k : Nat) {n j : Nat} (h : j < n) : (pmarks k n)[j]? = some (pmark (k + 5 * j)) := by simp [pmarks, h]
theorem mark_i (k : Nat) (x : Int) (hx : x = (k : Int)) (hk : (k : Int) ≤ 100000000) (w : World) : Calls Try.prog 62 #[.int .i64 x] w fun e w' => e = .returned (.string (mt k)) ∧ Below w.heap.size w w' := by
  subst hx
  exact markText_c k hk w
theorem grown_below {w w' : World} (h : Below w.heap.size w w') (row : Option Nat) : w.grownBy w' row := ⟨h.os, h.tape, h.output, h.size, fun i hi _ => h.block i hi⟩
theorem grown_set (w : World) (g j : Nat) (u : Value) : w.grownBy (w.setCell ⟨g, j, none⟩ u) (some g) := by
  have hs : (w.setCell ⟨g, j, none⟩ u).heap.size = w.heap.size := by simp
  exact ⟨rfl, rfl, rfl, by omega, fun i _ hne => Below.heap_setCell w ⟨g, j, none⟩ u i (fun e => hne (by rw [e]))⟩

/-- The persons up to place k are marked. -/
def PMark (base : Nat) (w : World) (v : Value) (ps : List Per) (k : Nat) : Prop :=
  ∃ zs : List Value, zs.length = ps.length * 5 ∧ w.ownsRow base 56 5 v ps.length ((ps.take k).flatMap perC ++ zs.drop (k * 5))

set_option maxRecDepth 100000 in
set_option maxHeartbeats 1000000 in
theorem markPersonS_c {v : Value} {n : Nat} {cs : List Value} {base : Nat} {w : World} (k : Nat) (h : w.ownsRow base 56 5 v n cs) (hk : k + 5 * n ≤ 100000000) :
    Calls Try.prog 23 #[v, .int .i64 (k : Int)] w fun e w' => e = .returned (.int .i64 ((k + 5 * n : Nat) : Int)) ∧ w'.ownsRow base 56 5 v n ((pmarks k n).flatMap perC) ∧ Below base w w' ∧ w.grownBy w' v.ownBlock := by
  obtain ⟨a, c, rfl, hcap, hmost, ha⟩ := own_form h
  unfold maxLen at hmost
  have hP : PMark base w (.slice a n c) (pmarks k n) 0 := ⟨cs, by rw [pmarks_len]; exact h.1, by rw [pmarks_len]; simpa using h⟩
  clear h
  go_enter Try.func23, Try.ntmps23
  go_wp2_with fail
  go_loopw [1, 5] (fun q i wr => ∃ j : Nat, j ≤ n ∧ i = .int .i64 j ∧ q = .int .i64 ((k + 5 * j : Nat) : Int) ∧ Below base w wr ∧ w.grownBy wr (Value.slice a n c).ownBlock ∧ PMark base wr (.slice a n c) (pmarks k n) j) (fun _ i _ => n - (intOf i).toNat)
  case atStart => exact ⟨0, Nat.zero_le _, rfl, by simp, Below.refl _ _, World.grownBy.refl _ _, hP⟩
  case round =>
    obtain ⟨j, hj, rfl, rfl, hb, hg, hM⟩ := hrel
    clear hP
    by_cases hlt : j < n
    · obtain ⟨g, hag, hbg, hgw⟩ := ha (by omega)
      subst hag
      obtain ⟨zs, hz, ho⟩ := hM
      rw [pmarks_len] at ho hz
      have hx := pmarks_at k hlt
      have hset := Lib.hid (set_mid5 (pmarks k n) zs j _ hx (by rw [pmarks_len]; exact hz))
      have HA := Lib.hid ha
      clear ha hx
      have hkj : ((k + 5 * j : Nat) : Int) + 5 ≤ 100000000 := by omega
      have hkj0 : 0 ≤ ((k + 5 * j : Nat) : Int) := by omega
      generalize hK : k + 5 * j = K at *
      obtain ⟨⟨u0, hu0⟩, f0⟩ := own_cell ho (j * 5) (by omega)
      have o1 := Lib.hid (ho.stored (j * 5) (.int .i64 (K : Int))).1
      have HK := Lib.hid hK
      have b1 := hb.setCell (p := ⟨g, j * 5, none⟩) hbg (.int .i64 (K : Int))
      have g1 := hg.trans (grown_set wr g (j * 5) (.int .i64 (K : Int)))
      clear ho hK hb hg
      go_wp2_with fail
      clear hu0 f0
      refine (mark_i (K + 1) _ (by omega) (by omega) _).mono ?_
      rintro e w2 ⟨rfl, b2⟩
      have o2' := own_below o1.out b2
      obtain ⟨⟨u1, hu1⟩, f1⟩ := own_cell o2' (j * 5 + 1) (by omega)
      have o2 := Lib.hid (o2'.stored (j * 5 + 1) (.string (mt (K + 1)))).1
      have b3 := (below_next b1 (by omega) b2).setCell (p := ⟨g, j * 5 + 1, none⟩) hbg (.string (mt (K + 1)))
      have g3 := (g1.trans (grown_below b2 _)).trans (grown_set w2 g (j * 5 + 1) (.string (mt (K + 1))))
      clear o1 o2' b1 g1 b2
      go_wp2_with fail
      clear hu1 f1
      refine (mark_i (K + 2) _ (by omega) (by omega) _).mono ?_
      rintro e w4 ⟨rfl, b4⟩
      have o4' := own_below o2.out b4
      obtain ⟨⟨u2, hu2⟩, f2⟩ := own_cell o4' (j * 5 + 2) (by omega)
      have o4'' := (o4'.stored (j * 5 + 2) (.string (mt (K + 2)))).1
      obtain ⟨⟨u3, hu3⟩, f3⟩ := own_cell o4'' (j * 5 + 3) (by omega)
      have o5' := (o4''.stored (j * 5 + 3) (.int .i64 ((K : Int) + 1 + 1 + 1))).1
      obtain ⟨⟨u4, hu4⟩, f4⟩ := own_cell o5' (j * 5 + 4) (by omega)
      have o6 := Lib.hid (o5'.stored (j * 5 + 4) (.int .i64 ((K : Int) + 1 + 1 + 1 + 1))).1
      have b5 := (((below_next b3 (by omega) b4).setCell (p := ⟨g, j * 5 + 2, none⟩) hbg (.string (mt (K + 2)))).setCell (p := ⟨g, j * 5 + 3, none⟩) hbg (.int .i64 ((K : Int) + 1 + 1 + 1))).setCell (p := ⟨g, j * 5 + 4, none⟩) hbg (.int .i64 ((K : Int) + 1 + 1 + 1 + 1))
      have g5 := (((g3.trans (grown_below b4 _)).trans (grown_set _ g (j * 5 + 2) (.string (mt (K + 2))))).trans (grown_set _ g (j * 5 + 3) (.int .i64 ((K : Int) + 1 + 1 + 1)))).trans (grown_set _ g (j * 5 + 4) (.int .i64 ((K : Int) + 1 + 1 + 1 + 1)))
      clear o2 o4' o4'' o5' b3 g3 b4
      go_wp2_with fail
      clear hu2 hu3 hu4 f2 f3 f4
      go_roundw
      case rel =>
        have hKK := HK.out
        refine ⟨j + 1, by omega, by go_num, by rw [← hKK]; go_num, b5, g5, ?_⟩
        refine ⟨zs, by rw [pmarks_len]; exact hz, ?_⟩
        rw [pmarks_len, ← hset.out]
        have e3 : Value.int .i64 (pmark K).born = Value.int .i64 ((K : Int) + 1 + 1 + 1) := by
          show Value.int .i64 ((K + 3 : Nat) : Int) = _
          rw [show ((K + 3 : Nat) : Int) = (K : Int) + 1 + 1 + 1 by omega]
        have e4 : Value.int .i64 (pmark K).zone = Value.int .i64 ((K : Int) + 1 + 1 + 1 + 1) := by
          show Value.int .i64 ((K + 4 : Nat) : Int) = _
          rw [show ((K + 4 : Nat) : Int) = (K : Int) + 1 + 1 + 1 + 1 by omega]
        rw [e3, e4]
        exact o6.out
      case measure => simp [intOf]; omega
    · obtain rfl : j = n := by omega
      have hfin : wr.ownsRow base 56 5 (.slice a j c) j ((pmarks k j).flatMap perC) := by
        obtain ⟨zs, hz, ho⟩ := hM
        rw [pmarks_len] at ho hz
        rw [List.take_of_length_le (by rw [pmarks_len]; omega), List.drop_eq_nil_of_le (by omega), List.append_nil] at ho
        exact ho
      clear hM ha
      go_wp2_with fail
      go_ret
      exact ⟨rfl, hfin, hb, hg⟩
end Go.Proofs.Ytehfhpedpdofkaa
