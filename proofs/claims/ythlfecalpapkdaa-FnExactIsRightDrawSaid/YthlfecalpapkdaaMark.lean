/-
  Slices of int64 that a call makes for itself: how they are filled, marked and looked through again.
  Conditions: each lemma names its own.
-/
import Derived.Test.YthlfecalpapkdaaInts
namespace Go.Proofs.Ythlfecalpapkdaa
open Go.RowKit

section
variable {w w' : World} {base size n : Nat} {e : TypeId} {v : Value} {cs : List Value}
theorem own_form (h : w.ownsRow base e size v n cs) : ∃ a c, v = .slice a n c ∧ n ≤ c ∧ c ≤ maxLen ∧ (0 < n → ∃ g, a = some ⟨g, 0, none⟩ ∧ base ≤ g ∧ g < w.heap.size) := by
  rcases h.2 with ⟨rfl, rfl⟩ | ⟨g, cap, cur, rfl, hb, hg, hn, hm, hs, ht⟩
  · exact ⟨none, 0, rfl, Nat.le_refl _, Nat.zero_le _, fun h => absurd h (by omega)⟩
  · exact ⟨_, cap, rfl, hn, hm, fun _ => ⟨g, rfl, hb, (Array.getElem?_eq_some_iff.1 hg).1⟩⟩
theorem own_below (h : w.ownsRow base e size v n cs) (hb : Below w.heap.size w w') : w'.ownsRow base e size v n cs := by
  refine ⟨h.1, ?_⟩
  rcases h.2 with hn | ⟨g, cap, cur, hv, hbg, hg, rest⟩
  · exact .inl hn
  · exact .inr ⟨g, cap, cur, hv, hbg, (hb.block g (Array.getElem?_eq_some_iff.1 hg).1).trans hg, rest⟩
theorem own_drewN (h : w.ownsRow base e size v n cs) (m : Nat) : (w.drewN m).ownsRow base e size v n cs := h
theorem own_mono {base' : Nat} (h : w.ownsRow base e size v n cs) (hb : base' ≤ base) : w.ownsRow base' e size v n cs := by
  refine ⟨h.1, ?_⟩
  rcases h.2 with hn | ⟨g, cap, cur, hv, hbg, rest⟩
  · exact .inl hn
  · exact .inr ⟨g, cap, cur, hv, Nat.le_trans hb hbg, rest⟩
theorem below_append {a : World} {w1 : World} {o : Obj} (hb : Below base a w) (hB : base ≤ w.heap.size) (hown : w.ownsRow base e size v n cs) (hg : (w.alloc o).grownBy w1 v.ownBlock) : Below base a w1 :=
  (hb.alloc hB o).grown hg (by simp; omega) (fun k hk => (hown.lt k hk).1)
end

/-- The slice v is filled with the numbers xs up to place k. -/
def Filled (base : Nat) (w : World) (v : Value) (xs : List Int) (k : Nat) : Prop :=
  ∃ zs : List Value, zs.length = xs.length ∧ w.ownsRow base 2 1 v xs.length ((xs.take k).map (Value.int .i64) ++ zs.drop k)
theorem filled_start {base : Nat} {w : World} {v : Value} {xs : List Int} {n : Nat} {zs : List Value} (h : w.ownsRow base 2 1 v n zs) (hn : xs.length = n) : Filled base w v xs 0 := by
  subst hn
  exact ⟨zs, by have := h.1; omega, by simpa using h⟩
theorem Filled.step {base g n c : Nat} {w : World} {xs : List Int} {k : Nat} {x : Int} (h : Filled base w (.slice (some ⟨g, 0, none⟩) n c) xs k) (hn : xs.length = n) (hx : xs[k]? = some x) :
    (∃ u, w.cell? ⟨g, k, none⟩ = some u) ∧ w.frozen? ⟨g, k, none⟩ = false ∧ Filled base (w.setCell ⟨g, k, none⟩ (.int .i64 x)) (.slice (some ⟨g, 0, none⟩) n c) xs (k + 1) := by
  subst hn
  obtain ⟨zs, hz, ho⟩ := h
  have hk : k < xs.length := (List.getElem?_eq_some_iff.1 hx).1
  have hc := ho.cellAt k (by omega)
  refine ⟨⟨zs[k]'(by omega), ?_⟩, ho.frozenAt k, zs, hz, ?_⟩
  · rw [hc, List.getElem?_append_right (by simp; omega)]
    simp [show min k xs.length = k by omega]
  · rw [← set_mid _ xs zs k x hx hz.symm]
    exact (ho.stored k _).1
theorem Filled.full {base : Nat} {w : World} {v : Value} {xs : List Int} (h : Filled base w v xs xs.length) : w.ownsRow base 2 1 v xs.length (xs.map (Value.int .i64)) := by
  obtain ⟨zs, hz, ho⟩ := h
  rw [List.take_length, List.drop_eq_nil_of_le (by omega), List.append_nil] at ho
  exact ho

/-- The marks k, k + 1, .. -/
def marks (k : Int) (n : Nat) : List Int := (List.range n).map (fun j : Nat => k + j)
theorem marks_len (k : Int) (n : Nat) : (marks k n).length = n := by simp [marks]
theorem marks_at (k : Int) {n j : Nat} (h : j < n) : (marks k n)[j]? = some (k + j) := by simp [marks, h]

set_option maxHeartbeats 400000 in
theorem mark_c {v : Value} {n : Nat} {cs : List Value} {base : Nat} {w : World} (k : Int) (h : w.ownsRow base 2 1 v n cs) (hk0 : 0 ≤ k) (hk1 : k ≤ 4294967296) (hn : n ≤ 1073741824) :
    Calls Try.prog 14 #[v, .int .i64 k] w fun e w' => e = .returned (.int .i64 (k + n)) ∧ w'.ownsRow base 2 1 v n ((marks k n).map (Value.int .i64)) ∧ Below base w w' := by
  obtain ⟨a, c, rfl, hcap, hmost, ha⟩ := own_form h
  unfold maxLen at hmost
  have hf := filled_start h (marks_len k n)
  clear h
  go_enter Try.func14, Try.ntmps14
  go_wp2
  go_loopw [1, 5] (fun q i wr => ∃ j : Nat, j ≤ n ∧ i = .int .i64 j ∧ q = .int .i64 (k + j) ∧ Below base w wr ∧ Filled base wr (.slice a n c) (marks k n) j) (fun _ i _ => n - (intOf i).toNat)
  case atStart => exact ⟨0, Nat.zero_le _, rfl, by simp, Below.refl _ _, hf⟩
  case round =>
    obtain ⟨j, hj, rfl, rfl, hb, hfi⟩ := hrel
    clear hf
    by_cases hlt : j < n
    · obtain ⟨g, hg, hbg, _⟩ := ha (by omega)
      subst hg
      obtain ⟨⟨u, hu⟩, hfz, hst⟩ := hfi.step (marks_len k n) (marks_at k hlt)
      have hb' := hb.setCell (p := ⟨g, j, none⟩) hbg (.int .i64 (k + j))
      have HA := Lib.hid ha
      clear hfi ha
      go_wp2
      go_roundw
      case rel => exact ⟨j + 1, by omega, by go_num, by go_num, hb', hst⟩
      case measure => simp [intOf]; omega
    · obtain rfl : j = n := by omega
      have hl := marks_len k j
      have hfin : wr.ownsRow base 2 1 (.slice a j c) j ((marks k j).map (Value.int .i64)) := by
        have hq : Filled base wr (.slice a j c) (marks k j) (marks k j).length := by rw [hl]; exact hfi
        have := hq.full
        rw [hl] at this
        exact this
      clear hfi hl ha
      go_wp2
      go_ret
      exact ⟨rfl, hfin, hb⟩

set_option maxHeartbeats 400000 in
theorem held_c {v : Value} {n : Nat} {w : World} (k : Int) (h : Ints w v (marks k n)) (hk0 : 0 ≤ k) (hk1 : k ≤ 4294967296) (hn : n ≤ 1073741824) :
    Calls Try.prog 15 #[v, .int .i64 k] w fun e w' => e = .returned (.int .i64 (k + n)) ∧ ∃ m, w' = w.drewN m := by
  obtain ⟨a, n', c, rfl, H⟩ := h.parts
  obtain rfl : n' = n := by rw [← H.len]; exact marks_len k n
  have hcap := H.cap
  have hmost := H.most
  unfold maxLen at hmost
  clear h
  go_enter Try.func15, Try.ntmps15
  go_wp2
  go_loop [1, 5] (fun q i => ∃ j : Nat, j ≤ n' ∧ i = .int .i64 j ∧ q = .int .i64 (k + j)) (fun _ i => n' - (intOf i).toNat)
  case atStart => exact ⟨0, Nat.zero_le _, rfl, by simp⟩
  case round =>
    obtain ⟨j, hj, rfl, rfl⟩ := hrel
    by_cases hlt : j < n'
    · obtain ⟨b, o, ha, hbb, hc⟩ := H.cells (by omega)
      subst ha
      have hcell := hc j _ (marks_at k hlt)
      have HH := Lib.hid H
      clear hc H
      go_wp2
      go_round
      case rel => exact ⟨j + 1, by omega, by go_num, by go_num⟩
      case measure => simp [intOf]; omega
    · obtain rfl : j = n' := by omega
      clear H
      go_wp2
      go_ret
      exact ⟨rfl, 0, rfl⟩
end Go.Proofs.Ythlfecalpapkdaa
