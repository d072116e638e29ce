/-
  Slices of int64: the copy that a law makes of its argument.
  Conditions: a copied slice has at most 1048576 elements.
-/
import Derived.Test.YtimjjednfhnbbaaDoorIntsEq
namespace Go.Proofs.YtimjjednfhnbbaaDoor
open Go.RowKit

/-- What slice v in world w1 is once the first k elements of xs are copied. -/
def Copied (w0 w1 : World) (v : Value) (xs : List Int) (k : Nat) : Prop :=
  ∃ zs : List Value, zs.length = xs.length ∧ w1.ownsRow w0.heap.size 2 1 v xs.length ((xs.take k).map (Value.int .i64) ++ zs.drop k)

theorem Copied.step {w0 w1 : World} {g n c : Nat} {xs : List Int} {k : Nat} {x : Int} (h : Copied w0 w1 (.slice (some ⟨g, 0, none⟩) n c) xs k) (hn : xs.length = n) (hx : xs[k]? = some x) :
    (∃ u, w1.cell? ⟨g, k, none⟩ = some u) ∧ w1.frozen? ⟨g, k, none⟩ = false ∧ Copied w0 (w1.setCell ⟨g, k, none⟩ (.int .i64 x)) (.slice (some ⟨g, 0, none⟩) n c) xs (k + 1) := by
  subst hn
  obtain ⟨zs, hz, ho⟩ := h
  have hk : k < xs.length := (List.getElem?_eq_some_iff.1 hx).1
  have hc := ho.cellAt k (by omega)
  refine ⟨⟨zs[k]'(by omega), ?_⟩, ho.frozenAt k, zs, hz, ?_⟩
  · rw [hc, List.getElem?_append_right (by simp; omega)]
    simp [show min k xs.length = k by omega]
  · rw [← set_mid _ xs zs k x hx hz.symm]
    exact (ho.stored k _).1

set_option maxHeartbeats 400000 in
theorem toInt64S_c {v : Value} {xs : List Int} {w : World} (h : Ints w v xs) (hn : xs.length ≤ 1048576) :
    Calls Tryd.prog 21 #[v] w fun e w' => ∃ v', e = .returned v' ∧ w'.ownsRow w.heap.size 2 1 v' xs.length (xs.map (Value.int .i64)) ∧ Below w.heap.size w w' := by
  obtain ⟨a, n, c, rfl, H⟩ := h.parts
  have hlen := Lib.hid H.len
  have hcap := H.cap
  have hmost := H.most
  have hn' : n ≤ 1048576 := by have := hlen.out; omega
  unfold maxLen at hmost
  obtain ⟨i0, hi, hz0, hz1, hz2⟩ := info_parts info_i64
  have hz2' : i0.bytes ≤ 8 := by omega
  have HZ := Lib.hid hz2
  clear hz2
  go_enter Tryd.func21, Tryd.ntmps21
  go_wp2_with (first | (at_make; refine wpList_make_full _ rfl _ _ 33 rfl w.heap.size 2 i0 (.int .i64 0) 1 Tryd.underlying33 hi hz0 hz1 _ _ _ _ n rfl rfl rfl rfl ?b2 ?b3 ?b4 ?_))
  case b2 => rw [HZ.out]; omega
  case b3 => unfold maxLen; omega
  case b4 => exact Nat.le_refl _
  intro w1 hown hgrow
  have hbel : Below w.heap.size w w1 := (Below.refl _ _).grown hgrow (Nat.le_refl _) (fun k hk => by cases hk)
  have hcop : Copied w w1 (.slice (some ⟨w.heap.size, 0, none⟩) n n) xs 0 := by
    have hl := hlen.out
    subst hl
    have h1 := hown.1
    exact ⟨(madeCells #[.int .i64 0] (xs.length * 1)).toList, by simpa using h1, by simpa using hown⟩
  clear hown hgrow hi hz0 hz1
  go_wp2
  go_loopw [4] (fun i wr => ∃ k : Nat, k ≤ n ∧ i = .int .i64 k ∧ Below w.heap.size w wr ∧ Copied w wr (.slice (some ⟨w.heap.size, 0, none⟩) n n) xs k) (fun i _ => n - (intOf i).toNat)
  case atStart => exact ⟨0, Nat.zero_le _, rfl, hbel, hcop⟩
  case round =>
    obtain ⟨k, hk, rfl, hb, hco⟩ := hrel
    clear hbel hcop
    by_cases hlt : k < n
    · obtain ⟨b, o, ha, hbb, hc⟩ := H.cells (by omega)
      subst ha
      obtain ⟨x, hx⟩ : ∃ x, xs[k]? = some x := ⟨xs[k]'(by have := hlen.out; omega), List.getElem?_eq_getElem _⟩
      have hcell := (hb.cell (p := ⟨b, o + k, none⟩) hbb).trans (hc k x hx)
      obtain ⟨⟨u, hu⟩, hf, hst⟩ := hco.step hlen.out hx
      have hb' := hb.setCell (p := ⟨w.heap.size, k, none⟩) (Nat.le_refl _) (.int .i64 x)
      have HX := Lib.hid hx
      have HH := Lib.hid H
      clear hc hx hco H
      go_wp2
      go_roundw
      case rel => exact ⟨k + 1, by omega, by go_num, hb', hst⟩
      case measure => simp [intOf]; omega
    · have hkn : n ≤ k := by omega
      have HK := Lib.hid hk
      have hfin : wr.ownsRow w.heap.size 2 1 (.slice (some ⟨w.heap.size, 0, none⟩) n n) xs.length (xs.map (Value.int .i64)) := by
        obtain ⟨zs, hz, ho⟩ := hco
        have hl := hlen.out
        rw [List.take_of_length_le (by omega), List.drop_eq_nil_of_le (by omega), List.append_nil] at ho
        exact ho
      clear hco H
      go_wp2
      go_ret
      exact ⟨_, rfl, hfin, hb⟩
theorem copyInts {v : Value} {xs : List Int} {w : World} (h : Ints w v xs) (hn : xs.length ≤ 1048576) :
    Calls Tryd.prog 21 #[v] w fun e w' => ∃ v', e = .returned v' ∧ Ints w' v' xs ∧ Below w.heap.size w w' :=
  (toInt64S_c h hn).mono fun _ _ ⟨v', he, ho, hb⟩ => ⟨v', he, Ints.own ho, hb⟩

end Go.Proofs.YtimjjednfhnbbaaDoor
