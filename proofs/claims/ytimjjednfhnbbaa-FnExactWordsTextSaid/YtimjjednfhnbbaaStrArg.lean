/-
  Slices of texts among a law's arguments: what they cost, the copy that a law makes, how two are compared.
  Conditions: a copied slice has at most 1048576 elements.
-/
import Derived.Test.YtimjjednfhnbbaaStr
import Derived.Test.YtimjjednfhnbbaaOwn
namespace Go.Proofs.Ytimjjednfhnbbaa
open Go.RowKit
set_option linter.unusedVariables false

theorem info_str : (Try.prog.info? 9).map (fun i => (i.zero, i.size, i.bytes)) = some (some (.string ⟨#[]⟩), 1, 16) := by kernel_rfl
theorem set_midS {α β : Type} (f : β → α) (xs : List β) (zs : List α) (k : Nat) (x : β) (hx : xs[k]? = some x) (hz : xs.length = zs.length) :
    ((xs.take k).map f ++ zs.drop k).set k (f x) = (xs.take (k + 1)).map f ++ zs.drop (k + 1) := by
  have hk : k < xs.length := (List.getElem?_eq_some_iff.1 hx).1
  have hl : ((xs.take k).map f).length = k := by simp; omega
  rw [List.set_append_right _ _ (by omega), hl, Nat.sub_self, List.take_add_one, hx]
  rw [List.drop_eq_getElem_cons (by omega : k < zs.length), List.set_cons_zero]
  simp only [Option.toList, List.map_append, List.map_cons, List.map_nil, List.append_assoc, List.cons_append, List.nil_append]
/-- An own row of texts. -/
def OwnT (base : Nat) (v : Value) (ss : List ByteArray) (w : World) : Prop := w.ownsRow base 9 1 v ss.length (ss.map Value.string)
theorem OwnT.below {base : Nat} {v : Value} {ss : List ByteArray} {w w' : World} (h : OwnT base v ss w) (hb : Below w.heap.size w w') : OwnT base v ss w' := own_below h hb
theorem OwnT.drewN {base : Nat} {v : Value} {ss : List ByteArray} {w : World} (h : OwnT base v ss w) (m : Nat) : OwnT base v ss (w.drewN m) := h
theorem OwnT.strs {base : Nat} {v : Value} {ss : List ByteArray} {w : World} (h : OwnT base v ss w) : Strs w v ss := Row.own h

/-- What slice v in world w1 is once the first k elements of ss are copied. -/
def CopiedT (w0 w1 : World) (v : Value) (ss : List ByteArray) (k : Nat) : Prop :=
  ∃ zs : List Value, zs.length = ss.length ∧ w1.ownsRow w0.heap.size 9 1 v ss.length ((ss.take k).map Value.string ++ zs.drop k)
theorem CopiedT.step {w0 w1 : World} {g n c : Nat} {ss : List ByteArray} {k : Nat} {x : ByteArray} (h : CopiedT w0 w1 (.slice (some ⟨g, 0, none⟩) n c) ss k) (hn : ss.length = n) (hx : ss[k]? = some x) :
    (∃ u, w1.cell? ⟨g, k, none⟩ = some u) ∧ w1.frozen? ⟨g, k, none⟩ = false ∧ CopiedT w0 (w1.setCell ⟨g, k, none⟩ (.string x)) (.slice (some ⟨g, 0, none⟩) n c) ss (k + 1) := by
  subst hn
  obtain ⟨zs, hz, ho⟩ := h
  have hk : k < ss.length := (List.getElem?_eq_some_iff.1 hx).1
  have hc := ho.cellAt k (by omega)
  refine ⟨⟨zs[k]'(by omega), ?_⟩, ho.frozenAt k, zs, hz, ?_⟩
  · rw [hc, List.getElem?_append_right (by simp; omega)]
    simp [show min k ss.length = k by omega]
  · rw [← set_midS _ ss zs k x hx hz.symm]
    exact (ho.stored k _).1

set_option maxHeartbeats 1000000 in
theorem toStringS_c {v : Value} {ss : List ByteArray} {w : World} (h : Strs w v ss) (hn : ss.length ≤ 1048576) :
    Calls Try.prog 6 #[v] w fun e w' => ∃ v', e = .returned v' ∧ OwnT w.heap.size v' ss w' ∧ Below w.heap.size w w' := by
  obtain ⟨a, n, c, rfl, H⟩ := h.parts
  have hlen := Lib.hid H.len
  have hcap := H.cap
  have hmost := H.most
  have hn' : n ≤ 1048576 := by have := hlen.out; omega
  unfold maxLen at hmost
  obtain ⟨i0, hi, hz0, hz1, hz2⟩ := info_parts info_str
  have hz2' : i0.bytes ≤ 16 := by omega
  have HZ := Lib.hid hz2
  clear hz2
  go_enter Try.func6, Try.ntmps6
  go_wp2_with (first | (at_make; refine wpList_make_full _ rfl _ _ 22 rfl w.heap.size 9 i0 (.string ⟨#[]⟩) 1 Try.underlying22 hi hz0 hz1 _ _ _ _ n rfl rfl rfl rfl ?b2 ?b3 ?b4 ?_))
  case b2 => rw [HZ.out]; omega
  case b3 => unfold maxLen; omega
  case b4 => exact Nat.le_refl _
  intro w1 hown hgrow
  have hbel : Below w.heap.size w w1 := (Below.refl _ _).grown hgrow (Nat.le_refl _) (fun k hk => by cases hk)
  have hcop : CopiedT w w1 (.slice (some ⟨w.heap.size, 0, none⟩) n n) ss 0 := by
    have hl := hlen.out
    subst hl
    have h1 := hown.1
    exact ⟨(madeCells #[.string ⟨#[]⟩] (ss.length * 1)).toList, by simpa using h1, by simpa using hown⟩
  clear hown hgrow hi hz0 hz1
  go_wp2
  go_loopw [4] (fun i wr => ∃ k : Nat, k ≤ n ∧ i = .int .i64 k ∧ Below w.heap.size w wr ∧ CopiedT w wr (.slice (some ⟨w.heap.size, 0, none⟩) n n) ss k) (fun i _ => n - (intOf i).toNat)
  case atStart => exact ⟨0, Nat.zero_le _, rfl, hbel, hcop⟩
  case round =>
    obtain ⟨k, hk, rfl, hb, hco⟩ := hrel
    clear hbel hcop
    by_cases hlt : k < n
    · obtain ⟨b, o, ha, hbb, hc⟩ := H.cells (by omega)
      subst ha
      obtain ⟨x, hx⟩ := str_at (ss := ss) (k := k) (by have := hlen.out; omega)
      have hcell := (hb.cell (p := ⟨b, o + k, none⟩) hbb).trans (hc k x hx)
      obtain ⟨⟨u, hu⟩, hf, hst⟩ := hco.step hlen.out hx
      have hb' := hb.setCell (p := ⟨w.heap.size, k, none⟩) (Nat.le_refl _) (.string x)
      have HX := Lib.hid hx
      have HH := Lib.hid H
      clear hc hx hco H
      go_wp2
      go_roundw
      case rel => exact ⟨k + 1, by omega, by go_num, hb', hst⟩
      case measure => simp [intOf]; omega
    · have hkn : n ≤ k := by omega
      have HK := Lib.hid hk
      have hfin : OwnT w.heap.size (.slice (some ⟨w.heap.size, 0, none⟩) n n) ss wr := by
        obtain ⟨zs, hz, ho⟩ := hco
        have hl := hlen.out
        rw [List.take_of_length_le (by omega), List.drop_eq_nil_of_le (by omega), List.append_nil] at ho
        exact ho
      clear hco H
      go_wp2
      go_ret
      exact ⟨_, rfl, hfin, hb⟩

set_option maxHeartbeats 1000000 in
theorem szStringS_c {v : Value} {ss : List ByteArray} {w : World} (h : Strs w v ss) (hf : StrsFit ss) (left : Int) (h0 : 0 ≤ left) (h1 : left ≤ 1048576) :
    Calls Try.prog 4 #[v, .int .i64 left] w fun e w' => ∃ r : Int, e = .returned (.int .i64 r) ∧ (r = -1 ∨ (0 ≤ r ∧ r ≤ left ∧ (ss.length : Int) ≤ left)) ∧ w' = w := by
  obtain ⟨a, n, c, rfl, H⟩ := h.parts
  have hlen := Lib.hid H.len
  have hcap := H.cap
  have hmost := H.most
  unfold maxLen at hmost
  have HF := Lib.hid hf
  clear h hf
  by_cases hbig : left - n < 0
  · clear H
    go_enter Try.func4, Try.ntmps4
    go_wp2_with fail
    go_ret
    exact ⟨-1, rfl, Or.inl rfl, rfl⟩
  · go_enter Try.func4, Try.ntmps4
    go_wp2_with fail
    go_loop [1, 5] (fun l i => ∃ (k : Nat) (r : Int), k ≤ n ∧ i = .int .i64 k ∧ l = .int .i64 r ∧ 0 ≤ r ∧ r ≤ left - n) (fun _ i => n - (intOf i).toNat)
    case atStart => exact ⟨0, left - n, Nat.zero_le _, rfl, rfl, by omega, by omega⟩
    case round =>
      obtain ⟨k, r, hk, rfl, rfl, hr0, hr1⟩ := hrel
      by_cases hlt : k < n
      · obtain ⟨b, o, ha, hbb, hc⟩ := H.cells (by omega)
        subst ha
        obtain ⟨x, hx⟩ := str_at (ss := ss) (k := k) (by have := hlen.out; omega)
        have hcell := hc k x hx
        have hxs := HF.out.at_ hx
        have HH := Lib.hid H
        clear hc hx H
        by_cases q : r - x.size < 0
        · go_wp2_with fail
          go_ret
          exact ⟨-1, rfl, Or.inl rfl, rfl⟩
        · go_wp2_with fail
          go_round
          case rel => exact ⟨k + 1, r - x.size, by omega, by go_num, rfl, by omega, by omega⟩
          case measure => simp [intOf]; omega
      · clear H
        go_wp2_with fail
        go_ret
        exact ⟨r, rfl, Or.inr ⟨hr0, by omega, by have := hlen.out; omega⟩, rfl⟩

set_option maxHeartbeats 1000000 in
theorem eqStringS_c {v u : Value} {ss : List ByteArray} {w : World} (h : Strs w v ss) (g : Strs w u ss) :
    Calls Try.prog 8 #[v, u] w fun e w' => e = .returned (.bool true) ∧ Below w.heap.size w w' := by
  obtain ⟨a, n, c, rfl, H⟩ := h.parts
  obtain ⟨a', n', c', rfl, H'⟩ := g.parts
  have hlen := Lib.hid H.len
  obtain rfl : n = n' := by rw [← H.len, ← H'.len]
  have hcap := H.cap
  have hmost := H.most
  have hcap' := H'.cap
  have hmost' := H'.most
  unfold maxLen at hmost hmost'
  clear h g
  go_enter Try.func8, Try.ntmps8
  go_wp2_with fail
  go_loopw [5] (fun i wr => ∃ k m : Nat, k ≤ n ∧ i = .int .i64 k ∧ wr = w.drewN m) (fun i _ => n - (intOf i).toNat)
  case atStart => exact ⟨0, 0, Nat.zero_le _, rfl, rfl⟩
  case round =>
    obtain ⟨k, m, hk, rfl, rfl⟩ := hrel
    by_cases hlt : k < n
    · obtain ⟨b, o, ha, hbb, hc⟩ := H.cells (by omega)
      obtain ⟨b', o', ha', hbb', hc'⟩ := H'.cells (by omega)
      subst ha
      subst ha'
      obtain ⟨x, hx⟩ := str_at (ss := ss) (k := k) (by have := hlen.out; omega)
      have hcell := hc k x hx
      have hcell' := hc' k x hx
      have HH := Lib.hid H
      have HH' := Lib.hid H'
      clear hc hc' hx H H'
      go_wp2_with fail
      go_quiet (fail)
      go_wp2_with fail
      go_roundw
      case rel => exact ⟨k + 1, _, by omega, by go_num, rfl⟩
      case measure => simp [intOf]; omega
    · clear H H'
      go_wp2_with fail
      go_ret
      exact ⟨rfl, below_drewN (Below.refl _ _) _⟩
end Go.Proofs.Ytimjjednfhnbbaa
