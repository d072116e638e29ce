/-
  The copy that a law makes of a slice of persons.
  Conditions: each lemma names its own.
-/
import Derived.Test.YtehfhpedpdofkaaPersArgs
namespace Go.Proofs.Ytehfhpedpdofkaa
open Go.RowKit

theorem info_iper : (Try.prog.info? 56).map (fun i => (i.zero, i.size, i.bytes)) = some (some (.agg #[.int .i64 0, .string ByteArray.empty, .string ByteArray.empty, .int .i64 0, .int .i64 0]), 5, 56) := by kernel_rfl

/-- What slice v in world w1 is once the first k persons of ps are copied. -/
def CopiedP (w0 w1 : World) (v : Value) (ps : List Per) (k : Nat) : Prop :=
  ∃ zs : List Value, zs.length = ps.length * 5 ∧ w1.ownsRow w0.heap.size 56 5 v ps.length ((ps.take k).flatMap perC ++ zs.drop (k * 5))
theorem set_mid5 (ps : List Per) (zs : List Value) (k : Nat) (p : Per) (hx : ps[k]? = some p) (hz : zs.length = ps.length * 5) :
    ((((((ps.take k).flatMap perC ++ zs.drop (k * 5)).set (k * 5) (.int .i64 p.number)).set (k * 5 + 1) (.string p.first)).set (k * 5 + 2) (.string p.last)).set (k * 5 + 3) (.int .i64 p.born)).set (k * 5 + 4) (.int .i64 p.zone) = (ps.take (k + 1)).flatMap perC ++ zs.drop ((k + 1) * 5) := by
  have hk : k < ps.length := (List.getElem?_eq_some_iff.1 hx).1
  have hl : ((ps.take k).flatMap perC).length = k * 5 := by rw [flat_len, List.length_take]; congr 1; omega
  have hd : 5 ≤ (zs.drop (k * 5)).length := by rw [List.length_drop]; omega
  have e : zs.drop ((k + 1) * 5) = (zs.drop (k * 5)).drop 5 := by rw [List.drop_drop]; congr 1; omega
  rw [e]
  generalize zs.drop (k * 5) = ys at *
  match ys, hd with
  | y0 :: y1 :: y2 :: y3 :: y4 :: ys, _ =>
    rw [List.set_append_right _ _ (by omega), List.set_append_right _ _ (by omega), List.set_append_right _ _ (by omega), List.set_append_right _ _ (by omega), List.set_append_right _ _ (by omega)]
    rw [hl]
    simp only [Nat.sub_self, Nat.add_sub_cancel_left, List.set_cons_zero, List.set_cons_succ, List.drop_succ_cons, List.drop_zero]
    rw [List.take_add_one, hx]
    simp [perC]

theorem own_cell {w : World} {base g n c : Nat} {e : TypeId} {xs : List Value} (h : w.ownsRow base e 5 (.slice (some ⟨g, 0, none⟩) n c) n xs) (j : Nat) (hj : j < n * 5) : (∃ u, w.cell? ⟨g, j, none⟩ = some u) ∧ w.frozen? ⟨g, j, none⟩ = false :=
  ⟨⟨xs[j]'(by rw [h.1]; exact hj), by rw [h.cellAt j hj]; exact List.getElem?_eq_getElem _⟩, h.frozenAt j⟩
theorem CopiedP.step {w0 w1 : World} {g n c : Nat} {ps : List Per} {k : Nat} {p : Per} (h : CopiedP w0 w1 (.slice (some ⟨g, 0, none⟩) n c) ps k) (hn : ps.length = n) (hx : ps[k]? = some p) :
    ((∃ u, w1.cell? ⟨g, k * 5, none⟩ = some u) ∧ w1.frozen? ⟨g, k * 5, none⟩ = false) ∧ ((∃ u, (w1.setCell ⟨g, k * 5, none⟩ (.int .i64 p.number)).cell? ⟨g, k * 5 + 1, none⟩ = some u) ∧ (w1.setCell ⟨g, k * 5, none⟩ (.int .i64 p.number)).frozen? ⟨g, k * 5 + 1, none⟩ = false) ∧ ((∃ u, ((w1.setCell ⟨g, k * 5, none⟩ (.int .i64 p.number)).setCell ⟨g, k * 5 + 1, none⟩ (.string p.first)).cell? ⟨g, k * 5 + 2, none⟩ = some u) ∧ ((w1.setCell ⟨g, k * 5, none⟩ (.int .i64 p.number)).setCell ⟨g, k * 5 + 1, none⟩ (.string p.first)).frozen? ⟨g, k * 5 + 2, none⟩ = false) ∧ ((∃ u, (((w1.setCell ⟨g, k * 5, none⟩ (.int .i64 p.number)).setCell ⟨g, k * 5 + 1, none⟩ (.string p.first)).setCell ⟨g, k * 5 + 2, none⟩ (.string p.last)).cell? ⟨g, k * 5 + 3, none⟩ = some u) ∧ (((w1.setCell ⟨g, k * 5, none⟩ (.int .i64 p.number)).setCell ⟨g, k * 5 + 1, none⟩ (.string p.first)).setCell ⟨g, k * 5 + 2, none⟩ (.string p.last)).frozen? ⟨g, k * 5 + 3, none⟩ = false) ∧ ((∃ u, ((((w1.setCell ⟨g, k * 5, none⟩ (.int .i64 p.number)).setCell ⟨g, k * 5 + 1, none⟩ (.string p.first)).setCell ⟨g, k * 5 + 2, none⟩ (.string p.last)).setCell ⟨g, k * 5 + 3, none⟩ (.int .i64 p.born)).cell? ⟨g, k * 5 + 4, none⟩ = some u) ∧ ((((w1.setCell ⟨g, k * 5, none⟩ (.int .i64 p.number)).setCell ⟨g, k * 5 + 1, none⟩ (.string p.first)).setCell ⟨g, k * 5 + 2, none⟩ (.string p.last)).setCell ⟨g, k * 5 + 3, none⟩ (.int .i64 p.born)).frozen? ⟨g, k * 5 + 4, none⟩ = false) ∧
    CopiedP w0 (((((w1.setCell ⟨g, k * 5, none⟩ (.int .i64 p.number)).setCell ⟨g, k * 5 + 1, none⟩ (.string p.first)).setCell ⟨g, k * 5 + 2, none⟩ (.string p.last)).setCell ⟨g, k * 5 + 3, none⟩ (.int .i64 p.born)).setCell ⟨g, k * 5 + 4, none⟩ (.int .i64 p.zone)) (.slice (some ⟨g, 0, none⟩) n c) ps (k + 1) := by
  subst hn
  obtain ⟨zs, hz, ho⟩ := h
  have hk : k < ps.length := (List.getElem?_eq_some_iff.1 hx).1
  have o1 := (ho.stored (k * 5) (.int .i64 p.number)).1
  have o2 := (o1.stored (k * 5 + 1) (.string p.first)).1
  have o3 := (o2.stored (k * 5 + 2) (.string p.last)).1
  have o4 := (o3.stored (k * 5 + 3) (.int .i64 p.born)).1
  have o5 := (o4.stored (k * 5 + 4) (.int .i64 p.zone)).1
  refine ⟨own_cell ho _ (by omega), own_cell o1 _ (by omega), own_cell o2 _ (by omega), own_cell o3 _ (by omega), own_cell o4 _ (by omega), zs, hz, ?_⟩
  rw [← set_mid5 ps zs k p hx hz]
  exact o5
theorem CopiedP.below {w0 w1 w2 : World} {v : Value} {ps : List Per} {k : Nat} (h : CopiedP w0 w1 v ps k) (hb : Below w1.heap.size w1 w2) : CopiedP w0 w2 v ps k := by
  obtain ⟨zs, hz, ho⟩ := h
  refine ⟨zs, hz, ho.1, ?_⟩
  rcases ho.2 with hn | ⟨g, cap, cur, hv, hbg, hg, rest⟩
  · exact .inl hn
  · exact .inr ⟨g, cap, cur, hv, hbg, (hb.block g (Array.getElem?_eq_some_iff.1 hg).1).trans hg, rest⟩
set_option maxHeartbeats 1000000 in
theorem toPersonS_c {v : Value} {ps : List Per} {w : World} (h : Persons w v ps) (hn : ps.length ≤ 1048576) :
    Calls Try.prog 13 #[v] w fun e w' => ∃ v', e = .returned v' ∧ w'.ownsRow w.heap.size 56 5 v' ps.length (ps.flatMap perC) ∧ Below w.heap.size w w' := by
  obtain ⟨a, n, c, rfl, H⟩ := h.parts
  have hlen := Lib.hid H.len
  have hcap := H.cap
  have hmost := H.most
  have hn' : n ≤ 1048576 := by have := hlen.out; omega
  unfold maxLen at hmost
  have HP := Lib.hid h
  clear h H
  obtain ⟨i0, hi, hz0, hz1, hz2⟩ := info_parts info_iper
  have hz2' : i0.bytes ≤ 56 := by omega
  have HZ := Lib.hid hz2
  clear hz2
  go_enter Try.func13, Try.ntmps13
  go_wp2_with (first | (at_make; refine wpList_make_full _ rfl _ _ 26 rfl w.heap.size 56 i0 (.agg #[.int .i64 0, .string ByteArray.empty, .string ByteArray.empty, .int .i64 0, .int .i64 0]) 5 Try.underlying26 hi hz0 hz1 _ _ _ _ n rfl rfl rfl rfl ?b2 ?b3 ?b4 ?_))
  case b2 => rw [HZ.out]; omega
  case b3 => unfold maxLen; omega
  case b4 => exact Nat.le_refl _
  intro w1 hown hgrow
  have hbel : Below w.heap.size w w1 := (Below.refl _ _).grown hgrow (Nat.le_refl _) (fun k hk => by cases hk)
  have hcop : CopiedP w w1 (.slice (some ⟨w.heap.size, 0, none⟩) n n) ps 0 := by
    have hl := hlen.out
    subst hl
    have h1 := hown.1
    exact ⟨(madeCells #[.int .i64 0, .string ByteArray.empty, .string ByteArray.empty, .int .i64 0, .int .i64 0] (ps.length * 5)).toList, by simpa using h1, by simpa using hown⟩
  clear hown hgrow hi hz0 hz1
  go_wp2_with fail
  go_loopw [4] (fun i wr => ∃ k : Nat, k ≤ n ∧ i = .int .i64 k ∧ Below w.heap.size w wr ∧ CopiedP w wr (.slice (some ⟨w.heap.size, 0, none⟩) n n) ps k) (fun i _ => n - (intOf i).toNat)
  case atStart => exact ⟨0, Nat.zero_le _, rfl, hbel, hcop⟩
  case round =>
    obtain ⟨k, hk, rfl, hb, hco⟩ := hrel
    rename_i wr
    clear hbel hcop
    by_cases hlt : k < n
    · obtain ⟨p, hx⟩ := per_at (ps := ps) (k := k) (by have := hlen.out; omega)
      obtain ⟨a', n', c', hv, H⟩ := (HP.out.below hb).parts
      injection hv with hv1 hv2 hv3
      subst hv1 hv2 hv3
      obtain ⟨b, o, ha, hbb, hc⟩ := H.cells (by omega)
      subst ha
      obtain ⟨c0, c1, c2, c3, c4⟩ := hc k p hx
      have HX := Lib.hid hx
      clear hc hx H
      go_wp2_with fail
      clear c0 c1 c2 c3 c4
      refine (toPerson_l p _).mono ?_
      rintro e w2 ⟨rfl, b2⟩
      replace hb := below_next hb (Nat.le_refl _) b2
      replace hco := hco.below b2
      obtain ⟨⟨⟨u0, hu0⟩, f0⟩, ⟨⟨u1, hu1⟩, f1⟩, ⟨⟨u2, hu2⟩, f2⟩, ⟨⟨u3, hu3⟩, f3⟩, ⟨⟨u4, hu4⟩, f4⟩, hst⟩ := hco.step hlen.out HX.out
      clear hco
      unfold perV
      go_wp2_with fail
      have hb' := (((((hb.setCell (p := ⟨w.heap.size, k * 5, none⟩) (Nat.le_refl _) (.int .i64 p.number)).setCell (p := ⟨w.heap.size, k * 5 + 1, none⟩) (Nat.le_refl _) (.string p.first)).setCell (p := ⟨w.heap.size, k * 5 + 2, none⟩) (Nat.le_refl _) (.string p.last)).setCell (p := ⟨w.heap.size, k * 5 + 3, none⟩) (Nat.le_refl _) (.int .i64 p.born)).setCell (p := ⟨w.heap.size, k * 5 + 4, none⟩) (Nat.le_refl _) (.int .i64 p.zone))
      clear hu0 hu1 hu2 hu3 hu4 f0 f1 f2 f3 f4
      go_roundw
      case rel => exact ⟨k + 1, by omega, by go_num, hb', hst⟩
      case measure => simp [intOf]; omega
    · have hkn : n ≤ k := by omega
      have HK := Lib.hid hk
      have hfin : wr.ownsRow w.heap.size 56 5 (.slice (some ⟨w.heap.size, 0, none⟩) n n) ps.length (ps.flatMap perC) := by
        obtain ⟨zs, hz, ho⟩ := hco
        have hl := hlen.out
        rw [List.take_of_length_le (by omega), List.drop_eq_nil_of_le (by omega), List.append_nil] at ho
        exact ho
      clear hco
      go_wp2_with fail
      go_ret
      exact ⟨_, rfl, hfin, hb⟩
end Go.Proofs.Ytehfhpedpdofkaa
