/-
  Rules among the arguments of a law: what is read; how a law pays for, copies and compares them.
  Conditions: each lemma names its own.
-/
import Derived.Test.YthnilifepiihjaaRules
import Derived.Test.YthnilifepiihjaaIntsEq
import Derived.Test.YthnilifepiihjaaPerArg
namespace Go.Proofs.Ythnilifepiihjaa
open Go.RowKit Go.ChangeShapes Go.WideShapes Go.Deep
set_option linter.unusedVariables false

section
variable {H : Type} {enc : TypeId × Value → H} {w : World}
theorem cells_sl : Try.prog.cellsOf 22 = 1 := by kernel_rfl
theorem cells_rul : Try.prog.cellsOf 24 = 5 := by kernel_rfl
theorem ints_of_cells {fuel : Nat} {cs : List Value} {y : DataW H × List MemPlace} (hf : DataW.trod enc Try.prog w 0 (fun _ => true) true fuel 22 cs = some y) : ∃ v xs, cs = [v] ∧ Ints w v xs := by
  rcases open_ints Try.underlying22 Try.underlying2 cells_i64 hf with ⟨hcs, _⟩ | ⟨x, l, c, zs, hcs, _, hl, hm, hz, hx, hcell, hwz⟩
  · exact ⟨_, [], hcs, ⟨by simp, none, 0, rfl, Nat.le_refl _, Nat.zero_le _, fun _ => rfl, fun h => absurd h (by simp)⟩⟩
  · refine ⟨_, zs.take l, hcs, ?_⟩
    have hz' : zs.length = c := by simpa using hz
    have hlen : (zs.take l).length = l := by rw [List.length_take]; omega
    refine ⟨by simp, some x, c, by rw [hlen], by rw [hlen]; exact hl, hm, (fun h => by cases h), fun h0 => ?_⟩
    rw [hlen] at h0
    obtain ⟨b, o, sp⟩ := x
    have h1 := hcell 0 (by omega)
    have hsp : sp = none := by simpa [Addr.add] using World.cell?_spot h1
    subst hsp
    refine ⟨b, o, rfl, World.block_lt_of_cell? w _ (by simpa [Addr.add] using h1), fun j u hu => ?_⟩
    rw [List.getElem?_map] at hu
    have hj : j < (zs.take l).length := by
      rcases Nat.lt_or_ge j (zs.take l).length with h | h
      · exact h
      · rw [List.getElem?_eq_none h] at hu; simp at hu
    have h2 := hcell j (by omega)
    rw [Addr.add_lit] at h2
    rw [List.getElem?_eq_getElem hj] at hu
    simp only [Option.map_some, Option.some.injEq] at hu
    rw [← hu, List.getElem_take]
    rw [h2]
    have hjz : j < zs.length := by omega
    simp [List.getD, List.getElem?_eq_getElem hjz]
set_option maxRecDepth 100000 in
theorem rules_of_trod {v : Value} {d : DataW H} {ps : List MemPlace} (hv : Value.okWide Try.prog w .any 0 24 v) (h : DataW.Trod enc Try.prog w 0 (fun _ => true) true 24 v d ps) : ∃ r, Ruls w v r ∧ True := by
  obtain ⟨cs, rfl, hsz⟩ := okWide_struct Try.underlying24 hv
  obtain ⟨fuel, hf⟩ := h
  obtain ⟨xs, n, _, _, hlen, hx, hg⟩ := DataW.trod_struct Try.underlying24 hf
  obtain ⟨l⟩ := cs
  simp only [Value.cells] at hlen hg
  have hl : l.length = 5 := hlen.trans cells_rul
  match l, hl, xs, hx with
  | [c0, c1, c2, c3, c4], _, [y0, y1, y2, y3, y4], _ =>
    have g0 := hg 0 _ rfl
    have g1 := hg 1 _ rfl
    have g2 := hg 2 _ rfl
    have g3 := hg 3 _ rfl
    have g4 := hg 4 _ rfl
    simp only [List.getElem?_cons_zero, List.getElem?_cons_succ] at g0 g1 g2 g3 g4
    obtain ⟨n0, e0, _, w0⟩ := DataW.trod_int Try.underlying2 g0
    obtain ⟨n1, e1, _, w1⟩ := DataW.trod_int Try.underlying2 g1
    obtain ⟨n2, e2, _, w2⟩ := DataW.trod_int Try.underlying2 g2
    obtain ⟨v3, z3, e3, i3⟩ := ints_of_cells g3
    obtain ⟨v4, z4, e4, i4⟩ := ints_of_cells g4
    injection e0 with e0
    injection e1 with e1
    injection e2 with e2
    injection e3 with e3
    injection e4 with e4
    subst e0 e1 e2 e3 e4
    exact ⟨⟨n0, n1, n2, z3, z4⟩, ⟨_, _, rfl, i3, i4⟩, trivial⟩
end
set_option maxHeartbeats 1000000 in
theorem szI_c {v : Value} {xs : List Int} {w : World} (h : Ints w v xs) (left : Int) (h0 : 0 ≤ left) (h1 : left ≤ 1048576) :
    Calls Try.prog 55 #[v, .int .i64 left] w fun e w' => e = .returned (.int .i64 (if left < xs.length then -1 else left - xs.length)) ∧ Below w.heap.size w w' := by
  obtain ⟨a, n, c, rfl, H⟩ := h.parts
  have hlen := H.len
  have hcap := H.cap
  have hmost := H.most
  unfold maxLen at hmost
  rw [hlen]
  clear H hlen h
  by_cases q : left < n
  · rw [if_pos q]
    go_enter Try.func55, Try.ntmps55
    go_wp2_with fail
    go_ret
    exact ⟨rfl, Below.refl _ _⟩
  · rw [if_neg q]
    go_enter Try.func55, Try.ntmps55
    go_wp2_with fail
    go_ret
    exact ⟨rfl, Below.refl _ _⟩
set_option maxHeartbeats 1000000 in
theorem szRules_c {v : Value} {r : Rul} {w : World} (h : Ruls w v r) (left : Int) (h0 : 0 ≤ left) (h1 : left ≤ 1048576) :
    Calls Try.prog 7 #[v, .int .i64 left] w fun e w' => ∃ q, e = .returned (.int .i64 q) ∧ (q = -1 ∨ 0 ≤ q ∧ q ≤ left ∧ r.zones.length ≤ 1048576 ∧ r.jobs.length ≤ 1048576) ∧ Below w.heap.size w w' := by
  obtain ⟨vz, vj, rfl, hz, hj⟩ := h
  have b0 : Below w.heap.size w (w.alloc (.cells #[.int .i64 r.year, .int .i64 r.least, .int .i64 r.most, vz, vj] 24)) := (Below.refl _ _).alloc (Nat.le_refl _) _
  have hA := Lib.hid (rulAt_new w r.year r.least r.most vz vj 24)
  have HZ := Lib.hid (szI_c (hz.below b0) left h0 h1)
  have HJ := Lib.hid (fun (w' : World) (b : Below w.heap.size w w') (l : Int) (p0 : 0 ≤ l) (p1 : l ≤ 1048576) => szI_c (hj.below b) l p0 p1)
  by_cases q : left < r.zones.length
  · rw [if_pos q] at HZ
    go_enter Try.func7, Try.ntmps7
    go_wp2_with fail
    refine HZ.out.mono ?_
    rintro e w1 ⟨rfl, b1⟩
    replace b0 := below_next b0 (Nat.le_refl _) b1
    go_wp2_with fail
    go_ret
    exact ⟨_, rfl, .inl rfl, b0⟩
  · rw [if_neg q] at HZ
    generalize r.zones.length = nz at *
    generalize hnj : r.jobs.length = nj at *
    clear hnj
    by_cases q2 : left - nz < nj
    · go_enter Try.func7, Try.ntmps7
      go_wp2_with fail
      refine HZ.out.mono ?_
      rintro e w1 ⟨rfl, b1⟩
      obtain ⟨hbb, c0, c1, c2, c3, c4⟩ := hA.out.below b1
      replace b0 := below_next b0 (Nat.le_refl _) b1
      go_wp2_with fail
      refine (HJ.out _ b0 (left - nz) (by omega) (by omega)).mono ?_
      rintro e w2 ⟨rfl, b2⟩
      rw [if_pos (by omega)]
      replace b0 := below_next b0 (Nat.le_refl _) b2
      clear c0 c1 c2 c3 c4
      go_wp2_with fail
      go_ret
      exact ⟨_, rfl, .inl rfl, b0⟩
    · go_enter Try.func7, Try.ntmps7
      go_wp2_with fail
      refine HZ.out.mono ?_
      rintro e w1 ⟨rfl, b1⟩
      obtain ⟨hbb, c0, c1, c2, c3, c4⟩ := hA.out.below b1
      replace b0 := below_next b0 (Nat.le_refl _) b1
      go_wp2_with fail
      refine (HJ.out _ b0 (left - nz) (by omega) (by omega)).mono ?_
      rintro e w2 ⟨rfl, b2⟩
      rw [if_neg (by omega)]
      replace b0 := below_next b0 (Nat.le_refl _) b2
      clear c0 c1 c2 c3 c4
      go_wp2_with fail
      go_ret
      exact ⟨_, rfl, .inr ⟨by omega, by omega, by omega, by omega⟩, b0⟩
end Go.Proofs.Ythnilifepiihjaa
