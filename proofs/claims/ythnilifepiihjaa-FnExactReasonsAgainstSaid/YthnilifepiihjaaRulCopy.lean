/-
  Rules among the arguments of a law: how a law copies and compares them.
  Conditions: each lemma names its own.
-/
import Derived.Test.YthnilifepiihjaaRulArg
namespace Go.Proofs.Ythnilifepiihjaa
open Go.RowKit
set_option linter.unusedVariables false

theorem own_cell {w : World} {base g n c : Nat} {e : TypeId} {xs : List Value} (h : w.ownsRow base e 5 (.slice (some ⟨g, 0, none⟩) n c) n xs) (j : Nat) (hj : j < n * 5) : (∃ u, w.cell? ⟨g, j, none⟩ = some u) ∧ w.frozen? ⟨g, j, none⟩ = false :=
  ⟨⟨xs[j]'(by rw [h.1]; exact hj), by rw [h.cellAt j hj]; exact List.getElem?_eq_getElem _⟩, h.frozenAt j⟩
theorem grown_set (w : World) (g j : Nat) (u : Value) : w.grownBy (w.setCell ⟨g, j, none⟩ u) (some g) := by
  have hs : (w.setCell ⟨g, j, none⟩ u).heap.size = w.heap.size := by simp
  exact ⟨rfl, rfl, rfl, by omega, fun i _ hne => Below.heap_setCell w ⟨g, j, none⟩ u i (fun e => hne (by rw [e]))⟩
theorem own_below5 {w w' : World} {base size n : Nat} {e : TypeId} {v : Value} {cs : List Value} (h : w.ownsRow base e size v n cs) (hb : Below w.heap.size w w') : w'.ownsRow base e size v n cs := by
  refine ⟨h.1, ?_⟩
  rcases h.2 with hn | ⟨g, cap, cur, hv, hbg, hg, rest⟩
  · exact .inl hn
  · exact .inr ⟨g, cap, cur, hv, hbg, (hb.block g (Array.getElem?_eq_some_iff.1 hg).1).trans hg, rest⟩
theorem own_set {base n : Nat} {v : Value} {cs : List Value} {w : World} {g j : Nat} {u : Value} {e : TypeId} (h : w.ownsRow base e 1 v n cs) (hg : g < base) : (w.setCell ⟨g, j, none⟩ u).ownsRow base e 1 v n cs := by
  refine h.kept (grown_set w g j u) ?_
  cases hq : v.ownBlock with
  | none => exact .inl rfl
  | some q => exact .inr fun e => by have := (h.lt q hq).1; injection e with e; omega
set_option maxRecDepth 100000 in
set_option maxHeartbeats 2000000 in
theorem toRules_c {v : Value} {r : Rul} {w : World} (h : Ruls w v r) (hz : r.zones.length ≤ 1048576) (hj : r.jobs.length ≤ 1048576) :
    Calls Try.prog 10 #[v] w fun e w' => ∃ v', e = .returned v' ∧ Ruls w' v' r ∧ Below w.heap.size w w' := by
  obtain ⟨vz, vj, rfl, iz, ij⟩ := h
  have eA : (w.alloc (.cells #[.int .i64 r.year, .int .i64 r.least, .int .i64 r.most, vz, vj] 24)).heap.size = w.heap.size + 1 := by simp
  have eZ : ((w.alloc (.cells #[.int .i64 r.year, .int .i64 r.least, .int .i64 r.most, vz, vj] 24)).alloc (.cells #[.int .i64 0, .int .i64 0, .int .i64 0, .slice none 0 0, .slice none 0 0] 33)).heap.size = w.heap.size + 1 + 1 := by simp
  have hA := (rulAt_new w r.year r.least r.most vz vj 24).below ((Below.refl _ _).alloc (Nat.le_refl _) (.cells #[.int .i64 0, .int .i64 0, .int .i64 0, .slice none 0 0, .slice none 0 0] 33))
  replace hA := hA.below ((Below.refl _ _).alloc (Nat.le_refl _) (.cells #[.int .i64 r.year, .int .i64 r.least, .int .i64 r.most, .slice none 0 0, .slice none 0 0] 33))
  have hZ : ((w.alloc (.cells #[.int .i64 r.year, .int .i64 r.least, .int .i64 r.most, vz, vj] 24)).alloc (.cells #[.int .i64 0, .int .i64 0, .int .i64 0, .slice none 0 0, .slice none 0 0] 33)).ownsRow w.heap.size 33 5 (.slice (some ⟨w.heap.size + 1, 0, none⟩) 1 1) 1 [.int .i64 0, .int .i64 0, .int .i64 0, .slice none 0 0, .slice none 0 0] := by
    have := World.ownsRow_lit (base := w.heap.size) (size := 5) (e := 33) (w.alloc (.cells #[.int .i64 r.year, .int .i64 r.least, .int .i64 r.most, vz, vj] 24)) #[.int .i64 0, .int .i64 0, .int .i64 0, .slice none 0 0, .slice none 0 0] 1 (by omega) (by decide) rfl
    rw [eA] at this
    exact this
  replace hZ := hZ.alloc (.cells #[.int .i64 r.year, .int .i64 r.least, .int .i64 r.most, .slice none 0 0, .slice none 0 0] 33)
  have hO : (((w.alloc (.cells #[.int .i64 r.year, .int .i64 r.least, .int .i64 r.most, vz, vj] 24)).alloc (.cells #[.int .i64 0, .int .i64 0, .int .i64 0, .slice none 0 0, .slice none 0 0] 33)).alloc (.cells #[.int .i64 r.year, .int .i64 r.least, .int .i64 r.most, .slice none 0 0, .slice none 0 0] 33)).ownsRow w.heap.size 33 5 (.slice (some ⟨w.heap.size + 1 + 1, 0, none⟩) 1 1) 1 [.int .i64 r.year, .int .i64 r.least, .int .i64 r.most, .slice none 0 0, .slice none 0 0] := by
    have := World.ownsRow_lit (base := w.heap.size) (size := 5) (e := 33) ((w.alloc (.cells #[.int .i64 r.year, .int .i64 r.least, .int .i64 r.most, vz, vj] 24)).alloc (.cells #[.int .i64 0, .int .i64 0, .int .i64 0, .slice none 0 0, .slice none 0 0] 33)) #[.int .i64 r.year, .int .i64 r.least, .int .i64 r.most, .slice none 0 0, .slice none 0 0] 1 (by omega) (by decide) rfl
    rw [eZ] at this
    exact this
  have b0 : Below w.heap.size w (((w.alloc (.cells #[.int .i64 r.year, .int .i64 r.least, .int .i64 r.most, vz, vj] 24)).alloc (.cells #[.int .i64 0, .int .i64 0, .int .i64 0, .slice none 0 0, .slice none 0 0] 33)).alloc (.cells #[.int .i64 r.year, .int .i64 r.least, .int .i64 r.most, .slice none 0 0, .slice none 0 0] 33)) := (((Below.refl _ _).alloc (Nat.le_refl _) _).alloc (by omega) _).alloc (by omega) _
  replace hA := Lib.hid hA
  replace hZ := Lib.hid hZ
  replace hO := Lib.hid hO
  have HZ := Lib.hid (toInt64S_c (iz.below b0) hz)
  have HJ := Lib.hid (fun (w' : World) (b : Below w.heap.size w w') => toInt64S_c (ij.below b) hj)
  replace hz := Lib.hid hz
  replace hj := Lib.hid hj
  clear eA eZ iz ij
  have HR : Hid (∀ (w' : World) (u u' : Value), Ints w' u r.zones → Ints w' u' r.jobs → Ruls w' (.agg #[.int .i64 r.year, .int .i64 r.least, .int .i64 r.most, u, u']) r) := Lib.hid fun w' u u' h1 h2 => ⟨_, _, rfl, h1, h2⟩
  generalize r.year = y at *
  generalize r.least = l at *
  generalize r.most = m at *
  go_enter Try.func10, Try.ntmps10
  go_wp2_with fail
  refine HZ.out.mono ?_
  rintro e w1 ⟨uz, rfl, hu, b1⟩
  obtain ⟨au, nu, cu, hue, _⟩ := (Ints.own hu).parts
  subst hue
  have hu1 : Hid (w1.ownsRow (w.heap.size + 3) 2 1 (.slice au nu cu) r.zones.length (r.zones.map (Value.int .i64))) := Lib.hid (by
    refine own_mono hu ?_
    simp)
  obtain ⟨hbb, c0, c1, c2, c3, c4⟩ := hA.out.below b1
  have o1 := own_below5 hO.out b1
  have z1 := own_below5 hZ.out b1
  obtain ⟨⟨x3, hx3⟩, f3⟩ := own_cell o1 3 (by omega)
  have o2 := Lib.hid (o1.stored 3 (.slice au nu cu)).1
  have z2 := Lib.hid (z1.kept (grown_set w1 (w.heap.size + 1 + 1) 3 (.slice au nu cu)) (.inr (by simp [Value.ownBlock])))
  have hu2 := Lib.hid (own_set (g := w.heap.size + 1 + 1) (j := 3) (u := .slice au nu cu) hu1.out (by omega))
  replace b0 := (below_next b0 (Nat.le_refl _) b1)
  have b2 := b0.setCell (p := ⟨w.heap.size + 1 + 1, 3, none⟩) (by simp; omega) (.slice au nu cu)
  have hs2 : w.heap.size + 3 ≤ w1.heap.size := by
    have := b1.size
    simp at this
    omega
  clear o1 z1 hu hu1
  go_wp2_with fail
  refine (HJ.out _ b2).mono ?_
  rintro e w2 ⟨uj, rfl, hv, b3⟩
  obtain ⟨av, nv, cv, hve, _⟩ := (Ints.own hv).parts
  subst hve
  have hv1 : Hid (w2.ownsRow (w.heap.size + 3) 2 1 (.slice av nv cv) r.jobs.length (r.jobs.map (Value.int .i64))) := Lib.hid (by
    refine own_mono hv ?_
    simp
    omega)
  have o3 := own_below5 o2.out b3
  have z3 := own_below5 z2.out b3
  have hu3 := Lib.hid (own_below5 hu2.out b3)
  obtain ⟨⟨x4, hx4⟩, f4⟩ := own_cell o3 4 (by omega)
  have o4 := (o3.stored 4 (.slice av nv cv)).1
  have z4 := z3.kept (grown_set w2 (w.heap.size + 1 + 1) 4 (.slice av nv cv)) (.inr (by simp [Value.ownBlock]))
  have hu4 := Lib.hid (own_set (g := w.heap.size + 1 + 1) (j := 4) (u := .slice av nv cv) hu3.out (by omega))
  have hv4 := Lib.hid (own_set (g := w.heap.size + 1 + 1) (j := 4) (u := .slice av nv cv) hv1.out (by omega))
  replace b2 := (below_next b2 (Nat.le_refl _) b3)
  have b4 := b2.setCell (p := ⟨w.heap.size + 1 + 1, 4, none⟩) (by simp; omega) (.slice av nv cv)
  have d0 := o4.cellAt 0 (by omega)
  have d1 := o4.cellAt 1 (by omega)
  have d2 := o4.cellAt 2 (by omega)
  have d3 := o4.cellAt 3 (by omega)
  have d4 := o4.cellAt 4 (by omega)
  simp only [List.set_cons_succ, List.set_cons_zero, List.getElem?_cons_zero, List.getElem?_cons_succ] at d0 d1 d2 d3 d4
  obtain ⟨⟨t0, ht0⟩, q0⟩ := own_cell z4 0 (by omega)
  have z5 := (z4.stored 0 (.int .i64 y)).1
  obtain ⟨⟨t1, ht1⟩, q1⟩ := own_cell z5 1 (by omega)
  have z6 := (z5.stored 1 (.int .i64 l)).1
  obtain ⟨⟨t2, ht2⟩, q2⟩ := own_cell z6 2 (by omega)
  have z7 := (z6.stored 2 (.int .i64 m)).1
  obtain ⟨⟨t3, ht3⟩, q3⟩ := own_cell z7 3 (by omega)
  have z8 := (z7.stored 3 (.slice au nu cu)).1
  obtain ⟨⟨t4, ht4⟩, q4⟩ := own_cell z8 4 (by omega)
  have z9 := (z8.stored 4 (.slice av nv cv)).1
  have r0 := z5.cellAt 0 (by omega)
  have r1 := z6.cellAt 1 (by omega)
  have r2 := z7.cellAt 2 (by omega)
  have r3 := z8.cellAt 3 (by omega)
  have r4 := z9.cellAt 4 (by omega)
  simp only [List.set_cons_succ, List.set_cons_zero, List.getElem?_cons_zero, List.getElem?_cons_succ] at r0 r1 r2 r3 r4
  have hu9 := Lib.hid (own_set (g := w.heap.size + 1) (j := 4) (u := .slice av nv cv) (own_set (g := w.heap.size + 1) (j := 3) (u := .slice au nu cu) (own_set (g := w.heap.size + 1) (j := 2) (u := .int .i64 m) (own_set (g := w.heap.size + 1) (j := 1) (u := .int .i64 l) (own_set (g := w.heap.size + 1) (j := 0) (u := .int .i64 y) (hu4.out) (by omega)) (by omega)) (by omega)) (by omega)) (by omega))
  have hv9 := Lib.hid (own_set (g := w.heap.size + 1) (j := 4) (u := .slice av nv cv) (own_set (g := w.heap.size + 1) (j := 3) (u := .slice au nu cu) (own_set (g := w.heap.size + 1) (j := 2) (u := .int .i64 m) (own_set (g := w.heap.size + 1) (j := 1) (u := .int .i64 l) (own_set (g := w.heap.size + 1) (j := 0) (u := .int .i64 y) (hv4.out) (by omega)) (by omega)) (by omega)) (by omega)) (by omega))
  have b9 := (((((b4).setCell (p := ⟨w.heap.size + 1, 0, none⟩) (by simp) (.int .i64 y)).setCell (p := ⟨w.heap.size + 1, 1, none⟩) (by simp) (.int .i64 l)).setCell (p := ⟨w.heap.size + 1, 2, none⟩) (by simp) (.int .i64 m)).setCell (p := ⟨w.heap.size + 1, 3, none⟩) (by simp) (.slice au nu cu)).setCell (p := ⟨w.heap.size + 1, 4, none⟩) (by simp) (.slice av nv cv)
  clear o3 z3 o4 z4 z5 z6 z7 z8 z9 b4 hv hv1 hu3 c0 c1 c2 c3 hx3 f3
  go_wp2_with fail
  refine bodyPost_ret (v := .agg #[.int .i64 y, .int .i64 l, .int .i64 m, .slice au nu cu, .slice av nv cv]) (by simp [results, Try.results10, go_sem, r0, r1, r2, r3, r4]; try rfl) rfl ?_
  exact ⟨_, rfl, HR.out _ _ _ (Ints.own hu9.out) (Ints.own hv9.out), b9⟩
theorem eqI_same {v u : Value} {xs : List Int} {w : World} (h : Ints w v xs) (g : Ints w u xs) :
    Calls Try.prog 64 #[v, u] w fun e w' => e = .returned (.bool true) ∧ Below w.heap.size w w' :=
  (eqInt64S_c h g).mono fun _ _ ⟨he, m, hw⟩ => ⟨by rw [he]; simp, by rw [hw]; exact below_drewN (Below.refl _ _) m⟩
set_option maxRecDepth 100000 in
set_option maxHeartbeats 2000000 in
theorem eqRules_same {v u : Value} {r : Rul} {w : World} (h : Ruls w v r) (g : Ruls w u r) :
    Calls Try.prog 13 #[v, u] w fun e w' => e = .returned (.bool true) ∧ Below w.heap.size w w' := by
  obtain ⟨vz, vj, rfl, hz, hj⟩ := h
  obtain ⟨uz, uj, rfl, gz, gj⟩ := g
  have eA : (w.alloc (.cells #[.int .i64 r.year, .int .i64 r.least, .int .i64 r.most, vz, vj] 33)).heap.size = w.heap.size + 1 := by simp
  have hA := (rulAt_new w r.year r.least r.most vz vj 33).below ((Below.refl _ _).alloc (Nat.le_refl _) (.cells #[.int .i64 r.year, .int .i64 r.least, .int .i64 r.most, uz, uj] 33))
  have hB := rulAt_new (w.alloc (.cells #[.int .i64 r.year, .int .i64 r.least, .int .i64 r.most, vz, vj] 33)) r.year r.least r.most uz uj 33
  rw [eA] at hB
  have b0 : Below w.heap.size w ((w.alloc (.cells #[.int .i64 r.year, .int .i64 r.least, .int .i64 r.most, vz, vj] 33)).alloc (.cells #[.int .i64 r.year, .int .i64 r.least, .int .i64 r.most, uz, uj] 33)) := ((Below.refl _ _).alloc (Nat.le_refl _) _).alloc (by omega) _
  replace hA := Lib.hid hA
  replace hB := Lib.hid hB
  have HZ := Lib.hid (eqI_same (hz.below b0) (gz.below b0))
  have HJ := Lib.hid (fun (w' : World) (b : Below w.heap.size w w') => eqI_same (hj.below b) (gj.below b))
  clear eA hz hj gz gj
  generalize r.year = y at *
  generalize r.least = l at *
  generalize r.most = m at *
  go_enter Try.func13, Try.ntmps13
  go_wp2_with fail
  refine HZ.out.mono ?_
  rintro e w1 ⟨rfl, b1⟩
  obtain ⟨hbb, c0, c1, c2, c3, c4⟩ := hA.out.below b1
  obtain ⟨hbb2, d0, d1, d2, d3, d4⟩ := hB.out.below b1
  replace b0 := below_next b0 (Nat.le_refl _) b1
  go_wp2_with fail
  refine (HJ.out _ b0).mono ?_
  rintro e w2 ⟨rfl, b2⟩
  replace b0 := below_next b0 (Nat.le_refl _) b2
  clear c0 c1 c2 c3 c4 d0 d1 d2 d3 d4
  go_wp2_with fail
  go_ret
  exact ⟨rfl, b0⟩
end Go.Proofs.Ythnilifepiihjaa
