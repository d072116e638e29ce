/-
  Persons among the arguments of a law: what is read is a person's five cells.
  Conditions: none of its own.
-/
import Derived.Test.YthnilifepiihjaaPer
import Derived.ShutString
import Derived.Deep.Slices
import Derived.Deep.Fields
import Derived.ChangeSame
namespace Go.Proofs.Ythnilifepiihjaa
open Go.RowKit Go.ChangeShapes Go.WideShapes Go.Deep

section
variable {H : Type} {enc : TypeId × Value → H} {w : World} {sp : Nat → Bool} {held : Bool}
theorem cells_i64 : Try.prog.cellsOf 2 = 1 := by kernel_rfl
theorem cells_str : Try.prog.cellsOf 9 = 1 := by kernel_rfl
theorem cells_per : Try.prog.cellsOf 26 = 5 := by kernel_rfl
theorem cells_iper : Try.prog.cellsOf 35 = 5 := by kernel_rfl

set_option maxRecDepth 100000 in
theorem per_of_cells {fuel : Nat} {cs : List Value} {x : DataW H × List MemPlace} (h : DataW.trod enc Try.prog w 0 sp held fuel 26 cs = some x) : ∃ p, cs = perC p ∧ PerFit p := by
  obtain ⟨xs, n, _, _, hlen, hx, hg⟩ := DataW.trod_struct Try.underlying26 h
  have hl : cs.length = 5 := hlen.trans cells_per
  match cs, hl, xs, hx with
  | [c0, c1, c2, c3, c4], _, [y0, y1, y2, y3, y4], _ =>
    have g0 := hg 0 _ rfl
    have g1 := hg 1 _ rfl
    have g2 := hg 2 _ rfl
    have g3 := hg 3 _ rfl
    have g4 := hg 4 _ rfl
    simp only [List.getElem?_cons_zero, List.getElem?_cons_succ] at g0 g1 g2 g3 g4
    obtain ⟨n0, e0, _, w0⟩ := DataW.trod_int Try.underlying2 g0
    obtain ⟨s1, e1, _, w1⟩ := DataW.trod_string Try.underlying9 g1
    obtain ⟨s2, e2, _, w2⟩ := DataW.trod_string Try.underlying9 g2
    obtain ⟨n3, e3, _, w3⟩ := DataW.trod_int Try.underlying2 g3
    obtain ⟨n4, e4, _, w4⟩ := DataW.trod_int Try.underlying2 g4
    injection e0 with e0
    injection e1 with e1
    injection e2 with e2
    injection e3 with e3
    injection e4 with e4
    subst e0 e1 e2 e3 e4
    unfold maxLen at w1 w2
    exact ⟨⟨n0, s1, s2, n3, n4⟩, rfl, ⟨bounds_i64 w0, by simpa using w1, by simpa using w2, bounds_i64 w3, bounds_i64 w4⟩⟩

set_option maxRecDepth 100000 in
theorem person_of_trod {v : Value} {d : DataW H} {ps : List MemPlace} (hv : Value.okWide Try.prog w .any 0 26 v) (h : DataW.Trod enc Try.prog w 0 sp held 26 v d ps) : ∃ p, v = perV p ∧ PerFit p := by
  obtain ⟨cs, rfl, hsz⟩ := okWide_struct Try.underlying26 hv
  obtain ⟨fuel, hf⟩ := h
  obtain ⟨p, hp, hfit⟩ := per_of_cells hf
  refine ⟨p, ?_, hfit⟩
  obtain ⟨l⟩ := cs
  simp only [Value.cells] at hp
  unfold perV
  unfold perC at hp
  rw [← show l = _ from hp]
end

/-- What is left of a purse when a person's texts are paid for; -1 if it does not last. -/
def szP (left : Int) (p : Per) : Int := if left - p.first.size < 0 then -1 else if left - p.first.size - p.last.size < 0 then -1 else left - p.first.size - p.last.size
theorem szPerson_c (p : Per) (hp : PerFit p) (left : Int) (h0 : 0 ≤ left) (h1 : left ≤ 1048576) (w : World) :
    Calls Try.prog 56 #[perV p, .int .i64 left] w fun e w' => e = .returned (.int .i64 (szP left p)) ∧ Below w.heap.size w w' := by
  have hf := hp.first
  have hl := hp.last
  clear hp
  unfold perV
  by_cases q1 : left - p.first.size < 0
  · have HB : Hid (szP left p = -1) := Lib.hid (by unfold szP; rw [if_pos q1])
    go_enter Try.func56, Try.ntmps56
    go_wp2_with fail
    go_ret
    exact ⟨ri HB.out.symm, (Below.refl _ _).alloc (Nat.le_refl _) _⟩
  · by_cases q2 : left - p.first.size - p.last.size < 0
    · have HB : Hid (szP left p = -1) := Lib.hid (by unfold szP; rw [if_neg q1, if_pos q2])
      go_enter Try.func56, Try.ntmps56
      go_wp2_with fail
      go_ret
      exact ⟨ri HB.out.symm, (Below.refl _ _).alloc (Nat.le_refl _) _⟩
    · have HB : Hid (szP left p = left - p.first.size - p.last.size) := Lib.hid (by unfold szP; rw [if_neg q1, if_neg q2])
      go_enter Try.func56, Try.ntmps56
      go_wp2_with fail
      go_ret
      exact ⟨ri HB.out.symm, (Below.refl _ _).alloc (Nat.le_refl _) _⟩
theorem szP_bd (left : Int) (p : Per) : -1 ≤ szP left p ∧ szP left p ≤ max left (-1) := by
  unfold szP
  split
  · omega
  · split <;> omega
/-- Block b holds the person p. -/
def PerAt (w : World) (b : Nat) (p : Per) : Prop :=
  b < w.heap.size ∧ w.cell? ⟨b, 0, none⟩ = some (.int .i64 p.number) ∧ w.cell? ⟨b, 1, none⟩ = some (.string p.first) ∧ w.cell? ⟨b, 2, none⟩ = some (.string p.last) ∧ w.cell? ⟨b, 3, none⟩ = some (.int .i64 p.born) ∧ w.cell? ⟨b, 4, none⟩ = some (.int .i64 p.zone)
theorem perAt_new (w : World) (p : Per) (e : TypeId) : PerAt (w.alloc (.cells #[.int .i64 p.number, .string p.first, .string p.last, .int .i64 p.born, .int .i64 p.zone] e)) w.heap.size p := by
  have hg := heap_alloc_new w (.cells #[.int .i64 p.number, .string p.first, .string p.last, .int .i64 p.born, .int .i64 p.zone] e)
  refine ⟨by simp, ?_, ?_, ?_, ?_, ?_⟩ <;> rw [cell_of_row _ _ _ _ _ _ hg] <;> rfl
theorem PerAt.below {w w' : World} {b : Nat} {p : Per} (h : PerAt w b p) (hb : Below w.heap.size w w') : PerAt w' b p := by
  obtain ⟨h0, h1, h2, h3, h4, h5⟩ := h
  exact ⟨Nat.lt_of_lt_of_le h0 hb.size, (hb.cell (p := ⟨b, 0, none⟩) h0).trans h1, (hb.cell (p := ⟨b, 1, none⟩) h0).trans h2, (hb.cell (p := ⟨b, 2, none⟩) h0).trans h3, (hb.cell (p := ⟨b, 3, none⟩) h0).trans h4, (hb.cell (p := ⟨b, 4, none⟩) h0).trans h5⟩
theorem PerAt.alloc {w : World} {b : Nat} {p : Per} (h : PerAt w b p) (o : Obj) : PerAt (w.alloc o) b p := h.below ((Below.refl _ _).alloc (Nat.le_refl _) o)
theorem PerAt.drewN {w : World} {b : Nat} {p : Per} (h : PerAt w b p) (m : Nat) : PerAt (w.drewN m) b p := h
theorem toPerson_l (p : Per) (w : World) : Calls Try.prog 60 #[.agg #[.int .i64 p.number, .string p.first, .string p.last, .int .i64 p.born, .int .i64 p.zone]] w fun e w' => e = .returned (perV p) ∧ Below w.heap.size w w' := toPerson_c p w
end Go.Proofs.Ythnilifepiihjaa
