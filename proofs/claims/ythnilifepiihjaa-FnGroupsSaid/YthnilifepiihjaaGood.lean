/-
  A person drawn: l04Good.
  Conditions: each lemma names its own.
-/
import Derived.Test.YthnilifepiihjaaDmg
import Derived.Test.YthnilifepiihjaaPerArg
namespace Go.Proofs.Ythnilifepiihjaa
open Go.RowKit
set_option linter.unusedVariables false

/-- The cell of a result that is a person. -/
def RcAt (w : World) (b : Nat) : Prop := w.heap[b]? = some (.cells #[.int .i64 0, .string ⟨#[]⟩, .string ⟨#[]⟩, .int .i64 0, .int .i64 0] 35)
theorem RcAt.past {w w' : World} {b g : Nat} (h : RcAt w b) (hp : Past g w w') (hne : b ≠ g) : RcAt w' b := (hp.block b (Array.getElem?_eq_some_iff.1 h).1 (by intro e; injection e with e; exact hne e)).trans h
theorem RcAt.per {w : World} {b : Nat} (h : RcAt w b) : PerAt w b ⟨0, ⟨#[]⟩, ⟨#[]⟩, 0, 0⟩ := by
  refine ⟨(Array.getElem?_eq_some_iff.1 h).1, ?_, ?_, ?_, ?_, ?_⟩ <;> rw [cell_of_row _ _ _ _ _ _ h] <;> rfl
theorem RcAt.free {w : World} {b : Nat} (h : RcAt w b) (j : Nat) : w.frozen? ⟨b, j, none⟩ = false := by
  unfold World.frozen?
  rw [show w.heap[(⟨b, j, none⟩ : Addr).block]? = _ from h]
  simp
/-- A person stored, cell by cell. -/
def stPer (w : World) (b : Nat) (p : Per) : World := ((((w.setCell ⟨b, 0, none⟩ (.int .i64 p.number)).setCell ⟨b, 1, none⟩ (.string p.first)).setCell ⟨b, 2, none⟩ (.string p.last)).setCell ⟨b, 3, none⟩ (.int .i64 p.born)).setCell ⟨b, 4, none⟩ (.int .i64 p.zone)
theorem stPer_at {w : World} {b : Nat} {q : Per} (p : Per) (h : PerAt w b q) : PerAt (stPer w b p) b p := by
  obtain ⟨h0, h1, h2, h3, h4, h5⟩ := h
  have ne : ∀ i j : Nat, i ≠ j → (⟨b, i, none⟩ : Addr) ≠ ⟨b, j, none⟩ := fun i j hij e => by injection e with _ e; exact hij e
  unfold stPer
  refine ⟨by simp [World.setCell]; exact h0, ?_, ?_, ?_, ?_, ?_⟩
  · rw [World.cell?_setCell_other (h := ne 4 0 (by decide)), World.cell?_setCell_other (h := ne 3 0 (by decide)), World.cell?_setCell_other (h := ne 2 0 (by decide)), World.cell?_setCell_other (h := ne 1 0 (by decide)), World.cell?_setCell_same (h := h1)]
  · rw [World.cell?_setCell_other (h := ne 4 1 (by decide)), World.cell?_setCell_other (h := ne 3 1 (by decide)), World.cell?_setCell_other (h := ne 2 1 (by decide)), World.cell?_setCell_same (u := .string q.first) (h := by rw [World.cell?_setCell_other (h := ne 0 1 (by decide)), h2])]
  · rw [World.cell?_setCell_other (h := ne 4 2 (by decide)), World.cell?_setCell_other (h := ne 3 2 (by decide)), World.cell?_setCell_same (u := .string q.last) (h := by rw [World.cell?_setCell_other (h := ne 1 2 (by decide)), World.cell?_setCell_other (h := ne 0 2 (by decide)), h3])]
  · rw [World.cell?_setCell_other (h := ne 4 3 (by decide)), World.cell?_setCell_same (u := .int .i64 q.born) (h := by rw [World.cell?_setCell_other (h := ne 2 3 (by decide)), World.cell?_setCell_other (h := ne 1 3 (by decide)), World.cell?_setCell_other (h := ne 0 3 (by decide)), h4])]
  · rw [World.cell?_setCell_same (u := .int .i64 q.zone) (h := by rw [World.cell?_setCell_other (h := ne 3 4 (by decide)), World.cell?_setCell_other (h := ne 2 4 (by decide)), World.cell?_setCell_other (h := ne 1 4 (by decide)), World.cell?_setCell_other (h := ne 0 4 (by decide)), h5])]
theorem stPer_below {B b : Nat} {a w : World} (p : Per) (h : Below B a w) (hb : B ≤ b) : Below B a (stPer w b p) := by
  unfold stPer
  exact ((((h.setCell (p := ⟨b, 0, none⟩) hb _).setCell (p := ⟨b, 1, none⟩) hb _).setCell (p := ⟨b, 2, none⟩) hb _).setCell (p := ⟨b, 3, none⟩) hb _).setCell (p := ⟨b, 4, none⟩) hb _
/-- What is set behind the source's and the older blocks lets the source stand, and what was there. -/
theorem stPer_src {B g b : Nat} {w0 w : World} (p : Per) (h : Src B g w) (hp : Past g w0 w) (hgb : g < b) (hb : w0.heap.size ≤ b) : Src B g (stPer w b p) ∧ Past g w0 (stPer w b p) := by
  have h1 : Below b w (stPer w b p) := stPer_below p (Below.refl _ _) (Nat.le_refl _)
  have hlt := h.lt
  refine ⟨?_, ⟨h1.os.trans hp.os, h1.tape.trans hp.tape, h1.output.trans hp.output, Nat.le_trans hp.size h1.size, fun k hk hn => (h1.block k (by omega)).trans (hp.block k hk hn)⟩⟩
  obtain ⟨hB, u, bs, i, s, a1, a2, a3⟩ := h
  exact ⟨hB, u, bs, i, s, a1.of_block (h1.block g hgb), a2.below (h1.mono (by omega)), a3⟩
/-- A person as they are drawn. -/
def GoodP (p : Per) : Prop := (1 ≤ p.number ∧ p.number ≤ 60) ∧ p.first.size ≤ 32 ∧ p.last.size ≤ 32 ∧ (1970 ≤ p.born ∧ p.born ≤ 1980) ∧ 0 ≤ p.zone ∧ p.zone ≤ 2
/-- The facts of the slots. -/
def godF (g : Nat) (i : Nat) (w : World) (v : Value) : Prop :=
  match i with
  | 0 => v = .pointer (some ⟨g, 0, none⟩)
  | 3 => v = .pointer (some ⟨g, 0, none⟩)
  | 7 => v = .pointer (some ⟨g, 0, none⟩)
  | 12 => v = .pointer (some ⟨g, 0, none⟩)
  | 16 => v = .pointer (some ⟨g, 0, none⟩)
  | 19 => v = .pointer (some ⟨g, 0, none⟩)
  | 24 => v = .pointer (some ⟨g, 0, none⟩)
  | 4 => NumOf 0 59 v
  | 5 => NumOf 1 60 v
  | 6 => LitAt g 5 w v
  | 8 => NumOf 0 4 v
  | 9 => TextAt g w v
  | 10 => TextOf 32 v
  | 11 => LitAt g 5 w v
  | 13 => NumOf 0 4 v
  | 14 => TextAt g w v
  | 15 => TextOf 32 v
  | 17 => NumOf 0 2 v
  | 18 => NumOf 1970 1972 v
  | 20 => NumOf 0 4 v
  | 21 => NumOf 0 1 v
  | 22 => NumOf 0 8 v
  | 23 => NumOf 1970 1980 v
  | 25 => NumOf 0 2 v
  | 26 => ∃ p, v = .agg #[.int .i64 p.number, .string p.first, .string p.last, .int .i64 p.born, .int .i64 p.zone] ∧ GoodP p
  | _ => False
theorem godF_past {g i : Nat} {w w' : World} {v : Value} (h : godF g i w v) (hp : Past g w w') : godF g i w' v := by
  unfold godF at *
  split at h <;> first | exact h | exact LitAt.past h hp | exact TextAt.past h hp
theorem bodyPost_good {b : Nat} {p : Per} {w : World} {tm : Array Value} {R : Ending → World → Prop} (h : PerAt w b p) (hR : R (.returned (perV p)) w) (h2 : tm.getD 2 undef = .pointer (some ⟨b, 0, none⟩) := by rfl) :
    bodyPost Try.prog Try.f95 R .ret ⟨tm, []⟩ w := by
  obtain ⟨h0, c0, c1, c2, c3, c4⟩ := h
  refine bodyPost_ret (v := perV p) ?_ rfl hR
  unfold perV
  simp only [Array.getD_eq_getD_getElem?] at h2
  simp [results, Try.results95, go_sem, h2, c0, c1, c2, c3, c4]
/-- A person is drawn. -/
def GotPer (B g : Nat) (Ok : Per → Prop) (w : World) (e : Ending) (w' : World) : Prop := ∃ p, e = .returned (perV p) ∧ Ok p ∧ Src B g w' ∧ Past g w w'
set_option maxRecDepth 100000 in
set_option maxHeartbeats 16000000 in
theorem l04Good_c {B g : Nat} {w : World} (h : Src B g w) : Calls Try.prog 95 #[.pointer (some ⟨g, 0, none⟩)] w (GotPer B g GoodP w) := by
  have hlt := h.lt
  have h1 := h.alloc (.cells #[.int .i64 0, .string ⟨#[]⟩, .string ⟨#[]⟩, .int .i64 0, .int .i64 0] 35)
  have p1 : Past g w (w.alloc (.cells #[.int .i64 0, .string ⟨#[]⟩, .string ⟨#[]⟩, .int .i64 0, .int .i64 0] 35)) := (Past.refl g w).alloc _
  have RC : RcAt (w.alloc (.cells #[.int .i64 0, .string ⟨#[]⟩, .string ⟨#[]⟩, .int .i64 0, .int .i64 0] 35)) w.heap.size := heap_alloc_new w _
  have hgb : w.heap.size ≠ g := by omega
  clear h
  go_enter Try.func95, Try.ntmps95
  go_wp2_with fail
  refine wp_region_facts (F := godF g) (I := fun w' => Src B g w' ∧ Past g w w' ∧ RcAt w' w.heap.size) (R := Past g) (m := 24) (n := 27) (pre := [0]) (by kernel_rfl) (by kernel_rfl) rfl (by simp) (fun t w w' v h _ hr => godF_past h hr) ⟨h1.drew, p1.drew, RC.past (Past.refl g _).drew hgb⟩ ?_ ?_ ?_
  · simp
    rfl
  · refine (And.intro (step_move (by omega) (by omega) (fun _ _ h => h) (fun _ => Past.refl _ _)) (And.intro ?s4 (And.intro ?s5 (And.intro ?s6 (And.intro (step_move (by omega) (by omega) (fun _ _ h => h) (fun _ => Past.refl _ _)) (And.intro ?s8 (And.intro ?s9 (And.intro ?s10 (And.intro ?s11 (And.intro (step_move (by omega) (by omega) (fun _ _ h => h) (fun _ => Past.refl _ _)) (And.intro ?s13 (And.intro ?s14 (And.intro ?s15 (And.intro (step_move (by omega) (by omega) (fun _ _ h => h) (fun _ => Past.refl _ _)) (And.intro ?s17 (And.intro ?s18 (And.intro (step_move (by omega) (by omega) (fun _ _ h => h) (fun _ => Past.refl _ _)) (And.intro ?s20 (And.intro ?s21 (And.intro ?s22 (And.intro ?s23 (And.intro (step_move (by omega) (by omega) (fun _ _ h => h) (fun _ => Past.refl _ _)) (And.intro ?s25 (And.intro ?s26 trivial))))))))))))))))))))))))
    case s4 =>
        intro f w3 ⟨hS, hP, hR⟩ hF
        simp only [litAll, List.range, List.range.loop, List.map]
        rw [show f 3 = .pointer (some ⟨g, 0, none⟩) from hF 3 (by decide)]
        go_wp2_with fail
        refine (next_c hS 60 (by omega)).mono ?_
        rintro e w4 ⟨r, rfl, ⟨a4, b4, _⟩, h4, p4⟩
        replace b4 := b4 (by omega)
        go_wp2_with fail
        exact ⟨rfl, ⟨r, rfl, a4, by omega⟩, ⟨h4, hP.trans p4, hR.past p4 hgb⟩, p4⟩
    case s5 =>
        intro f w3 ⟨hS, hP, hR⟩ hF
        simp only [litAll, List.range, List.range.loop, List.map]
        obtain ⟨x4, e4, a4, b4⟩ := hF 4 (by decide)
        rw [e4]
        go_wp2_with fail
        exact ⟨rfl, ⟨_, rfl, by omega, by omega⟩, ⟨hS, hP, hR⟩, Past.refl _ _⟩
    case s6 =>
        intro f w3 ⟨hS, hP, hR⟩ hF
        simp only [litAll, List.range, List.range.loop, List.map]
        have hlt3 := hS.lt
        go_wp2_with fail
        exact ⟨rfl, LitAt.new hlt3 rfl (by kernel_rfl), ⟨hS.alloc _, hP.alloc _, hR.past ((Past.refl g _).alloc _) hgb⟩, (Past.refl g _).alloc _⟩
    case s8 =>
        intro f w3 ⟨hS, hP, hR⟩ hF
        simp only [litAll, List.range, List.range.loop, List.map]
        rw [show f 7 = .pointer (some ⟨g, 0, none⟩) from hF 7 (by decide)]
        go_wp2_with fail
        refine (next_c hS 5 (by omega)).mono ?_
        rintro e w4 ⟨r, rfl, ⟨a4, b4, _⟩, h4, p4⟩
        replace b4 := b4 (by omega)
        go_wp2_with fail
        exact ⟨rfl, ⟨r, rfl, a4, by omega⟩, ⟨h4, hP.trans p4, hR.past p4 hgb⟩, p4⟩
    case s9 =>
        intro f w3 ⟨hS, hP, hR⟩ hF
        simp only [litAll, List.range, List.range.loop, List.map]
        obtain ⟨b, hl, hb, hbl, hc⟩ := hF 6 (by decide)
        obtain ⟨r, hr0, r0, r1⟩ := hF 8 (by decide)
        rw [hl, hr0]
        have hr : r = ((r.toNat : Nat) : Int) := by omega
        generalize r.toNat = j at *
        subst hr
        have hcj := hc j (by omega)
        clear hc hl hr0
        go_wp2_with fail
        exact ⟨rfl, ⟨b, _, rfl, hb, hcj⟩, ⟨hS, hP, hR⟩, Past.refl _ _⟩
    case s10 =>
        intro f w3 ⟨hS, hP, hR⟩ hF
        simp only [litAll, List.range, List.range.loop, List.map]
        obtain ⟨b, o, hl, hb, u, hu, hul⟩ := hF 9 (by decide)
        rw [hl]
        go_wp2_with fail
        exact ⟨rfl, ⟨u, rfl, hul⟩, ⟨hS, hP, hR⟩, Past.refl _ _⟩
    case s11 =>
        intro f w3 ⟨hS, hP, hR⟩ hF
        simp only [litAll, List.range, List.range.loop, List.map]
        have hlt3 := hS.lt
        go_wp2_with fail
        exact ⟨rfl, LitAt.new hlt3 rfl (by kernel_rfl), ⟨hS.alloc _, hP.alloc _, hR.past ((Past.refl g _).alloc _) hgb⟩, (Past.refl g _).alloc _⟩
    case s13 =>
        intro f w3 ⟨hS, hP, hR⟩ hF
        simp only [litAll, List.range, List.range.loop, List.map]
        rw [show f 12 = .pointer (some ⟨g, 0, none⟩) from hF 12 (by decide)]
        go_wp2_with fail
        refine (next_c hS 5 (by omega)).mono ?_
        rintro e w4 ⟨r, rfl, ⟨a4, b4, _⟩, h4, p4⟩
        replace b4 := b4 (by omega)
        go_wp2_with fail
        exact ⟨rfl, ⟨r, rfl, a4, by omega⟩, ⟨h4, hP.trans p4, hR.past p4 hgb⟩, p4⟩
    case s14 =>
        intro f w3 ⟨hS, hP, hR⟩ hF
        simp only [litAll, List.range, List.range.loop, List.map]
        obtain ⟨b, hl, hb, hbl, hc⟩ := hF 11 (by decide)
        obtain ⟨r, hr0, r0, r1⟩ := hF 13 (by decide)
        rw [hl, hr0]
        have hr : r = ((r.toNat : Nat) : Int) := by omega
        generalize r.toNat = j at *
        subst hr
        have hcj := hc j (by omega)
        clear hc hl hr0
        go_wp2_with fail
        exact ⟨rfl, ⟨b, _, rfl, hb, hcj⟩, ⟨hS, hP, hR⟩, Past.refl _ _⟩
    case s15 =>
        intro f w3 ⟨hS, hP, hR⟩ hF
        simp only [litAll, List.range, List.range.loop, List.map]
        obtain ⟨b, o, hl, hb, u, hu, hul⟩ := hF 14 (by decide)
        rw [hl]
        go_wp2_with fail
        exact ⟨rfl, ⟨u, rfl, hul⟩, ⟨hS, hP, hR⟩, Past.refl _ _⟩
    case s17 =>
        intro f w3 ⟨hS, hP, hR⟩ hF
        simp only [litAll, List.range, List.range.loop, List.map]
        rw [show f 16 = .pointer (some ⟨g, 0, none⟩) from hF 16 (by decide)]
        go_wp2_with fail
        refine (next_c hS 3 (by omega)).mono ?_
        rintro e w4 ⟨r, rfl, ⟨a4, b4, _⟩, h4, p4⟩
        replace b4 := b4 (by omega)
        go_wp2_with fail
        exact ⟨rfl, ⟨r, rfl, a4, by omega⟩, ⟨h4, hP.trans p4, hR.past p4 hgb⟩, p4⟩
    case s18 =>
        intro f w3 ⟨hS, hP, hR⟩ hF
        simp only [litAll, List.range, List.range.loop, List.map]
        obtain ⟨x17, e17, a17, b17⟩ := hF 17 (by decide)
        rw [e17]
        go_wp2_with fail
        exact ⟨rfl, ⟨_, rfl, by omega, by omega⟩, ⟨hS, hP, hR⟩, Past.refl _ _⟩
    case s20 =>
        intro f w3 ⟨hS, hP, hR⟩ hF
        simp only [litAll, List.range, List.range.loop, List.map]
        rw [show f 19 = .pointer (some ⟨g, 0, none⟩) from hF 19 (by decide)]
        go_wp2_with fail
        refine (next_c hS 5 (by omega)).mono ?_
        rintro e w4 ⟨r, rfl, ⟨a4, b4, _⟩, h4, p4⟩
        replace b4 := b4 (by omega)
        go_wp2_with fail
        exact ⟨rfl, ⟨r, rfl, a4, by omega⟩, ⟨h4, hP.trans p4, hR.past p4 hgb⟩, p4⟩
    case s21 =>
        intro f w3 ⟨hS, hP, hR⟩ hF
        simp only [litAll, List.range, List.range.loop, List.map]
        obtain ⟨x20, e20, a20, b20⟩ := hF 20 (by decide)
        rw [e20]
        go_wp2_with fail
        exact ⟨rfl, ⟨_, rfl, by omega, by omega⟩, ⟨hS, hP, hR⟩, Past.refl _ _⟩
    case s22 =>
        intro f w3 ⟨hS, hP, hR⟩ hF
        simp only [litAll, List.range, List.range.loop, List.map]
        obtain ⟨x21, e21, a21, b21⟩ := hF 21 (by decide)
        rw [e21]
        go_wp2_with fail
        exact ⟨rfl, ⟨_, rfl, by omega, by omega⟩, ⟨hS, hP, hR⟩, Past.refl _ _⟩
    case s23 =>
        intro f w3 ⟨hS, hP, hR⟩ hF
        simp only [litAll, List.range, List.range.loop, List.map]
        obtain ⟨x18, e18, a18, b18⟩ := hF 18 (by decide)
        obtain ⟨x22, e22, a22, b22⟩ := hF 22 (by decide)
        rw [e18, e22]
        go_wp2_with fail
        exact ⟨rfl, ⟨_, rfl, by omega, by omega⟩, ⟨hS, hP, hR⟩, Past.refl _ _⟩
    case s25 =>
        intro f w3 ⟨hS, hP, hR⟩ hF
        simp only [litAll, List.range, List.range.loop, List.map]
        rw [show f 24 = .pointer (some ⟨g, 0, none⟩) from hF 24 (by decide)]
        go_wp2_with fail
        refine (next_c hS 3 (by omega)).mono ?_
        rintro e w4 ⟨r, rfl, ⟨a4, b4, _⟩, h4, p4⟩
        replace b4 := b4 (by omega)
        go_wp2_with fail
        exact ⟨rfl, ⟨r, rfl, a4, by omega⟩, ⟨h4, hP.trans p4, hR.past p4 hgb⟩, p4⟩
    case s26 =>
        intro f w3 ⟨hS, hP, hR⟩ hF
        simp only [litAll, List.range, List.range.loop, List.map]
        obtain ⟨x5, e5, a5, b5⟩ := hF 5 (by decide)
        obtain ⟨x10, e10, a10⟩ := hF 10 (by decide)
        obtain ⟨x15, e15, a15⟩ := hF 15 (by decide)
        obtain ⟨x23, e23, a23, b23⟩ := hF 23 (by decide)
        obtain ⟨x25, e25, a25, b25⟩ := hF 25 (by decide)
        rw [e5, e10, e15, e23, e25]
        go_wp2_with fail
        exact ⟨rfl, ⟨⟨x5, x10, x15, x23, x25⟩, rfl, ⟨a5, b5⟩, a10, a15, ⟨a23, b23⟩, a25, b25⟩, ⟨hS, hP, hR⟩, Past.refl _ _⟩
  · intro f w3 ⟨h3, p3, R3⟩ hF o ho
    injection ho with ho
    subst ho
    obtain ⟨p, hv, hp⟩ := hF 26 (by decide)
    obtain ⟨r0, r1, r2, r3, r4, r5⟩ := R3.per
    have RP := R3.per
    have f0 := R3.free 0
    have f1 := R3.free 1
    have f2 := R3.free 2
    have f3 := R3.free 3
    have f4 := R3.free 4
    obtain ⟨hs1, hs2⟩ := stPer_src p h3 p3 hlt (Nat.le_refl _)
    simp only [dstsOf, List.take, List.filterMap, setSlots, List.foldl, List.set]
    rw [hv]
    clear hF hv
    go_wp2_with fail
    exact bodyPost_good (stPer_at p RP) ⟨p, rfl, hp, hs1, hs2⟩
end Go.Proofs.Ythnilifepiihjaa
