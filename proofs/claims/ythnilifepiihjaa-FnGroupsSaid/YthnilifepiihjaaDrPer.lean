/-
  A person drawn, rarely one that is not as described: l04Draw.
  Conditions: each lemma names its own.
-/
import Derived.Test.YthnilifepiihjaaGood
namespace Go.Proofs.Ythnilifepiihjaa
open Go.RowKit
set_option linter.unusedVariables false

/-- A person's block. -/
def PcAt (w : World) (b : Nat) (p : Per) : Prop := w.heap[b]? = some (.cells #[.int .i64 p.number, .string p.first, .string p.last, .int .i64 p.born, .int .i64 p.zone] 35)
theorem PcAt.past {w w' : World} {b g : Nat} {p : Per} (h : PcAt w b p) (hp : Past g w w') (hne : b ≠ g) : PcAt w' b p := (hp.block b (Array.getElem?_eq_some_iff.1 h).1 (by intro e; injection e with e; exact hne e)).trans h
theorem PcAt.per {w : World} {b : Nat} {p : Per} (h : PcAt w b p) : PerAt w b p := by
  refine ⟨(Array.getElem?_eq_some_iff.1 h).1, ?_, ?_, ?_, ?_, ?_⟩ <;> rw [cell_of_row _ _ _ _ _ _ h] <;> rfl
theorem PcAt.free {w : World} {b : Nat} {p : Per} (h : PcAt w b p) (j : Nat) : w.frozen? ⟨b, j, none⟩ = false := by
  unfold World.frozen?
  rw [show w.heap[(⟨b, j, none⟩ : Addr).block]? = _ from h]
  simp
theorem PerAt.setOther {w : World} {b tb i : Nat} {q : Per} (x : Value) (h : PerAt w b q) (hne : tb ≠ b) : PerAt (w.setCell ⟨tb, i, none⟩ x) b q := by
  obtain ⟨h0, h1, h2, h3, h4, h5⟩ := h
  have ne : ∀ j : Nat, (⟨tb, i, none⟩ : Addr) ≠ ⟨b, j, none⟩ := fun j e => by injection e with e; exact hne e
  exact ⟨by simp [World.setCell]; exact h0, by rw [World.cell?_setCell_other (h := ne 0), h1], by rw [World.cell?_setCell_other (h := ne 1), h2], by rw [World.cell?_setCell_other (h := ne 2), h3], by rw [World.cell?_setCell_other (h := ne 3), h4], by rw [World.cell?_setCell_other (h := ne 4), h5]⟩
theorem set_src {B g b i : Nat} {w0 w : World} (x : Value) (h : Src B g w) (hp : Past g w0 w) (hgb : g < b) (hb : w0.heap.size ≤ b) : Src B g (w.setCell ⟨b, i, none⟩ x) ∧ Past g w0 (w.setCell ⟨b, i, none⟩ x) := by
  have h1 : Below b w (w.setCell ⟨b, i, none⟩ x) := Below.setCell (p := ⟨b, i, none⟩) (Below.refl b w) (Nat.le_refl _) x
  have hlt := h.lt
  refine ⟨?_, ⟨h1.os.trans hp.os, h1.tape.trans hp.tape, h1.output.trans hp.output, Nat.le_trans hp.size h1.size, fun k hk hn => (h1.block k (by omega)).trans (hp.block k hk hn)⟩⟩
  obtain ⟨hB, u, bs, i, s, a1, a2, a3⟩ := h
  exact ⟨hB, u, bs, i, s, a1.of_block (h1.block g hgb), a2.below (h1.mono (by omega)), a3⟩
/-- A person as l04Draw draws them. -/
def DrawP (p : Per) : Prop := (0 ≤ p.number ∧ p.number ≤ 1000001) ∧ p.first.size ≤ 32 ∧ p.last.size ≤ 32 ∧ (1899 ≤ p.born ∧ p.born ≤ 2101) ∧ -1 ≤ p.zone ∧ p.zone ≤ 100
theorem DrawP.fit {p : Per} (h : DrawP p) : PerFit p := by
  obtain ⟨h1, h2, h3, h4, h5⟩ := h
  exact ⟨by omega, by omega, by omega, by omega, by omega⟩
theorem bodyPost_draw {b : Nat} {p : Per} {w : World} {tm : Array Value} {R : Ending → World → Prop} (h : PerAt w b p) (hR : R (.returned (perV p)) w) (h2 : tm.getD 2 undef = .pointer (some ⟨b, 0, none⟩) := by rfl) :
    bodyPost Try.prog Try.f66 R .ret ⟨tm, []⟩ w := by
  obtain ⟨h0, c0, c1, c2, c3, c4⟩ := h
  refine bodyPost_ret (v := perV p) ?_ rfl hR
  unfold perV
  simp only [Array.getD_eq_getD_getElem?] at h2
  simp [results, Try.results66, go_sem, h2, c0, c1, c2, c3, c4]
set_option maxRecDepth 100000 in
set_option maxHeartbeats 16000000 in
theorem l04Draw_c {B g : Nat} {w : World} (h : Src B g w) : Calls Try.prog 66 #[.pointer (some ⟨g, 0, none⟩)] w (GotPer B g DrawP w) := by
  have hlt := h.lt
  have h1 := h.alloc (.cells #[.int .i64 0, .string ⟨#[]⟩, .string ⟨#[]⟩, .int .i64 0, .int .i64 0] 35)
  have p1 : Past g w (w.alloc (.cells #[.int .i64 0, .string ⟨#[]⟩, .string ⟨#[]⟩, .int .i64 0, .int .i64 0] 35)) := (Past.refl g w).alloc _
  have RC : RcAt (w.alloc (.cells #[.int .i64 0, .string ⟨#[]⟩, .string ⟨#[]⟩, .int .i64 0, .int .i64 0] 35)) w.heap.size := heap_alloc_new w _
  have hgb : w.heap.size ≠ g := by omega
  have HG := Lib.hid (l04Good_c h1)
  clear h h1
  go_enter Try.func66, Try.ntmps66
  go_wp2_with fail
  refine HG.out.mono ?_
  rintro e w1 ⟨p, rfl, hp, h1, p2⟩
  have hsz : w.heap.size < w1.heap.size := by have := p2.size; simp at this; omega
  replace RC := RC.past p2 hgb
  replace p1 := p1.trans p2
  have PC : PcAt (w1.alloc (.cells #[.int .i64 p.number, .string p.first, .string p.last, .int .i64 p.born, .int .i64 p.zone] 35)) w1.heap.size p := heap_alloc_new w1 _
  have RC1 : RcAt (w1.alloc (.cells #[.int .i64 p.number, .string p.first, .string p.last, .int .i64 p.born, .int .i64 p.zone] 35)) w.heap.size := RC.past ((Past.refl g w1).alloc _) hgb
  have h2 := h1.alloc (.cells #[.int .i64 p.number, .string p.first, .string p.last, .int .i64 p.born, .int .i64 p.zone] 35)
  have p3 : Past g w (w1.alloc (.cells #[.int .i64 p.number, .string p.first, .string p.last, .int .i64 p.born, .int .i64 p.zone] 35)) := p1.alloc _
  have hlt1 := h1.lt
  have hne : w1.heap.size ≠ w.heap.size := by omega
  have hne' : w.heap.size ≠ w1.heap.size := by omega
  have hgt : w1.heap.size ≠ g := by omega
  have hgt2 : g < w1.heap.size := hlt1
  have hge : w.heap.size ≤ w1.heap.size := by omega
  clear HG RC p2 h1 p1
  unfold perV
  go_wp2_with fail
  generalize (w1.alloc (.cells #[.int .i64 p.number, .string p.first, .string p.last, .int .i64 p.born, .int .i64 p.zone] 35)) = w2 at *
  generalize w1.heap.size = tb at *
  refine (next_c h2 30 (by omega)).mono ?_
  rintro e w3 ⟨r, rfl, _, h3, q3⟩
  replace PC := PC.past q3 hgt
  replace RC1 := RC1.past q3 hgb
  replace p3 := p3.trans q3
  clear q3 h2 hsz hlt1
  obtain ⟨pa, pf, pl, pb, pz⟩ := hp
  rcases (show r = 0 ∨ r = 1 ∨ r = 2 ∨ r = 3 ∨ (r ≠ 0 ∧ r ≠ 1 ∧ r ≠ 2 ∧ r ≠ 3) by omega) with rfl | rfl | rfl | rfl | ⟨q0, q1, q2, q3⟩
  · have HN := Lib.hid (pick_new (T := 2) (cs := #[.int .i64 0, .int .i64 1000000, .int .i64 1000001]) [0, 1000000, 1000001] (0) 1000001 h3 rfl rfl (by simp) (by simp) (by simp))
    go_wp2_with fail
    refine HN.out.mono ?_
    rintro e w4 ⟨x, rfl, x0, x1, hs, q4⟩
    replace PC := PC.past q4 hgt
    replace RC1 := RC1.past q4 hgb
    have ps := p3.trans q4
    clear q4 HN h3 p3
    have RP := RC1.per
    obtain ⟨s1, s2⟩ := set_src (i := 0) (.int .i64 x) hs ps hgt2 hge
    obtain ⟨s3, s4⟩ := stPer_src ⟨x, p.first, p.last, p.born, p.zone⟩ s1 s2 hlt (Nat.le_refl _)
    have RP2 := PerAt.setOther (i := 0) (.int .i64 x) RP hne
    obtain ⟨hr, r0, r1, r2, r3, r4⟩ := RC1.per
    obtain ⟨ht, t0, t1, t2, t3, t4⟩ := PC.per
    have f0 := RC1.free 0
    have f1 := RC1.free 1
    have f2 := RC1.free 2
    have f3 := RC1.free 3
    have f4 := RC1.free 4
    have g0 := PC.free 0
    have g1 := PC.free 1
    have g3 := PC.free 3
    have g4 := PC.free 4
    clear RC1 PC
    go_wp2_with fail
    exact bodyPost_draw (stPer_at ⟨x, p.first, p.last, p.born, p.zone⟩ RP2) ⟨⟨x, p.first, p.last, p.born, p.zone⟩, rfl, ⟨⟨by omega, by omega⟩, pf, pl, ⟨by simp only; omega, by simp only; omega⟩, by simp only; omega, by simp only; omega⟩, s3, s4⟩
  · go_wp2_with fail
    refine (drawWord_c h3).mono ?_
    rintro e w4 ⟨x, rfl, x0, hs, q4⟩
    replace PC := PC.past q4 hgt
    replace RC1 := RC1.past q4 hgb
    have ps := p3.trans q4
    clear q4 h3 p3
    have RP := RC1.per
    obtain ⟨s1, s2⟩ := set_src (i := 1) (.string x) hs ps hgt2 hge
    obtain ⟨s3, s4⟩ := stPer_src ⟨p.number, x, p.last, p.born, p.zone⟩ s1 s2 hlt (Nat.le_refl _)
    have RP2 := PerAt.setOther (i := 1) (.string x) RP hne
    obtain ⟨hr, r0, r1, r2, r3, r4⟩ := RC1.per
    obtain ⟨ht, t0, t1, t2, t3, t4⟩ := PC.per
    have f0 := RC1.free 0
    have f1 := RC1.free 1
    have f2 := RC1.free 2
    have f3 := RC1.free 3
    have f4 := RC1.free 4
    have g0 := PC.free 0
    have g1 := PC.free 1
    have g3 := PC.free 3
    have g4 := PC.free 4
    clear RC1 PC
    go_wp2_with fail
    exact bodyPost_draw (stPer_at ⟨p.number, x, p.last, p.born, p.zone⟩ RP2) ⟨⟨p.number, x, p.last, p.born, p.zone⟩, rfl, ⟨⟨by simp only; omega, by simp only; omega⟩, x0, pl, ⟨by simp only; omega, by simp only; omega⟩, by simp only; omega, by simp only; omega⟩, s3, s4⟩
  · have HN := Lib.hid (pick_new (T := 2) (cs := #[.int .i64 1899, .int .i64 1900, .int .i64 2100, .int .i64 2101]) [1899, 1900, 2100, 2101] (1899) 2101 h3 rfl rfl (by simp) (by simp) (by simp))
    go_wp2_with fail
    refine HN.out.mono ?_
    rintro e w4 ⟨x, rfl, x0, x1, hs, q4⟩
    replace PC := PC.past q4 hgt
    replace RC1 := RC1.past q4 hgb
    have ps := p3.trans q4
    clear q4 HN h3 p3
    have RP := RC1.per
    obtain ⟨s1, s2⟩ := set_src (i := 3) (.int .i64 x) hs ps hgt2 hge
    obtain ⟨s3, s4⟩ := stPer_src ⟨p.number, p.first, p.last, x, p.zone⟩ s1 s2 hlt (Nat.le_refl _)
    have RP2 := PerAt.setOther (i := 3) (.int .i64 x) RP hne
    obtain ⟨hr, r0, r1, r2, r3, r4⟩ := RC1.per
    obtain ⟨ht, t0, t1, t2, t3, t4⟩ := PC.per
    have f0 := RC1.free 0
    have f1 := RC1.free 1
    have f2 := RC1.free 2
    have f3 := RC1.free 3
    have f4 := RC1.free 4
    have g0 := PC.free 0
    have g1 := PC.free 1
    have g3 := PC.free 3
    have g4 := PC.free 4
    clear RC1 PC
    go_wp2_with fail
    exact bodyPost_draw (stPer_at ⟨p.number, p.first, p.last, x, p.zone⟩ RP2) ⟨⟨p.number, p.first, p.last, x, p.zone⟩, rfl, ⟨⟨by simp only; omega, by simp only; omega⟩, pf, pl, ⟨x0, x1⟩, by simp only; omega, by simp only; omega⟩, s3, s4⟩
  · have HN := Lib.hid (pick_new (T := 2) (cs := #[.int .i64 (-1), .int .i64 99, .int .i64 100]) [-1, 99, 100] (-1) 100 h3 rfl rfl (by simp) (by simp) (by simp))
    go_wp2_with fail
    refine HN.out.mono ?_
    rintro e w4 ⟨x, rfl, x0, x1, hs, q4⟩
    replace PC := PC.past q4 hgt
    replace RC1 := RC1.past q4 hgb
    have ps := p3.trans q4
    clear q4 HN h3 p3
    have RP := RC1.per
    obtain ⟨s1, s2⟩ := set_src (i := 4) (.int .i64 x) hs ps hgt2 hge
    obtain ⟨s3, s4⟩ := stPer_src ⟨p.number, p.first, p.last, p.born, x⟩ s1 s2 hlt (Nat.le_refl _)
    have RP2 := PerAt.setOther (i := 4) (.int .i64 x) RP hne
    obtain ⟨hr, r0, r1, r2, r3, r4⟩ := RC1.per
    obtain ⟨ht, t0, t1, t2, t3, t4⟩ := PC.per
    have f0 := RC1.free 0
    have f1 := RC1.free 1
    have f2 := RC1.free 2
    have f3 := RC1.free 3
    have f4 := RC1.free 4
    have g0 := PC.free 0
    have g1 := PC.free 1
    have g3 := PC.free 3
    have g4 := PC.free 4
    clear RC1 PC
    go_wp2_with fail
    exact bodyPost_draw (stPer_at ⟨p.number, p.first, p.last, p.born, x⟩ RP2) ⟨⟨p.number, p.first, p.last, p.born, x⟩, rfl, ⟨⟨by simp only; omega, by simp only; omega⟩, pf, pl, ⟨by simp only; omega, by simp only; omega⟩, x0, x1⟩, s3, s4⟩
  · have e0 : (r == 0) = false := by simpa using q0
    have e1 : (r == 1) = false := by simpa using q1
    have e2 : (r == 2) = false := by simpa using q2
    have e3 : (r == 3) = false := by simpa using q3
    clear q0 q1 q2 q3
    have RP := RC1.per
    obtain ⟨s3, s4⟩ := stPer_src p h3 p3 hlt (Nat.le_refl _)
    obtain ⟨hr, r0, r1, r2, r3, r4⟩ := RC1.per
    obtain ⟨ht, t0, t1, t2, t3, t4⟩ := PC.per
    have f0 := RC1.free 0
    have f1 := RC1.free 1
    have f2 := RC1.free 2
    have f3 := RC1.free 3
    have f4 := RC1.free 4
    have g0 := PC.free 0
    have g1 := PC.free 1
    have g3 := PC.free 3
    have g4 := PC.free 4
    clear RC1 PC
    go_wp2_with fail
    exact bodyPost_draw (stPer_at p RP) ⟨p, rfl, ⟨by omega, pf, pl, by omega, by omega⟩, s3, s4⟩
end Go.Proofs.Ythnilifepiihjaa
