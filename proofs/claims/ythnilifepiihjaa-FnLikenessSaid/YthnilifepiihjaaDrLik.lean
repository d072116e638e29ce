/-
  Draws of two persons: DrawLikenessOf.
  Conditions: each lemma names its own.
-/
import Derived.Test.YthnilifepiihjaaList
namespace Go.Proofs.Ythnilifepiihjaa
open Go.RowKit
set_option linter.unusedVariables false

theorem RcAt.below {w w' : World} {b : Nat} (h : RcAt w b) (hb : Below w.heap.size w w') : RcAt w' b := (hb.block b (Array.getElem?_eq_some_iff.1 h).1).trans h
theorem stPer_other {w : World} {b tb : Nat} {q : Per} (p : Per) (h : PerAt w b q) (hne : tb ≠ b) : PerAt (stPer w tb p) b q := by
  unfold stPer
  exact ((((h.setOther _ hne).setOther _ hne).setOther _ hne).setOther _ hne).setOther _ hne
theorem bodyPost_drlik {b2 b3 : Nat} {p q : Per} {w : World} {tm : Array Value} {R : Ending → World → Prop} (h : PerAt w b2 p) (h' : PerAt w b3 q) (hR : R (.returned (.tuple #[perV p, perV q])) w) (h2 : tm.getD 2 undef = .pointer (some ⟨b2, 0, none⟩) := by rfl) (h3 : tm.getD 3 undef = .pointer (some ⟨b3, 0, none⟩) := by rfl) :
    bodyPost Try.prog Try.f15 R .ret ⟨tm, []⟩ w := by
  obtain ⟨_, c0, c1, c2, c3, c4⟩ := h
  obtain ⟨_, d0, d1, d2, d3, d4⟩ := h'
  refine bodyPost_ret (v := .tuple #[perV p, perV q]) ?_ rfl hR
  unfold perV
  simp only [Array.getD_eq_getD_getElem?] at h2 h3
  simp [results, Try.results15, go_sem, h2, h3, c0, c1, c2, c3, c4, d0, d1, d2, d3, d4]
theorem PcAt.below {w w' : World} {b : Nat} {p : Per} (h : PcAt w b p) (hb : Below w.heap.size w w') : PcAt w' b p := (hb.block b (Array.getElem?_eq_some_iff.1 h).1).trans h
theorem two_cells (w : World) : Below w.heap.size w ((w.alloc (.cells #[.int .i64 0, .string ⟨#[]⟩, .string ⟨#[]⟩, .int .i64 0, .int .i64 0] 35)).alloc (.cells #[.int .i64 0, .string ⟨#[]⟩, .string ⟨#[]⟩, .int .i64 0, .int .i64 0] 35)) ∧ RcAt ((w.alloc (.cells #[.int .i64 0, .string ⟨#[]⟩, .string ⟨#[]⟩, .int .i64 0, .int .i64 0] 35)).alloc (.cells #[.int .i64 0, .string ⟨#[]⟩, .string ⟨#[]⟩, .int .i64 0, .int .i64 0] 35)) w.heap.size ∧ RcAt ((w.alloc (.cells #[.int .i64 0, .string ⟨#[]⟩, .string ⟨#[]⟩, .int .i64 0, .int .i64 0] 35)).alloc (.cells #[.int .i64 0, .string ⟨#[]⟩, .string ⟨#[]⟩, .int .i64 0, .int .i64 0] 35)) (w.heap.size + 1) ∧ ((w.alloc (.cells #[.int .i64 0, .string ⟨#[]⟩, .string ⟨#[]⟩, .int .i64 0, .int .i64 0] 35)).alloc (.cells #[.int .i64 0, .string ⟨#[]⟩, .string ⟨#[]⟩, .int .i64 0, .int .i64 0] 35)).heap.size = w.heap.size + 2 := by
  have b0 : Below w.heap.size w (w.alloc (.cells #[.int .i64 0, .string ⟨#[]⟩, .string ⟨#[]⟩, .int .i64 0, .int .i64 0] 35)) := (Below.refl _ _).alloc (Nat.le_refl _) _
  have RA : RcAt (w.alloc (.cells #[.int .i64 0, .string ⟨#[]⟩, .string ⟨#[]⟩, .int .i64 0, .int .i64 0] 35)) w.heap.size := heap_alloc_new w _
  have RB : RcAt ((w.alloc (.cells #[.int .i64 0, .string ⟨#[]⟩, .string ⟨#[]⟩, .int .i64 0, .int .i64 0] 35)).alloc (.cells #[.int .i64 0, .string ⟨#[]⟩, .string ⟨#[]⟩, .int .i64 0, .int .i64 0] 35)) (w.alloc (.cells #[.int .i64 0, .string ⟨#[]⟩, .string ⟨#[]⟩, .int .i64 0, .int .i64 0] 35)).heap.size := heap_alloc_new _ _
  rw [show (w.alloc (.cells #[.int .i64 0, .string ⟨#[]⟩, .string ⟨#[]⟩, .int .i64 0, .int .i64 0] 35)).heap.size = w.heap.size + 1 by simp] at RB
  exact ⟨b0.alloc b0.size _, RA.below ((Below.refl _ _).alloc (Nat.le_refl _) _), RB, by simp⟩
set_option maxRecDepth 100000 in
set_option maxHeartbeats 8000000 in
theorem DrawLikenessOf_c {v : Value} {bs : List Int} {w : World} (h : Bytes w v bs) (hf : BytesFit bs) : Calls Try.prog 15 #[v] w fun e w' => ∃ p q, e = .returned (.tuple #[perV p, perV q]) ∧ DrawP p ∧ DrawP q ∧ Below w.heap.size w w' := by
  obtain ⟨BB, RA, RB, hs⟩ := two_cells w
  have HF := Lib.hid (from_c (h.below BB) hf)
  clear h
  go_enter Try.func15, Try.ntmps15
  go_wp2_with fail
  generalize ((w.alloc (.cells #[.int .i64 0, .string ⟨#[]⟩, .string ⟨#[]⟩, .int .i64 0, .int .i64 0] 35)).alloc (.cells #[.int .i64 0, .string ⟨#[]⟩, .string ⟨#[]⟩, .int .i64 0, .int .i64 0] 35)) = w1 at *
  refine HF.out.mono ?_
  rintro e w2 ⟨g, rfl, h2, b2⟩
  have hg2 : w.heap.size + 2 ≤ g := by have := h2.1; omega
  replace RA := RA.below b2
  replace RB := RB.below b2
  replace BB := below_next BB (Nat.le_refl _) b2
  clear b2 HF hs
  go_wp2_with fail
  refine (l04Draw_c h2).mono ?_
  rintro e w3 ⟨p, rfl, hp, h3, p3⟩
  replace RA := RA.past p3 (by omega)
  replace RB := RB.past p3 (by omega)
  have B3 : Below w.heap.size w w3 := BB.trans ((p3.below (by have := h2.lt; omega)).mono (by omega))
  have hgt := h3.lt
  have PP := heap_alloc_new w3 (.cells #[.int .i64 p.number, .string p.first, .string p.last, .int .i64 p.born, .int .i64 p.zone] 35)
  have RA2 := RA.below ((Below.refl _ w3).alloc (Nat.le_refl _) (.cells #[.int .i64 p.number, .string p.first, .string p.last, .int .i64 p.born, .int .i64 p.zone] 35))
  have RB2 := RB.below ((Below.refl _ w3).alloc (Nat.le_refl _) (.cells #[.int .i64 p.number, .string p.first, .string p.last, .int .i64 p.born, .int .i64 p.zone] 35))
  have h4 := h3.alloc (.cells #[.int .i64 p.number, .string p.first, .string p.last, .int .i64 p.born, .int .i64 p.zone] 35)
  have B4 := B3.alloc (by have := B3.size; omega) (.cells #[.int .i64 p.number, .string p.first, .string p.last, .int .i64 p.born, .int .i64 p.zone] 35)
  replace PP : PcAt (w3.alloc (.cells #[.int .i64 p.number, .string p.first, .string p.last, .int .i64 p.born, .int .i64 p.zone] 35)) w3.heap.size p := PP
  clear p3 h2 h3 RA RB B3 BB
  unfold perV
  go_wp2_with fail
  generalize (w3.alloc (.cells #[.int .i64 p.number, .string p.first, .string p.last, .int .i64 p.born, .int .i64 p.zone] 35)) = w4 at *
  generalize w3.heap.size = tb at *
  obtain ⟨_, c0, c1, c2, c3, c4⟩ := PP.per
  have HD := Lib.hid (fun (w' : World) (hs : Src w1.heap.size g w') => l04Draw_c hs)
  have n23 : w.heap.size ≠ w.heap.size + 1 := by omega
  have n32 : w.heap.size + 1 ≠ w.heap.size := by omega
  have hP := Lib.hid (fun (w5 : World) (p5 : Past g w4.drew w5) => show RcAt w5 w.heap.size ∧ RcAt w5 (w.heap.size + 1) ∧ PcAt w5 tb p ∧ Below w.heap.size w w5 from by
    have p6 := ((Past.refl g w4).drew).trans p5
    exact ⟨RA2.past p6 (by omega), RB2.past p6 (by omega), PP.past p6 (by omega), B4.trans ((p6.below (by have := h4.lt; omega)).mono (by omega))⟩)
  replace h4 := Lib.hid h4
  clear RA2 RB2 PP
  go_region_with ((go_at_call 66; refine (HD.out _ h4.out.drew).mono ?_; rintro e w5 ⟨q, rfl, hq, h5, p5⟩; obtain ⟨RA5, RB5, PP5, B5⟩ := hP.out _ p5; obtain ⟨_, e0, e1, e2, e3, e4⟩ := PP5.per; obtain ⟨_, r0, r1, r2, r3, r4⟩ := RA5.per; obtain ⟨_, s0, s1, s2, s3, s4⟩ := RB5.per; have RAP := RA5.per; have RBP := RB5.per; have f0 := RA5.free 0; have f1 := RA5.free 1; have f2 := RA5.free 2; have f3 := RA5.free 3; have f4 := RA5.free 4; have g0 := RB5.free 0; have g1 := RB5.free 1; have g2 := RB5.free 2; have g3 := RB5.free 3; have g4 := RB5.free 4; unfold perV))
  all_goals (go_wp2_with fail; exact bodyPost_drlik (stPer_other q (stPer_at p RAP) n32) (stPer_at q (stPer_other p RBP n23)) ⟨p, q, rfl, hp, hq, stPer_below q (stPer_below p B5 (Nat.le_refl _)) (by omega)⟩)
theorem bodyPost_draa {b2 b3 : Nat} {p q : Per} {l : Int} {w : World} {tm : Array Value} {R : Ending → World → Prop} (h : PerAt w b2 p) (h' : PerAt w b3 q) (hR : R (.returned (.tuple #[perV p, perV q, .int .i64 l])) w) (h2 : tm.getD 2 undef = .pointer (some ⟨b2, 0, none⟩) := by rfl) (h3 : tm.getD 3 undef = .pointer (some ⟨b3, 0, none⟩) := by rfl) (h4 : tm.getD 4 undef = .int .i64 l := by rfl) :
    bodyPost Try.prog Try.f18 R .ret ⟨tm, []⟩ w := by
  obtain ⟨_, c0, c1, c2, c3, c4⟩ := h
  obtain ⟨_, d0, d1, d2, d3, d4⟩ := h'
  refine bodyPost_ret (v := .tuple #[perV p, perV q, .int .i64 l]) ?_ rfl hR
  unfold perV
  simp only [Array.getD_eq_getD_getElem?] at h2 h3 h4
  simp [results, Try.results18, go_sem, h2, h3, h4, c0, c1, c2, c3, c4, d0, d1, d2, d3, d4]
set_option maxRecDepth 100000 in
set_option maxHeartbeats 8000000 in
theorem DrawAreAlike_c {v : Value} {bs : List Int} {w : World} (h : Bytes w v bs) (hf : BytesFit bs) : Calls Try.prog 18 #[v] w fun e w' => ∃ p q l, e = .returned (.tuple #[perV p, perV q, .int .i64 l]) ∧ DrawP p ∧ DrawP q ∧ (-1 ≤ l ∧ l ≤ 101) ∧ Below w.heap.size w w' := by
  obtain ⟨BB, RA, RB, hs⟩ := two_cells w
  have HB := Lib.hid h
  have HF := Lib.hid (from_c (h.below BB) hf)
  clear h
  go_enter Try.func18, Try.ntmps18
  go_wp2_with fail
  generalize ((w.alloc (.cells #[.int .i64 0, .string ⟨#[]⟩, .string ⟨#[]⟩, .int .i64 0, .int .i64 0] 35)).alloc (.cells #[.int .i64 0, .string ⟨#[]⟩, .string ⟨#[]⟩, .int .i64 0, .int .i64 0] 35)) = w1 at *
  refine HF.out.mono ?_
  rintro e w2 ⟨g, rfl, h2, b2⟩
  have hg2 : w.heap.size + 2 ≤ g := by have := h2.1; omega
  replace RA := RA.below b2
  replace RB := RB.below b2
  replace BB := below_next BB (Nat.le_refl _) b2
  clear b2 HF hs
  go_wp2_with fail
  refine (DrawLikenessOf_c (HB.out.below BB) hf).mono ?_
  rintro e w3 ⟨p, q, rfl, hp, hq, b3⟩
  have h3 := h2.below b3
  replace RA := RA.below b3
  replace RB := RB.below b3
  replace BB := below_next BB (Nat.le_refl _) b3
  clear b3 h2
  have PP0 : PcAt (w3.alloc (.cells #[.int .i64 p.number, .string p.first, .string p.last, .int .i64 p.born, .int .i64 p.zone] 35)) w3.heap.size p := heap_alloc_new w3 _
  have PP := PP0.below ((Below.refl _ _).alloc (Nat.le_refl _) (.cells #[.int .i64 q.number, .string q.first, .string q.last, .int .i64 q.born, .int .i64 q.zone] 35))
  have QQ : PcAt ((w3.alloc (.cells #[.int .i64 p.number, .string p.first, .string p.last, .int .i64 p.born, .int .i64 p.zone] 35)).alloc (.cells #[.int .i64 q.number, .string q.first, .string q.last, .int .i64 q.born, .int .i64 q.zone] 35)) (w3.alloc (.cells #[.int .i64 p.number, .string p.first, .string p.last, .int .i64 p.born, .int .i64 p.zone] 35)).heap.size q := heap_alloc_new _ _
  rw [show (w3.alloc (.cells #[.int .i64 p.number, .string p.first, .string p.last, .int .i64 p.born, .int .i64 p.zone] 35)).heap.size = w3.heap.size + 1 by simp] at QQ
  have bb : Below w3.heap.size w3 ((w3.alloc (.cells #[.int .i64 p.number, .string p.first, .string p.last, .int .i64 p.born, .int .i64 p.zone] 35)).alloc (.cells #[.int .i64 q.number, .string q.first, .string q.last, .int .i64 q.born, .int .i64 q.zone] 35)) := ((Below.refl _ w3).alloc (Nat.le_refl _) (.cells #[.int .i64 p.number, .string p.first, .string p.last, .int .i64 p.born, .int .i64 p.zone] 35)).alloc (by simp) (.cells #[.int .i64 q.number, .string q.first, .string q.last, .int .i64 q.born, .int .i64 q.zone] 35)
  have h4 := h3.below bb
  have RA4 := RA.below bb
  have RB4 := RB.below bb
  have B4 := below_next BB (Nat.le_refl _) bb
  have hgt := h3.lt
  have hga : w3.heap.size ≠ g := by omega
  have hgb : w3.heap.size + 1 ≠ g := by omega
  have n2a : w.heap.size ≠ w3.heap.size := by have := BB.size; omega
  have n2b : w.heap.size ≠ w3.heap.size + 1 := by have := BB.size; omega
  have n3a : w.heap.size + 1 ≠ w3.heap.size := by omega
  have n3b : w.heap.size + 1 ≠ w3.heap.size + 1 := by omega
  clear bb RA RB BB h3 PP0
  unfold perV
  go_wp2_with fail
  generalize ((w3.alloc (.cells #[.int .i64 p.number, .string p.first, .string p.last, .int .i64 p.born, .int .i64 p.zone] 35)).alloc (.cells #[.int .i64 q.number, .string q.first, .string q.last, .int .i64 q.born, .int .i64 q.zone] 35)) = w4 at *
  generalize hta : w3.heap.size = ta at *
  have n23 : w.heap.size ≠ w.heap.size + 1 := by omega
  have n32 : w.heap.size + 1 ≠ w.heap.size := by omega
  have hP := Lib.hid (fun (w5 : World) (p5 : Past g w4.drew w5) => show RcAt w5 w.heap.size ∧ RcAt w5 (w.heap.size + 1) ∧ PcAt w5 ta p ∧ PcAt w5 (ta + 1) q ∧ Below w.heap.size w w5 from by
    have p6 := ((Past.refl g w4).drew).trans p5
    exact ⟨RA4.past p6 (by omega), RB4.past p6 (by omega), PP.past p6 hga, QQ.past p6 hgb, B4.trans ((p6.below (by have := h4.lt; omega)).mono (by omega))⟩)
  replace h4 := Lib.hid h4
  obtain ⟨_, c0, c1, c2, c3, c4⟩ := PP.per
  obtain ⟨_, d0, d1, d2, d3, d4⟩ := QQ.per
  clear RA4 RB4 PP QQ B4
  go_region_held3 (fun w' => w'.cell? ⟨ta, 0, none⟩ = some (.int .i64 p.number) ∧ w'.cell? ⟨ta, 1, none⟩ = some (.string p.first) ∧ w'.cell? ⟨ta, 2, none⟩ = some (.string p.last) ∧ w'.cell? ⟨ta, 3, none⟩ = some (.int .i64 p.born) ∧ w'.cell? ⟨ta, 4, none⟩ = some (.int .i64 p.zone) ∧ w'.cell? ⟨ta + 1, 0, none⟩ = some (.int .i64 q.number) ∧ w'.cell? ⟨ta + 1, 1, none⟩ = some (.string q.first) ∧ w'.cell? ⟨ta + 1, 2, none⟩ = some (.string q.last) ∧ w'.cell? ⟨ta + 1, 3, none⟩ = some (.int .i64 q.born) ∧ w'.cell? ⟨ta + 1, 4, none⟩ = some (.int .i64 q.zone))
    (go_keep)
    ((go_at_call 69; refine (pick_new (T := 2) (cs := #[.int .i64 50, .int .i64 60, .int .i64 70, .int .i64 80, .int .i64 0, .int .i64 100, .int .i64 101, .int .i64 (-1)]) [50, 60, 70, 80, 0, 100, 101, -1] (-1) 101 h4.out.drew rfl rfl (by simp) (by simp) (by simp)).mono ?_; rintro e w5 ⟨r, rfl, r0, r1, h5, p5⟩; obtain ⟨RA5, RB5, PP5, QQ5, B5⟩ := hP.out _ p5; obtain ⟨_, e0, e1, e2, e3, e4⟩ := PP5.per; obtain ⟨_, j0, j1, j2, j3, j4⟩ := QQ5.per; obtain ⟨_, k0, k1, k2, k3, k4⟩ := RA5.per; obtain ⟨_, s0, s1, s2, s3, s4⟩ := RB5.per; have RAP := RA5.per; have RBP := RB5.per; have f0 := RA5.free 0; have f1 := RA5.free 1; have f2 := RA5.free 2; have f3 := RA5.free 3; have f4 := RA5.free 4; have g0 := RB5.free 0; have g1 := RB5.free 1; have g2 := RB5.free 2; have g3 := RB5.free 3; have g4 := RB5.free 4))
  all_goals (go_wp2_with fail; exact bodyPost_draa (stPer_other q (stPer_at p RAP) n32) (stPer_at q (stPer_other p RBP n23)) ⟨p, q, r, rfl, hp, hq, ⟨r0, r1⟩, stPer_below q (stPer_below p B5 (Nat.le_refl _)) (by omega)⟩)
end Go.Proofs.Ythnilifepiihjaa
