/-
  Draws of lists of persons from a code: DrawMostAlike, DrawFindPerson.
  Conditions: each lemma names its own.
-/
import Derived.Test.YthnilifepiihjaaDrLik
namespace Go.Proofs.Ythnilifepiihjaa
open Go.RowKit
set_option linter.unusedVariables false

theorem bodyPost_drma {b3 : Nat} {u : Value} {p : Per} {w : World} {tm : Array Value} {R : Ending → World → Prop} (h' : PerAt w b3 p) (hR : R (.returned (.tuple #[u, perV p])) w) (h2 : tm.getD 2 undef = u := by rfl) (h3 : tm.getD 3 undef = .pointer (some ⟨b3, 0, none⟩) := by rfl) :
    bodyPost Try.prog Try.f21 R .ret ⟨tm, []⟩ w := by
  obtain ⟨_, d0, d1, d2, d3, d4⟩ := h'
  refine bodyPost_ret (v := .tuple #[u, perV p]) ?_ rfl hR
  unfold perV
  simp only [Array.getD_eq_getD_getElem?] at h2 h3
  simp [results, Try.results21, go_sem, h2, h3, d0, d1, d2, d3, d4]
theorem OwnP.st {base b : Nat} {v : Value} {s : List Per} {w : World} (p : Per) (h : OwnP base v s w) (hb : b < base) : OwnP base v s (stPer w b p) := by
  refine ⟨h.1.kept (row := some b) ?_ ?_, h.2⟩
  · have hB := stPer_below (B := b) p (Below.refl b w) (Nat.le_refl b)
    refine ⟨hB.os, hB.tape, hB.output, hB.size, fun k _ hk => ?_⟩
    have hne : k ≠ b := fun e => hk (by rw [e])
    unfold stPer
    rw [Below.heap_setCell _ _ _ _ hne, Below.heap_setCell _ _ _ _ hne, Below.heap_setCell _ _ _ _ hne, Below.heap_setCell _ _ _ _ hne, Below.heap_setCell _ _ _ _ hne]
  · cases hv : v.ownBlock with
    | none => exact .inl rfl
    | some k => exact .inr (by intro e; injection e with e; have := (h.1.lt k hv).1; omega)
set_option maxRecDepth 100000 in
set_option maxHeartbeats 8000000 in
theorem DrawMostAlike_c {v : Value} {bs : List Int} {w : World} (h : Bytes w v bs) (hf : BytesFit bs) : Calls Try.prog 21 #[v] w fun e w' => ∃ u ps p, e = .returned (.tuple #[u, perV p]) ∧ OwnP w.heap.size u ps w' ∧ ps.length ≤ 13 ∧ AllD ps ∧ DrawP p ∧ Below w.heap.size w w' := by
  have b0 : Below w.heap.size w (w.alloc (.cells #[.int .i64 0, .string ⟨#[]⟩, .string ⟨#[]⟩, .int .i64 0, .int .i64 0] 35)) := (Below.refl _ _).alloc (Nat.le_refl _) _
  have RC : RcAt (w.alloc (.cells #[.int .i64 0, .string ⟨#[]⟩, .string ⟨#[]⟩, .int .i64 0, .int .i64 0] 35)) w.heap.size := heap_alloc_new w _
  have HF := Lib.hid (from_c (h.below b0) hf)
  have hsz : w.heap.size < (w.alloc (.cells #[.int .i64 0, .string ⟨#[]⟩, .string ⟨#[]⟩, .int .i64 0, .int .i64 0] 35)).heap.size := by simp
  clear h
  go_enter Try.func21, Try.ntmps21
  go_wp2_with fail
  generalize (w.alloc (.cells #[.int .i64 0, .string ⟨#[]⟩, .string ⟨#[]⟩, .int .i64 0, .int .i64 0] 35)) = w0 at *
  refine HF.out.mono ?_
  rintro e w1 ⟨g, rfl, h1, b1⟩
  have hg : w.heap.size < g := Nat.lt_of_lt_of_le hsz h1.1
  replace RC := RC.below b1
  go_wp2_with fail
  refine (list_c h1).mono ?_
  rintro e w2 ⟨u, ps, rfl, ho, hl, hD, h2, p2⟩
  have hgl := h1.lt
  replace RC := RC.past p2 (by omega)
  replace hD := Lib.hid hD
  replace ho := Lib.hid ho
  go_wp2_with fail
  refine (l04Draw_c h2).mono ?_
  rintro e w3 ⟨p, rfl, hp, h3, p3⟩
  replace RC := RC.past p3 (by omega)
  replace ho := Lib.hid (ho.out.past p3 hgl)
  have hb2 := below_next b0 (Nat.le_refl _) (src_below b1 h1 (p2.trans p3))
  have RP := RC.per
  obtain ⟨hr, r0, r1, r2, r3, r4⟩ := RC.per
  have f0 := RC.free 0
  have f1 := RC.free 1
  have f2 := RC.free 2
  have f3 := RC.free 3
  have f4 := RC.free 4
  clear RC HF h1 h2 h3 p2 p3 b1 b0
  unfold perV
  go_wp2_with fail
  exact bodyPost_drma (stPer_at p RP) ⟨u, ps, p, rfl, (ho.out.st p (by omega)).mono (by omega), hl, hD.out, hp, stPer_below p hb2 (Nat.le_refl _)⟩
set_option maxRecDepth 100000 in
set_option maxHeartbeats 8000000 in
theorem DrawFindPerson_c {v : Value} {bs : List Int} {w : World} (h : Bytes w v bs) (hf : BytesFit bs) : Calls Try.prog 24 #[v] w fun e w' => ∃ u ps x, e = .returned (.tuple #[u, .int .i64 x]) ∧ OwnP w.heap.size u ps w' ∧ ps.length ≤ 13 ∧ AllD ps ∧ Below w.heap.size w w' := by
  have HF := Lib.hid (from_c h hf)
  clear h
  go_enter Try.func24, Try.ntmps24
  go_wp2_with fail
  refine HF.out.mono ?_
  rintro e w1 ⟨g, rfl, h1, b1⟩
  go_wp2_with fail
  refine (list_c h1).mono ?_
  rintro e w2 ⟨u, ps, rfl, ho, hl, hD, h2, p2⟩
  have hgl := h1.lt
  have hsz := Lib.hid b1.size
  have BB := Lib.hid (src_below b1 h1 p2)
  have HB : Hid (∀ w', Past g w2 w' → Below w.heap.size w w') := Lib.hid fun w' p => src_below b1 h1 (p2.trans p)
  replace hD := Lib.hid hD
  obtain ⟨lb, c, rfl, hlb, hlw, hlc, hcm, hcells⟩ := ho.form
  replace ho := Lib.hid ho
  replace hcells := Lib.hid hcells
  unfold maxLen at hcm
  generalize hL : ps.length = L at *
  replace hL := Lib.hid hL
  clear HF p2 b1
  replace h1 := Lib.hid h1
  replace h2 := Lib.hid h2
  by_cases hn : 0 < L
  · go_wp2_with fail
    refine (next_c h2.out 3 (by omega)).mono ?_
    rintro e w3 ⟨r, rfl, ⟨a3, _, _⟩, h3, p3⟩
    have o3 := Lib.hid (ho.out.past p3 hgl)
    by_cases hr : 0 < r
    · go_wp2_with fail
      have HN := Lib.hid (fun (w' : World) (hs : Src w.heap.size g w') => next_c hs L (by omega))
      go_region_with ((go_at_call 73; refine (next_c h3.drew L (by omega)).mono ?_; rintro e w4 ⟨s, rfl, ⟨a4, b4, _⟩, h4, p4⟩; have p5 := p3.trans (((Past.refl g w3).drew).trans p4); have hs : s = ((s.toNat : Nat) : Int) := (by have := b4 (by omega); omega); have hsl : s.toNat < L := (by have := b4 (by omega); omega); have hX := per_at (ps := ps) (k := s.toNat) (by rw [hL.out]; exact hsl); generalize s.toNat = k at *; subst hs; obtain ⟨q, hq⟩ := hX; obtain ⟨d0, _, _, _, _⟩ := cells_at hcells.out hq; have d1 := p5.cell d0 (by simp; omega); clear hq b4))
      all_goals (go_wp2_with fail; go_ret2; exact ⟨_, ps, _, rfl, (ho.out.past p5 hgl).mono hsz.out, by rw [hL.out]; exact hl, hD.out, HB.out _ p5⟩)
    · go_wp2_with fail
      refine (next_c h3 70 (by omega)).mono ?_
      rintro e w4 ⟨s, rfl, ⟨a4, b4, _⟩, h4, p4⟩
      replace b4 := b4 (by omega)
      have p5 := p3.trans p4
      go_wp2_with fail
      go_ret2
      exact ⟨_, ps, _, rfl, (ho.out.past p5 hgl).mono hsz.out, by rw [hL.out]; exact hl, hD.out, HB.out _ p5⟩
  · go_wp2_with fail
    refine (next_c h2.out 70 (by omega)).mono ?_
    rintro e w4 ⟨s, rfl, ⟨a4, b4, _⟩, h4, p5⟩
    replace b4 := b4 (by omega)
    go_wp2_with fail
    go_ret2
    exact ⟨_, ps, _, rfl, (ho.out.past p5 hgl).mono hsz.out, by rw [hL.out]; exact hl, hD.out, HB.out _ p5⟩
end Go.Proofs.Ythnilifepiihjaa
