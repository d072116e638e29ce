/-
  Draws of a person and of a person's text, from a code.
  Conditions: each lemma names its own.
-/
import Derived.Test.YtibfpajblcfobaaDoorDrPer
import Derived.Test.YtibfpajblcfobaaDoorPerTI
namespace Go.Proofs.YtibfpajblcfobaaDoor
open Go.RowKit
set_option linter.unusedVariables false

theorem bodyPost_drpt {b : Nat} {p : Per} {w : World} {tm : Array Value} {R : Ending → World → Prop} (h : PerAt w b p) (hR : R (.returned (perV p)) w) (h2 : tm.getD 2 undef = .pointer (some ⟨b, 0, none⟩) := by rfl) :
    bodyPost Tryd.prog Tryd.f14 R .ret ⟨tm, []⟩ w := by
  obtain ⟨h0, c0, c1, c2, c3, c4⟩ := h
  refine bodyPost_ret (v := perV p) ?_ rfl hR
  unfold perV
  simp only [Array.getD_eq_getD_getElem?] at h2
  simp [results, Tryd.results14, go_sem, h2, c0, c1, c2, c3, c4]
/-- A person, drawn from a code. -/
def RetPer (w : World) (e : Ending) (w' : World) : Prop := ∃ p, e = .returned (perV p) ∧ DrawP p ∧ Below w.heap.size w w'
theorem RcAt.below {w w' : World} {b : Nat} (h : RcAt w b) (hb : Below w.heap.size w w') : RcAt w' b := (hb.block b (Array.getElem?_eq_some_iff.1 h).1).trans h
set_option maxRecDepth 100000 in
set_option maxHeartbeats 4000000 in
theorem DrawPersonText_c {v : Value} {bs : List Int} {w : World} (h : Bytes w v bs) (hf : BytesFit bs) : Calls Tryd.prog 14 #[v] w (RetPer w) := by
  have b0 : Below w.heap.size w (w.alloc (.cells #[.int .i64 0, .string ⟨#[]⟩, .string ⟨#[]⟩, .int .i64 0, .int .i64 0] 27)) := (Below.refl _ _).alloc (Nat.le_refl _) _
  have RC : RcAt (w.alloc (.cells #[.int .i64 0, .string ⟨#[]⟩, .string ⟨#[]⟩, .int .i64 0, .int .i64 0] 27)) w.heap.size := heap_alloc_new w _
  have HF := Lib.hid (from_c (h.below b0) hf)
  have hsz : w.heap.size < (w.alloc (.cells #[.int .i64 0, .string ⟨#[]⟩, .string ⟨#[]⟩, .int .i64 0, .int .i64 0] 27)).heap.size := by simp
  clear h
  go_enter Tryd.func14, Tryd.ntmps14
  go_wp2_with fail
  refine HF.out.mono ?_
  rintro e w1 ⟨g, rfl, h1, b1⟩
  have hg : w.heap.size < g := Nat.lt_of_lt_of_le hsz h1.1
  replace RC := RC.below b1
  go_wp2_with fail
  refine (l04Draw_c h1).mono ?_
  rintro e w2 ⟨p, rfl, hp, h2, p2⟩
  replace RC := RC.past p2 (by omega)
  have hb2 := below_next b0 (Nat.le_refl _) (src_below b1 h1 p2)
  have RP := RC.per
  obtain ⟨hr, r0, r1, r2, r3, r4⟩ := RC.per
  have f0 := RC.free 0
  have f1 := RC.free 1
  have f2 := RC.free 2
  have f3 := RC.free 3
  have f4 := RC.free 4
  clear RC HF h1 h2 p2 b1 b0
  unfold perV
  go_wp2_with fail
  exact bodyPost_drpt (stPer_at p RP) ⟨p, rfl, hp, stPer_below p hb2 (Nat.le_refl _)⟩
set_option maxRecDepth 100000 in
set_option maxHeartbeats 4000000 in
theorem DrawReadPerson_c {v : Value} {bs : List Int} {w : World} (h : Bytes w v bs) (hf : BytesFit bs) : Calls Tryd.prog 15 #[v] w fun e w' => ∃ s : ByteArray, e = .returned (.string s) ∧ s.size ≤ 1000 ∧ Below w.heap.size w w' := by
  go_enter Tryd.func15, Tryd.ntmps15
  go_wp2_with fail
  refine (from_c h hf).mono ?_
  rintro e w1 ⟨g, rfl, h1, b1⟩
  clear h
  go_wp2_with fail
  refine (l04Good_c h1).mono ?_
  rintro e w2 ⟨p, rfl, ⟨pa, pf, pl, pb, pz⟩, h2, p2⟩
  have HT := Lib.hid (spec_l04Text p (by omega) (by omega) (by omega) (by omega) (by omega) w2)
  have hz : (perS p).size ≤ 500 := by
    have := perT_size (A := itoB p.number) (F := p.first) (L := p.last) (B := itoB p.born) (Z := itoB p.zone) (itoB_size (by omega) (by omega)) pf pl (itoB_size (by omega) (by omega)) (itoB_size (by omega) (by omega))
    unfold perS
    omega
  generalize perS p = t at *
  unfold perV at *
  clear pa pf pl pb pz
  go_wp2_with fail
  refine HT.out.mono ?_
  rintro e w3 ⟨rfl, b3⟩
  have h3 := h2.below b3
  have p3 := p2.trans (Past.of_below b3)
  clear HT b3
  go_wp2_with fail
  refine (next_c h3 3 (by omega)).mono ?_
  rintro e w4 ⟨r4, rfl, _, h4, p4⟩
  by_cases q : r4 = 0
  · have hq : (r4 == 0) = true := by simpa using q
    clear q
    go_wp2_with fail
    refine (damage_c h4 t 500 hz (by omega)).mono ?_
    rintro e w5 ⟨u, rfl, hu, h5, p5⟩
    have hb5 := src_below b1 h1 ((p3.trans p4).trans p5)
    go_wp2_with fail
    go_ret
    exact ⟨u, rfl, by omega, hb5⟩
  · have hq : (r4 == 0) = false := by simpa using q
    clear q
    have hb4 := src_below b1 h1 (p3.trans p4)
    go_wp2_with fail
    go_ret
    exact ⟨t, rfl, by omega, hb4⟩
end Go.Proofs.YtibfpajblcfobaaDoor
