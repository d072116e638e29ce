/-
  l01From, l01Next, l01Pick: a source is made; a number is drawn.
  Conditions: each lemma names its own.
-/
import Derived.Test.YthnilifepiihjaaSrc
import Derived.Deep.RegionHeld3
import Derived.IntWalk
import Derived.Outline
import Derived.RegionTactic
import Derived.StillTailTactics
namespace Go.Proofs.Ythnilifepiihjaa
open Go.RowKit
set_option linter.unusedVariables false

/-- A number that is drawn below n. -/
def Under (n r : Int) : Prop := 0 ≤ r ∧ (1 ≤ n → r < n) ∧ (n ≤ 1 → r = 0)
def Drawn (B g : Nat) (n : Int) (w : World) (e : Ending) (w' : World) : Prop := ∃ r : Int, e = .returned (.int .i64 r) ∧ Under n r ∧ Src B g w' ∧ Past g w w'

theorem src_cells {B g : Nat} {w : World} (h : Src B g w) : ∃ a n c bs i s, w.cell? ⟨g, 0, none⟩ = some (.slice a n c) ∧ w.cell? ⟨g, 1, none⟩ = some (.int .i64 ((i : Nat) : Int)) ∧ w.cell? ⟨g, 2, none⟩ = some (.int .i64 s) ∧
    (∀ j, w.frozen? ⟨g, j, none⟩ = false) ∧ w.rowIs g 108 3 (srcF (.slice a n c) i s) ∧ Codes B w (.slice a n c) bs ∧ bs.length = n ∧ i ≤ n ∧ n ≤ c ∧ c ≤ maxLen ∧ 0 ≤ s ∧ s < 2147483647 ∧ B ≤ g := by
  obtain ⟨hB, v, bs, i, s, h1, h2, h3, h4, h5⟩ := h
  obtain ⟨hf, a, n, c, rfl, hl, hn, hm, hc⟩ := id h2
  exact ⟨a, n, c, bs, i, s, h1.cell (by omega), h1.cell (by omega), h1.cell (by omega), h1.frozen, h1, h2, hl, by omega, hn, hm, h4, h5, hB⟩

theorem under_mod {n : Int} (hn : 1 < n) (y : Int) : Under n (y % n) := by
  have h1 := Int.emod_nonneg y (show n ≠ 0 by omega)
  have h2 := Int.emod_lt_of_pos y (show 0 < n by omega)
  exact ⟨h1, fun _ => h2, fun h => by omega⟩
section
variable {B g : Nat} {w : World} {v : Value} {bs : List Int} {i : Nat} {s : Int}
theorem src_seed (hB : B ≤ g) (hr : w.rowIs g 108 3 (srcF v i s)) (hc : Codes B w v bs) (hi : i ≤ bs.length) {sd : Int} (h0 : 0 ≤ sd) (h1 : sd < 2147483647) (k : Nat) :
    Src B g ((w.setCell ⟨g, 2, none⟩ (.int .i64 sd)).drewN k) ∧ Past g w ((w.setCell ⟨g, 2, none⟩ (.int .i64 sd)).drewN k) := by
  have hp : Past g w ((w.setCell ⟨g, 2, none⟩ (.int .i64 sd)).drewN k) := ((Past.refl g w).set _).drewN k
  refine ⟨⟨hB, v, bs, i, sd, ?_, hc.below ((hp.below (by have := hr.lt; omega)).mono hB), hi, h0, h1⟩, hp⟩
  refine (show ((w.setCell ⟨g, 2, none⟩ (.int .i64 sd)).drewN k).rowIs g _ 3 _ from hr.set 2 (.int .i64 sd)).congr fun j hj => ?_
  unfold srcF
  rcases (show j = 0 ∨ j = 1 ∨ j = 2 by omega) with rfl | rfl | rfl <;> rfl
theorem src_both (hB : B ≤ g) (hr : w.rowIs g 108 3 (srcF v i s)) (hc : Codes B w v bs) (hi : i < bs.length) {sd : Int} (h0 : 0 ≤ sd) (h1 : sd < 2147483647) (a k : Nat) :
    Src B g ((((w.setCell ⟨g, 2, none⟩ (.int .i64 sd)).drewN a).setCell ⟨g, 1, none⟩ (.int .i64 ((i : Int) + 1))).drewN k) ∧ Past g w ((((w.setCell ⟨g, 2, none⟩ (.int .i64 sd)).drewN a).setCell ⟨g, 1, none⟩ (.int .i64 ((i : Int) + 1))).drewN k) := by
  have hp : Past g w ((((w.setCell ⟨g, 2, none⟩ (.int .i64 sd)).drewN a).setCell ⟨g, 1, none⟩ (.int .i64 ((i : Int) + 1))).drewN k) := ((((Past.refl g w).set _).drewN a).set _).drewN k
  refine ⟨⟨hB, v, bs, i + 1, sd, ?_, hc.below ((hp.below (by have := hr.lt; omega)).mono hB), by omega, h0, h1⟩, hp⟩
  refine (show ((((w.setCell ⟨g, 2, none⟩ (.int .i64 sd)).drewN a).setCell ⟨g, 1, none⟩ (.int .i64 ((i : Int) + 1))).drewN k).rowIs g _ 3 _ from (hr.set 2 (.int .i64 sd)).set 1 (.int .i64 ((i : Int) + 1))).congr fun j hj => ?_
  unfold srcF
  rcases (show j = 0 ∨ j = 1 ∨ j = 2 by omega) with rfl | rfl | rfl <;> simp
end

theorem next_one {B g : Nat} {w : World} (h : Src B g w) (n : Int) (hn : n ≤ 1) : Calls Try.prog 73 #[.pointer (some ⟨g, 0, none⟩), .int .i64 n] w (Drawn B g n w) := by
  have HS := Lib.hid h
  clear h
  go_enter Try.func73, Try.ntmps73
  go_wp2_with fail
  go_ret
  exact ⟨0, rfl, ⟨by omega, by omega, by omega⟩, HS.out, Past.refl _ _⟩
set_option maxHeartbeats 1000000 in
theorem next_many {B g : Nat} {w : World} (h : Src B g w) (n : Int) (hn : 1 < n) (hm : n ≤ 9223372036854775807) : Calls Try.prog 73 #[.pointer (some ⟨g, 0, none⟩), .int .i64 n] w (Drawn B g n w) := by
  obtain ⟨a, m, c, bs, i, s, c0, c1, c2, hf, hr, hco, hl, hi, hmc, hc, hs0, hs1, hB⟩ := src_cells h
  have f1 := hf 1
  have f2 := hf 2
  unfold maxLen at hc
  have HR := Lib.hid hr
  have HC := Lib.hid hco
  have HL := Lib.hid hl
  have HB := Lib.hid hB
  clear h hr hco hl hB hf
  go_enter Try.func73, Try.ntmps73
  by_cases q : i < m
  · have hX := at_of (xs := bs) (k := i) (by have := HL.out; omega)
    obtain ⟨x, hx⟩ := hX
    obtain ⟨hfit, a', m', c', hv, hl', _, _, hcell⟩ := HC.out
    injection hv with hv1 hv2 hv3
    obtain ⟨b, o, ha, hbB, hcs⟩ := hcell (by omega)
    rw [← hv1] at ha
    subst ha
    obtain ⟨hx0, hx1⟩ := hfit x (List.mem_of_getElem? hx)
    have hcx := hcs i x hx
    have hbg : b ≠ g := by have := HB.out; omega
    clear hv1 hv2 hv3 hcell hfit hx hl' hcs
    have hi1 : i < bs.length := by have := HL.out; omega
    by_cases q2 : n ≤ 256
    · by_cases q3 : ((i : Int) + 1) % 2 = 0
      · go_wp2_with fail
        go_quiet (fail)
        go_wp2_with fail
        go_quiet (fail)
        go_wp2_with fail
        go_quiet (fail)
        go_wp2_with fail
        go_ret
        obtain ⟨e1, e2⟩ := src_both (sd := (s * 48271 + 29) % 2147483647) HB.out HR.out HC.out hi1 (by omega) (by omega) _ _
        exact ⟨_, rfl, under_mod hn _, e1, e2⟩
      · have q4 : ((i : Int) + 1) % 2 = 1 := by omega
        clear q3
        go_wp2_with fail
        go_quiet (fail)
        go_wp2_with fail
        go_quiet (fail)
        go_wp2_with fail
        go_ret
        obtain ⟨e1, e2⟩ := src_both (sd := (s * 48271 + 29) % 2147483647) HB.out HR.out HC.out hi1 (by omega) (by omega) _ 0
        exact ⟨_, rfl, under_mod hn _, e1, e2⟩
    · go_wp2_with fail
      go_quiet (fail)
      go_wp2_with fail
      go_quiet (fail)
      go_wp2_with fail
      go_ret
      obtain ⟨e1, e2⟩ := src_both (sd := (s * 48271 + 29) % 2147483647) HB.out HR.out HC.out hi1 (by omega) (by omega) _ 0
      exact ⟨_, rfl, under_mod hn _, e1, e2⟩
  · go_wp2_with fail
    go_quiet (fail)
    go_wp2_with fail
    go_ret
    obtain ⟨e1, e2⟩ := src_seed (sd := (s * 48271 + 29) % 2147483647) HB.out HR.out HC.out (by have := HL.out; omega) (by omega) (by omega) _
    exact ⟨_, rfl, under_mod hn _, e1, e2⟩
theorem next_c {B g : Nat} {w : World} (h : Src B g w) (n : Int) (hm : n ≤ 9223372036854775807) : Calls Try.prog 73 #[.pointer (some ⟨g, 0, none⟩), .int .i64 n] w (Drawn B g n w) := by
  rcases Int.lt_or_le 1 n with q | q
  · exact next_many h n q hm
  · exact next_one h n q
/-- The source as l01From makes it. -/
theorem from_c {v : Value} {bs : List Int} {w : World} (h : Bytes w v bs) (hf : BytesFit bs) : Calls Try.prog 65 #[v] w fun e w' => ∃ g, e = .returned (.pointer (some ⟨g, 0, none⟩)) ∧ Src w.heap.size g w' ∧ Below w.heap.size w w' := by
  have HC := Lib.hid (codes_of h hf)
  obtain ⟨a, n, c, rfl, hl, hcap, hmost, hcell⟩ := row_cells h
  unfold maxLen at hmost
  have HL := Lib.hid hl
  clear h hl
  have hr : (w.alloc (.cells #[.slice a n c, .int .i64 0, .int .i64 61043] 108)).rowIs w.heap.size 108 3 (srcF (.slice a n c) 0 61043) := by
    refine World.rowIs_alloc w #[.slice a n c, .int .i64 0, .int .i64 61043] _ _ fun i hi => ?_
    rcases (show i = 0 ∨ i = 1 ∨ i = 2 by simp at hi; omega) with rfl | rfl | rfl <;> rfl
  have hb : Below w.heap.size w (w.alloc (.cells #[.slice a n c, .int .i64 0, .int .i64 61043] 108)) := (Below.refl _ _).alloc (Nat.le_refl _) _
  go_enter Try.func65, Try.ntmps65
  go_wp2_with fail
  go_loopw [4] (fun i wr => ∃ (k : Nat) (s : Int), k ≤ n ∧ i = .int .i64 k ∧ 0 ≤ s ∧ s < 2147483647 ∧ wr.rowIs w.heap.size 108 3 (srcF (.slice a n c) 0 s) ∧ Below w.heap.size w wr) (fun i _ => n - (intOf i).toNat)
  case atStart => exact ⟨0, 61043, Nat.zero_le _, rfl, by omega, by omega, hr, hb⟩
  case round =>
    obtain ⟨k, s, hk, rfl, hs0, hs1, HR, BB⟩ := hrel
    clear hr hb
    have hfin : Hid (Src w.heap.size w.heap.size wr) := Lib.hid ⟨Nat.le_refl _, _, bs, 0, s, HR, HC.out.below BB, Nat.zero_le _, hs0, hs1⟩
    by_cases hlt : k < n
    · by_cases h64 : k < 64
      · obtain ⟨b, o, ha, hbb, hc⟩ := hcell (by omega)
        subst ha
        have hX := at_of (xs := bs) (k := k) (by have := HL.out; omega)
        obtain ⟨x, hx⟩ := hX
        obtain ⟨x0, x1⟩ := hf x (List.mem_of_getElem? hx)
        have cx := (BB.cell (p := ⟨b, o + k, none⟩) hbb).trans (hc k x hx)
        have s0 := HR.cell (i := 2) (by omega)
        have sf := HR.frozen 2
        have h0 : srcF (.slice (some ⟨b, o, none⟩) n c) 0 s 2 = .int .i64 s := rfl
        rw [h0] at s0
        have hne : b ≠ w.heap.size := by omega
        have HQ := HR.set 2 (.int .i64 ((s * 83 + x) % 2147483647))
        have HQ : (wr.setCell ⟨w.heap.size, 2, none⟩ (.int .i64 ((s * 83 + x) % 2147483647))).rowIs w.heap.size 108 3 (srcF (.slice (some ⟨b, o, none⟩) n c) 0 ((s * 83 + x) % 2147483647)) :=
          HQ.congr fun j hj => by rcases (show j = 0 ∨ j = 1 ∨ j = 2 by omega) with rfl | rfl | rfl <;> simp [srcF]
        replace HQ := Lib.hid HQ
        replace HR := Lib.hid HR
        replace hcell := Lib.hid hcell
        replace hf := Lib.hid hf
        have BQ := BB.setCell (p := ⟨w.heap.size, 2, none⟩) (Nat.le_refl _) (.int .i64 ((s * 83 + x) % 2147483647))
        clear hc hx h0
        go_wp2_with fail
        go_region
        go_wp2_with fail
        go_roundw
        case rel => exact ⟨k + 1, _, by omega, by go_num, Int.emod_nonneg _ (by omega), Int.emod_lt_of_pos _ (by omega), HQ.out.drew, BQ.drew⟩
        case measure => simp [intOf]; omega
      · go_wp2_with fail
        go_ret
        exact ⟨_, rfl, hfin.out, BB⟩
    · go_wp2_with fail
      go_ret
      exact ⟨_, rfl, hfin.out, BB⟩

/-- One of some numbers is drawn. -/
def Among (B g : Nat) (xs : List Int) (w : World) (e : Ending) (w' : World) : Prop := ∃ r : Int, e = .returned (.int .i64 r) ∧ r ∈ xs ∧ Src B g w' ∧ Past g w w'
theorem pick_c {B g : Nat} {w : World} {b n c : Nat} {xs : List Int} (h : Src B g w) (hn : xs.length = n) (hb : b < w.heap.size) (hbg : b ≠ g) (h0 : 0 < n) (hnc : n ≤ c) (hc : c ≤ maxLen)
    (hx : ∀ k x, xs[k]? = some x → w.cell? ⟨b, k, none⟩ = some (.int .i64 x)) : Calls Try.prog 69 #[.pointer (some ⟨g, 0, none⟩), .slice (some ⟨b, 0, none⟩) n c] w (Among B g xs w) := by
  unfold maxLen at hc
  have HN := Lib.hid (next_c h n (by omega))
  have HX := Lib.hid hx
  have HL := Lib.hid hn
  clear h hx hn
  go_enter Try.func69, Try.ntmps69
  go_wp2_with fail
  refine HN.out.mono ?_
  rintro e w1 ⟨r, rfl, hr, h1, p1⟩
  obtain ⟨r0, r1, _⟩ := hr
  replace r1 := r1 (by omega)
  have hX := at_of (xs := xs) (k := r.toNat) (by have := HL.out; omega)
  obtain ⟨x, hx⟩ := hX
  have cx := p1.cell (HX.out r.toNat x hx) (by simpa using hbg)
  have hr : r = ((r.toNat : Nat) : Int) := by omega
  generalize r.toNat = j at *
  subst hr
  have HM := Lib.hid (List.mem_of_getElem? hx)
  clear hx
  go_wp2_with fail
  go_ret
  exact ⟨x, rfl, HM.out, h1, p1⟩
end Go.Proofs.Ythnilifepiihjaa
