/-
  The reasons against a candidate: the reference's truths and their sum.
  Conditions: each lemma names its own.
-/
import Derived.Test.YthnilifepiihjaaReas
import Derived.StillTailTactics
namespace Go.Proofs.Ythnilifepiihjaa
open Go.RowKit
set_option linter.unusedVariables false

/-- A region whose operations but the last few only read or call quietly: the world spelt as the walk spells it. -/
theorem region_tail {P : Program} {id : Nat} {Q : Exit → Act → World → Prop} {a : Act} {w : World} {l : List Oper} (n : Nat) (hm : P.follows .mixedOrders = true) (hB : Region.lexTailB .any l.toArray n = true)
    (h : wpStill P l.toArray w.drew (fun a' => wpList P l.toArray Q (l.drop n) a' w.drew) (l.take n) a) : (Code.region id l.toArray true).wp P Q a w := wp_region_still_tail n hm hB h
/-- A slice of bools that reads as ts. -/
def Bools (w : World) (v : Value) (ts : List Bool) : Prop := Row w 1 v ts.length (ts.map Value.bool)
set_option maxRecDepth 100000 in
set_option maxHeartbeats 4000000 in
theorem spec_truths {v : Value} {r : Rul} {c : Cand} {w : World} (h : Ruls w v r) (y0 : 0 ≤ r.year ∧ r.year ≤ 10000) (y1 : 0 ≤ c.per.born ∧ c.per.born ≤ 10000) :
    Calls Try.prog 92 #[v, candV c] w fun e w' => ∃ b, e = .returned (.slice (some ⟨b, 0, none⟩) 7 7) ∧ w'.heap[b]? = some (.cells ((truths r c).map Value.bool).toArray 4 (0, 0)) ∧ Below w.heap.size w w' := by
  obtain ⟨vz, vj, rfl, hz, hj⟩ := h
  unfold candV
  have eA : (w.alloc (.cells #[.int .i64 r.year, .int .i64 r.least, .int .i64 r.most, vz, vj] 33)).heap.size = w.heap.size + 1 := by simp
  have b0 : Below w.heap.size w ((w.alloc (.cells #[.int .i64 r.year, .int .i64 r.least, .int .i64 r.most, vz, vj] 33)).alloc (.cells #[.int .i64 c.per.number, .string c.per.first, .string c.per.last, .int .i64 c.per.born, .int .i64 c.per.zone, .bool c.citizen, .bool c.convicted, .bool c.fluent, .int .i64 c.job] 37)).drew := (((Below.refl _ _).alloc (Nat.le_refl _) _).alloc (by omega) _).drew
  have HZ := Lib.hid (spec_has c.per.zone (hz.below b0))
  have HJ := Lib.hid (spec_has c.job (hj.below b0))
  obtain ⟨az, nz, cz, rfl, _⟩ := hz.parts
  obtain ⟨aj, nj, cj, rfl, _⟩ := hj.parts
  have hT : Hid (truths r c = [decide (r.year - c.per.born < r.least), decide (r.most < r.year - c.per.born), !decide (c.per.zone ∈ r.zones), !c.citizen, c.convicted, !c.fluent, decide (c.job ∈ r.jobs)]) := Lib.hid rfl
  clear hz hj eA
  generalize decide (c.per.zone ∈ r.zones) = t2 at *
  generalize decide (c.job ∈ r.jobs) = t6 at *
  go_enter Try.func92, Try.ntmps92
  go_wp2_with fail
  refine region_tail 28 (by kernel_rfl) (by kernel_rfl) ?_
  simp only [List.take_succ_cons, List.take_zero, List.drop_succ_cons, List.drop_zero]
  repeat still_step
  still_call HZ.out
  repeat still_step
  still_call HJ.out
  refine wpStill_nil ?_
  go_wp2_with fail
  go_ret
  refine ⟨_, rfl, ?_, ?_⟩
  · rw [hT.out]
    rw [show w.heap.size + 1 + 1 = ((w.alloc (.cells #[.int .i64 r.year, .int .i64 r.least, .int .i64 r.most, .slice az nz cz, .slice aj nj cj] 33)).alloc (.cells #[.int .i64 c.per.number, .string c.per.first, .string c.per.last, .int .i64 c.per.born, .int .i64 c.per.zone, .bool c.citizen, .bool c.convicted, .bool c.fluent, .int .i64 c.job] 37)).heap.size from by simp]
    exact heap_alloc_new _ _
  · exact ((((Below.refl _ _).alloc (Nat.le_refl _) _).alloc (by simp) _).alloc (by simp; omega) _).drew
set_option maxRecDepth 100000 in
set_option maxHeartbeats 4000000 in
theorem spec_reasons {v : Value} {r : Rul} {c : Cand} {w : World} (h : Ruls w v r) (y0 : 0 ≤ r.year ∧ r.year ≤ 10000) (y1 : 0 ≤ c.per.born ∧ c.per.born ≤ 10000) :
    Calls Try.prog 58 #[v, candV c] w fun e w' => e = .returned (.int .i64 (wtTo (truths r c) 7)) ∧ Below w.heap.size w w' := by
  have hr := h
  obtain ⟨vz, vj, rfl, hz, hj⟩ := h
  unfold candV
  have b0 : Below w.heap.size w ((w.alloc (.cells #[.int .i64 r.year, .int .i64 r.least, .int .i64 r.most, vz, vj] 33)).alloc (.cells #[.int .i64 c.per.number, .string c.per.first, .string c.per.last, .int .i64 c.per.born, .int .i64 c.per.zone, .bool c.citizen, .bool c.convicted, .bool c.fluent, .int .i64 c.job] 37)) := ((Below.refl _ _).alloc (Nat.le_refl _) _).alloc (by simp) _
  have HT := Lib.hid (spec_truths (c := c) (hr.below b0) y0 y1)
  clear hr hz hj
  unfold candV at HT
  have hlen : (truths r c).length = 7 := rfl
  generalize truths r c = T at *
  go_enter Try.func58, Try.ntmps58
  go_wp2_with fail
  refine HT.out.mono ?_
  rintro e w1 ⟨b, rfl, hb, b1⟩
  clear HT
  replace b0 := below_next b0 (Nat.le_refl _) b1
  clear b1
  have hbl : b < w1.heap.size := (Array.getElem?_eq_some_iff.1 hb).1
  have HC : Hid (∀ wr : World, wr = w1 → ∀ (k : Nat) (t : Bool), T[k]? = some t → wr.cell? ⟨b, k, none⟩ = some (.bool t)) := Lib.hid fun wr hw k t hk => by
    subst hw
    rw [cell_of_row _ _ _ _ _ _ hb, List.getElem?_toArray, List.getElem?_map, hk]
    rfl
  replace hlen := Lib.hid hlen
  clear hb
  have hp : ∀ k : Nat, k ≤ 7 → Hid ((2 : Int) ^ (k + 1) = 2 * (2 : Int) ^ k) := fun k _ => Lib.hid (by rw [Int.pow_succ]; omega)
  have hp2 : ∀ k : Nat, k ≤ 7 → 1 ≤ (2 : Int) ^ k ∧ (2 : Int) ^ k ≤ 128 := fun k hk => by
    rcases (show k = 0 ∨ k = 1 ∨ k = 2 ∨ k = 3 ∨ k = 4 ∨ k = 5 ∨ k = 6 ∨ k = 7 by omega) with rfl | rfl | rfl | rfl | rfl | rfl | rfl | rfl <;> decide
  replace hp := Lib.hid hp
  replace hp2 := Lib.hid hp2
  go_wp2_with fail
  go_loop [6, 7, 8] (fun n m i => ∃ (k : Nat) (x y : Int), k ≤ 7 ∧ i = .int .i64 k ∧ n = .int .i64 x ∧ m = .int .i64 y ∧ Hid (x = wtTo T k) ∧ Hid (y = (2 : Int) ^ k)) (fun _ _ i => 7 - (intOf i).toNat)
  case atStart => exact ⟨0, 0, 1, Nat.zero_le _, rfl, rfl, rfl, Lib.hid rfl, Lib.hid rfl⟩
  case round =>
    obtain ⟨k, x, y, hk, rfl, rfl, rfl, hx, hy⟩ := hrel
    by_cases hlt : k < 7
    · obtain ⟨x0, x1⟩ := wtTo_128 T k hk
      rw [← hx.out] at x0 x1
      obtain ⟨q0, q1⟩ := hp2.out k hk
      rw [← hy.out] at q0 q1
      have hT : ∃ t, T[k]? = some t := ⟨T[k]'(by rw [hlen.out]; exact hlt), List.getElem?_eq_getElem _⟩
      obtain ⟨t, ht⟩ := hT
      have hcell := HC.out _ rfl k t ht
      have hy2 : Hid (2 * y = (2 : Int) ^ (k + 1)) := Lib.hid (by rw [(hp.out k hk).out, ← hy.out])
      cases t
      · have hx2 : Hid (x = wtTo T (k + 1)) := Lib.hid (by rw [wtTo_no ht, ← hx.out])
        clear ht
        go_wp2_with fail
        go_round
        case rel => exact ⟨k + 1, _, _, by omega, by go_num, rfl, rfl, hx2, hy2⟩
        case measure => simp [intOf]; omega
      · have hx2 : Hid (x + y = wtTo T (k + 1)) := Lib.hid (by rw [wtTo_yes ht, ← hx.out, ← hy.out])
        clear ht
        go_wp2_with fail
        go_round
        case rel => exact ⟨k + 1, _, _, by omega, by go_num, rfl, rfl, hx2, hy2⟩
        case measure => simp [intOf]; omega
    · obtain rfl : k = 7 := by omega
      go_wp2_with fail
      go_ret
      exact ⟨ri hx.out, b0⟩
/-- The code of rules and a candidate. -/
def rcB (r : Rul) (c : Cand) : Bool := candB c && rulB r
def rcI (b : Bool) : Int := if b then 0 else 1
set_option maxRecDepth 100000 in
set_option maxHeartbeats 4000000 in
theorem spec_code {v : Value} {r : Rul} {c : Cand} {w : World} {b : Nat} (h : Ruls w v r) (hp : CandFit c) (hc : CandAt w b c) :
    Calls Try.prog 57 #[v, .slice (some ⟨b, 0, none⟩) 1 1] w fun e w' => e = .returned (.int .i64 (rcI (rcB r c))) ∧ Below w.heap.size w w' := by
  have hr := Lib.hid h
  obtain ⟨vz, vj, rfl, hz, hj⟩ := h
  have PA := Lib.hid (rulAt_new w r.year r.least r.most vz vj 33)
  have BB : Below w.heap.size w (w.alloc (.cells #[.int .i64 r.year, .int .i64 r.least, .int .i64 r.most, vz, vj] 33)) := (Below.refl _ _).alloc (Nat.le_refl _) _
  have CA := Lib.hid (hc.below BB)
  have HI := Lib.hid (fun w => spec_IsCandidate c hp w)
  have HX : Hid (rcB r c = (candB c && rulB r)) := Lib.hid rfl
  unfold candV at HI
  clear hz hj hc
  generalize rcB r c = rc at *
  generalize candB c = cb at *
  cases cb
  · go_enter Try.func57, Try.ntmps57
    go_wp2_with fail
    go_loopw [5] (fun i wr => i = .int .i64 0 ∧ Below w.heap.size w wr ∧ Hid (CandAt wr b c)) (fun _ _ => 0)
    case atStart => exact ⟨rfl, BB, CA⟩
    case round =>
      obtain ⟨rfl, B1, C1⟩ := hrel
      obtain ⟨⟨cb0, d0, d1, d2, d3, d4⟩, d5, d6, d7, d8⟩ := C1.out
      clear BB CA
      go_wp2_with fail
      refine (HI.out _).mono ?_
      rintro e w1 ⟨rfl, b1⟩
      replace B1 := below_next B1 (Nat.le_refl _) b1
      clear d0 d1 d2 d3 d4 d5 d6 d7 d8
      go_wp2_with fail
      go_ret
      exact ⟨ri (by rw [HX.out]; rfl), B1⟩
  · have HX2 : Hid (rc = rulB r) := Lib.hid (by rw [HX.out]; rfl)
    clear HX
    go_enter Try.func57, Try.ntmps57
    go_wp2_with fail
    go_loopw [5] (fun i wr => ∃ k : Nat, k ≤ 1 ∧ i = .int .i64 k ∧ Below w.heap.size w wr ∧ Hid (CandAt wr b c) ∧ Hid (RulAt wr w.heap.size r.year r.least r.most vz vj)) (fun i _ => 1 - (intOf i).toNat)
    case atStart => exact ⟨0, by omega, rfl, BB, CA, PA⟩
    case round =>
      obtain ⟨k, hk, rfl, B1, C1, P1⟩ := hrel
      clear BB CA PA
      by_cases hlt : k < 1
      · obtain rfl : k = 0 := by omega
        obtain ⟨⟨cb0, d0, d1, d2, d3, d4⟩, d5, d6, d7, d8⟩ := C1.out
        go_wp2_with fail
        refine (HI.out _).mono ?_
        rintro e w1 ⟨rfl, b1⟩
        replace B1 := below_next B1 (Nat.le_refl _) b1
        replace C1 := Lib.hid (C1.out.below b1)
        replace P1 := Lib.hid (P1.out.below b1)
        clear d0 d1 d2 d3 d4 d5 d6 d7 d8 b1
        go_wp2_with fail
        go_roundw
        case rel => exact ⟨1, by omega, by go_num, B1, C1, P1⟩
        case measure => simp [intOf]
      · obtain rfl : k = 1 := by omega
        obtain ⟨cb, c0, c1, c2, c3, c4⟩ := P1.out
        have HA := Lib.hid (spec_AreRules (hr.out.below B1))
        generalize rulB r = rb at *
        obtain rfl := HX2.out
        cases rc
        · go_wp2_with fail
          refine HA.out.mono ?_
          rintro e w1 ⟨rfl, b1⟩
          replace B1 := below_next B1 (Nat.le_refl _) b1
          clear c0 c1 c2 c3 c4
          go_wp2_with fail
          go_ret
          exact ⟨rfl, B1⟩
        · go_wp2_with fail
          refine HA.out.mono ?_
          rintro e w1 ⟨rfl, b1⟩
          replace B1 := below_next B1 (Nat.le_refl _) b1
          clear c0 c1 c2 c3 c4
          go_wp2_with fail
          go_ret
          exact ⟨rfl, B1⟩
end Go.Proofs.Ythnilifepiihjaa
