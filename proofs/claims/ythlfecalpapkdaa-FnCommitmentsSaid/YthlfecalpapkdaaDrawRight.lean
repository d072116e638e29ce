/-
  DrawIsRightDraw: a draw that may be right.
  Conditions: none but that the code reads as bytes.
-/
import Derived.Test.YthlfecalpapkdaaDrawSt
import Derived.Test.YthlfecalpapkdaaDrawAll
namespace Go.Proofs.Ythlfecalpapkdaa
open Go.RowKit
set_option linter.unusedVariables false

def OwnIs (c : Int) (w : World) (e : Ending) (w' : World) : Prop := ∃ (v : Value) (xs : List Int), e = .returned (.tuple #[v, .int .i64 c]) ∧ w'.ownsRow w.heap.size 2 1 v xs.length (xs.map (Value.int .i64)) ∧ xs.length ≤ 200 ∧ Below w.heap.size w w'
theorem spec_SmpOwn (s n k : Int) (w : World) : Calls Try.prog 20 #[.int .i64 s, .int .i64 n, .int .i64 k] w (OwnIs (cod (okS s n k)) w) := by
  by_cases q : okN s n
  · have hn : n = (n.toNat : Int) := by have := q.2; omega
    by_cases p : 0 ≤ k ∧ k ≤ n
    · have hk : k = (k.toNat : Int) := by omega
      rw [cod_yes ⟨q, p⟩]
      generalize n.toNat = m at *
      generalize k.toNat = j at *
      subst hn hk
      refine (spec_SampleOf_ok s m j q.1.1 q.1.2 (by have := q.2; omega) (by omega)).mono fun e w' ⟨v, he, ho, hb⟩ => ⟨v, (shufL s m).take j, he, ?_, ?_, hb⟩
      · have hl : ((shufL s m).take j).length = j := by rw [List.length_take, shufL_len]; omega
        rw [hl]; exact ho
      · rw [List.length_take, shufL_len]; have := q.2; omega
    · rw [cod_no (fun h => p h.2)]
      generalize n.toNat = m at *
      subst hn
      exact (spec_SampleOf_range s m k q.1.1 q.1.2 (by have := q.2; omega) (by omega)).mono fun _ _ ⟨v, he, ho, hb⟩ => ⟨v, [], he, ho, by simp, hb⟩
  · rw [cod_no (fun h => q h.1)]
    exact (spec_SampleOf_bad s n k q).mono fun _ _ ⟨v, he, ho, hb⟩ => ⟨v, [], he, ho, by simp, hb⟩
/-- A commitment, a state, a salt, a number and a list. -/
def Ret5 (w : World) (e : Ending) (w' : World) : Prop := ∃ (cc s t n : Int) (v : Value) (xs : List Int), e = .returned (.tuple #[.int .i64 cc, .int .i64 s, .int .i64 t, .int .i64 n, v]) ∧ Ints w' v xs ∧ xs.length ≤ 201 ∧ Below w.heap.size w w'

set_option maxRecDepth 100000 in
set_option maxHeartbeats 8000000 in
theorem DrawIsRightDraw_c {v : Value} {bs : List Int} {w : World} (h : Bytes w v bs) (hf : BytesFit bs) : Calls Try.prog 38 #[v] w (Ret5 w) := by
  have BB : Below w.heap.size w w := Below.refl _ _
  go_enter Try.func38, Try.ntmps38
  go_wp2_with fail
  refine (from_c (h.below BB) hf).mono ?_
  rintro e w1 ⟨g, rfl, S, b1⟩
  replace BB := below_next BB (Nat.le_refl _) b1
  replace S := Lib.hid S
  clear b1
  go_wp2_with fail
  refine (DrawSampleOf_c (h.below BB) hf).mono ?_
  rintro e w2 ⟨x2, y2, z2, rfl, ⟨c1, c2, c3, c4, c5, c6⟩, q2⟩
  replace BB := below_next BB (Nat.le_refl _) q2
  replace S := Lib.hid (S.out.below q2)
  clear q2
  clear c1 c2 c3 c4 c5 c6
  go_wp2_with fail
  refine (DrawCommitmentOf_c (h.below BB) hf).mono ?_
  rintro e w3 ⟨x3, y3, rfl, ⟨d1, d2, d3, d4⟩, q3⟩
  replace BB := below_next BB (Nat.le_refl _) q3
  replace S := Lib.hid (S.out.below q3)
  clear q3
  clear d1 d2 d3 d4
  have HS := fun w => spec_SmpOwn x2 y2 z2 w
  generalize hk : cod (okS x2 y2 z2) = ck at HS
  replace HS := Lib.hid HS
  have hg3 := S.out.lt
  have hb3 := BB.size
  go_wp2_with fail
  refine (HS.out _).mono ?_
  rintro e w4 ⟨v, xs, rfl, ho, hxl, q4⟩
  replace BB := below_next BB (Nat.le_refl _) q4
  replace S := Lib.hid (S.out.below q4)
  clear q4
  clear HS
  have HC := fun w => spec_CommitmentOf x2 y3 w
  generalize hk2 : cod (okC x2 y3) = ck2 at HC
  generalize cmI x2 y3 = cm0 at HC
  replace HC := Lib.hid HC
  replace hk := Lib.hid hk
  replace hk2 := Lib.hid hk2
  by_cases qs : ck = 0
  · have hs1 : (ck == 0) = true := by simpa using qs
    have hs2 : (ck != 0) = false := by simpa using qs
    clear qs
    obtain ⟨a, c, rfl, hcap, hmost, hform⟩ := own_form ho
    replace hxl : xs.length ≤ 201 := by omega
    generalize hn : xs.length = n at *
    replace hn := Lib.hid hn
    unfold maxLen at hmost
    go_wp2_with fail
    refine (HC.out _).mono ?_
    rintro e w' ⟨rfl, rfl⟩
    clear HC
    replace hform : 0 < n → ∃ g, a = some ⟨g, 0, none⟩ ∧ w.heap.size ≤ g := fun h => by obtain ⟨g, h1, h2, _⟩ := hform h; exact ⟨g, h1, Nat.le_trans hb3 h2⟩
    by_cases qc : ck2 = 0
    · have hc1 : (ck2 == 0) = true := by simpa using qc
      have hc2 : (ck2 != 0) = false := by simpa using qc
      clear qc
      go_wp2_with fail
      refine (next_c S.out 6 (by omega)).mono ?_
      rintro e w5 ⟨r5, rfl, ⟨a5, b5, z5⟩, S', p5⟩
      replace ho := own_past ho p5 hg3
      replace BB := src_below BB S.out p5
      replace S := Lib.hid S'
      clear S'
      replace b5 := b5 (by omega)
      clear z5 p5
      by_cases q6 : r5 = 0
      · have hq6 : (r5 == 0) = true := by simpa using q6
        clear q6
        go_wp2_with fail
        refine (next_c S.out 2000000000 (by omega)).mono ?_
        rintro e w6 ⟨r6, rfl, ⟨a6, b6, z6⟩, S', p6⟩
        replace ho := own_past ho p6 hg3
        replace BB := src_below BB S.out p6
        replace S := Lib.hid S'
        clear S'
        replace b6 := b6 (by omega)
        clear z6 p6
        by_cases h0 : 0 < n
        · have h01 : 0 < n := h0
          have h0b : ((n : Nat) : Int) > 0 := by omega
          go_wp2_with fail
          refine (next_c S.out 4 (by omega)).mono ?_
          rintro e w7 ⟨r7, rfl, ⟨a7, b7, z7⟩, S', p7⟩
          replace ho := own_past ho p7 hg3
          replace BB := src_below BB S.out p7
          replace S := Lib.hid S'
          clear S'
          replace b7 := b7 (by omega)
          clear z7 p7
          by_cases q4 : r7 = 0
          · have hq4 : (r7 == 0) = true := by simpa using q4
            clear q4
            go_wp2_with fail
            refine (next_c S.out (n : Int) (by omega)).mono ?_
            rintro e w8 ⟨r8, rfl, ⟨a8, b8, z8⟩, S', p8⟩
            replace ho := own_past ho p8 hg3
            replace BB := src_below BB S.out p8
            replace S := Lib.hid S'
            clear S'
            replace b8 := b8 (by omega)
            clear z8 p8
            go_wp2_with fail
            refine (next_c S.out 12 (by omega)).mono ?_
            rintro e w9 ⟨r9, rfl, ⟨a9, b9, z9⟩, S', p9⟩
            replace ho := own_past ho p9 hg3
            replace BB := src_below BB S.out p9
            replace S := Lib.hid S'
            clear S'
            replace b9 := b9 (by omega)
            clear z9 p9
            obtain ⟨gl, rfl, hgl⟩ := hform h0
            have hri : r8 = ((r8.toNat : Nat) : Int) := by omega
            generalize r8.toNat = ix at *
            subst hri
            have hix : ix < n := by omega
            have hc := ho.cellAt ix (by omega)
            rw [List.getElem?_map] at hc
            have hX := at_of (xs := xs) (k := ix) (by have := hn.out; omega)
            obtain ⟨x0, hx0⟩ := hX
            rw [hx0] at hc
            have hfz := ho.frozenAt ix
            have hst := (ho.stored ix (.int .i64 r9)).1
            rw [map_set] at hst
            have hfin := Ints.own hst
            replace BB := BB.setCell (p := ⟨gl, ix, none⟩) (show w.heap.size ≤ gl by omega) (.int .i64 r9)
            have hlx : Hid ((xs.set ix r9).length ≤ 201) := Lib.hid (by rw [List.length_set, hn.out]; omega)
            replace hfin := Lib.hid hfin
            clear hst hx0 ho
            go_wp2_with fail
            go_returns
            exact ⟨_, _, _, _, _, _, rfl, hfin.out, hlx.out, BB⟩
          · have hq4 : (r7 == 0) = false := by simpa using q4
            clear q4
            have hfin := Lib.hid (Ints.own ho)
            clear ho
            go_wp2_with fail
            go_returns
            exact ⟨_, _, _, _, _, _, rfl, hfin.out, by rw [hn.out]; omega, BB⟩
        · obtain rfl : n = 0 := by omega
          have hfin := Lib.hid (Ints.own ho)
          clear ho
          go_wp2_with fail
          go_returns
          exact ⟨_, _, _, _, _, _, rfl, hfin.out, by rw [hn.out]; omega, BB⟩
      · have hq6 : (r5 == 0) = false := by simpa using q6
        clear q6
        by_cases h0 : 0 < n
        · have h01 : 0 < n := h0
          have h0b : ((n : Nat) : Int) > 0 := by omega
          go_wp2_with fail
          refine (next_c S.out 4 (by omega)).mono ?_
          rintro e w6 ⟨r6, rfl, ⟨a6, b6, z6⟩, S', p6⟩
          replace ho := own_past ho p6 hg3
          replace BB := src_below BB S.out p6
          replace S := Lib.hid S'
          clear S'
          replace b6 := b6 (by omega)
          clear z6 p6
          by_cases q4 : r6 = 0
          · have hq4 : (r6 == 0) = true := by simpa using q4
            clear q4
            go_wp2_with fail
            refine (next_c S.out (n : Int) (by omega)).mono ?_
            rintro e w7 ⟨r7, rfl, ⟨a7, b7, z7⟩, S', p7⟩
            replace ho := own_past ho p7 hg3
            replace BB := src_below BB S.out p7
            replace S := Lib.hid S'
            clear S'
            replace b7 := b7 (by omega)
            clear z7 p7
            go_wp2_with fail
            refine (next_c S.out 12 (by omega)).mono ?_
            rintro e w8 ⟨r8, rfl, ⟨a8, b8, z8⟩, S', p8⟩
            replace ho := own_past ho p8 hg3
            replace BB := src_below BB S.out p8
            replace S := Lib.hid S'
            clear S'
            replace b8 := b8 (by omega)
            clear z8 p8
            obtain ⟨gl, rfl, hgl⟩ := hform h0
            have hri : r7 = ((r7.toNat : Nat) : Int) := by omega
            generalize r7.toNat = ix at *
            subst hri
            have hix : ix < n := by omega
            have hc := ho.cellAt ix (by omega)
            rw [List.getElem?_map] at hc
            have hX := at_of (xs := xs) (k := ix) (by have := hn.out; omega)
            obtain ⟨x0, hx0⟩ := hX
            rw [hx0] at hc
            have hfz := ho.frozenAt ix
            have hst := (ho.stored ix (.int .i64 r8)).1
            rw [map_set] at hst
            have hfin := Ints.own hst
            replace BB := BB.setCell (p := ⟨gl, ix, none⟩) (show w.heap.size ≤ gl by omega) (.int .i64 r8)
            have hlx : Hid ((xs.set ix r8).length ≤ 201) := Lib.hid (by rw [List.length_set, hn.out]; omega)
            replace hfin := Lib.hid hfin
            clear hst hx0 ho
            go_wp2_with fail
            go_returns
            exact ⟨_, _, _, _, _, _, rfl, hfin.out, hlx.out, BB⟩
          · have hq4 : (r6 == 0) = false := by simpa using q4
            clear q4
            have hfin := Lib.hid (Ints.own ho)
            clear ho
            go_wp2_with fail
            go_returns
            exact ⟨_, _, _, _, _, _, rfl, hfin.out, by rw [hn.out]; omega, BB⟩
        · obtain rfl : n = 0 := by omega
          have hfin := Lib.hid (Ints.own ho)
          clear ho
          go_wp2_with fail
          go_returns
          exact ⟨_, _, _, _, _, _, rfl, hfin.out, by rw [hn.out]; omega, BB⟩
    · have hc1 : (ck2 == 0) = false := by simpa using qc
      have hc2 : (ck2 != 0) = true := by simpa using qc
      clear qc
      go_wp2_with fail
      refine (next_c S.out 2000000000 (by omega)).mono ?_
      rintro e w5 ⟨r5, rfl, ⟨a5, b5, z5⟩, S', p5⟩
      replace ho := own_past ho p5 hg3
      replace BB := src_below BB S.out p5
      replace S := Lib.hid S'
      clear S'
      replace b5 := b5 (by omega)
      clear z5 p5
      by_cases h0 : 0 < n
      · have h01 : 0 < n := h0
        have h0b : ((n : Nat) : Int) > 0 := by omega
        go_wp2_with fail
        refine (next_c S.out 4 (by omega)).mono ?_
        rintro e w6 ⟨r6, rfl, ⟨a6, b6, z6⟩, S', p6⟩
        replace ho := own_past ho p6 hg3
        replace BB := src_below BB S.out p6
        replace S := Lib.hid S'
        clear S'
        replace b6 := b6 (by omega)
        clear z6 p6
        by_cases q4 : r6 = 0
        · have hq4 : (r6 == 0) = true := by simpa using q4
          clear q4
          go_wp2_with fail
          refine (next_c S.out (n : Int) (by omega)).mono ?_
          rintro e w7 ⟨r7, rfl, ⟨a7, b7, z7⟩, S', p7⟩
          replace ho := own_past ho p7 hg3
          replace BB := src_below BB S.out p7
          replace S := Lib.hid S'
          clear S'
          replace b7 := b7 (by omega)
          clear z7 p7
          go_wp2_with fail
          refine (next_c S.out 12 (by omega)).mono ?_
          rintro e w8 ⟨r8, rfl, ⟨a8, b8, z8⟩, S', p8⟩
          replace ho := own_past ho p8 hg3
          replace BB := src_below BB S.out p8
          replace S := Lib.hid S'
          clear S'
          replace b8 := b8 (by omega)
          clear z8 p8
          obtain ⟨gl, rfl, hgl⟩ := hform h0
          have hri : r7 = ((r7.toNat : Nat) : Int) := by omega
          generalize r7.toNat = ix at *
          subst hri
          have hix : ix < n := by omega
          have hc := ho.cellAt ix (by omega)
          rw [List.getElem?_map] at hc
          have hX := at_of (xs := xs) (k := ix) (by have := hn.out; omega)
          obtain ⟨x0, hx0⟩ := hX
          rw [hx0] at hc
          have hfz := ho.frozenAt ix
          have hst := (ho.stored ix (.int .i64 r8)).1
          rw [map_set] at hst
          have hfin := Ints.own hst
          replace BB := BB.setCell (p := ⟨gl, ix, none⟩) (show w.heap.size ≤ gl by omega) (.int .i64 r8)
          have hlx : Hid ((xs.set ix r8).length ≤ 201) := Lib.hid (by rw [List.length_set, hn.out]; omega)
          replace hfin := Lib.hid hfin
          clear hst hx0 ho
          go_wp2_with fail
          go_returns
          exact ⟨_, _, _, _, _, _, rfl, hfin.out, hlx.out, BB⟩
        · have hq4 : (r6 == 0) = false := by simpa using q4
          clear q4
          have hfin := Lib.hid (Ints.own ho)
          clear ho
          go_wp2_with fail
          go_returns
          exact ⟨_, _, _, _, _, _, rfl, hfin.out, by rw [hn.out]; omega, BB⟩
      · obtain rfl : n = 0 := by omega
        have hfin := Lib.hid (Ints.own ho)
        clear ho
        go_wp2_with fail
        go_returns
        exact ⟨_, _, _, _, _, _, rfl, hfin.out, by rw [hn.out]; omega, BB⟩
  · have hs1 : (ck == 0) = false := by simpa using qs
    have hs2 : (ck != 0) = true := by simpa using qs
    clear qs ho
    have hg4 := S.out.lt
    have hb4 := BB.size
    have ho : (w4.alloc (.cells #[.int .i64 0] 2)).ownsRow w4.heap.size 2 1 (.slice (some ⟨w4.heap.size, 0, none⟩) 1 1) 1 (([0] : List Int).map (Value.int .i64)) := World.ownsRow_lit w4 #[.int .i64 0] 1 (Nat.le_refl _) (by decide) rfl
    have BA := BB.alloc hb4 (.cells #[.int .i64 0] 2)
    have SA := Lib.hid (S.out.alloc (.cells #[.int .i64 0] 2))
    go_wp2_with fail
    refine (HC.out _).mono ?_
    rintro e w' ⟨rfl, rfl⟩
    clear HC S BB
    have hxl : Hid ((([0] : List Int)).length ≤ 201) := Lib.hid (by simp)
    replace S := SA
    replace BB := BA
    clear SA BA
    by_cases qc : ck2 = 0
    · have hc1 : (ck2 == 0) = true := by simpa using qc
      have hc2 : (ck2 != 0) = false := by simpa using qc
      clear qc
      go_wp2_with fail
      refine (next_c S.out 6 (by omega)).mono ?_
      rintro e w5 ⟨r5, rfl, ⟨a5, b5, z5⟩, S', p5⟩
      replace ho := own_past ho p5 hg4
      replace BB := src_below BB S.out p5
      replace S := Lib.hid S'
      clear S'
      replace b5 := b5 (by omega)
      clear z5 p5
      by_cases q6 : r5 = 0
      · have hq6 : (r5 == 0) = true := by simpa using q6
        clear q6
        go_wp2_with fail
        refine (next_c S.out 2000000000 (by omega)).mono ?_
        rintro e w6 ⟨r6, rfl, ⟨a6, b6, z6⟩, S', p6⟩
        replace ho := own_past ho p6 hg4
        replace BB := src_below BB S.out p6
        replace S := Lib.hid S'
        clear S'
        replace b6 := b6 (by omega)
        clear z6 p6
        go_wp2_with fail
        refine (next_c S.out 4 (by omega)).mono ?_
        rintro e w7 ⟨r7, rfl, ⟨a7, b7, z7⟩, S', p7⟩
        replace ho := own_past ho p7 hg4
        replace BB := src_below BB S.out p7
        replace S := Lib.hid S'
        clear S'
        replace b7 := b7 (by omega)
        clear z7 p7
        by_cases q4 : r7 = 0
        · have hq4 : (r7 == 0) = true := by simpa using q4
          clear q4
          go_wp2_with fail
          refine (next_c S.out 1 (by omega)).mono ?_
          rintro e w8 ⟨r8, rfl, ⟨a8, b8, z8⟩, S', p8⟩
          replace ho := own_past ho p8 hg4
          replace BB := src_below BB S.out p8
          replace S := Lib.hid S'
          clear S'
          replace b8 := b8 (by omega)
          clear z8 p8
          go_wp2_with fail
          refine (next_c S.out 12 (by omega)).mono ?_
          rintro e w9 ⟨r9, rfl, ⟨a9, b9, z9⟩, S', p9⟩
          replace ho := own_past ho p9 hg4
          replace BB := src_below BB S.out p9
          replace S := Lib.hid S'
          clear S'
          replace b9 := b9 (by omega)
          clear z9 p9
          obtain rfl : r8 = 0 := by omega
          have hc := ho.cellAt 0 (by omega)
          have hfz := ho.frozenAt 0
          have hst := (ho.stored 0 (.int .i64 r9)).1
          have hfin : Ints _ _ [r9] := Ints.own hst
          replace BB := BB.setCell (p := ⟨w4.heap.size, 0, none⟩) (show w.heap.size ≤ w4.heap.size by omega) (.int .i64 r9)
          replace hfin := Lib.hid hfin
          clear hst ho
          go_wp2_with fail
          go_returns
          exact ⟨_, _, _, _, _, _, rfl, hfin.out, by simp, BB⟩
        · have hq4 : (r7 == 0) = false := by simpa using q4
          clear q4
          have hfin : Ints _ _ [0] := Ints.own ho
          replace hfin := Lib.hid hfin
          clear ho
          go_wp2_with fail
          go_returns
          exact ⟨_, _, _, _, _, _, rfl, hfin.out, by simp, BB⟩
      · have hq6 : (r5 == 0) = false := by simpa using q6
        clear q6
        go_wp2_with fail
        refine (next_c S.out 4 (by omega)).mono ?_
        rintro e w6 ⟨r6, rfl, ⟨a6, b6, z6⟩, S', p6⟩
        replace ho := own_past ho p6 hg4
        replace BB := src_below BB S.out p6
        replace S := Lib.hid S'
        clear S'
        replace b6 := b6 (by omega)
        clear z6 p6
        by_cases q4 : r6 = 0
        · have hq4 : (r6 == 0) = true := by simpa using q4
          clear q4
          go_wp2_with fail
          refine (next_c S.out 1 (by omega)).mono ?_
          rintro e w7 ⟨r7, rfl, ⟨a7, b7, z7⟩, S', p7⟩
          replace ho := own_past ho p7 hg4
          replace BB := src_below BB S.out p7
          replace S := Lib.hid S'
          clear S'
          replace b7 := b7 (by omega)
          clear z7 p7
          go_wp2_with fail
          refine (next_c S.out 12 (by omega)).mono ?_
          rintro e w8 ⟨r8, rfl, ⟨a8, b8, z8⟩, S', p8⟩
          replace ho := own_past ho p8 hg4
          replace BB := src_below BB S.out p8
          replace S := Lib.hid S'
          clear S'
          replace b8 := b8 (by omega)
          clear z8 p8
          obtain rfl : r7 = 0 := by omega
          have hc := ho.cellAt 0 (by omega)
          have hfz := ho.frozenAt 0
          have hst := (ho.stored 0 (.int .i64 r8)).1
          have hfin : Ints _ _ [r8] := Ints.own hst
          replace BB := BB.setCell (p := ⟨w4.heap.size, 0, none⟩) (show w.heap.size ≤ w4.heap.size by omega) (.int .i64 r8)
          replace hfin := Lib.hid hfin
          clear hst ho
          go_wp2_with fail
          go_returns
          exact ⟨_, _, _, _, _, _, rfl, hfin.out, by simp, BB⟩
        · have hq4 : (r6 == 0) = false := by simpa using q4
          clear q4
          have hfin : Ints _ _ [0] := Ints.own ho
          replace hfin := Lib.hid hfin
          clear ho
          go_wp2_with fail
          go_returns
          exact ⟨_, _, _, _, _, _, rfl, hfin.out, by simp, BB⟩
    · have hc1 : (ck2 == 0) = false := by simpa using qc
      have hc2 : (ck2 != 0) = true := by simpa using qc
      clear qc
      go_wp2_with fail
      refine (next_c S.out 2000000000 (by omega)).mono ?_
      rintro e w5 ⟨r5, rfl, ⟨a5, b5, z5⟩, S', p5⟩
      replace ho := own_past ho p5 hg4
      replace BB := src_below BB S.out p5
      replace S := Lib.hid S'
      clear S'
      replace b5 := b5 (by omega)
      clear z5 p5
      go_wp2_with fail
      refine (next_c S.out 4 (by omega)).mono ?_
      rintro e w6 ⟨r6, rfl, ⟨a6, b6, z6⟩, S', p6⟩
      replace ho := own_past ho p6 hg4
      replace BB := src_below BB S.out p6
      replace S := Lib.hid S'
      clear S'
      replace b6 := b6 (by omega)
      clear z6 p6
      by_cases q4 : r6 = 0
      · have hq4 : (r6 == 0) = true := by simpa using q4
        clear q4
        go_wp2_with fail
        refine (next_c S.out 1 (by omega)).mono ?_
        rintro e w7 ⟨r7, rfl, ⟨a7, b7, z7⟩, S', p7⟩
        replace ho := own_past ho p7 hg4
        replace BB := src_below BB S.out p7
        replace S := Lib.hid S'
        clear S'
        replace b7 := b7 (by omega)
        clear z7 p7
        go_wp2_with fail
        refine (next_c S.out 12 (by omega)).mono ?_
        rintro e w8 ⟨r8, rfl, ⟨a8, b8, z8⟩, S', p8⟩
        replace ho := own_past ho p8 hg4
        replace BB := src_below BB S.out p8
        replace S := Lib.hid S'
        clear S'
        replace b8 := b8 (by omega)
        clear z8 p8
        obtain rfl : r7 = 0 := by omega
        have hc := ho.cellAt 0 (by omega)
        have hfz := ho.frozenAt 0
        have hst := (ho.stored 0 (.int .i64 r8)).1
        have hfin : Ints _ _ [r8] := Ints.own hst
        replace BB := BB.setCell (p := ⟨w4.heap.size, 0, none⟩) (show w.heap.size ≤ w4.heap.size by omega) (.int .i64 r8)
        replace hfin := Lib.hid hfin
        clear hst ho
        go_wp2_with fail
        go_returns
        exact ⟨_, _, _, _, _, _, rfl, hfin.out, by simp, BB⟩
      · have hq4 : (r6 == 0) = false := by simpa using q4
        clear q4
        have hfin : Ints _ _ [0] := Ints.own ho
        replace hfin := Lib.hid hfin
        clear ho
        go_wp2_with fail
        go_returns
        exact ⟨_, _, _, _, _, _, rfl, hfin.out, by simp, BB⟩
end Go.Proofs.Ythlfecalpapkdaa
