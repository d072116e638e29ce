/-
  What the functions on days return, for all arguments at once.
  Conditions: none but that the slice reads as numbers.
-/
import Derived.Test.YtiphankcngclfaaDayLoops
import Derived.Test.YtiphankcngclfaaDayBreak
namespace Go.Proofs.Ytiphankcngclfaa
open Go.RowKit
set_option linter.unusedVariables false

def icP (xs : List Int) (d : Int) : Bool := if dcode xs [d] = 0 then courtB xs d else false
noncomputable def nxP (xs : List Int) (d : Int) : Int × Int := if dcode xs [d] = 0 then (if nextC xs d ≤ 20000 then (nextC xs d, 0) else (0, 3)) else (0, dcode xs [d])
def lsP (xs : List Int) (d : Int) : Int × Int := if dcode xs [d] = 0 then lastC xs (d + 1).toNat else (0, dcode xs [d])
noncomputable def dlP (xs : List Int) (d n : Int) : Int × Int := if dcode xs [d] = 0 then (if 0 ≤ n ∧ n ≤ 1000 then (if nextC xs (d + n) ≤ 20000 then (nextC xs (d + n), 0) else (0, 3)) else (0, 2)) else (0, dcode xs [d])
noncomputable def adP (xs : List Int) (d n : Int) : Int × Int := if dcode xs [d] = 0 then (if 0 ≤ n ∧ n ≤ 400 then (if addC xs d n.toNat ≤ 20000 then (addC xs d n.toNat, 0) else (0, 3)) else (0, 2)) else (0, dcode xs [d])
def ctP (xs : List Int) (a b : Int) : Int × Int := if dcode xs [a, b] = 0 then (cntC xs a (b - a).toNat, 0) else (0, dcode xs [a, b])
def bkP (xs : List Int) (a b : Int) : Int × Int × Int := if dcode xs [a, b] = 0 then (if 0 ≤ b - a ∧ b - a ≤ 999 then (if (brkC xs a (b - a + 1).toNat).2.2 = 0 then (0, 0, 4) else ((brkC xs a (b - a + 1).toNat).2.1, (brkC xs a (b - a + 1).toNat).2.2, 0)) else (0, 0, 2)) else (0, 0, dcode xs [a, b])

theorem impl_Ic {v : Value} {xs : List Int} {w : World} (d : Int) (h : Ints w v xs) : Calls Try.prog 15 #[v, .int .i64 d] w fun e w' => e = .returned (.tuple #[.bool (icP xs d), .int .i64 (dcode xs [d])]) ∧ Below w.heap.size w w' := by
  by_cases q : dcode xs [d] = 0
  · rw [icP, if_pos q, q]; exact impl_IsCourtDay_ok d h q
  · rw [icP, if_neg q]; exact impl_IsCourtDay_bad d h q
theorem impl_Nx {v : Value} {xs : List Int} {w : World} (d : Int) (h : Ints w v xs) : Calls Try.prog 22 #[v, .int .i64 d] w fun e w' => e = .returned (.tuple #[.int .i64 (nxP xs d).1, .int .i64 (nxP xs d).2]) ∧ Below w.heap.size w w' := by
  by_cases q : dcode xs [d] = 0
  · have hh := (dcode_ok.1 q).1
    have hd := dcode_day q
    have hn := nextC_le hh hd.1
    by_cases p : nextC xs d ≤ 20000
    · rw [nxP, if_pos q, if_pos p]; exact impl_NextCourtDay_ok d _ q (nextC_is hh hd.1) (by omega) p h
    · rw [nxP, if_pos q, if_neg p]; exact impl_NextCourtDay_late d _ q (nextC_is hh hd.1) (by omega) (by omega) h
  · rw [nxP, if_neg q]; exact impl_NextCourtDay_bad d q h
theorem impl_Ls {v : Value} {xs : List Int} {w : World} (d : Int) (h : Ints w v xs) : Calls Try.prog 18 #[v, .int .i64 d] w fun e w' => e = .returned (.tuple #[.int .i64 (lsP xs d).1, .int .i64 (lsP xs d).2]) ∧ Below w.heap.size w w' := by
  by_cases q : dcode xs [d] = 0
  · rw [lsP, if_pos q]; exact impl_LastCourtDay_ok d q h
  · rw [lsP, if_neg q]; exact impl_LastCourtDay_bad d q h
theorem impl_Dl {v : Value} {xs : List Int} {w : World} (d n : Int) (h : Ints w v xs) : Calls Try.prog 24 #[v, .int .i64 d, .int .i64 n] w fun e w' => e = .returned (.tuple #[.int .i64 (dlP xs d n).1, .int .i64 (dlP xs d n).2]) ∧ Below w.heap.size w w' := by
  by_cases q : dcode xs [d] = 0
  · have hh := (dcode_ok.1 q).1
    have hd := dcode_day q
    by_cases r : 0 ≤ n ∧ n ≤ 1000
    · have hn := nextC_le hh (d := d + n) (by omega)
      by_cases p : nextC xs (d + n) ≤ 20000
      · rw [dlP, if_pos q, if_pos r, if_pos p]; exact impl_DeadlineOf_ok d n _ q r.1 r.2 (nextC_is hh (by omega)) (by omega) p h
      · rw [dlP, if_pos q, if_pos r, if_neg p]; exact impl_DeadlineOf_late d n _ q r.1 r.2 (nextC_is hh (by omega)) (by omega) (by omega) h
    · rw [dlP, if_pos q, if_neg r]; exact impl_DeadlineOf_range d n q (by omega) h
  · rw [dlP, if_neg q]; exact impl_DeadlineOf_bad d n q h
theorem impl_Ad {v : Value} {xs : List Int} {w : World} (d n : Int) (h : Ints w v xs) : Calls Try.prog 28 #[v, .int .i64 d, .int .i64 n] w fun e w' => e = .returned (.tuple #[.int .i64 (adP xs d n).1, .int .i64 (adP xs d n).2]) ∧ Below w.heap.size w w' := by
  by_cases q : dcode xs [d] = 0
  · by_cases r : 0 ≤ n ∧ n ≤ 400
    · have hn : n = (n.toNat : Int) := by omega
      by_cases p : addC xs d n.toNat ≤ 20000
      · rw [adP, if_pos q, if_pos r, if_pos p]
        generalize n.toNat = m at *
        subst hn
        exact impl_AddCourtDays_ok d m q (by omega) p h
      · rw [adP, if_pos q, if_pos r, if_neg p]
        generalize n.toNat = m at *
        subst hn
        exact impl_AddCourtDays_late d m q (by omega) (by omega) h
    · rw [adP, if_pos q, if_neg r]; exact impl_AddCourtDays_range d n q (by omega) h
  · rw [adP, if_neg q]; exact impl_AddCourtDays_bad d n q h
theorem impl_Ct {v : Value} {xs : List Int} {w : World} (a b : Int) (h : Ints w v xs) : Calls Try.prog 20 #[v, .int .i64 a, .int .i64 b] w fun e w' => e = .returned (.tuple #[.int .i64 (ctP xs a b).1, .int .i64 (ctP xs a b).2]) ∧ Below w.heap.size w w' := by
  by_cases q : dcode xs [a, b] = 0
  · rw [ctP, if_pos q]; exact impl_CountCourtDays_ok a b q h
  · rw [ctP, if_neg q]; exact impl_CountCourtDays_bad a b q h
theorem impl_Bk {v : Value} {xs : List Int} {w : World} (a b : Int) (h : Ints w v xs) : Calls Try.prog 26 #[v, .int .i64 a, .int .i64 b] w fun e w' => e = .returned (.tuple #[.int .i64 (bkP xs a b).1, .int .i64 (bkP xs a b).2.1, .int .i64 (bkP xs a b).2.2]) ∧ Below w.heap.size w w' := by
  by_cases q : dcode xs [a, b] = 0
  · by_cases r : 0 ≤ b - a ∧ b - a ≤ 999
    · by_cases p : (brkC xs a (b - a + 1).toNat).2.2 = 0
      · rw [bkP, if_pos q, if_pos r, if_pos p]; exact impl_LongestBreak_none a b q r.1 r.2 p h
      · rw [bkP, if_pos q, if_pos r, if_neg p]; exact impl_LongestBreak_ok a b q r.1 r.2 p h
    · rw [bkP, if_pos q, if_neg r]; exact impl_LongestBreak_range a b q (by omega) h
  · rw [bkP, if_neg q]; exact impl_LongestBreak_bad a b q h
theorem spec_Ic {v : Value} {xs : List Int} {w : World} (d : Int) (h : Ints w v xs) : Calls Try.prog 13 #[v, .int .i64 d] w fun e w' => e = .returned (.tuple #[.bool (icP xs d), .int .i64 (dcode xs [d])]) ∧ Below w.heap.size w w' := by
  by_cases q : dcode xs [d] = 0
  · rw [icP, if_pos q, q]; exact quiet_below (spec_IsCourtDay_ok d h q)
  · rw [icP, if_neg q]; exact quiet_below (spec_IsCourtDay_bad d h q)
theorem spec_Nx {v : Value} {xs : List Int} {w : World} (d : Int) (h : Ints w v xs) : Calls Try.prog 21 #[v, .int .i64 d] w fun e w' => e = .returned (.tuple #[.int .i64 (nxP xs d).1, .int .i64 (nxP xs d).2]) ∧ Below w.heap.size w w' := by
  by_cases q : dcode xs [d] = 0
  · have hh := (dcode_ok.1 q).1
    have hd := dcode_day q
    have hn := nextC_le hh hd.1
    by_cases p : nextC xs d ≤ 20000
    · rw [nxP, if_pos q, if_pos p]; exact quiet_below (spec_NextCourtDay_ok d _ q (nextC_is hh hd.1) (by omega) p h)
    · rw [nxP, if_pos q, if_neg p]; exact quiet_below (spec_NextCourtDay_late d _ q (nextC_is hh hd.1) (by omega) (by omega) h)
  · rw [nxP, if_neg q]; exact quiet_below (spec_NextCourtDay_bad d q h)
theorem spec_Ls {v : Value} {xs : List Int} {w : World} (d : Int) (h : Ints w v xs) : Calls Try.prog 17 #[v, .int .i64 d] w fun e w' => e = .returned (.tuple #[.int .i64 (lsP xs d).1, .int .i64 (lsP xs d).2]) ∧ Below w.heap.size w w' := by
  by_cases q : dcode xs [d] = 0
  · rw [lsP, if_pos q]; exact quiet_below (spec_LastCourtDay_ok d q h)
  · rw [lsP, if_neg q]; exact quiet_below (spec_LastCourtDay_bad d q h)
theorem spec_Dl {v : Value} {xs : List Int} {w : World} (d n : Int) (h : Ints w v xs) : Calls Try.prog 23 #[v, .int .i64 d, .int .i64 n] w fun e w' => e = .returned (.tuple #[.int .i64 (dlP xs d n).1, .int .i64 (dlP xs d n).2]) ∧ Below w.heap.size w w' := by
  by_cases q : dcode xs [d] = 0
  · have hh := (dcode_ok.1 q).1
    have hd := dcode_day q
    by_cases r : 0 ≤ n ∧ n ≤ 1000
    · have hn := nextC_le hh (d := d + n) (by omega)
      by_cases p : nextC xs (d + n) ≤ 20000
      · rw [dlP, if_pos q, if_pos r, if_pos p]; exact quiet_below (spec_DeadlineOf_ok d n _ q r.1 r.2 (nextC_is hh (by omega)) (by omega) p h)
      · rw [dlP, if_pos q, if_pos r, if_neg p]; exact quiet_below (spec_DeadlineOf_late d n _ q r.1 r.2 (nextC_is hh (by omega)) (by omega) (by omega) h)
    · rw [dlP, if_pos q, if_neg r]; exact quiet_below (spec_DeadlineOf_range d n q (by omega) h)
  · rw [dlP, if_neg q]; exact quiet_below (spec_DeadlineOf_bad d n q h)
theorem spec_Ad {v : Value} {xs : List Int} {w : World} (d n : Int) (h : Ints w v xs) : Calls Try.prog 27 #[v, .int .i64 d, .int .i64 n] w fun e w' => e = .returned (.tuple #[.int .i64 (adP xs d n).1, .int .i64 (adP xs d n).2]) ∧ Below w.heap.size w w' := by
  by_cases q : dcode xs [d] = 0
  · by_cases r : 0 ≤ n ∧ n ≤ 400
    · have hn : n = (n.toNat : Int) := by omega
      by_cases p : addC xs d n.toNat ≤ 20000
      · rw [adP, if_pos q, if_pos r, if_pos p]
        generalize n.toNat = m at *
        subst hn
        exact quiet_below (spec_AddCourtDays_ok d m q (by omega) p h)
      · rw [adP, if_pos q, if_pos r, if_neg p]
        generalize n.toNat = m at *
        subst hn
        exact quiet_below (spec_AddCourtDays_late d m q (by omega) (by omega) h)
    · rw [adP, if_pos q, if_neg r]; exact quiet_below (spec_AddCourtDays_range d n q (by omega) h)
  · rw [adP, if_neg q]; exact quiet_below (spec_AddCourtDays_bad d n q h)
theorem spec_Ct {v : Value} {xs : List Int} {w : World} (a b : Int) (h : Ints w v xs) : Calls Try.prog 19 #[v, .int .i64 a, .int .i64 b] w fun e w' => e = .returned (.tuple #[.int .i64 (ctP xs a b).1, .int .i64 (ctP xs a b).2]) ∧ Below w.heap.size w w' := by
  by_cases q : dcode xs [a, b] = 0
  · rw [ctP, if_pos q]; exact quiet_below (spec_CountCourtDays_ok a b q h)
  · rw [ctP, if_neg q]; exact quiet_below (spec_CountCourtDays_bad a b q h)
theorem spec_Bk {v : Value} {xs : List Int} {w : World} (a b : Int) (h : Ints w v xs) : Calls Try.prog 25 #[v, .int .i64 a, .int .i64 b] w fun e w' => e = .returned (.tuple #[.int .i64 (bkP xs a b).1, .int .i64 (bkP xs a b).2.1, .int .i64 (bkP xs a b).2.2]) ∧ Below w.heap.size w w' := by
  by_cases q : dcode xs [a, b] = 0
  · by_cases r : 0 ≤ b - a ∧ b - a ≤ 999
    · by_cases p : (brkC xs a (b - a + 1).toNat).2.2 = 0
      · rw [bkP, if_pos q, if_pos r, if_pos p]; exact quiet_below (spec_LongestBreak_none a b q r.1 r.2 p h)
      · rw [bkP, if_pos q, if_pos r, if_neg p]; exact quiet_below (spec_LongestBreak_ok a b q r.1 r.2 p h)
    · rw [bkP, if_pos q, if_neg r]; exact quiet_below (spec_LongestBreak_range a b q (by omega) h)
  · rw [bkP, if_neg q]; exact quiet_below (spec_LongestBreak_bad a b q h)
end Go.Proofs.Ytiphankcngclfaa
