/-
  Sums of lists: isValue, listCode, sum, SumOf of both packages.
  Conditions: none but that the slice reads as numbers that fit an int64.
-/
import Derived.Test.YtibfpajblcfobaaDoorPre
import Derived.Test.YtibfpajblcfobaaDoorRange
namespace Go.Proofs.YtibfpajblcfobaaDoor
open Go.RowKit

def valB (x : Int) : Bool := decide (-1000000000000 ≤ x) && decide (x ≤ 1000000000000)
def valsB (xs : List Int) : Bool := allB (fun j => valB (xs.getD j 0)) xs.length
def valsC (xs : List Int) : Int := if valsB xs then (if xs.length ≤ 60 then 0 else 3) else 2
def psum (xs : List Int) : Nat → Int
  | 0 => 0
  | k + 1 => psum xs k + xs.getD k 0
def sumC (xs : List Int) : Int × Int := if valsC xs = 0 then (if valB (psum xs xs.length) then (psum xs xs.length, 0) else (0, 3)) else (0, valsC xs)

theorem psum_bd {xs : List Int} {n : Nat} (h : AllTo (fun j => valB (xs.getD j 0)) n) : ∀ k, k ≤ n → -(1000000000000 * (k : Int)) ≤ psum xs k ∧ psum xs k ≤ 1000000000000 * (k : Int)
  | 0, _ => by simp [psum]
  | k + 1, hk => by
    have ih := psum_bd h k (by omega)
    have hv := h k (by omega)
    simp only [valB, Bool.and_eq_true, decide_eq_true_eq] at hv
    unfold psum
    omega
theorem allTo_of_valsC {xs : List Int} (h : valsC xs = 0) : AllTo (fun j => valB (xs.getD j 0)) xs.length ∧ xs.length ≤ 60 := by
  unfold valsC at h
  by_cases h1 : valsB xs = true
  · rw [if_pos h1] at h
    by_cases h2 : xs.length ≤ 60
    · refine ⟨?_, h2⟩
      intro j hj
      by_cases hb : valB (xs.getD j 0) = true
      · exact hb
      · have := allB_false (p := fun j => valB (xs.getD j 0)) hj (by simpa using hb)
        unfold valsB at h1
        rw [this] at h1
        simp at h1
    · rw [if_neg h2] at h
      omega
  · rw [if_neg h1] at h
    omega
end Go.Proofs.YtibfpajblcfobaaDoor
