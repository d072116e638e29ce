/-
  The plain mathematics of a shuffle: no program in sight.
  Conditions: each lemma names its own.
-/
import Derived.Test.YthlfecalpapkdaaNext
namespace Go.Proofs.Ythlfecalpapkdaa

/-- The first n numbers. -/
def firstL (n : Nat) : List Int := (List.range n).map (fun j : Nat => (j : Int))
theorem firstL_len (n : Nat) : (firstL n).length = n := by simp [firstL]
theorem firstL_succ (n : Nat) : firstL (n + 1) = firstL n ++ [(n : Int)] := by simp [firstL, List.range_succ]
def swapL (l : List Int) (i j : Nat) : List Int := (l.set i (l.getD j 0)).set j (l.getD i 0)
theorem swapL_len (l : List Int) (i j : Nat) : (swapL l i j).length = l.length := by simp [swapL]
/-- The place that is drawn in round i, in state t. -/
def pick (t : Int) (n i : Nat) : Nat := (t * ((n : Int) - i) / 2147483647).toNat
/-- The numbers and the state after i rounds. -/
def shufTo (s : Int) (n : Nat) : Nat → List Int × Int
  | 0 => (firstL n, s)
  | i + 1 => (swapL (shufTo s n i).1 i (i + pick (nx (shufTo s n i).2) n i), nx (shufTo s n i).2)
def shufL (s : Int) (n : Nat) : List Int := (shufTo s n (n - 1)).1
theorem shufTo_len (s : Int) (n : Nat) : ∀ i, (shufTo s n i).1.length = n := by
  intro i
  induction i with
  | zero => exact firstL_len n
  | succ i ih => simp only [shufTo]; rw [swapL_len]; exact ih
theorem shufL_len (s : Int) (n : Nat) : (shufL s n).length = n := shufTo_len s n _
theorem shufTo_st {s : Int} (h1 : 1 ≤ s) (h2 : s ≤ 2147483646) (n : Nat) : ∀ i, 1 ≤ (shufTo s n i).2 ∧ (shufTo s n i).2 ≤ 2147483646 := by
  intro i
  induction i with
  | zero => exact ⟨h1, h2⟩
  | succ i ih => exact ⟨nx_pos _ ih.1 ih.2, (nx_bd _).2⟩
theorem pick_bd {t : Int} (h0 : 0 ≤ t) (h1 : t ≤ 2147483646) {n i : Nat} (h : i < n) : t * ((n : Int) - i) / 2147483647 = (pick t n i : Int) ∧ i + pick t n i < n := by
  have hp : 0 ≤ t * ((n : Int) - i) := Int.mul_nonneg h0 (by omega)
  have hq : t * ((n : Int) - i) ≤ 2147483646 * ((n : Int) - i) := Int.mul_le_mul_of_nonneg_right h1 (by omega)
  have h2 : 0 ≤ t * ((n : Int) - i) / 2147483647 := by omega
  unfold pick
  constructor
  · omega
  · omega
theorem map_set {l : List Int} (i : Nat) (x : Int) : (l.map (Value.int .i64)).set i (.int .i64 x) = (l.set i x).map (Value.int .i64) := by rw [List.map_set]
end Go.Proofs.Ythlfecalpapkdaa
