/-
  markText: the text of a mark.
  Conditions: each lemma names its own.
-/
import Derived.Test.YthnilifepiihjaaPre
import Derived.Outline
import Derived.Laws.IdiomStrings
namespace Go.Proofs.Ythnilifepiihjaa
open Go.RowKit
set_option linter.unusedVariables false

def dg (k : Nat) : UInt8 := UInt8.ofNat (48 + k % 10)
/-- The digits of k, ahead of out. -/
def mtF : Nat → Nat → ByteArray → ByteArray
  | 0, _, out => out
  | f + 1, k, out => if k = 0 then out else mtF f (k / 10) (⟨#[dg k]⟩ ++ out)
def mt (k : Nat) : ByteArray := if k = 0 then ⟨#[109, 48]⟩ else ⟨#[109]⟩ ++ mtF k k ⟨#[]⟩
theorem dg_cell (k : Nat) : ((dg k).toNat : Int) = 48 + (k : Int) % 10 := by
  have h : k % 10 < 10 := Nat.mod_lt _ (by omega)
  have : (dg k).toNat = 48 + k % 10 := by
    show (48 + k % 10) % 2 ^ 8 = 48 + k % 10
    omega
  omega
theorem dg_str (w : World) (k c : Nat) (h : (w.alloc (.cells #[.int .u8 (48 + (k : Int) % 10)] 5)).cell? ⟨w.heap.size, 0, none⟩ = some (.int .u8 (48 + (k : Int) % 10))) :
    (convert 41 9 (.slice (some ⟨w.heap.size, 0, none⟩) 1 c)).run Try.prog (w.alloc (.cells #[.int .u8 (48 + (k : Int) % 10)] 5)) = .ok (.string ⟨#[dg k]⟩) (w.alloc (.cells #[.int .u8 (48 + (k : Int) % 10)] 5)) :=
  run_convert_bytes_back (P := Try.prog) _ 41 9 5 ⟨w.heap.size, 0, none⟩ c [dg k] (by kernel_rfl) (by kernel_rfl) (by kernel_rfl) (fun j hj => by
    obtain rfl : j = 0 := by simp at hj; omega
    show (w.alloc (.cells #[.int .u8 (48 + (k : Int) % 10)] 5)).cell? ⟨w.heap.size, 0, none⟩ = some (.int .u8 ((dg k).toNat : Int))
    rw [h, dg_cell])
end Go.Proofs.Ythnilifepiihjaa
