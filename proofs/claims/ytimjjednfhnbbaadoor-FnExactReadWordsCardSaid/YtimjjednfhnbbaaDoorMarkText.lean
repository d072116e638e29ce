/-
  markText: the text of a mark.
  Conditions: each lemma names its own.
-/
import Derived.Test.YtimjjednfhnbbaaDoorPre
import Derived.Outline
import Derived.Laws.IdiomStrings
namespace Go.Proofs.YtimjjednfhnbbaaDoor
open Go.RowKit
set_option linter.unusedVariables false

def dg (k : Nat) : UInt8 := UInt8.ofNat (48 + k % 10)
/-- The digits of k, ahead of out. -/
def mtF : Nat → Nat → ByteArray → ByteArray
  | 0, _, out => out
  | f + 1, k, out => if k = 0 then out else mtF f (k / 10) (⟨#[dg k]⟩ ++ out)
def mt (k : Nat) : ByteArray := if k = 0 then ⟨#[109, 48]⟩ else ⟨#[109]⟩ ++ mtF k k ⟨#[]⟩
theorem dg_cell (k : Nat) : ((dg k).toNat : Int) = 48 + (k : Int) % 10 := by
  have h : k % 10 < 10 := Nat.mod_lt _ (by omega)
  have : (dg k).toNat = 48 + k % 10 := by
    show (48 + k % 10) % 2 ^ 8 = 48 + k % 10
    omega
  omega
theorem dg_str (w : World) (k c : Nat) (h : (w.alloc (.cells #[.int .u8 (48 + (k : Int) % 10)] 5)).cell? ⟨w.heap.size, 0, none⟩ = some (.int .u8 (48 + (k : Int) % 10))) :
    (convert 41 9 (.slice (some ⟨w.heap.size, 0, none⟩) 1 c)).run Tryd.prog (w.alloc (.cells #[.int .u8 (48 + (k : Int) % 10)] 5)) = .ok (.string ⟨#[dg k]⟩) (w.alloc (.cells #[.int .u8 (48 + (k : Int) % 10)] 5)) :=
  run_convert_bytes_back (P := Tryd.prog) _ 41 9 5 ⟨w.heap.size, 0, none⟩ c [dg k] (by kernel_rfl) (by kernel_rfl) (by kernel_rfl) (fun j hj => by
    obtain rfl : j = 0 := by simp at hj; omega
    show (w.alloc (.cells #[.int .u8 (48 + (k : Int) % 10)] 5)).cell? ⟨w.heap.size, 0, none⟩ = some (.int .u8 ((dg k).toNat : Int))
    rw [h, dg_cell])
set_option maxRecDepth 100000 in
set_option maxHeartbeats 1000000 in
theorem markText_c (k : Nat) (hk : (k : Int) ≤ 100000000) (w : World) : Calls Tryd.prog 44 #[.int .i64 (k : Int)] w fun e w' => e = .returned (.string (mt k)) ∧ Below w.heap.size w w' := by
  by_cases h0 : k = 0
  · subst h0
    go_enter Tryd.func44, Tryd.ntmps44
    go_wp2_with fail
    go_ret
    exact ⟨rfl, Below.refl _ _⟩
  · have hpos : 0 < k := by omega
    have hm : Hid (mt k = ⟨#[109]⟩ ++ mtF k k ⟨#[]⟩) := Lib.hid (by unfold mt; rw [if_neg h0])
    clear h0
    go_enter Tryd.func44, Tryd.ntmps44
    go_wp2_with fail
    go_loopw [0, 3] (fun x o wr => ∃ (f j : Nat) (out : ByteArray), j ≤ f ∧ (out.size : Int) + (f : Int) = (k : Int) ∧ (j : Int) ≤ 100000000 ∧ x = .int .i64 j ∧ o = .string out ∧ Hid (mtF f j out = mtF k k ⟨#[]⟩) ∧ Below w.heap.size w wr) (fun x _ _ => (intOf x).toNat)
    case atStart => exact ⟨k, k, _, Nat.le_refl _, by show ((0 : Nat) : Int) + (k : Int) = k; omega, hk, rfl, rfl, Lib.hid rfl, Below.refl _ _⟩
    case round =>
      obtain ⟨f, j, out, hjf, hsz, hj, rfl, rfl, hF, BB⟩ := hrel
      rename_i wr
      by_cases hlt : 0 < j
      · go_wp2_with fail
        rw [dg_str wr j _ (World.cell?_alloc_mark _ _ _ _ _)]
        go_wp2_with fail
        obtain ⟨f, rfl⟩ : ∃ g, f = g + 1 := ⟨f - 1, by omega⟩
        have hsz2 : ((⟨#[dg j]⟩ ++ out : ByteArray).size : Int) = 1 + out.size := by
          rw [ByteArray.size_append]
          show (((1 : Nat) + out.size : Nat) : Int) = _
          omega
        have hq : Value.int .i64 ((j : Int) / 10) = Value.int .i64 ((j / 10 : Nat) : Int) := by
          rw [Int.natCast_ediv]
          rfl
        have hFF : Hid (mtF f (j / 10) (⟨#[dg j]⟩ ++ out) = mtF k k ⟨#[]⟩) := Lib.hid (by
          rw [← hF.out]
          show _ = mtF (f + 1) j out
          rw [mtF, if_neg (by omega)])
        have hB2 : Below w.heap.size w (wr.alloc (Obj.cells #[Value.int .u8 (48 + (j : Int) % 10)] 5)) := BB.alloc BB.size _
        rw [show decide (k = 0) = false from decide_eq_false (by omega)]
        refine ⟨⟨_, _, _, _, _, _, _, _, _, _, _, _, _, _, ⟨f, j / 10, ⟨#[dg j]⟩ ++ out, by omega, by omega, by omega, hq, rfl, hFF, hB2⟩, rfl⟩, ?_⟩
        show (Int.toNat ((j : Int) / 10)) < Int.toNat (j : Int)
        omega
      · obtain rfl : j = 0 := by omega
        have hF2 : Hid (out = mtF k k ⟨#[]⟩) := Lib.hid (by rw [← hF.out]; cases f <;> rfl)
        go_wp2_with fail
        go_ret
        exact ⟨by rw [hm.out, ← hF2.out]; rfl, BB⟩
end Go.Proofs.YtimjjednfhnbbaaDoor
