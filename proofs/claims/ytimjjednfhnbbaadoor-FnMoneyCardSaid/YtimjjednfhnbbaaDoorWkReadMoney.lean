/-
  The walk of FnExactReadMoney. Conditions: the library's variables read as they are laid.
-/
import Derived.Test.YtimjjednfhnbbaaDoorRdMonI
namespace Go.Proofs.YtimjjednfhnbbaaDoor
open Go.RowKit
set_option linter.unusedVariables false

/-- What both hand back is one. -/
theorem rd_same {s : ByteArray} {r1 c1 r2 c2 : Int} (h1 : (c1 = 0 ∧ monV r1 = true ∧ monI r1 = s) ∨ (c1 = 6 ∧ r1 = 0 ∧ ∀ v, monV v = true → ¬ monI v = s)) (h2 : (c2 = 0 ∧ monV r2 = true ∧ monI r2 = s) ∨ (c2 = 6 ∧ r2 = 0 ∧ ∀ v, monV v = true → ¬ monI v = s)) : r2 = r1 ∧ c2 = c1 := by
  rcases h1 with ⟨a1, a2, a3⟩ | ⟨a1, a2, a3⟩ <;> rcases h2 with ⟨b1, b2, b3⟩ | ⟨b1, b2, b3⟩
  · refine ⟨monZ_inj (monV_small b2) (monV_small a2) ?_, by omega⟩
    rw [← monI_data, ← monI_data, a3, b3]
  · exact absurd a3 (b3 r1 a2)
  · exact absurd b3 (a3 r2 b2)
  · exact ⟨by omega, by omega⟩
set_option maxRecDepth 100000 in
set_option maxHeartbeats 4000000 in
theorem wk_FnExactReadMoney (s : ByteArray) (hs : s.size ≤ 9223372036854775807) {w : World} (hM : LbM w) (hE : LbE w) (hT : LbT w) :
    Calls Tryd.prog 5 #[.string s] w fun e w' => e = .returned (.bool true) ∧ Below w.heap.size w w' := by
  by_cases hb : 1048576 < s.size
  · go_enter Tryd.func5, Tryd.ntmps5
    go_wp2_with fail
    go_ret
    exact ⟨rfl, Below.refl _ _⟩
  · have SP := Lib.hid (fun (w : World) => spec_ReadMoney s hs w)
    have IM := Lib.hid (fun (w : World) hM hE hT => impl_ReadMoney s (by omega) (w := w) hM hE hT)
    replace hM := Lib.hid hM
    replace hE := Lib.hid hE
    replace hT := Lib.hid hT
    go_enter Tryd.func5, Tryd.ntmps5
    go_wp2_with fail
    refine (SP.out _).mono ?_
    rintro e w1 ⟨r1, c1, rfl, h1, BB⟩
    go_wp2_with fail
    refine (IM.out _ (hM.out.below BB) (hE.out.below BB) (hT.out.below BB)).mono ?_
    rintro e w2 ⟨r2, c2, rfl, h2, b2⟩
    replace BB := below_next BB (Nat.le_refl _) b2
    obtain ⟨rfl, rfl⟩ := rd_same h1 h2
    clear h1 h2
    go_wp2_with fail
    go_ret
    exact ⟨rfl, BB⟩
end Go.Proofs.YtimjjednfhnbbaaDoor
