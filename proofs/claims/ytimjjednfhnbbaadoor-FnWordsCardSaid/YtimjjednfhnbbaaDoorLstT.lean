/-
  ListText, the program's and the reference's.
  Conditions: each lemma names its own.
-/
import Derived.Test.YtimjjednfhnbbaaDoorLst
namespace Go.Proofs.YtimjjednfhnbbaaDoor
open Go.RowKit
set_option linter.unusedVariables false

/-- The text that ListText hands back. -/
def ltT (xs : List Int) : ByteArray := if valsC xs = 0 then ltS xs else ⟨#[]⟩
set_option maxHeartbeats 1000000 in
theorem spec_ListText {v : Value} {xs : List Int} {w : World} (h : Ints w v xs) :
    Calls Tryd.prog 20 #[v] w fun e w' => e = .returned (.tuple #[.string (ltT xs), .int .i64 (valsC xs)]) ∧ Below w.heap.size w w' := by
  have HV := Lib.hid (spec_l01Values h)
  by_cases h0 : valsC xs = 0
  · have HT := Lib.hid (spec_text h (valsF_of h0))
    have hS : Hid (ltT xs = ltS xs) := Lib.hid (by unfold ltT; rw [if_pos h0])
    rw [h0] at HV
    have hc := Lib.hid h0
    obtain ⟨a, n, c, rfl, _⟩ := h.parts
    clear h h0
    go_enter Tryd.func20, Tryd.ntmps20
    go_wp2_with fail
    refine HV.out.mono ?_
    rintro e w' ⟨rfl, rfl⟩
    go_wp2_with fail
    refine HT.out.mono ?_
    rintro e w1 ⟨rfl, b1⟩
    go_wp2_with fail
    go_ret2
    exact ⟨rs2 hS.out.symm hc.out.symm, b1⟩
  · have hS : Hid (ltT xs = ⟨#[]⟩) := Lib.hid (by unfold ltT; rw [if_neg h0])
    have hb : (valsC xs != 0) = true := by rw [bne_iff_ne]; exact h0
    obtain ⟨a, n, c, rfl, _⟩ := h.parts
    clear h h0
    generalize hx : valsC xs = x at *
    replace hx := Lib.hid hx
    go_enter Tryd.func20, Tryd.ntmps20
    go_wp2_with fail
    refine HV.out.mono ?_
    rintro e w' ⟨rfl, rfl⟩
    go_wp2_with fail
    go_ret2
    exact ⟨rs2 hS.out.symm rfl, Below.refl _ _⟩
set_option maxHeartbeats 1000000 in
theorem impl_ListText {v : Value} {xs : List Int} {w : World} (h : Ints w v xs) (hl : LbT w) :
    Calls Tryd.prog 22 #[v] w fun e w' => e = .returned (.tuple #[.string (ltT xs), .int .i64 (valsC xs)]) ∧ Below w.heap.size w w' := by
  have HV := Lib.hid (impl_listCode h)
  by_cases h0 : valsC xs = 0
  · have HT := Lib.hid (impl_numbersText h (valsF_of h0) hl)
    have hS : Hid (ltT xs = ltS xs) := Lib.hid (by unfold ltT; rw [if_pos h0])
    rw [h0] at HV
    have hc := Lib.hid h0
    obtain ⟨a, n, c, rfl, _⟩ := h.parts
    clear h h0 hl
    go_enter Tryd.func22, Tryd.ntmps22
    go_wp2_with fail
    refine HV.out.mono ?_
    rintro e w' ⟨rfl, rfl⟩
    go_wp2_with fail
    refine HT.out.mono ?_
    rintro e w1 ⟨rfl, b1⟩
    go_wp2_with fail
    go_ret2
    exact ⟨rs2 hS.out.symm hc.out.symm, b1⟩
  · have hS : Hid (ltT xs = ⟨#[]⟩) := Lib.hid (by unfold ltT; rw [if_neg h0])
    have hb : (valsC xs != 0) = true := by rw [bne_iff_ne]; exact h0
    obtain ⟨a, n, c, rfl, _⟩ := h.parts
    clear h h0 hl
    generalize hx : valsC xs = x at *
    replace hx := Lib.hid hx
    go_enter Tryd.func22, Tryd.ntmps22
    go_wp2_with fail
    refine HV.out.mono ?_
    rintro e w' ⟨rfl, rfl⟩
    go_wp2_with fail
    go_ret2
    exact ⟨rs2 hS.out.symm rfl, Below.refl _ _⟩
end Go.Proofs.YtimjjednfhnbbaaDoor
