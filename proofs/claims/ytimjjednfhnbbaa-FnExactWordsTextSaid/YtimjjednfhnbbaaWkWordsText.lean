/-
  The walk of FnExactWordsText. Conditions: none but that the value reads as texts.
-/
import Derived.Test.YtimjjednfhnbbaaTxW
namespace Go.Proofs.Ytimjjednfhnbbaa
open Go.RowKit
set_option linter.unusedVariables false

set_option maxRecDepth 100000 in
set_option maxHeartbeats 4000000 in
theorem wk_FnExactWordsText {v : Value} {ss : List ByteArray} {w : World} (h : Strs w v ss) (hf : StrsFit ss) :
    Calls Try.prog 3 #[v] w fun e w' => e = .returned (.bool true) ∧ Below w.heap.size w w' := by
  have HP := Lib.hid h
  have SP := Lib.hid (fun (v : Value) (w : World) (h : Strs w v ss) => spec_WordsText h hf)
  have IM := Lib.hid (fun (v : Value) (w : World) (h : Strs w v ss) => impl_WordsText h hf)
  clear h
  generalize wtS ss = t at *
  generalize wtN ss = x at *
  go_enter Try.func3, Try.ntmps3
  go_wp2_with fail
  refine (szStringS_c HP.out hf 1048576 (by omega) (by omega)).mono ?_
  rintro e w' ⟨r, rfl, hr, rfl⟩
  rcases hr with rfl | ⟨hr0, hr1, hn⟩
  · go_wp2_with fail
    go_ret
    exact ⟨rfl, Below.refl _ _⟩
  · have hn' : Hid (ss.length ≤ 1048576) := Lib.hid (by omega)
    clear hn
    go_wp2_with fail
    refine (toStringS_c HP.out hn'.out).mono ?_
    rintro e w1 ⟨v1, rfl, o1, BB⟩
    go_wp2_with fail
    refine (SP.out _ _ o1.strs).mono ?_
    rintro e w2 ⟨rfl, b2⟩
    replace BB := below_next BB (Nat.le_refl _) b2
    clear b2 o1
    go_wp2_with fail
    refine (toStringS_c (HP.out.below BB) hn'.out).mono ?_
    rintro e w3 ⟨v3, rfl, o3, b3⟩
    replace BB := below_next BB (Nat.le_refl _) b3
    replace o3 := Lib.hid o3
    clear b3
    go_wp2_with fail
    refine (IM.out _ _ o3.out.strs).mono ?_
    rintro e w4 ⟨rfl, b4⟩
    replace BB := below_next BB (Nat.le_refl _) b4
    replace o3 := Lib.hid (o3.out.below b4)
    clear b4
    go_wp2_with fail
    refine (toStringS_c (HP.out.below BB) hn'.out).mono ?_
    rintro e w5 ⟨v5, rfl, o5, b5⟩
    replace BB := below_next BB (Nat.le_refl _) b5
    replace o3 := Lib.hid (o3.out.below b5)
    clear b5
    go_wp2_with fail
    refine (eqStringS_c o3.out.strs o5.strs).mono ?_
    rintro e w6 ⟨rfl, b6⟩
    replace BB := below_next BB (Nat.le_refl _) b6
    go_wp2_with fail
    go_ret
    exact ⟨rfl, BB⟩
end Go.Proofs.Ytimjjednfhnbbaa
