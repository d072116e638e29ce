/-
  The walk of FnExactListText. Conditions: the value reads as numbers; the library's table reads as it is laid.
-/
import Derived.Test.YtimjjednfhnbbaaDoorLstT
import Derived.Test.YtimjjednfhnbbaaDoorInts
namespace Go.Proofs.YtimjjednfhnbbaaDoor
open Go.RowKit
set_option linter.unusedVariables false

set_option maxRecDepth 100000 in
set_option maxHeartbeats 4000000 in
theorem wk_FnExactListText {v : Value} {xs : List Int} {w : World} (h : Ints w v xs) (hl : LbT w) :
    Calls Tryd.prog 6 #[v] w fun e w' => e = .returned (.bool true) ∧ Below w.heap.size w w' := by
  have HP := Lib.hid h
  obtain ⟨a, n, c, rfl, H⟩ := h.parts
  have hlen := Lib.hid H.len
  have hcap := H.cap
  have hmost := H.most
  unfold maxLen at hmost
  clear H h
  by_cases hb : 1048576 < n
  · go_enter Tryd.func6, Tryd.ntmps6
    go_wp2_with fail
    go_ret
    exact ⟨rfl, Below.refl _ _⟩
  · have hn : Hid (xs.length ≤ 1048576) := Lib.hid (by have := hlen.out; omega)
    have SP := Lib.hid (fun (v : Value) (w : World) (h : Ints w v xs) => spec_ListText h)
    have IM := Lib.hid (fun (v : Value) (w : World) (h : Ints w v xs) hl => impl_ListText h hl)
    replace hl := Lib.hid hl
    generalize ltT xs = t at *
    generalize valsC xs = x at *
    go_enter Tryd.func6, Tryd.ntmps6
    go_wp2_with fail
    refine (copyInts HP.out hn.out).mono ?_
    rintro e w1 ⟨v1, rfl, i1, BB⟩
    go_wp2_with fail
    refine (SP.out _ _ i1).mono ?_
    rintro e w2 ⟨rfl, b2⟩
    replace BB := below_next BB (Nat.le_refl _) b2
    clear b2 i1
    go_wp2_with fail
    refine (copyInts (HP.out.below BB) hn.out).mono ?_
    rintro e w3 ⟨v3, rfl, i3, b3⟩
    replace BB := below_next BB (Nat.le_refl _) b3
    replace i3 := Lib.hid i3
    clear b3
    go_wp2_with fail
    refine (IM.out _ _ i3.out (hl.out.below BB)).mono ?_
    rintro e w4 ⟨rfl, b4⟩
    replace BB := below_next BB (Nat.le_refl _) b4
    replace i3 := Lib.hid (i3.out.below b4)
    clear b4
    go_wp2_with fail
    refine (copyInts (HP.out.below BB) hn.out).mono ?_
    rintro e w5 ⟨v5, rfl, i5, b5⟩
    replace BB := below_next BB (Nat.le_refl _) b5
    replace i3 := Lib.hid (i3.out.below b5)
    clear b5
    have HE := Lib.hid (eqInt64S_c i3.out i5)
    rw [decide_eq_true rfl] at HE
    go_wp2_with fail
    refine HE.out.mono ?_
    rintro e w6 ⟨rfl, m, hm⟩
    have b6 : Below w.heap.size w w6 := by rw [hm]; exact below_drewN BB m
    clear hm HE
    go_wp2_with fail
    go_ret
    exact ⟨rfl, b6⟩
end Go.Proofs.YtimjjednfhnbbaaDoor
