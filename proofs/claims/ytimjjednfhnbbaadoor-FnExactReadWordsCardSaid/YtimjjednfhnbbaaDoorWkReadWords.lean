/-
  The walk of FnExactReadWords. Conditions: the library's variables read as they are laid.
-/
import Derived.Test.YtimjjednfhnbbaaDoorRdW
import Derived.Test.YtimjjednfhnbbaaDoorMarkT
namespace Go.Proofs.YtimjjednfhnbbaaDoor
open Go.RowKit
set_option linter.unusedVariables false

theorem rwL_len (s : ByteArray) : (rwL s).length ≤ s.size + 1 := by
  unfold rwL
  split
  · simp
  · split
    · exact pcs_len _ _
    · simp
set_option maxRecDepth 100000 in
set_option maxHeartbeats 4000000 in
theorem wk_FnExactReadWords (s : ByteArray) (hs : s.size ≤ 9223372036854775807) {w : World} (hM : LbM w) :
    Calls Tryd.prog 3 #[.string s] w fun e w' => e = .returned (.bool true) ∧ Below w.heap.size w w' := by
  by_cases hb : 1048576 < s.size
  · go_enter Tryd.func3, Tryd.ntmps3
    go_wp2_with fail
    go_ret
    exact ⟨rfl, Below.refl _ _⟩
  · have SP := Lib.hid (fun (w : World) => spec_ReadWords s (by omega) w)
    have IM := Lib.hid (fun (w : World) hM => impl_ReadWords s (by omega) (w := w) hM)
    have hlen : Hid ((rwL s).length ≤ 2000000) := Lib.hid (by have := rwL_len s; omega)
    replace hM := Lib.hid hM
    go_enter Tryd.func3, Tryd.ntmps3
    go_wp2_with fail
    refine (SP.out _).mono ?_
    rintro e w1 ⟨u, rfl, o1, BB⟩
    have t1 := Lib.hid o1.strs
    have h1 := Lib.hid BB.size
    clear o1
    go_wp2_with fail
    refine (IM.out _ (hM.out.below BB)).mono ?_
    rintro e w2 ⟨v, rfl, o2, B1⟩
    replace o2 := Lib.hid o2
    replace BB := below_next BB (Nat.le_refl _) B1
    generalize hL : rwL s = L at *
    replace hL := Lib.hid hL
    go_wp2_with fail
    refine (eqStringS_c o2.out.strs (t1.out.below B1)).mono ?_
    rintro e w3 ⟨rfl, b3⟩
    replace o2 := Lib.hid (o2.out.below b3)
    replace B1 := below_next B1 (Nat.le_refl _) b3
    replace BB := below_next BB (Nat.le_refl _) b3
    clear b3
    go_wp2_with fail
    refine (markStringS_c o2.out B1.size hlen.out).mono ?_
    rintro e w4 ⟨rfl, o4, b4⟩
    replace o4 := Lib.hid o4
    replace B1 := B1.trans b4
    replace BB := BB.trans (b4.mono h1.out)
    clear b4 o2
    go_wp2_with fail
    refine (heldStringS_c o4.out.strs hlen.out).mono ?_
    rintro e w5 ⟨rfl, b5⟩
    replace o4 := Lib.hid (o4.out.below b5)
    replace B1 := below_next B1 (Nat.le_refl _) b5
    replace BB := below_next BB (Nat.le_refl _) b5
    clear b5
    go_wp2_with fail
    refine (IM.out _ (hM.out.below BB)).mono ?_
    rintro e w6 ⟨v6, rfl, o6, b6⟩
    replace o4 := Lib.hid (o4.out.below b6)
    replace B1 := below_next B1 (Nat.le_refl _) b6
    replace BB := below_next BB (Nat.le_refl _) b6
    have t6 : Hid (Strs w6 v6 L) := Lib.hid (by have := o6.strs; rw [hL.out] at this; exact this)
    clear b6 o6
    go_wp2_with fail
    refine (eqStringS_c t6.out (t1.out.below B1)).mono ?_
    rintro e w7 ⟨rfl, b7⟩
    replace o4 := Lib.hid (o4.out.below b7)
    replace BB := below_next BB (Nat.le_refl _) b7
    clear b7 B1 t6
    go_wp2_with fail
    refine (heldStringS_c o4.out.strs hlen.out).mono ?_
    rintro e w8 ⟨rfl, b8⟩
    replace BB := below_next BB (Nat.le_refl _) b8
    clear b8 o4
    go_wp2_with fail
    go_ret
    exact ⟨rfl, BB⟩
end Go.Proofs.YtimjjednfhnbbaaDoor
