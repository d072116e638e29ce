/-
  The walk of FnExactJoinedList. Conditions: none but that the slice reads as persons.
-/
import Derived.Test.YtehfhpedpdofkaaJoined
namespace Go.Proofs.Ytehfhpedpdofkaa
open Go.RowKit
set_option linter.unusedVariables false

set_option maxRecDepth 100000 in
set_option maxHeartbeats 4000000 in
theorem wk_FnExactJoinedList (a1 : Int) {v : Value} {ps : List Per} {w : World} (h : Persons w v ps) (hp : PersFit ps) :
    Calls Try.prog 7 #[v, .int .i64 a1] w fun e w' => e = .returned (.bool true) ∧ Below w.heap.size w w' := by
  have hC : Hid (P_cnt (jlI ps a1) ≤ 1000000) := Lib.hid (jlI_cnt ps a1)
  have SP := Lib.hid (fun (w : World) (v : Value) (h : Persons w v ps) => spec_Joined h hp a1)
  have IM := Lib.hid (fun (w : World) (v : Value) (h : Persons w v ps) => impl_Joined h hp a1)
  have HP := Lib.hid h
  clear h
  generalize jlI ps a1 = L at *
  generalize jcode ps a1 [] = cc at *
  go_enter Try.func7, Try.ntmps7
  go_wp2_with fail
  refine (szPersonS_c HP.out hp 1048576 (by omega) (by omega)).mono ?_
  rintro e w1 ⟨r, rfl, hr, BB⟩
  rcases hr with rfl | ⟨hr0, hr1, hn⟩
  · go_wp2_with fail
    go_ret
    exact ⟨rfl, BB⟩
  · have hn' : Hid (ps.length ≤ 1048576) := Lib.hid (by omega)
    clear hn
    go_wp2_with fail
    refine (copyPersons (HP.out.below BB) hn'.out).mono ?_
    rintro e w2 ⟨v2, rfl, i2, b2⟩
    replace BB := below_next BB (Nat.le_refl _) b2
    clear b2
    go_wp2_with fail
    refine (SP.out _ _ i2).mono ?_
    rintro e w3 ⟨u0, rfl, t0, b3⟩
    replace BB := below_next BB (Nat.le_refl _) b3
    replace t0 := Lib.hid (P_reads t0)
    have hs3 := Lib.hid BB.size
    clear b3 i2
    go_wp2_with fail
    refine (toPersonS_c (HP.out.below BB) hn'.out).mono ?_
    rintro e w4 ⟨v4, rfl, o4, B3⟩
    replace BB := below_next BB (Nat.le_refl _) B3
    replace o4 := Lib.hid o4
    have h34 := Lib.hid B3.size
    have hs4 : Hid (w4.heap.size ≤ w4.heap.size) := Lib.hid (Nat.le_refl _)
    have hx : Hid (∀ k, v4.ownBlock = some k → k < w4.heap.size) := Lib.hid fun k hk => (o4.out.lt k hk).2
    go_wp2_with fail
    refine (IM.out _ _ (Row.own o4.out)).mono ?_
    rintro e w5 ⟨u5, rfl, t5, b5⟩
    replace t5 := Lib.hid t5
    replace o4 := Lib.hid (own_below o4.out b5)
    replace BB := below_next BB (Nat.le_refl _) b5
    replace B3 := below_next B3 (Nat.le_refl _) b5
    replace hs4 := Lib.hid (Nat.le_trans hs4.out b5.size)
    clear b5
    go_wp2_with fail
    refine (P_eq (P_reads t5.out) (t0.out.below B3)).mono ?_
    rintro e w6 ⟨rfl, b6⟩
    replace t5 := Lib.hid (P_below t5.out b6)
    replace o4 := Lib.hid (own_below o4.out b6)
    replace BB := below_next BB (Nat.le_refl _) b6
    replace B3 := below_next B3 (Nat.le_refl _) b6
    replace hs4 := Lib.hid (Nat.le_trans hs4.out b6.size)
    clear b6
    go_wp2_with fail
    refine (copyPersons (HP.out.below BB) hn'.out).mono ?_
    rintro e w7 ⟨v7, rfl, i7, b7⟩
    replace t5 := Lib.hid (P_below t5.out b7)
    replace o4 := Lib.hid (own_below o4.out b7)
    replace BB := below_next BB (Nat.le_refl _) b7
    replace B3 := below_next B3 (Nat.le_refl _) b7
    replace hs4 := Lib.hid (Nat.le_trans hs4.out b7.size)
    clear b7
    go_wp2_with fail
    refine (eqPersonS_same (Row.own o4.out) i7).mono ?_
    rintro e w8 ⟨rfl, b8⟩
    clear i7
    replace t5 := Lib.hid (P_below t5.out b8)
    replace o4 := Lib.hid (own_below o4.out b8)
    replace BB := below_next BB (Nat.le_refl _) b8
    replace B3 := below_next B3 (Nat.le_refl _) b8
    replace hs4 := Lib.hid (Nat.le_trans hs4.out b8.size)
    clear b8
    go_wp2_with fail
    refine (markPersonS_c 1 o4.out (by have := hn'.out; omega)).mono ?_
    rintro e w9 ⟨rfl, _, b9, g9⟩
    replace t5 := Lib.hid (P_far t5.out g9 hx.out)
    replace B3 := B3.trans b9
    replace BB := BB.trans (b9.mono hs3.out)
    replace hs4 := Lib.hid (Nat.le_trans hs4.out b9.size)
    clear b9 g9 hx o4
    go_wp2_with fail
    refine (P_eq (P_reads t5.out) (t0.out.below B3)).mono ?_
    rintro e w10 ⟨rfl, b10⟩
    replace t5 := Lib.hid (P_below t5.out b10)
    replace BB := below_next BB (Nat.le_refl _) b10
    replace B3 := below_next B3 (Nat.le_refl _) b10
    replace hs4 := Lib.hid (Nat.le_trans hs4.out b10.size)
    clear b10
    go_wp2_with fail
    refine (P_mark t5.out hs4.out hC.out).mono ?_
    rintro e w11 ⟨rfl, t6, b11⟩
    clear t5
    have t5 := Lib.hid t6
    replace B3 := B3.trans (b11.mono h34.out)
    replace BB := BB.trans (b11.mono (Nat.le_trans hs3.out h34.out))
    replace hs4 := Lib.hid (Nat.le_trans hs4.out b11.size)
    clear t6 b11
    go_wp2_with fail
    refine (P_held (P_reads t5.out) hC.out).mono ?_
    rintro e w12 ⟨rfl, b12⟩
    replace t5 := Lib.hid (P_below t5.out b12)
    replace BB := below_next BB (Nat.le_refl _) b12
    replace B3 := below_next B3 (Nat.le_refl _) b12
    replace hs4 := Lib.hid (Nat.le_trans hs4.out b12.size)
    clear b12
    go_wp2_with fail
    refine (copyPersons (HP.out.below BB) hn'.out).mono ?_
    rintro e w13 ⟨v13, rfl, i13, b13⟩
    replace t5 := Lib.hid (P_below t5.out b13)
    replace BB := below_next BB (Nat.le_refl _) b13
    replace B3 := below_next B3 (Nat.le_refl _) b13
    replace hs4 := Lib.hid (Nat.le_trans hs4.out b13.size)
    clear b13
    go_wp2_with fail
    refine (IM.out _ _ i13).mono ?_
    rintro e w14 ⟨u14, rfl, t14, b14⟩
    replace t14 := Lib.hid (P_reads t14)
    clear i13
    replace t5 := Lib.hid (P_below t5.out b14)
    replace BB := below_next BB (Nat.le_refl _) b14
    replace B3 := below_next B3 (Nat.le_refl _) b14
    replace hs4 := Lib.hid (Nat.le_trans hs4.out b14.size)
    clear b14
    go_wp2_with fail
    refine (P_eq t14.out (t0.out.below B3)).mono ?_
    rintro e w15 ⟨rfl, b15⟩
    clear t14
    replace t5 := Lib.hid (P_below t5.out b15)
    replace BB := below_next BB (Nat.le_refl _) b15
    replace B3 := below_next B3 (Nat.le_refl _) b15
    replace hs4 := Lib.hid (Nat.le_trans hs4.out b15.size)
    clear b15
    go_wp2_with fail
    refine (P_held (P_reads t5.out) hC.out).mono ?_
    rintro e w16 ⟨rfl, b16⟩
    replace t5 := Lib.hid (P_below t5.out b16)
    replace BB := below_next BB (Nat.le_refl _) b16
    replace B3 := below_next B3 (Nat.le_refl _) b16
    replace hs4 := Lib.hid (Nat.le_trans hs4.out b16.size)
    clear b16
    go_wp2_with fail
    go_ret
    exact ⟨rfl, BB⟩
end Go.Proofs.Ytehfhpedpdofkaa
