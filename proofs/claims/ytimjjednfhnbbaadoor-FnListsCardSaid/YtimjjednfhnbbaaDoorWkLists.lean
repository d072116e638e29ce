/-
  The walk of FnLists. Conditions: the library's variables read as they are laid.
-/
import Derived.Test.YtimjjednfhnbbaaDoorDrLst
import Derived.Test.YtimjjednfhnbbaaDoorLstB
import Derived.Test.YtimjjednfhnbbaaDoorLikeB
import Derived.Test.YtimjjednfhnbbaaDoorBig
namespace Go.Proofs.YtimjjednfhnbbaaDoor
open Go.RowKit
set_option linter.unusedVariables false

set_option maxRecDepth 100000 in
set_option maxHeartbeats 4000000 in
theorem wk_FnLists {v : Value} {bs : List Int} {w : World} (hb : Bytes w v bs) (hf : BytesFit bs) (hM : LbM w) (hE : LbE w) (hT : LbT w) :
    Calls Tryd.prog 9 #[v] w fun e w' => e = .returned (.bool true) ∧ Below w.heap.size w w' := by
  by_cases hbig : 4096 < bs.length
  · have HB := Lib.hid (big_yes hb hbig)
    go_enter Tryd.func9, Tryd.ntmps9
    go_wp2_with fail
    refine HB.out.mono ?_
    rintro e w1 ⟨rfl, rfl⟩
    go_wp2_with fail
    go_ret
    exact ⟨rfl, Below.refl _ _⟩
  · have HB := Lib.hid (big_no hb (by omega))
    have hb0 := Lib.hid hb
    replace hM := Lib.hid hM
    replace hE := Lib.hid hE
    replace hT := Lib.hid hT
    clear hbig
    go_enter Tryd.func9, Tryd.ntmps9
    go_wp2_with fail
    refine HB.out.mono ?_
    rintro e w1 ⟨rfl, rfl⟩
    clear HB
    go_wp2_with fail
    refine (DrawListText_c hb0.out hf).mono ?_
    rintro e w1 ⟨xv, xs, rfl, o1, hm, BB⟩
    replace o1 := Lib.hid o1
    have ht : Hid ((ltT xs).size ≤ 20000) := Lib.hid (by have := ltT_size (xs := xs); omega)
    have htx : Hid (valsC xs = 0 → ∀ ys c, RdLA (ltT xs) ys c → ys = xs ∧ c = 0) := Lib.hid (fun h ys c hr => lt_back h hr)
    have HI := Lib.hid (fun (w : World) (h : Ints w xv xs) (hT : LbT w) => impl_ListText h hT)
    have HS := Lib.hid (fun (w : World) (h : Ints w xv xs) => spec_ListText h)
    generalize ltT xs = t at *
    generalize valsC xs = cx at *
    clear hm
    go_wp2_with fail
    refine (HI.out _ o1.out (hT.out.below BB)).mono ?_
    rintro e w2 ⟨rfl, b2⟩
    replace o1 := Lib.hid (o1.out.below b2)
    replace BB := below_next BB (Nat.le_refl _) b2
    clear b2 HI
    go_wp2_with fail
    refine (HS.out _ o1.out).mono ?_
    rintro e w3 ⟨rfl, b3⟩
    replace o1 := Lib.hid (o1.out.below b3)
    replace BB := below_next BB (Nat.le_refl _) b3
    clear b3 HS
    go_wp2_with fail
    refine (DrawReadList_c (hb0.out.below BB) hf).mono ?_
    rintro e w4 ⟨s, rfl, hs, b4⟩
    replace o1 := Lib.hid (o1.out.below b4)
    replace BB := below_next BB (Nat.le_refl _) b4
    clear b4
    go_wp2_with fail
    refine (impl_ReadList s (by omega) (hM.out.below BB) (hE.out.below BB) (hT.out.below BB)).mono ?_
    rintro e w5 ⟨yv, ys, c, rfl, o5, b5, R⟩
    replace o1 := Lib.hid (o1.out.below b5)
    replace BB := below_next BB (Nat.le_refl _) b5
    replace R : Hid (RdLA s ys c) := Lib.hid R
    replace o5 := Lib.hid o5.ints
    clear b5
    go_wp2_with fail
    refine (spec_ReadList s (by omega) _).mono ?_
    rintro e w6 ⟨zv, zs, c', rfl, o6, b6, R'⟩
    replace o1 := Lib.hid (o1.out.below b6)
    replace o5 := Lib.hid (o5.out.below b6)
    replace BB := below_next BB (Nat.le_refl _) b6
    obtain ⟨e1, e2⟩ := rdLA_one R' R.out
    subst e1 e2
    replace o6 := Lib.hid o6.ints
    clear b6 R'
    go_wp2_with fail
    refine (likeInts_same o5.out o6.out).mono ?_
    rintro e w7 ⟨rfl, b7⟩
    replace o1 := Lib.hid (o1.out.below b7)
    replace o5 := Lib.hid (o5.out.below b7)
    replace BB := below_next BB (Nat.le_refl _) b7
    clear b7 o6
    by_cases hc : c' = 0
    · obtain ⟨e1, e2⟩ := rdLA_read R.out hc
      subst hc
      have HY := Lib.hid (fun (w : World) (h : Ints w yv zs) (hT : LbT w) => impl_ListText h hT)
      rw [e1, e2] at HY
      clear e1 e2
      go_wp2_with fail
      refine (HY.out _ o5.out (hT.out.below BB)).mono ?_
      rintro e w8 ⟨rfl, b8⟩
      replace o1 := Lib.hid (o1.out.below b8)
      replace BB := below_next BB (Nat.le_refl _) b8
      clear b8 HY o5
      by_cases hcx : cx = 0
      · subst hcx
        go_wp2_with fail
        refine (impl_ReadList t (by have := ht.out; omega) (hM.out.below BB) (hE.out.below BB) (hT.out.below BB)).mono ?_
        rintro e w9 ⟨qv, qs, cz, rfl, o9, b9, RZ⟩
        replace o1 := Lib.hid (o1.out.below b9)
        replace BB := below_next BB (Nat.le_refl _) b9
        obtain ⟨e1, e2⟩ := htx.out trivial qs cz RZ
        subst e1 e2
        replace o9 := Lib.hid o9.ints
        clear b9 RZ
        go_wp2_with fail
        refine (likeInts_same o9.out o1.out).mono ?_
        rintro e w10 ⟨rfl, b10⟩
        replace BB := below_next BB (Nat.le_refl _) b10
        go_wp2_with fail
        go_ret
        exact ⟨rfl, BB⟩
      · have hn : (cx != 0) = true := by rw [bne_iff_ne]; exact hcx
        clear hcx
        go_wp2_with fail
        go_ret
        exact ⟨rfl, BB⟩
    · have hcn : (c' == 0) = false := by simpa using hc
      clear hc o5
      by_cases hcx : cx = 0
      · subst hcx
        go_wp2_with fail
        refine (impl_ReadList t (by have := ht.out; omega) (hM.out.below BB) (hE.out.below BB) (hT.out.below BB)).mono ?_
        rintro e w9 ⟨qv, qs, cz, rfl, o9, b9, RZ⟩
        replace o1 := Lib.hid (o1.out.below b9)
        replace BB := below_next BB (Nat.le_refl _) b9
        obtain ⟨e1, e2⟩ := htx.out trivial qs cz RZ
        subst e1 e2
        replace o9 := Lib.hid o9.ints
        clear b9 RZ
        go_wp2_with fail
        refine (likeInts_same o9.out o1.out).mono ?_
        rintro e w10 ⟨rfl, b10⟩
        replace BB := below_next BB (Nat.le_refl _) b10
        go_wp2_with fail
        go_ret
        exact ⟨rfl, BB⟩
      · have hn : (cx != 0) = true := by rw [bne_iff_ne]; exact hcx
        clear hcx
        go_wp2_with fail
        go_ret
        exact ⟨rfl, BB⟩
end Go.Proofs.YtimjjednfhnbbaaDoor
