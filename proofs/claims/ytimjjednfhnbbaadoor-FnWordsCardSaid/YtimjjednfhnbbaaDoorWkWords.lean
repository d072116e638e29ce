/-
  The walk of FnWords. Conditions: the library's variables read as they are laid.
-/
import Derived.Test.YtimjjednfhnbbaaDoorDrWrd
import Derived.Test.YtimjjednfhnbbaaDoorLstB
import Derived.Test.YtimjjednfhnbbaaDoorStrLike
import Derived.Test.YtimjjednfhnbbaaDoorRdW
import Derived.Test.YtimjjednfhnbbaaDoorTxW
import Derived.Test.YtimjjednfhnbbaaDoorBig
namespace Go.Proofs.YtimjjednfhnbbaaDoor
open Go.RowKit
set_option linter.unusedVariables false

theorem rwL_fit {s : ByteArray} (hs : s.size ≤ 20000) : StrsFit (rwL s) := by
  unfold rwL
  split
  · intro p hp; simp at hp
  · split
    · exact pcs_fit (by omega)
    · intro p hp; simp at hp
set_option maxRecDepth 100000 in
set_option maxHeartbeats 4000000 in
theorem wk_FnWords {v : Value} {bs : List Int} {w : World} (hb : Bytes w v bs) (hf : BytesFit bs) (hM : LbM w) :
    Calls Tryd.prog 8 #[v] w fun e w' => e = .returned (.bool true) ∧ Below w.heap.size w w' := by
  by_cases hbig : 4096 < bs.length
  · have HB := Lib.hid (big_yes hb hbig)
    go_enter Tryd.func8, Tryd.ntmps8
    go_wp2_with fail
    refine HB.out.mono ?_
    rintro e w1 ⟨rfl, rfl⟩
    go_wp2_with fail
    go_ret
    exact ⟨rfl, Below.refl _ _⟩
  · have HB := Lib.hid (big_no hb (by omega))
    have hb0 := Lib.hid hb
    replace hM := Lib.hid hM
    clear hbig
    go_enter Tryd.func8, Tryd.ntmps8
    go_wp2_with fail
    refine HB.out.mono ?_
    rintro e w1 ⟨rfl, rfl⟩
    clear HB
    go_wp2_with fail
    refine (DrawWordsText_c hb0.out hf).mono ?_
    rintro e w1 ⟨xv, xs, rfl, o1, hm, BB⟩
    replace o1 := Lib.hid o1
    have ht : Hid ((wtS xs).size ≤ 20000) := Lib.hid (by have := wtS_size (ss := xs); omega)
    have htx : Hid (wtN xs = 0 → rwL (wtS xs) = xs ∧ rwN (wtS xs) = 0) := Lib.hid (fun h => wt_back h)
    have hfit := Lib.hid hm.fit
    have HI := Lib.hid (fun (w : World) (h : Strs w xv xs) => impl_WordsText h hfit.out)
    have HS := Lib.hid (fun (w : World) (h : Strs w xv xs) => spec_WordsText h hfit.out)
    generalize wtS xs = t at *
    generalize wtN xs = cx at *
    clear hm hfit
    go_wp2_with fail
    refine (HI.out _ o1.out).mono ?_
    rintro e w2 ⟨rfl, b2⟩
    replace o1 := Lib.hid (o1.out.below b2)
    replace BB := below_next BB (Nat.le_refl _) b2
    clear b2 HI
    go_wp2_with fail
    refine (HS.out _ o1.out).mono ?_
    rintro e w3 ⟨rfl, b3⟩
    replace o1 := Lib.hid (o1.out.below b3)
    replace BB := below_next BB (Nat.le_refl _) b3
    clear b3 HS
    go_wp2_with fail
    refine (DrawReadWords_c (hb0.out.below BB) hf).mono ?_
    rintro e w4 ⟨s, rfl, hs, b4⟩
    replace o1 := Lib.hid (o1.out.below b4)
    replace BB := below_next BB (Nat.le_refl _) b4
    clear b4
    go_wp2_with fail
    refine (impl_ReadWords s (by omega) (hM.out.below BB)).mono ?_
    rintro e w5 ⟨yv, rfl, o5, b5⟩
    replace o1 := Lib.hid (o1.out.below b5)
    replace BB := below_next BB (Nat.le_refl _) b5
    have R : Hid (rwN s = 0 → wtS (rwL s) = s ∧ wtN (rwL s) = 0) := Lib.hid (fun h => rw_read h)
    have hyf : Hid (StrsFit (rwL s)) := Lib.hid (rwL_fit hs)
    generalize hLL : rwL s = ys at *
    generalize hCC : rwN s = c' at *
    replace hLL := Lib.hid hLL
    replace hCC := Lib.hid hCC
    replace o5 := Lib.hid o5.strs
    clear b5
    go_wp2_with fail
    refine (spec_ReadWords s (by omega) _).mono ?_
    rintro e w6 ⟨zv, rfl, o6, b6⟩
    replace o1 := Lib.hid (o1.out.below b6)
    replace o5 := Lib.hid (o5.out.below b6)
    replace BB := below_next BB (Nat.le_refl _) b6
    rw [hLL.out] at o6
    rw [hCC.out]
    replace o6 := Lib.hid o6.strs
    clear b6
    go_wp2_with fail
    refine (likeTexts_c o5.out o6.out).mono ?_
    rintro e w7 ⟨rfl, b7⟩
    replace o1 := Lib.hid (o1.out.below b7)
    replace o5 := Lib.hid (o5.out.below b7)
    replace BB := below_next BB (Nat.le_refl _) b7
    clear b7 o6
    by_cases hc : c' = 0
    · obtain ⟨e1, e2⟩ := R.out hc
      subst hc
      have HY := Lib.hid (fun (w : World) (h : Strs w yv ys) => impl_WordsText h hyf.out)
      rw [e1, e2] at HY
      clear e1 e2
      go_wp2_with fail
      refine (HY.out _ o5.out).mono ?_
      rintro e w8 ⟨rfl, b8⟩
      replace o1 := Lib.hid (o1.out.below b8)
      replace BB := below_next BB (Nat.le_refl _) b8
      clear b8 HY o5
      by_cases hcx : cx = 0
      · subst hcx
        go_wp2_with fail
        refine (impl_ReadWords t (by have := ht.out; omega) (hM.out.below BB)).mono ?_
        rintro e w9 ⟨qv, rfl, o9, b9⟩
        replace o1 := Lib.hid (o1.out.below b9)
        replace BB := below_next BB (Nat.le_refl _) b9
        obtain ⟨e1, e2⟩ := htx.out trivial
        rw [e1] at o9
        rw [e2]
        replace o9 := Lib.hid o9.strs
        clear b9 e1 e2
        go_wp2_with fail
        refine (likeTexts_c o9.out o1.out).mono ?_
        rintro e w10 ⟨rfl, b10⟩
        replace BB := below_next BB (Nat.le_refl _) b10
        go_wp2_with fail
        go_ret
        exact ⟨rfl, BB⟩
      · have hn : (cx != 0) = true := by rw [bne_iff_ne]; exact hcx
        clear hcx
        go_wp2_with fail
        go_ret
        exact ⟨rfl, BB⟩
    · have hcn : (c' == 0) = false := by simpa using hc
      clear hc o5
      by_cases hcx : cx = 0
      · subst hcx
        go_wp2_with fail
        refine (impl_ReadWords t (by have := ht.out; omega) (hM.out.below BB)).mono ?_
        rintro e w9 ⟨qv, rfl, o9, b9⟩
        replace o1 := Lib.hid (o1.out.below b9)
        replace BB := below_next BB (Nat.le_refl _) b9
        obtain ⟨e1, e2⟩ := htx.out trivial
        rw [e1] at o9
        rw [e2]
        replace o9 := Lib.hid o9.strs
        clear b9 e1 e2
        go_wp2_with fail
        refine (likeTexts_c o9.out o1.out).mono ?_
        rintro e w10 ⟨rfl, b10⟩
        replace BB := below_next BB (Nat.le_refl _) b10
        go_wp2_with fail
        go_ret
        exact ⟨rfl, BB⟩
      · have hn : (cx != 0) = true := by rw [bne_iff_ne]; exact hcx
        clear hcx
        go_wp2_with fail
        go_ret
        exact ⟨rfl, BB⟩
end Go.Proofs.YtimjjednfhnbbaaDoor
