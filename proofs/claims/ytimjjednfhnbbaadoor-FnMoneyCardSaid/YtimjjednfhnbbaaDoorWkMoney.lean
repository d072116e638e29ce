/-
  The walk of FnMoney. Conditions: the library's variables read as they are laid.
-/
import Derived.Test.YtimjjednfhnbbaaDoorDrMon
import Derived.Test.YtimjjednfhnbbaaDoorWkReadMoney
import Derived.Test.YtimjjednfhnbbaaDoorBig
namespace Go.Proofs.YtimjjednfhnbbaaDoor
open Go.RowKit
set_option linter.unusedVariables false

/-- What ReadMoney's two results are. -/
def RdMA (s : ByteArray) (r c : Int) : Prop := (c = 0 ∧ monV r = true ∧ monI r = s) ∨ (c = 6 ∧ r = 0 ∧ ∀ v, monV v = true → ¬ monI v = s)
theorem rdMA_text {x r c : Int} (hx : monV x = true) (h : RdMA (mtS x) r c) : r = x ∧ c = 0 := by
  have e : mtS x = monI x := by unfold mtS; rw [if_pos hx]
  rw [e] at h
  exact rd_same (Or.inl ⟨rfl, hx, rfl⟩) h
theorem rdMA_read {s : ByteArray} {r c : Int} (h : RdMA s r c) (hc : c = 0) : mtS r = s ∧ mtN r = 0 := by
  rcases h with ⟨_, h1, h2⟩ | ⟨h0, _⟩
  · unfold mtS mtN
    rw [if_pos h1, if_pos h1]
    exact ⟨h2, rfl⟩
  · omega
theorem mtN_zero {x : Int} (h : mtN x = 0) : monV x = true := by
  unfold mtN at h
  cases hx : monV x with
  | true => rfl
  | false => rw [hx] at h; simp at h
theorem mtS_size {x : Int} (h0 : -9000000000000000000 ≤ x) (h1 : x ≤ 9000000000000000000) : (mtS x).size ≤ 200 := by
  unfold mtS
  split
  · have := monI_size h0 h1
    omega
  · have : (⟨#[]⟩ : ByteArray).size = 0 := rfl
    omega
set_option maxRecDepth 100000 in
set_option maxHeartbeats 4000000 in
theorem wk_FnMoney {v : Value} {bs : List Int} {w : World} (hb : Bytes w v bs) (hf : BytesFit bs) (hM : LbM w) (hE : LbE w) (hT : LbT w) :
    Calls Tryd.prog 10 #[v] w fun e w' => e = .returned (.bool true) ∧ Below w.heap.size w w' := by
  by_cases hbig : 4096 < bs.length
  · have HB := Lib.hid (big_yes hb hbig)
    go_enter Tryd.func10, Tryd.ntmps10
    go_wp2_with fail
    refine HB.out.mono ?_
    rintro e w1 ⟨rfl, rfl⟩
    go_wp2_with fail
    go_ret
    exact ⟨rfl, Below.refl _ _⟩
  · have HB := Lib.hid (big_no hb (by omega))
    have hb0 := Lib.hid hb
    replace hM := Lib.hid hM
    replace hE := Lib.hid hE
    replace hT := Lib.hid hT
    clear hbig
    go_enter Tryd.func10, Tryd.ntmps10
    go_wp2_with fail
    refine HB.out.mono ?_
    rintro e w1 ⟨rfl, rfl⟩
    clear HB
    go_wp2_with fail
    refine (DrawMoneyText_c hb0.out hf).mono ?_
    rintro e w1 ⟨x, rfl, x0, x1, BB⟩
    have ht : Hid ((mtS x).size ≤ 200) := Lib.hid (mtS_size (by omega) (by omega))
    have htx : Hid (mtN x = 0 → ∀ r c, RdMA (mtS x) r c → r = x ∧ c = 0) := Lib.hid (fun h r c => rdMA_text (mtN_zero h))
    have HI := Lib.hid (fun (w : World) (hT : LbT w) => impl_MoneyText x (w := w) hT)
    have HS := Lib.hid (fun (w : World) => spec_MoneyText x w)
    generalize mtS x = t at *
    generalize mtN x = cx at *
    go_wp2_with fail
    refine (HI.out _ (hT.out.below BB)).mono ?_
    rintro e w2 ⟨rfl, b2⟩
    replace BB := below_next BB (Nat.le_refl _) b2
    clear b2 HI
    go_wp2_with fail
    refine (HS.out _).mono ?_
    rintro e w3 ⟨rfl, b3⟩
    replace BB := below_next BB (Nat.le_refl _) b3
    clear b3 HS
    go_wp2_with fail
    refine (DrawReadMoney_c (hb0.out.below BB) hf).mono ?_
    rintro e w4 ⟨s, rfl, hs, b4⟩
    replace BB := below_next BB (Nat.le_refl _) b4
    clear b4
    go_wp2_with fail
    refine (impl_ReadMoney s (by omega) (hM.out.below BB) (hE.out.below BB) (hT.out.below BB)).mono ?_
    rintro e w5 ⟨y, c, rfl, R, b5⟩
    replace BB := below_next BB (Nat.le_refl _) b5
    clear b5
    go_wp2_with fail
    refine (spec_ReadMoney s (by omega) _).mono ?_
    rintro e w6 ⟨y', c', rfl, R', b6⟩
    replace BB := below_next BB (Nat.le_refl _) b6
    obtain ⟨rfl, rfl⟩ := rd_same R' R
    replace R : Hid (RdMA s y c) := Lib.hid R
    clear b6 R'
    by_cases hc : c = 0
    · obtain ⟨e1, e2⟩ := rdMA_read R.out hc
      subst hc
      have HY := Lib.hid (fun (w : World) (hT : LbT w) => impl_MoneyText y (w := w) hT)
      rw [e1, e2] at HY
      clear e1 e2
      go_wp2_with fail
      refine (HY.out _ (hT.out.below BB)).mono ?_
      rintro e w7 ⟨rfl, b7⟩
      replace BB := below_next BB (Nat.le_refl _) b7
      clear b7 HY
      by_cases hcx : cx = 0
      · subst hcx
        go_wp2_with fail
        refine (impl_ReadMoney t (by have := ht.out; omega) (hM.out.below BB) (hE.out.below BB) (hT.out.below BB)).mono ?_
        rintro e w8 ⟨z, cz, rfl, RZ, b8⟩
        replace BB := below_next BB (Nat.le_refl _) b8
        obtain ⟨rfl, rfl⟩ := htx.out trivial z cz RZ
        clear b8 RZ
        go_wp2_with fail
        go_ret
        exact ⟨rfl, BB⟩
      · have hn : (cx != 0) = true := by rw [bne_iff_ne]; exact hcx
        clear hcx
        go_wp2_with fail
        go_ret
        exact ⟨rfl, BB⟩
    · have hcn : (c == 0) = false := by simpa using hc
      clear hc
      by_cases hcx : cx = 0
      · subst hcx
        go_wp2_with fail
        refine (impl_ReadMoney t (by have := ht.out; omega) (hM.out.below BB) (hE.out.below BB) (hT.out.below BB)).mono ?_
        rintro e w8 ⟨z, cz, rfl, RZ, b8⟩
        replace BB := below_next BB (Nat.le_refl _) b8
        obtain ⟨rfl, rfl⟩ := htx.out trivial z cz RZ
        clear b8 RZ
        go_wp2_with fail
        go_ret
        exact ⟨rfl, BB⟩
      · have hn : (cx != 0) = true := by rw [bne_iff_ne]; exact hcx
        clear hcx
        go_wp2_with fail
        go_ret
        exact ⟨rfl, BB⟩
end Go.Proofs.YtimjjednfhnbbaaDoor
