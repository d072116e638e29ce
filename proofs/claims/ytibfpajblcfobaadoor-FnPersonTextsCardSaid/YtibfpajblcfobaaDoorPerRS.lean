/-
  ReadPerson, the reference's.
  Conditions: each lemma names its own.
-/
import Derived.Test.YtibfpajblcfobaaDoorPerRA
namespace Go.Proofs.YtibfpajblcfobaaDoor
open Go.RowKit
set_option linter.unusedVariables false

set_option maxRecDepth 100000 in
set_option maxHeartbeats 16000000 in
theorem spec_ReadPerson (s : ByteArray) (hs : s.size ≤ 1048576) (w : World) : Calls Tryd.prog 10 #[.string s] w (RdP s w) := by
  have BB : Below w.heap.size w (w.alloc (.cells #[.int .i64 0, .string ⟨#[]⟩, .string ⟨#[]⟩, .int .i64 0, .int .i64 0] 27)) := (Below.refl _ _).alloc (Nat.le_refl _) _
  have RA : ResAt (w.alloc (.cells #[.int .i64 0, .string ⟨#[]⟩, .string ⟨#[]⟩, .int .i64 0, .int .i64 0] 27)) w.heap.size := heap_alloc_new w _
  have HS := Lib.hid (spec_split 47 s hs (w.alloc (.cells #[.int .i64 0, .string ⟨#[]⟩, .string ⟨#[]⟩, .int .i64 0, .int .i64 0] 27)))
  have hL := Lib.hid (fun (h : (pcs 47 s).length ≠ 5) => rdp_len (s := s) h)
  have hsz : Hid (∀ t ∈ pcs 47 s, t.size ≤ 1048576) := Lib.hid (fun t ht => by have := pcs_size ht; omega)
  have hY := Lib.hid (fun (w0 w1 w2 w3 w4 : ByteArray) (n b z : Int) (h : pcs 47 s = [w0, w1, w2, w3, w4]) => rdp_yes (n := n) (b := b) (z := z) h)
  have hN := Lib.hid (fun (w0 w1 w2 w3 w4 : ByteArray) (n b z : Int) (o0 o3 o4 : Bool) (h : pcs 47 s = [w0, w1, w2, w3, w4]) => rdp_no (n := n) (b := b) (z := z) (o0 := o0) (o3 := o3) (o4 := o4) h)
  generalize pcs 47 s = pp at *
  go_enter Tryd.func10, Tryd.ntmps10
  go_wp2_with fail
  refine HS.out.mono ?_
  rintro e w1 ⟨v1, rfl, o1, b1⟩
  replace BB := below_next BB (Nat.le_refl _) b1
  replace RA := RA.below b1
  clear HS
  by_cases h5 : pp.length = 5
  · obtain ⟨t0, t1, t2, t3, t4, hp⟩ := five_of h5
    have t1' := o1.strs
    rw [hp] at t1'
    obtain ⟨bb, oo, cc, rfl, hcc, FC⟩ := five_cells t1'
    clear hL t1' o1 h5 b1
    have hs1 : Hid (t0.size ≤ 1048576 ∧ t1.size ≤ 1048576 ∧ t2.size ≤ 1048576 ∧ t3.size ≤ 1048576 ∧ t4.size ≤ 1048576) := Lib.hid ⟨hsz.out _ (by rw [hp]; simp), hsz.out _ (by rw [hp]; simp), hsz.out _ (by rw [hp]; simp), hsz.out _ (by rw [hp]; simp), hsz.out _ (by rw [hp]; simp)⟩
    replace hN := Lib.hid (fun n b z o0 o3 o4 => hN.out t0 t1 t2 t3 t4 n b z o0 o3 o4 hp)
    replace hY := Lib.hid (fun n b z => hY.out t0 t1 t2 t3 t4 n b z hp)
    clear hsz hp
    have FC0 := FC
    obtain ⟨hbb, c0, c1, c2, c3, c4⟩ := FC0
    go_wp2_with fail
    clear hbb c0 c1 c2 c3 c4
    refine (spec_num t0 hs1.out.1 _).mono ?_
    rintro e wx ⟨n, o0, rfl, R0, nb, bx⟩
    replace BB := below_next BB (Nat.le_refl _) bx
    replace RA := RA.below bx
    replace FC := FC.below bx
    replace R0 := Lib.hid R0
    clear bx
    have FC0 := FC
    obtain ⟨hbb, c0, c1, c2, c3, c4⟩ := FC0
    go_wp2_with fail
    clear hbb c0 c1 c2 c3 c4
    refine (spec_num t3 hs1.out.2.2.2.1 _).mono ?_
    rintro e wx ⟨b, o3, rfl, R3, bb2, bx⟩
    replace BB := below_next BB (Nat.le_refl _) bx
    replace RA := RA.below bx
    replace FC := FC.below bx
    replace R3 := Lib.hid R3
    clear bx
    have FC0 := FC
    obtain ⟨hbb, c0, c1, c2, c3, c4⟩ := FC0
    go_wp2_with fail
    clear hbb c0 c1 c2 c3 c4
    refine (spec_num t4 hs1.out.2.2.2.2 _).mono ?_
    rintro e wx ⟨z, o4, rfl, R4, zb, bx⟩
    replace BB := below_next BB (Nat.le_refl _) bx
    replace RA := RA.below bx
    replace FC := FC.below bx
    replace R4 := Lib.hid R4
    clear bx
    have FC0 := FC
    obtain ⟨hbb, c0, c1, c2, c3, c4⟩ := FC0
    go_wp2_with fail
    go_region
    clear hbb c0 c1 c2 c3 c4
    have hne4 : w.heap.size < wx.heap.size := RA.per.1
    have PA : PerAt ((wx.alloc (.cells #[.int .i64 n, .string t1, .string t2, .int .i64 b, .int .i64 z] 27)).drew) wx.heap.size ⟨n, t1, t2, b, z⟩ := (perAt_new wx ⟨n, t1, t2, b, z⟩ 27).below (Below.refl _ _).drew
    have bx : Below wx.heap.size wx ((wx.alloc (.cells #[.int .i64 n, .string t1, .string t2, .int .i64 b, .int .i64 z] 27)).drew) := ((Below.refl _ _).alloc (Nat.le_refl _) _).drew
    replace BB := below_next BB (Nat.le_refl _) bx
    replace RA := RA.below bx
    have hfit : Hid (PerFit ⟨n, t1, t2, b, z⟩) := Lib.hid ⟨nb, by have := hs1.out.2.1; simp only; omega, by have := hs1.out.2.2.1; simp only; omega, bb2, zb⟩
    generalize (wx.alloc (.cells #[.int .i64 n, .string t1, .string t2, .int .i64 b, .int .i64 z] 27)).drew = w5 at *
    generalize wx.heap.size = pb at *
    clear bx FC
    have hN3 := Lib.hid (hN.out n b z o0 o3 o4 R0.out R3.out R4.out)
    cases o0
    · have hr := Lib.hid (hN3.out (Or.inl rfl))
      have RP0 := RA.per
      obtain ⟨r0, r1, r2, r3, r4, r5⟩ := RA.per
      have f0 := RA.free 0
      have f1 := RA.free 1
      have f2 := RA.free 2
      have f3 := RA.free 3
      have f4 := RA.free 4
      clear hN3 hN hY PA
      clear RA
      go_wp2_with fail
      refine bodyPost_perspec (setPer_at per0 RP0) ⟨per0, 6, rfl, hr.out, setPer_below per0 BB (Nat.le_refl _)⟩
    · cases o3
      · have hr := Lib.hid (hN3.out (Or.inr (Or.inl rfl)))
        have RP0 := RA.per
        obtain ⟨r0, r1, r2, r3, r4, r5⟩ := RA.per
        have f0 := RA.free 0
        have f1 := RA.free 1
        have f2 := RA.free 2
        have f3 := RA.free 3
        have f4 := RA.free 4
        clear hN3 hN hY PA
        clear RA
        go_wp2_with fail
        refine bodyPost_perspec (setPer_at per0 RP0) ⟨per0, 6, rfl, hr.out, setPer_below per0 BB (Nat.le_refl _)⟩
      · cases o4
        · have hr := Lib.hid (hN3.out (Or.inr (Or.inr (Or.inl rfl))))
          have RP0 := RA.per
          obtain ⟨r0, r1, r2, r3, r4, r5⟩ := RA.per
          have f0 := RA.free 0
          have f1 := RA.free 1
          have f2 := RA.free 2
          have f3 := RA.free 3
          have f4 := RA.free 4
          clear hN3 hN hY PA
          clear RA
          go_wp2_with fail
          refine bodyPost_perspec (setPer_at per0 RP0) ⟨per0, 6, rfl, hr.out, setPer_below per0 BB (Nat.le_refl _)⟩
        · have HP := Lib.hid (fun w => spec_IsPerson ⟨n, t1, t2, b, z⟩ hfit.out w)
          cases hB : perB ⟨n, t1, t2, b, z⟩
          · have hr := Lib.hid (hN3.out (Or.inr (Or.inr (Or.inr hB))))
            rw [hB] at HP
            unfold perV at HP
            clear hB hN3 hN hY
            have PA0 := PA
            obtain ⟨hpb, c0, c1, c2, c3, c4⟩ := PA0
            go_wp2_with fail
            clear hpb c0 c1 c2 c3 c4
            refine (HP.out _).mono ?_
            rintro e w6 ⟨rfl, b6⟩
            replace BB := below_next BB (Nat.le_refl _) b6
            replace RA := RA.below b6
            replace PA := PA.below b6
            clear b6 HP
            have RP0 := RA.per
            obtain ⟨r0, r1, r2, r3, r4, r5⟩ := RA.per
            have f0 := RA.free 0
            have f1 := RA.free 1
            have f2 := RA.free 2
            have f3 := RA.free 3
            have f4 := RA.free 4
            clear PA
            clear RA
            go_wp2_with fail
            refine bodyPost_perspec (setPer_at per0 RP0) ⟨per0, 6, rfl, hr.out, setPer_below per0 BB (Nat.le_refl _)⟩
          · have hr := Lib.hid (hY.out n b z R0.out R3.out R4.out hB)
            rw [hB] at HP
            unfold perV at HP
            clear hB hN3 hN hY
            have PA0 := PA
            obtain ⟨hpb, c0, c1, c2, c3, c4⟩ := PA0
            go_wp2_with fail
            clear hpb c0 c1 c2 c3 c4
            refine (HP.out _).mono ?_
            rintro e w6 ⟨rfl, b6⟩
            replace BB := below_next BB (Nat.le_refl _) b6
            replace RA := RA.below b6
            replace PA := PA.below b6
            clear b6 HP
            obtain ⟨hpb, c0, c1, c2, c3, c4⟩ := PA
            have RP0 := RA.per
            obtain ⟨r0, r1, r2, r3, r4, r5⟩ := RA.per
            have f0 := RA.free 0
            have f1 := RA.free 1
            have f2 := RA.free 2
            have f3 := RA.free 3
            have f4 := RA.free 4
            clear RA
            go_wp2_with fail
            refine bodyPost_perspec (setPer_at ⟨n, t1, t2, b, z⟩ RP0) ⟨⟨n, t1, t2, b, z⟩, 0, rfl, hr.out, setPer_below ⟨n, t1, t2, b, z⟩ BB (Nat.le_refl _)⟩
  · obtain ⟨a, n, c, rfl, hn⟩ := len_ne o1.strs
    have hne : ((n : Int) != 5) = true := by rw [bne_iff_ne]; omega
    have hr := Lib.hid (hL.out h5)
    clear hn h5 o1 b1 hL hY hN
    have RP0 := RA.per
    obtain ⟨r0, r1, r2, r3, r4, r5⟩ := RA.per
    have f0 := RA.free 0
    have f1 := RA.free 1
    have f2 := RA.free 2
    have f3 := RA.free 3
    have f4 := RA.free 4
    clear RA
    go_wp2_with fail
    refine bodyPost_perspec (setPer_at per0 RP0) ⟨per0, 6, rfl, hr.out, setPer_below per0 BB (Nat.le_refl _)⟩
end Go.Proofs.YtibfpajblcfobaaDoor
