/-
  The walk of FnPersonTexts. Conditions: the library's variables read as they are laid.
-/
import Derived.Test.YtibfpajblcfobaaDoorDrPerT
import Derived.Test.YtibfpajblcfobaaDoorPerRS
import Derived.Test.YtibfpajblcfobaaDoorPerRI
import Derived.Test.YtibfpajblcfobaaDoorBig
namespace Go.Proofs.YtibfpajblcfobaaDoor
open Go.RowKit
set_option linter.unusedVariables false

theorem rdPA_read {s : ByteArray} {p : Per} {c : Int} (h : RdPA s p c) (hc : c = 0) : ptxS p = s ∧ ptxN p = 0 := by
  rcases h with ⟨_, h1, h2⟩ | ⟨h0, _⟩
  · obtain ⟨e1, e2⟩ := ptx_yes h1
    exact ⟨by rw [e2, h2], e1⟩
  · omega
theorem rdPA_text {x p : Per} {c : Int} (hx : perB x = true) (h : RdPA (perS x) p c) : p = x ∧ c = 0 := rdPA_one h (Or.inl ⟨rfl, hx, rfl⟩)
theorem rdPA_fit {s : ByteArray} {p : Per} {c : Int} (h : RdPA s p c) : PerFit p := by
  rcases h with ⟨_, h1, _⟩ | ⟨_, rfl, _⟩
  · obtain ⟨q1, q2, q3, q4, q5⟩ := (perB_iff p).1 h1
    have f1 := (word_len q2).2
    have f2 := (word_len q3).2
    rw [size_data] at f1 f2
    exact ⟨by omega, by omega, by omega, by omega, by omega⟩
  · exact ⟨by unfold per0; simp only; omega, by unfold per0; decide, by unfold per0; decide, by unfold per0; simp only; omega, by unfold per0; simp only; omega⟩
set_option maxRecDepth 100000 in
set_option maxHeartbeats 16000000 in
theorem wk_FnPersonTexts {v : Value} {bs : List Int} {w : World} (hb : Bytes w v bs) (hf : BytesFit bs) (hM : LbM w) (hE : LbE w) (hT : LbT w) :
    Calls Tryd.prog 5 #[v] w fun e w' => e = .returned (.bool true) ∧ Below w.heap.size w w' := by
  by_cases hbig : 4096 < bs.length
  · have HB := Lib.hid (big_yes hb hbig)
    go_enter Tryd.func5, Tryd.ntmps5
    go_wp2_with fail
    refine HB.out.mono ?_
    rintro e w1 ⟨rfl, rfl⟩
    go_wp2_with fail
    go_ret
    exact ⟨rfl, Below.refl _ _⟩
  · have HB := Lib.hid (big_no hb (by omega))
    have hb0 := Lib.hid hb
    replace hM := Lib.hid hM
    replace hE := Lib.hid hE
    replace hT := Lib.hid hT
    clear hbig
    go_enter Tryd.func5, Tryd.ntmps5
    go_wp2_with fail
    refine HB.out.mono ?_
    rintro e w1 ⟨rfl, rfl⟩
    clear HB
    go_wp2_with fail
    refine (DrawPersonText_c hb0.out hf).mono ?_
    rintro e w1 ⟨x, rfl, hx, BB⟩
    have hxf := Lib.hid hx.fit
    clear hx
    have HI := Lib.hid (fun (w : World) (hT : LbT w) => impl_PersonText x hxf.out (w := w) hT)
    have HS := Lib.hid (fun (w : World) => spec_PersonText x hxf.out w)
    have HP := Lib.hid (fun (w : World) => impl_IsPerson x hxf.out w)
    have hzx : Hid (ptxN x = 0 → (ptxS x).size ≤ 1000 ∧ ∀ q c, RdPA (ptxS x) q c → q = x ∧ c = 0) := Lib.hid (fun h => by
      cases hq : perB x with
      | false => rw [(ptx_no hq).1] at h; cases h
      | true => rw [(ptx_yes hq).2]; exact ⟨by have := perT_fit hq; omega, fun q c hr => rdPA_text hq hr⟩)
    have hcx : Hid (perB x = decide (ptxN x = 0)) := Lib.hid (by
      cases hq : perB x with
      | false => rw [(ptx_no hq).1]; rfl
      | true => rw [(ptx_yes hq).1]; rfl)
    generalize ptxS x = t at *
    generalize ptxN x = cx at *
    rw [hcx.out] at HP
    clear hcx hxf
    unfold perV at *
    have PX := perAt_new w1 x 27
    have bx : Below w1.heap.size w1 (w1.alloc (.cells #[.int .i64 x.number, .string x.first, .string x.last, .int .i64 x.born, .int .i64 x.zone] 27)) := (Below.refl _ _).alloc (Nat.le_refl _) _
    replace BB := below_next BB (Nat.le_refl _) bx
    clear bx
    have PC := PX
    obtain ⟨c0, c1, c2, c3, c4, c5⟩ := PC
    go_wp2_with fail
    generalize (w1.alloc (.cells #[.int .i64 x.number, .string x.first, .string x.last, .int .i64 x.born, .int .i64 x.zone] 27)) = w2 at *
    generalize w1.heap.size = xb at *
    clear c0 c1 c2 c3 c4 c5
    refine (HI.out _ (hT.out.below BB)).mono ?_
    rintro e w3 ⟨rfl, b3⟩
    replace BB := below_next BB (Nat.le_refl _) b3
    replace PX := PX.below b3
    clear b3
    clear HI
    have PC := PX
    obtain ⟨c0, c1, c2, c3, c4, c5⟩ := PC
    go_wp2_with fail
    clear c0 c1 c2 c3 c4 c5
    refine (HS.out _).mono ?_
    rintro e w4 ⟨rfl, b4⟩
    replace BB := below_next BB (Nat.le_refl _) b4
    replace PX := PX.below b4
    clear b4
    clear HS
    have PC := PX
    obtain ⟨c0, c1, c2, c3, c4, c5⟩ := PC
    go_wp2_with fail
    clear c0 c1 c2 c3 c4 c5
    refine (DrawReadPerson_c (hb0.out.below BB) hf).mono ?_
    rintro e w5 ⟨s, rfl, hs, b5⟩
    replace BB := below_next BB (Nat.le_refl _) b5
    replace PX := PX.below b5
    clear b5
    go_wp2_with fail
    refine (impl_ReadPerson s (by omega) (hM.out.below BB) (hE.out.below BB) (hT.out.below BB)).mono ?_
    rintro e w6 ⟨y, c, rfl, R, b6⟩
    replace BB := below_next BB (Nat.le_refl _) b6
    replace PX := PX.below b6
    clear b6
    replace R := Lib.hid R
    unfold perV
    have PY := perAt_new w6 y 27
    have bx : Below w6.heap.size w6 (w6.alloc (.cells #[.int .i64 y.number, .string y.first, .string y.last, .int .i64 y.born, .int .i64 y.zone] 27)) := (Below.refl _ _).alloc (Nat.le_refl _) _
    replace BB := below_next BB (Nat.le_refl _) bx
    replace PX := PX.below bx
    clear bx
    have PC := PY
    have PCPX := PX
    obtain ⟨c0, c1, c2, c3, c4, c5⟩ := PC
    obtain ⟨d00, d01, d02, d03, d04, d05⟩ := PCPX
    go_wp2_with fail
    generalize (w6.alloc (.cells #[.int .i64 y.number, .string y.first, .string y.last, .int .i64 y.born, .int .i64 y.zone] 27)) = w7 at *
    generalize w6.heap.size = yb at *
    clear c0 c1 c2 c3 c4 c5 d00 d01 d02 d03 d04 d05
    refine (spec_ReadPerson s (by omega) _).mono ?_
    rintro e w8 ⟨z, c', rfl, R', b8⟩
    replace BB := below_next BB (Nat.le_refl _) b8
    replace PX := PX.below b8
    replace PY := PY.below b8
    clear b8
    obtain ⟨e1, e2⟩ := rdPA_one R' R.out
    subst e1 e2
    clear R'
    unfold perV
    have PR := perAt_new w8 z 27
    have bx : Below w8.heap.size w8 (w8.alloc (.cells #[.int .i64 z.number, .string z.first, .string z.last, .int .i64 z.born, .int .i64 z.zone] 27)) := (Below.refl _ _).alloc (Nat.le_refl _) _
    replace BB := below_next BB (Nat.le_refl _) bx
    replace PX := PX.below bx
    replace PY := PY.below bx
    clear bx
    have PC := PR
    have PCPX := PX
    have PCPY := PY
    obtain ⟨c0, c1, c2, c3, c4, c5⟩ := PC
    obtain ⟨d00, d01, d02, d03, d04, d05⟩ := PCPX
    obtain ⟨d10, d11, d12, d13, d14, d15⟩ := PCPY
    go_wp2_with fail
    generalize (w8.alloc (.cells #[.int .i64 z.number, .string z.first, .string z.last, .int .i64 z.born, .int .i64 z.zone] 27)) = w9 at *
    generalize w8.heap.size = zb at *
    clear c0 c1 c2 c3 c4 c5 d00 d01 d02 d03 d04 d05 d10 d11 d12 d13 d14 d15
    clear PR
    by_cases hc0 : cx = 0
    · subst hc0
      obtain ⟨hz, hrd⟩ := hzx.out rfl
      rw [show decide ((0 : Int) = 0) = true from rfl] at HP
      clear hzx
      refine (HP.out _).mono ?_
      rintro e w10 ⟨rfl, b10⟩
      replace BB := below_next BB (Nat.le_refl _) b10
      replace PX := PX.below b10
      replace PY := PY.below b10
      clear b10
      clear HP
      by_cases hc : c' = 0
      · obtain ⟨e1, e2⟩ := rdPA_read R.out hc
        have hyf := Lib.hid (rdPA_fit R.out)
        subst hc
        have HY := Lib.hid (fun (w : World) (hT : LbT w) => impl_PersonText z hyf.out (w := w) hT)
        rw [e1, e2] at HY
        unfold perV at HY
        clear e1 e2 hyf
        have PC := PY
        obtain ⟨c0, c1, c2, c3, c4, c5⟩ := PC
        go_wp2_with fail
        clear c0 c1 c2 c3 c4 c5
        refine (HY.out _ (hT.out.below BB)).mono ?_
        rintro e w11 ⟨rfl, b11⟩
        replace BB := below_next BB (Nat.le_refl _) b11
        replace PX := PX.below b11
        clear b11
        clear HY PY
        go_wp2_with fail
        refine (impl_ReadPerson t (by omega) (hM.out.below BB) (hE.out.below BB) (hT.out.below BB)).mono ?_
        rintro e w12 ⟨q, cq, rfl, RQ, b12⟩
        replace BB := below_next BB (Nat.le_refl _) b12
        replace PX := PX.below b12
        clear b12
        obtain ⟨e1, e2⟩ := hrd q cq RQ
        subst e1 e2
        clear RQ hrd
        unfold perV
        have PQ := perAt_new w12 q 27
        have bx : Below w12.heap.size w12 (w12.alloc (.cells #[.int .i64 q.number, .string q.first, .string q.last, .int .i64 q.born, .int .i64 q.zone] 27)) := (Below.refl _ _).alloc (Nat.le_refl _) _
        replace BB := below_next BB (Nat.le_refl _) bx
        replace PX := PX.below bx
        clear bx
        have PC := PQ
        have PCPX := PX
        obtain ⟨c0, c1, c2, c3, c4, c5⟩ := PC
        obtain ⟨d00, d01, d02, d03, d04, d05⟩ := PCPX
        go_wp2_with fail
        go_ret
        exact ⟨rfl, BB⟩
      · have hcn : (c' == 0) = false := by simpa using hc
        clear hc PY
        go_wp2_with fail
        refine (impl_ReadPerson t (by omega) (hM.out.below BB) (hE.out.below BB) (hT.out.below BB)).mono ?_
        rintro e w12 ⟨q, cq, rfl, RQ, b12⟩
        replace BB := below_next BB (Nat.le_refl _) b12
        replace PX := PX.below b12
        clear b12
        obtain ⟨e1, e2⟩ := hrd q cq RQ
        subst e1 e2
        clear RQ hrd
        unfold perV
        have PQ := perAt_new w12 q 27
        have bx : Below w12.heap.size w12 (w12.alloc (.cells #[.int .i64 q.number, .string q.first, .string q.last, .int .i64 q.born, .int .i64 q.zone] 27)) := (Below.refl _ _).alloc (Nat.le_refl _) _
        replace BB := below_next BB (Nat.le_refl _) bx
        replace PX := PX.below bx
        clear bx
        have PC := PQ
        have PCPX := PX
        obtain ⟨c0, c1, c2, c3, c4, c5⟩ := PC
        obtain ⟨d00, d01, d02, d03, d04, d05⟩ := PCPX
        go_wp2_with fail
        go_ret
        exact ⟨rfl, BB⟩
    · rw [show decide (cx = 0) = false from decide_eq_false hc0] at HP
      have hn : (cx != 0) = true := by rw [bne_iff_ne]; exact hc0
      have hn2 : (cx == 0) = false := by rw [beq_eq_false_iff_ne]; exact hc0
      clear hc0 hzx
      refine (HP.out _).mono ?_
      rintro e w10 ⟨rfl, b10⟩
      replace BB := below_next BB (Nat.le_refl _) b10
      replace PX := PX.below b10
      replace PY := PY.below b10
      clear b10
      clear HP
      by_cases hc : c' = 0
      · obtain ⟨e1, e2⟩ := rdPA_read R.out hc
        have hyf := Lib.hid (rdPA_fit R.out)
        subst hc
        have HY := Lib.hid (fun (w : World) (hT : LbT w) => impl_PersonText z hyf.out (w := w) hT)
        rw [e1, e2] at HY
        unfold perV at HY
        clear e1 e2 hyf
        have PC := PY
        obtain ⟨c0, c1, c2, c3, c4, c5⟩ := PC
        go_wp2_with fail
        clear c0 c1 c2 c3 c4 c5
        refine (HY.out _ (hT.out.below BB)).mono ?_
        rintro e w11 ⟨rfl, b11⟩
        replace BB := below_next BB (Nat.le_refl _) b11
        replace PX := PX.below b11
        clear b11
        clear HY PY
        go_wp2_with fail
        go_ret
        exact ⟨rfl, BB⟩
      · have hcn : (c' == 0) = false := by simpa using hc
        clear hc PY
        go_wp2_with fail
        go_ret
        exact ⟨rfl, BB⟩
end Go.Proofs.YtibfpajblcfobaaDoor
