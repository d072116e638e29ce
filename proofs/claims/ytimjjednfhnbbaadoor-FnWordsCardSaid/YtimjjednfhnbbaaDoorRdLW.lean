/-
  ReadList, the program's and the reference's.
  Conditions: each lemma names its own.
-/
import Derived.Test.YtimjjednfhnbbaaDoorRdL
import Derived.Maps.AppendAt
namespace Go.Proofs.YtimjjednfhnbbaaDoor
open Go.RowKit
set_option linter.unusedVariables false

/-- What l01Numbers hands back. -/
def NumbersPost (ss : List ByteArray) (w : World) (e : Ending) (w' : World) : Prop :=
  ∃ (v : Value) (xs : List Int) (ok : Bool), e = .returned (.tuple #[v, .bool ok]) ∧ OwnJ w.heap.size v xs w' ∧ Below w.heap.size w w' ∧ ((ok = true ∧ ss = nums xs) ∨ (ok = false ∧ ∀ ys, ¬ NumOk ss ys))
set_option maxRecDepth 100000 in
set_option maxHeartbeats 4000000 in
theorem spec_numbers {v : Value} {ss : List ByteArray} {w : World} (h : Strs w v ss) (hf : StrsFit ss) (hm : ss.length ≤ 1048577) : Calls Tryd.prog 58 #[v] w (NumbersPost ss w) := by
  have HP := Lib.hid h
  have HF := Lib.hid hf
  obtain ⟨a, n, c, rfl, H⟩ := h.parts
  have hlen := Lib.hid H.len
  have hcap := H.cap
  have hmost := H.most
  unfold maxLen at hmost
  have hn : n ≤ 1048577 := by rw [← H.len]; exact hm
  clear H h hf
  obtain ⟨i0, hi, hz0, hz1, hz2⟩ := info_parts info_i64
  have hown : (w.alloc (.cells #[] 2)).ownsRow w.heap.size 2 1 (.slice (some ⟨w.heap.size, 0, none⟩) 0 0) 0 (([] : List Int).map (Value.int .i64)) := World.ownsRow_lit w #[] 0 (by omega) (by decide) rfl
  have BB : Below w.heap.size w (w.alloc (.cells #[] 2)) := (Below.refl _ _).alloc (Nat.le_refl _) _
  go_enter Tryd.func58, Tryd.ntmps58
  go_wp2_with fail
  go_loopw [4, 5] (fun o i wr => ∃ (k : Nat) (xs : List Int), k ≤ n ∧ i = .int .i64 k ∧ OwnJ w.heap.size o xs wr ∧ Below w.heap.size w wr ∧ Hid (NumsTo ss k xs)) (fun _ i _ => n - (intOf i).toNat)
  case atStart => exact ⟨0, [], Nat.zero_le _, rfl, hown, BB, Lib.hid (numsTo_zero ss)⟩
  case round =>
    obtain ⟨k, xs, hk, rfl, HO, B1, hN⟩ := hrel
    clear hown BB
    have hxl : xs.length ≤ 1048577 := by rw [numsTo_len hN.out (by rw [hlen.out]; exact hk)]; omega
    obtain ⟨a1, c1, rfl, hc1, hc2, hc3⟩ := own_form HO
    by_cases hlt : k < n
    · obtain ⟨s, hs⟩ := str_at (ss := ss) (k := k) (by have := hlen.out; omega)
      obtain ⟨a', n', c', hv', H⟩ := (HP.out.below B1).parts
      injection hv' with hv1 hv2 hv3
      subst hv1 hv2 hv3
      obtain ⟨b, o, ha, hbb, hc⟩ := H.cells (by omega)
      subst ha
      have hcell := hc k s hs
      have HS := Lib.hid (fun w => spec_signed s (HF.out.at_ hs) w)
      have HSS := Lib.hid hs
      clear hc H hs
      go_wp2_with fail
      refine (HS.out _).mono ?_
      rintro e w1 ⟨r, ok, rfl, r0, r1, hr, b1⟩
      replace HO := HO.below b1
      replace B1 := below_next B1 (Nat.le_refl _) b1
      have hsz := B1.size
      clear hcell b1 HS
      cases ok
      · have hno := Lib.hid (noSig HSS.out hr)
        clear hr HO
        go_wp2_with fail
        go_ret2
        exact ⟨_, [], false, rfl, nilJ _ _, B1, Or.inr ⟨rfl, hno.out⟩⟩
      · have hnx := Lib.hid (numsTo_succ hN.out HSS.out (sigOf_iff.1 hr).1)
        clear hr
        go_wp2_with (at_builtin; refine wpList_append_own _ rfl _ _ 33 rfl w.heap.size 2 i0 (.int .i64 0) 1 8 Tryd.underlying33 hi hz0 hz1 hz2 rfl (by decide) _ _ _ rfl (World.ownsRow.alloc HO _) ⟨w1.heap.size, 0, none⟩ 1 1 [.int .i64 r] rfl rfl ?c1 ?c2 ?c3 ?c4 ?c5 ?_)
        case c1 => exact single_at _ _ _
        case c2 => intro u hu; simp at hu; subst hu; rfl
        case c3 => unfold maxLen; omega
        case c4 => omega
        case c5 => simp; omega
        intro v' w5 hown' hgrow _
        have hB5 := below_append B1 hsz HO hgrow
        have hO5 : Hid (OwnJ w.heap.size v' (xs ++ [r]) w5) := Lib.hid (ownJ_snoc hown')
        clear hown' hgrow HO
        go_wp2_with fail
        go_roundw
        case rel => exact ⟨k + 1, _, by omega, by go_num, hO5.out, hB5, hnx⟩
        case measure => simp [intOf]; omega
    · have hall := Lib.hid (numsTo_all hN.out (by rw [hlen.out]; omega))
      replace HO := Lib.hid HO
      clear hc1 hc2 hc3
      go_wp2_with fail
      go_ret2
      exact ⟨_, xs, true, rfl, HO.out, B1, Or.inl ⟨rfl, hall.out⟩⟩
theorem ret2c {v : Value} {a : Int} (h : a = 0) : Ending.returned (.tuple #[v, .int .i64 a]) = .returned (.tuple #[v, .int .i64 0]) := by rw [h]
set_option maxRecDepth 100000 in
set_option maxHeartbeats 4000000 in
theorem spec_ReadList (s : ByteArray) (hs : s.size ≤ 1048576) (w : World) : Calls Tryd.prog 24 #[.string s] w (RdL s w) := by
  by_cases hm : s.data.toList = [45]
  · have hO : OwnJ w.heap.size (.slice (some ⟨w.heap.size, 0, none⟩) 0 0) [] (w.alloc (.cells #[] 2)) := World.ownsRow_lit w #[] 0 (by omega) (by decide) rfl
    obtain rfl := minus_of hm
    clear hm
    go_enter Tryd.func24, Tryd.ntmps24
    go_wp2_with fail
    go_ret2
    exact ⟨_, [], 0, rfl, hO, (Below.refl _ _).alloc (Nat.le_refl _) _, Or.inl ⟨rfl, rfl, rfl⟩⟩
  · have hne := minus_ne hm
    have HS := Lib.hid (spec_split 44 s hs w)
    have hl := pcs_len 44 s
    have HN := Lib.hid (fun (v : Value) (w : World) (h : Strs w v (pcs 44 s)) => spec_numbers h (pcs_fit hs) (by omega))
    replace hm := Lib.hid hm
    generalize hpp : pcs 44 s = pp at *
    replace hpp := Lib.hid hpp
    go_enter Tryd.func24, Tryd.ntmps24
    go_wp2_with fail
    refine HS.out.mono ?_
    rintro e w1 ⟨v1, rfl, o1, BB⟩
    go_wp2_with fail
    refine (HN.out _ _ o1.strs).mono ?_
    rintro e w2 ⟨v2, xs, ok, rfl, o2, b2, hr⟩
    have hb1 := BB.size
    replace BB := below_next BB (Nat.le_refl _) b2
    replace o2 := Lib.hid (o2.mono hb1)
    clear o1 HN HS b2
    rcases hr with ⟨rfl, hr⟩ | ⟨rfl, hr⟩
    · have HV := Lib.hid (spec_l01Values o2.out.ints)
      by_cases hz : valsC xs = 0
      · have hOK : Hid (NumOk (pcs 44 s) xs) := Lib.hid ⟨by rw [hpp.out]; exact hr, hz⟩
        rw [hz] at HV
        clear hr hz
        go_wp2_with fail
        refine HV.out.mono ?_
        rintro e w' ⟨rfl, rfl⟩
        go_wp2_with fail
        go_ret2
        exact ⟨_, xs, 0, rfl, o2.out, BB, Or.inr (Or.inl ⟨hm.out, hOK.out, rfl⟩)⟩
      · have hno := Lib.hid (noVals hr hz)
        have hb : (valsC xs != 0) = true := by rw [bne_iff_ne]; exact hz
        generalize valsC xs = x at *
        clear hr hz
        go_wp2_with fail
        refine HV.out.mono ?_
        rintro e w' ⟨rfl, rfl⟩
        go_wp2_with fail
        go_ret2
        exact ⟨_, [], 6, rfl, nilJ _ _, BB, Or.inr (Or.inr ⟨hm.out, by rw [hpp.out]; exact hno.out, rfl, rfl⟩)⟩
    · have hno := Lib.hid hr
      clear hr
      go_wp2_with fail
      go_ret2
      exact ⟨_, [], 6, rfl, nilJ _ _, BB, Or.inr (Or.inr ⟨hm.out, by rw [hpp.out]; exact hno.out, rfl, rfl⟩)⟩
set_option maxRecDepth 100000 in
set_option maxHeartbeats 4000000 in
theorem impl_ReadList (s : ByteArray) (hs : s.size ≤ 1048576) {w : World} (hM : LbM w) (hE : LbE w) (hT : LbT w) : Calls Tryd.prog 25 #[.string s] w (RdL s w) := by
  by_cases hm : s.data.toList = [45]
  · obtain rfl := minus_of hm
    clear hm hM hE hT
    go_enter Tryd.func25, Tryd.ntmps25
    go_wp2_with fail
    go_ret2
    exact ⟨_, [], 0, rfl, nilJ _ _, Below.refl _ _, Or.inl ⟨rfl, rfl, rfl⟩⟩
  · have hne := minus_ne hm
    obtain ⟨i0, hi, hz0, hz1, hz2⟩ := info_parts info_i64
    have hown : OwnJ w.heap.size (.slice (some ⟨w.heap.size, 0, none⟩) 0 0) [] (w.alloc (.cells #[] 2)) := World.ownsRow_lit w #[] 0 (by omega) (by decide) rfl
    have BB : Below w.heap.size w (w.alloc (.cells #[] 2)) := (Below.refl _ _).alloc (Nat.le_refl _) _
    have HS := Lib.hid (impl_split 44 s hs (hM.below BB))
    have hl := pcs_len 44 s
    have HF : Hid (StrsFit (pcs 44 s)) := Lib.hid (pcs_fit hs)
    have HZ : Hid (∀ p ∈ pcs 44 s, p.size ≤ 1048576) := Lib.hid (fun p hp => by have := pcs_size hp; omega)
    replace hm := Lib.hid hm
    replace hE := Lib.hid hE
    replace hT := Lib.hid hT
    generalize hpp : pcs 44 s = pp at *
    replace hpp := Lib.hid hpp
    clear hM
    go_enter Tryd.func25, Tryd.ntmps25
    go_wp2_with fail
    refine HS.out.mono ?_
    rintro e w1 ⟨v1, rfl, o1, b1⟩
    replace hown := hown.below b1
    replace BB := below_next BB (Nat.le_refl _) b1
    obtain ⟨av, cv, rfl, hcv1, hcv2, hcv3⟩ := own_form o1
    unfold maxLen at hcv2
    have hpos : 0 < pp.length := by rw [← hpp.out]; exact pcs_pos 44 s
    obtain ⟨gw, rfl, hg1, hg2⟩ := hcv3 hpos
    have hne0 : Hid ((Value.slice (some ⟨w.heap.size, 0, none⟩) 0 0).ownBlock ≠ some gw) := Lib.hid (by
      simp only [Value.ownBlock]
      intro e
      injection e with e
      simp at hg1
      omega)
    replace o1 := Lib.hid o1
    clear b1 HS hpos hg1 hcv3
    generalize hnn : pp.length = n at hcv1 hl ⊢
    replace hnn := Lib.hid hnn
    replace hown := Lib.hid hown
    go_wp2_with fail
    go_loopw [4, 15] (fun o i wr => ∃ (k : Nat) (xs : List Int), k ≤ n ∧ i = .int .i64 k ∧ OwnJ w.heap.size o xs wr ∧ Below w.heap.size w wr ∧ Hid (NumsTo pp k xs) ∧ Hid (OwnT (w.alloc (.cells #[] 2)).heap.size (.slice (some ⟨gw, 0, none⟩) pp.length cv) pp wr) ∧ Hid (o.ownBlock ≠ some gw)) (fun _ i _ => n - (intOf i).toNat)
    case atStart => exact ⟨0, [], Nat.zero_le _, rfl, hown.out, BB, Lib.hid (numsTo_zero pp), o1, hne0⟩
    case round =>
      obtain ⟨k, xs, hk, rfl, HO, BW, hN, HW, hne⟩ := hrel
      clear hown o1 hne0 BB
      have hxl : xs.length ≤ 1048577 := by rw [numsTo_len hN.out (by rw [hnn.out]; exact hk)]; omega
      obtain ⟨a1, c1, rfl, hc1, hc2, hc3⟩ := own_form HO
      by_cases hlt : k < n
      · obtain ⟨p, hp⟩ := str_at (ss := pp) (k := k) (by have := hnn.out; omega)
        obtain ⟨a', n', c', hv', H⟩ := HW.out.strs.parts
        injection hv' with hv1 hv2 hv3
        obtain ⟨b, o, ha, hbb, hc⟩ := H.cells (by rw [← hv2, hnn.out]; omega)
        rw [← hv1] at ha
        injection ha with ha
        injection ha with ha1 ha2
        subst ha1 ha2
        have hcell := hc k p hp
        simp only [Nat.zero_add] at hcell
        have HD := Lib.hid (impl_readDecimal p (by have := HZ.out p (List.mem_of_getElem? hp); omega) (hE.out.below BW) (hT.out.below BW))
        have HPP := Lib.hid hp
        clear hc H hp hv1 hv2 hv3 hbb
        go_wp2_with fail
        refine HD.out.mono ?_
        rintro e w3 ⟨b3, hr⟩
        replace HO := HO.below b3
        replace HW := Lib.hid (HW.out.below b3)
        replace BW := below_next BW (Nat.le_refl _) b3
        have hsz := BW.size
        clear hcell b3 HD
        rcases hr with ⟨r, hr, rfl⟩ | ⟨hr, rfl⟩
        · have hnx := Lib.hid (numsTo_succ hN.out HPP.out (decOf_iff.1 hr).1)
          clear hr
          go_wp2_with (at_builtin; refine wpList_append_own_at _ rfl _ _ 33 rfl w.heap.size 2 i0 (.int .i64 0) 1 8 Tryd.underlying33 hi hz0 hz1 hz2 rfl (by decide) _ _ _ rfl (World.ownsRow.alloc HO _) ⟨w3.heap.size, 0, none⟩ 1 1 [.int .i64 r] rfl rfl ?c1 ?c2 ?c3 ?c4 ?c5 ?_)
          case c1 => exact single_at _ _ _
          case c2 => intro u hu; simp at hu; subst hu; rfl
          case c3 => unfold maxLen; omega
          case c4 => omega
          case c5 => simp; omega
          intro v' w5 hown' hgrow _ hat
          have hgl := (World.ownsRow.lt HW.out gw rfl).2
          have HW5 : Hid (OwnT (w.alloc (.cells #[] 2)).heap.size (.slice (some ⟨gw, 0, none⟩) pp.length cv) pp w5) := Lib.hid (World.ownsRow.kept (World.ownsRow.alloc HW.out _) hgrow (.inr (by simp only [Value.ownBlock]; exact fun e => hne.out e.symm)))
          have hB5 := below_append BW hsz HO hgrow
          have hne5 : Hid (v'.ownBlock ≠ some gw) := Lib.hid (by
            rcases hat with h | h
            · rw [h]; exact hne.out
            · rw [h]; intro e; injection e with e; first | omega | (simp at e; omega))
          have hO5 : Hid (OwnJ w.heap.size v' (xs ++ [r]) w5) := Lib.hid (ownJ_snoc hown')
          clear hown' hgrow HO hat HW hne BW hgl
          go_wp2_with fail
          go_roundw
          case rel => exact ⟨k + 1, _, by omega, by go_num, hO5.out, hB5, hnx, HW5, hne5⟩
          case measure => simp [intOf]; omega
        · have hno := Lib.hid (noDec HPP.out hr)
          clear hr HO
          go_wp2_with fail
          go_ret2
          exact ⟨_, [], 6, rfl, nilJ _ _, BW, Or.inr (Or.inr ⟨hm.out, by rw [hpp.out]; exact hno.out, rfl, rfl⟩)⟩
      · have hall := numsTo_all hN.out (by rw [hnn.out]; omega)
        have HV := Lib.hid (impl_listCode HO.ints)
        replace HO := Lib.hid HO
        clear hc1 hc2 hc3
        by_cases hz : valsC xs = 0
        · have hOK : Hid (NumOk (pcs 44 s) xs) := Lib.hid ⟨by rw [hpp.out]; exact hall, hz⟩
          rw [hz] at HV
          clear hall hz
          go_wp2_with fail
          refine HV.out.mono ?_
          rintro e w' ⟨rfl, rfl⟩
          go_wp2_with fail
          go_ret2
          exact ⟨_, xs, 0, rfl, HO.out, BW, Or.inr (Or.inl ⟨hm.out, hOK.out, rfl⟩)⟩
        · have hno := Lib.hid (noVals hall hz)
          have hb : (valsC xs != 0) = true := by rw [bne_iff_ne]; exact hz
          generalize valsC xs = x at *
          clear hall hz
          go_wp2_with fail
          refine HV.out.mono ?_
          rintro e w' ⟨rfl, rfl⟩
          go_wp2_with fail
          go_ret2
          exact ⟨_, [], 6, rfl, nilJ _ _, BW, Or.inr (Or.inr ⟨hm.out, by rw [hpp.out]; exact hno.out, rfl, rfl⟩)⟩
end Go.Proofs.YtimjjednfhnbbaaDoor
