/-
  Cents read by the program.
  Conditions: each lemma names its own.
-/
import Derived.Test.YtimjjednfhnbbaaDoorRdMon
import Derived.Test.YtimjjednfhnbbaaDoorPar
namespace Go.Proofs.YtimjjednfhnbbaaDoor
open Go.RowKit
set_option linter.unusedVariables false

def rmT (s : ByteArray) : ByteArray := mkB (Lib.trimPrefix s.data.toList [45])
def rmW (s : ByteArray) : ByteArray := mkB (Lib.cut (Lib.trimPrefix s.data.toList [45]) [46]).1
def rmP (s : ByteArray) : ByteArray := mkB (Lib.cut (Lib.trimPrefix s.data.toList [45]) [46]).2.1
def rmF (s : ByteArray) : Bool := (Lib.cut (Lib.trimPrefix s.data.toList [45]) [46]).2.2
def rmN (s : ByteArray) : Bool := Lib.hasPrefix s.data.toList [45]
theorem rm_no {s : ByteArray} (h : ¬ (rmF s = true ∧ (rmP s).size = 2 ∧ (rmW s).size ≤ 15)) : readI s.data.toList = none := by
  unfold rmF rmP rmW at h
  rw [mkB_size, mkB_size] at h
  unfold readI
  simp only
  rw [if_neg h]
theorem rm_ok {s : ByteArray} {v : Int} (h1 : rmF s = true) (h2 : (rmP s).size = 2) (h3 : (rmW s).size ≤ 15) (h : Lib.parseIntB 64 (rmW s ++ rmP s).data.toList = .ok v) : readI s.data.toList = some (if rmN s then -v else v) := by
  rw [ByteArray.data_append, Array.toList_append] at h
  unfold rmF at h1
  unfold rmP at h2 h
  unfold rmW at h3 h
  rw [mkB_size] at h2 h3
  rw [mkB_data, mkB_data] at h
  unfold readI
  simp only
  rw [if_pos ⟨h1, h2, h3⟩, h]
  rfl
theorem rm_bad {s : ByteArray} (h : ∀ v, Lib.parseIntB 64 (rmW s ++ rmP s).data.toList ≠ .ok v) : readI s.data.toList = none := by
  rw [ByteArray.data_append, Array.toList_append] at h
  unfold rmP rmW at h
  rw [mkB_data, mkB_data] at h
  unfold readI
  simp only
  split
  · first
      | rfl
      | (split
         · rename_i v hv; exact absurd hv (h v)
         · rfl)
  · rfl
theorem trim_c (s : ByteArray) (w : World) : Calls Tryd.prog 51 #[.string s, .string ⟨#[45]⟩] w fun e w' => e = .returned (.string (rmT s)) ∧ w' = w := Tryd.strings_TrimPrefix s ⟨#[45]⟩ w
theorem pref_c (s : ByteArray) (w : World) : Calls Tryd.prog 53 #[.string s, .string ⟨#[45]⟩] w fun e w' => e = .returned (.bool (rmN s)) ∧ w' = w := Tryd.strings_HasPrefix s ⟨#[45]⟩ w
theorem rmT_size (s : ByteArray) : (rmT s).size ≤ s.size := by
  unfold rmT
  rw [mkB_size, ← size_data s]
  unfold Lib.trimPrefix
  split
  · rw [List.length_drop]; omega
  · omega
theorem cut_c (s : ByteArray) (hs : s.size ≤ 1048576) {w : World} (hl : LbM w) : Calls Tryd.prog 50 #[.string (rmT s), .string ⟨#[46]⟩] w fun e w' => e = .returned (.tuple #[.string (rmW s), .string (rmP s), .bool (rmF s)]) ∧ Below w.heap.size w w' := by
  obtain ⟨m, hm⟩ := hl
  have hz := rmT_size s
  refine (Tryd.strings_Cut (rmT s) ⟨#[46]⟩ m w (by omega) hm).mono ?_
  rintro e w' ⟨he, n, hw⟩
  have e1 : (rmT s).data.toList = Lib.trimPrefix s.data.toList [45] := mkB_data _
  rw [e1] at he
  refine ⟨he, ?_⟩
  rw [hw]
  exact below_drewN (Below.refl _ _) n
set_option maxRecDepth 100000 in
set_option maxHeartbeats 8000000 in
theorem impl_ReadMoney (s : ByteArray) (hs : s.size ≤ 1048576) {w : World} (hM : LbM w) (hE : LbE w) (hT : LbT w) : Calls Tryd.prog 19 #[.string s] w (RdMon s w) := by
  have H1 := Lib.hid (fun w => trim_c s w)
  have H2 := Lib.hid (fun w hl => cut_c s hs (w := w) hl)
  have H3 := Lib.hid (fun w => pref_c s w)
  have hbad := Lib.hid (@rm_bad s)
  have hok := Lib.hid (fun (v : Int) => rm_ok (s := s) (v := v))
  have hno := Lib.hid (@rm_no s)
  replace hM := Lib.hid hM
  replace hE := Lib.hid hE
  replace hT := Lib.hid hT
  generalize rmT s = T at *
  generalize rmW s = W at *
  generalize rmP s = Q at *
  generalize rmF s = F at *
  cases F
  · have hn := Lib.hid (noI (hno.out (fun h => by cases h.1)))
    go_enter Tryd.func19, Tryd.ntmps19
    go_wp2_with fail
    refine (H1.out _).mono ?_
    rintro e w' ⟨rfl, rfl⟩
    go_wp2_with fail
    refine (H2.out _ hM.out).mono ?_
    rintro e w1 ⟨rfl, b1⟩
    go_wp2_with fail
    go_ret2
    exact rdMon_no hn.out _ _ b1
  · by_cases hQ : Q.size = 2
    · by_cases hW : W.size ≤ 15
      · have hz : (W ++ Q).size ≤ 17 := by rw [ByteArray.size_append]; omega
        have HP := Lib.hid (fun w hl => parse_c (W ++ Q) (by omega) (w := w) hl)
        have hsm := Lib.hid (fun v h => parse_small (l := (W ++ Q).data.toList) (v := v) h (by rw [size_data]; omega))
        have hok2 := Lib.hid (fun v h => hok.out v rfl hQ hW h)
        have hQ2 : ((Q.size : Int) != 2) = false := by rw [hQ]; rfl
        have hQ3 : Q.size ≤ 2 := by omega
        clear hno hok hQ
        generalize hR : W ++ Q = R at *
        replace hR := Lib.hid hR
        go_enter Tryd.func19, Tryd.ntmps19
        go_wp2_with fail
        refine (H1.out _).mono ?_
        rintro e w' ⟨rfl, rfl⟩
        go_wp2_with fail
        refine (H2.out _ hM.out).mono ?_
        rintro e w1 ⟨rfl, b1⟩
        replace hE := Lib.hid (hE.out.below b1)
        replace hT := Lib.hid (hT.out.below b1)
        go_wp2_with fail
        rw [hR.out]
        refine (HP.out _ hE.out).mono ?_
        rintro e w2 ⟨b2, hr⟩
        replace hT := Lib.hid (hT.out.below b2)
        replace b1 := below_next b1 (Nat.le_refl _) b2
        clear b2
        rcases hr with ⟨v, hv, rfl⟩ | ⟨hv, r, N, rfl⟩
        · obtain ⟨v0, v1⟩ := hsm.out v hv
          have hrd := Lib.hid (hok2.out v hv)
          have HMT := Lib.hid (fun v w hl => impl_MoneyText v (w := w) hl)
          clear hv hbad hok2 hsm HP hE hM H1 H2
          have hmt : Hid (∀ c : Int, readI s.data.toList = some c → (monV c = true ∧ monI c = s ∧ mtN c = 0 ∧ mtS c = s) ∨ (mtN c = 2 ∧ ∀ v, monV v = true → ¬ monI v = s) ∨ (mtN c = 0 ∧ ¬ mtS c = s ∧ ∀ v, monV v = true → ¬ monI v = s)) := Lib.hid fun c hc => by
            cases hv : monV c
            · right; left
              exact ⟨by unfold mtN; rw [hv]; rfl, noI2 hc (Or.inl hv)⟩
            · have e1 : mtN c = 0 := by unfold mtN; rw [hv]; rfl
              have e2 : mtS c = monI c := by unfold mtS; rw [hv]; rfl
              rw [e2]
              by_cases hq : monI c = s
              · left; exact ⟨rfl, hq, e1, hq⟩
              · right; right; exact ⟨e1, hq, noI2 hc (Or.inr hq)⟩
          cases hn : rmN s
          · rw [hn] at H3 hrd
            have hm := hmt.out v hrd.out
            clear hmt hn hrd
            rcases hm with ⟨y1, y2, y3, y4⟩ | ⟨y3, hno⟩ | ⟨y3, y4, hno⟩
            · have hyes := Lib.hid (rdMon_yes y1 y2)
              have HD := Lib.hid (fun w hl => HMT.out v w hl)
              rw [y3, y4] at HD
              clear y1 y2 y3 y4 HMT
              go_wp2_with fail
              refine (H3.out _).mono ?_
              rintro e w' ⟨rfl, rfl⟩
              go_wp2_with fail
              refine (HD.out _ hT.out).mono ?_
              rintro e w3 ⟨rfl, b3⟩
              replace b1 := below_next b1 (Nat.le_refl _) b3
              go_wp2_with fail
              go_ret2
              exact hyes.out _ _ b1
            · have HD := Lib.hid (fun w hl => HMT.out v w hl)
              rw [y3] at HD
              replace hno := Lib.hid hno
              clear y3 HMT
              go_wp2_with fail
              refine (H3.out _).mono ?_
              rintro e w' ⟨rfl, rfl⟩
              go_wp2_with fail
              refine (HD.out _ hT.out).mono ?_
              rintro e w3 ⟨rfl, b3⟩
              replace b1 := below_next b1 (Nat.le_refl _) b3
              go_wp2_with fail
              go_ret2
              exact rdMon_no hno.out _ _ b1
            · have HD := Lib.hid (fun w hl => HMT.out v w hl)
              rw [y3] at HD
              have hne := str_ne y4
              generalize mtS v = t at *
              replace hno := Lib.hid hno
              clear y3 y4 HMT
              go_wp2_with fail
              refine (H3.out _).mono ?_
              rintro e w' ⟨rfl, rfl⟩
              go_wp2_with fail
              refine (HD.out _ hT.out).mono ?_
              rintro e w3 ⟨rfl, b3⟩
              replace b1 := below_next b1 (Nat.le_refl _) b3
              go_wp2_with fail
              go_ret2
              exact rdMon_no hno.out _ _ b1
          · rw [hn] at H3 hrd
            have hm := hmt.out (-v) hrd.out
            clear hmt hn hrd
            rcases hm with ⟨y1, y2, y3, y4⟩ | ⟨y3, hno⟩ | ⟨y3, y4, hno⟩
            · have hyes := Lib.hid (rdMon_yes y1 y2)
              have HD := Lib.hid (fun w hl => HMT.out (-v) w hl)
              rw [y3, y4] at HD
              clear y1 y2 y3 y4 HMT
              go_wp2_with fail
              refine (H3.out _).mono ?_
              rintro e w' ⟨rfl, rfl⟩
              go_wp2_with fail
              refine (HD.out _ hT.out).mono ?_
              rintro e w3 ⟨rfl, b3⟩
              replace b1 := below_next b1 (Nat.le_refl _) b3
              go_wp2_with fail
              go_ret2
              exact hyes.out _ _ b1
            · have HD := Lib.hid (fun w hl => HMT.out (-v) w hl)
              rw [y3] at HD
              replace hno := Lib.hid hno
              clear y3 HMT
              go_wp2_with fail
              refine (H3.out _).mono ?_
              rintro e w' ⟨rfl, rfl⟩
              go_wp2_with fail
              refine (HD.out _ hT.out).mono ?_
              rintro e w3 ⟨rfl, b3⟩
              replace b1 := below_next b1 (Nat.le_refl _) b3
              go_wp2_with fail
              go_ret2
              exact rdMon_no hno.out _ _ b1
            · have HD := Lib.hid (fun w hl => HMT.out (-v) w hl)
              rw [y3] at HD
              have hne := str_ne y4
              generalize mtS (-v) = t at *
              replace hno := Lib.hid hno
              clear y3 y4 HMT
              go_wp2_with fail
              refine (H3.out _).mono ?_
              rintro e w' ⟨rfl, rfl⟩
              go_wp2_with fail
              refine (HD.out _ hT.out).mono ?_
              rintro e w3 ⟨rfl, b3⟩
              replace b1 := below_next b1 (Nat.le_refl _) b3
              go_wp2_with fail
              go_ret2
              exact rdMon_no hno.out _ _ b1
        · have hn := Lib.hid (noI (hbad.out hv))
          clear hv hbad hok2 hsm
          go_wp2_with fail
          go_ret2
          exact rdMon_no hn.out _ _ b1
      · have hn := Lib.hid (noI (hno.out (fun h => hW h.2.2)))
        have hQ2 : ((Q.size : Int) != 2) = false := by rw [hQ]; rfl
        clear hQ
        go_enter Tryd.func19, Tryd.ntmps19
        go_wp2_with fail
        refine (H1.out _).mono ?_
        rintro e w' ⟨rfl, rfl⟩
        go_wp2_with fail
        refine (H2.out _ hM.out).mono ?_
        rintro e w1 ⟨rfl, b1⟩
        go_wp2_with fail
        go_ret2
        exact rdMon_no hn.out _ _ b1
    · have hn := Lib.hid (noI (hno.out (fun h => hQ h.2.1)))
      have hQ2 : ((Q.size : Int) != 2) = true := by rw [bne_iff_ne]; omega
      clear hQ
      go_enter Tryd.func19, Tryd.ntmps19
      go_wp2_with fail
      refine (H1.out _).mono ?_
      rintro e w' ⟨rfl, rfl⟩
      go_wp2_with fail
      refine (H2.out _ hM.out).mono ?_
      rintro e w1 ⟨rfl, b1⟩
      go_wp2_with fail
      go_ret2
      exact rdMon_no hn.out _ _ b1
end Go.Proofs.YtimjjednfhnbbaaDoor
