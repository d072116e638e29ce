/-
  Cents read, the program's and the reference's.
  Conditions: each lemma names its own.
-/
import Derived.Test.YtimjjednfhnbbaaDoorMon
import Derived.Test.YtimjjednfhnbbaaDoorVal
import Derived.Test.YtimjjednfhnbbaaDoorMonP
namespace Go.Proofs.YtimjjednfhnbbaaDoor
open Go.RowKit
set_option linter.unusedVariables false

theorem monN_data (n : Nat) : (monN n).data.toList = monL n := by unfold monN monL decB; simp [mkB]
theorem monI_data (v : Int) : (monI v).data.toList = monZ v := by
  unfold monI monZ
  split
  · rw [ByteArray.data_append, Array.toList_append, monN_data]
    rfl
  · exact monN_data _
/-- What ReadMoney hands back. -/
def RdMon (s : ByteArray) (w : World) (e : Ending) (w' : World) : Prop :=
  ∃ r code : Int, e = .returned (.tuple #[.int .i64 r, .int .i64 code]) ∧ ((code = 0 ∧ monV r = true ∧ monI r = s) ∨ (code = 6 ∧ r = 0 ∧ ∀ v, monV v = true → ¬ monI v = s)) ∧ Below w.heap.size w w'
theorem rdMon_no {s : ByteArray} (h : ∀ v, monV v = true → ¬ monI v = s) (w w' : World) (b : Below w.heap.size w w') : RdMon s w (.returned (.tuple #[.int .i64 0, .int .i64 6])) w' :=
  ⟨0, 6, rfl, Or.inr ⟨rfl, rfl, h⟩, b⟩
theorem rdMon_yes {s : ByteArray} {r : Int} (h : monV r = true) (g : monI r = s) (w w' : World) (b : Below w.heap.size w w') : RdMon s w (.returned (.tuple #[.int .i64 r, .int .i64 0])) w' :=
  ⟨r, 0, rfl, Or.inl ⟨rfl, h, g⟩, b⟩
theorem monV_small {v : Int} (h : monV v = true) : smallZ v := (monV_iff v).1 h
/-- What the reference reads decides. -/
theorem noS {s : ByteArray} (h : readS s.data.toList = none) : ∀ v, monV v = true → ¬ monI v = s := fun v hv e => by
  have := readS_mon (monV_small hv)
  rw [← monI_data, e, h] at this
  cases this
theorem noS2 {s : ByteArray} {c : Int} (h : readS s.data.toList = some c) (hc : monV c = false ∨ ¬ monI c = s) : ∀ v, monV v = true → ¬ monI v = s := fun v hv e => by
  have := readS_mon (monV_small hv)
  rw [← monI_data, e, h] at this
  injection this with this
  subst this
  rcases hc with hc | hc
  · rw [hv] at hc; cases hc
  · exact hc e
theorem noI {s : ByteArray} (h : readI s.data.toList = none) : ∀ v, monV v = true → ¬ monI v = s := fun v hv e => by
  have := readI_mon (monV_small hv)
  rw [← monI_data, e, h] at this
  cases this
theorem noI2 {s : ByteArray} {c : Int} (h : readI s.data.toList = some c) (hc : monV c = false ∨ ¬ monI c = s) : ∀ v, monV v = true → ¬ monI v = s := fun v hv e => by
  have := readI_mon (monV_small hv)
  rw [← monI_data, e, h] at this
  injection this with this
  subst this
  rcases hc with hc | hc
  · rw [hv] at hc; cases hc
  · exact hc e

theorem ext_one {s : ByteArray} {k : Nat} (h : k < s.size) : (s.extract k (k + 1)).data.toList = [s[k]] := by
  rw [Lib.extract_data]
  have h1 : k < s.data.toList.length := by rw [size_data]; exact h
  rw [List.drop_eq_getElem_cons h1, show k + 1 - k = 1 by omega, List.take_succ_cons, List.take_zero]
  rfl
theorem fold_step {s : ByteArray} {k : Nat} (h : k < s.size) (acc : List UInt8) : (s.data.toList.take (k + 1)).foldl stp acc = stp ((s.data.toList.take k).foldl stp acc) s[k] := by
  rw [List.take_succ_eq_append_getElem (by rw [size_data]; exact h), List.foldl_append]
  rfl
theorem fold_keep {s : ByteArray} {k : Nat} {D : ByteArray} (h : k < s.size) (hD : D.data.toList = (s.data.toList.take k).foldl stp []) (hc : ¬ ((48 ≤ s[k].toNat ∧ s[k].toNat ≤ 57) ∧ (D.data.toList ≠ [] ∨ s[k] ≠ 48))) : D.data.toList = (s.data.toList.take (k + 1)).foldl stp [] := by
  rw [fold_step h, ← hD]
  unfold stp
  rw [if_neg hc]
theorem fold_add {s : ByteArray} {k : Nat} {D : ByteArray} (h : k < s.size) (hD : D.data.toList = (s.data.toList.take k).foldl stp []) (hc : (48 ≤ s[k].toNat ∧ s[k].toNat ≤ 57) ∧ (D.data.toList ≠ [] ∨ s[k] ≠ 48)) : (D ++ s.extract k (k + 1)).data.toList = (s.data.toList.take (k + 1)).foldl stp [] := by
  rw [fold_step h, ← hD]
  unfold stp
  rw [if_pos hc, ByteArray.data_append, Array.toList_append, ext_one h]
theorem head_of {s : ByteArray} (h : 0 < s.size) : s.data.toList.head? = some s[0] := by
  rw [List.head?_eq_getElem?, List.getElem?_eq_getElem (by rw [size_data]; exact h)]
  rfl
theorem ne48 {c : UInt8} (h : 49 ≤ c.toNat) : c ≠ 48 := by rintro rfl; simp at h
theorem eq48 {c : UInt8} (h1 : 48 ≤ c.toNat) (h2 : ¬ 49 ≤ c.toNat) : c = 48 := UInt8.toNat_inj.1 (by simp; omega)

set_option maxRecDepth 100000 in
set_option maxHeartbeats 16000000 in
theorem spec_ReadMoney (s : ByteArray) (hs : s.size ≤ 9223372036854775807) (w : World) : Calls Tryd.prog 18 #[.string s] w (RdMon s w) := by
  have BB : Below w.heap.size w w := Below.refl _ _
  go_enter Tryd.func18, Tryd.ntmps18
  go_wp2_with fail
  go_loop [4, 5] (fun o i => ∃ (k : Nat) (D : ByteArray), k ≤ s.size ∧ k ≤ 20 ∧ i = .int .i64 k ∧ o = .string D ∧ D.size ≤ k ∧ Hid (D.data.toList = (s.data.toList.take k).foldl stp [])) (fun _ i => s.size - (intOf i).toNat)
  case atStart => exact ⟨0, ⟨#[]⟩, Nat.zero_le _, by omega, rfl, rfl, Nat.le_refl _, Lib.hid rfl⟩
  case round =>
    obtain ⟨k, D, hk, hk2, rfl, rfl, hDz, hD⟩ := hrel
    by_cases hlt : k < s.size ∧ k < 20
    · obtain ⟨hlt, hlt2⟩ := hlt
      have hxs : (s.extract k (k + 1)).size ≤ 1 := by rw [ByteArray.size_extract]; omega
      have hsz : (D ++ s.extract k (k + 1)).size ≤ k + 1 := by rw [ByteArray.size_append]; omega
      by_cases c1 : 48 ≤ s[k].toNat
      · by_cases c2 : s[k].toNat ≤ 57
        · by_cases hE : D = ⟨#[]⟩
          · subst hE
            by_cases c3 : 49 ≤ s[k].toNat
            · have hN := Lib.hid (fold_add hlt hD.out ⟨⟨c1, c2⟩, Or.inr (ne48 c3)⟩)
              go_wp2_with fail
              go_round
              case rel => exact ⟨k + 1, _, by omega, by omega, by go_num, rfl, hsz, hN⟩
              case measure => simp [intOf]; omega
            · have hN := Lib.hid (fold_keep hlt hD.out (fun h => h.2.elim (fun e => e rfl) (fun e => e (eq48 c1 c3))))
              go_wp2_with fail
              go_round
              case rel => exact ⟨k + 1, _, by omega, by omega, by go_num, rfl, by show 0 ≤ _; omega, hN⟩
              case measure => simp [intOf]; omega
          · have hE1 : D.data.toList ≠ [] := fun e => hE (bytes_inj e)
            have hN := Lib.hid (fold_add hlt hD.out ⟨⟨c1, c2⟩, Or.inl hE1⟩)
            have hE2 : D.toList.isEmpty = false := by rw [tl]; cases hd : D.data.toList with
              | nil => exact absurd hd hE1
              | cons _ _ => rfl
            clear hE hE1
            go_wp2_with fail
            go_round
            case rel => exact ⟨k + 1, _, by omega, by omega, by go_num, rfl, hsz, hN⟩
            case measure => simp [intOf]; omega
        · have hN := Lib.hid (fold_keep hlt hD.out (fun h => c2 h.1.2))
          go_wp2_with fail
          go_round
          case rel => exact ⟨k + 1, _, by omega, by omega, by go_num, rfl, by omega, hN⟩
          case measure => simp [intOf]; omega
      · have hN := Lib.hid (fold_keep hlt hD.out (fun h => c1 h.1.1))
        go_wp2_with fail
        go_round
        case rel => exact ⟨k + 1, _, by omega, by omega, by go_num, rfl, by omega, hN⟩
        case measure => simp [intOf]; omega
    · have hT : Hid (D.data.toList = (s.data.toList.take 20).foldl stp []) := Lib.hid (by
        rw [hD.out]
        by_cases h20 : k = 20
        · rw [h20]
        · have : k = s.size := by omega
          rw [List.take_of_length_le (by rw [size_data]; omega), List.take_of_length_le (by rw [size_data]; omega)])
      clear hD
      by_cases hE : D = ⟨#[]⟩
      · subst hE
        have hS : Hid (readS s.data.toList = some (if s.data.toList.head? = some 45 then -((0 : Nat) : Int) else ((0 : Nat) : Int))) := Lib.hid (by
          unfold readS
          rw [← hT.out]
          rfl)
        clear hT
        by_cases h20 : k < s.size
        · obtain rfl : k = 20 := by omega
          clear hlt hk2
          have z : 0 < s.size := by omega
          · have hh := head_of z
            by_cases z2 : s[0] = 45
            · have hc : Hid (readS s.data.toList = some (-((0 : Nat) : Int))) := Lib.hid (by rw [hS.out, hh, z2]; rfl)
              have hz : ((s[0].toNat : Int) == 45) = true := by rw [z2]; rfl
              clear z2 hh hS
              have HI := Lib.hid (fun w => l01Is_c (-((0 : Nat) : Int)) w)
              cases hv : monV (-((0 : Nat) : Int))
              · rw [hv] at HI
                have hno := Lib.hid (noS2 hc.out (Or.inl hv))
                clear hv
                go_wp2_with fail
                refine (HI.out _).mono ?_
                rintro e w' ⟨rfl, rfl⟩
                go_wp2_with fail
                go_ret2
                exact rdMon_no hno.out _ _ BB
              · rw [hv] at HI
                have hb2 := (monV_iff (-((0 : Nat) : Int))).1 hv
                have HM := Lib.hid (fun w => spec_money (-((0 : Nat) : Int)) (by omega) (by omega) w)
                by_cases hq : monI (-((0 : Nat) : Int)) = s
                · have hyes := Lib.hid (rdMon_yes hv hq)
                  rw [hq] at HM
                  clear hq hv hb2
                  go_wp2_with fail
                  refine (HI.out _).mono ?_
                  rintro e w' ⟨rfl, rfl⟩
                  go_wp2_with fail
                  refine (HM.out _).mono ?_
                  rintro e w9 ⟨rfl, b9⟩
                  replace BB := below_next BB (Nat.le_refl _) b9
                  go_wp2_with fail
                  go_ret2
                  exact hyes.out _ _ BB
                · have hno := Lib.hid (noS2 hc.out (Or.inr hq))
                  have hne := str_ne hq
                  generalize monI (-((0 : Nat) : Int)) = t at *
                  clear hq hv hb2
                  go_wp2_with fail
                  refine (HI.out _).mono ?_
                  rintro e w' ⟨rfl, rfl⟩
                  go_wp2_with fail
                  refine (HM.out _).mono ?_
                  rintro e w9 ⟨rfl, b9⟩
                  replace BB := below_next BB (Nat.le_refl _) b9
                  go_wp2_with fail
                  go_ret2
                  exact rdMon_no hno.out _ _ BB
            · have hc : Hid (readS s.data.toList = some ((0 : Nat) : Int)) := Lib.hid (by rw [hS.out, hh, if_neg (fun e => z2 (by injection e))])
              have hz : ((s[0].toNat : Int) == 45) = false := by rw [beq_eq_false_iff_ne]; intro e; exact z2 (UInt8.toNat_inj.1 (by simp; omega))
              clear z2 hh hS
              have HI := Lib.hid (fun w => l01Is_c (((0 : Nat) : Int)) w)
              cases hv : monV (((0 : Nat) : Int))
              · rw [hv] at HI
                have hno := Lib.hid (noS2 hc.out (Or.inl hv))
                clear hv
                go_wp2_with fail
                refine (HI.out _).mono ?_
                rintro e w' ⟨rfl, rfl⟩
                go_wp2_with fail
                go_ret2
                exact rdMon_no hno.out _ _ BB
              · rw [hv] at HI
                have hb2 := (monV_iff (((0 : Nat) : Int))).1 hv
                have HM := Lib.hid (fun w => spec_money (((0 : Nat) : Int)) (by omega) (by omega) w)
                by_cases hq : monI (((0 : Nat) : Int)) = s
                · have hyes := Lib.hid (rdMon_yes hv hq)
                  rw [hq] at HM
                  clear hq hv hb2
                  go_wp2_with fail
                  refine (HI.out _).mono ?_
                  rintro e w' ⟨rfl, rfl⟩
                  go_wp2_with fail
                  refine (HM.out _).mono ?_
                  rintro e w9 ⟨rfl, b9⟩
                  replace BB := below_next BB (Nat.le_refl _) b9
                  go_wp2_with fail
                  go_ret2
                  exact hyes.out _ _ BB
                · have hno := Lib.hid (noS2 hc.out (Or.inr hq))
                  have hne := str_ne hq
                  generalize monI (((0 : Nat) : Int)) = t at *
                  clear hq hv hb2
                  go_wp2_with fail
                  refine (HI.out _).mono ?_
                  rintro e w' ⟨rfl, rfl⟩
                  go_wp2_with fail
                  refine (HM.out _).mono ?_
                  rintro e w9 ⟨rfl, b9⟩
                  replace BB := below_next BB (Nat.le_refl _) b9
                  go_wp2_with fail
                  go_ret2
                  exact rdMon_no hno.out _ _ BB
        · obtain rfl : k = s.size := by omega
          clear hlt
          by_cases z : 0 < s.size
          · have hh := head_of z
            by_cases z2 : s[0] = 45
            · have hc : Hid (readS s.data.toList = some (-((0 : Nat) : Int))) := Lib.hid (by rw [hS.out, hh, z2]; rfl)
              have hz : ((s[0].toNat : Int) == 45) = true := by rw [z2]; rfl
              clear z2 hh hS
              have HI := Lib.hid (fun w => l01Is_c (-((0 : Nat) : Int)) w)
              cases hv : monV (-((0 : Nat) : Int))
              · rw [hv] at HI
                have hno := Lib.hid (noS2 hc.out (Or.inl hv))
                clear hv
                go_wp2_with fail
                refine (HI.out _).mono ?_
                rintro e w' ⟨rfl, rfl⟩
                go_wp2_with fail
                go_ret2
                exact rdMon_no hno.out _ _ BB
              · rw [hv] at HI
                have hb2 := (monV_iff (-((0 : Nat) : Int))).1 hv
                have HM := Lib.hid (fun w => spec_money (-((0 : Nat) : Int)) (by omega) (by omega) w)
                by_cases hq : monI (-((0 : Nat) : Int)) = s
                · have hyes := Lib.hid (rdMon_yes hv hq)
                  rw [hq] at HM
                  clear hq hv hb2
                  go_wp2_with fail
                  refine (HI.out _).mono ?_
                  rintro e w' ⟨rfl, rfl⟩
                  go_wp2_with fail
                  refine (HM.out _).mono ?_
                  rintro e w9 ⟨rfl, b9⟩
                  replace BB := below_next BB (Nat.le_refl _) b9
                  go_wp2_with fail
                  go_ret2
                  exact hyes.out _ _ BB
                · have hno := Lib.hid (noS2 hc.out (Or.inr hq))
                  have hne := str_ne hq
                  generalize monI (-((0 : Nat) : Int)) = t at *
                  clear hq hv hb2
                  go_wp2_with fail
                  refine (HI.out _).mono ?_
                  rintro e w' ⟨rfl, rfl⟩
                  go_wp2_with fail
                  refine (HM.out _).mono ?_
                  rintro e w9 ⟨rfl, b9⟩
                  replace BB := below_next BB (Nat.le_refl _) b9
                  go_wp2_with fail
                  go_ret2
                  exact rdMon_no hno.out _ _ BB
            · have hc : Hid (readS s.data.toList = some ((0 : Nat) : Int)) := Lib.hid (by rw [hS.out, hh, if_neg (fun e => z2 (by injection e))])
              have hz : ((s[0].toNat : Int) == 45) = false := by rw [beq_eq_false_iff_ne]; intro e; exact z2 (UInt8.toNat_inj.1 (by simp; omega))
              clear z2 hh hS
              have HI := Lib.hid (fun w => l01Is_c (((0 : Nat) : Int)) w)
              cases hv : monV (((0 : Nat) : Int))
              · rw [hv] at HI
                have hno := Lib.hid (noS2 hc.out (Or.inl hv))
                clear hv
                go_wp2_with fail
                refine (HI.out _).mono ?_
                rintro e w' ⟨rfl, rfl⟩
                go_wp2_with fail
                go_ret2
                exact rdMon_no hno.out _ _ BB
              · rw [hv] at HI
                have hb2 := (monV_iff (((0 : Nat) : Int))).1 hv
                have HM := Lib.hid (fun w => spec_money (((0 : Nat) : Int)) (by omega) (by omega) w)
                by_cases hq : monI (((0 : Nat) : Int)) = s
                · have hyes := Lib.hid (rdMon_yes hv hq)
                  rw [hq] at HM
                  clear hq hv hb2
                  go_wp2_with fail
                  refine (HI.out _).mono ?_
                  rintro e w' ⟨rfl, rfl⟩
                  go_wp2_with fail
                  refine (HM.out _).mono ?_
                  rintro e w9 ⟨rfl, b9⟩
                  replace BB := below_next BB (Nat.le_refl _) b9
                  go_wp2_with fail
                  go_ret2
                  exact hyes.out _ _ BB
                · have hno := Lib.hid (noS2 hc.out (Or.inr hq))
                  have hne := str_ne hq
                  generalize monI (((0 : Nat) : Int)) = t at *
                  clear hq hv hb2
                  go_wp2_with fail
                  refine (HI.out _).mono ?_
                  rintro e w' ⟨rfl, rfl⟩
                  go_wp2_with fail
                  refine (HM.out _).mono ?_
                  rintro e w9 ⟨rfl, b9⟩
                  replace BB := below_next BB (Nat.le_refl _) b9
                  go_wp2_with fail
                  go_ret2
                  exact rdMon_no hno.out _ _ BB
          · have hn : s.data.toList = [] := List.eq_nil_of_length_eq_zero (by rw [size_data]; omega)
            have hc : Hid (readS s.data.toList = some ((0 : Nat) : Int)) := Lib.hid (by rw [hS.out, hn]; rfl)
            clear hn hS
            have HI := Lib.hid (fun w => l01Is_c (((0 : Nat) : Int)) w)
            cases hv : monV (((0 : Nat) : Int))
            · rw [hv] at HI
              have hno := Lib.hid (noS2 hc.out (Or.inl hv))
              clear hv
              go_wp2_with fail
              refine (HI.out _).mono ?_
              rintro e w' ⟨rfl, rfl⟩
              go_wp2_with fail
              go_ret2
              exact rdMon_no hno.out _ _ BB
            · rw [hv] at HI
              have hb2 := (monV_iff (((0 : Nat) : Int))).1 hv
              have HM := Lib.hid (fun w => spec_money (((0 : Nat) : Int)) (by omega) (by omega) w)
              by_cases hq : monI (((0 : Nat) : Int)) = s
              · have hyes := Lib.hid (rdMon_yes hv hq)
                rw [hq] at HM
                clear hq hv hb2
                go_wp2_with fail
                refine (HI.out _).mono ?_
                rintro e w' ⟨rfl, rfl⟩
                go_wp2_with fail
                refine (HM.out _).mono ?_
                rintro e w9 ⟨rfl, b9⟩
                replace BB := below_next BB (Nat.le_refl _) b9
                go_wp2_with fail
                go_ret2
                exact hyes.out _ _ BB
              · have hno := Lib.hid (noS2 hc.out (Or.inr hq))
                have hne := str_ne hq
                generalize monI (((0 : Nat) : Int)) = t at *
                clear hq hv hb2
                go_wp2_with fail
                refine (HI.out _).mono ?_
                rintro e w' ⟨rfl, rfl⟩
                go_wp2_with fail
                refine (HM.out _).mono ?_
                rintro e w9 ⟨rfl, b9⟩
                replace BB := below_next BB (Nat.le_refl _) b9
                go_wp2_with fail
                go_ret2
                exact rdMon_no hno.out _ _ BB
      · have hE1 : D.data.toList ≠ [] := fun e => hE (bytes_inj e)
        have hE2 : D.toList.isEmpty = false := by rw [tl]; cases hd : D.data.toList with
          | nil => exact absurd hd hE1
          | cons _ _ => rfl
        have hS0 : Hid (readS s.data.toList = match valOf D.data.toList with
            | some n => some (if s.data.toList.head? = some 45 then -(n : Int) else n)
            | none => none) := Lib.hid (by
          unfold readS
          rw [← hT.out, if_neg hE1]
          cases valOf D.data.toList <;> rfl)
        have HV := Lib.hid (fun w => spec_value D (by omega) w)
        have hD1 : 0 < D.size := by
          rw [← size_data]
          exact List.length_pos_iff.2 hE1
        clear hT hE hE1
        by_cases h20 : k < s.size
        · obtain rfl : k = 20 := by omega
          clear hlt hk2
          go_wp2_with fail
          refine (HV.out _).mono ?_
          rintro e w1 ⟨n, ok, rfl, hn, hval, b1⟩
          replace BB := below_next BB (Nat.le_refl _) b1
          clear b1 HV
          cases ok
          · have hno := Lib.hid (noS (s := s) (by rw [hS0.out, hval]; rfl))
            clear hS0 hval
            go_wp2_with fail
            go_ret2
            exact rdMon_no hno.out _ _ BB
          · have hS : Hid (readS s.data.toList = some (if s.data.toList.head? = some 45 then -(n : Int) else n)) := Lib.hid (by rw [hS0.out, hval]; rfl)
            clear hS0 hval
            have z : 0 < s.size := by omega
            · have hh := head_of z
              by_cases z2 : s[0] = 45
              · have hc : Hid (readS s.data.toList = some (-(n : Int))) := Lib.hid (by rw [hS.out, hh, z2]; rfl)
                have hz : ((s[0].toNat : Int) == 45) = true := by rw [z2]; rfl
                clear z2 hh hS
                have HI := Lib.hid (fun w => l01Is_c (-(n : Int)) w)
                cases hv : monV (-(n : Int))
                · rw [hv] at HI
                  have hno := Lib.hid (noS2 hc.out (Or.inl hv))
                  clear hv
                  go_wp2_with fail
                  refine (HI.out _).mono ?_
                  rintro e w' ⟨rfl, rfl⟩
                  go_wp2_with fail
                  go_ret2
                  exact rdMon_no hno.out _ _ BB
                · rw [hv] at HI
                  have hb2 := (monV_iff (-(n : Int))).1 hv
                  have HM := Lib.hid (fun w => spec_money (-(n : Int)) (by omega) (by omega) w)
                  by_cases hq : monI (-(n : Int)) = s
                  · have hyes := Lib.hid (rdMon_yes hv hq)
                    rw [hq] at HM
                    clear hq hv hb2
                    go_wp2_with fail
                    refine (HI.out _).mono ?_
                    rintro e w' ⟨rfl, rfl⟩
                    go_wp2_with fail
                    refine (HM.out _).mono ?_
                    rintro e w9 ⟨rfl, b9⟩
                    replace BB := below_next BB (Nat.le_refl _) b9
                    go_wp2_with fail
                    go_ret2
                    exact hyes.out _ _ BB
                  · have hno := Lib.hid (noS2 hc.out (Or.inr hq))
                    have hne := str_ne hq
                    generalize monI (-(n : Int)) = t at *
                    clear hq hv hb2
                    go_wp2_with fail
                    refine (HI.out _).mono ?_
                    rintro e w' ⟨rfl, rfl⟩
                    go_wp2_with fail
                    refine (HM.out _).mono ?_
                    rintro e w9 ⟨rfl, b9⟩
                    replace BB := below_next BB (Nat.le_refl _) b9
                    go_wp2_with fail
                    go_ret2
                    exact rdMon_no hno.out _ _ BB
              · have hc : Hid (readS s.data.toList = some (n : Int)) := Lib.hid (by rw [hS.out, hh, if_neg (fun e => z2 (by injection e))])
                have hz : ((s[0].toNat : Int) == 45) = false := by rw [beq_eq_false_iff_ne]; intro e; exact z2 (UInt8.toNat_inj.1 (by simp; omega))
                clear z2 hh hS
                have HI := Lib.hid (fun w => l01Is_c ((n : Int)) w)
                cases hv : monV ((n : Int))
                · rw [hv] at HI
                  have hno := Lib.hid (noS2 hc.out (Or.inl hv))
                  clear hv
                  go_wp2_with fail
                  refine (HI.out _).mono ?_
                  rintro e w' ⟨rfl, rfl⟩
                  go_wp2_with fail
                  go_ret2
                  exact rdMon_no hno.out _ _ BB
                · rw [hv] at HI
                  have hb2 := (monV_iff ((n : Int))).1 hv
                  have HM := Lib.hid (fun w => spec_money ((n : Int)) (by omega) (by omega) w)
                  by_cases hq : monI ((n : Int)) = s
                  · have hyes := Lib.hid (rdMon_yes hv hq)
                    rw [hq] at HM
                    clear hq hv hb2
                    go_wp2_with fail
                    refine (HI.out _).mono ?_
                    rintro e w' ⟨rfl, rfl⟩
                    go_wp2_with fail
                    refine (HM.out _).mono ?_
                    rintro e w9 ⟨rfl, b9⟩
                    replace BB := below_next BB (Nat.le_refl _) b9
                    go_wp2_with fail
                    go_ret2
                    exact hyes.out _ _ BB
                  · have hno := Lib.hid (noS2 hc.out (Or.inr hq))
                    have hne := str_ne hq
                    generalize monI ((n : Int)) = t at *
                    clear hq hv hb2
                    go_wp2_with fail
                    refine (HI.out _).mono ?_
                    rintro e w' ⟨rfl, rfl⟩
                    go_wp2_with fail
                    refine (HM.out _).mono ?_
                    rintro e w9 ⟨rfl, b9⟩
                    replace BB := below_next BB (Nat.le_refl _) b9
                    go_wp2_with fail
                    go_ret2
                    exact rdMon_no hno.out _ _ BB
        · obtain rfl : k = s.size := by omega
          clear hlt
          go_wp2_with fail
          refine (HV.out _).mono ?_
          rintro e w1 ⟨n, ok, rfl, hn, hval, b1⟩
          replace BB := below_next BB (Nat.le_refl _) b1
          clear b1 HV
          cases ok
          · have hno := Lib.hid (noS (s := s) (by rw [hS0.out, hval]; rfl))
            clear hS0 hval
            go_wp2_with fail
            go_ret2
            exact rdMon_no hno.out _ _ BB
          · have hS : Hid (readS s.data.toList = some (if s.data.toList.head? = some 45 then -(n : Int) else n)) := Lib.hid (by rw [hS0.out, hval]; rfl)
            clear hS0 hval
            have z : 0 < s.size := by omega
            · have hh := head_of z
              by_cases z2 : s[0] = 45
              · have hc : Hid (readS s.data.toList = some (-(n : Int))) := Lib.hid (by rw [hS.out, hh, z2]; rfl)
                have hz : ((s[0].toNat : Int) == 45) = true := by rw [z2]; rfl
                clear z2 hh hS
                have HI := Lib.hid (fun w => l01Is_c (-(n : Int)) w)
                cases hv : monV (-(n : Int))
                · rw [hv] at HI
                  have hno := Lib.hid (noS2 hc.out (Or.inl hv))
                  clear hv
                  go_wp2_with fail
                  refine (HI.out _).mono ?_
                  rintro e w' ⟨rfl, rfl⟩
                  go_wp2_with fail
                  go_ret2
                  exact rdMon_no hno.out _ _ BB
                · rw [hv] at HI
                  have hb2 := (monV_iff (-(n : Int))).1 hv
                  have HM := Lib.hid (fun w => spec_money (-(n : Int)) (by omega) (by omega) w)
                  by_cases hq : monI (-(n : Int)) = s
                  · have hyes := Lib.hid (rdMon_yes hv hq)
                    rw [hq] at HM
                    clear hq hv hb2
                    go_wp2_with fail
                    refine (HI.out _).mono ?_
                    rintro e w' ⟨rfl, rfl⟩
                    go_wp2_with fail
                    refine (HM.out _).mono ?_
                    rintro e w9 ⟨rfl, b9⟩
                    replace BB := below_next BB (Nat.le_refl _) b9
                    go_wp2_with fail
                    go_ret2
                    exact hyes.out _ _ BB
                  · have hno := Lib.hid (noS2 hc.out (Or.inr hq))
                    have hne := str_ne hq
                    generalize monI (-(n : Int)) = t at *
                    clear hq hv hb2
                    go_wp2_with fail
                    refine (HI.out _).mono ?_
                    rintro e w' ⟨rfl, rfl⟩
                    go_wp2_with fail
                    refine (HM.out _).mono ?_
                    rintro e w9 ⟨rfl, b9⟩
                    replace BB := below_next BB (Nat.le_refl _) b9
                    go_wp2_with fail
                    go_ret2
                    exact rdMon_no hno.out _ _ BB
              · have hc : Hid (readS s.data.toList = some (n : Int)) := Lib.hid (by rw [hS.out, hh, if_neg (fun e => z2 (by injection e))])
                have hz : ((s[0].toNat : Int) == 45) = false := by rw [beq_eq_false_iff_ne]; intro e; exact z2 (UInt8.toNat_inj.1 (by simp; omega))
                clear z2 hh hS
                have HI := Lib.hid (fun w => l01Is_c ((n : Int)) w)
                cases hv : monV ((n : Int))
                · rw [hv] at HI
                  have hno := Lib.hid (noS2 hc.out (Or.inl hv))
                  clear hv
                  go_wp2_with fail
                  refine (HI.out _).mono ?_
                  rintro e w' ⟨rfl, rfl⟩
                  go_wp2_with fail
                  go_ret2
                  exact rdMon_no hno.out _ _ BB
                · rw [hv] at HI
                  have hb2 := (monV_iff ((n : Int))).1 hv
                  have HM := Lib.hid (fun w => spec_money ((n : Int)) (by omega) (by omega) w)
                  by_cases hq : monI ((n : Int)) = s
                  · have hyes := Lib.hid (rdMon_yes hv hq)
                    rw [hq] at HM
                    clear hq hv hb2
                    go_wp2_with fail
                    refine (HI.out _).mono ?_
                    rintro e w' ⟨rfl, rfl⟩
                    go_wp2_with fail
                    refine (HM.out _).mono ?_
                    rintro e w9 ⟨rfl, b9⟩
                    replace BB := below_next BB (Nat.le_refl _) b9
                    go_wp2_with fail
                    go_ret2
                    exact hyes.out _ _ BB
                  · have hno := Lib.hid (noS2 hc.out (Or.inr hq))
                    have hne := str_ne hq
                    generalize monI ((n : Int)) = t at *
                    clear hq hv hb2
                    go_wp2_with fail
                    refine (HI.out _).mono ?_
                    rintro e w' ⟨rfl, rfl⟩
                    go_wp2_with fail
                    refine (HM.out _).mono ?_
                    rintro e w9 ⟨rfl, b9⟩
                    replace BB := below_next BB (Nat.le_refl _) b9
                    go_wp2_with fail
                    go_ret2
                    exact rdMon_no hno.out _ _ BB
end Go.Proofs.YtimjjednfhnbbaaDoor
