/-
  The text of cents, the program's and the reference's.
  Conditions: each lemma names its own.
-/
import Derived.Test.YtimjjednfhnbbaaDoorLb
namespace Go.Proofs.YtimjjednfhnbbaaDoor
open Go.RowKit
set_option linter.unusedVariables false

def monN (n : Nat) : ByteArray := decB (n / 100) ++ ⟨#[46]⟩ ++ decB (n / 10 % 10) ++ decB (n % 10)
/-- The text of cents. -/
def monI (v : Int) : ByteArray := if v < 0 then ⟨#[45]⟩ ++ monN v.natAbs else monN v.toNat
def monV (v : Int) : Bool := decide (-1000000000000 ≤ v) && decide (v ≤ 1000000000000)
theorem monV_iff (v : Int) : monV v = true ↔ -1000000000000 ≤ v ∧ v ≤ 1000000000000 := by unfold monV; simp
theorem isValue_c (v : Int) (w : World) : Calls Tryd.prog 47 #[.int .i64 v] w fun e w' => e = .returned (.bool (monV v)) ∧ w = w' := by
  have HW : Hid (∀ w, Calls Tryd.prog 74 #[.int .i64 v, .int .i64 (-1000000000000), .int .i64 1000000000000] w fun e w' => e = .returned (.bool (monV v)) ∧ w = w') := Lib.hid fun w => by
    by_cases h : -1000000000000 ≤ v ∧ v ≤ 1000000000000
    · rw [(monV_iff v).2 h]
      exact within_yes v _ _ h.1 h.2 w
    · have e : monV v = false := by rw [← Bool.not_eq_true, monV_iff]; exact h
      rw [e]
      exact within_no v _ _ (by omega) w
  generalize monV v = b at *
  go_enter Tryd.func47, Tryd.ntmps47
  go_wp2_with fail
  refine (HW.out _).mono ?_
  rintro e w' ⟨rfl, rfl⟩
  go_wp2_with fail
  go_ret
  exact ⟨rfl, rfl⟩
theorem l01Is_c (v : Int) (w : World) : Calls Tryd.prog 45 #[.int .i64 v] w fun e w' => e = .returned (.bool (monV v)) ∧ w = w' := by
  have HW : Hid (∀ w, Calls Tryd.prog 72 #[.int .i64 v, .int .i64 (-1000000000000), .int .i64 1000000000000] w fun e w' => e = .returned (.bool (monV v)) ∧ w = w') := Lib.hid fun w => by
    by_cases h : -1000000000000 ≤ v ∧ v ≤ 1000000000000
    · rw [(monV_iff v).2 h]
      exact in_yes v _ _ h.1 h.2 w
    · have e : monV v = false := by rw [← Bool.not_eq_true, monV_iff]; exact h
      rw [e]
      exact in_no v _ _ (by omega) w
  generalize monV v = b at *
  go_enter Tryd.func45, Tryd.ntmps45
  go_wp2_with fail
  refine (HW.out _).mono ?_
  rintro e w' ⟨rfl, rfl⟩
  go_wp2_with fail
  go_ret
  exact ⟨rfl, rfl⟩
theorem decB_sz {n : Nat} (h : n ≤ 1000000000000) : (decB n).size ≤ 20 := decB_20 (by omega)
set_option maxRecDepth 100000 in
set_option maxHeartbeats 2000000 in
theorem spec_money_pos (n : Nat) (hn : n ≤ 9000000000000000000) (w : World) : Calls Tryd.prog 46 #[.int .i64 n] w fun e w' => e = .returned (.string (monN n)) ∧ Below w.heap.size w w' := by
  have H1 : Hid (∀ w, Calls Tryd.prog 73 #[.int .i64 ((n : Int) / 100)] w fun e w' => e = .returned (.string (decB (n / 100))) ∧ Below w.heap.size w w') := Lib.hid fun w => by
    rw [show (n : Int) / 100 = ((n / 100 : Nat) : Int) by omega]
    exact spec_dec _ (by omega) w
  have H2 : Hid (∀ w, Calls Tryd.prog 73 #[.int .i64 ((n : Int) % 100 / 10)] w fun e w' => e = .returned (.string (decB (n / 10 % 10))) ∧ Below w.heap.size w w') := Lib.hid fun w => by
    rw [show (n : Int) % 100 / 10 = ((n / 10 % 10 : Nat) : Int) by omega]
    exact spec_dec _ (by omega) w
  have H3 : Hid (∀ w, Calls Tryd.prog 73 #[.int .i64 ((n : Int) % 10)] w fun e w' => e = .returned (.string (decB (n % 10))) ∧ Below w.heap.size w w') := Lib.hid fun w => by
    rw [show (n : Int) % 10 = ((n % 10 : Nat) : Int) by omega]
    exact spec_dec _ (by omega) w
  have z1 := decB_20 (n := n / 100) (by omega)
  have z2 := decB_20 (n := n / 10 % 10) (by omega)
  have z3 := decB_20 (n := n % 10) (by omega)
  have hM : Hid (monN n = decB (n / 100) ++ ⟨#[46]⟩ ++ decB (n / 10 % 10) ++ decB (n % 10)) := Lib.hid rfl
  have s1 : (decB (n / 100) ++ ⟨#[46]⟩ : ByteArray).size ≤ 21 := by rw [ByteArray.size_append]; show _ + 1 ≤ 21; omega
  have s2 : (decB (n / 100) ++ ⟨#[46]⟩ ++ decB (n / 10 % 10) : ByteArray).size ≤ 41 := by rw [ByteArray.size_append]; omega
  generalize decB (n / 100) = t1 at *
  generalize decB (n / 10 % 10) = t2 at *
  generalize decB (n % 10) = t3 at *
  go_enter Tryd.func46, Tryd.ntmps46
  go_wp2_with fail
  refine (H1.out _).mono ?_
  rintro e w1 ⟨rfl, b1⟩
  go_wp2_with fail
  refine (H2.out _).mono ?_
  rintro e w2 ⟨rfl, b2⟩
  replace b1 := below_next b1 (Nat.le_refl _) b2
  go_wp2_with fail
  refine (H3.out _).mono ?_
  rintro e w3 ⟨rfl, b3⟩
  replace b1 := below_next b1 (Nat.le_refl _) b3
  go_wp2_with fail
  go_ret
  exact ⟨rs hM.out.symm, b1⟩
theorem monN_size {n : Nat} (h : n ≤ 9000000000000000000) : (monN n).size ≤ 100 := by
  have z1 := decB_20 (n := n / 100) (by omega)
  have z2 := decB_20 (n := n / 10 % 10) (by omega)
  have z3 := decB_20 (n := n % 10) (by omega)
  unfold monN
  rw [ByteArray.size_append, ByteArray.size_append, ByteArray.size_append]
  have : (⟨#[46]⟩ : ByteArray).size = 1 := rfl
  omega
set_option maxRecDepth 100000 in
set_option maxHeartbeats 2000000 in
theorem spec_money (v : Int) (h0 : -9000000000000000000 ≤ v) (h1 : v ≤ 9000000000000000000) (w : World) : Calls Tryd.prog 46 #[.int .i64 v] w fun e w' => e = .returned (.string (monI v)) ∧ Below w.heap.size w w' := by
  by_cases h : v < 0
  · have hM : Hid (monI v = ⟨#[45]⟩ ++ monN v.natAbs) := Lib.hid (by unfold monI; rw [if_pos h])
    have hz := monN_size (n := v.natAbs) (by omega)
    have HP : Hid (∀ w, Calls Tryd.prog 46 #[.int .i64 (-v)] w fun e w' => e = .returned (.string (monN v.natAbs)) ∧ Below w.heap.size w w') := Lib.hid fun w => by
      rw [show -v = ((v.natAbs : Nat) : Int) by omega]
      exact spec_money_pos _ (by omega) w
    generalize monN v.natAbs = t at *
    go_enter Tryd.func46, Tryd.ntmps46
    go_wp2_with fail
    refine (HP.out _).mono ?_
    rintro e w1 ⟨rfl, b1⟩
    go_wp2_with fail
    go_ret
    exact ⟨rs hM.out.symm, b1⟩
  · have hM : monI v = monN v.toNat := by unfold monI; rw [if_neg h]
    rw [hM]
    have := spec_money_pos v.toNat (by omega) w
    rw [show ((v.toNat : Nat) : Int) = v by omega] at this
    exact this

def mtN (v : Int) : Int := if monV v then 0 else 2
def mtS (v : Int) : ByteArray := if monV v then monI v else ⟨#[]⟩
set_option maxHeartbeats 2000000 in
theorem spec_MoneyText (v : Int) (w : World) : Calls Tryd.prog 16 #[.int .i64 v] w fun e w' => e = .returned (.tuple #[.string (mtS v), .int .i64 (mtN v)]) ∧ Below w.heap.size w w' := by
  have HI := Lib.hid (fun w => l01Is_c v w)
  cases hv : monV v
  · have hN : mtN v = 2 := by unfold mtN; rw [hv]; rfl
    have hS : mtS v = ⟨#[]⟩ := by unfold mtS; rw [hv]; rfl
    rw [hv] at HI
    generalize mtN v = x at *
    generalize mtS v = t at *
    subst hN hS
    go_enter Tryd.func16, Tryd.ntmps16
    go_wp2_with fail
    refine (HI.out _).mono ?_
    rintro e w' ⟨rfl, rfl⟩
    go_wp2_with fail
    go_ret2
    exact ⟨rfl, Below.refl _ _⟩
  · have hN : mtN v = 0 := by unfold mtN; rw [hv]; rfl
    have hS : mtS v = monI v := by unfold mtS; rw [hv]; rfl
    have hb := (monV_iff v).1 hv
    rw [hv] at HI
    have HM := Lib.hid (fun w => spec_money v (by omega) (by omega) w)
    generalize mtN v = x at *
    generalize mtS v = t at *
    generalize monI v = m at *
    subst hN hS
    go_enter Tryd.func16, Tryd.ntmps16
    go_wp2_with fail
    refine (HI.out _).mono ?_
    rintro e w' ⟨rfl, rfl⟩
    go_wp2_with fail
    refine (HM.out _).mono ?_
    rintro e w1 ⟨rfl, b1⟩
    go_wp2_with fail
    go_ret2
    exact ⟨rfl, b1⟩
set_option maxRecDepth 100000 in
set_option maxHeartbeats 4000000 in
theorem impl_MoneyText (v : Int) {w : World} (hl : LbT w) : Calls Tryd.prog 17 #[.int .i64 v] w fun e w' => e = .returned (.tuple #[.string (mtS v), .int .i64 (mtN v)]) ∧ Below w.heap.size w w' := by
  have HI := Lib.hid (fun w => isValue_c v w)
  cases hv : monV v
  · have hN : mtN v = 2 := by unfold mtN; rw [hv]; rfl
    have hS : mtS v = ⟨#[]⟩ := by unfold mtS; rw [hv]; rfl
    rw [hv] at HI
    generalize mtN v = x at *
    generalize mtS v = t at *
    subst hN hS
    clear hl
    go_enter Tryd.func17, Tryd.ntmps17
    go_wp2_with fail
    refine (HI.out _).mono ?_
    rintro e w' ⟨rfl, rfl⟩
    go_wp2_with fail
    go_ret2
    exact ⟨rfl, Below.refl _ _⟩
  · have hN : mtN v = 0 := by unfold mtN; rw [hv]; rfl
    have hS : mtS v = monI v := by unfold mtS; rw [hv]; rfl
    have hb := (monV_iff v).1 hv
    rw [hv] at HI
    replace hl := Lib.hid hl
    obtain ⟨n, hn, hnn⟩ : ∃ n : Nat, n ≤ 1000000000000 ∧ n = v.natAbs := ⟨v.natAbs, by omega, rfl⟩
    have i1 : itoB ((n : Int) / 100) = decB (n / 100) := by rw [itoB_pos (by omega), show ((n : Int) / 100).toNat = n / 100 by omega]
    have i2 : itoB ((n : Int) / 10 % 10) = decB (n / 10 % 10) := by rw [itoB_pos (by omega), show ((n : Int) / 10 % 10).toNat = n / 10 % 10 by omega]
    have i3 : itoB ((n : Int) % 10) = decB (n % 10) := by rw [itoB_pos (by omega), show ((n : Int) % 10).toNat = n % 10 by omega]
    have H1 : Hid (∀ w, LbT w → Calls Tryd.prog 48 #[.int .i64 ((n : Int) / 100)] w fun e w' => e = .returned (.string (decB (n / 100))) ∧ Below w.heap.size w w') := Lib.hid fun w hl => by
      rw [← i1]
      exact impl_decimal _ (by omega) (by omega) hl
    have H2 : Hid (∀ w, LbT w → Calls Tryd.prog 48 #[.int .i64 ((n : Int) / 10 % 10)] w fun e w' => e = .returned (.string (decB (n / 10 % 10))) ∧ Below w.heap.size w w') := Lib.hid fun w hl => by
      rw [← i2]
      exact impl_decimal _ (by omega) (by omega) hl
    have H3 : Hid (∀ w, LbT w → Calls Tryd.prog 48 #[.int .i64 ((n : Int) % 10)] w fun e w' => e = .returned (.string (decB (n % 10))) ∧ Below w.heap.size w w') := Lib.hid fun w hl => by
      rw [← i3]
      exact impl_decimal _ (by omega) (by omega) hl
    clear i1 i2 i3
    have z1 := decB_20 (n := n / 100) (by omega)
    have z2 := decB_20 (n := n / 10 % 10) (by omega)
    have z3 := decB_20 (n := n % 10) (by omega)
    have hM : Hid (monN n = decB (n / 100) ++ ⟨#[46]⟩ ++ decB (n / 10 % 10) ++ decB (n % 10)) := Lib.hid rfl
    by_cases hs : v < 0
    · have hI : Hid (monI v = ⟨#[45]⟩ ++ decB (n / 100) ++ ⟨#[46]⟩ ++ decB (n / 10 % 10) ++ decB (n % 10)) := Lib.hid (by
        unfold monI
        rw [if_pos hs, ← hnn, hM.out]
        simp only [ByteArray.append_assoc])
      have hneg : -v = (n : Int) := by omega
      have s0 : (⟨#[45]⟩ ++ decB (n / 100) : ByteArray).size ≤ 21 := by rw [ByteArray.size_append]; show 1 + _ ≤ 21; omega
      have s1 : (⟨#[45]⟩ ++ decB (n / 100) ++ ⟨#[46]⟩ : ByteArray).size ≤ 22 := by rw [ByteArray.size_append]; show _ + 1 ≤ 22; omega
      have s2 : (⟨#[45]⟩ ++ decB (n / 100) ++ ⟨#[46]⟩ ++ decB (n / 10 % 10) : ByteArray).size ≤ 42 := by rw [ByteArray.size_append]; omega
      generalize mtN v = x at *
      generalize mtS v = t at *
      generalize monI v = m at *
      generalize decB (n / 100) = t1 at *
      generalize decB (n / 10 % 10) = t2 at *
      generalize decB (n % 10) = t3 at *
      subst hN hS
      clear hM hnn hv
      go_enter Tryd.func17, Tryd.ntmps17
      go_wp2_with fail
      refine (HI.out _).mono ?_
      rintro e w' ⟨rfl, rfl⟩
      go_wp2_with fail
      refine (H1.out _ hl.out).mono ?_
      rintro e w1 ⟨rfl, b1⟩
      replace hl := Lib.hid (hl.out.below b1)
      go_wp2_with fail
      refine (H2.out _ hl.out).mono ?_
      rintro e w2 ⟨rfl, b2⟩
      replace hl := Lib.hid (hl.out.below b2)
      replace b1 := below_next b1 (Nat.le_refl _) b2
      go_wp2_with fail
      refine (H3.out _ hl.out).mono ?_
      rintro e w3 ⟨rfl, b3⟩
      replace b1 := below_next b1 (Nat.le_refl _) b3
      go_wp2_with fail
      go_ret2
      exact ⟨rs2 hI.out.symm rfl, b1⟩
    · have hI : Hid (monI v = ⟨#[]⟩ ++ decB (n / 100) ++ ⟨#[46]⟩ ++ decB (n / 10 % 10) ++ decB (n % 10)) := Lib.hid (by
        unfold monI
        rw [if_neg hs, show v.toNat = n by omega, hM.out]
        refine bytes_inj ?_
        simp)
      obtain rfl : v = (n : Int) := by omega
      have s0 : (⟨#[]⟩ ++ decB (n / 100) : ByteArray).size ≤ 21 := by rw [ByteArray.size_append]; show 0 + _ ≤ 21; omega
      have s1 : (⟨#[]⟩ ++ decB (n / 100) ++ ⟨#[46]⟩ : ByteArray).size ≤ 22 := by rw [ByteArray.size_append]; show _ + 1 ≤ 22; omega
      have s2 : (⟨#[]⟩ ++ decB (n / 100) ++ ⟨#[46]⟩ ++ decB (n / 10 % 10) : ByteArray).size ≤ 42 := by rw [ByteArray.size_append]; omega
      generalize mtN (n : Int) = x at *
      generalize mtS (n : Int) = t at *
      generalize monI (n : Int) = m at *
      generalize decB (n / 100) = t1 at *
      generalize decB (n / 10 % 10) = t2 at *
      generalize decB (n % 10) = t3 at *
      subst hN hS
      clear hM hnn hv
      go_enter Tryd.func17, Tryd.ntmps17
      go_wp2_with fail
      refine (HI.out _).mono ?_
      rintro e w' ⟨rfl, rfl⟩
      go_wp2_with fail
      refine (H1.out _ hl.out).mono ?_
      rintro e w1 ⟨rfl, b1⟩
      replace hl := Lib.hid (hl.out.below b1)
      go_wp2_with fail
      refine (H2.out _ hl.out).mono ?_
      rintro e w2 ⟨rfl, b2⟩
      replace hl := Lib.hid (hl.out.below b2)
      replace b1 := below_next b1 (Nat.le_refl _) b2
      go_wp2_with fail
      refine (H3.out _ hl.out).mono ?_
      rintro e w3 ⟨rfl, b3⟩
      replace b1 := below_next b1 (Nat.le_refl _) b3
      go_wp2_with fail
      go_ret2
      exact ⟨rs2 hI.out.symm rfl, b1⟩
end Go.Proofs.YtimjjednfhnbbaaDoor
