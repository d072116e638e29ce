/-
  Decimal numerals: l01Dec and l01Number of the reference.
  Conditions: the number is an int64.
-/
import Derived.Test.YtibfpajblcfobaaDoorTxP
import Derived.Test.YtibfpajblcfobaaDoorStr
import Derived.Outline
import Derived.Laws.IdiomStrings
import Derived.Deep.RegionWith
import Derived.IntWalk
import Derived.Deep.RegionHeld3
namespace Go.Proofs.YtibfpajblcfobaaDoor
open Go.RowKit
set_option linter.unusedVariables false

theorem bcell {W w1 : World} (hb : Below W.heap.size W w1) : (∀ b o, b < W.heap.size → w1.cell? ⟨b, o, none⟩ = W.cell? ⟨b, o, none⟩) ∧ (∀ b o, b < W.heap.size → w1.frozen? ⟨b, o, none⟩ = W.frozen? ⟨b, o, none⟩) :=
  ⟨fun b o h => hb.cell (p := ⟨b, o, none⟩) h, fun b o h => hb.frozen (p := ⟨b, o, none⟩) h⟩
/-- The last digit of k. -/
def ld (k : Nat) : UInt8 := UInt8.ofNat (48 + k % 10)
theorem ld_cell (k : Nat) : ((ld k).toNat : Int) = 48 + (k : Int) % 10 := by
  have h : k % 10 < 10 := Nat.mod_lt _ (by omega)
  have : (ld k).toNat = 48 + k % 10 := by
    show (48 + k % 10) % 2 ^ 8 = 48 + k % 10
    omega
  omega
theorem ld_str (k : Nat) (w : World) (b c : Nat) (h : w.cell? ⟨b, 0, none⟩ = some (.int .u8 (48 + (k : Int) % 10))) :
    (convert 34 9 (.slice (some ⟨b, 0, none⟩) 1 c)).run Tryd.prog w = .ok (.string ⟨#[ld k]⟩) w :=
  run_convert_bytes_back (P := Tryd.prog) _ 34 9 5 ⟨b, 0, none⟩ c [ld k] (by kernel_rfl) (by kernel_rfl) (by kernel_rfl) (fun j hj => by
    obtain rfl : j = 0 := by simp at hj; omega
    show w.cell? ⟨b, 0, none⟩ = some (.int .u8 ((ld k).toNat : Int))
    rw [h, ld_cell])
def decB (n : Nat) : ByteArray := mkB (Lib.decDigits n)
theorem decB_small {n : Nat} (h : n < 10) : decB n = ⟨#[ld n]⟩ := by
  unfold decB ld
  rw [Lib.decDigits_one h, Nat.mod_eq_of_lt h]
  rfl
theorem decB_big {n : Nat} (h : ¬ n < 10) : decB n = decB (n / 10) ++ ⟨#[ld n]⟩ := by
  refine bytes_inj ?_
  unfold decB ld
  rw [mkB_data, decDigits_big h]
  simp [mkB]
theorem decB_size {n k : Nat} (hk : 1 ≤ k) (h : n < 10 ^ k) : (decB n).size ≤ k := by
  unfold decB
  rw [mkB_size]
  exact decDigits_len_le hk h
theorem decB_20 {n : Nat} (h : n ≤ 9223372036854775807) : (decB n).size ≤ 20 := by
  refine decB_size (by omega) ?_
  have : (10 : Nat) ^ 20 = 100000000000000000000 := by decide
  omega
set_option maxRecDepth 100000 in
set_option maxHeartbeats 2000000 in
theorem spec_dec (n : Nat) (hn : n ≤ 9223372036854775807) (w : World) : Calls Tryd.prog 35 #[.int .i64 n] w fun e w' => e = .returned (.string (decB n)) ∧ Below w.heap.size w w' := by
  induction n using Nat.strongRecOn generalizing w with
  | _ n ih =>
    by_cases h : n < 10
    · have hD := Lib.hid (decB_small h)
      have hm : Hid ((n : Int) % 10 = n) := Lib.hid (by omega)
      have hc := ld_str n (w.alloc (.cells #[.int .u8 (48 + (n : Int))] 5)) w.heap.size 1 (by rw [hm.out]; exact World.cell?_alloc_mark _ _ _ _ _)
      clear ih
      go_enter Tryd.func35, Tryd.ntmps35
      go_wp2_with fail
      go_ret
      exact ⟨rs hD.out.symm, (Below.refl _ _).alloc (Nat.le_refl _) _⟩
    · have hD := Lib.hid (decB_big h)
      have IH : Hid (∀ w : World, Calls Tryd.prog 35 #[.int .i64 ((n : Int) / 10)] w fun e w' => e = .returned (.string (decB (n / 10))) ∧ Below w.heap.size w w') := Lib.hid (fun w => by
        have hq : (n : Int) / 10 = ((n / 10 : Nat) : Int) := by omega
        rw [hq]
        exact ih (n / 10) (by omega) (by omega) w)
      have hz := decB_20 (n := n / 10) (by omega)
      have hc := ld_str n
      have hh : 10 ≤ n := by omega
      clear ih h
      generalize decB (n / 10) = t at *
      generalize ld n = d at *
      have e0 : IntKind.i64.wrap ((n : Int) / 10) = (n : Int) / 10 := IntWalk.i64_in _ (by omega)
      have e1 : Int.tmod (n : Int) 10 = (n : Int) % 10 := Int.tmod_eq_emod_of_nonneg (by omega)
      have e2 : IntKind.i64.wrap (48 + (n : Int) % 10) = 48 + (n : Int) % 10 := IntWalk.i64_in _ (by omega)
      have e3 : IntKind.u8.wrap (48 + (n : Int) % 10) = 48 + (n : Int) % 10 := IntWalk.u8_in _ (by omega)
      go_enter Tryd.func35, Tryd.ntmps35
      go_wp2_with fail
      go_region_with ((go_at_call 35; refine (IH.out _).mono ?_; rintro e w1 ⟨rfl, b1⟩; obtain ⟨hcl, _⟩ := bcell b1))
      all_goals
        clear e0 e1 e2 e3
        go_wp2_with fail
        go_ret
        refine ⟨rs hD.out.symm, ?_⟩
        first
          | exact (below_next (Below.refl _ w).drew (Nat.le_refl _) b1).alloc (by have := b1.size; exact this) _
          | exact below_next ((Below.refl _ w).alloc (Nat.le_refl _) _).drew (by simp) b1

/-- The numeral of a number, as text. -/
def itoB (v : Int) : ByteArray := mkB (Lib.itoa v)
theorem itoB_pos {v : Int} (h : ¬ v < 0) : itoB v = decB v.toNat := by unfold itoB decB; rw [itoa_pos h]
theorem itoB_neg {v : Int} (h : v < 0) : itoB v = ⟨#[45]⟩ ++ decB v.natAbs := by
  refine bytes_inj ?_
  unfold itoB decB
  rw [mkB_data, itoa_neg' h]
  simp [mkB]
theorem spec_decI (v : Int) (h0 : 0 ≤ v) (h1 : v ≤ 9223372036854775807) (w : World) : Calls Tryd.prog 35 #[.int .i64 v] w fun e w' => e = .returned (.string (decB v.toNat)) ∧ Below w.heap.size w w' := by
  have h := spec_dec v.toNat (by omega) w
  rw [show ((v.toNat : Nat) : Int) = v by omega] at h
  exact h
end Go.Proofs.YtibfpajblcfobaaDoor
