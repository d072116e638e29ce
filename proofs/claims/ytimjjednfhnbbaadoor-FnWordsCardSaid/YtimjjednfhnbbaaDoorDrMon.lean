/-
  Draws of cents and of their texts.
  Conditions: each lemma names its own.
-/
import Derived.Test.YtimjjednfhnbbaaDoorDmg
import Derived.Test.YtimjjednfhnbbaaDoorMon
namespace Go.Proofs.YtimjjednfhnbbaaDoor
open Go.RowKit
set_option linter.unusedVariables false

theorem monI_size {v : Int} (h0 : -9000000000000000000 ≤ v) (h1 : v ≤ 9000000000000000000) : (monI v).size ≤ 101 := by
  unfold monI
  split
  · have := monN_size (n := v.natAbs) (by omega)
    rw [ByteArray.size_append]
    have : (⟨#[45]⟩ : ByteArray).size = 1 := rfl
    omega
  · have := monN_size (n := v.toNat) (by omega)
    omega
/-- A number, drawn from a code. -/
def RetNum (lo hi : Int) (w : World) (e : Ending) (w' : World) : Prop := ∃ r : Int, e = .returned (.int .i64 r) ∧ lo ≤ r ∧ r ≤ hi ∧ Below w.heap.size w w'
/-- A text, drawn from a code. -/
def RetStr (m : Nat) (w : World) (e : Ending) (w' : World) : Prop := ∃ s : ByteArray, e = .returned (.string s) ∧ s.size ≤ m ∧ Below w.heap.size w w'
set_option maxRecDepth 100000 in
set_option maxHeartbeats 2000000 in
theorem DrawMoneyText_c {v : Value} {bs : List Int} {w : World} (h : Bytes w v bs) (hf : BytesFit bs) : Calls Tryd.prog 37 #[v] w (RetNum (-1000000000001) 1000000000001 w) := by
  go_enter Tryd.func37, Tryd.ntmps37
  go_wp2_with fail
  refine (from_c h hf).mono ?_
  rintro e w1 ⟨g, rfl, h1, b1⟩
  clear h
  go_wp2_with fail
  refine (next_c h1 100000 (by omega)).mono ?_
  rintro e w2 ⟨r2, rfl, ⟨a2, b2, _⟩, h2, p2⟩
  replace b2 := b2 (by omega)
  go_wp2_with fail
  refine (drawValue_c h2).mono ?_
  rintro e w3 ⟨r3, rfl, a3, b3, h3, p3⟩
  have HN := Lib.hid (pick_new (T := 2) (cs := #[.int .i64 (r2 - 5000), .int .i64 r3]) [r2 - 5000, r3] (-1000000000001) 1000000000001 h3 rfl rfl (by simp) (by simp) (by simp; omega))
  go_wp2_with fail
  refine HN.out.mono ?_
  rintro e w4 ⟨x, rfl, x0, x1, h4, p4⟩
  have hb4 := src_below b1 h1 ((p2.trans p3).trans p4)
  clear HN
  go_wp2_with fail
  go_ret
  exact ⟨x, rfl, x0, x1, hb4⟩
set_option maxRecDepth 100000 in
set_option maxHeartbeats 2000000 in
theorem DrawReadMoney_c {v : Value} {bs : List Int} {w : World} (h : Bytes w v bs) (hf : BytesFit bs) : Calls Tryd.prog 38 #[v] w (RetStr 200 w) := by
  go_enter Tryd.func38, Tryd.ntmps38
  go_wp2_with fail
  refine (from_c h hf).mono ?_
  rintro e w1 ⟨g, rfl, h1, b1⟩
  clear h
  go_wp2_with fail
  refine (next_c h1 100000 (by omega)).mono ?_
  rintro e w2 ⟨r2, rfl, ⟨a2, b2, _⟩, h2, p2⟩
  replace b2 := b2 (by omega)
  have HM := Lib.hid (spec_money (r2 - 5000) (by omega) (by omega) w2)
  have hms : Hid ((monI (r2 - 5000)).size ≤ 101) := Lib.hid (monI_size (by omega) (by omega))
  generalize monI (r2 - 5000) = t at *
  go_wp2_with fail
  refine HM.out.mono ?_
  rintro e w3 ⟨rfl, b3⟩
  have h3 := h2.below b3
  have p3 := p2.trans (Past.of_below b3)
  clear HM b3
  go_wp2_with fail
  refine (next_c h3 3 (by omega)).mono ?_
  rintro e w4 ⟨r4, rfl, _, h4, p4⟩
  by_cases q : r4 = 0
  · have hq : (r4 == 0) = true := by simpa using q
    clear q
    go_wp2_with fail
    refine (damage_c h4 t 101 hms.out (by omega)).mono ?_
    rintro e w5 ⟨u, rfl, hu, h5, p5⟩
    have hb5 := src_below b1 h1 ((p3.trans p4).trans p5)
    go_wp2_with fail
    go_ret
    exact ⟨u, rfl, by omega, hb5⟩
  · have hq : (r4 == 0) = false := by simpa using q
    clear q
    have hb4 := src_below b1 h1 (p3.trans p4)
    go_wp2_with fail
    go_ret
    exact ⟨t, rfl, by have := hms.out; omega, hb4⟩
end Go.Proofs.YtimjjednfhnbbaaDoor
