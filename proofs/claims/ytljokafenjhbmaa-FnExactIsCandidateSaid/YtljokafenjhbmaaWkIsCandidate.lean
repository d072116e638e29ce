/-
  The walk of FnExactIsCandidate.
  Conditions: each lemma names its own.
-/
import Derived.Test.YtljokafenjhbmaaCand
namespace Go.Proofs.Ytljokafenjhbmaa
open Go.RowKit
set_option linter.unusedVariables false

theorem toCandidate_l (c : Cand) (w : World) : Calls Try.prog 16 #[.agg #[.int .i64 c.per.number, .string c.per.first, .string c.per.last, .int .i64 c.per.born, .int .i64 c.per.zone, .bool c.citizen, .bool c.convicted, .bool c.fluent, .int .i64 c.job]] w fun e w' => e = .returned (candV c) ∧ Below w.heap.size w w' := toCandidate_c c w
set_option maxHeartbeats 1000000 in
theorem wk_FnExactIsCandidate (c : Cand) (hp : CandFit c) (w : World) :
    Calls Try.prog 4 #[candV c] w fun e w' => e = .returned (.bool true) ∧ Below w.heap.size w w' := by
  have HV : Hid (candV c = .agg #[.int .i64 c.per.number, .string c.per.first, .string c.per.last, .int .i64 c.per.born, .int .i64 c.per.zone, .bool c.citizen, .bool c.convicted, .bool c.fluent, .int .i64 c.job]) := Lib.hid rfl
  have HS := Lib.hid (szCandidate_c c hp 1048576 (by omega) (by omega))
  have H1 := Lib.hid (spec_IsCandidate c hp)
  have H2 := Lib.hid (impl_IsCandidate c hp)
  clear hp
  have CA := candAt_new w c 30
  have BB : Below w.heap.size w (w.alloc (.cells #[.int .i64 c.per.number, .string c.per.first, .string c.per.last, .int .i64 c.per.born, .int .i64 c.per.zone, .bool c.citizen, .bool c.convicted, .bool c.fluent, .int .i64 c.job] 30)) := (Below.refl _ _).alloc (Nat.le_refl _) _
  generalize szP 1048576 c.per = r at *
  rw [HV.out]
  clear HV
  by_cases q : r < 0
  · go_enter Try.func4, Try.ntmps4
    go_wp2_with fail
    refine (HS.out _).mono ?_
    rintro e w1 ⟨rfl, b1⟩
    replace BB := below_next BB (Nat.le_refl _) b1
    go_wp2_with fail
    go_ret
    exact ⟨rfl, BB⟩
  · go_enter Try.func4, Try.ntmps4
    go_wp2_with fail
    refine (HS.out _).mono ?_
    rintro e w1 ⟨rfl, b1⟩
    replace BB := below_next BB (Nat.le_refl _) b1
    replace CA := CA.below b1
    obtain ⟨⟨cb, c0, c1, c2, c3, c4⟩, c5, c6, c7, c8⟩ := id CA
    go_wp2_with fail
    clear cb c0 c1 c2 c3 c4 c5 c6 c7 c8
    refine (toCandidate_l c _).mono ?_
    rintro e w2 ⟨rfl, b2⟩
    replace BB := below_next BB (Nat.le_refl _) b2
    replace CA := CA.below b2
    go_wp2_with fail
    refine (H1.out _).mono ?_
    rintro e w3 ⟨rfl, b3⟩
    replace BB := below_next BB (Nat.le_refl _) b3
    replace CA := CA.below b3
    obtain ⟨⟨cb, c0, c1, c2, c3, c4⟩, c5, c6, c7, c8⟩ := id CA
    go_wp2_with fail
    clear cb c0 c1 c2 c3 c4 c5 c6 c7 c8
    refine (toCandidate_l c _).mono ?_
    rintro e w4 ⟨rfl, b4⟩
    replace BB := below_next BB (Nat.le_refl _) b4
    go_wp2_with fail
    refine (H2.out _).mono ?_
    rintro e w5 ⟨rfl, b5⟩
    replace BB := below_next BB (Nat.le_refl _) b5
    go_wp2_with fail
    go_ret
    exact ⟨rfl, BB⟩
end Go.Proofs.Ytljokafenjhbmaa
