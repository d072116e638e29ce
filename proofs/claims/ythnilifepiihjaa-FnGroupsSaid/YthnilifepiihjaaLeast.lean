/-
  LeastSafeLimit of both packages.
  Conditions: each lemma names its own.
-/
import Derived.Test.YthnilifepiihjaaPersLik
import Derived.Test.YthnilifepiihjaaLimit
namespace Go.Proofs.Ythnilifepiihjaa
open Go.RowKit
set_option linter.unusedVariables false

/-- The greatest likeness of person i to one of the first j, and m. -/
def rmx (ps : List Per) (i : Nat) : Nat → Int → Int
  | 0, m => m
  | j + 1, m => max (rmx ps i j m) (lik (ps.getD i perZ) (ps.getD j perZ))
/-- The greatest likeness among the first i persons. -/
def amx (ps : List Per) : Nat → Int
  | 0 => -1
  | i + 1 => rmx ps i i (amx ps i)
theorem rmx_bd (ps : List Per) (i : Nat) : ∀ j m, -1 ≤ m → m ≤ 100 → -1 ≤ rmx ps i j m ∧ rmx ps i j m ≤ 100 := by
  intro j m h0 h1
  induction j with
  | zero => exact ⟨h0, h1⟩
  | succ j ih =>
    rw [rmx]
    have := lik_bd (ps.getD i perZ) (ps.getD j perZ)
    omega
theorem amx_bd (ps : List Per) : ∀ i, -1 ≤ amx ps i ∧ amx ps i ≤ 100 := by
  intro i
  induction i with
  | zero => simp [amx]
  | succ i ih => rw [amx]; exact rmx_bd ps i i _ ih.1 ih.2
theorem rmx_le (ps : List Per) (i : Nat) : ∀ j m, m ≤ rmx ps i j m ∧ ∀ k, k < j → lik (ps.getD i perZ) (ps.getD k perZ) ≤ rmx ps i j m := by
  intro j m
  induction j with
  | zero => exact ⟨Int.le_refl _, fun k h => absurd h (by omega)⟩
  | succ j ih =>
    rw [rmx]
    refine ⟨by omega, fun k hk => ?_⟩
    by_cases e : k = j
    · subst e; omega
    · have := ih.2 k (by omega); omega
theorem amx_le (ps : List Per) : ∀ n i k, i < n → k < i → lik (ps.getD i perZ) (ps.getD k perZ) ≤ amx ps n := by
  intro n
  induction n with
  | zero => intro i k h; omega
  | succ n ih =>
    intro i k hi hk
    rw [amx]
    obtain ⟨h1, h2⟩ := rmx_le ps n n (amx ps n)
    by_cases e : i = n
    · subst e; exact h2 k hk
    · have := ih i k (by omega) hk; omega
def lsiI (ps : List Per) : Int := if persB ps = true then (if amx ps ps.length = 100 then 0 else amx ps ps.length + 1) else 0
def lsiE (ps : List Per) : Int := if persB ps = true then (if amx ps ps.length = 100 then 4 else 0) else 1
theorem rmx_step {ps : List Per} {p q : Per} {i j : Nat} {m x : Int} (hp : ps[i]? = some p) (hq : ps[j]? = some q) (hx : lik p q = x) : rmx ps i (j + 1) m = max (rmx ps i j m) x := by
  rw [rmx, getD_per hp, getD_per hq, hx]

set_option maxHeartbeats 2000000 in
theorem impl_Least {v : Value} {ps : List Per} {w : World} (h : Persons w v ps) (hp : PersFit ps) :
    Calls Try.prog 50 #[v] w fun e w' => e = .returned (.tuple #[.int .i64 (lsiI ps), .int .i64 (lsiE ps)]) ∧ Below w.heap.size w w' := by
  have HA := Lib.hid (impl_ArePersons h hp)
  obtain ⟨a, n, c, rfl, H⟩ := h.parts
  have hlen := Lib.hid H.len
  have hcap := H.cap
  have hmost := H.most
  unfold maxLen at hmost
  clear H
  have HP := Lib.hid h
  clear h
  cases hB : persB ps
  · have R1 : Hid (lsiI ps = 0) := Lib.hid (by unfold lsiI; rw [if_neg (by simp [hB])])
    have R2 : Hid (lsiE ps = 1) := Lib.hid (by unfold lsiE; rw [if_neg (by simp [hB])])
    rw [hB] at HA
    clear hB
    go_enter Try.func50, Try.ntmps50
    go_wp2_with fail
    refine HA.out.mono ?_
    rintro e w1 ⟨rfl, b1⟩
    go_wp2_with fail
    go_ret2
    exact ⟨ret2_i R1.out.symm R2.out.symm, b1⟩
  · have HB := Lib.hid hB
    rw [hB] at HA
    clear hB
    have VB := fun k q hx => persB_born HB.out (k := k) (q := q) hx
    replace VB := Lib.hid VB
    have FF := Lib.hid hp
    clear hp
    go_enter Try.func50, Try.ntmps50
    go_wp2_with fail
    refine HA.out.mono ?_
    rintro e w1 ⟨rfl, b1⟩
    go_wp2_with fail
    go_loopw [4, 14] (fun m i wr => ∃ k : Nat, k ≤ n ∧ i = .int .i64 k ∧ m = .int .i64 (amx ps k + 1) ∧ Below w.heap.size w wr) (fun _ i _ => n - (intOf i).toNat)
    case atStart => exact ⟨0, Nat.zero_le _, rfl, rfl, b1⟩
    case round =>
      obtain ⟨k, hk, rfl, rfl, BB⟩ := hrel
      obtain ⟨m0, m1⟩ := amx_bd ps k
      by_cases hlt : k < n
      · have hX := per_at (ps := ps) (k := k) (by have := hlen.out; omega)
        obtain ⟨p, hx⟩ := hX
        have fp := Lib.hid (FF.out.at_ hx)
        have bp := Lib.hid (VB.out k p hx)
        have HX := Lib.hid hx
        clear hx
        obtain ⟨wo, rfl⟩ : ∃ wo : World, wo = wr := ⟨_, rfl⟩
        obtain ⟨a', n', c', hv, H⟩ := (HP.out.below BB).parts
        injection hv with hv1 hv2 hv3
        subst hv1 hv2 hv3
        obtain ⟨b, o, ha, hbb, hc⟩ := H.cells (by omega)
        subst ha
        obtain ⟨c0, c1, c2, c3, c4⟩ := hc k p HX.out
        clear hc H
        have PN := perAt_new wo p 35
        have BN : Below w.heap.size w (wo.alloc (.cells #[.int .i64 p.number, .string p.first, .string p.last, .int .i64 p.born, .int .i64 p.zone] 35)) := BB.alloc BB.size _
        have hs : Hid (amx ps (k + 1) = rmx ps k k (amx ps k)) := Lib.hid rfl
        generalize hM : amx ps k = M at *
        replace hM := Lib.hid hM
        go_wp2_with fail
        clear c0 c1 c2 c3 c4
        go_loopw [4, 23] (fun m i wr => ∃ j : Nat, j ≤ k ∧ i = .int .i64 j ∧ m = .int .i64 (rmx ps k j M + 1) ∧ Below w.heap.size w wr ∧ PerAt wr wo.heap.size p) (fun _ i _ => k - (intOf i).toNat)
        case atStart => exact ⟨0, Nat.zero_le _, rfl, rfl, BN, PN⟩
        case round =>
          obtain ⟨j, hj, rfl, rfl, BR, PR⟩ := hrel
          obtain ⟨r0, r1⟩ := rmx_bd ps k j M m0 m1
          by_cases hjk : j < k
          · have hY := per_at (ps := ps) (k := j) (by have := hlen.out; omega)
            obtain ⟨q, hy⟩ := hY
            have fq := Lib.hid (FF.out.at_ hy)
            have bq := Lib.hid (VB.out j q hy)
            have hst := rmx_step (m := M) HX.out hy rfl
            obtain ⟨_, d0, d1, d2, d3, d4⟩ := (HP.out.below BR).at_ hy
            obtain ⟨u, p0, p1, p2, p3, p4⟩ := id PR
            have hlik := Lib.hid (fun w => impl_lik_l p q fp.out fq.out bp.out bq.out w)
            have hl := lik_bd p q
            generalize lik p q = x at *
            generalize hR : rmx ps k j M = R at *
            replace hR := Lib.hid hR
            replace hst := Lib.hid hst
            clear hy
            have PN2 := perAt_new wr q 35
            have BR2 : Below w.heap.size w (wr.alloc (.cells #[.int .i64 q.number, .string q.first, .string q.last, .int .i64 q.born, .int .i64 q.zone] 35)) := BR.alloc BR.size _
            have PR2 := PR.alloc (.cells #[.int .i64 q.number, .string q.first, .string q.last, .int .i64 q.born, .int .i64 q.zone] 35)
            obtain ⟨e0, e1, e2, e3, e4, e5⟩ := PN2
            go_wp2_with fail
            refine (hlik.out _).mono ?_
            rintro e w3 ⟨rfl, b3⟩
            replace BR2 := below_next BR2 (Nat.le_refl _) b3
            replace PR2 := PR2.below b3
            clear d0 d1 d2 d3 d4 p0 p1 p2 p3 p4 e0 e1 e2 e3 e4 e5
            go_wp2_with fail
            go_roundw
            case rel => exact ⟨j + 1, by omega, by go_num, by rw [hst.out]; congr 1; omega, BR2, PR2⟩
            case measure => simp [intOf]; omega
          · obtain rfl : j = k := by omega
            go_wp2_with fail
            go_roundw
            case rel => exact ⟨j + 1, by omega, by go_num, by rw [hs.out], BR⟩
            case measure => simp [intOf]; omega
      · obtain rfl : k = n := by omega
        by_cases q : amx ps k = 100
        · have R1 : Hid (lsiI ps = 0) := Lib.hid (by unfold lsiI; rw [if_pos HB.out, hlen.out, if_pos q])
          have R2 : Hid (lsiE ps = 4) := Lib.hid (by unfold lsiE; rw [if_pos HB.out, hlen.out, if_pos q])
          have HL := Lib.hid (fun w => limit_no (amx ps k + 1) (by omega) w)
          generalize amx ps k = M at *
          clear q
          go_wp2_with fail
          refine (HL.out _).mono ?_
          rintro e w' ⟨rfl, rfl⟩
          go_wp2_with fail
          go_ret2
          exact ⟨ret2_i R1.out.symm R2.out.symm, BB⟩
        · have R1 : Hid (lsiI ps = amx ps k + 1) := Lib.hid (by unfold lsiI; rw [if_pos HB.out, hlen.out, if_neg q])
          have R2 : Hid (lsiE ps = 0) := Lib.hid (by unfold lsiE; rw [if_pos HB.out, hlen.out, if_neg q])
          have HL := Lib.hid (fun w => limit_yes (amx ps k + 1) (by omega) (by omega) w)
          generalize amx ps k = M at *
          clear q
          go_wp2_with fail
          refine (HL.out _).mono ?_
          rintro e w' ⟨rfl, rfl⟩
          go_wp2_with fail
          go_ret2
          exact ⟨ret2_i R1.out.symm R2.out.symm, BB⟩

set_option maxHeartbeats 2000000 in
theorem spec_Least {v : Value} {ps : List Per} {w : World} (h : Persons w v ps) (hp : PersFit ps) :
    Calls Try.prog 51 #[v] w fun e w' => e = .returned (.tuple #[.int .i64 (lsiI ps), .int .i64 (lsiE ps)]) ∧ Below w.heap.size w w' := by
  have HA := Lib.hid (spec_ArePersons h hp)
  obtain ⟨a, n, c, rfl, H⟩ := h.parts
  have hlen := Lib.hid H.len
  have hcap := H.cap
  have hmost := H.most
  unfold maxLen at hmost
  clear H
  have HP := Lib.hid h
  clear h
  cases hB : persB ps
  · have R1 : Hid (lsiI ps = 0) := Lib.hid (by unfold lsiI; rw [if_neg (by simp [hB])])
    have R2 : Hid (lsiE ps = 1) := Lib.hid (by unfold lsiE; rw [if_neg (by simp [hB])])
    rw [hB] at HA
    clear hB
    go_enter Try.func51, Try.ntmps51
    go_wp2_with fail
    refine HA.out.mono ?_
    rintro e w1 ⟨rfl, b1⟩
    go_wp2_with fail
    go_ret2
    exact ⟨ret2_i R1.out.symm R2.out.symm, b1⟩
  · have HB := Lib.hid hB
    rw [hB] at HA
    clear hB
    have VB := fun k q hx => persB_born HB.out (k := k) (q := q) hx
    replace VB := Lib.hid VB
    have FF := Lib.hid hp
    clear hp
    go_enter Try.func51, Try.ntmps51
    go_wp2_with fail
    refine HA.out.mono ?_
    rintro e w1 ⟨rfl, b1⟩
    go_wp2_with fail
    go_loopw [4, 5] (fun m i wr => ∃ k : Nat, k ≤ n ∧ i = .int .i64 k ∧ m = .int .i64 (amx ps k) ∧ Below w.heap.size w wr) (fun _ i _ => n - (intOf i).toNat)
    case atStart => exact ⟨0, Nat.zero_le _, rfl, rfl, b1⟩
    case round =>
      obtain ⟨k, hk, rfl, rfl, BB⟩ := hrel
      obtain ⟨m0, m1⟩ := amx_bd ps k
      by_cases hlt : k < n
      · have hX := per_at (ps := ps) (k := k) (by have := hlen.out; omega)
        obtain ⟨p, hx⟩ := hX
        have fp := Lib.hid (FF.out.at_ hx)
        have bp := Lib.hid (VB.out k p hx)
        have HX := Lib.hid hx
        clear hx
        obtain ⟨wo, rfl⟩ : ∃ wo : World, wo = wr := ⟨_, rfl⟩
        obtain ⟨b, o, rfl⟩ := HP.out.form.2.2.2 (by omega)
        have hs : Hid (amx ps (k + 1) = rmx ps k k (amx ps k)) := Lib.hid rfl
        generalize hM : amx ps k = M at *
        replace hM := Lib.hid hM
        go_wp2_with fail
        go_loopw [4, 6] (fun m i wr => ∃ j : Nat, j ≤ k ∧ i = .int .i64 j ∧ m = .int .i64 (rmx ps k j M) ∧ Below w.heap.size w wr) (fun _ i _ => k - (intOf i).toNat)
        case atStart => exact ⟨0, Nat.zero_le _, rfl, rfl, BB⟩
        case round =>
          obtain ⟨j, hj, rfl, rfl, BR⟩ := hrel
          obtain ⟨r0, r1⟩ := rmx_bd ps k j M m0 m1
          by_cases hjk : j < k
          · have hY := per_at (ps := ps) (k := j) (by have := hlen.out; omega)
            obtain ⟨q, hy⟩ := hY
            have fq := Lib.hid (FF.out.at_ hy)
            have bq := Lib.hid (VB.out j q hy)
            have hst := rmx_step (m := M) HX.out hy rfl
            obtain ⟨_, c0, c1, c2, c3, c4⟩ := (HP.out.below BR).at_ HX.out
            obtain ⟨_, d0, d1, d2, d3, d4⟩ := (HP.out.below BR).at_ hy
            have hlik := Lib.hid (fun w => spec_lik_l p q fp.out fq.out bp.out bq.out w)
            have hl := lik_bd p q
            generalize lik p q = x at *
            generalize hR : rmx ps k j M = R at *
            replace hR := Lib.hid hR
            replace hst := Lib.hid hst
            clear hy
            go_wp2_with fail
            refine region_ext (by kernel_rfl) (by kernel_rfl) ?_
            repeat (go_big_quiet_step ((with_reducible_and_instances exact ext_call (hlik.out _))))
            refine wpQuiet_nil ?_
            rintro _ ⟨nx, rfl⟩
            have b3 := ext_below _ nx
            generalize extW _ nx = w3 at *
            replace BR := below_next BR (Nat.le_refl _) b3
            clear c0 c1 c2 c3 c4 d0 d1 d2 d3 d4
            go_wp2_with fail
            go_roundw
            case rel => exact ⟨j + 1, by omega, by go_num, by rw [hst.out]; congr 1; omega, BR⟩
            case measure => simp [intOf]; omega
          · obtain rfl : j = k := by omega
            go_wp2_with fail
            go_roundw
            case rel => exact ⟨j + 1, by omega, by go_num, by rw [hs.out], BR⟩
            case measure => simp [intOf]; omega
      · obtain rfl : k = n := by omega
        by_cases q : amx ps k = 100
        · have R1 : Hid (lsiI ps = 0) := Lib.hid (by unfold lsiI; rw [if_pos HB.out, hlen.out, if_pos q])
          have R2 : Hid (lsiE ps = 4) := Lib.hid (by unfold lsiE; rw [if_pos HB.out, hlen.out, if_pos q])
          have hq : (amx ps k == 100) = true := by simpa using q
          generalize amx ps k = M at *
          clear q
          go_wp2_with fail
          go_ret2
          exact ⟨ret2_i R1.out.symm R2.out.symm, BB⟩
        · have R1 : Hid (lsiI ps = amx ps k + 1) := Lib.hid (by unfold lsiI; rw [if_pos HB.out, hlen.out, if_neg q])
          have R2 : Hid (lsiE ps = 0) := Lib.hid (by unfold lsiE; rw [if_pos HB.out, hlen.out, if_neg q])
          have hq : (amx ps k == 100) = false := by simpa using q
          generalize amx ps k = M at *
          clear q
          go_wp2_with fail
          go_ret2
          exact ⟨ret2_i R1.out.symm R2.out.symm, BB⟩
end Go.Proofs.Ythnilifepiihjaa
