/-
  Whether persons are as described: ArePersons of both packages.
  Conditions: each lemma names its own.
-/
import Derived.Test.YthnilifepiihjaaPersons
namespace Go.Proofs.Ythnilifepiihjaa
open Go.RowKit

def perZ : Per := ⟨0, ByteArray.empty, ByteArray.empty, 0, 0⟩
def persAtB (ps : List Per) (j : Nat) : Bool := perB (ps.getD j perZ) && (j == 0 || decide ((ps.getD (j - 1) perZ).number < (ps.getD j perZ).number))
def persB (ps : List Per) : Bool := allB (persAtB ps) ps.length && decide (ps.length ≤ 12)
theorem getD_per {ps : List Per} {k : Nat} {p : Per} (h : ps[k]? = some p) : ps.getD k perZ = p := by
  rw [List.getD_eq_getElem?_getD, h]; rfl
theorem persAtB_zero {ps : List Per} {p : Per} (h : ps[0]? = some p) : persAtB ps 0 = perB p := by
  unfold persAtB; rw [getD_per h]; simp
theorem persAtB_succ {ps : List Per} {k : Nat} {p q : Per} (hk : 0 < k) (h : ps[k]? = some p) (hq : ps[k - 1]? = some q) : persAtB ps k = (perB p && decide (q.number < p.number)) := by
  unfold persAtB; rw [getD_per h, getD_per hq]
  have : (k == 0) = false := by simp; omega
  simp [this]
theorem fewP_c (n : Nat) (hn : n ≤ 9223372036854775807) (w : World) : Calls Try.prog 79 #[.int .i64 n, .int .i64 12] w fun e w' => e = .returned (.bool (decide (n ≤ 12))) ∧ w = w' := by
  go_enter Try.func79, Try.ntmps79
  go_wp2_with fail
  go_ret
  exact ⟨rb (by first | rfl | (apply decide_eq_decide.mpr; omega)), rfl⟩

theorem impl_IsPerson_l (p : Per) (hp : PerFit p) {r : Bool} (hr : perB p = r) (w : World) : Calls Try.prog 27 #[.agg #[.int .i64 p.number, .string p.first, .string p.last, .int .i64 p.born, .int .i64 p.zone]] w fun e w' => e = .returned (.bool r) ∧ Below w.heap.size w w' := by
  subst hr
  exact impl_IsPerson p hp w
set_option maxHeartbeats 1000000 in
theorem impl_ArePersons {v : Value} {ps : List Per} {w : World} (h : Persons w v ps) (hp : PersFit ps) :
    Calls Try.prog 29 #[v] w fun e w' => e = .returned (.bool (persB ps)) ∧ Below w.heap.size w w' := by
  obtain ⟨a, n, c, rfl, H⟩ := h.parts
  have hlen := Lib.hid H.len
  have hcap := H.cap
  have hmost := H.most
  unfold maxLen at hmost
  clear H
  have HP := Lib.hid h
  have HF := Lib.hid hp
  clear h hp
  go_enter Try.func29, Try.ntmps29
  go_wp2_with fail
  go_loopw [7] (fun i wr => ∃ k : Nat, k ≤ n ∧ i = .int .i64 k ∧ Below w.heap.size w wr ∧ AllTo (persAtB ps) k) (fun i _ => n - (intOf i).toNat)
  case atStart => exact ⟨0, Nat.zero_le _, rfl, Below.refl _ _, allTo_zero _⟩
  case round =>
    obtain ⟨k, hk, rfl, BB, hall⟩ := hrel
    rename_i wr
    by_cases hlt : k < n
    · obtain ⟨p, hx⟩ := per_at (ps := ps) (k := k) (by have := hlen.out; omega)
      have PF := Lib.hid (HF.out.at_ hx)
      obtain ⟨a', n', c', hv, H⟩ := (HP.out.below BB).parts
      injection hv with hv1 hv2 hv3
      subst hv1 hv2 hv3
      obtain ⟨b, o, ha, hbb, hc⟩ := H.cells (by omega)
      subst ha
      have HX := Lib.hid hx
      obtain ⟨c0, c1, c2, c3, c4⟩ := hc k p hx
      clear hc H hx
      go_wp2_with fail
      clear c0 c1 c2 c3 c4
      have PN := perAt_new wr p 35
      have BN : Below w.heap.size w (wr.alloc (.cells #[.int .i64 p.number, .string p.first, .string p.last, .int .i64 p.born, .int .i64 p.zone] 35)) := BB.alloc (BB.size) _
      have HN := HP.out.below BN
      generalize wr.alloc (.cells #[.int .i64 p.number, .string p.first, .string p.last, .int .i64 p.born, .int .i64 p.zone] 35) = w1 at *
      obtain ⟨cb, c0, c1, c2, c3, c4⟩ := PN
      by_cases h0 : k = 0
      · subst h0
        have hr := persAtB_zero HX.out
        cases hB : perB p
        · have hfin := Lib.hid (allB_false hlt (show persAtB ps 0 = false by rw [hr, hB]))
          clear hr
          refine region_ext (by kernel_rfl) (by kernel_rfl) ?_
          repeat (go_big_quiet_step ((with_reducible_and_instances exact ext_call (impl_IsPerson_l p PF.out hB _))))
          refine wpQuiet_nil ?_
          rintro _ ⟨nx, rfl⟩
          have b3 := ext_below _ nx
          generalize extW _ nx = w3 at *
          replace BN := below_next BN (Nat.le_refl _) b3
          clear cb c0 c1 c2 c3 c4
          go_wp2_with fail
          go_ret
          exact ⟨rb (by unfold persB; rw [hlen.out, hfin.out]; rfl), BN⟩
        · have hnext := hall.succ (show persAtB ps 0 = true by rw [hr, hB])
          clear hr
          refine region_ext (by kernel_rfl) (by kernel_rfl) ?_
          repeat (go_big_quiet_step ((with_reducible_and_instances exact ext_call (impl_IsPerson_l p PF.out hB _))))
          refine wpQuiet_nil ?_
          rintro _ ⟨nx, rfl⟩
          have b3 := ext_below _ nx
          generalize extW _ nx = w3 at *
          replace BN := below_next BN (Nat.le_refl _) b3
          clear cb c0 c1 c2 c3 c4
          go_wp2_with fail
          go_roundw
          case rel => exact ⟨1, by omega, by go_num, BN, hnext⟩
          case measure => simp [intOf]; omega
      · obtain ⟨q, hq⟩ := per_at (ps := ps) (k := k - 1) (by have := hlen.out; omega)
        have hr := persAtB_succ (by omega) HX.out hq
        obtain ⟨a'', n'', c'', hv, H⟩ := HN.parts
        injection hv with hv1 hv2 hv3
        subst hv2 hv3
        obtain ⟨b', o', ha, hbb', hc⟩ := H.cells (by omega)
        rw [← hv1] at ha
        clear hv1
        injection ha with ha
        injection ha with ha1 ha2
        subst ha1 ha2
        obtain ⟨d0, _, _, _, _⟩ := hc (k - 1) q hq
        have hk0 : 0 < k := by omega
        have hk1 : (0 : Int) ≤ (k : Int) - 1 := by omega
        have HQ := Lib.hid hq
        clear hc H hq
        cases hB : perB p
        · have hfin := Lib.hid (allB_false hlt (show persAtB ps k = false by rw [hr, hB]; rfl))
          clear hr
          refine region_ext (by kernel_rfl) (by kernel_rfl) ?_
          repeat (go_big_quiet_step ((with_reducible_and_instances exact ext_call (impl_IsPerson_l p PF.out hB _))))
          refine wpQuiet_nil ?_
          rintro _ ⟨nx, rfl⟩
          have b3 := ext_below _ nx
          generalize extW _ nx = w3 at *
          replace BN := below_next BN (Nat.le_refl _) b3
          clear cb c0 c1 c2 c3 c4
          go_wp2_with fail
          go_ret
          exact ⟨rb (by unfold persB; rw [hlen.out, hfin.out]; rfl), BN⟩
        · by_cases h3 : q.number < p.number
          · have hnext := hall.succ (show persAtB ps k = true by rw [hr, hB]; simp [h3])
            clear hr
            refine region_ext (by kernel_rfl) (by kernel_rfl) ?_
            repeat (go_big_quiet_step ((with_reducible_and_instances exact ext_call (impl_IsPerson_l p PF.out hB _))))
            refine wpQuiet_nil ?_
            rintro _ ⟨nx, rfl⟩
            have b3 := ext_below _ nx
            generalize extW _ nx = w3 at *
            replace BN := below_next BN (Nat.le_refl _) b3
            clear cb c0 c1 c2 c3 c4
            go_wp2_with fail
            go_roundw
            case rel => exact ⟨k + 1, by omega, by go_num, BN, hnext⟩
            case measure => simp [intOf]; omega
          · have hfin := Lib.hid (allB_false hlt (show persAtB ps k = false by rw [hr, hB]; simp [h3]))
            have h3' : p.number ≤ q.number := by omega
            clear hr
            refine region_ext (by kernel_rfl) (by kernel_rfl) ?_
            repeat (go_big_quiet_step ((with_reducible_and_instances exact ext_call (impl_IsPerson_l p PF.out hB _))))
            refine wpQuiet_nil ?_
            rintro _ ⟨nx, rfl⟩
            have b3 := ext_below _ nx
            generalize extW _ nx = w3 at *
            replace BN := below_next BN (Nat.le_refl _) b3
            clear cb c0 c1 c2 c3 c4
            go_wp2_with fail
            go_ret
            exact ⟨rb (by unfold persB; rw [hlen.out, hfin.out]; rfl), BN⟩
    · have hfin := Lib.hid (allB_true (n := n) (fun j hj => hall j (by omega)))
      by_cases h6 : n ≤ 12
      · go_wp2_with fail
        refine (fewP_c n (by omega) _).mono ?_
        rintro e w' ⟨rfl, rfl⟩
        simp only [h6, decide_true]
        go_wp2_with fail
        go_ret
        exact ⟨rb (by unfold persB; rw [hlen.out, hfin.out]; simp [h6]), BB⟩
      · go_wp2_with fail
        refine (fewP_c n (by omega) _).mono ?_
        rintro e w' ⟨rfl, rfl⟩
        simp only [h6, decide_false]
        go_wp2_with fail
        go_ret
        exact ⟨rb (by unfold persB; rw [hlen.out, hfin.out]; simp [h6]), BB⟩
theorem spec_IsPerson_l (p : Per) (hp : PerFit p) {r : Bool} (hr : perB p = r) (w : World) : Calls Try.prog 28 #[.agg #[.int .i64 p.number, .string p.first, .string p.last, .int .i64 p.born, .int .i64 p.zone]] w fun e w' => e = .returned (.bool r) ∧ Below w.heap.size w w' := by
  subst hr
  exact spec_IsPerson p hp w
set_option maxHeartbeats 1000000 in
theorem spec_ArePersons {v : Value} {ps : List Per} {w : World} (h : Persons w v ps) (hp : PersFit ps) :
    Calls Try.prog 30 #[v] w fun e w' => e = .returned (.bool (persB ps)) ∧ Below w.heap.size w w' := by
  obtain ⟨a, n, c, rfl, H⟩ := h.parts
  have hlen := Lib.hid H.len
  have hcap := H.cap
  have hmost := H.most
  unfold maxLen at hmost
  clear H
  have HP := Lib.hid h
  have HF := Lib.hid hp
  clear h hp
  go_enter Try.func30, Try.ntmps30
  go_wp2_with fail
  go_loopw [3] (fun i wr => ∃ k : Nat, k ≤ n ∧ i = .int .i64 k ∧ Below w.heap.size w wr ∧ AllTo (persAtB ps) k) (fun i _ => n - (intOf i).toNat)
  case atStart => exact ⟨0, Nat.zero_le _, rfl, Below.refl _ _, allTo_zero _⟩
  case round =>
    obtain ⟨k, hk, rfl, BB, hall⟩ := hrel
    rename_i wr
    by_cases hlt : k < n
    · obtain ⟨p, hx⟩ := per_at (ps := ps) (k := k) (by have := hlen.out; omega)
      have PF := Lib.hid (HF.out.at_ hx)
      obtain ⟨a', n', c', hv, H⟩ := (HP.out.below BB).parts
      injection hv with hv1 hv2 hv3
      subst hv1 hv2 hv3
      obtain ⟨b, o, ha, hbb, hc⟩ := H.cells (by omega)
      subst ha
      have HX := Lib.hid hx
      obtain ⟨c0, c1, c2, c3, c4⟩ := hc k p hx
      by_cases h0 : k = 0
      · subst h0
        simp only [Nat.zero_mul, Nat.add_zero] at c0 c1 c2 c3 c4
        have hr := persAtB_zero HX.out
        clear hc H hx
        cases hB : perB p
        · have hfin := Lib.hid (allB_false hlt (show persAtB ps 0 = false by rw [hr, hB]))
          clear hr
          go_wp2_with fail
          refine region_ext (by kernel_rfl) (by kernel_rfl) ?_
          repeat (go_big_quiet_step ((with_reducible_and_instances exact ext_call (spec_IsPerson_l p PF.out hB _))))
          refine wpQuiet_nil ?_
          rintro _ ⟨nx, rfl⟩
          have b3 := ext_below _ nx
          generalize extW _ nx = w3 at *
          replace BB := below_next BB (Nat.le_refl _) b3
          clear c0 c1 c2 c3 c4
          go_wp2_with fail
          go_ret
          exact ⟨rb (by unfold persB; rw [hlen.out, hfin.out]; rfl), BB⟩
        · have hnext := hall.succ (show persAtB ps 0 = true by rw [hr, hB])
          clear hr
          go_wp2_with fail
          refine region_ext (by kernel_rfl) (by kernel_rfl) ?_
          repeat (go_big_quiet_step ((with_reducible_and_instances exact ext_call (spec_IsPerson_l p PF.out hB _))))
          refine wpQuiet_nil ?_
          rintro _ ⟨nx, rfl⟩
          have b3 := ext_below _ nx
          generalize extW _ nx = w3 at *
          replace BB := below_next BB (Nat.le_refl _) b3
          clear c0 c1 c2 c3 c4
          go_wp2_with fail
          go_roundw
          case rel => exact ⟨1, by omega, by go_num, BB, hnext⟩
          case measure => simp [intOf]; omega
      · obtain ⟨q, hq⟩ := per_at (ps := ps) (k := k - 1) (by have := hlen.out; omega)
        have hr := persAtB_succ (by omega) HX.out hq
        obtain ⟨d0, _, _, _, _⟩ := hc (k - 1) q hq
        have hk0 : 0 < k := by omega
        have hk1 : (0 : Int) ≤ (k : Int) - 1 := by omega
        have HQ := Lib.hid hq
        clear hc H hq hx
        cases hB : perB p
        · have hfin := Lib.hid (allB_false hlt (show persAtB ps k = false by rw [hr, hB]; rfl))
          clear hr
          go_wp2_with fail
          refine region_ext (by kernel_rfl) (by kernel_rfl) ?_
          repeat (go_big_quiet_step ((with_reducible_and_instances exact ext_call (spec_IsPerson_l p PF.out hB _))))
          refine wpQuiet_nil ?_
          rintro _ ⟨nx, rfl⟩
          have b3 := ext_below _ nx
          generalize extW _ nx = w3 at *
          replace BB := below_next BB (Nat.le_refl _) b3
          clear c0 c1 c2 c3 c4
          go_wp2_with fail
          go_ret
          exact ⟨rb (by unfold persB; rw [hlen.out, hfin.out]; rfl), BB⟩
        · by_cases h3 : q.number < p.number
          · have hnext := hall.succ (show persAtB ps k = true by rw [hr, hB]; simp [h3])
            clear hr
            go_wp2_with fail
            refine region_ext (by kernel_rfl) (by kernel_rfl) ?_
            repeat (go_big_quiet_step ((with_reducible_and_instances exact ext_call (spec_IsPerson_l p PF.out hB _))))
            refine wpQuiet_nil ?_
            rintro _ ⟨nx, rfl⟩
            have b3 := ext_below _ nx
            generalize extW _ nx = w3 at *
            replace BB := below_next BB (Nat.le_refl _) b3
            clear c0 c1 c2 c3 c4
            go_wp2_with fail
            go_roundw
            case rel => exact ⟨k + 1, by omega, by go_num, BB, hnext⟩
            case measure => simp [intOf]; omega
          · have hfin := Lib.hid (allB_false hlt (show persAtB ps k = false by rw [hr, hB]; simp [h3]))
            have h3' : p.number ≤ q.number := by omega
            clear hr
            go_wp2_with fail
            refine region_ext (by kernel_rfl) (by kernel_rfl) ?_
            repeat (go_big_quiet_step ((with_reducible_and_instances exact ext_call (spec_IsPerson_l p PF.out hB _))))
            refine wpQuiet_nil ?_
            rintro _ ⟨nx, rfl⟩
            have b3 := ext_below _ nx
            generalize extW _ nx = w3 at *
            replace BB := below_next BB (Nat.le_refl _) b3
            clear c0 c1 c2 c3 c4
            go_wp2_with fail
            go_ret
            exact ⟨rb (by unfold persB; rw [hlen.out, hfin.out]; rfl), BB⟩
    · have hfin := Lib.hid (allB_true (n := n) (fun j hj => hall j (by omega)))
      by_cases h6 : n ≤ 12
      · go_wp2_with fail
        go_ret
        exact ⟨rb (by unfold persB; rw [hlen.out, hfin.out]; simp [h6]; try omega), BB⟩
      · go_wp2_with fail
        go_ret
        exact ⟨rb (by unfold persB; rw [hlen.out, hfin.out]; simp [h6]; try omega), BB⟩
end Go.Proofs.Ythnilifepiihjaa
