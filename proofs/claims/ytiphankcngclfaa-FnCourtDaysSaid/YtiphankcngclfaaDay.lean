/-
  Contracts of the functions of court days below the exported ones, the program's and the reference's.
  Conditions: each lemma names its own.
-/
import Derived.Test.YtiphankcngclfaaDayPlain
namespace Go.Proofs.Ytiphankcngclfaa
open Go.RowKit

theorem quiet_below {P : Program} {f : FuncId} {args : Array Value} {w : World} {v : Value} (h : Calls P f args w fun e w' => e = .returned v ∧ ∃ m, w' = w.drewN m) :
    Calls P f args w fun e w' => e = .returned v ∧ Below w.heap.size w w' :=
  h.mono fun _ _ ⟨he, m, hm⟩ => ⟨he, by subst hm; exact below_of_drewN (Below.refl _ _) m⟩

theorem court_no {xs : List Int} {d : Int} (h : 5 ≤ d % 7) : courtB xs d = false := by
  unfold courtB
  rw [decide_eq_false (by omega)]
  rfl
theorem court_yes {xs : List Int} {d : Int} (h : d % 7 < 5) : courtB xs d = !decide (d ∈ xs) := by
  unfold courtB
  rw [decide_eq_true h]
  rfl
theorem mem_at {xs : List Int} {k : Nat} {x : Int} (h : xs[k]? = some x) : x ∈ xs := List.mem_of_getElem? h
theorem not_mem_of {xs : List Int} {x : Int} (h : AllTo (fun j => !(xs.getD j 0 == x)) xs.length) : ¬ x ∈ xs := by
  intro hx
  obtain ⟨k, hk, rfl⟩ := List.getElem_of_mem hx
  have := h k hk
  simp [List.getD_eq_getElem?_getD, List.getElem?_eq_getElem hk] at this

set_option maxHeartbeats 400000 in
theorem impl_has {v : Value} {xs : List Int} {w : World} (x : Int) (h : Ints w v xs) :
    Calls Try.prog 60 #[v, .int .i64 x] w fun e w' => e = .returned (.bool (decide (x ∈ xs))) ∧ ∃ m, w' = w.drewN m := by
  obtain ⟨a, n, c, rfl, H⟩ := h.parts
  have hlen := Lib.hid H.len
  have hcap := H.cap
  have hmost := H.most
  unfold maxLen at hmost
  clear h
  go_enter Try.func60, Try.ntmps60
  go_wp2
  go_loop [9] (fun i => ∃ k : Nat, k ≤ n ∧ i = .int .i64 k ∧ AllTo (fun j => !(xs.getD j 0 == x)) k) (fun i => n - (intOf i).toNat)
  case atStart => exact ⟨0, Nat.zero_le _, rfl, allTo_zero _⟩
  case round =>
    obtain ⟨k, hk, rfl, hall⟩ := hrel
    by_cases hlt : k < n
    · obtain ⟨b, o, ha, hbb, hc⟩ := H.cells (by omega)
      subst ha
      obtain ⟨y, hy⟩ := at_of (xs := xs) (k := k) (by have := hlen.out; omega)
      have hcell := hc k y hy
      have HH := Lib.hid H
      have HY := Lib.hid hy
      clear hc hy H
      by_cases hxy : x = y
      · subst hxy
        have hfin := Lib.hid (mem_at HY.out)
        go_wp2
        go_ret
        exact ⟨rb (decide_eq_true hfin.out).symm, 0, rfl⟩
      · have hb : (x == y) = false := by simpa using hxy
        have hnext := hall.succ (by simp only [getD_of HY.out]; simp; exact fun e => hxy e.symm)
        go_wp2
        go_round
        case rel => exact ⟨k + 1, by omega, by go_num, hnext⟩
        case measure => simp [intOf]; omega
    · have hfin := Lib.hid (not_mem_of (x := x) (xs := xs) (fun j hj => hall j (by have := hlen.out; omega)))
      clear H
      go_wp2
      go_ret
      exact ⟨rb (decide_eq_false hfin.out).symm, 0, rfl⟩

set_option maxHeartbeats 400000 in
theorem spec_has {v : Value} {xs : List Int} {w : World} (x : Int) (h : Ints w v xs) :
    Calls Try.prog 58 #[v, .int .i64 x] w fun e w' => e = .returned (.bool (decide (x ∈ xs))) ∧ ∃ m, w' = w.drewN m := by
  obtain ⟨a, n, c, rfl, H⟩ := h.parts
  have hlen := Lib.hid H.len
  have hcap := H.cap
  have hmost := H.most
  unfold maxLen at hmost
  clear h
  go_enter Try.func58, Try.ntmps58
  go_wp2
  go_loop [5] (fun i => ∃ k : Nat, k ≤ n ∧ i = .int .i64 k ∧ AllTo (fun j => !(xs.getD j 0 == x)) k) (fun i => n - (intOf i).toNat)
  case atStart => exact ⟨0, Nat.zero_le _, rfl, allTo_zero _⟩
  case round =>
    obtain ⟨k, hk, rfl, hall⟩ := hrel
    by_cases hlt : k < n
    · obtain ⟨b, o, ha, hbb, hc⟩ := H.cells (by omega)
      subst ha
      obtain ⟨y, hy⟩ := at_of (xs := xs) (k := k) (by have := hlen.out; omega)
      have hcell := hc k y hy
      have HH := Lib.hid H
      have HY := Lib.hid hy
      clear hc hy H
      by_cases hxy : x = y
      · subst hxy
        have hfin := Lib.hid (mem_at HY.out)
        go_wp2
        go_ret
        exact ⟨rb (decide_eq_true hfin.out).symm, 0, rfl⟩
      · have hb : (y == x) = false := by simpa using (fun e => hxy e.symm : ¬ y = x)
        have hnext := hall.succ (by simp only [getD_of HY.out]; simp; exact fun e => hxy e.symm)
        go_wp2
        go_round
        case rel => exact ⟨k + 1, by omega, by go_num, hnext⟩
        case measure => simp [intOf]; omega
    · have hfin := Lib.hid (not_mem_of (x := x) (xs := xs) (fun j hj => hall j (by have := hlen.out; omega)))
      clear H
      go_wp2
      go_ret
      exact ⟨rb (decide_eq_false hfin.out).symm, 0, rfl⟩

theorem impl_isCourtDay {v : Value} {xs : List Int} {w : World} (d : Int) (h0 : 0 ≤ d) (h1 : d ≤ 9223372036854775807) (h : Ints w v xs) :
    Calls Try.prog 41 #[v, .int .i64 d] w fun e w' => e = .returned (.bool (courtB xs d)) ∧ ∃ m, w' = w.drewN m := by
  by_cases hd : d % 7 < 5
  · go_enter Try.func41, Try.ntmps41
    go_wp2_with (go_at_call 60; refine (impl_has _ h).mono ?_; rintro e w' ⟨rfl, m, rfl⟩)
    go_ret
    exact ⟨rb (court_yes hd).symm, m, rfl⟩
  · go_enter Try.func41, Try.ntmps41
    go_wp2_with fail
    go_ret
    exact ⟨rb (court_no (by omega)).symm, 0, rfl⟩
theorem spec_court {v : Value} {xs : List Int} {w : World} (d : Int) (h0 : 0 ≤ d) (h1 : d ≤ 9223372036854775807) (h : Ints w v xs) :
    Calls Try.prog 39 #[v, .int .i64 d] w fun e w' => e = .returned (.bool (courtB xs d)) ∧ ∃ m, w' = w.drewN m := by
  by_cases hd : d % 7 < 5
  · go_enter Try.func39, Try.ntmps39
    go_wp2_with (go_at_call 58; refine (spec_has _ h).mono ?_; rintro e w' ⟨rfl, m, rfl⟩)
    go_ret
    exact ⟨rb (court_yes hd).symm, m, rfl⟩
  · go_enter Try.func39, Try.ntmps39
    go_wp2_with fail
    go_ret
    exact ⟨rb (court_no (by omega)).symm, 0, rfl⟩

set_option maxHeartbeats 400000 in
theorem impl_dayCode {v u : Value} {xs ds : List Int} {w : World} (h : Ints w v xs) (g : Ints w u ds) :
    Calls Try.prog 40 #[v, u] w fun e w' => e = .returned (.int .i64 (dcode xs ds)) ∧ ∃ m, w' = w.drewN m := by
  obtain ⟨a, n, c, rfl, H⟩ := g.parts
  have hlen := Lib.hid H.len
  have hcap := H.cap
  have hmost := H.most
  unfold maxLen at hmost
  by_cases hh : holB xs = true
  · have HH := Lib.hid hh
    go_enter Try.func40, Try.ntmps40
    go_wp2_with (go_at_call 36; refine (impl_AreHolidays h).mono ?_; rintro e w' ⟨rfl, m, rfl⟩)
    clear hh h g
    go_loop [12] (fun i => ∃ k : Nat, k ≤ n ∧ i = .int .i64 k ∧ AllTo (fun j => dayB (ds.getD j 0)) k) (fun i => n - (intOf i).toNat)
    case atStart => exact ⟨0, Nat.zero_le _, rfl, allTo_zero _⟩
    case round =>
      obtain ⟨k, hk, rfl, hall⟩ := hrel
      by_cases hlt : k < n
      · obtain ⟨b, o, ha, hbb, hc⟩ := H.cells (by omega)
        subst ha
        obtain ⟨x, hx⟩ := at_of (xs := ds) (k := k) (by have := hlen.out; omega)
        have hcell := hc k x hx
        have HC := Lib.hid H
        have HX := Lib.hid hx
        clear hc hx H
        by_cases h1 : 0 ≤ x
        · by_cases h2 : x ≤ 20000
          · have hnext := hall.succ (by simp only [getD_of HX.out]; unfold dayB; simp [h1, h2])
            go_wp2
            go_round
            case rel => exact ⟨k + 1, by omega, by go_num, hnext⟩
            case measure => simp [intOf]; omega
          · have hfin := Lib.hid (dcode_bad (ds := ds) HH.out (mem_at HX.out) (fun q => h2 q.2))
            go_wp2
            go_ret
            exact ⟨ri hfin.out.symm, m, rfl⟩
        · have hfin := Lib.hid (dcode_bad (ds := ds) HH.out (mem_at HX.out) (fun q => h1 q.1))
          go_wp2
          go_ret
          exact ⟨ri hfin.out.symm, m, rfl⟩
      · have hfin : Hid (dcode xs ds = 0) := Lib.hid (by
          refine dcode_ok.2 ⟨HH.out, fun d hd => ?_⟩
          obtain ⟨j, hj, rfl⟩ := List.getElem_of_mem hd
          have := hall j (by have := hlen.out; omega)
          simp only [List.getD_eq_getElem?_getD, List.getElem?_eq_getElem hj, Option.getD_some] at this
          unfold dayB at this
          simpa using this)
        clear H
        go_wp2
        go_ret
        exact ⟨ri hfin.out.symm, m, rfl⟩
  · have hf : holB xs = false := by simpa using hh
    have HD := Lib.hid (dcode_hol (ds := ds) hf)
    clear hh
    go_enter Try.func40, Try.ntmps40
    go_wp2_with (go_at_call 36; refine (impl_AreHolidays h).mono ?_; rintro e w' ⟨rfl, m, rfl⟩)
    go_ret
    exact ⟨ri HD.out.symm, m, rfl⟩

set_option maxHeartbeats 400000 in
theorem spec_l02Code {v : Value} {xs : List Int} {w : World} (d1 d2 : Int) (h : Ints w v xs) :
    Calls Try.prog 38 #[v, .int .i64 d1, .int .i64 d2] w fun e w' => e = .returned (.int .i64 (dcode xs [d1, d2])) ∧ ∃ m, w' = w.drewN m := by
  by_cases hh : holB xs = true
  · have HH := Lib.hid hh
    by_cases q1 : 0 ≤ d1 ∧ d1 ≤ 20000
    · by_cases q2 : 0 ≤ d2 ∧ d2 ≤ 20000
      · have HD : Hid (dcode xs [d1, d2] = 0) := Lib.hid (dcode_ok.2 ⟨hh, by simp; omega⟩)
        have Q1 := Lib.hid q1
        have Q2 := Lib.hid q2
        clear q1 q2
        go_enter Try.func38, Try.ntmps38
        go_wp2_with (go_at_call 37; refine (spec_AreHolidays h).mono ?_; rintro e w' ⟨rfl, m, rfl⟩)
        refine (l02Is_yes _ Q1.out.1 Q1.out.2 _).mono ?_
        rintro e w' ⟨rfl, rfl⟩
        go_wp2_with fail
        refine (l02Is_yes _ Q2.out.1 Q2.out.2 _).mono ?_
        rintro e w' ⟨rfl, rfl⟩
        go_wp2_with fail
        go_ret
        exact ⟨ri HD.out.symm, m, rfl⟩
      · have HD : Hid (dcode xs [d1, d2] = 2) := Lib.hid (dcode_bad hh (d := d2) (by simp) q2)
        have Q1 := Lib.hid q1
        have Q2 : Hid (d2 < 0 ∨ 20000 < d2) := Lib.hid (by omega)
        clear q1 q2
        go_enter Try.func38, Try.ntmps38
        go_wp2_with (go_at_call 37; refine (spec_AreHolidays h).mono ?_; rintro e w' ⟨rfl, m, rfl⟩)
        refine (l02Is_yes _ Q1.out.1 Q1.out.2 _).mono ?_
        rintro e w' ⟨rfl, rfl⟩
        go_wp2_with fail
        refine (l02Is_no _ Q2.out _).mono ?_
        rintro e w' ⟨rfl, rfl⟩
        go_wp2_with fail
        go_ret
        exact ⟨ri HD.out.symm, m, rfl⟩
    · have HD : Hid (dcode xs [d1, d2] = 2) := Lib.hid (dcode_bad hh (d := d1) (by simp) q1)
      have Q1 : Hid (d1 < 0 ∨ 20000 < d1) := Lib.hid (by omega)
      clear q1
      go_enter Try.func38, Try.ntmps38
      go_wp2_with (go_at_call 37; refine (spec_AreHolidays h).mono ?_; rintro e w' ⟨rfl, m, rfl⟩)
      refine (l02Is_no _ Q1.out _).mono ?_
      rintro e w' ⟨rfl, rfl⟩
      go_wp2_with fail
      go_ret
      exact ⟨ri HD.out.symm, m, rfl⟩
  · have hf : holB xs = false := by simpa using hh
    have HD := Lib.hid (dcode_hol (ds := [d1, d2]) hf)
    clear hh
    go_enter Try.func38, Try.ntmps38
    go_wp2_with (go_at_call 37; refine (spec_AreHolidays h).mono ?_; rintro e w' ⟨rfl, m, rfl⟩)
    go_ret
    exact ⟨ri HD.out.symm, m, rfl⟩
end Go.Proofs.Ytiphankcngclfaa
