/-
  Rules: AreRules of both packages.
  Conditions: each lemma names its own.
-/
import Derived.Test.YthnilifepiihjaaRisesS
import Derived.Test.YthnilifepiihjaaInts
namespace Go.Proofs.Ythnilifepiihjaa
open Go.RowKit
set_option linter.unusedVariables false

structure Rul where
  year : Int
  least : Int
  most : Int
  zones : List Int
  jobs : List Int
/-- The value v reads as the rules r. -/
def Ruls (w : World) (v : Value) (r : Rul) : Prop :=
  ∃ vz vj, v = .agg #[.int .i64 r.year, .int .i64 r.least, .int .i64 r.most, vz, vj] ∧ Ints w vz r.zones ∧ Ints w vj r.jobs
theorem Ruls.below {w w' : World} {v : Value} {r : Rul} (h : Ruls w v r) (hb : Below w.heap.size w w') : Ruls w' v r := by
  obtain ⟨vz, vj, hv, h1, h2⟩ := h
  exact ⟨vz, vj, hv, h1.below hb, h2.below hb⟩
def rulB (r : Rul) : Bool := decide (1900 ≤ r.year ∧ r.year ≤ 2200) && (decide (0 ≤ r.least) && (decide (r.least ≤ r.most) && (decide (r.most ≤ 150) && (decide (r.zones.length ≤ 20) && (decide (r.jobs.length ≤ 20) && (risesB 0 99 r.zones && risesB 0 20 r.jobs))))))
theorem few_g (k : Nat) (m : Int) (hk : k ≤ 9223372036854775807) (w : World) : Calls Try.prog 79 #[.int .i64 k, .int .i64 m] w fun e w' => e = .returned (.bool (decide ((k : Int) ≤ m))) ∧ w = w' := by
  go_enter Try.func79, Try.ntmps79
  go_wp2_with fail
  go_ret
  exact ⟨rfl, rfl⟩
theorem few_y (k : Nat) (m : Int) (h : (k : Int) ≤ m) (hk : k ≤ 9223372036854775807) (w : World) : Calls Try.prog 79 #[.int .i64 k, .int .i64 m] w fun e w' => e = .returned (.bool true) ∧ w = w' :=
  (few_g k m hk w).mono fun _ _ ⟨he, hw⟩ => ⟨by rw [he, decide_eq_true h], hw⟩
theorem few_n (k : Nat) (m : Int) (h : m < (k : Int)) (hk : k ≤ 9223372036854775807) (w : World) : Calls Try.prog 79 #[.int .i64 k, .int .i64 m] w fun e w' => e = .returned (.bool false) ∧ w = w' :=
  (few_g k m hk w).mono fun _ _ ⟨he, hw⟩ => ⟨by rw [he, decide_eq_false (by omega)], hw⟩
/-- Block b holds the rules' five cells. -/
def RulAt (w : World) (b : Nat) (x y z : Int) (u v : Value) : Prop :=
  b < w.heap.size ∧ w.cell? ⟨b, 0, none⟩ = some (.int .i64 x) ∧ w.cell? ⟨b, 1, none⟩ = some (.int .i64 y) ∧ w.cell? ⟨b, 2, none⟩ = some (.int .i64 z) ∧ w.cell? ⟨b, 3, none⟩ = some u ∧ w.cell? ⟨b, 4, none⟩ = some v
theorem rulAt_new (w : World) (x y z : Int) (u v : Value) (e : TypeId) : RulAt (w.alloc (.cells #[.int .i64 x, .int .i64 y, .int .i64 z, u, v] e)) w.heap.size x y z u v := by
  have hg := heap_alloc_new w (.cells #[.int .i64 x, .int .i64 y, .int .i64 z, u, v] e)
  refine ⟨by simp, ?_, ?_, ?_, ?_, ?_⟩ <;> rw [cell_of_row _ _ _ _ _ _ hg] <;> rfl
theorem RulAt.below {w w' : World} {b : Nat} {x y z : Int} {u v : Value} (h : RulAt w b x y z u v) (hb : Below w.heap.size w w') : RulAt w' b x y z u v := by
  obtain ⟨h0, h1, h2, h3, h4, h5⟩ := h
  exact ⟨Nat.lt_of_lt_of_le h0 hb.size, (hb.cell (p := ⟨b, 0, none⟩) h0).trans h1, (hb.cell (p := ⟨b, 1, none⟩) h0).trans h2, (hb.cell (p := ⟨b, 2, none⟩) h0).trans h3, (hb.cell (p := ⟨b, 3, none⟩) h0).trans h4, (hb.cell (p := ⟨b, 4, none⟩) h0).trans h5⟩
set_option maxRecDepth 100000 in
set_option maxHeartbeats 4000000 in
theorem spec_AreRules {v : Value} {r : Rul} {w : World} (h : Ruls w v r) :
    Calls Try.prog 91 #[v] w fun e w' => e = .returned (.bool (rulB r)) ∧ Below w.heap.size w w' := by
  obtain ⟨vz, vj, rfl, hz, hj⟩ := h
  obtain ⟨az, nz, cz, rfl, HZ⟩ := hz.parts
  obtain ⟨aj, nj, cj, rfl, HJ⟩ := hj.parts
  have lz := Lib.hid HZ.len
  have lj := Lib.hid HJ.len
  have z1 := HZ.cap
  have z2 := HZ.most
  have j1 := HJ.cap
  have j2 := HJ.most
  unfold maxLen at z2 j2
  clear HZ HJ
  have b0 : Below w.heap.size w (w.alloc (.cells #[.int .i64 r.year, .int .i64 r.least, .int .i64 r.most, .slice az nz cz, .slice aj nj cj] 33)) := (Below.refl _ _).alloc (Nat.le_refl _) _
  have hR : Hid (rulB r = (decide (1900 ≤ r.year ∧ r.year ≤ 2200) && (decide (0 ≤ r.least) && (decide (r.least ≤ r.most) && (decide (r.most ≤ 150) && (decide (nz ≤ 20) && (decide (nj ≤ 20) && (risesB 0 99 r.zones && risesB 0 20 r.jobs)))))))) := Lib.hid (by unfold rulB; rw [lz.out, lj.out])
  replace hz := Lib.hid (hz.below b0)
  replace hj := Lib.hid (hj.below b0)
  have hA := Lib.hid (rulAt_new w r.year r.least r.most (.slice az nz cz) (.slice aj nj cj) 33)
  generalize r.year = y at *
  generalize r.least = l at *
  generalize r.most = m at *
  generalize r.zones = zs at *
  generalize r.jobs = js at *
  by_cases qy : 1900 ≤ y ∧ y ≤ 2200
  · by_cases ql : 0 ≤ l
    · by_cases qm : l ≤ m
      · by_cases qt : m ≤ 150
        · by_cases qz : nz ≤ 20
          · by_cases qj : nj ≤ 20
            · have hRR := hR.out
              rw [decide_eq_true qy, decide_eq_true ql, decide_eq_true qm, decide_eq_true qt, decide_eq_true qz, decide_eq_true qj] at hRR
              simp only [Bool.true_and] at hRR
              replace hR := Lib.hid hRR
              clear hRR
              have HZ := Lib.hid (spec_rises 100 (by omega) hz.out)
              have HJ := Lib.hid (fun (w' : World) (hb : Below (w.alloc (.cells #[.int .i64 y, .int .i64 l, .int .i64 m, .slice az nz cz, .slice aj nj cj] 33)).heap.size (w.alloc (.cells #[.int .i64 y, .int .i64 l, .int .i64 m, .slice az nz cz, .slice aj nj cj] 33)) w') => spec_rises 21 (by omega) (hj.out.below hb))
              rw [show (100 : Int) - 1 = 99 by omega] at HZ
              rw [show (21 : Int) - 1 = 20 by omega] at HJ
              generalize risesB 0 20 js = rj at *
              cases hrz : risesB 0 99 zs
              · rw [hrz] at HZ hR
                clear hrz
                go_enter Try.func91, Try.ntmps91
                go_wp2_with fail
                refine (in_yes _ _ _ qy.1 qy.2 _).mono ?_
                rintro e w' ⟨rfl, rfl⟩
                go_wp2_with fail
                refine (in_yes _ _ _ ql (by omega) _).mono ?_
                rintro e w' ⟨rfl, rfl⟩
                go_wp2_with fail
                refine (in_yes _ _ _ qm qt _).mono ?_
                rintro e w' ⟨rfl, rfl⟩
                go_wp2_with fail
                refine HZ.out.mono ?_
                rintro e w1 ⟨rfl, b1⟩
                replace b0 := below_next b0 (Nat.le_refl _) b1
                go_wp2_with fail
                go_ret
                exact ⟨rb (by rw [hR.out]; rfl), b0⟩
              · rw [hrz] at HZ hR
                clear hrz
                go_enter Try.func91, Try.ntmps91
                go_wp2_with fail
                refine (in_yes _ _ _ qy.1 qy.2 _).mono ?_
                rintro e w' ⟨rfl, rfl⟩
                go_wp2_with fail
                refine (in_yes _ _ _ ql (by omega) _).mono ?_
                rintro e w' ⟨rfl, rfl⟩
                go_wp2_with fail
                refine (in_yes _ _ _ qm qt _).mono ?_
                rintro e w' ⟨rfl, rfl⟩
                go_wp2_with fail
                refine HZ.out.mono ?_
                rintro e w1 ⟨rfl, b1⟩
                obtain ⟨hbb, c0, c1, c2, c3, c4⟩ := hA.out.below b1
                replace b0 := below_next b0 (Nat.le_refl _) b1
                go_wp2_with fail
                refine (HJ.out _ b1).mono ?_
                rintro e w2 ⟨rfl, b2⟩
                replace b0 := below_next b0 (Nat.le_refl _) b2
                go_wp2_with fail
                go_ret
                exact ⟨rb (by rw [hR.out]; rfl), b0⟩
            · have q' : 20 < nj := by omega
              go_enter Try.func91, Try.ntmps91
              go_wp2_with fail
              refine (in_yes _ _ _ qy.1 qy.2 _).mono ?_
              rintro e w' ⟨rfl, rfl⟩
              go_wp2_with fail
              refine (in_yes _ _ _ ql (by omega) _).mono ?_
              rintro e w' ⟨rfl, rfl⟩
              go_wp2_with fail
              refine (in_yes _ _ _ qm qt _).mono ?_
              rintro e w' ⟨rfl, rfl⟩
              go_wp2_with fail
              go_ret
              exact ⟨rb (by rw [hR.out]; rw [decide_eq_false (show ¬ nj ≤ 20 by omega)]; simp), b0⟩
          · have q' : 20 < nz := by omega
            go_enter Try.func91, Try.ntmps91
            go_wp2_with fail
            refine (in_yes _ _ _ qy.1 qy.2 _).mono ?_
            rintro e w' ⟨rfl, rfl⟩
            go_wp2_with fail
            refine (in_yes _ _ _ ql (by omega) _).mono ?_
            rintro e w' ⟨rfl, rfl⟩
            go_wp2_with fail
            refine (in_yes _ _ _ qm qt _).mono ?_
            rintro e w' ⟨rfl, rfl⟩
            go_wp2_with fail
            go_ret
            exact ⟨rb (by rw [hR.out]; rw [decide_eq_false (show ¬ nz ≤ 20 by omega)]; simp), b0⟩
        · by_cases q150 : l ≤ 150
          · skip
            go_enter Try.func91, Try.ntmps91
            go_wp2_with fail
            refine (in_yes _ _ _ qy.1 qy.2 _).mono ?_
            rintro e w' ⟨rfl, rfl⟩
            go_wp2_with fail
            refine (in_yes _ _ _ ql q150 _).mono ?_
            rintro e w' ⟨rfl, rfl⟩
            go_wp2_with fail
            refine (in_no _ _ _ (by omega) _).mono ?_
            rintro e w' ⟨rfl, rfl⟩
            go_wp2_with fail
            go_ret
            exact ⟨rb (by rw [hR.out]; rw [decide_eq_false (show ¬ m ≤ 150 by omega)]; simp), b0⟩
          · skip
            go_enter Try.func91, Try.ntmps91
            go_wp2_with fail
            refine (in_yes _ _ _ qy.1 qy.2 _).mono ?_
            rintro e w' ⟨rfl, rfl⟩
            go_wp2_with fail
            refine (in_no _ _ _ (by omega) _).mono ?_
            rintro e w' ⟨rfl, rfl⟩
            go_wp2_with fail
            go_ret
            exact ⟨rb (by rw [hR.out]; rw [decide_eq_false (show ¬ m ≤ 150 by omega)]; simp), b0⟩
      · by_cases q150 : l ≤ 150
        · skip
          go_enter Try.func91, Try.ntmps91
          go_wp2_with fail
          refine (in_yes _ _ _ qy.1 qy.2 _).mono ?_
          rintro e w' ⟨rfl, rfl⟩
          go_wp2_with fail
          refine (in_yes _ _ _ ql q150 _).mono ?_
          rintro e w' ⟨rfl, rfl⟩
          go_wp2_with fail
          refine (in_no _ _ _ (by omega) _).mono ?_
          rintro e w' ⟨rfl, rfl⟩
          go_wp2_with fail
          go_ret
          exact ⟨rb (by rw [hR.out]; rw [decide_eq_false (show ¬ l ≤ m by omega)]; simp), b0⟩
        · skip
          go_enter Try.func91, Try.ntmps91
          go_wp2_with fail
          refine (in_yes _ _ _ qy.1 qy.2 _).mono ?_
          rintro e w' ⟨rfl, rfl⟩
          go_wp2_with fail
          refine (in_no _ _ _ (by omega) _).mono ?_
          rintro e w' ⟨rfl, rfl⟩
          go_wp2_with fail
          go_ret
          exact ⟨rb (by rw [hR.out]; rw [decide_eq_false (show ¬ l ≤ m by omega)]; simp), b0⟩
    · skip
      go_enter Try.func91, Try.ntmps91
      go_wp2_with fail
      refine (in_yes _ _ _ qy.1 qy.2 _).mono ?_
      rintro e w' ⟨rfl, rfl⟩
      go_wp2_with fail
      refine (in_no _ _ _ (by omega) _).mono ?_
      rintro e w' ⟨rfl, rfl⟩
      go_wp2_with fail
      go_ret
      exact ⟨rb (by rw [hR.out]; rw [decide_eq_false (show ¬ 0 ≤ l by omega)]; simp), b0⟩
  · have q' : y < 1900 ∨ 2200 < y := by omega
    go_enter Try.func91, Try.ntmps91
    go_wp2_with fail
    refine (in_no _ _ _ q' _).mono ?_
    rintro e w' ⟨rfl, rfl⟩
    go_wp2_with fail
    go_ret
    exact ⟨rb (by rw [hR.out]; rw [decide_eq_false (show ¬ (1900 ≤ y ∧ y ≤ 2200) by omega)]; simp), b0⟩
set_option maxRecDepth 100000 in
set_option maxHeartbeats 4000000 in
theorem impl_AreRules {v : Value} {r : Rul} {w : World} (h : Ruls w v r) :
    Calls Try.prog 61 #[v] w fun e w' => e = .returned (.bool (rulB r)) ∧ Below w.heap.size w w' := by
  obtain ⟨vz, vj, rfl, hz, hj⟩ := h
  obtain ⟨az, nz, cz, rfl, HZ⟩ := hz.parts
  obtain ⟨aj, nj, cj, rfl, HJ⟩ := hj.parts
  have lz := Lib.hid HZ.len
  have lj := Lib.hid HJ.len
  have z1 := HZ.cap
  have z2 := HZ.most
  have j1 := HJ.cap
  have j2 := HJ.most
  unfold maxLen at z2 j2
  clear HZ HJ
  have b0 : Below w.heap.size w (w.alloc (.cells #[.int .i64 r.year, .int .i64 r.least, .int .i64 r.most, .slice az nz cz, .slice aj nj cj] 33)) := (Below.refl _ _).alloc (Nat.le_refl _) _
  have hR : Hid (rulB r = (decide (1900 ≤ r.year ∧ r.year ≤ 2200) && (decide (0 ≤ r.least) && (decide (r.least ≤ r.most) && (decide (r.most ≤ 150) && (decide (nz ≤ 20) && (decide (nj ≤ 20) && (risesB 0 99 r.zones && risesB 0 20 r.jobs)))))))) := Lib.hid (by unfold rulB; rw [lz.out, lj.out])
  replace hz := Lib.hid (hz.below b0)
  replace hj := Lib.hid (hj.below b0)
  have hA := Lib.hid (rulAt_new w r.year r.least r.most (.slice az nz cz) (.slice aj nj cj) 33)
  generalize r.year = y at *
  generalize r.least = l at *
  generalize r.most = m at *
  generalize r.zones = zs at *
  generalize r.jobs = js at *
  have b00 := b0
  have HZ := Lib.hid (impl_increasing 0 99 hz.out)
  have HJ := Lib.hid (impl_increasing 0 20 hj.out)
  have HJ2 := Lib.hid (fun k => impl_increasing 0 20 (hj.out.drewN k))
  generalize risesB 0 20 js = rj at *
  generalize risesB 0 99 zs = rz at *
  by_cases qy : 1900 ≤ y ∧ y ≤ 2200
  · by_cases ql : 0 ≤ l
    · by_cases qm : l ≤ m
      · by_cases qt : m ≤ 150
        · by_cases qz : nz ≤ 20
          · cases rz
            · skip
              go_enter Try.func61, Try.ntmps61
              go_wp2_with fail
              refine (within_yes _ _ _ qy.1 qy.2 _).mono ?_
              rintro e w' ⟨rfl, rfl⟩
              go_wp2_with fail
              refine (few_y _ _ (by omega) (by omega) _).mono ?_
              rintro e w' ⟨rfl, rfl⟩
              go_wp2_with fail
              refine (HZ.out).mono ?_
              rintro e w' ⟨rfl, mm, rfl⟩
              replace b0 := below_drewN b0 mm
              go_wp2_with fail
              go_ret
              exact ⟨rb (by rw [hR.out]; simp), by first | exact b0 | exact below_drewN b00 _⟩
            · by_cases qj : nj ≤ 20
              · skip
                go_enter Try.func61, Try.ntmps61
                go_wp2_with fail
                refine (within_yes _ _ _ qy.1 qy.2 _).mono ?_
                rintro e w' ⟨rfl, rfl⟩
                go_wp2_with fail
                refine (few_y _ _ (by omega) (by omega) _).mono ?_
                rintro e w' ⟨rfl, rfl⟩
                go_wp2_with fail
                refine (HZ.out).mono ?_
                rintro e w' ⟨rfl, mm, rfl⟩
                replace b0 := below_drewN b0 mm
                go_wp2_with fail
                refine (few_y _ _ (by omega) (by omega) _).mono ?_
                rintro e w' ⟨rfl, rfl⟩
                go_wp2_with fail
                refine (HJ2.out mm).mono ?_
                rintro e w' ⟨rfl, mm, rfl⟩
                replace b0 := below_drewN b0 mm
                go_wp2_with fail
                go_ret
                exact ⟨rb (by rw [hR.out]; rw [decide_eq_true qy, decide_eq_true ql, decide_eq_true qm, decide_eq_true qt, decide_eq_true qz, decide_eq_true qj]; rfl), by first | exact b0 | exact below_drewN b00 _⟩
              · skip
                go_enter Try.func61, Try.ntmps61
                go_wp2_with fail
                refine (within_yes _ _ _ qy.1 qy.2 _).mono ?_
                rintro e w' ⟨rfl, rfl⟩
                go_wp2_with fail
                refine (few_y _ _ (by omega) (by omega) _).mono ?_
                rintro e w' ⟨rfl, rfl⟩
                go_wp2_with fail
                refine (HZ.out).mono ?_
                rintro e w' ⟨rfl, mm, rfl⟩
                replace b0 := below_drewN b0 mm
                go_wp2_with fail
                refine (few_n _ _ (by omega) (by omega) _).mono ?_
                rintro e w' ⟨rfl, rfl⟩
                go_wp2_with fail
                go_ret
                exact ⟨rb (by rw [hR.out]; rw [decide_eq_false (show ¬ nj ≤ 20 by omega)]; simp), by first | exact b0 | exact below_drewN b00 _⟩
          · skip
            go_enter Try.func61, Try.ntmps61
            go_wp2_with fail
            refine (within_yes _ _ _ qy.1 qy.2 _).mono ?_
            rintro e w' ⟨rfl, rfl⟩
            go_wp2_with fail
            refine (few_n _ _ (by omega) (by omega) _).mono ?_
            rintro e w' ⟨rfl, rfl⟩
            go_wp2_with fail
            go_ret
            exact ⟨rb (by rw [hR.out]; rw [decide_eq_false (show ¬ nz ≤ 20 by omega)]; simp), by first | exact b0 | exact below_drewN b00 _⟩
        · skip
          go_enter Try.func61, Try.ntmps61
          go_wp2_with fail
          refine (within_yes _ _ _ qy.1 qy.2 _).mono ?_
          rintro e w' ⟨rfl, rfl⟩
          go_wp2_with fail
          go_ret
          exact ⟨rb (by rw [hR.out]; rw [decide_eq_false (show ¬ m ≤ 150 by omega)]; simp), by first | exact b0 | exact below_drewN b00 _⟩
      · skip
        go_enter Try.func61, Try.ntmps61
        go_wp2_with fail
        refine (within_yes _ _ _ qy.1 qy.2 _).mono ?_
        rintro e w' ⟨rfl, rfl⟩
        go_wp2_with fail
        go_ret
        exact ⟨rb (by rw [hR.out]; rw [decide_eq_false (show ¬ l ≤ m by omega)]; simp), by first | exact b0 | exact below_drewN b00 _⟩
    · skip
      go_enter Try.func61, Try.ntmps61
      go_wp2_with fail
      refine (within_yes _ _ _ qy.1 qy.2 _).mono ?_
      rintro e w' ⟨rfl, rfl⟩
      go_wp2_with fail
      go_ret
      exact ⟨rb (by rw [hR.out]; rw [decide_eq_false (show ¬ 0 ≤ l by omega)]; simp), by first | exact b0 | exact below_drewN b00 _⟩
  · have q' : y < 1900 ∨ 2200 < y := by omega
    go_enter Try.func61, Try.ntmps61
    go_wp2_with fail
    refine (within_no _ _ _ q' _).mono ?_
    rintro e w' ⟨rfl, rfl⟩
    go_wp2_with fail
    go_ret
    exact ⟨rb (by rw [hR.out]; rw [decide_eq_false (show ¬ (1900 ≤ y ∧ y ≤ 2200) by omega)]; simp), by first | exact b0 | exact below_drewN b00 _⟩
end Go.Proofs.Ythnilifepiihjaa
