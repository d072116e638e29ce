/-
  Slices of persons among a law's arguments: what they cost.
  Conditions: each lemma names its own.
-/
import Derived.Test.YtehfhpedpdofkaaArePers
namespace Go.Proofs.Ytehfhpedpdofkaa
open Go.RowKit

theorem szPerson_l (p : Per) (hp : PerFit p) (left : Int) (h0 : 0 ≤ left) (h1 : left ≤ 1048576) (w : World) :
    Calls Try.prog 48 #[.agg #[.int .i64 p.number, .string p.first, .string p.last, .int .i64 p.born, .int .i64 p.zone], .int .i64 left] w fun e w' => e = .returned (.int .i64 (szP left p)) ∧ Below w.heap.size w w' := szPerson_c p hp left h0 h1 w
set_option maxHeartbeats 1000000 in
theorem szPersonS_c {v : Value} {ps : List Per} {w : World} (h : Persons w v ps) (hp : PersFit ps) (left : Int) (h0 : 0 ≤ left) (h1 : left ≤ 1048576) :
    Calls Try.prog 11 #[v, .int .i64 left] w fun e w' => ∃ r : Int, e = .returned (.int .i64 r) ∧ (r = -1 ∨ (0 ≤ r ∧ r ≤ left ∧ (ps.length : Int) ≤ left)) ∧ Below w.heap.size w w' := by
  obtain ⟨a, n, c, rfl, H⟩ := h.parts
  have hlen := Lib.hid H.len
  have hcap := H.cap
  have hmost := H.most
  unfold maxLen at hmost
  clear H
  have HP := Lib.hid h
  have HF := Lib.hid hp
  clear h hp
  by_cases hbig : left - n < 0
  · go_enter Try.func11, Try.ntmps11
    go_wp2_with fail
    go_ret
    exact ⟨-1, rfl, Or.inl rfl, Below.refl _ _⟩
  · go_enter Try.func11, Try.ntmps11
    go_wp2_with fail
    go_loopw [1, 5] (fun l i wr => ∃ (k : Nat) (r : Int), k ≤ n ∧ i = .int .i64 k ∧ l = .int .i64 r ∧ 0 ≤ r ∧ r ≤ left - n ∧ Below w.heap.size w wr) (fun _ i _ => n - (intOf i).toNat)
    case atStart => exact ⟨0, left - n, Nat.zero_le _, rfl, rfl, by omega, by omega, Below.refl _ _⟩
    case round =>
      obtain ⟨k, r, hk, rfl, rfl, hr0, hr1, BB⟩ := hrel
      rename_i wr
      by_cases hlt : k < n
      · obtain ⟨p, hx⟩ := per_at (ps := ps) (k := k) (by have := hlen.out; omega)
        have PF := Lib.hid (HF.out.at_ hx)
        obtain ⟨a', n', c', hv, H⟩ := (HP.out.below BB).parts
        injection hv with hv1 hv2 hv3
        subst hv1 hv2 hv3
        obtain ⟨b, o, ha, hbb, hc⟩ := H.cells (by omega)
        subst ha
        obtain ⟨c0, c1, c2, c3, c4⟩ := hc k p hx
        clear hc H hx
        have HS := Lib.hid (szPerson_l p PF.out r hr0 (by omega))
        have hb := szP_bd r p
        generalize szP r p = r' at *
        by_cases q : r' < 0
        · go_wp2_with fail
          refine (HS.out _).mono ?_
          rintro e w1 ⟨rfl, b1⟩
          replace BB := below_next BB (Nat.le_refl _) b1
          clear c0 c1 c2 c3 c4
          go_wp2_with fail
          go_ret
          exact ⟨-1, rfl, Or.inl rfl, BB⟩
        · go_wp2_with fail
          refine (HS.out _).mono ?_
          rintro e w1 ⟨rfl, b1⟩
          replace BB := below_next BB (Nat.le_refl _) b1
          clear c0 c1 c2 c3 c4
          go_wp2_with fail
          go_roundw
          case rel => exact ⟨k + 1, r', by omega, by go_num, rfl, by omega, by omega, BB⟩
          case measure => simp [intOf]; omega
      · go_wp2_with fail
        go_ret
        exact ⟨r, rfl, Or.inr ⟨hr0, by omega, by have := hlen.out; omega⟩, BB⟩
end Go.Proofs.Ytehfhpedpdofkaa
