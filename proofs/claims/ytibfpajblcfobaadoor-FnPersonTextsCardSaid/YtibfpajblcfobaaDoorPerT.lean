/-
  The text of a person, the program's and the reference's.
  Conditions: each lemma names its own.
-/
import Derived.Test.YtibfpajblcfobaaDoorLb
import Derived.Test.YtibfpajblcfobaaDoorTxW
import Derived.Test.YtibfpajblcfobaaDoorPerArg
import Derived.Test.YtibfpajblcfobaaDoorReg
namespace Go.Proofs.YtibfpajblcfobaaDoor
open Go.RowKit
set_option linter.unusedVariables false

def slash : ByteArray := ⟨#[47]⟩
/-- The text of a person of these parts. -/
def perT (A F L B Z : ByteArray) : ByteArray := A ++ ⟨#[47]⟩ ++ F ++ ⟨#[47]⟩ ++ L ++ ⟨#[47]⟩ ++ B ++ ⟨#[47]⟩ ++ Z
def perS (p : Per) : ByteArray := perT (itoB p.number) p.first p.last (itoB p.born) (itoB p.zone)
theorem perT_join (A F L B Z : ByteArray) : joinB [A, F, L, B, Z] ⟨#[47]⟩ = perT A F L B Z := by
  refine bytes_inj ?_
  unfold joinB perT
  rw [mkB_data]
  simp [datas, Lib.join_cons, Lib.joinTail]
def ptxN (p : Per) : Int := if perB p then 0 else 1
def ptxS (p : Per) : ByteArray := if perB p then perS p else ⟨#[]⟩
/-- What the slots of the reference's text hold. -/
def txV (b : Nat) (p : Per) (A B Z : ByteArray) (i : Nat) : Value :=
  match i with
  | 1 => .pointer (some ⟨b, 0, none⟩)
  | 3 => .pointer (some ⟨b, 0, none⟩)
  | 4 => .int .i64 p.number
  | 5 => .string A
  | 6 => .string (A ++ ⟨#[47]⟩)
  | 7 => .pointer (some ⟨b, 1, none⟩)
  | 8 => .string p.first
  | 9 => .string (A ++ ⟨#[47]⟩ ++ p.first)
  | 10 => .string (A ++ ⟨#[47]⟩ ++ p.first ++ ⟨#[47]⟩)
  | 11 => .pointer (some ⟨b, 2, none⟩)
  | 12 => .string p.last
  | 13 => .string (A ++ ⟨#[47]⟩ ++ p.first ++ ⟨#[47]⟩ ++ p.last)
  | 14 => .string (A ++ ⟨#[47]⟩ ++ p.first ++ ⟨#[47]⟩ ++ p.last ++ ⟨#[47]⟩)
  | 15 => .pointer (some ⟨b, 3, none⟩)
  | 16 => .int .i64 p.born
  | 17 => .string B
  | 18 => .string (A ++ ⟨#[47]⟩ ++ p.first ++ ⟨#[47]⟩ ++ p.last ++ ⟨#[47]⟩ ++ B)
  | 19 => .string (A ++ ⟨#[47]⟩ ++ p.first ++ ⟨#[47]⟩ ++ p.last ++ ⟨#[47]⟩ ++ B ++ ⟨#[47]⟩)
  | 20 => .pointer (some ⟨b, 4, none⟩)
  | 21 => .int .i64 p.zone
  | 22 => .string Z
  | 23 => .string (perT A p.first p.last B Z)
  | 2 => .string (perT A p.first p.last B Z)
  | _ => undef
set_option maxRecDepth 100000 in
set_option maxHeartbeats 8000000 in
theorem spec_l04Text (p : Per) (n0 : 0 ≤ p.number ∧ p.number ≤ 1000000000) (b0 : 0 ≤ p.born ∧ p.born ≤ 1000000000) (z0 : 0 ≤ p.zone ∧ p.zone ≤ 1000000000) (hf : p.first.size ≤ 1000000) (hl : p.last.size ≤ 1000000) (w : World) :
    Calls Tryd.prog 18 #[perV p] w fun e w' => e = .returned (.string (perS p)) ∧ Below w.heap.size w w' := by
  have D1 : Hid (∀ w, Calls Tryd.prog 35 #[.int .i64 p.number] w fun e w' => e = .returned (.string (itoB p.number)) ∧ Below w.heap.size w w') := Lib.hid (fun w => by rw [itoB_pos (by omega)]; exact spec_decI _ (by omega) (by omega) w)
  have D2 : Hid (∀ w, Calls Tryd.prog 35 #[.int .i64 p.born] w fun e w' => e = .returned (.string (itoB p.born)) ∧ Below w.heap.size w w') := Lib.hid (fun w => by rw [itoB_pos (by omega)]; exact spec_decI _ (by omega) (by omega) w)
  have D3 : Hid (∀ w, Calls Tryd.prog 35 #[.int .i64 p.zone] w fun e w' => e = .returned (.string (itoB p.zone)) ∧ Below w.heap.size w w') := Lib.hid (fun w => by rw [itoB_pos (by omega)]; exact spec_decI _ (by omega) (by omega) w)
  have z1 : (itoB p.number).size ≤ 21 := by unfold itoB; rw [mkB_size]; exact itoB_size (by omega) (by omega)
  have z2 : (itoB p.born).size ≤ 21 := by unfold itoB; rw [mkB_size]; exact itoB_size (by omega) (by omega)
  have z3 : (itoB p.zone).size ≤ 21 := by unfold itoB; rw [mkB_size]; exact itoB_size (by omega) (by omega)
  unfold perS
  generalize itoB p.number = A at *
  generalize itoB p.born = B at *
  generalize itoB p.zone = Z at *
  have PA0 := perAt_new (w) p 27
  have BB : Below w.heap.size w (w.alloc (.cells #[.int .i64 p.number, .string p.first, .string p.last, .int .i64 p.born, .int .i64 p.zone] 27)) := (Below.refl _ _).alloc (by simp; try omega) _
  unfold perV
  go_enter Tryd.func18, Tryd.ntmps18
  go_wp2_with fail
  refine wp_region_all (F := fun t _ v => v = txV w.heap.size p A B Z t) (I := fun w' => PerAt w' w.heap.size p ∧ Below w.heap.size w w') (R := fun _ _ => True) (m := 22) (n := 24) (pre := [1]) (by kernel_rfl) (by kernel_rfl) rfl (by simp) (fun t w w' v h _ _ => h) ⟨PA0.below ((Below.refl _ _).drew), BB.drew⟩ ?_ ?_ ?_
  · simp
    rfl
  · refine (And.intro ?s3 (And.intro ?s4 (And.intro ?s5 (And.intro ?s6 (And.intro ?s7 (And.intro ?s8 (And.intro ?s9 (And.intro ?s10 (And.intro ?s11 (And.intro ?s12 (And.intro ?s13 (And.intro ?s14 (And.intro ?s15 (And.intro ?s16 (And.intro ?s17 (And.intro ?s18 (And.intro ?s19 (And.intro ?s20 (And.intro ?s21 (And.intro ?s22 (And.intro ?s23 (And.intro ?s2 trivial))))))))))))))))))))))
    case s3 =>
      intro f w3 ⟨⟨cb, c0, c1, c2, c3, c4⟩, hB⟩ hF
      simp only [litAll, List.range, List.range.loop, List.map]
      rw [show f 1 = .pointer (some ⟨w.heap.size, 0, none⟩) from hF 1 (by decide)]
      go_wp2_with fail
      exact ⟨rfl, rfl, ⟨⟨cb, c0, c1, c2, c3, c4⟩, hB⟩, trivial⟩
    case s4 =>
      intro f w3 ⟨⟨cb, c0, c1, c2, c3, c4⟩, hB⟩ hF
      simp only [litAll, List.range, List.range.loop, List.map]
      rw [show f 3 = .pointer (some ⟨w.heap.size, 0, none⟩) from hF 3 (by decide)]
      go_wp2_with fail
      exact ⟨rfl, rfl, ⟨⟨cb, c0, c1, c2, c3, c4⟩, hB⟩, trivial⟩
    case s5 =>
      intro f w3 ⟨⟨cb, c0, c1, c2, c3, c4⟩, hB⟩ hF
      simp only [litAll, List.range, List.range.loop, List.map]
      rw [show f 4 = .int .i64 p.number from hF 4 (by decide)]
      go_wp2_with fail
      refine (D1.out _).mono ?_
      rintro e w4 ⟨rfl, b4⟩
      have PA4 := PerAt.below (p := p) ⟨cb, c0, c1, c2, c3, c4⟩ b4
      have hB4 := below_next hB (Nat.le_refl _) b4
      go_wp2_with fail
      exact ⟨rfl, rfl, ⟨PA4, hB4⟩, trivial⟩
    case s6 =>
      intro f w3 ⟨⟨cb, c0, c1, c2, c3, c4⟩, hB⟩ hF
      simp only [litAll, List.range, List.range.loop, List.map]
      rw [show f 5 = .string A from hF 5 (by decide)]
      go_wp2_with fail
      exact ⟨rfl, rfl, ⟨⟨cb, c0, c1, c2, c3, c4⟩, hB⟩, trivial⟩
    case s7 =>
      intro f w3 ⟨⟨cb, c0, c1, c2, c3, c4⟩, hB⟩ hF
      simp only [litAll, List.range, List.range.loop, List.map]
      rw [show f 1 = .pointer (some ⟨w.heap.size, 0, none⟩) from hF 1 (by decide)]
      go_wp2_with fail
      exact ⟨rfl, rfl, ⟨⟨cb, c0, c1, c2, c3, c4⟩, hB⟩, trivial⟩
    case s8 =>
      intro f w3 ⟨⟨cb, c0, c1, c2, c3, c4⟩, hB⟩ hF
      simp only [litAll, List.range, List.range.loop, List.map]
      rw [show f 7 = .pointer (some ⟨w.heap.size, 1, none⟩) from hF 7 (by decide)]
      go_wp2_with fail
      exact ⟨rfl, rfl, ⟨⟨cb, c0, c1, c2, c3, c4⟩, hB⟩, trivial⟩
    case s9 =>
      intro f w3 ⟨⟨cb, c0, c1, c2, c3, c4⟩, hB⟩ hF
      simp only [litAll, List.range, List.range.loop, List.map]
      rw [show f 6 = .string (A ++ ⟨#[47]⟩) from hF 6 (by decide)]
      rw [show f 8 = .string p.first from hF 8 (by decide)]
      go_wp2_with fail
      exact ⟨rfl, rfl, ⟨⟨cb, c0, c1, c2, c3, c4⟩, hB⟩, trivial⟩
    case s10 =>
      intro f w3 ⟨⟨cb, c0, c1, c2, c3, c4⟩, hB⟩ hF
      simp only [litAll, List.range, List.range.loop, List.map]
      rw [show f 9 = .string (A ++ ⟨#[47]⟩ ++ p.first) from hF 9 (by decide)]
      go_wp2_with fail
      exact ⟨rfl, rfl, ⟨⟨cb, c0, c1, c2, c3, c4⟩, hB⟩, trivial⟩
    case s11 =>
      intro f w3 ⟨⟨cb, c0, c1, c2, c3, c4⟩, hB⟩ hF
      simp only [litAll, List.range, List.range.loop, List.map]
      rw [show f 1 = .pointer (some ⟨w.heap.size, 0, none⟩) from hF 1 (by decide)]
      go_wp2_with fail
      exact ⟨rfl, rfl, ⟨⟨cb, c0, c1, c2, c3, c4⟩, hB⟩, trivial⟩
    case s12 =>
      intro f w3 ⟨⟨cb, c0, c1, c2, c3, c4⟩, hB⟩ hF
      simp only [litAll, List.range, List.range.loop, List.map]
      rw [show f 11 = .pointer (some ⟨w.heap.size, 2, none⟩) from hF 11 (by decide)]
      go_wp2_with fail
      exact ⟨rfl, rfl, ⟨⟨cb, c0, c1, c2, c3, c4⟩, hB⟩, trivial⟩
    case s13 =>
      intro f w3 ⟨⟨cb, c0, c1, c2, c3, c4⟩, hB⟩ hF
      simp only [litAll, List.range, List.range.loop, List.map]
      rw [show f 10 = .string (A ++ ⟨#[47]⟩ ++ p.first ++ ⟨#[47]⟩) from hF 10 (by decide)]
      rw [show f 12 = .string p.last from hF 12 (by decide)]
      go_wp2_with fail
      exact ⟨rfl, rfl, ⟨⟨cb, c0, c1, c2, c3, c4⟩, hB⟩, trivial⟩
    case s14 =>
      intro f w3 ⟨⟨cb, c0, c1, c2, c3, c4⟩, hB⟩ hF
      simp only [litAll, List.range, List.range.loop, List.map]
      rw [show f 13 = .string (A ++ ⟨#[47]⟩ ++ p.first ++ ⟨#[47]⟩ ++ p.last) from hF 13 (by decide)]
      go_wp2_with fail
      exact ⟨rfl, rfl, ⟨⟨cb, c0, c1, c2, c3, c4⟩, hB⟩, trivial⟩
    case s15 =>
      intro f w3 ⟨⟨cb, c0, c1, c2, c3, c4⟩, hB⟩ hF
      simp only [litAll, List.range, List.range.loop, List.map]
      rw [show f 1 = .pointer (some ⟨w.heap.size, 0, none⟩) from hF 1 (by decide)]
      go_wp2_with fail
      exact ⟨rfl, rfl, ⟨⟨cb, c0, c1, c2, c3, c4⟩, hB⟩, trivial⟩
    case s16 =>
      intro f w3 ⟨⟨cb, c0, c1, c2, c3, c4⟩, hB⟩ hF
      simp only [litAll, List.range, List.range.loop, List.map]
      rw [show f 15 = .pointer (some ⟨w.heap.size, 3, none⟩) from hF 15 (by decide)]
      go_wp2_with fail
      exact ⟨rfl, rfl, ⟨⟨cb, c0, c1, c2, c3, c4⟩, hB⟩, trivial⟩
    case s17 =>
      intro f w3 ⟨⟨cb, c0, c1, c2, c3, c4⟩, hB⟩ hF
      simp only [litAll, List.range, List.range.loop, List.map]
      rw [show f 16 = .int .i64 p.born from hF 16 (by decide)]
      go_wp2_with fail
      refine (D2.out _).mono ?_
      rintro e w4 ⟨rfl, b4⟩
      have PA4 := PerAt.below (p := p) ⟨cb, c0, c1, c2, c3, c4⟩ b4
      have hB4 := below_next hB (Nat.le_refl _) b4
      go_wp2_with fail
      exact ⟨rfl, rfl, ⟨PA4, hB4⟩, trivial⟩
    case s18 =>
      intro f w3 ⟨⟨cb, c0, c1, c2, c3, c4⟩, hB⟩ hF
      simp only [litAll, List.range, List.range.loop, List.map]
      rw [show f 14 = .string (A ++ ⟨#[47]⟩ ++ p.first ++ ⟨#[47]⟩ ++ p.last ++ ⟨#[47]⟩) from hF 14 (by decide)]
      rw [show f 17 = .string B from hF 17 (by decide)]
      go_wp2_with fail
      exact ⟨rfl, rfl, ⟨⟨cb, c0, c1, c2, c3, c4⟩, hB⟩, trivial⟩
    case s19 =>
      intro f w3 ⟨⟨cb, c0, c1, c2, c3, c4⟩, hB⟩ hF
      simp only [litAll, List.range, List.range.loop, List.map]
      rw [show f 18 = .string (A ++ ⟨#[47]⟩ ++ p.first ++ ⟨#[47]⟩ ++ p.last ++ ⟨#[47]⟩ ++ B) from hF 18 (by decide)]
      go_wp2_with fail
      exact ⟨rfl, rfl, ⟨⟨cb, c0, c1, c2, c3, c4⟩, hB⟩, trivial⟩
    case s20 =>
      intro f w3 ⟨⟨cb, c0, c1, c2, c3, c4⟩, hB⟩ hF
      simp only [litAll, List.range, List.range.loop, List.map]
      rw [show f 1 = .pointer (some ⟨w.heap.size, 0, none⟩) from hF 1 (by decide)]
      go_wp2_with fail
      exact ⟨rfl, rfl, ⟨⟨cb, c0, c1, c2, c3, c4⟩, hB⟩, trivial⟩
    case s21 =>
      intro f w3 ⟨⟨cb, c0, c1, c2, c3, c4⟩, hB⟩ hF
      simp only [litAll, List.range, List.range.loop, List.map]
      rw [show f 20 = .pointer (some ⟨w.heap.size, 4, none⟩) from hF 20 (by decide)]
      go_wp2_with fail
      exact ⟨rfl, rfl, ⟨⟨cb, c0, c1, c2, c3, c4⟩, hB⟩, trivial⟩
    case s22 =>
      intro f w3 ⟨⟨cb, c0, c1, c2, c3, c4⟩, hB⟩ hF
      simp only [litAll, List.range, List.range.loop, List.map]
      rw [show f 21 = .int .i64 p.zone from hF 21 (by decide)]
      go_wp2_with fail
      refine (D3.out _).mono ?_
      rintro e w4 ⟨rfl, b4⟩
      have PA4 := PerAt.below (p := p) ⟨cb, c0, c1, c2, c3, c4⟩ b4
      have hB4 := below_next hB (Nat.le_refl _) b4
      go_wp2_with fail
      exact ⟨rfl, rfl, ⟨PA4, hB4⟩, trivial⟩
    case s23 =>
      intro f w3 ⟨⟨cb, c0, c1, c2, c3, c4⟩, hB⟩ hF
      simp only [litAll, List.range, List.range.loop, List.map]
      rw [show f 19 = .string (A ++ ⟨#[47]⟩ ++ p.first ++ ⟨#[47]⟩ ++ p.last ++ ⟨#[47]⟩ ++ B ++ ⟨#[47]⟩) from hF 19 (by decide)]
      rw [show f 22 = .string Z from hF 22 (by decide)]
      go_wp2_with fail
      exact ⟨rfl, rfl, ⟨⟨cb, c0, c1, c2, c3, c4⟩, hB⟩, trivial⟩
    case s2 =>
      intro f w3 ⟨⟨cb, c0, c1, c2, c3, c4⟩, hB⟩ hF
      simp only [litAll, List.range, List.range.loop, List.map]
      rw [show f 23 = .string (perT A p.first p.last B Z) from hF 23 (by decide)]
      go_wp2_with fail
      exact ⟨rfl, rfl, ⟨⟨cb, c0, c1, c2, c3, c4⟩, hB⟩, trivial⟩
  · intro f w3 ⟨hPA, hB3⟩ hF
    simp only [dstsOf, List.take, List.filterMap, setSlots, List.foldl, List.set]
    rw [show f 2 = .string (perT A p.first p.last B Z) from hF 2 (by decide)]
    go_wp2_with fail
    refine bodyPost_ret (v := .string (perT A p.first p.last B Z)) (by rw [results_tmp rfl]; rfl) rfl ?_
    exact ⟨rfl, hB3⟩
end Go.Proofs.YtibfpajblcfobaaDoor
