/-
  l01DrawValue, l01DrawList, l01Good, l01DrawWord; DrawSumOf, DrawIsWord.
  Conditions: each lemma names its own.
-/
import Derived.Test.YthnilifepiihjaaPick
import Derived.Test.YthnilifepiihjaaOwn
namespace Go.Proofs.Ythnilifepiihjaa
open Go.RowKit
set_option linter.unusedVariables false

set_option maxHeartbeats 1000000 in
theorem good_c {B g : Nat} {w : World} (h : Src B g w) : Calls Try.prog 104 #[.pointer (some ⟨g, 0, none⟩)] w (GotText B g w) := by
  have hlt := h.lt
  have HN := Lib.hid (next_c (h.alloc (.cells #[.string ⟨#[97, 100, 97]⟩, .string ⟨#[98, 114, 117, 110, 111]⟩, .string ⟨#[99, 108, 97, 114, 97]⟩, .string ⟨#[100, 111, 114, 97]⟩, .string ⟨#[101, 109, 105, 108]⟩, .string ⟨#[102, 114, 105, 100, 97]⟩, .string ⟨#[103, 117, 115, 116, 97, 118]⟩, .string ⟨#[104, 97, 110, 110, 97]⟩, .string ⟨#[105, 118, 97, 110]⟩, .string ⟨#[106, 97, 110, 97]⟩, .string ⟨#[107, 97, 114, 108]⟩, .string ⟨#[108, 101, 110, 97]⟩] 9)) 12 (by omega))
  have H := Lib.hid h
  clear h
  go_enter Try.func104, Try.ntmps104
  go_wp2_with fail
  refine HN.out.mono ?_
  rintro e w1 ⟨r, rfl, ⟨a2, b2, _⟩, h2, p2⟩
  replace b2 := b2 (by omega)
  have hs := lit_at (r := r.toNat) p2 hlt (by simp; omega) (by kernel_rfl)
  obtain ⟨s, cs, hs⟩ := hs
  have hr : r = ((r.toNat : Nat) : Int) := by omega
  generalize r.toNat = j at *
  subst hr
  go_wp2_with fail
  go_ret
  exact ⟨s, rfl, hs, h2, ((Past.refl g w).alloc _).trans p2⟩

set_option maxHeartbeats 1000000 in
theorem drawWord_c {B g : Nat} {w : World} (h : Src B g w) : Calls Try.prog 96 #[.pointer (some ⟨g, 0, none⟩)] w (GotText B g w) := by
  have H0 := Lib.hid (next_c h 24 (by omega))
  clear h
  go_enter Try.func96, Try.ntmps96
  go_wp2_with fail
  refine H0.out.mono ?_
  rintro e w1 ⟨r, rfl, _, h1, p1⟩
  have hlt := h1.lt
  by_cases q : r = 0
  · have hq : (r == 0) = true := by simpa using q
    clear q
    go_wp2_with fail
    refine (next_c (h1.alloc _) 6 (by omega)).mono ?_
    rintro e w2 ⟨r2, rfl, ⟨a2, b2, _⟩, h2, p2⟩
    replace b2 := b2 (by omega)
    have hs := lit_at (r := r2.toNat) p2 hlt (by simp; omega) (by kernel_rfl)
    obtain ⟨s, cs, hs⟩ := hs
    have hr : r2 = ((r2.toNat : Nat) : Int) := by omega
    generalize r2.toNat = j at *
    subst hr
    have pp : Past g w w2 := (p1.alloc _).trans p2
    go_wp2_with fail
    go_ret
    exact ⟨s, rfl, hs, h2, pp⟩
  · have hq : (r == 0) = false := by simpa using q
    clear q
    go_wp2_with fail
    refine (good_c h1).mono ?_
    rintro e w2 ⟨s, rfl, hs, h2, p2⟩
    go_wp2_with fail
    go_ret
    exact ⟨s, rfl, hs, h2, p1.trans p2⟩

/-- Numbers are drawn. -/
def Many (lo hi : Int) (m : Nat) (xs : List Int) : Prop := xs.length ≤ m ∧ ∀ x ∈ xs, lo ≤ x ∧ x ≤ hi
theorem Many.snoc {lo hi : Int} {m : Nat} {xs : List Int} {x : Int} (h : Many lo hi m xs) (h0 : lo ≤ x) (h1 : x ≤ hi) : Many lo hi (m + 1) (xs ++ [x]) := by
  refine ⟨by rw [List.length_append]; exact Nat.succ_le_succ h.1, fun y hy => ?_⟩
  rw [List.mem_append, List.mem_singleton] at hy
  rcases hy with hy | rfl
  · exact h.2 y hy
  · exact ⟨h0, h1⟩
/-- A list of numbers is drawn. -/
def GotList (B g : Nat) (lo hi : Int) (m : Nat) (w : World) (e : Ending) (w' : World) : Prop := ∃ v xs, e = .returned v ∧ w'.ownsRow w.heap.size 2 1 v xs.length (xs.map (Value.int .i64)) ∧ Many lo hi m xs ∧ Src B g w' ∧ Past g w w'

/-- A list of numbers, drawn from a code. -/
def Ret (lo hi : Int) (m : Nat) (w : World) (e : Ending) (w' : World) : Prop := ∃ v xs, e = .returned v ∧ Ints w' v xs ∧ Many lo hi m xs ∧ Below w.heap.size w w'
/-- A text, drawn from a code. -/
def RetText (w : World) (e : Ending) (w' : World) : Prop := ∃ s : ByteArray, e = .returned (.string s) ∧ s.size ≤ 32 ∧ Below w.heap.size w w'
end Go.Proofs.Ythnilifepiihjaa
