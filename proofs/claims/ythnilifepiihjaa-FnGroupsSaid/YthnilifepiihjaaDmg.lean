/-
  A text changed slightly.
  Conditions: each lemma names its own.
-/
import Derived.Test.YthnilifepiihjaaDrawSum
import Derived.Test.YthnilifepiihjaaReg
namespace Go.Proofs.Ythnilifepiihjaa
open Go.RowKit
set_option linter.unusedVariables false

/-- A text of at most m bytes is drawn. -/
def GotUpTo (B g m : Nat) (w : World) (e : Ending) (w' : World) : Prop := ∃ s : ByteArray, e = .returned (.string s) ∧ s.size ≤ m ∧ Src B g w' ∧ Past g w w'
theorem ext_le {s : ByteArray} {i j m : Nat} (h : s.size ≤ m) : (s.extract i j).size ≤ m := by rw [ByteArray.size_extract]; omega
theorem cut_out {s : ByteArray} {k m : Nat} (h : s.size ≤ m) (hk : k ≤ s.size) : (s.extract 0 k ++ s.extract (k + 1) s.size).size ≤ m + 32 := by
  rw [ByteArray.size_append, ByteArray.size_extract, ByteArray.size_extract]; omega
theorem cut_in {s u : ByteArray} {k m : Nat} (h : s.size ≤ m) (hu : u.size ≤ 32) (hk : k ≤ s.size) : (s.extract 0 k ++ u ++ s.extract k s.size).size ≤ m + 32 := by
  rw [ByteArray.size_append, ByteArray.size_append, ByteArray.size_extract, ByteArray.size_extract]; omega
theorem Src.drewN {B g : Nat} {w : World} (h : Src B g w) (n : Nat) : Src B g (w.drewN n) := h.below ⟨rfl, rfl, rfl, Nat.le_refl _, fun _ _ => rfl⟩
theorem Src.drew {B g : Nat} {w : World} (h : Src B g w) : Src B g w.drew := h.below ⟨rfl, rfl, rfl, Nat.le_refl _, fun _ _ => rfl⟩
/-- Texts of at most 32 bytes, in a block other than the source's. -/
def LitAt (g n : Nat) (w : World) (v : Value) : Prop := ∃ b, v = .slice (some ⟨b, 0, none⟩) n n ∧ b ≠ g ∧ b < w.heap.size ∧ ∀ j, j < n → ∃ s : ByteArray, w.cell? ⟨b, j, none⟩ = some (.string s) ∧ s.size ≤ 32
theorem LitAt.past {g n : Nat} {w w' : World} {v : Value} (h : LitAt g n w v) (hp : Past g w w') : LitAt g n w' v := by
  obtain ⟨b, hv, hb, hlt, hc⟩ := h
  exact ⟨b, hv, hb, Nat.lt_of_lt_of_le hlt hp.size, fun j hj => by obtain ⟨s, h1, h2⟩ := hc j hj; exact ⟨s, hp.cell h1 (by intro e; injection e with e; exact hb e), h2⟩⟩
theorem LitAt.new {g n : Nat} {w : World} {cs : Array Value} {T : TypeId} (hg : g < w.heap.size) (hn : cs.size = n) (hall : cs.all shortB = true) : LitAt g n (w.alloc (.cells cs T)) (.slice (some ⟨w.heap.size, 0, none⟩) n n) :=
  ⟨w.heap.size, rfl, by omega, by simp, fun j hj => lit_at (Past.refl g _) hg (by omega) hall⟩
/-- The address of such a text. -/
def TextAt (g : Nat) (w : World) (v : Value) : Prop := ∃ b o, v = .pointer (some ⟨b, o, none⟩) ∧ b ≠ g ∧ ∃ s : ByteArray, w.cell? ⟨b, o, none⟩ = some (.string s) ∧ s.size ≤ 32
theorem TextAt.past {g : Nat} {w w' : World} {v : Value} (h : TextAt g w v) (hp : Past g w w') : TextAt g w' v := by
  obtain ⟨b, o, hv, hb, s, h1, h2⟩ := h
  exact ⟨b, o, hv, hb, s, hp.cell h1 (by intro e; injection e with e; exact hb e), h2⟩
/-- A text of at most m bytes. -/
def TextOf (m : Nat) (v : Value) : Prop := ∃ s : ByteArray, v = .string s ∧ s.size ≤ m
/-- A number from lo to hi. -/
def NumOf (lo hi : Int) (v : Value) : Prop := ∃ x : Int, v = .int .i64 x ∧ lo ≤ x ∧ x ≤ hi
/-- The facts of the slots. -/
def dmgF (g : Nat) (t : ByteArray) (k m : Nat) (i : Nat) (w : World) (v : Value) : Prop :=
  match i with
  | 0 => v = .pointer (some ⟨g, 0, none⟩)
  | 1 => v = .string t
  | 5 => v = .int .i64 k
  | 20 => v = .string t
  | 21 => v = .int .i64 k
  | 22 => v = .string (t.extract 0 k)
  | 23 => LitAt g 8 w v
  | 24 => v = .pointer (some ⟨g, 0, none⟩)
  | 25 => NumOf 0 7 v
  | 26 => TextAt g w v
  | 27 => TextOf 32 v
  | 28 => ∃ u : ByteArray, v = .string (t.extract 0 k ++ u) ∧ u.size ≤ 32
  | 29 => v = .string t
  | 30 => v = .int .i64 k
  | 31 => v = .string (t.extract k t.size)
  | 32 => TextOf (m + 32) v
  | _ => False
theorem dmgF_past {g : Nat} {t : ByteArray} {k m i : Nat} {w w' : World} {v : Value} (h : dmgF g t k m i w v) (hp : Past g w w') : dmgF g t k m i w' v := by
  unfold dmgF at *
  split at h <;> first | exact h | exact LitAt.past h hp | exact TextAt.past h hp
end Go.Proofs.Ythnilifepiihjaa
