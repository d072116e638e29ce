/-
  A source of draws: what is known of one, and how that is kept.
  Conditions: none of its own; every lemma names what it takes.
-/
import Derived.Test.YthnilifepiihjaaBytes
namespace Go.Proofs.Ythnilifepiihjaa
open Go.RowKit

/-- The three cells of a source. -/
def srcF (v : Value) (i : Nat) (s : Int) (j : Nat) : Value := if j = 0 then v else if j = 1 then .int .i64 i else .int .i64 s
/-- The code's bytes, below block B. -/
def Codes (B : Nat) (w : World) (v : Value) (bs : List Int) : Prop :=
  BytesFit bs ∧ ∃ a n c, v = .slice a n c ∧ bs.length = n ∧ n ≤ c ∧ c ≤ maxLen ∧ (0 < n → ∃ b o, a = some ⟨b, o, none⟩ ∧ b < B ∧ ∀ j x, bs[j]? = some x → w.cell? ⟨b, o + j, none⟩ = some (.int .u8 x))
theorem Codes.below {B : Nat} {w w' : World} {v : Value} {bs : List Int} (h : Codes B w v bs) (hb : Below B w w') : Codes B w' v bs := by
  obtain ⟨hf, a, n, c, hv, hl, h1, h2, h3⟩ := h
  refine ⟨hf, a, n, c, hv, hl, h1, h2, fun hn => ?_⟩
  obtain ⟨b, o, ha, hb', hc⟩ := h3 hn
  exact ⟨b, o, ha, hb', fun j x hx => (hb.cell (p := ⟨b, o + j, none⟩) hb').trans (hc j x hx)⟩
theorem codes_of {w : World} {v : Value} {bs : List Int} (h : Bytes w v bs) (hf : BytesFit bs) : Codes w.heap.size w v bs := ⟨hf, row_cells h⟩
/-- A source: block g. -/
def Src (B g : Nat) (w : World) : Prop :=
  B ≤ g ∧ ∃ v bs i s, w.rowIs g 108 3 (srcF v i s) ∧ Codes B w v bs ∧ i ≤ bs.length ∧ 0 ≤ s ∧ s < 2147483647
theorem Src.lt {B g : Nat} {w : World} (h : Src B g w) : g < w.heap.size := by
  obtain ⟨_, v, bs, i, s, h, _⟩ := h
  exact h.lt
theorem Src.below {B g : Nat} {w w' : World} (h : Src B g w) (hb : Below w.heap.size w w') : Src B g w' := by
  have hlt := h.lt
  obtain ⟨hB, v, bs, i, s, h1, h2, h3⟩ := h
  exact ⟨hB, v, bs, i, s, h1.of_block (hb.block g hlt), h2.below (hb.mono (by omega)), h3⟩
theorem Src.alloc {B g : Nat} {w : World} (h : Src B g w) (o : Obj) : Src B g (w.alloc o) := h.below ((Below.refl _ _).alloc (Nat.le_refl _) o)

/-- What a draw leaves: new blocks, and the source moved on. -/
def Past (g : Nat) (w w' : World) : Prop := w.grownBy w' (some g)
theorem Past.refl (g : Nat) (w : World) : Past g w w := ⟨rfl, rfl, rfl, Nat.le_refl _, fun _ _ _ => rfl⟩
theorem Past.trans {g : Nat} {a b c : World} (h : Past g a b) (k : Past g b c) : Past g a c :=
  ⟨k.os.trans h.os, k.tape.trans h.tape, k.output.trans h.output, Nat.le_trans h.size k.size, fun i hi hn => (k.block i (Nat.lt_of_lt_of_le hi h.size) hn).trans (h.block i hi hn)⟩
theorem Past.of_below {g : Nat} {w w' : World} (h : Below w.heap.size w w') : Past g w w' := ⟨h.os, h.tape, h.output, h.size, fun k hk _ => h.block k hk⟩
theorem Past.below {g : Nat} {w w' : World} (h : Past g w w') (hg : g ≤ w.heap.size) : Below g w w' := ⟨h.os, h.tape, h.output, h.size, fun k hk => h.block k (by omega) (by intro e; injection e with e; omega)⟩
theorem Past.set {g i : Nat} {a w : World} (h : Past g a w) (u : Value) : Past g a (w.setCell ⟨g, i, none⟩ u) :=
  h.trans ⟨rfl, rfl, rfl, by simp [World.setCell], fun k _ hk => Below.heap_setCell _ _ _ _ (by rintro rfl; exact hk rfl)⟩
theorem Past.alloc {g : Nat} {a w : World} (h : Past g a w) (o : Obj) : Past g a (w.alloc o) := h.trans (World.grownBy_alloc w o _)
theorem Past.drew {g : Nat} {a w : World} (h : Past g a w) : Past g a w.drew := ⟨h.os, h.tape, h.output, h.size, h.block⟩
theorem Past.drewN {g : Nat} {a w : World} (h : Past g a w) (n : Nat) : Past g a (w.drewN n) := ⟨h.os, h.tape, h.output, h.size, h.block⟩
/-- A row of the call's own, made behind the source, stays. -/
theorem own_past {g size n base : Nat} {w w' : World} {e : TypeId} {v : Value} {cs : List Value} (h : w.ownsRow base e size v n cs) (hp : Past g w w') (hg : g < base) : w'.ownsRow base e size v n cs := by
  refine h.kept hp ?_
  cases hv : v.ownBlock with
  | none => exact .inl rfl
  | some k => exact .inr (by intro e; injection e with e; have := (h.lt k hv).1; omega)
/-- Behind an append to a row of the call's own. -/
theorem src_append {B g : Nat} {w w4 w5 : World} {e : TypeId} {size n : Nat} {v : Value} {cs : List Value} {o : Obj} (h : Src B g w4) (hgt : g < w.heap.size) (hp : Past g w w4) (ho : w4.ownsRow w.heap.size e size v n cs) (hg : (w4.alloc o).grownBy w5 v.ownBlock) : Src B g w5 ∧ Past g w w5 := by
  have hsz : w.heap.size ≤ w4.heap.size := hp.size
  have hb : Below w.heap.size w4 w5 :=
    ((Below.refl _ w4).alloc hsz o).grown hg (by simp; omega) fun k hk => (ho.lt k hk).1
  refine ⟨?_, ⟨hb.os.trans hp.os, hb.tape.trans hp.tape, hb.output.trans hp.output, Nat.le_trans hp.size hb.size, fun k hk hn => (hb.block k hk).trans (hp.block k hk hn)⟩⟩
  obtain ⟨hB, u, bs, i, s, h1, h2, h3⟩ := h
  exact ⟨hB, u, bs, i, s, h1.of_block (hb.block g hgt), h2.below (hb.mono (by omega)), h3⟩
theorem src_below {B g : Nat} {w w1 w2 : World} (b : Below B w w1) (h : Src B g w1) (p : Past g w1 w2) : Below B w w2 :=
  b.trans ((p.below (by have := h.lt; omega)).mono h.1)
end Go.Proofs.Ythnilifepiihjaa
