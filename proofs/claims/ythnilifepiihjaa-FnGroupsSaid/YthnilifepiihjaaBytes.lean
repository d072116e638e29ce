/-
  Slices of bytes among a law's arguments: what one reads as.
  Conditions: none of its own; every lemma names what it takes.
-/
import Derived.Test.YthnilifepiihjaaPre
import Derived.Deep.OwnRows
namespace Go.Proofs.Ythnilifepiihjaa
open Go.RowKit

/-- A slice of bytes that reads as bs. -/
def Bytes (w : World) (v : Value) (bs : List Int) : Prop := Row w 1 v bs.length (bs.map (Value.int .u8))
theorem Bytes.below {w w' : World} {v : Value} {bs : List Int} (h : Bytes w v bs) (hb : Below w.heap.size w w') : Bytes w' v bs := Row.below h hb
/-- All are bytes. -/
def BytesFit (bs : List Int) : Prop := ∀ x ∈ bs, 0 ≤ x ∧ x ≤ 255

/-- What a row's cells are, where each is one number of kind k. -/
theorem row_cells {w : World} {k : IntKind} {v : Value} {xs : List Int} (h : Row w 1 v xs.length (xs.map (Value.int k))) :
    ∃ a n c, v = .slice a n c ∧ xs.length = n ∧ n ≤ c ∧ c ≤ maxLen ∧ (0 < n → ∃ b o, a = some ⟨b, o, none⟩ ∧ b < w.heap.size ∧ ∀ j x, xs[j]? = some x → w.cell? ⟨b, o + j, none⟩ = some (.int k x)) := by
  obtain ⟨h1, a, c, hv, h2, h3, h0, h4⟩ := h
  refine ⟨a, xs.length, c, hv, rfl, h2, h3, fun hn => ?_⟩
  obtain ⟨b, o, ha, hb, hc⟩ := h4 hn
  exact ⟨b, o, ha, hb, fun j x hx => hc j _ (by rw [List.getElem?_map, hx]; rfl)⟩

section
open Go.ChangeShapes Go.WideShapes
variable {H : Type} {enc : TypeId × Value → H} {w : World}

set_option maxRecDepth 100000 in
/-- An argument of type []byte: what it reads as. -/
theorem bytes_of_trod {t e : TypeId} {v : Value} {d : DataW H} {p : List MemPlace} (ht : Try.prog.underlying t = some (.slice e)) (he : Try.prog.underlying e = some (.int .u8)) (hc : Try.prog.cellsOf e = 1)
    (hv : Value.okWide Try.prog w .any 0 t v) (h : DataW.Trod enc Try.prog w 0 (fun _ => true) true t v d p) :
    ∃ xs, Bytes w v xs ∧ BytesFit xs := by
  obtain ⟨a, len, cap, rfl⟩ := okWide_slice ht hv
  have lt : ∀ x ∈ p, x.block < w.heap.size := by obtain ⟨m, hm⟩ := h; exact DataW.trod_lt m _ _ _ hm
  obtain ⟨fuel, hf⟩ := h
  rcases open_ints ht he hc hf with ⟨hcs, _⟩ | ⟨x, l, c, zs, hcs, _, hl, hm, hz, hx, hcell, hwz⟩
  · simp [Value.cells] at hcs
    obtain ⟨rfl, rfl, rfl⟩ := hcs
    exact ⟨[], ⟨by simp, none, 0, rfl, Nat.le_refl _, Nat.zero_le _, fun _ => rfl, fun h => absurd h (by simp)⟩, by intro x hx; cases hx⟩
  · simp [Value.cells] at hcs
    obtain ⟨rfl, rfl, rfl⟩ := hcs
    have hz' : zs.length = cap := by simpa using hz
    have hlen : (zs.take len).length = len := by rw [List.length_take]; omega
    refine ⟨zs.take len, ⟨by simp, some x, cap, by rw [hlen], by rw [hlen]; exact hl, hm, (fun h => by cases h), fun h0 => ?_⟩, fun y hy => bounds_u8 (hwz y (List.mem_of_mem_take hy))⟩
    rw [hlen] at h0
    obtain ⟨b, o, sp⟩ := x
    have h1 := hcell 0 (by omega)
    have hsp : sp = none := by simpa [Addr.add] using World.cell?_spot h1
    subst hsp
    refine ⟨b, o, rfl, World.block_lt_of_cell? w _ (by simpa [Addr.add] using h1), fun j u hu => ?_⟩
    rw [List.getElem?_map] at hu
    have hj : j < (zs.take len).length := by
      rcases Nat.lt_or_ge j (zs.take len).length with hh | hh
      · exact hh
      · rw [List.getElem?_eq_none hh] at hu; cases hu
    have hc := hcell j (by omega)
    rw [Addr.add_lit] at hc
    rw [hc]
    rw [List.getElem?_take, if_pos (by omega)] at hu
    rw [List.getD_eq_getElem?_getD]
    cases hzz : zs[j]? with
    | none => rw [hzz] at hu; cases hu
    | some y => rw [hzz] at hu; simpa using hu
end
end Go.Proofs.Ythnilifepiihjaa
