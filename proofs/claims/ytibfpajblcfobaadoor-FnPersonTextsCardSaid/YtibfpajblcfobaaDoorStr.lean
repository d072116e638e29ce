/-
  Slices of texts: what one reads as; whether all are words.
  Conditions: each lemma names its own.
-/
import Derived.Test.YtibfpajblcfobaaDoorWord
import Derived.Test.YtibfpajblcfobaaDoorRange
import Derived.SliceStrings
namespace Go.Proofs.YtibfpajblcfobaaDoor
open Go.RowKit
set_option linter.unusedVariables false

theorem rs {a b : ByteArray} (h : a = b) : Ending.returned (.string a) = .returned (.string b) := by rw [h]
theorem rs2 {a b : ByteArray} {x y : Int} (h : a = b) (g : x = y) : Ending.returned (.tuple #[.string a, .int .i64 x]) = .returned (.tuple #[.string b, .int .i64 y]) := by rw [h, g]
/-- A slice of texts that reads as ss. -/
def Strs (w : World) (v : Value) (ss : List ByteArray) : Prop := Row w 1 v ss.length (ss.map Value.string)
theorem Strs.below {w w' : World} {v : Value} {ss : List ByteArray} (h : Strs w v ss) (hb : Below w.heap.size w w') : Strs w' v ss := Row.below h hb
theorem Strs.drewN {w : World} {v : Value} {ss : List ByteArray} (h : Strs w v ss) (m : Nat) : Strs (w.drewN m) v ss := h
/-- What the walk is given of a slice of texts. -/
structure StrsAt (w : World) (a : Option Addr) (n c : Nat) (ss : List ByteArray) : Prop where
  len : ss.length = n
  cap : n ≤ c
  most : c ≤ maxLen
  nil : a = none → c = 0
  cells : 0 < n → ∃ b o, a = some ⟨b, o, none⟩ ∧ b < w.heap.size ∧ ∀ k x, ss[k]? = some x → w.cell? ⟨b, o + k, none⟩ = some (.string x)
theorem Strs.parts {w : World} {v : Value} {ss : List ByteArray} (h : Strs w v ss) : ∃ a n c, v = .slice a n c ∧ StrsAt w a n c ss := by
  obtain ⟨h1, a, c, hv, h2, h3, h0, h4⟩ := h
  refine ⟨a, ss.length, c, hv, rfl, h2, h3, h0, fun hn => ?_⟩
  obtain ⟨b, o, ha, hb, hc⟩ := h4 hn
  exact ⟨b, o, ha, hb, fun k x hx => hc k _ (by rw [List.getElem?_map, hx]; rfl)⟩
/-- All texts fit. -/
def StrsFit (ss : List ByteArray) : Prop := ∀ s ∈ ss, s.size ≤ 9223372036854775807
theorem StrsFit.at_ {ss : List ByteArray} (h : StrsFit ss) {k : Nat} {s : ByteArray} (hs : ss[k]? = some s) : s.size ≤ 9223372036854775807 := h s (List.mem_of_getElem? hs)
theorem str_at {ss : List ByteArray} {k : Nat} (h : k < ss.length) : ∃ s, ss[k]? = some s := ⟨ss[k], List.getElem?_eq_getElem h⟩
def nthS (ss : List ByteArray) (k : Nat) : ByteArray := ss.getD k ByteArray.empty
theorem nthS_of {ss : List ByteArray} {k : Nat} {s : ByteArray} (h : ss[k]? = some s) : nthS ss k = s := by unfold nthS; rw [List.getD_eq_getElem?_getD, h]; rfl
/-- The texts as lists of bytes. -/
def datas (ss : List ByteArray) : List (List UInt8) := ss.map (·.data.toList)
theorem datas_len (ss : List ByteArray) : (datas ss).length = ss.length := by simp [datas]
theorem datas_at {ss : List ByteArray} {k : Nat} {s : ByteArray} (h : ss[k]? = some s) : (datas ss)[k]? = some s.data.toList := by unfold datas; rw [List.getElem?_map, h]; rfl
theorem datas_take (ss : List ByteArray) (k : Nat) : datas (ss.take k) = (datas ss).take k := by simp [datas]
theorem bytes_inj {a b : ByteArray} (h : a.data.toList = b.data.toList) : a = b := by
  cases a with | mk x => cases b with | mk y => simp at h; rw [h]
theorem datas_inj {a b : List ByteArray} (h : datas a = datas b) : a = b := by
  unfold datas at h
  exact (List.map_inj_right (fun _ _ e => bytes_inj e)).1 h
def mkB (l : List UInt8) : ByteArray := ⟨l.toArray⟩
theorem mkB_data (l : List UInt8) : (mkB l).data.toList = l := by simp [mkB]
theorem mkB_of (s : ByteArray) : mkB s.data.toList = s := bytes_inj (mkB_data _)
theorem mkB_size (l : List UInt8) : (mkB l).size = l.length := by simp [mkB, ByteArray.size]
theorem size_data (s : ByteArray) : s.data.toList.length = s.size := by simp

section
open Go.ChangeShapes Go.WideShapes
variable {H : Type} {enc : TypeId × Value → H} {w : World}
set_option maxRecDepth 100000 in
/-- An argument of type []string: what it reads as. -/
theorem strs_of_trod {t e : TypeId} {v : Value} {d : DataW H} {p : List MemPlace} (ht : Tryd.prog.underlying t = some (.slice e)) (he : Tryd.prog.underlying e = some .string) (hc : Tryd.prog.cellsOf e = 1)
    (hv : Value.okWide Tryd.prog w .any 0 t v) (h : DataW.Trod enc Tryd.prog w 0 (fun _ => true) true t v d p) :
    ∃ ss, Strs w v ss ∧ StrsFit ss := by
  obtain ⟨a, len, cap, rfl⟩ := okWide_slice ht hv
  obtain ⟨fuel, hf⟩ := h
  rcases open_strings ht he hc hf with ⟨hcs, _⟩ | ⟨x, l, c, zs, hcs, _, hl, hm, hz, hx, hcell, hwz⟩
  · simp [Value.cells] at hcs
    obtain ⟨rfl, rfl, rfl⟩ := hcs
    exact ⟨[], ⟨by simp, none, 0, rfl, Nat.le_refl _, Nat.zero_le _, fun _ => rfl, fun h => absurd h (by simp)⟩, by intro s hs; cases hs⟩
  · simp [Value.cells] at hcs
    obtain ⟨rfl, rfl, rfl⟩ := hcs
    have hz' : zs.length = cap := by simpa using hz
    have hlen : (zs.take len).length = len := by rw [List.length_take]; omega
    refine ⟨zs.take len, ⟨by simp, some x, cap, by rw [hlen], by rw [hlen]; exact hl, hm, (fun h => by cases h), fun h0 => ?_⟩, fun y hy => by have := hwz y (List.mem_of_mem_take hy); unfold maxLen at this; exact this⟩
    rw [hlen] at h0
    obtain ⟨b, o, sp⟩ := x
    have h1 := hcell 0 (by omega)
    have hsp : sp = none := by simpa [Addr.add] using World.cell?_spot h1
    subst hsp
    refine ⟨b, o, rfl, World.block_lt_of_cell? w _ (by simpa [Addr.add] using h1), fun j u hu => ?_⟩
    rw [List.getElem?_map] at hu
    have hj : j < (zs.take len).length := by
      rcases Nat.lt_or_ge j (zs.take len).length with hh | hh
      · exact hh
      · rw [List.getElem?_eq_none hh] at hu; cases hu
    have hc := hcell j (by omega)
    rw [Addr.add_lit] at hc
    rw [hc]
    rw [List.getElem?_take, if_pos (by omega)] at hu
    rw [List.getD_eq_getElem?_getD]
    cases hzz : zs[j]? with
    | none => rw [hzz] at hu; cases hu
    | some y => rw [hzz] at hu; simpa using hu
end

/-- All are words. -/
def wordsB (ss : List ByteArray) : Bool := allB (fun j => wordB (nthS ss j).data.toList) ss.length
theorem wordsB_iff (ss : List ByteArray) : wordsB ss = true ↔ ∀ s ∈ ss, wordB s.data.toList = true := by
  constructor
  · intro h s hs
    obtain ⟨k, hk, rfl⟩ := List.getElem_of_mem hs
    have := allB_all h k hk
    rw [nthS_of (List.getElem?_eq_getElem hk)] at this
    exact this
  · intro h
    refine allB_true fun j hj => ?_
    rw [nthS_of (List.getElem?_eq_getElem hj)]
    exact h _ (List.getElem_mem hj)

end Go.Proofs.YtibfpajblcfobaaDoor
