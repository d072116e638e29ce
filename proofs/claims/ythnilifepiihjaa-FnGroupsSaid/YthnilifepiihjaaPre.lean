/-
  Words for the walks of this seat: what a slice reads as in a world, and how that is kept.
  Conditions: none of its own; every lemma names what it takes.
-/
import Derived.Test.YthnilifepiihjaaRows
import Derived.WalkKit
import Derived.ProofKit
import Derived.OpenShut
import Derived.WalkSpells
import Derived.WalkLawsBesides
import Derived.Handy
import Derived.Deep.QuietTactic
import Derived.BigQuiet
import Derived.Lib.Hide
import Derived.ChangeOld
namespace Go.Proofs.Ythnilifepiihjaa
open Go.RowKit

/-- The slice value v has n elements of k cells each, and their cells are cs. -/
def Row (w : World) (k : Nat) (v : Value) (n : Nat) (cs : List Value) : Prop :=
  cs.length = n * k ∧ ∃ a c, v = .slice a n c ∧ n ≤ c ∧ c ≤ maxLen ∧ (a = none → c = 0) ∧
    (0 < n → ∃ b o, a = some ⟨b, o, none⟩ ∧ b < w.heap.size ∧ ∀ j u, cs[j]? = some u → w.cell? ⟨b, o + j, none⟩ = some u)

/-- A slice of int64 that reads as xs. -/
def Ints (w : World) (v : Value) (xs : List Int) : Prop := Row w 1 v xs.length (xs.map (Value.int .i64))

/-- What the walk is given of a slice of int64: the value's parts. -/
structure IntsAt (w : World) (a : Option Addr) (n c : Nat) (xs : List Int) : Prop where
  len : xs.length = n
  cap : n ≤ c
  most : c ≤ maxLen
  nil : a = none → c = 0
  cells : 0 < n → ∃ b o, a = some ⟨b, o, none⟩ ∧ b < w.heap.size ∧ ∀ k x, xs[k]? = some x → w.cell? ⟨b, o + k, none⟩ = some (.int .i64 x)

theorem Ints.parts {w : World} {v : Value} {xs : List Int} (h : Ints w v xs) : ∃ a n c, v = .slice a n c ∧ IntsAt w a n c xs := by
  obtain ⟨h1, a, c, hv, h2, h3, h0, h4⟩ := h
  refine ⟨a, xs.length, c, hv, rfl, h2, h3, h0, fun hn => ?_⟩
  obtain ⟨b, o, ha, hb, hc⟩ := h4 hn
  exact ⟨b, o, ha, hb, fun k x hx => hc k _ (by rw [List.getElem?_map, hx]; rfl)⟩

theorem Row.below {w w' : World} {k n : Nat} {v : Value} {cs : List Value} (h : Row w k v n cs) (hb : Below w.heap.size w w') : Row w' k v n cs := by
  obtain ⟨h1, a, c, hv, h2, h3, h0, h4⟩ := h
  refine ⟨h1, a, c, hv, h2, h3, h0, fun hn => ?_⟩
  obtain ⟨b, o, ha, hbb, hc⟩ := h4 hn
  exact ⟨b, o, ha, Nat.lt_of_lt_of_le hbb hb.size, fun j u hu => (hb.cell (p := ⟨b, o + j, none⟩) hbb).trans (hc j u hu)⟩

theorem Row.drewN {w : World} {k n : Nat} {v : Value} {cs : List Value} (h : Row w k v n cs) (m : Nat) : Row (w.drewN m) k v n cs := h

theorem Ints.below {w w' : World} {v : Value} {xs : List Int} (h : Ints w v xs) (hb : Below w.heap.size w w') : Ints w' v xs := Row.below h hb
theorem Ints.drewN {w : World} {v : Value} {xs : List Int} (h : Ints w v xs) (m : Nat) : Ints (w.drewN m) v xs := h

/-- What the call owns reads so. -/
theorem Row.own {w : World} {base : Nat} {e : TypeId} {k n : Nat} {v : Value} {xs : List Value} (h : w.ownsRow base e k v n xs) : Row w k v n xs := by
  have hl := h.1
  rcases h.2 with ⟨rfl, rfl⟩ | ⟨g, cap, cur, rfl, hb, hg, hn, hm, hs, ht⟩
  · exact ⟨hl, none, 0, rfl, Nat.le_refl _, Nat.zero_le _, fun _ => rfl, fun h => absurd h (by omega)⟩
  · refine ⟨hl, _, cap, rfl, hn, hm, (fun h => by cases h), fun _ => ⟨g, 0, rfl, (Array.getElem?_eq_some_iff.1 hg).1, fun j u hu => ?_⟩⟩
    have hc := h.cells (g := g) rfl j u hu
    have hadd : (⟨g, 0, none⟩ : Addr).add j = ⟨g, 0 + j, none⟩ := by unfold Addr.add; split <;> simp_all
    rw [hadd] at hc
    exact hc

theorem Ints.own {w : World} {base : Nat} {e : TypeId} {v : Value} {n : Nat} {xs : List Int} (h : w.ownsRow base e 1 v n (xs.map (Value.int .i64))) : Ints w v xs := by
  have hn : xs.length = n := by have := h.1; simpa using this
  subst hn
  exact Row.own h

theorem below_of_drewN {B : Nat} {a w : World} (h : Below B a w) (n : Nat) : Below B a (w.drewN n) := ⟨h.os, h.tape, h.output, h.size, h.block⟩
theorem below_next {B : Nat} {a b c : World} (h : Below B a b) (hB : B ≤ a.heap.size) (k : Below b.heap.size b c) : Below B a c :=
  h.trans (k.mono (Nat.le_trans hB h.size))

/-- p holds below k; p holds below n, as a Bool. -/
def AllTo (p : Nat → Bool) (k : Nat) : Prop := ∀ j, j < k → p j = true
def allB (p : Nat → Bool) (n : Nat) : Bool := (List.range n).all p
theorem allTo_zero (p : Nat → Bool) : AllTo p 0 := fun j h => absurd h (by omega)
theorem AllTo.succ {p : Nat → Bool} {k : Nat} (h : AllTo p k) (hp : p k = true) : AllTo p (k + 1) := fun j hj => by
  rcases Nat.lt_or_ge j k with hlt | hge
  · exact h j hlt
  · obtain rfl : j = k := by omega
    exact hp
theorem allB_true {p : Nat → Bool} {n : Nat} (h : AllTo p n) : allB p n = true := by
  unfold allB
  rw [List.all_eq_true]
  exact fun j hj => h j (List.mem_range.1 hj)
theorem allB_false {p : Nat → Bool} {n k : Nat} (hk : k < n) (h : p k = false) : allB p n = false := by
  unfold allB
  rw [List.all_eq_false]
  exact ⟨k, List.mem_range.2 hk, by simp [h]⟩
theorem allB_all {p : Nat → Bool} {n : Nat} (h : allB p n = true) : AllTo p n := by
  unfold allB at h
  rw [List.all_eq_true] at h
  exact fun j hj => h j (List.mem_range.2 hj)

theorem getD_of {xs : List Int} {k : Nat} {x : Int} (h : xs[k]? = some x) : xs.getD k 0 = x := by rw [List.getD_eq_getElem?_getD, h]; rfl
theorem at_of {xs : List Int} {k : Nat} (h : k < xs.length) : ∃ x, xs[k]? = some x := ⟨xs[k], List.getElem?_eq_getElem h⟩
theorem list_eq_of {xs ys : List Int} (hl : xs.length = ys.length) (h : AllTo (fun j => xs.getD j 0 == ys.getD j 0) xs.length) : xs = ys := by
  refine List.ext_getElem hl fun j h1 h2 => ?_
  have := h j h1
  simp only [List.getD_eq_getElem?_getD, List.getElem?_eq_getElem h1, List.getElem?_eq_getElem h2, Option.getD_some, beq_iff_eq] at this
  exact this

/-- A callee that draws nothing, met behind draws that have been joined. -/
theorem quiet_add_same {P : Program} {f : FuncId} {args : Array Value} {w : World} {a n : Nat} {v : Value}
    (h : Calls P f args (w.drewN (a + n)) fun e w' => e = .returned v ∧ w' = w.drewN (a + n)) :
    Calls P f args (w.drewN (a + n)) fun e w'' => e = .returned v ∧ ∃ m, w'' = w.drewN (a + m) :=
  h.mono fun _ _ ⟨he, hm⟩ => ⟨he, n, hm⟩
theorem quiet_add {P : Program} {f : FuncId} {args : Array Value} {w : World} {a n : Nat} {v : Value}
    (h : Calls P f args (w.drewN (a + n)) fun e w' => e = .returned v ∧ ∃ m, w' = (w.drewN (a + n)).drewN m) :
    Calls P f args (w.drewN (a + n)) fun e w'' => e = .returned v ∧ ∃ m, w'' = w.drewN (a + m) :=
  h.mono fun _ _ ⟨he, m, hm⟩ => ⟨he, n + m, by rw [hm, World.drewN_drewN, Nat.add_assoc]⟩

/-- The worlds that hold all that w holds: what callees that only make memory leave. -/
def Ext (w : World) : Type := { w' : World // Below w.heap.size w w' }
instance (w : World) : Nonempty (Ext w) := ⟨⟨w, Below.refl _ _⟩⟩
def extW (w : World) (n : Ext w) : World := n.1
theorem ext_below (w : World) (n : Ext w) : Below w.heap.size w (extW w n) := n.2
theorem ext_mk {w w' : World} (h : Below w.heap.size w w') : ∃ n : Ext w, w' = extW w n := ⟨⟨w', h⟩, rfl⟩
@[simp] theorem cell_ext {w : World} (n : Ext w) (b o : Nat) (h : b < w.heap.size) : (extW w n).cell? ⟨b, o, none⟩ = w.cell? ⟨b, o, none⟩ := (ext_below w n).cell (p := ⟨b, o, none⟩) h
/-- A region that draws its order, whose own operations only read, whose callees only make memory: walked once, in the order of the text. -/
theorem region_ext {P : Program} {id : Nat} {Q : Exit → Act → World → Prop} {a : Act} {w : World} {l : List Oper} (hm : P.follows .mixedOrders = true) (hB : Region.lexB .any l.toArray = true)
    (h : wpQuiet P l.toArray (fun w' => ∃ n : Ext w, w' = extW w n) (fun a' => ∀ w', (∃ n : Ext w, w' = extW w n) → Q .normal a' w') l a) : (Code.region id l.toArray true).wp P Q a w :=
  wp_region_quiet (C := fun w' => ∃ n : Ext w, w' = extW w n) hm hB ⟨⟨w.drew, (Below.refl _ _).drew⟩, rfl⟩ (by simpa using h)
/-- A callee that makes memory, met in such a region. -/
theorem ext_call {P : Program} {f : FuncId} {args : Array Value} {w : World} {n : Ext w} {v : Value}
    (h : Calls P f args (extW w n) fun e w' => e = .returned v ∧ Below (extW w n).heap.size (extW w n) w') : Calls P f args (extW w n) fun e w'' => e = .returned v ∧ ∃ m : Ext w, w'' = extW w m :=
  h.mono fun _ _ ⟨he, hb⟩ => ⟨he, ext_mk ((ext_below w n).trans (hb.mono (ext_below w n).size))⟩

theorem ri {k : IntKind} {a b : Int} (h : a = b) : Ending.returned (.int k a) = .returned (.int k b) := by rw [h]
theorem rb {a b : Bool} (h : a = b) : Ending.returned (.bool a) = .returned (.bool b) := by rw [h]
set_option maxRecDepth 100000 in
theorem own : ownKnob Try.prog.godebug = none := by kernel_rfl
set_option maxRecDepth 100000 in
theorem laidOut : laidOutB Try.prog = true := by kernel_rfl

section
open Go.ChangeShapes Go.WideShapes
variable {H : Type} {enc : TypeId × Value → H} {w : World}

set_option maxRecDepth 100000 in
/-- An argument of type []int64: what it reads as. -/
theorem ints_of_trod {t e : TypeId} {v : Value} {d : DataW H} {p : List MemPlace} (ht : Try.prog.underlying t = some (.slice e)) (he : Try.prog.underlying e = some (.int .i64)) (hc : Try.prog.cellsOf e = 1)
    (hv : Value.okWide Try.prog w .any 0 t v) (h : DataW.Trod enc Try.prog w 0 (fun _ => true) true t v d p) :
    ∃ xs, Ints w v xs ∧ ∀ x ∈ xs, -9223372036854775808 ≤ x ∧ x ≤ 9223372036854775807 := by
  obtain ⟨a, len, cap, rfl⟩ := okWide_slice ht hv
  have lt : ∀ x ∈ p, x.block < w.heap.size := by obtain ⟨m, hm⟩ := h; exact DataW.trod_lt m _ _ _ hm
  obtain ⟨fuel, hf⟩ := h
  rcases open_ints ht he hc hf with ⟨hcs, _⟩ | ⟨x, l, c, zs, hcs, _, hl, hm, hz, hx, hcell, hwz⟩
  · simp [Value.cells] at hcs
    obtain ⟨rfl, rfl, rfl⟩ := hcs
    exact ⟨[], ⟨by simp, none, 0, rfl, Nat.le_refl _, Nat.zero_le _, fun _ => rfl, fun h => absurd h (by simp)⟩, by simp⟩
  · simp [Value.cells] at hcs
    obtain ⟨rfl, rfl, rfl⟩ := hcs
    have hz' : zs.length = cap := by simpa using hz
    have hlen : (zs.take len).length = len := by rw [List.length_take]; omega
    refine ⟨zs.take len, ⟨by simp, some x, cap, by rw [hlen], by rw [hlen]; exact hl, hm, (fun h => by cases h), fun h0 => ?_⟩, fun y hy => bounds_i64 (hwz y (List.mem_of_mem_take hy))⟩
    rw [hlen] at h0
    obtain ⟨b, o, sp⟩ := x
    have h1 := hcell 0 (by omega)
    have hsp : sp = none := by simpa [Addr.add] using World.cell?_spot h1
    subst hsp
    refine ⟨b, o, rfl, World.block_lt_of_cell? w _ (by simpa [Addr.add] using h1), fun j u hu => ?_⟩
    rw [List.getElem?_map] at hu
    have hj : j < (zs.take len).length := by
      rcases Nat.lt_or_ge j (zs.take len).length with hh | hh
      · exact hh
      · rw [List.getElem?_eq_none hh] at hu; cases hu
    have hc := hcell j (by omega)
    rw [Addr.add_lit] at hc
    rw [hc]
    rw [List.getElem?_take, if_pos (by omega)] at hu
    rw [List.getD_eq_getElem?_getD]
    cases hzz : zs[j]? with
    | none => rw [hzz] at hu; cases hu
    | some y => rw [hzz] at hu; simpa using hu
end
end Go.Proofs.Ythnilifepiihjaa
