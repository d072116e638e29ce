/-
  Numbers read, the program's and the reference's.
  Conditions: each lemma names its own.
-/
import Derived.Test.YtimjjednfhnbbaaDoorRdW
import Derived.Test.YtimjjednfhnbbaaDoorPar
import Derived.Test.YtimjjednfhnbbaaDoorOwnJ
namespace Go.Proofs.YtimjjednfhnbbaaDoor
open Go.RowKit
set_option linter.unusedVariables false

/-! ### l01Signed -/
/-- What l01Signed hands back. -/
def SigPost (s : ByteArray) (w : World) (e : Ending) (w' : World) : Prop :=
  ∃ (r : Int) (ok : Bool), e = .returned (.tuple #[.int .i64 r, .bool ok]) ∧ -10000000000000 < r ∧ r < 10000000000000 ∧ sigOf s.data.toList = (if ok then some r else none) ∧ Below w.heap.size w w'
theorem sig_cons {l : List UInt8} {c : UInt8} {r : List UInt8} (h : l = c :: r) : sigOf l = if c = 45 then (match valOf r with | some n => if 0 < n then some (-(n : Int)) else none | none => none) else (match valOf (c :: r) with | some n => some (n : Int) | none => none) := by subst h; rfl
theorem cons_of {s : ByteArray} (h : 0 < s.size) : s.data.toList = s[0] :: s.data.toList.drop 1 := by
  have := drop_at h
  simpa using this
theorem ext_tail (s : ByteArray) : (s.extract 1 s.size).data.toList = s.data.toList.drop 1 := by
  rw [ext_data, List.take_of_length_le (by rw [List.length_drop, size_data]; omega)]
set_option maxRecDepth 100000 in
set_option maxHeartbeats 2000000 in
theorem spec_signed (s : ByteArray) (hs : s.size ≤ 9223372036854775807) (w : World) : Calls Tryd.prog 82 #[.string s] w (SigPost s w) := by
  by_cases h0 : 0 < s.size
  · by_cases h45 : s[0] = 45
    · have hz : ((s[0].toNat : Int) == 45) = true := by rw [h45]; rfl
      have hS : Hid (sigOf s.data.toList = match valOf (s.extract 1 s.size).data.toList with | some n => if 0 < n then some (-(n : Int)) else none | none => none) := Lib.hid (by rw [sig_cons (cons_of h0), if_pos h45, ext_tail])
      have HV := Lib.hid (fun w => spec_value (s.extract 1 s.size) (by rw [ByteArray.size_extract]; omega) w)
      have h1 : (1 : Int) ≤ (s.size : Int) := by omega
      clear h45
      go_enter Tryd.func82, Tryd.ntmps82
      go_wp2_with fail
      refine (HV.out _).mono ?_
      rintro e w1 ⟨n, ok, rfl, hn, hv, b1⟩
      clear HV
      cases ok
      · have hF : Hid (sigOf s.data.toList = none) := Lib.hid (by rw [hS.out, hv]; rfl)
        clear hS hv
        go_wp2_with fail
        go_ret2
        exact ⟨-(n : Int), false, rfl, by omega, by omega, hF.out, b1⟩
      · by_cases hp : 0 < n
        · have hF : Hid (sigOf s.data.toList = some (-(n : Int))) := Lib.hid (by rw [hS.out, hv]; simp only [if_true]; rw [if_pos hp])
          clear hS hv
          go_wp2_with fail
          go_ret2
          exact ⟨-(n : Int), true, rfl, by omega, by omega, hF.out, b1⟩
        · have hF : Hid (sigOf s.data.toList = none) := Lib.hid (by rw [hS.out, hv]; simp only [if_true]; rw [if_neg hp])
          obtain rfl : n = 0 := by omega
          clear hS hv
          go_wp2_with fail
          go_ret2
          exact ⟨0, false, rfl, by omega, by omega, hF.out, b1⟩
    · have hz : ((s[0].toNat : Int) == 45) = false := by rw [beq_eq_false_iff_ne]; intro e; exact h45 (UInt8.toNat_inj.1 (by simp; omega))
      have hS : Hid (sigOf s.data.toList = match valOf s.data.toList with | some n => some (n : Int) | none => none) := Lib.hid (by rw [sig_cons (cons_of h0), if_neg h45, ← cons_of h0])
      have HV := Lib.hid (fun w => spec_value s hs w)
      clear h45
      go_enter Tryd.func82, Tryd.ntmps82
      go_wp2_with fail
      refine (HV.out _).mono ?_
      rintro e w1 ⟨n, ok, rfl, hn, hv, b1⟩
      have hF : Hid (sigOf s.data.toList = if ok then some (n : Int) else none) := Lib.hid (by rw [hS.out, hv]; cases ok <;> rfl)
      clear HV hS hv
      go_wp2_with fail
      go_ret2
      exact ⟨n, ok, rfl, by omega, by omega, hF.out, b1⟩
  · have hn : s.data.toList = [] := List.eq_nil_of_length_eq_zero (by rw [size_data]; omega)
    have hS : Hid (sigOf s.data.toList = match valOf s.data.toList with | some n => some (n : Int) | none => none) := Lib.hid (by
      rw [hn, valOf_len (Or.inl (by simp))]
      rfl)
    have HV := Lib.hid (fun w => spec_value s hs w)
    clear hn
    go_enter Tryd.func82, Tryd.ntmps82
    go_wp2_with fail
    refine (HV.out _).mono ?_
    rintro e w1 ⟨n, ok, rfl, hn, hv, b1⟩
    have hF : Hid (sigOf s.data.toList = if ok then some (n : Int) else none) := Lib.hid (by rw [hS.out, hv]; cases ok <;> rfl)
    clear HV hS hv
    go_wp2_with fail
    go_ret2
    exact ⟨n, ok, rfl, by omega, by omega, hF.out, b1⟩

/-! ### The plain law -/
/-- The first k texts are the numerals of xs. -/
def NumsTo (ss : List ByteArray) (k : Nat) (xs : List Int) : Prop := ss.take k = nums xs
theorem numsTo_zero (ss : List ByteArray) : NumsTo ss 0 [] := rfl
theorem numsTo_len {ss : List ByteArray} {k : Nat} {xs : List Int} (h : NumsTo ss k xs) (hk : k ≤ ss.length) : xs.length = k := by
  have := congrArg List.length h
  rw [List.length_take, nums_len] at this
  omega
theorem numsTo_succ {ss : List ByteArray} {k : Nat} {xs : List Int} {s : ByteArray} {v : Int} (h : NumsTo ss k xs) (hs : ss[k]? = some s) (hv : Lib.itoa v = s.data.toList) : NumsTo ss (k + 1) (xs ++ [v]) := by
  unfold NumsTo at *
  rw [List.take_add_one, hs, h]
  unfold nums
  rw [List.map_append]
  congr 1
  simp only [Option.toList, List.map_cons, List.map_nil, List.cons.injEq, and_true]
  exact bytes_inj (by unfold itoB; rw [mkB_data, hv])
/-- The texts are the numerals of values. -/
def NumOk (ss : List ByteArray) (xs : List Int) : Prop := ss = nums xs ∧ valsC xs = 0
theorem nums_inj {xs ys : List Int} (h : nums xs = nums ys) : xs = ys := by
  unfold nums at h
  refine (List.map_inj_right fun a b e => ?_).1 h
  unfold itoB at e
  have := congrArg (fun x : ByteArray => x.data.toList) e
  simp only [mkB_data] at this
  exact itoa_inj this
theorem numOk_one {ss : List ByteArray} {xs ys : List Int} (h : NumOk ss xs) (g : NumOk ss ys) : xs = ys := nums_inj (by rw [← h.1, ← g.1])
theorem numOk_at {ss : List ByteArray} {xs : List Int} (h : NumOk ss xs) {k : Nat} {s : ByteArray} (hs : ss[k]? = some s) : ∃ x, Lib.itoa x = s.data.toList ∧ -1000000000000 ≤ x ∧ x ≤ 1000000000000 := by
  have h1 := h.1
  rw [h1] at hs
  unfold nums at hs
  rw [List.getElem?_map] at hs
  cases hx : xs[k]? with
  | none => rw [hx] at hs; cases hs
  | some x =>
    rw [hx] at hs
    injection hs with hs
    have hb := (valsF_of h.2).1 x (List.mem_of_getElem? hx)
    refine ⟨x, ?_, hb⟩
    rw [← hs]
    unfold itoB
    rw [mkB_data]
theorem noSig {ss : List ByteArray} {k : Nat} {s : ByteArray} (hs : ss[k]? = some s) (h : sigOf s.data.toList = none) : ∀ xs, ¬ NumOk ss xs := fun xs hx => by
  obtain ⟨x, h1, h2, h3⟩ := numOk_at hx hs
  have := sigOf_iff.2 ⟨h1, by omega, by omega⟩
  rw [h] at this
  cases this
theorem noDec {ss : List ByteArray} {k : Nat} {s : ByteArray} (hs : ss[k]? = some s) (h : decOf s.data.toList = none) : ∀ xs, ¬ NumOk ss xs := fun xs hx => by
  obtain ⟨x, h1, h2, h3⟩ := numOk_at hx hs
  have := decOf_iff.2 ⟨h1, by omega, by omega⟩
  rw [h] at this
  cases this
theorem numsTo_all {ss : List ByteArray} {k : Nat} {xs : List Int} (h : NumsTo ss k xs) (hk : ss.length ≤ k) : ss = nums xs := by
  unfold NumsTo at h
  rw [List.take_of_length_le hk] at h
  exact h
theorem noVals {ss : List ByteArray} {xs : List Int} (h : ss = nums xs) (hc : valsC xs ≠ 0) : ∀ ys, ¬ NumOk ss ys := fun ys hy => by
  have : xs = ys := nums_inj (by rw [← h, ← hy.1])
  subst this
  exact hc hy.2
/-- What ReadList hands back. -/
def RdL (s : ByteArray) (w : World) (e : Ending) (w' : World) : Prop :=
  ∃ (v : Value) (xs : List Int) (c : Int), e = .returned (.tuple #[v, .int .i64 c]) ∧ OwnJ w.heap.size v xs w' ∧ Below w.heap.size w w' ∧
    ((s.data.toList = [45] ∧ xs = [] ∧ c = 0) ∨ (¬ s.data.toList = [45] ∧ NumOk (pcs 44 s) xs ∧ c = 0) ∨ (¬ s.data.toList = [45] ∧ (∀ ys, ¬ NumOk (pcs 44 s) ys) ∧ xs = [] ∧ c = 6))
theorem nilJ (base : Nat) (w : World) : OwnJ base (.slice none 0 0) [] w := ⟨rfl, Or.inl ⟨rfl, rfl⟩⟩
end Go.Proofs.YtimjjednfhnbbaaDoor
