/-
  The plain law of cents: the two ways of reading find the number whose text it is.
  Conditions: each lemma names its own; no program is in sight.
-/
import Derived.Test.YtimjjednfhnbbaaDoorTxP
import Derived.Lib.IndexMore
namespace Go.Proofs.YtimjjednfhnbbaaDoor
open Go.Lib
set_option linter.unusedVariables false

/-- The text of n cents. -/
def monL (n : Nat) : List UInt8 := decDigits (n / 100) ++ [46] ++ decDigits (n / 10 % 10) ++ decDigits (n % 10)
/-- The text of cents. -/
def monZ (v : Int) : List UInt8 := if v < 0 then 45 :: monL v.natAbs else monL v.toNat
def smallZ (v : Int) : Prop := -1000000000000 ≤ v ∧ v ≤ 1000000000000

/-- What the reference does at each byte. -/
def stp (acc : List UInt8) (c : UInt8) : List UInt8 := if (48 ≤ c.toNat ∧ c.toNat ≤ 57) ∧ (acc ≠ [] ∨ c ≠ 48) then acc ++ [c] else acc
def readS (l : List UInt8) : Option Int :=
  match (if (l.take 20).foldl stp [] = [] then some 0 else valOf ((l.take 20).foldl stp [])) with
  | some n => some (if l.head? = some 45 then -(n : Int) else n)
  | none => none
theorem stp_no {acc : List UInt8} {c : UInt8} (h : ¬ (48 ≤ c.toNat ∧ c.toNat ≤ 57)) : stp acc c = acc := by unfold stp; rw [if_neg (fun e => h e.1)]
theorem foldl_stp : ∀ (D acc : List UInt8) (m n : Nat), Digs D → acc = (if m = 0 then [] else decDigits m) → decFrom m D = some n → D.foldl stp acc = if n = 0 then [] else decDigits n
  | [], acc, m, n, _, ha, h => by
    simp only [decFrom, Option.some.injEq] at h
    subst h
    exact ha
  | c :: r, acc, m, n, hD, ha, h => by
    have hc := hD c (by simp)
    rw [decFrom, digit_some hc.1 hc.2] at h
    rw [List.foldl_cons]
    refine foldl_stp r _ _ n (fun x hx => hD x (by simp [hx])) ?_ h
    have hcc : UInt8.ofNat (48 + (c.toNat - 48)) = c := by rw [show 48 + (c.toNat - 48) = c.toNat by omega, UInt8.ofNat_toNat]
    by_cases hm : m = 0
    · subst hm
      rw [if_pos rfl] at ha
      subst ha
      by_cases h48 : c = 48
      · subst h48
        decide
      · have : c.toNat ≠ 48 := fun e => h48 (UInt8.toNat_inj.1 (by simpa using e))
        unfold stp
        rw [if_pos ⟨hc, Or.inr h48⟩, if_neg (by omega), show 0 * 10 + (c.toNat - 48) = c.toNat - 48 by omega, decDigits_one (by omega), hcc]
        rfl
    · rw [if_neg hm] at ha
      subst ha
      unfold stp
      rw [if_pos ⟨hc, Or.inl (decDigits_ne m)⟩, if_neg (by omega), decDigits_big (n := m * 10 + (c.toNat - 48)) (by omega)]
      rw [show (m * 10 + (c.toNat - 48)) / 10 = m by omega, show (m * 10 + (c.toNat - 48)) % 10 = c.toNat - 48 by omega, hcc]
theorem digs_append {a b : List UInt8} (ha : Digs a) (hb : Digs b) : Digs (a ++ b) := by
  intro c hc
  rcases List.mem_append.1 hc with h | h
  · exact ha c h
  · exact hb c h
theorem decFrom_one (acc d : Nat) (h : d < 10) : decFrom acc (decDigits d) = some (acc * 10 + d) := by
  rw [decDigits_one h, decFrom, digit_val h]
  rfl
theorem mon_digits (n : Nat) : decFrom 0 (decDigits (n / 100) ++ decDigits (n / 10 % 10) ++ decDigits (n % 10)) = some n := by
  rw [decFrom_append, decFrom_append, decFrom_decDigits, Option.bind_some, decFrom_one _ _ (by omega), Option.bind_some, decFrom_one _ _ (by omega)]
  congr 1
  omega
theorem digs_mon (n : Nat) : Digs (decDigits (n / 100) ++ decDigits (n / 10 % 10) ++ decDigits (n % 10)) :=
  digs_append (digs_append (digs_decDigits _) (digs_decDigits _)) (digs_decDigits _)
theorem monL_fold (n : Nat) : (monL n).foldl stp [] = if n = 0 then [] else decDigits n := by
  have h := foldl_stp _ [] 0 n (digs_mon n) rfl (mon_digits n)
  rw [← h]
  unfold monL
  rw [List.foldl_append, List.foldl_append, List.foldl_append, List.foldl_append, List.foldl_append]
  congr 2
theorem monL_len {n : Nat} (h : n ≤ 1000000000000) : (monL n).length ≤ 14 := by
  unfold monL
  have h1 := decDigits_len_le (k := 11) (n := n / 100) (by omega) (by omega)
  have h2 := decDigits_len_le (k := 1) (n := n / 10 % 10) (by omega) (by omega)
  have h3 := decDigits_len_le (k := 1) (n := n % 10) (by omega) (by omega)
  simp only [List.length_append, List.length_cons, List.length_nil]
  omega
theorem monL_head (n : Nat) : (monL n).head? ≠ some 45 := by
  unfold monL
  cases hd : decDigits (n / 100) with
  | nil => exact absurd hd (decDigits_ne _)
  | cons c r =>
    simp only [List.cons_append, List.head?_cons, ne_eq, Option.some.injEq]
    exact (digs_head (digs_decDigits (n / 100)) hd).1
theorem readS_mon {v : Int} (h : smallZ v) : readS (monZ v) = some v := by
  have hs := h.1
  have hs2 := h.2
  have key : ∀ n : Nat, n ≤ 1000000000000 → (if (if n = 0 then ([] : List UInt8) else decDigits n) = [] then some 0 else valOf (if n = 0 then [] else decDigits n)) = some n := fun n hn => by
    by_cases h0 : n = 0
    · subst h0; rfl
    · rw [if_neg h0, if_neg (decDigits_ne n)]
      exact valOf_decDigits (by omega)
  unfold readS monZ
  by_cases hv : v < 0
  · rw [if_pos hv, List.take_of_length_le (by have := monL_len (n := v.natAbs) (by omega); simp; omega), List.foldl_cons, stp_no (by decide), monL_fold, key _ (by omega)]
    simp only [List.head?_cons, if_true]
    congr 1
    omega
  · rw [if_neg hv, List.take_of_length_le (by have := monL_len (n := v.toNat) (by omega); omega), monL_fold, key _ (by omega)]
    simp only [if_neg (monL_head v.toNat)]
    congr 1
    omega
theorem monZ_inj {a b : Int} (ha : smallZ a) (hb : smallZ b) (h : monZ a = monZ b) : a = b := by
  have h1 := readS_mon ha
  rw [h, readS_mon hb] at h1
  injection h1 with h1
  exact h1.symm

/-- What the program does: none where it stops before the number. -/
def readI (l : List UInt8) : Option Int :=
  let t := trimPrefix l [45]
  let c := cut t [46]
  if c.2.2 = true ∧ c.2.1.length = 2 ∧ c.1.length ≤ 15 then
    match parseIntB 64 (c.1 ++ c.2.1) with
    | .ok n => some (if hasPrefix l [45] then -n else n)
    | _ => none
  else none
theorem cut_at (a b : List UInt8) (h : ¬ (46 : UInt8) ∈ a) : cut (a ++ 46 :: b) [46] = (a, b, true) := by
  rcases index_one 46 (a ++ 46 :: b) with ⟨h1, _⟩ | ⟨x, y, h1, h2, h3⟩
  · exact absurd (by simp) h1
  · have e1 := cutGo_at 46 a b [] h
    have e2 := cutGo_at 46 x y [] h2
    rw [h1, e2] at e1
    have hx : x = a := by simpa using (List.cons.inj e1).1
    subst hx
    unfold cut
    rw [h3, if_pos (by omega), show ((x.length : Int)).toNat = x.length by omega]
    simp
theorem monL_cut (n : Nat) : cut (monL n) [46] = (decDigits (n / 100), decDigits (n / 10 % 10) ++ decDigits (n % 10), true) := by
  have : monL n = decDigits (n / 100) ++ 46 :: (decDigits (n / 10 % 10) ++ decDigits (n % 10)) := by unfold monL; simp
  rw [this]
  exact cut_at _ _ (fun h => by have := digs_decDigits (n / 100) 46 h; simp at this)
theorem prefix_no {l : List UInt8} (h : l.head? ≠ some 45) : hasPrefix l [45] = false := by
  unfold hasPrefix
  cases l with
  | nil => rfl
  | cons c r =>
    simp only [List.head?_cons, ne_eq, Option.some.injEq] at h
    simp [List.isPrefixOf, Ne.symm h]
theorem prefix_yes (l : List UInt8) : hasPrefix (45 :: l) [45] = true := by simp [hasPrefix, List.isPrefixOf]
theorem parse_mon {n : Nat} (h : n ≤ 1000000000000) : parseIntB 64 (decDigits (n / 100) ++ (decDigits (n / 10 % 10) ++ decDigits (n % 10))) = .ok (n : Int) := by
  rw [← List.append_assoc]
  refine parseInt_digs ?_ (digs_mon n) (mon_digits n) (by omega)
  intro e
  have : decDigits (n % 10) = [] := (List.append_eq_nil_iff.1 e).2
  exact decDigits_ne _ this
theorem readI_mon {v : Int} (h : smallZ v) : readI (monZ v) = some v := by
  have hs := h.1
  have hs2 := h.2
  have key : ∀ n : Nat, n ≤ 1000000000000 → (decDigits (n / 10 % 10) ++ decDigits (n % 10)).length = 2 ∧ (decDigits (n / 100)).length ≤ 15 := fun n hn => by
    have h1 := decDigits_len_le (k := 11) (n := n / 100) (by omega) (by omega)
    refine ⟨?_, by omega⟩
    rw [decDigits_one (i := n / 10 % 10) (by omega), decDigits_one (i := n % 10) (by omega)]
    rfl
  unfold readI monZ
  by_cases hv : v < 0
  · have ht : trimPrefix (45 :: monL v.natAbs) [45] = monL v.natAbs := by unfold trimPrefix; rw [prefix_yes]; simp
    rw [if_pos hv]
    simp only [ht, monL_cut, prefix_yes, if_true]
    rw [if_pos ⟨trivial, key _ (by omega)⟩, parse_mon (by omega)]
    simp only
    congr 1
    omega
  · have hp := prefix_no (monL_head v.toNat)
    have ht : trimPrefix (monL v.toNat) [45] = monL v.toNat := by unfold trimPrefix; rw [hp]; simp
    rw [if_neg hv]
    simp only [ht, monL_cut, hp]
    rw [if_pos ⟨trivial, key _ (by omega)⟩, parse_mon (by omega)]
    simp
    omega
theorem parseUint10_dec : ∀ (l : List UInt8) (acc n : Nat), parseUint10 acc l = .ok n → decFrom acc l = some n
  | [], acc, n, h => by
    simp only [parseUint10] at h
    injection h with h
    rw [decFrom, h]
  | c :: r, acc, n, h => by
    rw [parseUint10] at h
    split at h
    · rename_i hc
      split at h
      · cases h
      · split at h
        · cases h
        · rw [decFrom, digit_some hc.1 hc.2]
          exact parseUint10_dec r _ n h
    · cases h
theorem parseMag_small {l : List UInt8} {n : Nat} (h : parseMag l = .ok n) (hl : l.length ≤ 17) : n < 100000000000000000 := by
  unfold parseMag at h
  split at h
  · cases h
  · have h1 := decFrom_lt _ 0 n (parseUint10_dec l 0 n h)
    have h2 := Nat.pow_le_pow_right (n := 10) (by decide) hl
    omega
theorem parse_small {l : List UInt8} {v : Int} (h : parseIntB 64 l = .ok v) (hl : l.length ≤ 17) : -100000000000000000 ≤ v ∧ v ≤ 100000000000000000 := by
  cases l with
  | nil => cases h
  | cons c r =>
    rw [List.length_cons] at hl
    by_cases h1 : c.toNat = 43
    · have : c = 43 := UInt8.toNat_inj.1 (by simpa using h1)
      subst this
      rw [parseIntB_plus, parseUintB_64] at h
      unfold signlessC at h
      split at h <;> try cases h
      rename_i u hu
      have := parseMag_small hu (by omega)
      split at h <;> try cases h
      omega
    · by_cases h2 : c.toNat = 45
      · have : c = 45 := UInt8.toNat_inj.1 (by simpa using h2)
        subst this
        rw [parseIntB_minus, parseUintB_64] at h
        unfold signedC at h
        split at h <;> try cases h
        rename_i u hu
        have := parseMag_small hu (by omega)
        split at h <;> try cases h
        omega
      · rw [parseIntB_plain 64 c r h1 h2, parseUintB_64] at h
        unfold signlessC at h
        split at h <;> try cases h
        rename_i u hu
        have := parseMag_small hu (by rw [List.length_cons]; omega)
        split at h <;> try cases h
        omega
end Go.Proofs.YtimjjednfhnbbaaDoor
