/-
  The plain law of the texts: decimal numerals read and written, texts cut at a byte and joined again.
  Conditions: each lemma names its own; no program is in sight.
-/
import Derived.Lib.ItoaNum
import Derived.Lib.ItoaMem
import Derived.Lib.ItoaLen
import Derived.Lib.Atoi
import Derived.Lib.ParseIntBCases
import Derived.Lib.SplitLaws
import Derived.Lib.Join
namespace Go.Proofs.YtibfpajblcfobaaDoor
open Go.Lib
set_option linter.unusedVariables false

/-! ### Numerals -/
theorem digit_val {k : Nat} (h : k < 10) : digitVal (UInt8.ofNat (48 + k)) = some k := by
  rcases (show k = 0 ∨ k = 1 ∨ k = 2 ∨ k = 3 ∨ k = 4 ∨ k = 5 ∨ k = 6 ∨ k = 7 ∨ k = 8 ∨ k = 9 by omega) with rfl | rfl | rfl | rfl | rfl | rfl | rfl | rfl | rfl | rfl <;> decide
theorem digit_of {b : UInt8} {d : Nat} (h : digitVal b = some d) : d < 10 ∧ b = UInt8.ofNat (48 + d) := by
  obtain ⟨h1, h2, h3⟩ := digitVal_eq h
  refine ⟨by omega, ?_⟩
  rw [show 48 + d = b.toNat by omega, UInt8.ofNat_toNat]
theorem digit_none {b : UInt8} (h : ¬ (48 ≤ b.toNat ∧ b.toNat ≤ 57)) : digitVal b = none := by unfold digitVal; rw [if_neg h]
theorem digit_some {b : UInt8} (h1 : 48 ≤ b.toNat) (h2 : b.toNat ≤ 57) : digitVal b = some (b.toNat - 48) := by unfold digitVal; rw [if_pos ⟨h1, h2⟩]
theorem decFrom_append : ∀ (a b : List UInt8) (acc : Nat), decFrom acc (a ++ b) = (decFrom acc a).bind fun n => decFrom n b
  | [], b, acc => by simp [decFrom]
  | c :: a, b, acc => by
    rw [List.cons_append, decFrom, decFrom]
    cases digitVal c with
    | none => rfl
    | some d => exact decFrom_append a b _
theorem decDigits_big {n : Nat} (h : ¬ n < 10) : decDigits n = decDigits (n / 10) ++ [UInt8.ofNat (48 + n % 10)] := by rw [decDigits, dif_neg h]
theorem decFrom_decDigits (n : Nat) : decFrom 0 (decDigits n) = some n := by
  induction n using Nat.strongRecOn with
  | _ n ih =>
    by_cases h : n < 10
    · rw [decDigits_one h, decFrom, digit_val h]
      simp [decFrom]
    · rw [decDigits_big h, decFrom_append, ih (n / 10) (by omega)]
      rw [Option.bind_some, decFrom, digit_val (by omega)]
      simp only [decFrom, Option.some.injEq]
      omega
theorem decDigits_ne (n : Nat) : decDigits n ≠ [] := by
  intro h
  have := decDigits_length n
  rw [h] at this
  have := nDigits_pos n
  simp at *
  omega
/-- All are digits. -/
def Digs (l : List UInt8) : Prop := ∀ c ∈ l, 48 ≤ c.toNat ∧ c.toNat ≤ 57
theorem digs_decDigits (n : Nat) : Digs (decDigits n) := by
  intro c hc
  obtain ⟨k, hk, rfl⟩ := List.getElem_of_mem hc
  obtain ⟨d, hd⟩ := digit_of_decFrom _ 0 n (decFrom_decDigits n) k _ (List.getElem?_eq_getElem hk)
  have := digitVal_eq hd
  omega
theorem nDigits_le : ∀ (k n : Nat), 1 ≤ k → n < 10 ^ k → nDigits n ≤ k
  | 0, n, h, _ => absurd h (by omega)
  | k + 1, n, _, h => by
    by_cases hn : n < 10
    · rw [nDigits_small hn]; omega
    · rw [nDigits_big hn]
      rcases Nat.eq_zero_or_pos k with h0 | h0
      · subst h0; simp at h; omega
      · have := nDigits_le k (n / 10) h0 (by rw [Nat.pow_succ] at h; omega)
        omega
theorem decDigits_len_le {k n : Nat} (hk : 1 ≤ k) (h : n < 10 ^ k) : (decDigits n).length ≤ k := by rw [decDigits_length]; exact nDigits_le k n hk h
theorem decDigits_lt {k n : Nat} (h : (decDigits n).length ≤ k) : n < 10 ^ k := by
  rw [decDigits_length] at h
  exact Nat.lt_of_lt_of_le (lt_pow_nDigits n) (Nat.pow_le_pow_right (by omega) h)
theorem decDigits_inj {a b : Nat} (h : decDigits a = decDigits b) : a = b := by
  have h1 := decFrom_decDigits a
  rw [h, decFrom_decDigits b] at h1
  injection h1 with h1
  exact h1.symm

/-- The number whose numeral this is. -/
def natOf (l : List UInt8) : Option Nat := match decFrom 0 l with
  | some n => if decDigits n = l then some n else none
  | none => none
theorem natOf_iff {l : List UInt8} {n : Nat} : natOf l = some n ↔ decDigits n = l := by
  constructor
  · intro h
    unfold natOf at h
    split at h
    · split at h
      · injection h with h; subst h; assumption
      · cases h
    · cases h
  · rintro rfl
    unfold natOf
    rw [decFrom_decDigits]
    simp
/-- With at most thirteen digits. -/
def valOf (l : List UInt8) : Option Nat := if l.length ≤ 13 then natOf l else none
theorem valOf_iff {l : List UInt8} {n : Nat} : valOf l = some n ↔ decDigits n = l ∧ n < 10000000000000 := by
  unfold valOf
  constructor
  · intro h
    split at h
    · have h1 := natOf_iff.1 h
      refine ⟨h1, ?_⟩
      subst h1
      have := decDigits_lt (k := 13) (by assumption)
      omega
    · cases h
  · rintro ⟨rfl, h⟩
    have := decDigits_len_le (k := 13) (n := n) (by omega) (by omega)
    rw [if_pos this]
    exact natOf_iff.2 rfl
theorem valOf_decDigits {n : Nat} (h : n < 10000000000000) : valOf (decDigits n) = some n := valOf_iff.2 ⟨rfl, h⟩
/-- What l01Signed reads. -/
def sigOf (l : List UInt8) : Option Int := match l with
  | [] => none
  | c :: r => if c = 45 then (match valOf r with | some n => if 0 < n then some (-(n : Int)) else none | none => none) else (match valOf (c :: r) with | some n => some (n : Int) | none => none)
theorem digs_head {l : List UInt8} (h : Digs l) {c : UInt8} {r : List UInt8} (e : l = c :: r) : c ≠ 45 ∧ c ≠ 43 := by
  subst e
  have := h c (by simp)
  constructor <;> (rintro rfl; simp at this)
theorem itoa_pos {v : Int} (h : ¬ v < 0) : itoa v = decDigits v.toNat := by unfold itoa; rw [if_neg h]
theorem itoa_neg' {v : Int} (h : v < 0) : itoa v = 45 :: decDigits v.natAbs := by unfold itoa; rw [if_pos h]
theorem sigOf_iff {l : List UInt8} {v : Int} : sigOf l = some v ↔ itoa v = l ∧ -10000000000000 < v ∧ v < 10000000000000 := by
  unfold sigOf
  cases l with
  | nil =>
    simp only [reduceCtorEq, false_iff, not_and]
    intro h
    exfalso
    unfold itoa at h
    split at h
    · cases h
    · exact decDigits_ne _ h
  | cons c r =>
    simp only
    by_cases hc : c = 45
    · subst hc
      rw [if_pos rfl]
      constructor
      · intro h
        split at h
        · rename_i n hn
          obtain ⟨h1, h2⟩ := valOf_iff.1 hn
          split at h
          · injection h with h
            subst h
            rw [itoa_neg' (by omega)]
            refine ⟨by rw [← h1]; simp, by omega, by omega⟩
          · cases h
        · cases h
      · rintro ⟨h, h1, h2⟩
        by_cases hv : v < 0
        · rw [itoa_neg' hv] at h
          injection h with _ h
          have hn : valOf r = some v.natAbs := valOf_iff.2 ⟨h, by omega⟩
          rw [hn]
          simp only
          rw [if_pos (by omega)]
          congr 1
          omega
        · rw [itoa_pos hv] at h
          exact absurd rfl (digs_head (digs_decDigits v.toNat) h).1
    · rw [if_neg hc]
      constructor
      · intro h
        split at h
        · rename_i n hn
          obtain ⟨h1, h2⟩ := valOf_iff.1 hn
          injection h with h
          subst h
          rw [itoa_pos (by omega)]
          exact ⟨by simpa using h1, by omega, by omega⟩
        · cases h
      · rintro ⟨h, h1, h2⟩
        by_cases hv : v < 0
        · rw [itoa_neg' hv] at h
          injection h with h _
          exact absurd h.symm hc
        · rw [itoa_pos hv] at h
          rw [valOf_iff.2 ⟨h, by omega⟩]
          simp only
          congr 1
          omega
theorem parseUint10_of : ∀ (l : List UInt8) (acc n : Nat), decFrom acc l = some n → n < 18446744073709551616 → acc ≤ n ∧ parseUint10 acc l = .ok n
  | [], acc, n, h, _ => by
    simp only [decFrom, Option.some.injEq] at h
    subst h
    exact ⟨Nat.le_refl _, rfl⟩
  | c :: r, acc, n, h, hn => by
    rw [decFrom] at h
    cases hd : digitVal c with
    | none => rw [hd] at h; cases h
    | some d =>
      rw [hd] at h
      obtain ⟨g1, g2⟩ := parseUint10_of r _ n h hn
      obtain ⟨k1, k2, k3⟩ := digitVal_eq hd
      refine ⟨by omega, ?_⟩
      rw [parseUint10, if_pos ⟨k1, k2⟩, if_neg (by omega), if_neg (by omega), ← k3]
      exact g2
/-- A row of digits is read as the number that it spells. -/
theorem parseInt_digs {l : List UInt8} {n : Nat} (hl : l ≠ []) (hd : Digs l) (h : decFrom 0 l = some n) (hn : n < 9223372036854775808) : parseIntB 64 l = .ok (n : Int) := by
  cases l with
  | nil => exact absurd rfl hl
  | cons c r =>
    have hc := hd c (by simp)
    rw [parseIntB_plain 64 c r (by omega) (by omega), parseUintB_64]
    unfold parseMag
    rw [if_neg (by simp), (parseUint10_of _ 0 n h (by omega)).2]
    unfold signlessC
    simp only
    rw [if_neg (by simp; omega)]
theorem parseInt_neg {l : List UInt8} {n : Nat} (hl : l ≠ []) (h : decFrom 0 l = some n) (hn : n ≤ 9223372036854775808) : parseIntB 64 (45 :: l) = .ok (-(n : Int)) := by
  rw [parseIntB_minus, parseUintB_64]
  unfold parseMag
  rw [if_neg hl, (parseUint10_of _ 0 n h (by omega)).2]
  unfold signedC
  simp only
  rw [if_neg (by simp; omega)]
theorem parseInt_itoa {v : Int} (h0 : -9223372036854775808 ≤ v) (h1 : v ≤ 9223372036854775807) : parseIntB 64 (itoa v) = .ok v := by
  by_cases hv : v < 0
  · rw [itoa_neg' hv, parseInt_neg (decDigits_ne _) (decFrom_decDigits _) (by omega)]
    congr 1
    omega
  · rw [itoa_pos hv, parseInt_digs (decDigits_ne _) (digs_decDigits _) (decFrom_decDigits _) (by omega)]
    congr 1
    omega
/-- What readDecimal reads. -/
def decOf (l : List UInt8) : Option Int := match parseIntB 64 l with
  | .ok v => if itoa v = l then some v else none
  | _ => none
theorem parse_bd {l : List UInt8} {v : Int} (h : parseIntB 64 l = .ok v) : -9223372036854775808 ≤ v ∧ v ≤ 9223372036854775807 := by
  cases l with
  | nil => cases h
  | cons c r =>
    by_cases h1 : c.toNat = 43
    · have : c = 43 := UInt8.toNat_inj.1 (by simpa using h1)
      subst this
      rw [parseIntB_plus] at h
      unfold signlessC at h
      split at h <;> try cases h
      split at h <;> try cases h
      simp at *
      omega
    · by_cases h2 : c.toNat = 45
      · have : c = 45 := UInt8.toNat_inj.1 (by simpa using h2)
        subst this
        rw [parseIntB_minus] at h
        unfold signedC at h
        split at h <;> try cases h
        split at h <;> try cases h
        simp at *
        omega
      · rw [parseIntB_plain 64 c r h1 h2] at h
        unfold signlessC at h
        split at h <;> try cases h
        split at h <;> try cases h
        simp at *
        omega
theorem decOf_iff {l : List UInt8} {v : Int} : decOf l = some v ↔ itoa v = l ∧ -9223372036854775808 ≤ v ∧ v ≤ 9223372036854775807 := by
  unfold decOf
  constructor
  · intro h
    split at h
    · rename_i u hu
      split at h
      · injection h with h
        subst h
        exact ⟨by assumption, parse_bd hu⟩
      · cases h
    · cases h
  · rintro ⟨rfl, h0, h1⟩
    rw [parseInt_itoa h0 h1]
    simp
theorem itoa_inj {a b : Int} (h : itoa a = itoa b) : a = b := by
  unfold itoa at h
  split at h <;> split at h
  · injection h with _ h
    have := decDigits_inj h
    omega
  · exact absurd rfl (digs_head (digs_decDigits _) h.symm).1
  · exact absurd rfl (digs_head (digs_decDigits _) h).1
  · have := decDigits_inj h
    omega

/-! ### Cutting and joining -/
/-- l cut at every c; acc stands ahead of it. -/
def cutGo (c : UInt8) : List UInt8 → List UInt8 → List (List UInt8)
  | acc, [] => [acc]
  | acc, b :: r => if b = c then acc :: cutGo c [] r else cutGo c (acc ++ [b]) r
def cutAt (c : UInt8) (l : List UInt8) : List (List UInt8) := cutGo c [] l
theorem cutGo_ne (c : UInt8) : ∀ (l acc : List UInt8), cutGo c acc l ≠ []
  | [], acc => by simp [cutGo]
  | b :: r, acc => by
    rw [cutGo]
    split
    · simp
    · exact cutGo_ne c r _
theorem cutGo_no (c : UInt8) : ∀ (l acc : List UInt8), ¬ c ∈ l → cutGo c acc l = [acc ++ l]
  | [], acc, _ => by simp [cutGo]
  | b :: r, acc, h => by
    rw [cutGo, if_neg (fun e => h (by simp [e])), cutGo_no c r _ (fun hr => h (by simp [hr]))]
    simp
theorem cutGo_at (c : UInt8) : ∀ (a b acc : List UInt8), ¬ c ∈ a → cutGo c acc (a ++ c :: b) = (acc ++ a) :: cutGo c [] b
  | [], b, acc, _ => by simp [cutGo]
  | x :: a, b, acc, h => by
    rw [List.cons_append, cutGo, if_neg (fun e => h (by simp [e])), cutGo_at c a b _ (fun hr => h (by simp [hr]))]
    simp
theorem join_cons_ne {x : List UInt8} {r : List (List UInt8)} (h : r ≠ []) (sep : List UInt8) : join (x :: r) sep = x ++ sep ++ join r sep := by
  cases r with
  | nil => exact absurd rfl h
  | cons y r => rw [join_cons, join_cons, joinTail, List.map_cons, List.flatten_cons, ← joinTail, List.append_assoc, List.append_assoc]
/-- Joined again it is the text. -/
theorem join_cutGo (c : UInt8) : ∀ (l acc : List UInt8), join (cutGo c acc l) [c] = acc ++ l
  | [], acc => by rw [cutGo, join_one]; simp
  | b :: r, acc => by
    rw [cutGo]
    split
    · rename_i h
      rw [join_cons_ne (cutGo_ne c r _), join_cutGo c r]
      simp [h]
    · rw [join_cutGo c r]
      simp
theorem join_cut (c : UInt8) (l : List UInt8) : join (cutAt c l) [c] = l := by unfold cutAt; rw [join_cutGo]; rfl
theorem cut_join (c : UInt8) : ∀ (xs : List (List UInt8)), xs ≠ [] → (∀ x ∈ xs, ¬ c ∈ x) → cutAt c (join xs [c]) = xs
  | [], h, _ => absurd rfl h
  | [x], _, h => by rw [join_one, cutAt, cutGo_no c x [] (h x (by simp))]; simp
  | x :: y :: r, _, h => by
    rw [join_cons_ne (by simp), cutAt, List.append_assoc, List.singleton_append, cutGo_at c x _ [] (h x (by simp))]
    have := cut_join c (y :: r) (by simp) (fun z hz => h z (by simp [hz]))
    rw [cutAt] at this
    rw [this]
    simp
theorem cut_mem (c : UInt8) : ∀ (l acc : List UInt8), ¬ c ∈ acc → ∀ x ∈ cutGo c acc l, ¬ c ∈ x
  | [], acc, h, x, hx => by simp [cutGo] at hx; subst hx; exact h
  | b :: r, acc, h, x, hx => by
    rw [cutGo] at hx
    split at hx
    · rcases List.mem_cons.1 hx with rfl | hx
      · exact h
      · exact cut_mem c r [] (by simp) x hx
    · rename_i hb
      exact cut_mem c r _ (by simp [h]; exact fun e => hb e.symm) x hx
theorem cut_len (c : UInt8) : ∀ (l acc : List UInt8), (cutGo c acc l).length ≤ l.length + 1
  | [], acc => by simp [cutGo]
  | b :: r, acc => by
    rw [cutGo]
    split
    · have := cut_len c r []
      simp; omega
    · have := cut_len c r (acc ++ [b])
      simp; omega
theorem cut_sum (c : UInt8) (l acc : List UInt8) : ∀ x ∈ cutGo c acc l, x.length ≤ acc.length + l.length := by
  induction l generalizing acc with
  | nil => intro x hx; simp [cutGo] at hx; subst hx; simp
  | cons b r ih =>
    intro x hx
    rw [cutGo] at hx
    split at hx
    · rcases List.mem_cons.1 hx with rfl | hx
      · omega
      · have := ih [] x hx
        simp at *
        omega
    · have := ih _ x hx
      simp at *
      omega
theorem index_one (c : UInt8) : ∀ l : List UInt8, (¬ c ∈ l ∧ index l [c] = -1) ∨ ∃ a b, l = a ++ c :: b ∧ ¬ c ∈ a ∧ index l [c] = (a.length : Int)
  | [] => Or.inl ⟨by simp, by simp [index]⟩
  | x :: l => by
    by_cases hx : x = c
    · subst hx
      exact Or.inr ⟨[], l, rfl, by simp, by rw [index]; simp [List.isPrefixOf]⟩
    · have hp : ([c] : List UInt8).isPrefixOf (x :: l) = false := by simp [List.isPrefixOf, Ne.symm hx]
      have hix : index (x :: l) [c] = if index l [c] == -1 then -1 else index l [c] + 1 := by rw [index, hp]; simp
      rcases index_one c l with ⟨h1, h2⟩ | ⟨a, b, h1, h2, h3⟩
      · left
        refine ⟨by simp [h1]; exact fun e => hx e.symm, ?_⟩
        rw [hix, h2]
        rfl
      · right
        refine ⟨x :: a, b, by rw [h1]; rfl, by simp [h2]; exact fun e => hx e.symm, ?_⟩
        rw [hix, h3, if_neg (by simp)]
        simp
/-- The library's way of cutting is the same. -/
theorem splitK_cut (c : UInt8) : ∀ (k : Nat) (l : List UInt8), count l [c] = k → splitK [c] 0 k l = cutAt c l := by
  intro k
  induction k with
  | zero =>
    intro l h
    rcases index_one c l with ⟨h1, _⟩ | ⟨a, b, h1, _, h3⟩
    · rw [splitK, cutAt, cutGo_no c l [] h1]
      simp
    · rw [count_hit (by simp) h3] at h
      omega
  | succ k ih =>
    intro l h
    rcases index_one c l with ⟨h1, h2⟩ | ⟨a, b, h1, h2, h3⟩
    · rw [count_miss h2] at h
      omega
    · have h4 := count_hit (s := l) (sub := [c]) (by simp) h3
      have e : l.drop (a.length + 1) = b := by rw [h1]; simp
      have e' : l.drop (a.length + [c].length) = b := e
      rw [e'] at h4
      rw [splitK, h3, if_neg (by simp)]
      have e2 : ((a.length : Int)).toNat = a.length := by omega
      rw [e2, e', ih b (by omega)]
      have h5 : cutAt c l = a :: cutAt c b := by
        rw [cutAt, h1, cutGo_at c a b [] h2]
        simp [cutAt]
      rw [h5, h1]
      simp
theorem split_cut (c : UInt8) (s : ByteArray) : (splitB ⟨#[c]⟩ 0 (countB s ⟨#[c]⟩) s).map (·.data.toList) = cutAt c s.data.toList := by
  rw [splitB_data]
  exact splitK_cut c _ _ rfl

theorem join_take_succ (xs : List (List UInt8)) (sep : List UInt8) (k : Nat) (y : List UInt8) (h : xs[k]? = some y) :
    join (xs.take (k + 1)) sep = if k = 0 then y else join (xs.take k) sep ++ sep ++ y := by
  cases xs with
  | nil => simp at h
  | cons x r =>
    cases k with
    | zero =>
      simp at h
      subst h
      simp [join_one]
    | succ j =>
      rw [if_neg (by omega), List.take_succ_cons, List.take_succ_cons, join_cons, join_cons, joinTail_take_succ sep r j y (by simpa using h)]
      simp
theorem join_take_le (xs : List (List UInt8)) (sep : List UInt8) (k : Nat) : (join (xs.take k) sep).length ≤ (join xs sep).length := by
  cases xs with
  | nil => simp
  | cons x r =>
    cases k with
    | zero => simp [join_nil]
    | succ j =>
      have := joinTail_take_le sep r j
      rw [List.take_succ_cons, join_cons, join_cons, List.length_append, List.length_append]
      omega
theorem lens_le {xs : List (List UInt8)} {m : Nat} (h : ∀ x ∈ xs, x.length ≤ m) : lens xs ≤ m * xs.length := by
  induction xs with
  | nil => simp [lens]
  | cons x r ih =>
    have h1 := h x (by simp)
    have h2 := ih (fun y hy => h y (by simp [hy]))
    have e : lens (x :: r) = x.length + lens r := by simp [lens]
    rw [e, List.length_cons, Nat.mul_succ]
    omega
theorem join_len_le {xs : List (List UInt8)} {m : Nat} (sep : List UInt8) (h : ∀ x ∈ xs, x.length ≤ m) : (join xs sep).length ≤ (m + sep.length) * xs.length := by
  cases xs with
  | nil => simp [join_nil]
  | cons x r =>
    have h1 := h x (by simp)
    have h2 := lens_le (fun y hy => h y (by simp [hy]) : ∀ y ∈ r, y.length ≤ m)
    rw [join_cons, List.length_append, joinTail_length, List.length_cons, Nat.add_mul, Nat.mul_succ, Nat.mul_succ]
    omega
end Go.Proofs.YtibfpajblcfobaaDoor
