/-
  The plain mathematics of court days: no program in sight. What the next, the n-th, the last court day is; how many there are; the longest break.
  Conditions: each lemma names its own.
-/
import Derived.Test.YtiphankcngclfaaRises
namespace Go.Proofs.Ytiphankcngclfaa

def courtB (xs : List Int) (d : Int) : Bool := decide (d % 7 < 5) && !decide (d ∈ xs)
def dayB (d : Int) : Bool := decide (0 ≤ d) && decide (d ≤ 20000)
/-- The code of holidays and days. -/
def dcode (xs ds : List Int) : Int := if holB xs = true then (if ds.all dayB = true then 0 else 2) else 1

theorem dcode_cases (xs ds : List Int) : dcode xs ds = 0 ∨ dcode xs ds = 1 ∨ dcode xs ds = 2 := by
  unfold dcode
  split
  · split
    · exact .inl rfl
    · exact .inr (.inr rfl)
  · exact .inr (.inl rfl)
theorem dcode_ok {xs ds : List Int} : dcode xs ds = 0 ↔ holB xs = true ∧ ∀ d ∈ ds, 0 ≤ d ∧ d ≤ 20000 := by
  unfold dcode
  by_cases h : holB xs = true
  · rw [if_pos h]
    by_cases g : ds.all dayB = true
    · rw [if_pos g]
      simp only [h, true_and, true_iff]
      intro d hd
      have := List.all_eq_true.1 g d hd
      unfold dayB at this
      simpa using this
    · rw [if_neg g]
      constructor
      · intro h; exact absurd h (by omega)
      · rintro ⟨_, k⟩
        refine absurd (List.all_eq_true.2 fun d hd => ?_) g
        have := k d hd
        unfold dayB
        simp [this.1, this.2]
  · rw [if_neg h]
    simp [h]
theorem dcode_hol {xs ds : List Int} (h : holB xs = false) : dcode xs ds = 1 := by unfold dcode; rw [if_neg (by simp [h])]
theorem dcode_bad {xs ds : List Int} (h : holB xs = true) {d : Int} (hd : d ∈ ds) (hb : ¬ (0 ≤ d ∧ d ≤ 20000)) : dcode xs ds = 2 := by
  unfold dcode
  rw [if_pos h, if_neg]
  intro g
  have := List.all_eq_true.1 g d hd
  unfold dayB at this
  exact hb (by simpa using this)
theorem dcode_twice (xs : List Int) (d : Int) : dcode xs [d, d] = dcode xs [d] := by unfold dcode; simp

/-- Every holiday is a day. -/
theorem hol_days {xs : List Int} (h : holB xs = true) : ∀ x ∈ xs, 0 ≤ x ∧ x ≤ 20000 := by
  intro x hx
  unfold holB at h
  simp only [Bool.and_eq_true] at h
  obtain ⟨k, hk, rfl⟩ := List.getElem_of_mem hx
  have := allB_all h.2 k hk
  unfold risesAt at this
  simp only [List.getD_eq_getElem?_getD, List.getElem?_eq_getElem hk, Option.getD_some, Bool.and_eq_true, decide_eq_true_eq] at this
  exact ⟨this.1, this.2.1⟩

/-- r is the first court day that is not before d. -/
def NextIs (xs : List Int) (d r : Int) : Prop := d ≤ r ∧ courtB xs r = true ∧ ∀ t, d ≤ t → t < r → courtB xs t = false
theorem next_unique {xs : List Int} {d r r' : Int} (h : NextIs xs d r) (g : NextIs xs d r') : r = r' := by
  rcases Int.lt_trichotomy r r' with hh | hh | hh
  · have := g.2.2 r h.1 hh; rw [h.2.1] at this; cases this
  · exact hh
  · have := h.2.2 r' g.1 hh; rw [g.2.1] at this; cases this

theorem next_within (xs : List Int) (d : Int) : ∀ (n : Nat) (s : Int), d ≤ s → s ≤ d + n → courtB xs s = true → ∃ r, NextIs xs d r ∧ r ≤ d + n := by
  intro n
  induction n generalizing d with
  | zero =>
    intro s h1 h2 h3
    obtain rfl : s = d := by omega
    exact ⟨s, ⟨Int.le_refl _, h3, fun t a b => absurd a (by omega)⟩, by omega⟩
  | succ n ih =>
    intro s h1 h2 h3
    by_cases hd : courtB xs d = true
    · exact ⟨d, ⟨Int.le_refl _, hd, fun t a b => absurd a (by omega)⟩, by omega⟩
    · have hs : d + 1 ≤ s := by
        rcases Int.lt_or_le d s with hh | hh
        · omega
        · obtain rfl : s = d := by omega
          exact absurd h3 hd
      obtain ⟨r, hr, hb⟩ := ih (d + 1) s hs (by omega) h3
      refine ⟨r, ⟨by have := hr.1; omega, hr.2.1, fun t a b => ?_⟩, by omega⟩
      rcases Int.lt_or_le d t with hh | hh
      · exact hr.2.2 t (by omega) b
      · obtain rfl : t = d := by omega
        simpa using hd

theorem court_late {xs : List Int} (h : ∀ x ∈ xs, 0 ≤ x ∧ x ≤ 20000) (s : Int) (hs : 20000 < s) (hm : s % 7 < 5) : courtB xs s = true := by
  unfold courtB
  have : s ∉ xs := fun hx => by have := h s hx; omega
  simp [hm, this]

theorem next_exists {xs : List Int} (h : holB xs = true) (d : Int) (h0 : 0 ≤ d) : ∃ r, NextIs xs d r ∧ r ≤ max d 20001 + 2 := by
  have hx := hol_days h
  have key : ∀ s : Int, max d 20001 ≤ s → s ≤ max d 20001 + 2 → s % 7 < 5 → ∃ r, NextIs xs d r ∧ r ≤ max d 20001 + 2 := by
    intro s h1 h2 h3
    obtain ⟨r, hr, hb⟩ := next_within xs d (s - d).toNat s (by omega) (by omega) (court_late hx s (by omega) h3)
    exact ⟨r, hr, by omega⟩
  by_cases h1 : max d 20001 % 7 < 5
  · exact key _ (Int.le_refl _) (by omega) h1
  · by_cases h2 : (max d 20001 + 1) % 7 < 5
    · exact key _ (by omega) (by omega) h2
    · exact key (max d 20001 + 2) (by omega) (by omega) (by omega)

/-- The first court day that is not before d. -/
noncomputable def nextC (xs : List Int) (d : Int) : Int := Classical.epsilon (NextIs xs d)
theorem nextC_is {xs : List Int} (h : holB xs = true) {d : Int} (h0 : 0 ≤ d) : NextIs xs d (nextC xs d) := by
  obtain ⟨r, hr, _⟩ := next_exists h d h0
  exact Classical.epsilon_spec ⟨r, hr⟩
theorem nextC_le {xs : List Int} (h : holB xs = true) {d : Int} (h0 : 0 ≤ d) : d ≤ nextC xs d ∧ nextC xs d ≤ max d 20001 + 2 := by
  obtain ⟨r, hr, hb⟩ := next_exists h d h0
  have := next_unique hr (nextC_is h h0)
  subst this
  exact ⟨hr.1, hb⟩

/-- The n-th court day behind d. -/
noncomputable def addC (xs : List Int) (d : Int) : Nat → Int
  | 0 => d
  | n + 1 => nextC xs (addC xs d n + 1)
theorem addC_bd {xs : List Int} (h : holB xs = true) {d : Int} (h0 : 0 ≤ d) (h1 : d ≤ 20000) : ∀ n, d ≤ addC xs d n ∧ addC xs d n ≤ 20000 + 3 * n + (if n = 0 then 0 else 3) := by
  intro n
  induction n with
  | zero => simp [addC]; omega
  | succ n ih =>
    have := nextC_le h (d := addC xs d n + 1) (by omega)
    simp only [addC]
    split at ih <;> simp <;> omega
theorem addC_mono {xs : List Int} (h : holB xs = true) {d : Int} (h0 : 0 ≤ d) (h1 : d ≤ 20000) (n : Nat) : ∀ k, addC xs d n ≤ addC xs d (n + k) := by
  intro k
  induction k with
  | zero => exact Int.le_refl _
  | succ k ih =>
    have hb := (addC_bd h h0 h1 (n + k)).1
    have := (nextC_le h (d := addC xs d (n + k) + 1) (by omega)).1
    show _ ≤ nextC xs (addC xs d (n + k) + 1)
    omega

/-- How many court days there are among the k days from a on. -/
def cntC (xs : List Int) (a : Int) : Nat → Int
  | 0 => 0
  | k + 1 => cntC xs a k + (if courtB xs (a + k) = true then 1 else 0)
theorem cntC_bd (xs : List Int) (a : Int) : ∀ k : Nat, 0 ≤ cntC xs a k ∧ cntC xs a k ≤ k := by
  intro k
  induction k with
  | zero => simp [cntC]
  | succ k ih => simp only [cntC]; split <;> omega

/-- The last court day before day number k, with its code. -/
def lastC (xs : List Int) : Nat → Int × Int
  | 0 => (0, 4)
  | k + 1 => if courtB xs k = true then ((k : Int), 0) else lastC xs k

/-- The longest break after k days from a on: length now, first day, length. -/
def brkC (xs : List Int) (a : Int) : Nat → Int × Int × Int
  | 0 => (0, 0, 0)
  | k + 1 =>
    let len := if courtB xs (a + k) = true then 0 else (brkC xs a k).1 + 1
    if (brkC xs a k).2.2 < len then (len, a + k - len + 1, len) else (len, (brkC xs a k).2.1, (brkC xs a k).2.2)
theorem brkC_bd (xs : List Int) (a : Int) : ∀ k : Nat, 0 ≤ (brkC xs a k).1 ∧ (brkC xs a k).1 ≤ k ∧ 0 ≤ (brkC xs a k).2.2 ∧ (brkC xs a k).2.2 ≤ k := by
  intro k
  induction k with
  | zero => simp [brkC]
  | succ k ih =>
    simp only [brkC]
    split <;> split <;> simp <;> omega
end Go.Proofs.Ytiphankcngclfaa
