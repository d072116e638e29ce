/-
  What holds of breaks, of next days and of counted days, in plain words.
  Conditions: none of its own; every lemma names what it takes.
-/
import Derived.Test.YtiphankcngclfaaDayAll
namespace Go.Proofs.Ytiphankcngclfaa
set_option linter.unusedVariables false

/-- What is known of the longest break after k days. -/
structure BrkInv (xs : List Int) (a : Int) (k : Nat) (len F N : Int) : Prop where
  l0 : 0 ≤ len
  lk : len ≤ k
  run : ∀ d, a + k - len ≤ d → d < a + k → courtB xs d = false
  edge : len = k ∨ courtB xs (a + k - len - 1) = true
  nl : len ≤ N
  at_ : 0 < N → a ≤ F ∧ F + N ≤ a + k
  no : 0 < N → ∀ d, F ≤ d → d < F + N → courtB xs d = false
  left : 0 < N → F = a ∨ courtB xs (F - 1) = true
  right : 0 < N → F + N = a + k ∨ courtB xs (F + N) = true
theorem brk_inv (xs : List Int) (a : Int) : ∀ k : Nat, BrkInv xs a k (brkC xs a k).1 (brkC xs a k).2.1 (brkC xs a k).2.2 := by
  intro k
  induction k with
  | zero => exact ⟨by simp [brkC], by simp [brkC], by simp [brkC]; intro d h1 h2; omega, .inl (by simp [brkC]), by simp [brkC], by simp [brkC], by simp [brkC], by simp [brkC], by simp [brkC]⟩
  | succ k ih =>
    obtain ⟨l0, lk, run, edge, nl, at_, no, left, right⟩ := ih
    by_cases hc : courtB xs (a + k) = true
    · obtain ⟨e1, e2, e3⟩ := brk_court hc
      rw [e1, e2, e3]
      refine ⟨by omega, by omega, fun d h1 h2 => by omega, .inr ?_, by omega, fun h => by have := at_ h; omega, no, left, fun h => ?_⟩
      · rw [show a + ((k + 1 : Nat) : Int) - 0 - 1 = a + k by omega]; exact hc
      · rcases right h with h1 | h1
        · exact .inr (by rw [h1]; exact hc)
        · exact .inr h1
    · have hc' : courtB xs (a + k) = false := by simpa using hc
      by_cases hm : (brkC xs a k).2.2 < (brkC xs a k).1 + 1
      · have e := brk_more hc hm
        obtain ⟨e1, e2, e3⟩ := e
        rw [e1, e2, e3]
        generalize (brkC xs a k).1 = len at *
        generalize (brkC xs a k).2.1 = F at *
        generalize (brkC xs a k).2.2 = N at *
        have hrun : ∀ d, a + k - len ≤ d → d < a + ((k + 1 : Nat) : Int) → courtB xs d = false := fun d h1 h2 => by
          by_cases h : d = a + k
          · rw [h]; exact hc'
          · exact run d h1 (by omega)
        refine ⟨by omega, by omega, fun d h1 h2 => hrun d (by omega) h2, ?_, by omega, fun h => by omega, fun h d h1 h2 => hrun d (by omega) (by omega), fun h => ?_, fun h => .inl (by omega)⟩
        · rcases edge with h | h
          · exact .inl (by omega)
          · refine .inr ?_
            rw [show a + ((k + 1 : Nat) : Int) - (len + 1) - 1 = a + k - len - 1 by omega]
            exact h
        · rcases edge with h | h
          · exact .inl (by omega)
          · refine .inr ?_
            rw [show a + (k : Int) - (len + 1) + 1 - 1 = a + k - len - 1 by omega]
            exact h
      · have e := brk_same hc hm
        obtain ⟨e1, e2, e3⟩ := e
        rw [e1, e2, e3]
        generalize (brkC xs a k).1 = len at *
        generalize (brkC xs a k).2.1 = F at *
        generalize (brkC xs a k).2.2 = N at *
        refine ⟨by omega, by omega, fun d h1 h2 => ?_, ?_, by omega, fun h => by have := at_ h; omega, no, left, fun h => ?_⟩
        · by_cases h : d = a + k
          · rw [h]; exact hc'
          · exact run d (by omega) (by omega)
        · rcases edge with h | h
          · exact .inl (by omega)
          · refine .inr ?_
            rw [show a + ((k + 1 : Nat) : Int) - (len + 1) - 1 = a + k - len - 1 by omega]
            exact h
        · rcases right h with h1 | h1
          · exfalso
            rcases edge with g | g
            · have := at_ h; omega
            · by_cases q : len < N
              · have := no h (a + k - len - 1) (by omega) (by omega)
                rw [this] at g; cases g
              · omega
          · exact .inr h1

theorem cnt_add (xs : List Int) (a : Int) (k : Nat) : ∀ j : Nat, cntC xs a (k + j) = cntC xs a k + cntC xs (a + k) j := by
  intro j
  induction j with
  | zero => simp [cntC]
  | succ j ih =>
    show cntC xs a (k + j) + (if courtB xs (a + ((k + j : Nat) : Int)) = true then 1 else 0) = _
    rw [ih, cntC, show a + ((k + j : Nat) : Int) = a + k + j by omega]
    omega
theorem cnt_none {xs : List Int} {a : Int} : ∀ k : Nat, (∀ d, a ≤ d → d < a + k → courtB xs d = false) → cntC xs a k = 0 := by
  intro k
  induction k with
  | zero => intro _; rfl
  | succ k ih =>
    intro h
    rw [cntC, ih fun d h1 h2 => h d h1 (by omega), if_neg]
    · rfl
    · rw [h (a + k) (by omega) (by omega)]; simp
theorem cnt_one {xs : List Int} {a : Int} (k : Nat) (h : ∀ d, a + 1 ≤ d → d < a + (k + 1 : Nat) → courtB xs d = false) : cntC xs a (k + 1) = if courtB xs a = true then 1 else 0 := by
  rw [Nat.add_comm, cnt_add, cnt_none k fun d h1 h2 => h d (by omega) (by omega)]
  simp [cntC]
/-- What LastCourtDay finds. -/
theorem last_is (xs : List Int) : ∀ k : Nat, (lastC xs k).2 = 0 → 0 ≤ (lastC xs k).1 ∧ (lastC xs k).1 < k ∧ courtB xs (lastC xs k).1 = true ∧ ∀ d, (lastC xs k).1 < d → d < k → courtB xs d = false := by
  intro k
  induction k with
  | zero => intro h; simp [lastC] at h
  | succ k ih =>
    intro h
    by_cases hc : courtB xs k = true
    · rw [lastC, if_pos hc]
      exact ⟨by omega, by omega, hc, fun d h1 h2 => by simp at h1; omega⟩
    · rw [lastC, if_neg hc] at h ⊢
      obtain ⟨h1, h2, h3, h4⟩ := ih h
      refine ⟨h1, by omega, h3, fun d g1 g2 => ?_⟩
      by_cases e : d = k
      · rw [e]; simpa using hc
      · exact h4 d g1 (by omega)

/-- What holds of the longest break that is told. -/
theorem bk_ok {xs : List Int} {a b : Int} (h : (bkP xs a b).2.2 = 0) :
    dcode xs [a, b] = 0 ∧ (0 ≤ a ∧ b ≤ 20000) ∧ 0 < (bkP xs a b).2.1 ∧ a ≤ (bkP xs a b).1 ∧ (bkP xs a b).1 + (bkP xs a b).2.1 ≤ b + 1 ∧
    (∀ d, (bkP xs a b).1 ≤ d → d < (bkP xs a b).1 + (bkP xs a b).2.1 → courtB xs d = false) ∧ (a < (bkP xs a b).1 → courtB xs ((bkP xs a b).1 - 1) = true) ∧ ((bkP xs a b).1 + (bkP xs a b).2.1 ≤ b → courtB xs ((bkP xs a b).1 + (bkP xs a b).2.1) = true) := by
  unfold bkP at h ⊢
  by_cases q : dcode xs [a, b] = 0
  · rw [if_pos q] at h ⊢
    by_cases r : 0 ≤ b - a ∧ b - a ≤ 999
    · rw [if_pos r] at h ⊢
      by_cases p : (brkC xs a (b - a + 1).toNat).2.2 = 0
      · rw [if_pos p] at h; cases h
      · rw [if_neg p] at h ⊢
        have hi := brk_inv xs a (b - a + 1).toNat
        have hk : ((b - a + 1).toNat : Int) = b - a + 1 := by omega
        have hd := dcode_day2 q
        generalize (brkC xs a (b - a + 1).toNat).1 = len at *
        generalize (brkC xs a (b - a + 1).toNat).2.1 = F at *
        generalize (brkC xs a (b - a + 1).toNat).2.2 = N at *
        obtain ⟨l0, lk, run, edge, nl, at_, no, left, right⟩ := hi
        have hN : 0 < N := by omega
        have h1 := at_ hN
        refine ⟨q, ⟨hd.1.1, hd.2.2⟩, hN, h1.1, ?_, no hN, fun g => ?_, fun g => ?_⟩
        · show F + N ≤ b + 1; omega
        · rcases left hN with h | h
          · exfalso; have : a < F := g; omega
          · exact h
        · rcases right hN with h | h
          · exfalso; have : F + N ≤ b := g; omega
          · exact h
    · rw [if_neg r] at h; cases h
  · rw [if_neg q] at h; exact absurd h q
theorem dcode_sub {xs ds : List Int} (h : dcode xs ds = 0) {es : List Int} (he : ∀ d ∈ es, 0 ≤ d ∧ d ≤ 20000) : dcode xs es = 0 := dcode_ok.2 ⟨(dcode_ok.1 h).1, he⟩
theorem ct_zero {xs : List Int} {a b : Int} (h : dcode xs [a, b] = 0) (hab : a ≤ b) (hn : ∀ d, a ≤ d → d < b → courtB xs d = false) : ctP xs a b = (0, 0) := by
  unfold ctP
  rw [if_pos h, cnt_none _ fun d h1 h2 => hn d h1 (by omega)]
theorem ic_yes {xs : List Int} {d : Int} (h : dcode xs [d] = 0) (hc : courtB xs d = true) : icP xs d = true := by unfold icP; rw [if_pos h, hc]
theorem dl_ok {xs : List Int} {d n : Int} (h : (dlP xs d n).2 = 0) : dcode xs [(dlP xs d n).1] = 0 ∧ courtB xs (dlP xs d n).1 = true ∧ d + n ≤ (dlP xs d n).1 := by
  unfold dlP at h ⊢
  by_cases q : dcode xs [d] = 0
  · rw [if_pos q] at h ⊢
    by_cases r : 0 ≤ n ∧ n ≤ 1000
    · rw [if_pos r] at h ⊢
      by_cases p : nextC xs (d + n) ≤ 20000
      · rw [if_pos p] at h ⊢
        have hd := dcode_day q
        have hn := nextC_is (dcode_ok.1 q).1 (d := d + n) (by omega)
        exact ⟨dcode_sub q (by simp; have := hn.1; omega), hn.2.1, hn.1⟩
      · rw [if_neg p] at h; cases h
    · rw [if_neg r] at h; cases h
  · rw [if_neg q] at h; exact absurd h q
theorem nx_ok {xs : List Int} {d : Int} (h : (nxP xs d).2 = 0) : dcode xs [d] = 0 ∧ (nxP xs d).1 ≤ 20000 ∧ NextIs xs d (nxP xs d).1 := by
  unfold nxP at h ⊢
  by_cases q : dcode xs [d] = 0
  · rw [if_pos q] at h ⊢
    by_cases p : nextC xs d ≤ 20000
    · rw [if_pos p] at h ⊢
      have hd := dcode_day q
      exact ⟨q, p, nextC_is (dcode_ok.1 q).1 hd.1⟩
    · rw [if_neg p] at h; cases h
  · rw [if_neg q] at h; exact absurd h q
theorem ls_ok {xs : List Int} {d : Int} (h : (lsP xs d).2 = 0) : dcode xs [d] = 0 ∧ 0 ≤ (lsP xs d).1 ∧ (lsP xs d).1 ≤ d ∧ courtB xs (lsP xs d).1 = true ∧ ∀ t, (lsP xs d).1 < t → t ≤ d → courtB xs t = false := by
  unfold lsP at h ⊢
  by_cases q : dcode xs [d] = 0
  · rw [if_pos q] at h ⊢
    have hd := dcode_day q
    obtain ⟨h1, h2, h3, h4⟩ := last_is xs _ h
    exact ⟨q, h1, by omega, h3, fun t g1 g2 => h4 t g1 (by omega)⟩
  · rw [if_neg q] at h; exact absurd h q
theorem ct_last {xs : List Int} {l x : Int} (h : dcode xs [l, x] = 0) (hlx : l < x) (hc : courtB xs l = true) (hn : ∀ t, l < t → t ≤ x → courtB xs t = false) : ctP xs l x = (1, 0) := by
  unfold ctP
  rw [if_pos h]
  obtain ⟨k, hk⟩ : ∃ k : Nat, (x - l).toNat = k + 1 := ⟨(x - l).toNat - 1, by omega⟩
  rw [hk, cnt_one k fun d h1 h2 => hn d (by omega) (by omega), if_pos hc]
theorem ct_same {xs : List Int} {l : Int} (h : dcode xs [l, l] = 0) : ctP xs l l = (0, 0) := by
  unfold ctP
  rw [if_pos h]
  simp [cntC]
/-- How many court days lie between a day and the n-th one behind it. -/
theorem cnt_added {xs : List Int} (hh : holB xs = true) {d : Int} (h0 : 0 ≤ d) (h1 : d ≤ 20000) : ∀ n : Nat, cntC xs d (addC xs d (n + 1) - d).toNat = n + (if courtB xs d = true then 1 else 0) := by
  intro n
  induction n with
  | zero =>
    have hn := nextC_is hh (d := d + 1) (by omega)
    have e : addC xs d (0 + 1) = nextC xs (d + 1) := rfl
    rw [e]
    obtain ⟨k, hk⟩ : ∃ k : Nat, (nextC xs (d + 1) - d).toNat = k + 1 := ⟨(nextC xs (d + 1) - d).toNat - 1, by have := hn.1; omega⟩
    rw [hk, cnt_one k fun t g1 g2 => hn.2.2 t g1 (by omega)]
    simp
  | succ n ih =>
    have hb := (addC_bd hh h0 h1 (n + 1)).1
    have hn := nextC_is hh (d := addC xs d (n + 1) + 1) (by omega)
    have hc := (nextC_is hh (d := addC xs d n + 1) (by have := (addC_bd hh h0 h1 n).1; omega)).2.1
    have e : addC xs d (n + 1 + 1) = nextC xs (addC xs d (n + 1) + 1) := rfl
    have e2 : addC xs d (n + 1) = nextC xs (addC xs d n + 1) := rfl
    rw [← e2] at hc
    rw [e]
    obtain ⟨k, hk⟩ : ∃ k : Nat, (nextC xs (addC xs d (n + 1) + 1) - d).toNat = (addC xs d (n + 1) - d).toNat + (k + 1) := ⟨(nextC xs (addC xs d (n + 1) + 1) - addC xs d (n + 1)).toNat - 1, by have := hn.1; omega⟩
    rw [hk, cnt_add, ih, show d + ((addC xs d (n + 1) - d).toNat : Int) = addC xs d (n + 1) by omega, cnt_one k fun t g1 g2 => hn.2.2 t g1 (by omega), if_pos hc]
    omega
theorem ad_ok {xs : List Int} {d n : Int} (h : (adP xs d n).2 = 0) :
    dcode xs [d] = 0 ∧ (n = 0 → (adP xs d n).1 = d) ∧ (¬ n = 0 → dcode xs [(adP xs d n).1] = 0 ∧ courtB xs (adP xs d n).1 = true ∧ ctP xs d (adP xs d n).1 = (n - 1 + (if courtB xs d = true then 1 else 0), 0)) := by
  unfold adP at h ⊢
  by_cases q : dcode xs [d] = 0
  · rw [if_pos q] at h ⊢
    by_cases r : 0 ≤ n ∧ n ≤ 400
    · rw [if_pos r] at h ⊢
      by_cases p : addC xs d n.toNat ≤ 20000
      · rw [if_pos p] at h ⊢
        have hd := dcode_day q
        have hh := (dcode_ok.1 q).1
        refine ⟨q, fun h0 => ?_, fun h0 => ?_⟩
        · subst h0; rfl
        · obtain ⟨m, hm⟩ : ∃ m : Nat, n.toNat = m + 1 := ⟨n.toNat - 1, by omega⟩
          rw [hm] at p ⊢
          have hb := (addC_bd hh hd.1 hd.2 (m + 1)).1
          have hc := (nextC_is hh (d := addC xs d m + 1) (by have := (addC_bd hh hd.1 hd.2 m).1; omega)).2.1
          refine ⟨dcode_sub q (by simp; omega), hc, ?_⟩
          unfold ctP
          rw [if_pos (dcode_sub q (by simp; omega)), cnt_added hh hd.1 hd.2]
          congr 2
          omega
      · rw [if_neg p] at h; cases h
    · rw [if_neg r] at h; cases h
  · rw [if_neg q] at h; exact absurd h q
end Go.Proofs.Ytiphankcngclfaa
