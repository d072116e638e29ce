/-
  How far each of n things is from one of them over a relation: what marks the numbers of steps, and that these marks leave one answer.
  Conditions: none of its own; every lemma names what it takes.
-/
import Derived.Test.YthnilifepiihjaaPre
namespace Go.Proofs.Ythnilifepiihjaa

/-- The number at place k. -/
def nth (s : List Int) (k : Nat) : Int := s.getD k (-1)
theorem nth_eq {s : List Int} {k : Nat} {x : Int} (h : s[k]? = some x) : nth s k = x := by
  unfold nth; rw [List.getD_eq_getElem?_getD, h]; rfl
theorem nth_set_same {s : List Int} {k : Nat} (x : Int) (h : k < s.length) : nth (s.set k x) k = x := by
  unfold nth; rw [List.getD_eq_getElem?_getD, List.getElem?_set_self h]; rfl
theorem nth_set_ne {s : List Int} {k j : Nat} (x : Int) (h : j ≠ k) : nth (s.set k x) j = nth s j := by
  unfold nth; rw [List.getD_eq_getElem?_getD, List.getD_eq_getElem?_getD, List.getElem?_set_ne (by omega)]
theorem nth_out {s : List Int} {k : Nat} (h : s.length ≤ k) : nth s k = -1 := by
  unfold nth; rw [List.getD_eq_getElem?_getD, List.getElem?_eq_none h]; rfl
theorem nth_rep (n k : Nat) : nth (List.replicate n (-1)) k = -1 := by
  unfold nth; rw [List.getD_eq_getElem?_getD, List.getElem?_replicate]; split <;> rfl
theorem some_nth {s : List Int} {k : Nat} (h : k < s.length) : s[k]? = some (nth s k) := by
  unfold nth; rw [List.getD_eq_getElem?_getD, List.getElem?_eq_getElem h]; rfl
theorem ext_nth {s t : List Int} (hl : s.length = t.length) (h : ∀ k, k < s.length → nth s k = nth t k) : s = t := by
  refine List.ext_getElem hl fun j h1 h2 => ?_
  have := h j h1
  rw [nth_eq (List.getElem?_eq_getElem h1), nth_eq (List.getElem?_eq_getElem h2)] at this
  exact this

/-- What holds of the numbers as soon as the first one is marked. -/
structure Begun (adj : Nat → Nat → Bool) (n a : Nat) (s : List Int) : Prop where
  len : s.length = n
  inn : a < n
  here : nth s a = 0
  low : ∀ k, k < n → -1 ≤ nth s k
  pred : ∀ k, k < n → k ≠ a → 0 ≤ nth s k → 1 ≤ nth s k ∧ ∃ i, i < n ∧ adj i k = true ∧ nth s i = nth s k - 1
/-- What leads from i is marked with at most one step more. -/
def Shut (adj : Nat → Nat → Bool) (n : Nat) (s : List Int) (i : Nat) : Prop :=
  ∀ k, k < n → adj i k = true → 0 ≤ nth s k ∧ nth s k ≤ nth s i + 1
/-- s holds the numbers of steps from a. -/
structure Cert (adj : Nat → Nat → Bool) (n a : Nat) (s : List Int) : Prop extends Begun adj n a s where
  shut : ∀ i, i < n → 0 ≤ nth s i → Shut adj n s i

theorem cert_le {adj : Nat → Nat → Bool} {n a : Nat} {s t : List Int} (hs : Cert adj n a s) (ht : Cert adj n a t) :
    ∀ (d : Nat) (k : Nat), k < n → nth s k = d → 0 ≤ nth t k ∧ nth t k ≤ d := by
  intro d
  induction d with
  | zero =>
    intro k hk hd
    by_cases h : k = a
    · subst h; rw [ht.here]; omega
    · have := (hs.pred k hk h (by omega)).1; omega
  | succ d ih =>
    intro k hk hd
    by_cases h : k = a
    · subst h; rw [hs.here] at hd; omega
    · obtain ⟨h1, i, hi, ha, he⟩ := hs.pred k hk h (by omega)
      obtain ⟨g1, g2⟩ := ih i hi (by omega)
      have := ht.shut i hi g1 k hk ha
      omega
theorem cert_eq {adj : Nat → Nat → Bool} {n a : Nat} {s t : List Int} (hs : Cert adj n a s) (ht : Cert adj n a t) : s = t := by
  refine ext_nth (by rw [hs.len, ht.len]) fun k hk => ?_
  have hk' : k < n := by rw [← hs.len]; exact hk
  have l1 := hs.low k hk'
  have l2 := ht.low k hk'
  by_cases h1 : 0 ≤ nth s k
  · have g1 := cert_le hs ht (nth s k).toNat k hk' (by omega)
    have g2 := cert_le ht hs (nth t k).toNat k hk' (by omega)
    omega
  · by_cases h2 : 0 ≤ nth t k
    · have g2 := cert_le ht hs (nth t k).toNat k hk' (by omega)
      omega
    · omega

/-- Many numbers that all stand in a list: the list is as long. -/
theorem long_of_mem : ∀ (m : Nat) (s : List Int), (∀ u : Nat, u < m → (u : Int) ∈ s) → m ≤ s.length := by
  intro m
  induction m with
  | zero => intro s _; omega
  | succ m ih =>
    intro s h
    have hm := h m (by omega)
    have := ih (s.erase (m : Int)) fun u hu => by
      rw [List.mem_erase_of_ne (by omega)]
      exact h u (by omega)
    rw [List.length_erase_of_mem hm] at this
    have hp : 0 < s.length := List.length_pos_of_mem hm
    omega
theorem Begun.chain {adj : Nat → Nat → Bool} {n a : Nat} {s : List Int} (h : Begun adj n a s) : ∀ (d : Nat) (k : Nat), k < n → nth s k = d → ∀ u : Nat, u < d + 1 → (u : Int) ∈ s := by
  intro d
  induction d with
  | zero =>
    intro k hk hd u hu
    obtain rfl : u = 0 := by omega
    have := some_nth (s := s) (k := k) (by rw [h.len]; exact hk)
    rw [hd] at this
    exact List.mem_of_getElem? this
  | succ d ih =>
    intro k hk hd u hu
    by_cases e : u = d + 1
    · have := some_nth (s := s) (k := k) (by rw [h.len]; exact hk)
      rw [hd] at this
      subst e
      exact List.mem_of_getElem? this
    · by_cases ha : k = a
      · subst ha; rw [h.here] at hd; omega
      · obtain ⟨_, i, hi, _, he⟩ := h.pred k hk ha (by omega)
        exact ih i hi (by omega) u (by omega)
/-- No number of steps is as great as the number of things. -/
theorem Begun.lt {adj : Nat → Nat → Bool} {n a : Nat} {s : List Int} (h : Begun adj n a s) (k : Nat) (hk : k < n) : nth s k < n := by
  by_cases h0 : 0 ≤ nth s k
  · have := long_of_mem ((nth s k).toNat + 1) s (h.chain (nth s k).toNat k hk (by omega))
    have hl := h.len
    omega
  · omega

/-- One more is marked, from one that is marked. -/
theorem Begun.mark {adj : Nat → Nat → Bool} {n a : Nat} {s : List Int} (h : Begun adj n a s) {i k : Nat} (hi : i < n) (hk : k < n) (ha : adj i k = true) (h0 : 0 ≤ nth s i) (hn : nth s k < 0) :
    Begun adj n a (s.set k (nth s i + 1)) := by
  have hkl : k < s.length := by rw [h.len]; exact hk
  have hka : a ≠ k := by rintro rfl; rw [h.here] at hn; omega
  refine ⟨by rw [List.length_set]; exact h.len, h.inn, by rw [nth_set_ne _ hka]; exact h.here, fun j hj => ?_, fun j hj hja hj0 => ?_⟩
  · by_cases e : j = k
    · subst e; rw [nth_set_same _ hkl]; omega
    · rw [nth_set_ne _ e]; exact h.low j hj
  · by_cases e : j = k
    · subst e
      rw [nth_set_same _ hkl]
      refine ⟨by omega, i, hi, ha, ?_⟩
      rw [nth_set_ne _ (by rintro rfl; omega)]
      omega
    · rw [nth_set_ne _ e] at hj0 ⊢
      obtain ⟨h1, i', hi', ha', he'⟩ := h.pred j hj hja hj0
      refine ⟨h1, i', hi', ha', ?_⟩
      rw [nth_set_ne _ (by rintro rfl; omega)]
      exact he'
theorem begun_start {adj : Nat → Nat → Bool} {n a : Nat} (ha : a < n) : Begun adj n a ((List.replicate n (-1)).set a 0) := by
  have hl : a < (List.replicate n (-1 : Int)).length := by simpa using ha
  refine ⟨by simp, ha, nth_set_same _ hl, fun k hk => ?_, fun k hk hka h0 => ?_⟩
  · by_cases e : k = a
    · subst e; rw [nth_set_same _ hl]; omega
    · rw [nth_set_ne _ e, nth_rep]; omega
  · rw [nth_set_ne _ hka, nth_rep] at h0; omega

/-- The reference's way: round after round. Behind round r and, in it, behind the pairs ahead of (i, k). -/
structure Rounds (adj : Nat → Nat → Bool) (n a r i k : Nat) (s : List Int) : Prop extends Begun adj n a s where
  most : ∀ j, j < n → nth s j ≤ (r : Int) + 1
  old : ∀ j, j < n → 0 ≤ nth s j → nth s j < r → Shut adj n s j
  now : ∀ j m, j < n → m < n → nth s j = r → (j < i ∨ j = i ∧ m < k) → adj j m = true → 0 ≤ nth s m
theorem rounds_start {adj : Nat → Nat → Bool} {n a : Nat} (ha : a < n) : Rounds adj n a 0 0 0 ((List.replicate n (-1)).set a 0) := by
  have h := begun_start (adj := adj) ha
  refine { toBegun := h, most := fun j hj => ?_, old := fun j hj h0 h1 => by omega, now := fun j m _ _ _ h1 => by omega }
  by_cases e : j = a
  · subst e; rw [h.here]; omega
  · rw [nth_set_ne _ e, nth_rep]; omega
theorem Rounds.skip {adj : Nat → Nat → Bool} {n a r i k : Nat} {s : List Int} (h : Rounds adj n a r i k s) (hq : nth s i = r → adj i k = true → 0 ≤ nth s k) : Rounds adj n a r i (k + 1) s :=
  { toBegun := h.toBegun, most := h.most, old := h.old, now := fun j m hj hm he ho ha => by
      by_cases e : j = i ∧ m = k
      · obtain ⟨rfl, rfl⟩ := e
        exact hq he ha
      · exact h.now j m hj hm he (by omega) ha }
theorem Rounds.set {adj : Nat → Nat → Bool} {n a r i k : Nat} {s : List Int} (h : Rounds adj n a r i k s) (hi : i < n) (hk : k < n) (he : nth s i = r) (hn : nth s k < 0) (ha : adj i k = true) :
    Rounds adj n a r i (k + 1) (s.set k ((r : Int) + 1)) := by
  have hkl : k < s.length := by rw [h.len]; exact hk
  have hb := h.toBegun.mark hi hk ha (by omega) hn
  rw [he] at hb
  refine { toBegun := hb, most := fun j hj => ?_, old := fun j hj h0 h1 => ?_, now := fun j m hj hm h1 ho hjm => ?_ }
  · by_cases e : j = k
    · subst e; rw [nth_set_same _ hkl]; omega
    · rw [nth_set_ne _ e]; exact h.most j hj
  · by_cases e : j = k
    · subst e; rw [nth_set_same _ hkl] at h1; omega
    · rw [nth_set_ne _ e] at h0 h1
      intro m hm hjm
      have := h.old j hj h0 h1 m hm hjm
      rw [nth_set_ne _ e]
      rw [nth_set_ne _ (by rintro rfl; omega)]
      exact this
  · by_cases e : j = k
    · subst e; rw [nth_set_same _ hkl] at h1; omega
    · rw [nth_set_ne _ e] at h1
      by_cases e' : m = k
      · subst e'; rw [nth_set_same _ hkl]; omega
      · rw [nth_set_ne _ e']
        exact h.now j m hj hm h1 (by omega) hjm
theorem Rounds.row {adj : Nat → Nat → Bool} {n a r i : Nat} {s : List Int} (h : Rounds adj n a r i n s) : Rounds adj n a r (i + 1) 0 s :=
  { toBegun := h.toBegun, most := h.most, old := h.old, now := fun j m hj hm he ho ha => h.now j m hj hm he (by omega) ha }
theorem Rounds.round {adj : Nat → Nat → Bool} {n a r : Nat} {s : List Int} (h : Rounds adj n a r n 0 s) : Rounds adj n a (r + 1) 0 0 s := by
  refine { toBegun := h.toBegun, most := fun j hj => by have := h.most j hj; omega, old := fun j hj h0 h1 => ?_, now := fun j m _ _ _ ho => by omega }
  by_cases e : nth s j = r
  · intro m hm ha
    have h2 := h.now j m hj hm e (by omega) ha
    have h3 := h.most m hm
    omega
  · exact h.old j hj h0 (by omega)
theorem Rounds.cert {adj : Nat → Nat → Bool} {n a : Nat} {s : List Int} (h : Rounds adj n a n 0 0 s) : Cert adj n a s :=
  { toBegun := h.toBegun, shut := fun i hi h0 => h.old i hi h0 (h.toBegun.lt i hi) }

/-- The program's way: a queue. i has been taken off; the things ahead of k have been looked at from it. -/
structure Queue (adj : Nat → Nat → Bool) (n a i k : Nat) (s : List Int) (q : List Nat) : Prop extends Begun adj n a s where
  at_ : i < n ∧ 0 ≤ nth s i
  most : ∀ j, j < n → nth s j ≤ nth s i + 1
  inq : ∀ j, j ∈ q → j < n ∧ nth s i ≤ nth s j
  sort : q.Pairwise fun x y => nth s x ≤ nth s y
  old : ∀ j, j < n → 0 ≤ nth s j → j ≠ i → j ∉ q → Shut adj n s j
  now : ∀ m, m < k → m < n → adj i m = true → 0 ≤ nth s m
theorem queue_start {adj : Nat → Nat → Bool} {n a : Nat} (ha : a < n) : Queue adj n a a 0 ((List.replicate n (-1)).set a 0) [] := by
  have h := begun_start (adj := adj) ha
  have h0 := h.here
  refine { toBegun := h, at_ := ⟨ha, by omega⟩, most := fun j hj => ?_, inq := fun j hj => by simp at hj, sort := List.Pairwise.nil, old := fun j hj h1 hja _ => ?_, now := fun m h1 => by omega }
  · by_cases e : j = a
    · subst e; omega
    · rw [nth_set_ne _ e, nth_rep]; omega
  · rw [nth_set_ne _ hja, nth_rep] at h1; omega
theorem Queue.skip {adj : Nat → Nat → Bool} {n a i k : Nat} {s : List Int} {q : List Nat} (h : Queue adj n a i k s q) (hq : adj i k = true → 0 ≤ nth s k) : Queue adj n a i (k + 1) s q :=
  { toBegun := h.toBegun, at_ := h.at_, most := h.most, inq := h.inq, sort := h.sort, old := h.old, now := fun m hm hmn ha => by
      by_cases e : m = k
      · subst e; exact hq ha
      · exact h.now m (by omega) hmn ha }
theorem Queue.set {adj : Nat → Nat → Bool} {n a i k : Nat} {s : List Int} {q : List Nat} (h : Queue adj n a i k s q) (hk : k < n) (hn : nth s k < 0) (ha : adj i k = true) : Queue adj n a i (k + 1) (s.set k (nth s i + 1)) (q ++ [k]) := by
  obtain ⟨hi, hi0⟩ := h.at_
  have hkl : k < s.length := by rw [h.len]; exact hk
  have hb := h.toBegun.mark hi hk ha hi0 hn
  have hik : i ≠ k := by rintro rfl; omega
  have hqk : ∀ j, j ∈ q → j ≠ k := by rintro j hj rfl; have := (h.inq j hj).2; omega
  have hni : nth (s.set k (nth s i + 1)) i = nth s i := nth_set_ne _ hik
  refine { toBegun := hb, at_ := ⟨hi, by omega⟩, most := fun j hj => ?_, inq := fun j hj => ?_, sort := ?_, old := fun j hj h0 hji hjq => ?_, now := fun m hm hmn hma => ?_ }
  · rw [hni]
    by_cases e : j = k
    · subst e; rw [nth_set_same _ hkl]; omega
    · rw [nth_set_ne _ e]; exact h.most j hj
  · rw [hni]
    rw [List.mem_append, List.mem_singleton] at hj
    rcases hj with hj | rfl
    · rw [nth_set_ne _ (hqk j hj)]; exact h.inq j hj
    · rw [nth_set_same _ hkl]; exact ⟨hk, by omega⟩
  · rw [List.pairwise_append]
    refine ⟨h.sort.imp_of_mem fun {x y} hx hy hxy => ?_, List.pairwise_singleton _ _, fun x hx y hy => ?_⟩
    · rw [nth_set_ne _ (hqk x hx), nth_set_ne _ (hqk y hy)]; exact hxy
    · rw [List.mem_singleton] at hy
      subst hy
      rw [nth_set_same _ hkl, nth_set_ne _ (hqk x hx)]
      exact h.most x (h.inq x hx).1
  · rw [List.mem_append, List.mem_singleton, not_or] at hjq
    rw [nth_set_ne _ hjq.2] at h0
    intro m hm hjm
    have := h.old j hj h0 hji hjq.1 m hm hjm
    rw [nth_set_ne _ hjq.2, nth_set_ne _ (by rintro rfl; omega)]
    exact this
  · by_cases e : m = k
    · subst e; rw [nth_set_same _ hkl]; omega
    · rw [nth_set_ne _ e]; exact h.now m (by omega) hmn hma
theorem Queue.shut {adj : Nat → Nat → Bool} {n a i : Nat} {s : List Int} {q : List Nat} (h : Queue adj n a i n s q) : Shut adj n s i := fun m hm ha => by
  have := h.now m hm hm ha
  have := h.most m hm
  omega
/-- The next one is taken off. -/
theorem Queue.next {adj : Nat → Nat → Bool} {n a i j : Nat} {s : List Int} {q : List Nat} (h : Queue adj n a i n s (j :: q)) : Queue adj n a j 0 s q := by
  obtain ⟨hj, hij⟩ := h.inq j List.mem_cons_self
  have h0 := h.at_.2
  have hs := List.pairwise_cons.1 h.sort
  refine { toBegun := h.toBegun, at_ := ⟨hj, by omega⟩, most := fun m hm => by have := h.most m hm; omega, inq := fun m hm => ⟨(h.inq m (List.mem_cons_of_mem _ hm)).1, hs.1 m hm⟩, sort := hs.2, old := fun m hm h1 hmj hmq => ?_, now := fun m hm => by omega }
  by_cases e : m = i
  · subst e; exact h.shut
  · exact h.old m hm h1 e (by rw [List.mem_cons, not_or]; exact ⟨hmj, hmq⟩)
theorem Queue.cert {adj : Nat → Nat → Bool} {n a i : Nat} {s : List Int} (h : Queue adj n a i n s []) : Cert adj n a s :=
  { toBegun := h.toBegun, shut := fun j hj h0 => by
      by_cases e : j = i
      · subst e; exact h.shut
      · exact h.old j hj h0 e (by simp) }

/-- How many are not marked. -/
def unmarked (s : List Int) : Nat := s.countP (fun x => decide (x < 0))
theorem unmarked_set : ∀ (s : List Int) (k : Nat) (x : Int), k < s.length → nth s k < 0 → 0 ≤ x → unmarked (s.set k x) + 1 = unmarked s := by
  intro s
  induction s with
  | nil => intro k x hk; simp at hk
  | cons y s ih =>
    intro k x hk hn hx
    cases k with
    | zero =>
      have hy : y < 0 := by simpa [nth] using hn
      unfold unmarked
      rw [List.set_cons_zero, List.countP_cons, List.countP_cons]
      simp [hy, show ¬ x < 0 by omega]
    | succ k =>
      have := ih k x (by simpa using hk) (by simpa [nth] using hn) hx
      unfold unmarked at *
      rw [List.set_cons_succ, List.countP_cons, List.countP_cons]
      omega

def relax (adj : Nat → Nat → Bool) (r i k : Nat) (s : List Int) : List Int := if nth s i = (r : Int) ∧ nth s k < 0 ∧ adj i k = true then s.set k ((r : Int) + 1) else s
def rowOf (adj : Nat → Nat → Bool) (r i : Nat) : Nat → List Int → List Int
  | 0, s => s
  | k + 1, s => relax adj r i k (rowOf adj r i k s)
def roundOf (adj : Nat → Nat → Bool) (n r : Nat) : Nat → List Int → List Int
  | 0, s => s
  | i + 1, s => rowOf adj r i n (roundOf adj n r i s)
def roundsOf (adj : Nat → Nat → Bool) (n : Nat) : Nat → List Int → List Int
  | 0, s => s
  | r + 1, s => roundOf adj n r n (roundsOf adj n r s)
/-- The numbers of steps from a. -/
def stp (adj : Nat → Nat → Bool) (n a : Nat) : List Int := roundsOf adj n n ((List.replicate n (-1)).set a 0)
theorem relax_ok {adj : Nat → Nat → Bool} {n a r i k : Nat} {s : List Int} (h : Rounds adj n a r i k s) (hi : i < n) (hk : k < n) : Rounds adj n a r i (k + 1) (relax adj r i k s) := by
  unfold relax
  by_cases q : nth s i = (r : Int) ∧ nth s k < 0 ∧ adj i k = true
  · rw [if_pos q]; exact h.set hi hk q.1 q.2.1 q.2.2
  · rw [if_neg q]
    refine h.skip fun he ha => ?_
    rcases Int.lt_or_le (nth s k) 0 with h1 | h1
    · exact absurd ⟨he, h1, ha⟩ q
    · exact h1
theorem rowOf_ok {adj : Nat → Nat → Bool} {n a r i : Nat} {s : List Int} (h : Rounds adj n a r i 0 s) (hi : i < n) : ∀ k, k ≤ n → Rounds adj n a r i k (rowOf adj r i k s) := by
  intro k
  induction k with
  | zero => intro _; exact h
  | succ k ih => intro hk; exact relax_ok (ih (by omega)) hi (by omega)
theorem roundOf_ok {adj : Nat → Nat → Bool} {n a r : Nat} {s : List Int} (h : Rounds adj n a r 0 0 s) : ∀ i, i ≤ n → Rounds adj n a r i 0 (roundOf adj n r i s) := by
  intro i
  induction i with
  | zero => intro _; exact h
  | succ i ih => intro hi; exact (rowOf_ok (ih (by omega)) (by omega) n (Nat.le_refl _)).row
theorem roundsOf_ok {adj : Nat → Nat → Bool} {n a : Nat} {s : List Int} (h : Rounds adj n a 0 0 0 s) : ∀ r, Rounds adj n a r 0 0 (roundsOf adj n r s) := by
  intro r
  induction r with
  | zero => exact h
  | succ r ih => exact (roundOf_ok ih n (Nat.le_refl _)).round
theorem stp_cert {adj : Nat → Nat → Bool} {n a : Nat} (ha : a < n) : Cert adj n a (stp adj n a) := (roundsOf_ok (rounds_start ha) n).cert
theorem Cert.is {adj : Nat → Nat → Bool} {n a : Nat} {s : List Int} (h : Cert adj n a s) : s = stp adj n a := cert_eq h (stp_cert h.inn)
theorem stp_len {adj : Nat → Nat → Bool} {n a : Nat} (ha : a < n) : (stp adj n a).length = n := (stp_cert ha).len
end Go.Proofs.Ythnilifepiihjaa
