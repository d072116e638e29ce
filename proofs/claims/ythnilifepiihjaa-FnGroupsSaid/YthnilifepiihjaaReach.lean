/-
  Ways over a relation among n things: groups, keepers, chains, in plain words.
  Conditions: none of its own; every lemma names what it takes.
-/
import Derived.Test.YthnilifepiihjaaDist
namespace Go.Proofs.Ythnilifepiihjaa
set_option linter.unusedVariables false

/-- A way of d steps from a to k. -/
def Way (adj : Nat → Nat → Bool) (n a : Nat) : Nat → Nat → Prop
  | 0, k => k = a ∧ a < n
  | d + 1, k => k < n ∧ ∃ i, Way adj n a d i ∧ adj i k = true
theorem Way.here {adj : Nat → Nat → Bool} {n a : Nat} (h : a < n) : Way adj n a 0 a := ⟨rfl, h⟩
theorem Way.step {adj : Nat → Nat → Bool} {n a d i k : Nat} (h : Way adj n a d i) (hk : k < n) (ha : adj i k = true) : Way adj n a (d + 1) k := ⟨hk, i, h, ha⟩
theorem Way.lt {adj : Nat → Nat → Bool} {n a d k : Nat} (h : Way adj n a d k) : k < n := by
  cases d with
  | zero => obtain ⟨rfl, h⟩ := h; exact h
  | succ d => exact h.1
theorem Way.trans {adj : Nat → Nat → Bool} {n a d k : Nat} (h : Way adj n a d k) : ∀ {e j : Nat}, Way adj n k e j → Way adj n a (d + e) j := by
  intro e
  induction e with
  | zero => intro j g; obtain ⟨rfl, _⟩ := g; exact h
  | succ e ih => intro j g; obtain ⟨hj, i, gi, ha⟩ := g; exact (ih gi).step hj ha
theorem Way.back {adj : Nat → Nat → Bool} {n a : Nat} (hs : ∀ i j, adj i j = adj j i) : ∀ {d k : Nat}, Way adj n a d k → Way adj n k d a := by
  intro d
  induction d with
  | zero => intro k h; obtain ⟨rfl, h⟩ := h; exact .here h
  | succ d ih =>
    intro k h
    obtain ⟨hk, i, g, ha⟩ := h
    have h1 : Way adj n k 1 i := (Way.here hk).step g.lt (by rw [hs]; exact ha)
    have := h1.trans (ih g)
    rw [Nat.add_comm] at this
    exact this
theorem Cert.of_way {adj : Nat → Nat → Bool} {n a : Nat} {s : List Int} (h : Cert adj n a s) : ∀ {d k : Nat}, Way adj n a d k → 0 ≤ nth s k ∧ nth s k ≤ d := by
  intro d
  induction d with
  | zero => intro k w; obtain ⟨rfl, _⟩ := w; have := h.here; omega
  | succ d ih =>
    intro k w
    obtain ⟨hk, i, g, ha⟩ := w
    have := h.shut _ g.lt (ih g).1 _ hk ha
    have := ih g
    omega
theorem Cert.way {adj : Nat → Nat → Bool} {n a : Nat} {s : List Int} (h : Cert adj n a s) : ∀ (d k : Nat), k < n → nth s k = d → Way adj n a d k := by
  intro d
  induction d with
  | zero =>
    intro k hk hd
    by_cases e : k = a
    · subst e; exact .here hk
    · have := (h.pred k hk e (by omega)).1; omega
  | succ d ih =>
    intro k hk hd
    by_cases e : k = a
    · subst e; have := h.here; omega
    · obtain ⟨_, i, hi, ha, he⟩ := h.pred k hk e (by omega)
      exact (ih i hi (by omega)).step hk ha

/-- k can be reached from a. -/
def mem (adj : Nat → Nat → Bool) (n a k : Nat) : Bool := decide (0 ≤ nth (stp adj n a) k)
theorem mem_iff {adj : Nat → Nat → Bool} {n a k : Nat} (ha : a < n) (hk : k < n) : mem adj n a k = true ↔ ∃ d, Way adj n a d k := by
  have h := stp_cert (adj := adj) ha
  unfold mem
  rw [decide_eq_true_eq]
  constructor
  · intro h0
    exact ⟨_, h.way (nth (stp adj n a) k).toNat k hk (by omega)⟩
  · rintro ⟨d, w⟩
    exact (h.of_way w).1
theorem mem_self {adj : Nat → Nat → Bool} {n a : Nat} (ha : a < n) : mem adj n a a = true := (mem_iff ha ha).2 ⟨0, .here ha⟩
theorem mem_comm {adj : Nat → Nat → Bool} {n a k : Nat} (hs : ∀ i j, adj i j = adj j i) (ha : a < n) (hk : k < n) : mem adj n a k = mem adj n k a := by
  rw [Bool.eq_iff_iff, mem_iff ha hk, mem_iff hk ha]
  exact ⟨fun ⟨d, w⟩ => ⟨d, w.back hs⟩, fun ⟨d, w⟩ => ⟨d, w.back hs⟩⟩
theorem mem_trans {adj : Nat → Nat → Bool} {n a k j : Nat} (ha : a < n) (hk : k < n) (hj : j < n) (h : mem adj n a k = true) (g : mem adj n k j = true) : mem adj n a j = true := by
  rw [mem_iff ha hj]
  obtain ⟨d, w⟩ := (mem_iff ha hk).1 h
  obtain ⟨e, u⟩ := (mem_iff hk hj).1 g
  exact ⟨_, w.trans u⟩
theorem mem_same {adj : Nat → Nat → Bool} {n a k j : Nat} (hs : ∀ i j, adj i j = adj j i) (ha : a < n) (hk : k < n) (hj : j < n) (h : mem adj n a k = true) : mem adj n a j = mem adj n k j := by
  rw [Bool.eq_iff_iff]
  exact ⟨fun g => mem_trans hk ha hj (by rw [mem_comm hs hk ha]; exact h) g, fun g => mem_trans ha hk hj h g⟩
theorem mem_adj {adj : Nat → Nat → Bool} {n a i k : Nat} (hs : ∀ i j, adj i j = adj j i) (ha : a < n) (hi : i < n) (hk : k < n) (h : adj i k = true) : mem adj n a i = mem adj n a k := by
  rw [mem_comm hs ha hi, mem_comm hs ha hk]
  exact mem_same hs hi hk ha ((mem_iff hi hk).2 ⟨1, (Way.here hi).step hk h⟩)

/-- The group of a. -/
def grp (adj : Nat → Nat → Bool) (n a : Nat) : List Nat := (List.range n).filter (mem adj n a)
theorem mem_grp {adj : Nat → Nat → Bool} {n a k : Nat} : k ∈ grp adj n a ↔ k < n ∧ mem adj n a k = true := by
  unfold grp; rw [List.mem_filter, List.mem_range]
theorem grp_same {adj : Nat → Nat → Bool} {n a k : Nat} (hs : ∀ i j, adj i j = adj j i) (ha : a < n) (hk : k < n) (h : mem adj n a k = true) : grp adj n a = grp adj n k := by
  unfold grp
  refine List.filter_congr fun j hj => ?_
  exact mem_same hs ha hk (List.mem_range.1 hj) h
/-- The keeper: the first one of the group. -/
def kpr (adj : Nat → Nat → Bool) (n a : Nat) : Nat := (grp adj n a).headD 0
theorem grp_cons {adj : Nat → Nat → Bool} {n a : Nat} (ha : a < n) : ∃ t, grp adj n a = kpr adj n a :: t := by
  have h : a ∈ grp adj n a := mem_grp.2 ⟨ha, mem_self ha⟩
  unfold kpr
  cases hg : grp adj n a with
  | nil => rw [hg] at h; cases h
  | cons x t => exact ⟨t, rfl⟩
theorem kpr_mem {adj : Nat → Nat → Bool} {n a : Nat} (ha : a < n) : kpr adj n a < n ∧ mem adj n a (kpr adj n a) = true := by
  obtain ⟨t, ht⟩ := grp_cons (adj := adj) ha
  exact mem_grp.1 (by rw [ht]; exact List.mem_cons_self)
theorem grp_sorted {adj : Nat → Nat → Bool} {n a : Nat} : (grp adj n a).Pairwise (· < ·) := List.Pairwise.filter _ List.pairwise_lt_range
theorem kpr_le {adj : Nat → Nat → Bool} {n a k : Nat} (ha : a < n) (hk : k < n) (h : mem adj n a k = true) : kpr adj n a ≤ k := by
  obtain ⟨t, ht⟩ := grp_cons (adj := adj) ha
  have hm : k ∈ grp adj n a := mem_grp.2 ⟨hk, h⟩
  have hs := grp_sorted (adj := adj) (n := n) (a := a)
  rw [ht] at hm hs
  rcases List.mem_cons.1 hm with rfl | hm
  · exact Nat.le_refl _
  · exact Nat.le_of_lt ((List.pairwise_cons.1 hs).1 _ hm)
theorem kpr_same {adj : Nat → Nat → Bool} {n a k : Nat} (hs : ∀ i j, adj i j = adj j i) (ha : a < n) (hk : k < n) (h : mem adj n a k = true) : kpr adj n a = kpr adj n k := by
  unfold kpr; rw [grp_same hs ha hk h]
theorem kpr_kpr {adj : Nat → Nat → Bool} {n a : Nat} (hs : ∀ i j, adj i j = adj j i) (ha : a < n) : kpr adj n (kpr adj n a) = kpr adj n a := by
  obtain ⟨h1, h2⟩ := kpr_mem (adj := adj) ha
  exact (kpr_same hs ha h1 h2).symm

/-- The keepers; the groups. -/
def kprs (adj : Nat → Nat → Bool) (n : Nat) : List Nat := (List.range n).filter fun a => kpr adj n a == a
theorem mem_kprs {adj : Nat → Nat → Bool} {n a : Nat} : a ∈ kprs adj n ↔ a < n ∧ kpr adj n a = a := by
  unfold kprs; rw [List.mem_filter, List.mem_range, beq_iff_eq]
def grps (adj : Nat → Nat → Bool) (n : Nat) : List (List Nat) := (kprs adj n).map (grp adj n)
theorem grp_of_kpr {adj : Nat → Nat → Bool} {n a : Nat} (hs : ∀ i j, adj i j = adj j i) (ha : a ∈ kprs adj n) : grp adj n a = (List.range n).filter fun k => kpr adj n k == a := by
  obtain ⟨h1, h2⟩ := mem_kprs.1 ha
  unfold grp
  refine List.filter_congr fun k hk => ?_
  have hk := List.mem_range.1 hk
  rw [Bool.eq_iff_iff, beq_iff_eq]
  constructor
  · intro h; rw [← kpr_same hs h1 hk h]; exact h2
  · intro h
    obtain ⟨_, h3⟩ := kpr_mem (adj := adj) hk
    rw [h] at h3
    rw [mem_comm hs h1 hk]; exact h3
theorem sum_zero : ∀ ks : List Nat, (ks.map fun _ => 0).sum = 0 := by
  intro ks
  induction ks with
  | nil => rfl
  | cons x ks ih => rw [List.map_cons, List.sum_cons, ih]
theorem sum_count (f : Nat → Nat) : ∀ (l ks : List Nat), ks.Nodup → (∀ k ∈ l, f k ∈ ks) → (ks.map fun a => (l.filter fun k => f k == a).length).sum = l.length := by
  intro l
  induction l with
  | nil => intro ks _ _; exact sum_zero ks
  | cons y l ih =>
    intro ks hn hk
    have h1 := ih ks hn fun k hk' => hk k (List.mem_cons_of_mem _ hk')
    have hy := hk y List.mem_cons_self
    rw [List.length_cons, ← h1]
    clear h1 ih hk
    induction ks with
    | nil => cases hy
    | cons x ks ih =>
      rw [List.nodup_cons] at hn
      simp only [List.map_cons, List.sum_cons, List.filter_cons]
      by_cases e : f y = x
      · have h2 : (ks.map fun a => (if (f y == a) = true then y :: l.filter fun k => f k == a else l.filter fun k => f k == a).length) = ks.map fun a => (l.filter fun k => f k == a).length := by
          refine List.map_congr_left fun a ha => ?_
          rw [if_neg]
          rw [beq_iff_eq]
          rintro rfl
          exact hn.1 (e ▸ ha)
        rw [h2, if_pos (by rw [beq_iff_eq]; exact e), List.length_cons]
        omega
      · have hy' : f y ∈ ks := by
          rcases List.mem_cons.1 hy with h | h
          · exact absurd h e
          · exact h
        have := ih hn.2 hy'
        simp only [List.filter_cons] at this
        rw [if_neg (by rw [beq_iff_eq]; exact e), this]
        omega
theorem grps_sum {adj : Nat → Nat → Bool} {n : Nat} (hs : ∀ i j, adj i j = adj j i) : ((grps adj n).map List.length).sum = n := by
  have h := sum_count (kpr adj n) (List.range n) (kprs adj n) (List.Pairwise.filter _ List.nodup_range) fun k hk => mem_kprs.2 ⟨(kpr_mem (List.mem_range.1 hk)).1, kpr_kpr hs (List.mem_range.1 hk)⟩
  rw [List.length_range] at h
  refine Eq.trans ?_ h
  unfold grps
  rw [List.map_map]
  congr 1
  refine List.map_congr_left fun a ha => ?_
  show (grp adj n a).length = _
  rw [grp_of_kpr hs ha]

/-- The next one of a chain to where the steps s lead from; the chain of d steps. -/
def nxt (adj : Nat → Nat → Bool) (n : Nat) (s : List Int) (v : Nat) : Nat := ((List.range n).find? fun k => nth s k == nth s v - 1 && adj v k).getD 0
def chn (adj : Nat → Nat → Bool) (n : Nat) (s : List Int) : Nat → Nat → List Nat
  | 0, v => [v]
  | d + 1, v => v :: chn adj n s d (nxt adj n s v)
theorem nxt_is {adj : Nat → Nat → Bool} {n b : Nat} {s : List Int} (h : Cert adj n b s) (hs : ∀ i j, adj i j = adj j i) {v : Nat} (hv : v < n) (hvb : v ≠ b) (h0 : 0 ≤ nth s v) :
    nxt adj n s v < n ∧ nth s (nxt adj n s v) = nth s v - 1 ∧ adj v (nxt adj n s v) = true ∧ ∀ k, k < nxt adj n s v → ¬ (nth s k = nth s v - 1 ∧ adj v k = true) := by
  unfold nxt
  cases hf : (List.range n).find? fun k => nth s k == nth s v - 1 && adj v k with
  | none =>
    rw [List.find?_eq_none] at hf
    obtain ⟨_, i, hi, ha, he⟩ := h.pred v hv hvb h0
    refine absurd ?_ (hf i (List.mem_range.2 hi))
    rw [Bool.and_eq_true, beq_iff_eq, hs]
    exact ⟨he, ha⟩
  | some k =>
    have h1 := List.find?_some hf
    have h2 := List.mem_of_find?_eq_some hf
    rw [Bool.and_eq_true, beq_iff_eq] at h1
    refine ⟨List.mem_range.1 h2, h1.1, h1.2, fun j hj hjj => ?_⟩
    rw [Option.getD_some] at hj
    rw [List.find?_range_eq_some] at hf
    have := hf.2.2 j hj
    simp only [Bool.not_eq_true', Bool.and_eq_false_iff, beq_eq_false_iff_ne] at this
    rcases this with h | h
    · exact h hjj.1
    · rw [hjj.2] at h; cases h
theorem nxt_eq {adj : Nat → Nat → Bool} {n b : Nat} {s : List Int} (h : Cert adj n b s) (hs : ∀ i j, adj i j = adj j i) {v k : Nat} (hv : v < n) (hvb : v ≠ b) (h0 : 0 ≤ nth s v) (hk : k < n) (h1 : nth s k = nth s v - 1) (h2 : adj v k = true)
    (hl : ∀ j, j < k → ¬ (nth s j = nth s v - 1 ∧ adj v j = true)) : nxt adj n s v = k := by
  obtain ⟨g1, g2, g3, g4⟩ := nxt_is h hs hv hvb h0
  rcases Nat.lt_trichotomy (nxt adj n s v) k with q | q | q
  · exact absurd ⟨g2, g3⟩ (hl _ q)
  · exact q
  · exact absurd ⟨h1, h2⟩ (g4 _ q)
end Go.Proofs.Ythnilifepiihjaa
