/-
  Lists of words and of numbers, there and back: the plain law.
  Conditions: each lemma names its own.
-/
import Derived.Test.YtimjjednfhnbbaaDoorWkReadList
import Derived.Test.YtimjjednfhnbbaaDoorRdW
import Derived.Test.YtimjjednfhnbbaaDoorLstT
namespace Go.Proofs.YtimjjednfhnbbaaDoor
open Go.RowKit
open Go.Lib
set_option linter.unusedVariables false

theorem joinB_data (ss : List ByteArray) : (joinB ss comma).data.toList = join (datas ss) [44] := by unfold joinB; rw [mkB_data]; rfl
theorem join_pcs (s : ByteArray) : joinB (pcs 44 s) comma = s := by
  refine bytes_inj ?_
  rw [joinB_data, pcs_datas, join_cut]
theorem pcs_join {ss : List ByteArray} (h0 : ss ≠ []) (h : ∀ s ∈ ss, ¬ (44 : UInt8) ∈ s.data.toList) : pcs 44 (joinB ss comma) = ss := by
  symm
  refine pcs_of ?_
  rw [joinB_data, cut_join 44 _ (by unfold datas; simpa using h0)]
  intro x hx
  obtain ⟨s, hs, rfl⟩ := List.mem_map.1 hx
  exact h s hs
theorem pcs_minus {s : ByteArray} (h : s.data.toList = [45]) : pcs 44 s = [⟨#[45]⟩] := by
  obtain rfl := minus_of h
  symm
  exact pcs_of rfl
theorem itoa_no44 (x : Int) : ¬ (44 : UInt8) ∈ itoa x := by
  by_cases h : x < 0
  · rw [itoa_neg' h]
    intro hc
    rcases List.mem_cons.1 hc with hc | hc
    · cases hc
    · have := digs_decDigits x.natAbs _ hc
      simp at this
  · rw [itoa_pos h]
    intro hc
    have := digs_decDigits x.toNat _ hc
    simp at this
theorem itoa_ne45 (x : Int) : ¬ itoa x = [45] := by
  by_cases h : x < 0
  · rw [itoa_neg' h]
    intro hc
    injection hc with _ hc
    exact decDigits_ne _ hc
  · rw [itoa_pos h]
    intro hc
    have := digs_decDigits x.toNat 45 (by rw [hc]; simp)
    simp at this
theorem valsC_nil : valsC [] = 0 := by kernel_rfl
/-- What was read writes the text again. -/
theorem rdLA_read {s : ByteArray} {xs : List Int} {c : Int} (h : RdLA s xs c) (hc : c = 0) : ltT xs = s ∧ valsC xs = 0 := by
  rcases h with ⟨a, rfl, _⟩ | ⟨a, b, _⟩ | ⟨a, b, e, f⟩
  · refine ⟨?_, valsC_nil⟩
    unfold ltT
    rw [if_pos valsC_nil]
    exact (minus_of a).symm
  · refine ⟨?_, b.2⟩
    unfold ltT ltS
    rw [if_pos b.2]
    have h1 := pcs_pos 44 s
    rw [b.1, nums_len] at h1
    rw [if_neg (by omega), ← b.1, join_pcs]
  · omega
/-- What was written is read again. -/
theorem lt_rd {xs : List Int} (hv : valsC xs = 0) : RdLA (ltT xs) xs 0 := by
  unfold ltT ltS
  rw [if_pos hv]
  by_cases h0 : xs.length = 0
  · rw [if_pos h0]
    exact Or.inl ⟨rfl, List.eq_nil_of_length_eq_zero h0, rfl⟩
  · rw [if_neg h0]
    have hne : nums xs ≠ [] := fun e => h0 (by rw [← nums_len, e]; rfl)
    have hp : pcs 44 (joinB (nums xs) comma) = nums xs := pcs_join hne (fun s hs => by
      obtain ⟨x, _, rfl⟩ := List.mem_map.1 hs
      unfold itoB
      rw [mkB_data]
      exact itoa_no44 x)
    refine Or.inr (Or.inl ⟨fun hm => ?_, ⟨hp, hv⟩, rfl⟩)
    have h1 := pcs_minus hm
    rw [hp] at h1
    have hm1 : (⟨#[45]⟩ : ByteArray) ∈ nums xs := by rw [h1]; simp
    obtain ⟨x, _, hx⟩ := List.mem_map.1 hm1
    refine itoa_ne45 x ?_
    have := congrArg (fun b : ByteArray => b.data.toList) hx
    unfold itoB at this
    rw [mkB_data] at this
    exact this
theorem lt_back {xs ys : List Int} {c : Int} (hv : valsC xs = 0) (h : RdLA (ltT xs) ys c) : ys = xs ∧ c = 0 := rdLA_one h (lt_rd hv)
theorem ltT_size {xs : List Int} : (ltT xs).size ≤ 10000 := by
  unfold ltT
  split
  · rename_i h
    unfold ltS
    split
    · decide
    · exact nums_join (valsF_of h) comma (by decide)
  · decide

theorem word_no {s : ByteArray} (h : wordB s.data.toList = true) {c : UInt8} (hc : c ∈ s.data.toList) : 97 ≤ c.toNat := by
  unfold wordB at h
  rw [Bool.and_eq_true, List.all_eq_true] at h
  have := h.1 c hc
  simp at this
  exact this.1
theorem wordsB_nil : wordsB [] = true := by kernel_rfl
/-- What was read writes the text again. -/
theorem rw_read {s : ByteArray} (hc : rwN s = 0) : wtS (rwL s) = s ∧ wtN (rwL s) = 0 := by
  by_cases hm : s.data.toList = [45]
  · rw [(rw_minus hm).1]
    have := wt_ok wordsB_nil (by simp)
    refine ⟨?_, this.1⟩
    rw [this.2]
    exact (minus_of hm).symm
  · cases hb : rwB s with
    | false =>
      rw [(rw_no hm hb).2] at hc
      cases hc
    | true =>
      rw [(rw_yes hm hb).1]
      unfold rwB at hb
      rw [Bool.and_eq_true, decide_eq_true_eq] at hb
      have := wt_ok hb.1 hb.2
      refine ⟨?_, this.1⟩
      rw [this.2, if_neg (by have := pcs_pos 44 s; omega), join_pcs]
/-- What was written is read again. -/
theorem wt_back {ss : List ByteArray} (hc : wtN ss = 0) : rwL (wtS ss) = ss ∧ rwN (wtS ss) = 0 := by
  unfold wtN at hc
  cases hw : wordsB ss with
  | false => rw [hw] at hc; simp at hc
  | true =>
    have hn : ss.length ≤ 60 := by
      by_cases h : ss.length ≤ 60
      · exact h
      · rw [hw, if_pos rfl, if_neg h] at hc; cases hc
    rw [(wt_ok hw hn).2]
    by_cases h0 : ss.length = 0
    · rw [if_pos h0]
      obtain rfl : ss = [] := List.eq_nil_of_length_eq_zero h0
      exact rw_minus rfl
    · rw [if_neg h0]
      have hp : pcs 44 (joinB ss comma) = ss := pcs_join (fun e => h0 (by rw [e]; rfl)) (fun s hs hc => by
        have := word_no ((wordsB_iff ss).1 hw s hs) hc
        simp at this)
      have hnm : ¬ (joinB ss comma).data.toList = [45] := fun hm => by
        have h1 := pcs_minus hm
        rw [hp] at h1
        have hm1 : (⟨#[45]⟩ : ByteArray) ∈ ss := by rw [h1]; simp
        have := word_no ((wordsB_iff ss).1 hw _ hm1) (c := 45) (by simp)
        simp at this
      have hb : rwB (joinB ss comma) = true := by
        unfold rwB
        rw [hp, hw]
        simp [hn]
      have := rw_yes hnm hb
      exact ⟨by rw [this.1, hp], this.2⟩
theorem wtS_size {ss : List ByteArray} : (wtS ss).size ≤ 10000 := by
  unfold wtS
  split
  · rename_i h
    split
    · decide
    · unfold wtN at h
      cases hw : wordsB ss with
      | false => rw [hw] at h; simp at h
      | true =>
        refine joinB_words comma hw ?_ (by decide)
        by_cases h6 : ss.length ≤ 60
        · exact h6
        · rw [hw, if_pos rfl, if_neg h6] at h; cases h
  · decide
end Go.Proofs.YtimjjednfhnbbaaDoor
