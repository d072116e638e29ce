/-
  The text of words, the program's and the reference's.
  Conditions: each lemma names its own.
-/
import Derived.Test.YtibfpajblcfobaaDoorStrArg
import Derived.Test.YtibfpajblcfobaaDoorTxP
import Derived.Test.YtibfpajblcfobaaDoorShelf
namespace Go.Proofs.YtibfpajblcfobaaDoor
open Go.RowKit
set_option linter.unusedVariables false

/-- The texts joined, as one text. -/
def joinB (ss : List ByteArray) (by_ : ByteArray) : ByteArray := mkB (Lib.join (datas ss) by_.data.toList)
theorem joinB_succ {ss : List ByteArray} {by_ : ByteArray} {k : Nat} {s : ByteArray} (h : ss[k]? = some s) (hk : 0 < k) : joinB (ss.take (k + 1)) by_ = joinB (ss.take k) by_ ++ by_ ++ s := by
  refine bytes_inj ?_
  unfold joinB
  rw [mkB_data, datas_take, join_take_succ _ _ k _ (datas_at h), if_neg (by omega), ← datas_take]
  simp [mkB]
theorem joinB_one {ss : List ByteArray} {by_ : ByteArray} {s : ByteArray} (h : ss[0]? = some s) : joinB (ss.take 1) by_ = s := by
  refine bytes_inj ?_
  unfold joinB
  rw [mkB_data, datas_take, join_take_succ _ _ 0 _ (datas_at h), if_pos rfl]
theorem joinB_size (ss : List ByteArray) (by_ : ByteArray) (k : Nat) : (joinB (ss.take k) by_).size ≤ (joinB ss by_).size := by
  unfold joinB
  rw [mkB_size, mkB_size, datas_take]
  exact join_take_le _ _ _

/-- The code of a text of words. -/
def wtN (ss : List ByteArray) : Int := if wordsB ss then (if ss.length ≤ 60 then 0 else 3) else 1
def comma : ByteArray := ⟨#[44]⟩
def minus : ByteArray := ⟨#[45]⟩
/-- The text of words. -/
def wtS (ss : List ByteArray) : ByteArray := if wtN ss = 0 then (if ss.length = 0 then minus else joinB ss comma) else ⟨#[]⟩
theorem joinB_words {ss : List ByteArray} (by_ : ByteArray) (h : wordsB ss = true) (hn : ss.length ≤ 60) (hb : by_.size ≤ 10) : (joinB ss by_).size ≤ 10000 := by
  unfold joinB
  rw [mkB_size]
  have h1 := join_len_le (xs := datas ss) (m := 16) by_.data.toList (fun x hx => by
    obtain ⟨s, hs, rfl⟩ := List.mem_map.1 hx
    exact (word_len ((wordsB_iff ss).1 h s hs)).2)
  rw [datas_len, size_data] at h1
  have h2 : (16 + by_.size) * ss.length ≤ 26 * 60 := Nat.mul_le_mul (by omega) hn
  omega
theorem wt_bad {ss : List ByteArray} (h : wordsB ss = false) : wtN ss = 1 ∧ wtS ss = ⟨#[]⟩ := by
  have e : wtN ss = 1 := by unfold wtN; rw [h]; rfl
  exact ⟨e, by unfold wtS; rw [e]; rfl⟩
theorem wt_long {ss : List ByteArray} (h : wordsB ss = true) (hn : 60 < ss.length) : wtN ss = 3 ∧ wtS ss = ⟨#[]⟩ := by
  have e : wtN ss = 3 := by unfold wtN; rw [h, if_pos rfl, if_neg (by omega)]
  exact ⟨e, by unfold wtS; rw [e]; rfl⟩
theorem wt_ok {ss : List ByteArray} (h : wordsB ss = true) (hn : ss.length ≤ 60) : wtN ss = 0 ∧ wtS ss = if ss.length = 0 then minus else joinB ss comma := by
  have e : wtN ss = 0 := by unfold wtN; rw [h, if_pos rfl, if_pos hn]
  exact ⟨e, by unfold wtS; rw [e]; rfl⟩

end Go.Proofs.YtibfpajblcfobaaDoor
