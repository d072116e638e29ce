/-
  The text of words, the program's and the reference's.
  Conditions: each lemma names its own.
-/
import Derived.Test.YtimjjednfhnbbaaDoorStrArg
import Derived.Test.YtimjjednfhnbbaaDoorTxP
import Derived.Test.YtimjjednfhnbbaaDoorShelf
namespace Go.Proofs.YtimjjednfhnbbaaDoor
open Go.RowKit
set_option linter.unusedVariables false

theorem fewT (k : Nat) (hk : k ≤ 9223372036854775807) (w : World) : Calls Tryd.prog 43 #[.int .i64 k, .int .i64 60] w fun e w' => e = .returned (.bool (decide (k ≤ 60))) ∧ w = w' := by
  go_enter Tryd.func43, Tryd.ntmps43
  go_wp2
  go_ret
  exact ⟨rb (by simp; omega), rfl⟩
theorem fewT_yes (k : Nat) (h : k ≤ 60) (w : World) : Calls Tryd.prog 43 #[.int .i64 k, .int .i64 60] w fun e w' => e = .returned (.bool true) ∧ w = w' :=
  (fewT k (by omega) w).mono fun _ _ ⟨he, hw⟩ => ⟨he.trans (rb (decide_eq_true h)), hw⟩
theorem fewT_no (k : Nat) (h : 60 < k) (hk : k ≤ 9223372036854775807) (w : World) : Calls Tryd.prog 43 #[.int .i64 k, .int .i64 60] w fun e w' => e = .returned (.bool false) ∧ w = w' :=
  (fewT k hk w).mono fun _ _ ⟨he, hw⟩ => ⟨he.trans (rb (decide_eq_false (by omega))), hw⟩

/-- The texts joined, as one text. -/
def joinB (ss : List ByteArray) (by_ : ByteArray) : ByteArray := mkB (Lib.join (datas ss) by_.data.toList)
theorem joinB_succ {ss : List ByteArray} {by_ : ByteArray} {k : Nat} {s : ByteArray} (h : ss[k]? = some s) (hk : 0 < k) : joinB (ss.take (k + 1)) by_ = joinB (ss.take k) by_ ++ by_ ++ s := by
  refine bytes_inj ?_
  unfold joinB
  rw [mkB_data, datas_take, join_take_succ _ _ k _ (datas_at h), if_neg (by omega), ← datas_take]
  simp [mkB]
theorem joinB_one {ss : List ByteArray} {by_ : ByteArray} {s : ByteArray} (h : ss[0]? = some s) : joinB (ss.take 1) by_ = s := by
  refine bytes_inj ?_
  unfold joinB
  rw [mkB_data, datas_take, join_take_succ _ _ 0 _ (datas_at h), if_pos rfl]
theorem joinB_size (ss : List ByteArray) (by_ : ByteArray) (k : Nat) : (joinB (ss.take k) by_).size ≤ (joinB ss by_).size := by
  unfold joinB
  rw [mkB_size, mkB_size, datas_take]
  exact join_take_le _ _ _

set_option maxHeartbeats 2000000 in
theorem spec_l01Words {v : Value} {ss : List ByteArray} {w : World} (by_ : ByteArray) (h : Strs w v ss) (hm : (joinB ss by_).size ≤ 1000000000) :
    Calls Tryd.prog 63 #[v, .string by_] w fun e w' => e = .returned (.string (joinB ss by_)) ∧ w' = w := by
  obtain ⟨a, n, c, rfl, H⟩ := h.parts
  have hlen := Lib.hid H.len
  have hcap := H.cap
  have hmost := H.most
  unfold maxLen at hmost
  clear h
  go_enter Tryd.func63, Tryd.ntmps63
  go_wp2_with fail
  go_loop [5, 6] (fun o i => ∃ (k : Nat) (out : ByteArray), k ≤ n ∧ i = .int .i64 k ∧ o = .string out ∧ Hid (out = joinB (ss.take k) by_)) (fun _ i => n - (intOf i).toNat)
  case atStart => exact ⟨0, ⟨#[]⟩, Nat.zero_le _, rfl, rfl, Lib.hid rfl⟩
  case round =>
    obtain ⟨k, out, hk, rfl, rfl, hout⟩ := hrel
    by_cases hlt : k < n
    · obtain ⟨b, o, ha, hbb, hc⟩ := H.cells (by omega)
      subst ha
      obtain ⟨s, hs⟩ := str_at (ss := ss) (k := k) (by have := hlen.out; omega)
      have hcell := hc k s hs
      have HH := Lib.hid H
      clear hc H
      have hz := joinB_size ss by_ (k + 1)
      by_cases hk0 : 0 < k
      · have hj := joinB_succ (by_ := by_) hs hk0
        rw [hj, ← hout.out, ByteArray.size_append, ByteArray.size_append] at hz
        have hnext : Hid (out ++ by_ ++ s = joinB (ss.take (k + 1)) by_) := Lib.hid (by rw [hj, ← hout.out])
        clear hj hs
        have hz' : out.size + by_.size + s.size ≤ 1000000000 := by omega
        clear hz
        go_wp2_with fail
        go_round
        case rel => exact ⟨k + 1, _, by omega, by go_num, rfl, hnext⟩
        case measure => simp [intOf]; omega
      · obtain rfl : k = 0 := by omega
        have hj := joinB_one (by_ := by_) hs
        rw [hj] at hz
        have ho : out = ⟨#[]⟩ := hout.out
        subst ho
        have hnext : Hid (⟨#[]⟩ ++ s = joinB (ss.take (0 + 1)) by_) := Lib.hid (by rw [hj]; refine bytes_inj ?_; simp)
        clear hj hs
        have hz' : s.size ≤ 1000000000 := by omega
        clear hz
        simp only [Nat.add_zero] at hcell
        go_wp2_with fail
        go_round
        case rel => exact ⟨1, _, by omega, by go_num, rfl, hnext⟩
        case measure => simp [intOf]; omega
    · have hfin : Hid (out = joinB ss by_) := Lib.hid (by rw [hout.out, List.take_of_length_le (by have := hlen.out; omega)])
      clear H
      go_wp2_with fail
      go_ret
      exact ⟨rs hfin.out, rfl⟩

/-- The code of a text of words. -/
def wtN (ss : List ByteArray) : Int := if wordsB ss then (if ss.length ≤ 60 then 0 else 3) else 1
def comma : ByteArray := ⟨#[44]⟩
def minus : ByteArray := ⟨#[45]⟩
/-- The text of words. -/
def wtS (ss : List ByteArray) : ByteArray := if wtN ss = 0 then (if ss.length = 0 then minus else joinB ss comma) else ⟨#[]⟩
theorem joinB_words {ss : List ByteArray} (by_ : ByteArray) (h : wordsB ss = true) (hn : ss.length ≤ 60) (hb : by_.size ≤ 10) : (joinB ss by_).size ≤ 10000 := by
  unfold joinB
  rw [mkB_size]
  have h1 := join_len_le (xs := datas ss) (m := 16) by_.data.toList (fun x hx => by
    obtain ⟨s, hs, rfl⟩ := List.mem_map.1 hx
    exact (word_len ((wordsB_iff ss).1 h s hs)).2)
  rw [datas_len, size_data] at h1
  have h2 : (16 + by_.size) * ss.length ≤ 26 * 60 := Nat.mul_le_mul (by omega) hn
  omega
theorem wt_bad {ss : List ByteArray} (h : wordsB ss = false) : wtN ss = 1 ∧ wtS ss = ⟨#[]⟩ := by
  have e : wtN ss = 1 := by unfold wtN; rw [h]; rfl
  exact ⟨e, by unfold wtS; rw [e]; rfl⟩
theorem wt_long {ss : List ByteArray} (h : wordsB ss = true) (hn : 60 < ss.length) : wtN ss = 3 ∧ wtS ss = ⟨#[]⟩ := by
  have e : wtN ss = 3 := by unfold wtN; rw [h, if_pos rfl, if_neg (by omega)]
  exact ⟨e, by unfold wtS; rw [e]; rfl⟩
theorem wt_ok {ss : List ByteArray} (h : wordsB ss = true) (hn : ss.length ≤ 60) : wtN ss = 0 ∧ wtS ss = if ss.length = 0 then minus else joinB ss comma := by
  have e : wtN ss = 0 := by unfold wtN; rw [h, if_pos rfl, if_pos hn]
  exact ⟨e, by unfold wtS; rw [e]; rfl⟩

set_option maxHeartbeats 2000000 in
theorem spec_WordsText {v : Value} {ss : List ByteArray} {w : World} (h : Strs w v ss) (hf : StrsFit ss) :
    Calls Tryd.prog 31 #[v] w fun e w' => e = .returned (.tuple #[.string (wtS ss), .int .i64 (wtN ss)]) ∧ Below w.heap.size w w' := by
  have HA := Lib.hid (spec_l01All h hf)
  have HJ := Lib.hid (fun hm => spec_l01Words comma h hm)
  obtain ⟨a, n, c, rfl, H⟩ := h.parts
  have hlen := Lib.hid H.len
  have hcap := H.cap
  have hmost := H.most
  unfold maxLen at hmost
  clear h hf H
  cases hw : wordsB ss
  · have hx := wt_bad hw
    rw [hw] at HA
    generalize wtS ss = t at *
    generalize wtN ss = x at *
    obtain ⟨rfl, rfl⟩ := hx
    clear HJ hw
    go_enter Tryd.func31, Tryd.ntmps31
    go_wp2_with fail
    refine HA.out.mono ?_
    rintro e w' ⟨rfl, rfl⟩
    go_wp2_with fail
    go_ret2
    exact ⟨rfl, Below.refl _ _⟩
  · by_cases hn : n ≤ 60
    · have hx := wt_ok hw (by rw [hlen.out]; exact hn)
      rw [hlen.out] at hx
      have HK := Lib.hid (HJ.out (by have := joinB_words comma hw (by rw [hlen.out]; exact hn) (by decide); omega))
      rw [hw] at HA
      generalize wtS ss = t at *
      generalize wtN ss = x at *
      obtain ⟨rfl, rfl⟩ := hx
      clear HJ hw
      by_cases h0 : n = 0
      · subst h0
        go_enter Tryd.func31, Tryd.ntmps31
        go_wp2_with fail
        refine HA.out.mono ?_
        rintro e w' ⟨rfl, rfl⟩
        go_wp2_with fail
        go_ret2
        exact ⟨rfl, Below.refl _ _⟩
      · rw [if_neg h0]
        have hb : ((n : Int) == 0) = false := by simpa using h0
        clear h0
        unfold comma at *
        go_enter Tryd.func31, Tryd.ntmps31
        go_wp2_with fail
        refine HA.out.mono ?_
        rintro e w' ⟨rfl, rfl⟩
        go_wp2_with fail
        refine HK.out.mono ?_
        rintro e w' ⟨rfl, rfl⟩
        go_wp2_with fail
        go_ret2
        exact ⟨rfl, Below.refl _ _⟩
    · have hx := wt_long hw (by rw [hlen.out]; omega)
      rw [hw] at HA
      generalize wtS ss = t at *
      generalize wtN ss = x at *
      obtain ⟨rfl, rfl⟩ := hx
      clear HJ hw
      go_enter Tryd.func31, Tryd.ntmps31
      go_wp2_with fail
      refine HA.out.mono ?_
      rintro e w' ⟨rfl, rfl⟩
      go_wp2_with fail
      go_ret2
      exact ⟨rfl, Below.refl _ _⟩

set_option maxHeartbeats 2000000 in
theorem impl_WordsText {v : Value} {ss : List ByteArray} {w : World} (h : Strs w v ss) (hf : StrsFit ss) :
    Calls Tryd.prog 30 #[v] w fun e w' => e = .returned (.tuple #[.string (wtS ss), .int .i64 (wtN ss)]) ∧ Below w.heap.size w w' := by
  have HA := Lib.hid (impl_areWords h hf)
  obtain ⟨a, n, c, rfl, H⟩ := h.parts
  have hlen := Lib.hid H.len
  have hcap := H.cap
  have hmost := H.most
  unfold maxLen at hmost
  clear h hf
  cases hw : wordsB ss
  · have hx := wt_bad hw
    rw [hw] at HA
    generalize wtS ss = t at *
    generalize wtN ss = x at *
    obtain ⟨rfl, rfl⟩ := hx
    clear hw H
    go_enter Tryd.func30, Tryd.ntmps30
    go_wp2_with fail
    refine HA.out.mono ?_
    rintro e w' ⟨rfl, rfl⟩
    go_wp2_with fail
    go_ret2
    exact ⟨rfl, Below.refl _ _⟩
  · by_cases hn : n ≤ 60
    · have hx := wt_ok hw (by rw [hlen.out]; exact hn)
      rw [hlen.out] at hx
      have hsz := joinB_words comma hw (by rw [hlen.out]; exact hn) (by decide)
      rw [hw] at HA
      generalize wtS ss = t at *
      generalize wtN ss = x at *
      obtain ⟨rfl, rfl⟩ := hx
      clear hw
      by_cases h0 : n = 0
      · subst h0
        clear H hsz
        go_enter Tryd.func30, Tryd.ntmps30
        go_wp2_with fail
        refine HA.out.mono ?_
        rintro e w' ⟨rfl, rfl⟩
        go_wp2_with fail
        refine (fewT_yes 0 hn _).mono ?_
        rintro e w' ⟨rfl, rfl⟩
        go_wp2_with fail
        go_ret2
        exact ⟨rfl, Below.refl _ _⟩
      · rw [if_neg h0]
        obtain ⟨b, o, ha, hbb, hc⟩ := H.cells (by omega)
        subst ha
        have HJ : Hid (Calls Tryd.prog 62 #[.slice (some ⟨b, o, none⟩) n c, .string ⟨#[44]⟩] w fun e w' => e = .returned (.string (joinB ss ⟨#[44]⟩)) ∧ Below w.heap.size w w') := Lib.hid (by
          have hl := hlen.out
          subst hl
          exact Tryd.strings_Join b o c ss ⟨#[44]⟩ w hc hbb (by omega) hcap (by
            have := hsz
            unfold joinB at this
            rw [mkB_size] at this
            unfold comma at this
            unfold datas at this
            omega))
        have hb : ((n : Int) == 0) = false := by simpa using h0
        clear h0 hc H
        unfold comma at *
        go_enter Tryd.func30, Tryd.ntmps30
        go_wp2_with fail
        refine HA.out.mono ?_
        rintro e w' ⟨rfl, rfl⟩
        go_wp2_with fail
        refine (fewT_yes n hn _).mono ?_
        rintro e w' ⟨rfl, rfl⟩
        go_wp2_with fail
        refine HJ.out.mono ?_
        rintro e w' ⟨rfl, b1⟩
        go_wp2_with fail
        go_ret2
        exact ⟨rfl, b1⟩
    · have hx := wt_long hw (by rw [hlen.out]; omega)
      rw [hw] at HA
      generalize wtS ss = t at *
      generalize wtN ss = x at *
      obtain ⟨rfl, rfl⟩ := hx
      clear hw H
      go_enter Tryd.func30, Tryd.ntmps30
      go_wp2_with fail
      refine HA.out.mono ?_
      rintro e w' ⟨rfl, rfl⟩
      go_wp2_with fail
      refine (fewT_no n (by omega) (by omega) _).mono ?_
      rintro e w' ⟨rfl, rfl⟩
      go_wp2_with fail
      go_ret2
      exact ⟨rfl, Below.refl _ _⟩
end Go.Proofs.YtimjjednfhnbbaaDoor
