/-
  Texts cut at a byte: l01Split of the reference, strings.Split as the program calls it.
  Conditions: each lemma names its own.
-/
import Derived.Test.YtibfpajblcfobaaDoorLst
namespace Go.Proofs.YtibfpajblcfobaaDoor
open Go.RowKit
set_option linter.unusedVariables false

/-- The pieces of s, cut at c. -/
def pcs (c : UInt8) (s : ByteArray) : List ByteArray := (cutAt c s.data.toList).map mkB
theorem pcs_datas (c : UInt8) (s : ByteArray) : datas (pcs c s) = cutAt c s.data.toList := by
  unfold datas pcs
  rw [List.map_map]
  have : ((fun x : ByteArray => x.data.toList) ∘ mkB) = id := by funext l; exact mkB_data l
  rw [this, List.map_id]
theorem pcs_of {c : UInt8} {s : ByteArray} {ss : List ByteArray} (h : datas ss = cutAt c s.data.toList) : ss = pcs c s := datas_inj (by rw [h, pcs_datas])
theorem pcs_len (c : UInt8) (s : ByteArray) : (pcs c s).length ≤ s.size + 1 := by
  unfold pcs
  rw [List.length_map, ← size_data s]
  exact cut_len c _ _
theorem pcs_size {c : UInt8} {s p : ByteArray} (h : p ∈ pcs c s) : p.size ≤ s.size := by
  obtain ⟨l, hl, rfl⟩ := List.mem_map.1 h
  have := cut_sum c s.data.toList [] l hl
  rw [mkB_size, ← size_data s]
  simpa using this
theorem pcs_pos (c : UInt8) (s : ByteArray) : 0 < (pcs c s).length := by
  unfold pcs
  rw [List.length_map]
  exact List.length_pos_iff.2 (cutGo_ne c _ _)
/-- Cut so far: the pieces, what stands since, what is to come. -/
def Cutting (c : UInt8) (s : ByteArray) (ss : List ByteArray) (from_ k : Nat) : Prop := datas ss ++ cutGo c (s.extract from_ k).data.toList (s.data.toList.drop k) = cutAt c s.data.toList
theorem ext_data (s : ByteArray) (a b : Nat) : (s.extract a b).data.toList = (s.data.toList.drop a).take (b - a) := Lib.extract_data s a b
theorem cutting_zero (c : UInt8) (s : ByteArray) : Cutting c s [] 0 0 := by
  unfold Cutting cutAt
  rw [ext_data]
  simp [datas]
theorem drop_at {s : ByteArray} {k : Nat} (h : k < s.size) : s.data.toList.drop k = s[k] :: s.data.toList.drop (k + 1) := by
  rw [List.drop_eq_getElem_cons (by rw [size_data]; exact h)]
  rfl
theorem ext_snoc {s : ByteArray} {a k : Nat} (h : k < s.size) (ha : a ≤ k) : (s.extract a (k + 1)).data.toList = (s.extract a k).data.toList ++ [s[k]] := by
  rw [ext_data, ext_data, show k + 1 - a = (k - a) + 1 by omega, List.take_add_one]
  congr 1
  rw [List.getElem?_drop, show a + (k - a) = k by omega, List.getElem?_eq_getElem (by rw [size_data]; exact h)]
  rfl
theorem cutting_on {c : UInt8} {s : ByteArray} {ss : List ByteArray} {a k : Nat} (h : Cutting c s ss a k) (hk : k < s.size) (ha : a ≤ k) (hc : s[k] ≠ c) : Cutting c s ss a (k + 1) := by
  unfold Cutting at *
  rw [drop_at hk, cutGo, if_neg hc, ← ext_snoc hk ha] at h
  exact h
theorem cutting_cut {c : UInt8} {s : ByteArray} {ss : List ByteArray} {a k : Nat} (h : Cutting c s ss a k) (hk : k < s.size) (hc : s[k] = c) : Cutting c s (ss ++ [s.extract a k]) (k + 1) (k + 1) := by
  unfold Cutting at *
  rw [drop_at hk, cutGo, if_pos hc] at h
  rw [← h, ext_data s (k + 1) (k + 1)]
  simp [datas]
theorem cutting_end {c : UInt8} {s : ByteArray} {ss : List ByteArray} {a : Nat} (h : Cutting c s ss a s.size) : ss ++ [s.extract a s.size] = pcs c s := by
  unfold Cutting at h
  rw [List.drop_of_length_le (by rw [size_data]; omega), cutGo] at h
  refine pcs_of ?_
  rw [← h]
  simp [datas]
theorem cutting_len {c : UInt8} {s : ByteArray} {ss : List ByteArray} {a k : Nat} (h : Cutting c s ss a k) : ss.length ≤ s.size := by
  unfold Cutting at h
  have h1 := cut_len c s.data.toList []
  have h2 := congrArg List.length h
  rw [List.length_append, datas_len] at h2
  have h3 : 0 < (cutGo c (s.extract a k).data.toList (s.data.toList.drop k)).length := List.length_pos_iff.2 (cutGo_ne c _ _)
  unfold cutAt at h2
  rw [size_data] at h1
  omega

set_option maxRecDepth 100000 in
set_option maxHeartbeats 4000000 in
theorem spec_split (c : UInt8) (s : ByteArray) (hs : s.size ≤ 1048576) (w : World) :
    Calls Tryd.prog 21 #[.string s, .int .u8 (c.toNat : Int)] w fun e w' => ∃ v, e = .returned v ∧ OwnT w.heap.size v (pcs c s) w' ∧ Below w.heap.size w w' := by
  obtain ⟨i0, hi, hz0, hz1, hz2⟩ := info_parts info_str
  have hown : (w.alloc (.cells #[] 9)).ownsRow w.heap.size 9 1 (.slice (some ⟨w.heap.size, 0, none⟩) 0 0) 0 (([] : List ByteArray).map Value.string) := World.ownsRow_lit w #[] 0 (by omega) (by decide) rfl
  have BB : Below w.heap.size w (w.alloc (.cells #[] 9)) := (Below.refl _ _).alloc (Nat.le_refl _) _
  go_enter Tryd.func21, Tryd.ntmps21
  go_wp2_with fail
  go_loopw [5, 6, 7] (fun v q i wr => ∃ (k a : Nat) (ss : List ByteArray), i = .int .i64 k ∧ q = .int .i64 a ∧ OwnT w.heap.size v ss wr ∧ Below w.heap.size w wr ∧ ((k ≤ s.size ∧ a ≤ k ∧ Cutting c s ss a k) ∨ (k = s.size + 1 ∧ ss = pcs c s))) (fun _ _ i _ => s.size + 1 - (intOf i).toNat)
  case atStart => exact ⟨0, 0, [], rfl, rfl, hown, BB, Or.inl ⟨Nat.zero_le _, Nat.le_refl _, cutting_zero c s⟩⟩
  case round =>
    obtain ⟨k, a, ss, rfl, rfl, HO, B1, hcut⟩ := hrel
    clear hown BB
    obtain ⟨a1, c1, rfl, hc1, hc2, hc3⟩ := own_form HO
    have hsz := B1.size
    rcases hcut with ⟨hk, ha, hC⟩ | ⟨hk, hfin⟩
    · have hl := cutting_len hC
      by_cases hlt : k < s.size
      · have hlt2 : ((k : Int) == (s.size : Int)) = false := by rw [beq_eq_false_iff_ne]; omega
        by_cases hc : s[k] = c
        · have hb : ((s[k].toNat : Int) == (c.toNat : Int)) = true := by rw [hc]; simp
          have hN := Lib.hid (cutting_cut hC hlt hc)
          clear hc hC
          go_wp2_with (at_builtin; refine wpList_append_own _ rfl _ _ 42 rfl w.heap.size 9 i0 (.string ⟨#[]⟩) 1 16 Tryd.underlying42 hi hz0 hz1 hz2 rfl (by decide) _ _ _ rfl (World.ownsRow.alloc HO _) ⟨wr.heap.size, 0, none⟩ 1 1 [.string (s.extract a k)] rfl rfl ?c1 ?c2 ?c3 ?c4 ?c5 ?_)
          case c1 => exact single_strL _ _ _
          case c2 => intro u hu; simp at hu; subst hu; rfl
          case c3 => unfold maxLen; omega
          case c4 => omega
          case c5 => simp; omega
          intro v' w5 hown' hgrow _
          have hB5 := below_append B1 hsz HO hgrow
          have hO5 : Hid (OwnT w.heap.size v' (ss ++ [s.extract a k]) w5) := Lib.hid (ownT_snoc hown')
          clear hown' hgrow HO
          go_wp2_with fail
          go_roundw
          case rel => exact ⟨k + 1, k + 1, _, by go_num, by go_num, hO5.out, hB5, Or.inl ⟨by omega, Nat.le_refl _, hN.out⟩⟩
          case measure => simp [intOf]; omega
        · have hb : ((s[k].toNat : Int) == (c.toNat : Int)) = false := by rw [beq_eq_false_iff_ne]; exact fun e => hc (UInt8.toNat_inj.1 (by omega))
          have hN := Lib.hid (cutting_on hC hlt ha hc)
          replace HO := Lib.hid HO
          clear hc hC
          go_wp2_with fail
          go_roundw
          case rel => exact ⟨k + 1, a, _, by go_num, rfl, HO.out, B1, Or.inl ⟨by omega, by omega, hN.out⟩⟩
          case measure => simp [intOf]; omega
      · obtain rfl : k = s.size := by omega
        have hN := Lib.hid (cutting_end hC)
        clear hC
        go_wp2_with (at_builtin; refine wpList_append_own _ rfl _ _ 42 rfl w.heap.size 9 i0 (.string ⟨#[]⟩) 1 16 Tryd.underlying42 hi hz0 hz1 hz2 rfl (by decide) _ _ _ rfl (World.ownsRow.alloc HO _) ⟨wr.heap.size, 0, none⟩ 1 1 [.string (s.extract a s.size)] rfl rfl ?c1 ?c2 ?c3 ?c4 ?c5 ?_)
        case c1 => exact single_strL _ _ _
        case c2 => intro u hu; simp at hu; subst hu; rfl
        case c3 => unfold maxLen; omega
        case c4 => omega
        case c5 => simp; omega
        intro v' w5 hown' hgrow _
        have hB5 := below_append B1 hsz HO hgrow
        have hO5 : Hid (OwnT w.heap.size v' (ss ++ [s.extract a s.size]) w5) := Lib.hid (ownT_snoc hown')
        clear hown' hgrow HO
        go_wp2_with fail
        go_roundw
        case rel => exact ⟨s.size + 1, s.size + 1, _, by go_num, by go_num, hO5.out, hB5, Or.inr ⟨rfl, hN.out⟩⟩
        case measure => simp [intOf]
    · subst hfin
      replace HO := Lib.hid HO
      have hk2 : ¬ (k : Int) ≤ (s.size : Int) := by omega
      clear hk
      go_wp2_with fail
      go_ret
      exact ⟨_, rfl, HO.out, B1⟩
/-- strings.Split at one byte. -/
theorem impl_split (c : UInt8) (s : ByteArray) (hs : s.size ≤ 1048576) {w : World} (hl : LbM w) :
    Calls Tryd.prog 23 #[.string s, .string ⟨#[c]⟩] w fun e w' => ∃ v, e = .returned v ∧ OwnT w.heap.size v (pcs c s) w' ∧ Below w.heap.size w w' := by
  obtain ⟨m, hm⟩ := hl
  refine (Tryd.strings_Split s ⟨#[c]⟩ m w (by omega) hm (by show 1 ≤ 1; omega)).mono ?_
  rintro e w' ⟨he, hw⟩
  have hp : Lib.splitB ⟨#[c]⟩ 0 (Lib.countB s ⟨#[c]⟩) s = pcs c s := pcs_of (split_cut c s)
  have hn : (Lib.splitB ⟨#[c]⟩ 0 (Lib.countB s ⟨#[c]⟩) s).length = Lib.countB s ⟨#[c]⟩ + 1 := Lib.splitB_all ⟨#[c]⟩ (by show 1 ≤ 1; omega) 0 _ s rfl
  rw [hp] at hw hn
  rw [← hn] at he
  have hlen := pcs_len c s
  refine ⟨_, he, ?_, ?_⟩
  · rw [hw]
    have := World.ownsRow_lit (e := 9) w ((pcs c s).map Value.string).toArray (pcs c s).length (Nat.le_refl w.heap.size) (by unfold maxLen; omega) (size := 1) (by simp)
    unfold OwnT
    simpa using this
  · rw [hw]
    exact (Below.refl _ _).alloc (Nat.le_refl _) _
end Go.Proofs.YtibfpajblcfobaaDoor
