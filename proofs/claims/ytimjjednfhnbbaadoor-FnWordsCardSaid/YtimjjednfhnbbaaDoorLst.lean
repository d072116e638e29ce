/-
  The text of numbers, the program's and the reference's.
  Conditions: each lemma names its own.
-/
import Derived.Test.YtimjjednfhnbbaaDoorLb
import Derived.Test.YtimjjednfhnbbaaDoorTxW
import Derived.Test.YtimjjednfhnbbaaDoorSum
namespace Go.Proofs.YtimjjednfhnbbaaDoor
open Go.RowKit
set_option linter.unusedVariables false

/-- The numerals of numbers. -/
def nums (xs : List Int) : List ByteArray := xs.map itoB
theorem nums_len (xs : List Int) : (nums xs).length = xs.length := by simp [nums]
theorem nums_at {xs : List Int} {k : Nat} {x : Int} (h : xs[k]? = some x) : (nums xs)[k]? = some (itoB x) := by unfold nums; rw [List.getElem?_map, h]; rfl
/-- All are values. -/
def ValsF (xs : List Int) : Prop := (∀ x ∈ xs, -1000000000000 ≤ x ∧ x ≤ 1000000000000) ∧ xs.length ≤ 60
theorem valsF_of {xs : List Int} (h : valsC xs = 0) : ValsF xs := by
  obtain ⟨h1, h2⟩ := allTo_of_valsC h
  refine ⟨fun x hx => ?_, h2⟩
  obtain ⟨k, hk, rfl⟩ := List.getElem_of_mem hx
  have : valB (xs.getD k 0) = true := h1 k hk
  rw [getD_of (List.getElem?_eq_getElem hk)] at this
  unfold valB at this
  simpa using this
theorem nums_join {xs : List Int} (h : ValsF xs) (by_ : ByteArray) (hb : by_.size ≤ 10) : (joinB (nums xs) by_).size ≤ 10000 := by
  unfold joinB
  rw [mkB_size]
  have h1 := join_len_le (xs := datas (nums xs)) (m := 21) by_.data.toList (fun l hl => by
    obtain ⟨s, hs, rfl⟩ := List.mem_map.1 hl
    obtain ⟨x, hx, rfl⟩ := List.mem_map.1 hs
    have := h.1 x hx
    rw [size_data]
    exact itoB_size (by omega) (by omega))
  rw [datas_len, nums_len, size_data] at h1
  have h2 : (21 + by_.size) * xs.length ≤ 31 * 60 := Nat.mul_le_mul (by omega) h.2
  omega

set_option maxRecDepth 100000 in
set_option maxHeartbeats 2000000 in
theorem spec_join {v : Value} {xs : List Int} {w : World} (by_ : ByteArray) (h : Ints w v xs) (hv : ValsF xs) (hb : by_.size ≤ 10) :
    Calls Tryd.prog 81 #[v, .string by_] w fun e w' => e = .returned (.string (joinB (nums xs) by_)) ∧ Below w.heap.size w w' := by
  have HP := Lib.hid h
  obtain ⟨a, n, c, rfl, H⟩ := h.parts
  have hlen := Lib.hid H.len
  have hcap := H.cap
  have hmost := H.most
  unfold maxLen at hmost
  have hm := nums_join hv by_ hb
  replace hv := Lib.hid hv
  clear H h
  go_enter Tryd.func81, Tryd.ntmps81
  go_wp2_with fail
  go_loopw [5, 6] (fun o i wr => ∃ (k : Nat) (out : ByteArray), k ≤ n ∧ i = .int .i64 k ∧ o = .string out ∧ Hid (out = joinB ((nums xs).take k) by_) ∧ Below w.heap.size w wr) (fun _ i _ => n - (intOf i).toNat)
  case atStart => exact ⟨0, ⟨#[]⟩, Nat.zero_le _, rfl, rfl, Lib.hid rfl, Below.refl _ _⟩
  case round =>
    obtain ⟨k, out, hk, rfl, rfl, hout, BB⟩ := hrel
    by_cases hlt : k < n
    · obtain ⟨x, hx⟩ := at_of (xs := xs) (k := k) (by have := hlen.out; omega)
      have hxb := hv.out.1 x (List.mem_of_getElem? hx)
      have hs := nums_at hx
      obtain ⟨a', n', c', hv', H⟩ := (HP.out.below BB).parts
      injection hv' with hv1 hv2 hv3
      subst hv1 hv2 hv3
      obtain ⟨b, o, ha, hbb, hc⟩ := H.cells (by omega)
      subst ha
      have hcell := hc k x hx
      have HN := Lib.hid (fun w => spec_number x (by omega) (by omega) w)
      have hz := joinB_size (nums xs) by_ (k + 1)
      clear hc H hx
      generalize itoB x = s at *
      by_cases hk0 : 0 < k
      · have hj := joinB_succ (by_ := by_) hs hk0
        rw [hj, ← hout.out, ByteArray.size_append, ByteArray.size_append] at hz
        have hnext : Hid (out ++ by_ ++ s = joinB ((nums xs).take (k + 1)) by_) := Lib.hid (by rw [hj, ← hout.out])
        clear hj hs
        have hz' : out.size + by_.size + s.size ≤ 10000 := by omega
        have hz2 : (out ++ by_ : ByteArray).size ≤ 10000 := by rw [ByteArray.size_append]; omega
        clear hz
        go_wp2_with fail
        refine (HN.out _).mono ?_
        rintro e w1 ⟨rfl, b1⟩
        replace BB := below_next BB (Nat.le_refl _) b1
        clear hcell
        go_wp2_with fail
        go_roundw
        case rel => exact ⟨k + 1, _, by omega, by go_num, rfl, hnext, BB⟩
        case measure => simp [intOf]; omega
      · obtain rfl : k = 0 := by omega
        have hj := joinB_one (by_ := by_) hs
        rw [hj] at hz
        have ho : out = ⟨#[]⟩ := hout.out
        subst ho
        have hnext : Hid (⟨#[]⟩ ++ s = joinB ((nums xs).take (0 + 1)) by_) := Lib.hid (by rw [hj]; refine bytes_inj ?_; simp)
        clear hj hs
        have hz' : s.size ≤ 10000 := by omega
        clear hz
        simp only [Nat.add_zero] at hcell
        go_wp2_with fail
        refine (HN.out _).mono ?_
        rintro e w1 ⟨rfl, b1⟩
        replace BB := below_next BB (Nat.le_refl _) b1
        clear hcell
        go_wp2_with fail
        go_roundw
        case rel => exact ⟨1, _, by omega, by go_num, rfl, hnext, BB⟩
        case measure => simp [intOf]; omega
    · have hfin : Hid (out = joinB (nums xs) by_) := Lib.hid (by rw [hout.out, List.take_of_length_le (by rw [nums_len]; have := hlen.out; omega)])
      go_wp2_with fail
      go_ret
      exact ⟨rs hfin.out, BB⟩
/-- The text of numbers. -/
def ltS (xs : List Int) : ByteArray := if xs.length = 0 then minus else joinB (nums xs) comma
set_option maxHeartbeats 1000000 in
theorem spec_text {v : Value} {xs : List Int} {w : World} (h : Ints w v xs) (hv : ValsF xs) :
    Calls Tryd.prog 55 #[v] w fun e w' => e = .returned (.string (ltS xs)) ∧ Below w.heap.size w w' := by
  have HJ := Lib.hid (spec_join comma h hv (by decide))
  obtain ⟨a, n, c, rfl, H⟩ := h.parts
  have hlen := H.len
  have hcap := H.cap
  have hmost := H.most
  unfold maxLen at hmost
  clear H h hv
  unfold comma at HJ
  by_cases h0 : n = 0
  · have hS : Hid (ltS xs = minus) := Lib.hid (by unfold ltS; rw [hlen, if_pos h0])
    subst h0
    clear hlen HJ
    go_enter Tryd.func55, Tryd.ntmps55
    go_wp2_with fail
    go_ret
    exact ⟨rs hS.out.symm, Below.refl _ _⟩
  · have hS : Hid (ltS xs = joinB (nums xs) comma) := Lib.hid (by unfold ltS; rw [hlen, if_neg h0])
    have hb : ((n : Int) == 0) = false := by rw [beq_eq_false_iff_ne]; omega
    clear hlen h0
    go_enter Tryd.func55, Tryd.ntmps55
    go_wp2_with fail
    refine HJ.out.mono ?_
    rintro e w1 ⟨rfl, b1⟩
    go_wp2_with fail
    go_ret
    exact ⟨rs hS.out.symm, b1⟩
theorem single_strL (w : World) (x : ByteArray) (e : TypeId) : ∀ j u, [Value.string x][j]? = some u → (w.alloc (.cells #[.string x] e)).cell? ((⟨w.heap.size, 0, none⟩ : Addr).add j) = some u := by
  intro j u hj
  match j, hj with
  | 0, hj =>
    have hg := heap_alloc_new w (.cells #[.string x] e)
    rw [Addr.add_lit, cell_of_row _ _ _ _ _ _ hg]
    simpa using hj
theorem ownT_snoc {base : Nat} {v : Value} {ss : List ByteArray} {s : ByteArray} {w : World} (h : w.ownsRow base 9 1 v (ss.length + 1) (ss.map Value.string ++ [Value.string s])) : OwnT base v (ss ++ [s]) w := by
  unfold OwnT
  rw [List.length_append, List.map_append]
  exact h
set_option maxRecDepth 100000 in
set_option maxHeartbeats 2000000 in
theorem impl_numbersText {v : Value} {xs : List Int} {w : World} (h : Ints w v xs) (hv : ValsF xs) (hl : LbT w) :
    Calls Tryd.prog 57 #[v] w fun e w' => e = .returned (.string (ltS xs)) ∧ Below w.heap.size w w' := by
  have HP := Lib.hid h
  obtain ⟨a, n, c, rfl, H⟩ := h.parts
  have hlen := Lib.hid H.len
  have hcap := H.cap
  have hmost := H.most
  unfold maxLen at hmost
  have hm := nums_join hv comma (by decide)
  have hn60 := hv.2
  rw [hlen.out] at hn60
  replace hv := Lib.hid hv
  replace hl := Lib.hid hl
  clear H h
  by_cases h0 : n = 0
  · have hS : Hid (ltS xs = minus) := Lib.hid (by unfold ltS; rw [hlen.out, if_pos h0])
    subst h0
    go_enter Tryd.func57, Tryd.ntmps57
    go_wp2_with fail
    go_ret
    exact ⟨rs hS.out.symm, Below.refl _ _⟩
  · have hS : Hid (ltS xs = joinB (nums xs) comma) := Lib.hid (by unfold ltS; rw [hlen.out, if_neg h0])
    have hb : ((n : Int) == 0) = false := by rw [beq_eq_false_iff_ne]; omega
    have hn1 : 1 ≤ n := by omega
    obtain ⟨i0, hi, hz0, hz1, hz2⟩ := info_parts info_str
    have hown : (w.alloc (.cells #[] 9)).ownsRow w.heap.size 9 1 (.slice (some ⟨w.heap.size, 0, none⟩) 0 0) 0 (([] : List ByteArray).map Value.string) := World.ownsRow_lit w #[] 0 (by omega) (by decide) rfl
    have BB : Below w.heap.size w (w.alloc (.cells #[] 9)) := (Below.refl _ _).alloc (Nat.le_refl _) _
    clear h0
    go_enter Tryd.func57, Tryd.ntmps57
    go_wp2_with fail
    go_loopw [3, 12] (fun o i wr => ∃ k : Nat, k ≤ n ∧ i = .int .i64 k ∧ OwnT w.heap.size o ((nums xs).take k) wr ∧ Below w.heap.size w wr) (fun _ i _ => n - (intOf i).toNat)
    case atStart => exact ⟨0, Nat.zero_le _, rfl, hown, BB⟩
    case round =>
      obtain ⟨k, hk, rfl, HO, B1⟩ := hrel
      clear hown BB
      have htl : Hid (((nums xs).take k).length = k) := Lib.hid (by rw [List.length_take, nums_len, hlen.out]; omega)
      have htb : ((nums xs).take k).length ≤ 60 := by rw [htl.out]; omega
      obtain ⟨a1, c1, rfl, hc1, hc2, hc3⟩ := own_form HO
      by_cases hlt : k < n
      · obtain ⟨x, hx⟩ := at_of (xs := xs) (k := k) (by have := hlen.out; omega)
        have hxb := hv.out.1 x (List.mem_of_getElem? hx)
        have hs := nums_at hx
        obtain ⟨a', n', c', hv', H⟩ := (HP.out.below B1).parts
        injection hv' with hv1 hv2 hv3
        subst hv1 hv2 hv3
        obtain ⟨b, o, ha, hbb, hc⟩ := H.cells (by omega)
        subst ha
        have hcell := hc k x hx
        have HD := Lib.hid (fun w hl => impl_decimal x (by omega) (by omega) (w := w) hl)
        have hR : Hid ((nums xs).take (k + 1) = (nums xs).take k ++ [itoB x]) := Lib.hid (by rw [List.take_add_one, hs]; rfl)
        clear hc H hx hs
        generalize itoB x = s at *
        generalize hR' : (nums xs).take (k + 1) = R' at *
        replace hR' := Lib.hid hR'
        generalize (nums xs).take k = R at *
        go_wp2_with fail
        refine (HD.out _ (hl.out.below B1)).mono ?_
        rintro e w1 ⟨rfl, b1⟩
        replace HO := HO.below b1
        replace B1 := below_next B1 (Nat.le_refl _) b1
        have hsz := B1.size
        clear hcell b1
        go_wp2_with (at_builtin; refine wpList_append_own _ rfl _ _ 22 rfl w.heap.size 9 i0 (.string ⟨#[]⟩) 1 16 Tryd.underlying22 hi hz0 hz1 hz2 rfl (by decide) _ _ _ rfl (World.ownsRow.alloc HO _) ⟨w1.heap.size, 0, none⟩ 1 1 [.string s] rfl rfl ?c1 ?c2 ?c3 ?c4 ?c5 ?_)
        case c1 => exact single_strL _ _ _
        case c2 => intro u hu; simp at hu; subst hu; rfl
        case c3 => unfold maxLen; omega
        case c4 => omega
        case c5 => simp; omega
        intro v' w5 hown' hgrow _
        have hB5 := below_append B1 hsz HO hgrow
        have hO5 : Hid (OwnT w.heap.size v' R' w5) := Lib.hid (by rw [hR.out]; exact ownT_snoc hown')
        clear hown' hgrow HO
        go_wp2_with fail
        go_roundw
        case rel => exact ⟨k + 1, by omega, by go_num, by rw [hR'.out]; exact hO5.out, hB5⟩
        case measure => simp [intOf]; omega
      · obtain rfl : k = n := by omega
        have hall : (nums xs).take k = nums xs := List.take_of_length_le (by rw [nums_len, hlen.out]; omega)
        obtain ⟨g, ha1, hg1, hg2⟩ := hc3 (by rw [htl.out]; omega)
        subst ha1
        obtain ⟨_, a2, c2, hv2, _, _, _, hcl⟩ := HO.strs
        injection hv2 with e1 e2 e3
        subst e1
        obtain ⟨b2, o2, e4, hb2, hcl2⟩ := hcl (by rw [htl.out]; omega)
        injection e4 with e4
        injection e4 with e4 e5
        subst e4 e5
        have hc1' : (nums xs).length ≤ c1 := by rw [← hall]; exact hc1
        have hnl : (nums xs).length = k := by rw [nums_len, hlen.out]
        have HJ : Hid (Calls Tryd.prog 62 #[.slice (some ⟨g, 0, none⟩) k c1, .string ⟨#[44]⟩] wr fun e w' => e = .returned (.string (joinB (nums xs) comma)) ∧ Below wr.heap.size wr w') := Lib.hid (by
          have := Tryd.strings_Join g 0 c1 (nums xs) ⟨#[44]⟩ wr (fun j x hj => hcl2 j _ (by rw [hall, List.getElem?_map, hj]; rfl)) hg2 (by omega) hc1' (by
            have := hm
            unfold joinB at this
            rw [mkB_size] at this
            exact Nat.le_trans this (by omega))
          rw [hnl] at this
          exact this)
        have hX := htl.out
        clear hcl hcl2 HO hall e2 e3 hc3 hc1' hnl htb hc1
        go_wp2_with fail
        refine HJ.out.mono ?_
        rintro e w1 ⟨rfl, b1⟩
        replace B1 := below_next B1 (Nat.le_refl _) b1
        go_wp2_with fail
        go_ret
        exact ⟨rs hS.out.symm, B1⟩
end Go.Proofs.YtimjjednfhnbbaaDoor
