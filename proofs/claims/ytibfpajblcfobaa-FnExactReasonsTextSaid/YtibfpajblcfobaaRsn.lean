/-
  The text of reasons, the program's and the reference's.
  Conditions: each lemma names its own.
-/
import Derived.Test.YtibfpajblcfobaaTxW
import Derived.Outline
namespace Go.Proofs.Ytibfpajblcfobaa
open Go.RowKit
set_option linter.unusedVariables false

def rsnW : List ByteArray := [⟨#[121, 111, 117, 110, 103]⟩, ⟨#[111, 108, 100]⟩, ⟨#[122, 111, 110, 101]⟩, ⟨#[102, 111, 114, 101, 105, 103, 110]⟩, ⟨#[99, 111, 110, 118, 105, 99, 116, 101, 100]⟩, ⟨#[108, 97, 110, 103, 117, 97, 103, 101]⟩, ⟨#[106, 111, 98]⟩]
/-- The words of the first k reasons that n holds. -/
def rsn (n : Nat) : Nat → List ByteArray
  | 0 => []
  | k + 1 => rsn n k ++ (if n / 2 ^ k % 2 = 1 then [nthS rsnW k] else [])
theorem rsn_len (n : Nat) : ∀ k, (rsn n k).length ≤ k
  | 0 => Nat.le_refl _
  | k + 1 => by
    have := rsn_len n k
    rw [rsn, List.length_append]
    split <;> simp <;> omega
theorem rsn_mem (n : Nat) : ∀ k, k ≤ 7 → ∀ s ∈ rsn n k, s ∈ rsnW
  | 0, _, s, h => by cases h
  | k + 1, hk, s, h => by
    rw [rsn, List.mem_append] at h
    rcases h with h | h
    · exact rsn_mem n k (by omega) s h
    · split at h
      · rw [List.mem_singleton] at h
        subst h
        unfold nthS
        rw [List.getD_eq_getElem?_getD, List.getElem?_eq_getElem (by show k < 7; omega)]
        exact List.getElem_mem _
      · cases h
theorem rsnW_word : ∀ s ∈ rsnW, wordB s.data.toList = true ∧ s.size ≤ 9 := by decide
theorem rsn_yes {n k : Nat} (h : n / 2 ^ k % 2 = 1) : rsn n (k + 1) = rsn n k ++ [nthS rsnW k] := by rw [rsn, if_pos h]
theorem rsn_no {n k : Nat} (h : ¬ n / 2 ^ k % 2 = 1) : rsn n (k + 1) = rsn n k := by rw [rsn, if_neg h, List.append_nil]

theorem rsn_bit : ∀ (n : Fin 128) (k : Fin 7), (bits BinOp.and IntKind.i64 (((n.val : Nat) : Int) / 2 ^ k.val) 1 == 1) = decide (n.val / 2 ^ k.val % 2 = 1) := by decide +kernel
theorem rsn_bit_yes {n k : Nat} (hn : n ≤ 127) (hk : k < 7) (h : n / 2 ^ k % 2 = 1) : (bits BinOp.and IntKind.i64 ((n : Int) / 2 ^ k) 1 == 1) = true := by
  have := rsn_bit ⟨n, by omega⟩ ⟨k, hk⟩
  rw [this]
  exact decide_eq_true h
theorem rsn_bit_no {n k : Nat} (hn : n ≤ 127) (hk : k < 7) (h : ¬ n / 2 ^ k % 2 = 1) : (bits BinOp.and IntKind.i64 ((n : Int) / 2 ^ k) 1 == 1) = false := by
  have := rsn_bit ⟨n, by omega⟩ ⟨k, hk⟩
  rw [this]
  exact decide_eq_false h
theorem single_str (w : World) (x : ByteArray) (e : TypeId) : ∀ j u, [Value.string x][j]? = some u → (w.alloc (.cells #[.string x] e)).cell? ((⟨w.heap.size, 0, none⟩ : Addr).add j) = some u := by
  intro j u hj
  match j, hj with
  | 0, hj =>
    have hg := heap_alloc_new w (.cells #[.string x] e)
    rw [Addr.add_lit, cell_of_row _ _ _ _ _ _ hg]
    simpa using hj
theorem OwnT.snoc {base : Nat} {v : Value} {ss : List ByteArray} {s : ByteArray} {w : World} (h : w.ownsRow base 9 1 v (ss.length + 1) (ss.map Value.string ++ [Value.string s])) : OwnT base v (ss ++ [s]) w := by
  unfold OwnT
  rw [List.length_append, List.map_append]
  exact h
theorem withinR (n : Int) (w : World) : Calls Try.prog 8 #[.int .i64 n, .int .i64 0, .int .i64 127] w fun e w' => e = .returned (.bool (decide (0 ≤ n ∧ n ≤ 127))) ∧ w = w' := by
  by_cases h : 0 ≤ n ∧ n ≤ 127
  · rw [decide_eq_true h]
    exact within_yes n 0 127 h.1 h.2 w
  · rw [decide_eq_false h]
    exact within_no n 0 127 (by omega) w
set_option maxRecDepth 100000 in
set_option maxHeartbeats 4000000 in
theorem impl_ReasonsText (n : Nat) (hn : n ≤ 127) (w : World) :
    Calls Try.prog 5 #[.int .i64 n] w fun e w' => e = .returned (.tuple #[.string (wtS (rsn n 7)), .int .i64 0]) ∧ Below w.heap.size w w' := by
  obtain ⟨i0, hi, hz0, hz1, hz2⟩ := info_parts info_str
  have hown : (w.alloc (.cells #[] 9)).ownsRow w.heap.size 9 1 (.slice (some ⟨w.heap.size, 0, none⟩) 0 0) 0 (([] : List ByteArray).map Value.string) := World.ownsRow_lit w #[] 0 (by omega) (by decide) rfl
  have BB : Below w.heap.size w (w.alloc (.cells #[] 9)) := (Below.refl _ _).alloc (Nat.le_refl _) _
  have HI : ∀ k : Nat, k < 7 → ∀ w : World, (Instr.index 28 (.agg #[.string ⟨#[121, 111, 117, 110, 103]⟩, .string ⟨#[111, 108, 100]⟩, .string ⟨#[122, 111, 110, 101]⟩, .string ⟨#[102, 111, 114, 101, 105, 103, 110]⟩, .string ⟨#[99, 111, 110, 118, 105, 99, 116, 101, 100]⟩, .string ⟨#[108, 97, 110, 103, 117, 97, 103, 101]⟩, .string ⟨#[106, 111, 98]⟩]) (.int .i64 k)).run Try.prog w = .ok (.string (nthS rsnW k)) w := fun k hk w => by
    rcases (show k = 0 ∨ k = 1 ∨ k = 2 ∨ k = 3 ∨ k = 4 ∨ k = 5 ∨ k = 6 by omega) with rfl | rfl | rfl | rfl | rfl | rfl | rfl <;> kernel_rfl
  replace HI := Lib.hid HI
  go_enter Try.func5, Try.ntmps5
  go_wp2_with fail
  refine (within_yes n 0 127 (by omega) (by omega) _).mono ?_
  rintro e w' ⟨rfl, rfl⟩
  go_wp2_with fail
  go_loopw [4, 12] (fun v i wr => ∃ k : Nat, k ≤ 7 ∧ i = .int .i64 k ∧ OwnT w.heap.size v (rsn n k) wr ∧ Below w.heap.size w wr) (fun _ i _ => 7 - (intOf i).toNat)
  case atStart => exact ⟨0, Nat.zero_le _, rfl, hown, BB⟩
  case round =>
    obtain ⟨k, hk, rfl, HO, B1⟩ := hrel
    clear hown BB
    by_cases hlt : k < 7
    · have hix := HI.out k hlt
      obtain ⟨a, c, rfl, hc1, hc2, hc3⟩ := own_form HO
      have hlen := rsn_len n k
      have hsz := B1.size
      by_cases hb : n / 2 ^ k % 2 = 1
      · have hq := rsn_bit_yes hn hlt hb
        have hR := Lib.hid (rsn_yes hb)
        clear hb
        generalize nthS rsnW k = s at *
        generalize hR' : rsn n (k + 1) = R' at *
        replace hR' := Lib.hid hR'
        generalize rsn n k = R at *
        go_wp2_with (at_builtin; refine wpList_append_own _ rfl _ _ 26 rfl w.heap.size 9 i0 (.string ⟨#[]⟩) 1 16 Try.underlying26 hi hz0 hz1 hz2 rfl (by decide) _ _ _ rfl (World.ownsRow.alloc HO _) ⟨wr.heap.size, 0, none⟩ 1 1 [.string s] rfl rfl ?c1 ?c2 ?c3 ?c4 ?c5 ?_)
        case c1 => exact single_str _ _ _
        case c2 => intro u hu; simp at hu; subst hu; rfl
        case c3 => unfold maxLen; omega
        case c4 => omega
        case c5 => simp; omega
        intro v' w5 hown' hgrow _
        have hB5 := below_append B1 hsz HO hgrow
        have hO5 : Hid (OwnT w.heap.size v' R' w5) := Lib.hid (by rw [hR.out]; exact OwnT.snoc hown')
        clear hown' hgrow HO
        go_wp2_with fail
        go_roundw
        case rel => exact ⟨k + 1, by omega, by go_num, by rw [hR'.out]; exact hO5.out, hB5⟩
        case measure => simp [intOf]; omega
      · have hq := rsn_bit_no hn hlt hb
        have hR := Lib.hid (rsn_no hb)
        clear hb
        have hO5 : Hid (OwnT w.heap.size (.slice a (rsn n k).length c) (rsn n (k + 1)) wr) := Lib.hid (by rw [hR.out]; exact HO)
        generalize nthS rsnW k = s at *
        clear HO
        go_wp2_with fail
        go_roundw
        case rel => exact ⟨k + 1, by omega, by go_num, hO5.out, B1⟩
        case measure => simp [intOf]; omega
    · obtain rfl : k = 7 := by omega
      have hW : wordsB (rsn n 7) = true := (wordsB_iff _).2 fun s hs => (rsnW_word s (rsn_mem n 7 (Nat.le_refl _) s hs)).1
      have hF : StrsFit (rsn n 7) := fun s hs => by have := (rsnW_word s (rsn_mem n 7 (Nat.le_refl _) s hs)).2; omega
      have h0 := (wt_ok hW (by have := rsn_len n 7; omega)).1
      have HT := Lib.hid (impl_WordsText HO.strs hF)
      rw [h0] at HT
      obtain ⟨a, c, rfl, hc1, hc2, hc3⟩ := own_form HO
      clear HO hW hF h0
      generalize ht : wtS (rsn n 7) = t at HT
      replace ht := Lib.hid ht
      go_wp2_with fail
      refine HT.out.mono ?_
      rintro e w' ⟨rfl, b1⟩
      replace B1 := below_next B1 (Nat.le_refl _) b1
      go_wp2_with fail
      go_ret2
      exact ⟨rs2 ht.out.symm rfl, B1⟩

theorem impl_ReasonsText_no (n : Int) (hn : n < 0 ∨ 127 < n) (w : World) :
    Calls Try.prog 5 #[.int .i64 n] w fun e w' => e = .returned (.tuple #[.string ⟨#[]⟩, .int .i64 1]) ∧ Below w.heap.size w w' := by
  go_enter Try.func5, Try.ntmps5
  go_wp2_with fail
  refine (within_no n 0 127 hn _).mono ?_
  rintro e w' ⟨rfl, rfl⟩
  go_wp2_with fail
  go_ret2
  exact ⟨rfl, Below.refl _ _⟩
theorem spec_ReasonsText_no (n : Int) (hn : n < 0 ∨ 127 < n) (w : World) :
    Calls Try.prog 4 #[.int .i64 n] w fun e w' => e = .returned (.tuple #[.string ⟨#[]⟩, .int .i64 1]) ∧ Below w.heap.size w w' := by
  go_enter Try.func4, Try.ntmps4
  go_wp2_with fail
  refine (in_no n 0 127 hn _).mono ?_
  rintro e w' ⟨rfl, rfl⟩
  go_wp2_with fail
  go_ret2
  exact ⟨rfl, Below.refl _ _⟩
set_option maxRecDepth 100000 in
set_option maxHeartbeats 4000000 in
theorem spec_ReasonsText (n : Nat) (hn : n ≤ 127) (w : World) :
    Calls Try.prog 4 #[.int .i64 n] w fun e w' => e = .returned (.tuple #[.string (wtS (rsn n 7)), .int .i64 0]) ∧ Below w.heap.size w w' := by
  obtain ⟨i0, hi, hz0, hz1, hz2⟩ := info_parts info_str
  have b0 : Below w.heap.size w (w.alloc (.cells #[.string ⟨#[121, 111, 117, 110, 103]⟩, .string ⟨#[111, 108, 100]⟩, .string ⟨#[122, 111, 110, 101]⟩, .string ⟨#[102, 111, 114, 101, 105, 103, 110]⟩, .string ⟨#[99, 111, 110, 118, 105, 99, 116, 101, 100]⟩, .string ⟨#[108, 97, 110, 103, 117, 97, 103, 101]⟩, .string ⟨#[106, 111, 98]⟩] 9)) := (Below.refl _ _).alloc (Nat.le_refl _) _
  have hs0 := heap_alloc_new w (.cells #[.string ⟨#[121, 111, 117, 110, 103]⟩, .string ⟨#[111, 108, 100]⟩, .string ⟨#[122, 111, 110, 101]⟩, .string ⟨#[102, 111, 114, 101, 105, 103, 110]⟩, .string ⟨#[99, 111, 110, 118, 105, 99, 116, 101, 100]⟩, .string ⟨#[108, 97, 110, 103, 117, 97, 103, 101]⟩, .string ⟨#[106, 111, 98]⟩] 9)
  have hcells : ∀ k : Nat, k < 7 → (w.alloc (.cells #[.string ⟨#[121, 111, 117, 110, 103]⟩, .string ⟨#[111, 108, 100]⟩, .string ⟨#[122, 111, 110, 101]⟩, .string ⟨#[102, 111, 114, 101, 105, 103, 110]⟩, .string ⟨#[99, 111, 110, 118, 105, 99, 116, 101, 100]⟩, .string ⟨#[108, 97, 110, 103, 117, 97, 103, 101]⟩, .string ⟨#[106, 111, 98]⟩] 9)).cell? ⟨w.heap.size, k, none⟩ = some (.string (nthS rsnW k)) := fun k hk => by
    rw [cell_of_row _ _ _ _ _ _ hs0]
    rcases (show k = 0 ∨ k = 1 ∨ k = 2 ∨ k = 3 ∨ k = 4 ∨ k = 5 ∨ k = 6 by omega) with rfl | rfl | rfl | rfl | rfl | rfl | rfl <;> rfl
  have hsz0 : (w.alloc (.cells #[.string ⟨#[121, 111, 117, 110, 103]⟩, .string ⟨#[111, 108, 100]⟩, .string ⟨#[122, 111, 110, 101]⟩, .string ⟨#[102, 111, 114, 101, 105, 103, 110]⟩, .string ⟨#[99, 111, 110, 118, 105, 99, 116, 101, 100]⟩, .string ⟨#[108, 97, 110, 103, 117, 97, 103, 101]⟩, .string ⟨#[106, 111, 98]⟩] 9)).heap.size = w.heap.size + 1 := by simp
  go_enter Try.func4, Try.ntmps4
  go_wp2_with fail
  refine (in_yes n 0 127 (by omega) (by omega) _).mono ?_
  rintro e w' ⟨rfl, rfl⟩
  clear hs0
  generalize hw0 : w.alloc (.cells #[.string ⟨#[121, 111, 117, 110, 103]⟩, .string ⟨#[111, 108, 100]⟩, .string ⟨#[122, 111, 110, 101]⟩, .string ⟨#[102, 111, 114, 101, 105, 103, 110]⟩, .string ⟨#[99, 111, 110, 118, 105, 99, 116, 101, 100]⟩, .string ⟨#[108, 97, 110, 103, 117, 97, 103, 101]⟩, .string ⟨#[106, 111, 98]⟩] 9) = wA at b0 hcells hsz0
  replace hcells := Lib.hid hcells
  replace hw0 := Lib.hid hw0
  have hown : (wA.alloc (.cells #[] 9)).ownsRow wA.heap.size 9 1 (.slice (some ⟨wA.heap.size, 0, none⟩) 0 0) 0 (([] : List ByteArray).map Value.string) := World.ownsRow_lit wA #[] 0 (by omega) (by decide) rfl
  have BB : Below wA.heap.size wA (wA.alloc (.cells #[] 9)) := (Below.refl _ _).alloc (Nat.le_refl _) _
  rw [hsz0] at hown
  replace hown := Lib.hid hown
  replace hsz0 := Lib.hid hsz0
  go_wp2_with fail
  rw [hw0.out]
  go_loopw [0, 5, 6] (fun q v i wr => ∃ k : Nat, k ≤ 7 ∧ i = .int .i64 k ∧ q = .int .i64 ((n / 2 ^ k : Nat) : Int) ∧ OwnT (w.heap.size + 1) v (rsn n k) wr ∧ Below wA.heap.size wA wr) (fun _ _ i _ => 7 - (intOf i).toNat)
  case atStart => exact ⟨0, Nat.zero_le _, rfl, by simp, hown.out, BB⟩
  case round =>
    obtain ⟨k, hk, rfl, rfl, HO, B1⟩ := hrel
    clear hown BB
    have hs1 := B1.size
    have hs2 := hsz0.out
    obtain ⟨a, c, rfl, hc1, hc2, hc3⟩ := own_form HO
    by_cases hlt : k < 7
    · have hcell := (B1.cell (p := ⟨w.heap.size, k, none⟩) (by show w.heap.size < _; omega)).trans (hcells.out k hlt)
      have hlen := rsn_len n k
      have hmb : n / 2 ^ k ≤ 127 := Nat.le_trans (Nat.div_le_self _ _) hn
      have hpow : Hid (n / 2 ^ k / 2 = n / 2 ^ (k + 1)) := Lib.hid (by rw [Nat.div_div_eq_div_mul, Nat.pow_succ])
      have hm : Hid (((n / 2 ^ k : Nat) : Int) % 2 = ((n / 2 ^ k % 2 : Nat) : Int)) := Lib.hid (by omega)
      have hd : Hid (((n / 2 ^ k : Nat) : Int) / 2 = ((n / 2 ^ k / 2 : Nat) : Int)) := Lib.hid (by omega)
      by_cases hb : n / 2 ^ k % 2 = 1
      · have hR := Lib.hid (rsn_yes hb)
        generalize nthS rsnW k = s at *
        generalize hR' : rsn n (k + 1) = R' at *
        replace hR' := Lib.hid hR'
        generalize rsn n k = R at *
        generalize hm2 : n / 2 ^ k = m at *
        have hq : ((m : Int) % 2 == 1) = true := by rw [beq_iff_eq]; omega
        have hd' : Hid ((m : Int) / 2 = ((m / 2 : Nat) : Int)) := Lib.hid (by omega)
        clear hb hs2 hm2 hm hd
        go_wp2_with (at_builtin; refine wpList_append_own _ rfl _ _ 26 rfl (w.heap.size + 1) 9 i0 (.string ⟨#[]⟩) 1 16 Try.underlying26 hi hz0 hz1 hz2 rfl (by decide) _ _ _ rfl (World.ownsRow.alloc HO _) ⟨wr.heap.size, 0, none⟩ 1 1 [.string s] rfl rfl ?c1 ?c2 ?c3 ?c4 ?c5 ?_)
        case c1 => exact single_str _ _ _
        case c2 => intro u hu; simp at hu; subst hu; rfl
        case c3 => unfold maxLen; omega
        case c4 => omega
        case c5 => simp; have := hsz0.out; omega
        intro v' w5 hown' hgrow _
        have hB5 : Below wA.heap.size wA w5 := by
          have e := hsz0.out
          rw [e] at B1 ⊢
          exact below_append B1 (by omega) HO hgrow
        have hO5 : Hid (OwnT (w.heap.size + 1) v' R' w5) := Lib.hid (by rw [hR.out]; exact OwnT.snoc hown')
        clear hown' hgrow HO hcell
        go_wp2_with fail
        go_roundw
        case rel => exact ⟨k + 1, by omega, by go_num, by rw [hd'.out, hpow.out], by rw [hR'.out]; exact hO5.out, hB5⟩
        case measure => simp [intOf]; omega
      · have hR := Lib.hid (rsn_no hb)
        have hO5 : Hid (OwnT (w.heap.size + 1) (.slice a (rsn n k).length c) (rsn n (k + 1)) wr) := Lib.hid (by rw [hR.out]; exact HO)
        generalize nthS rsnW k = s at *
        generalize hm2 : n / 2 ^ k = m at *
        have hq : ((m : Int) % 2 == 1) = false := by rw [beq_eq_false_iff_ne]; omega
        have hd' : Hid ((m : Int) / 2 = ((m / 2 : Nat) : Int)) := Lib.hid (by omega)
        clear HO hb hs2 hm2 hm hd hcell
        go_wp2_with fail
        go_roundw
        case rel => exact ⟨k + 1, by omega, by go_num, by rw [hd'.out, hpow.out], hO5.out, B1⟩
        case measure => simp [intOf]; omega
    · obtain rfl : k = 7 := by omega
      have hW : wordsB (rsn n 7) = true := (wordsB_iff _).2 fun s hs => (rsnW_word s (rsn_mem n 7 (Nat.le_refl _) s hs)).1
      have hlen := rsn_len n 7
      have h0 := (wt_ok hW (by omega)).2
      have HT := Lib.hid (spec_l01Words comma HO.strs (by have := joinB_words comma hW (by omega) (by decide); omega))
      have hB2 := below_next b0 (Nat.le_refl _) B1
      unfold comma at *
      clear HO hW hs2
      by_cases hn0 : (rsn n 7).length = 0
      · rw [if_pos hn0] at h0
        have ht := Lib.hid h0
        clear h0 HT
        have hn1 : (((rsn n 7).length : Int) == 0) = true := by rw [beq_iff_eq]; omega
        generalize (rsn n 7).length = L at *
        clear hn0
        go_wp2_with fail
        go_ret2
        exact ⟨rs2 ht.out.symm rfl, hB2⟩
      · rw [if_neg hn0] at h0
        have ht := Lib.hid h0
        clear h0
        have hn1 : (((rsn n 7).length : Int) == 0) = false := by rw [beq_eq_false_iff_ne]; omega
        generalize (rsn n 7).length = L at *
        clear hn0
        go_wp2_with fail
        refine HT.out.mono ?_
        rintro e w' ⟨rfl, rfl⟩
        go_wp2_with fail
        go_ret2
        exact ⟨rs2 ht.out.symm rfl, hB2⟩
end Go.Proofs.Ytibfpajblcfobaa
