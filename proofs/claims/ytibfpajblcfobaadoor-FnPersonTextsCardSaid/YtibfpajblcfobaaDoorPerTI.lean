/-
  PersonText, the program's and the reference's.
  Conditions: each lemma names its own.
-/
import Derived.Test.YtibfpajblcfobaaDoorPerT
import Derived.Test.YtibfpajblcfobaaDoorShelf
namespace Go.Proofs.YtibfpajblcfobaaDoor
open Go.RowKit
set_option linter.unusedVariables false

/-- The five texts of a person, in a block. -/
def FiveAt (w : World) (ss : List ByteArray) (v : Value) : Prop := ∃ b, v = .slice (some ⟨b, 0, none⟩) 5 5 ∧ b < w.heap.size ∧ ∀ (j : Nat) x, ss[j]? = some x → w.cell? ⟨b, 0 + j, none⟩ = some (.string x)
theorem FiveAt.below {w w' : World} {ss : List ByteArray} {v : Value} (h : FiveAt w ss v) (hb : Below w.heap.size w w') : FiveAt w' ss v := by
  obtain ⟨b, hv, hlt, hc⟩ := h
  exact ⟨b, hv, Nat.lt_of_lt_of_le hlt hb.size, fun j x hx => (hb.cell (p := ⟨b, 0 + j, none⟩) hlt).trans (hc j x hx)⟩
theorem five_new (w : World) (A F L B Z : ByteArray) (T : TypeId) : FiveAt (w.alloc (.cells #[.string A, .string F, .string L, .string B, .string Z] T)) [A, F, L, B, Z] (.slice (some ⟨w.heap.size, 0, none⟩) 5 5) := by
  refine ⟨w.heap.size, rfl, by simp, fun j x hx => ?_⟩
  have hb := heap_alloc_new w (.cells #[.string A, .string F, .string L, .string B, .string Z] T)
  rw [cell_of_row _ _ _ _ _ _ hb]
  match j, hx with
  | 0, hx | 1, hx | 2, hx | 3, hx | 4, hx =>
    injection hx with hx
    subst hx
    rfl
theorem join_five (A F L B Z : ByteArray) {v : Value} {w : World} (h : FiveAt w [A, F, L, B, Z] v) (hz : (perT A F L B Z).size ≤ 1000000000) :
    Calls Tryd.prog 19 #[v, .string ⟨#[47]⟩] w fun e w' => e = .returned (.string (perT A F L B Z)) ∧ Below w.heap.size w w' := by
  obtain ⟨b, rfl, hlt, hc⟩ := h
  have hl : (Lib.join ([A, F, L, B, Z].map (·.data.toList)) (⟨#[47]⟩ : ByteArray).data.toList).length ≤ 140737488355328 := by
    have h1 := hz
    rw [← perT_join] at h1
    unfold joinB at h1
    rw [mkB_size] at h1
    unfold datas at h1
    omega
  refine (Tryd.strings_Join b 0 5 [A, F, L, B, Z] ⟨#[47]⟩ w hc hlt (by simp) (by simp) hl).mono fun e w' ⟨he, hb⟩ => ⟨?_, hb⟩
  rw [he, ← perT_join]
  rfl
/-- What the slots of the program's text hold. -/
def piF (b : Nat) (p : Per) (A B Z : ByteArray) (i : Nat) (w : World) (v : Value) : Prop :=
  match i with
  | 1 => v = .pointer (some ⟨b, 0, none⟩)
  | 7 => v = .pointer (some ⟨b, 0, none⟩)
  | 8 => v = .int .i64 p.number
  | 9 => v = .string A
  | 10 => v = .pointer (some ⟨b, 1, none⟩)
  | 11 => v = .string p.first
  | 12 => v = .pointer (some ⟨b, 2, none⟩)
  | 13 => v = .string p.last
  | 14 => v = .pointer (some ⟨b, 3, none⟩)
  | 15 => v = .int .i64 p.born
  | 16 => v = .string B
  | 17 => v = .pointer (some ⟨b, 4, none⟩)
  | 18 => v = .int .i64 p.zone
  | 19 => v = .string Z
  | 20 => FiveAt w [A, p.first, p.last, B, Z] v
  | 21 => v = .string (perT A p.first p.last B Z)
  | 2 => v = .string (perT A p.first p.last B Z)
  | 3 => v = .int .i64 0
  | _ => False
theorem piF_below {b : Nat} {p : Per} {A B Z : ByteArray} {i : Nat} {w w' : World} {v : Value} (h : piF b p A B Z i w v) (hb : Below w.heap.size w w') : piF b p A B Z i w' v := by
  unfold piF at *
  split at h <;> first | exact h | exact FiveAt.below h hb
theorem perT_size {A F L B Z : ByteArray} {a f l b z : Nat} (ha : A.size ≤ a) (hf : F.size ≤ f) (hl : L.size ≤ l) (hb : B.size ≤ b) (hz : Z.size ≤ z) : (perT A F L B Z).size ≤ a + f + l + b + z + 4 := by
  unfold perT
  simp only [ByteArray.size_append]
  have : (⟨#[47]⟩ : ByteArray).size = 1 := rfl
  omega
theorem perT_fit {p : Per} (h : perB p = true) : (perS p).size ≤ 200 := by
  obtain ⟨h1, h2, h3, h4, h5⟩ := (perB_iff p).1 h
  have f1 := (word_len h2).2
  have f2 := (word_len h3).2
  rw [size_data] at f1 f2
  have := perT_size (A := itoB p.number) (F := p.first) (L := p.last) (B := itoB p.born) (Z := itoB p.zone) (itoB_size (by omega) (by omega)) f1 f2 (itoB_size (by omega) (by omega)) (itoB_size (by omega) (by omega))
  unfold perS
  omega
theorem ptx_yes {p : Per} (h : perB p = true) : ptxN p = 0 ∧ ptxS p = perS p := by unfold ptxN ptxS; rw [h]; exact ⟨rfl, rfl⟩
theorem ptx_no {p : Per} (h : perB p = false) : ptxN p = 1 ∧ ptxS p = ⟨#[]⟩ := by unfold ptxN ptxS; rw [h]; exact ⟨rfl, rfl⟩
set_option maxRecDepth 100000 in
set_option maxHeartbeats 4000000 in
theorem spec_PersonText (p : Per) (hp : PerFit p) (w : World) : Calls Tryd.prog 7 #[perV p] w fun e w' => e = .returned (.tuple #[.string (ptxS p), .int .i64 (ptxN p)]) ∧ Below w.heap.size w w' := by
  have PA0 := perAt_new (w) p 27
  have BB : Below w.heap.size w (w.alloc (.cells #[.int .i64 p.number, .string p.first, .string p.last, .int .i64 p.born, .int .i64 p.zone] 27)) := (Below.refl _ _).alloc (by simp; try omega) _
  have HP := Lib.hid (spec_IsPerson p hp)
  have HT : Hid (perB p = true → ∀ w, Calls Tryd.prog 18 #[.agg #[.int .i64 p.number, .string p.first, .string p.last, .int .i64 p.born, .int .i64 p.zone]] w fun e w' => e = .returned (.string (perS p)) ∧ Below w.heap.size w w') := Lib.hid (fun h w => by
    obtain ⟨h1, h2, h3, h4, h5⟩ := (perB_iff p).1 h
    have f1 := (word_len h2).2
    have f2 := (word_len h3).2
    rw [size_data] at f1 f2
    exact spec_l04Text p (by omega) (by omega) (by omega) (by omega) (by omega) w)
  cases hq : perB p
  · obtain ⟨e1, e2⟩ := ptx_no hq
    rw [e1, e2]
    rw [hq] at HP
    unfold perV at *
    clear HT e1 e2 hq hp
    go_enter Tryd.func7, Tryd.ntmps7
    obtain ⟨cb0, c00, c01, c02, c03, c04⟩ := PA0
    go_wp2_with fail
    refine (HP.out _).mono ?_
    rintro e w1 ⟨rfl, b1⟩
    replace BB := below_next BB (Nat.le_refl _) b1
    clear b1 c00 c01 c02 c03 c04 cb0 HP
    go_wp2_with fail
    go_ret2
    exact ⟨rfl, BB⟩
  · obtain ⟨e1, e2⟩ := ptx_yes hq
    replace HT := Lib.hid (HT.out hq)
    rw [e1, e2]
    rw [hq] at HP
    generalize perS p = t at *
    unfold perV at *
    clear e1 e2 hq hp
    go_enter Tryd.func7, Tryd.ntmps7
    have PC0 := PA0
    obtain ⟨cb0, c00, c01, c02, c03, c04⟩ := PC0
    go_wp2_with fail
    clear c00 c01 c02 c03 c04 cb0
    refine (HP.out _).mono ?_
    rintro e w1 ⟨rfl, b1⟩
    replace PA0 := PA0.below b1
    replace BB := below_next BB (Nat.le_refl _) b1
    clear b1
    obtain ⟨cb0, c00, c01, c02, c03, c04⟩ := PA0
    go_wp2_with fail
    refine (HT.out _).mono ?_
    rintro e w2 ⟨rfl, b2⟩
    replace BB := below_next BB (Nat.le_refl _) b2
    clear b2 c00 c01 c02 c03 c04 cb0 HP HT
    go_wp2_with fail
    go_ret2
    exact ⟨rfl, BB⟩
set_option maxRecDepth 100000 in
set_option maxHeartbeats 8000000 in
theorem impl_PersonText (p : Per) (hp : PerFit p) {w : World} (hT : LbT w) : Calls Tryd.prog 9 #[perV p] w fun e w' => e = .returned (.tuple #[.string (ptxS p), .int .i64 (ptxN p)]) ∧ Below w.heap.size w w' := by
  have PA0 := perAt_new (w) p 27
  have BB : Below w.heap.size w (w.alloc (.cells #[.int .i64 p.number, .string p.first, .string p.last, .int .i64 p.born, .int .i64 p.zone] 27)) := (Below.refl _ _).alloc (by simp; try omega) _
  have HP := Lib.hid (impl_IsPerson p hp)
  have hTT := Lib.hid hT
  clear hT
  cases hq : perB p
  · obtain ⟨e1, e2⟩ := ptx_no hq
    rw [e1, e2]
    rw [hq] at HP
    unfold perV at *
    clear e1 e2 hq hp
    go_enter Tryd.func9, Tryd.ntmps9
    obtain ⟨cb0, c00, c01, c02, c03, c04⟩ := PA0
    go_wp2_with fail
    refine (HP.out _).mono ?_
    rintro e w1 ⟨rfl, b1⟩
    replace BB := below_next BB (Nat.le_refl _) b1
    clear b1 c00 c01 c02 c03 c04 cb0 HP
    go_wp2_with fail
    go_ret2
    exact ⟨rfl, BB⟩
  · obtain ⟨e1, e2⟩ := ptx_yes hq
    obtain ⟨h1, h2, h3, h4, h5⟩ := (perB_iff p).1 hq
    have D1 : Hid (∀ w, LbT w → Calls Tryd.prog 20 #[.int .i64 p.number] w fun e w' => e = .returned (.string (itoB p.number)) ∧ Below w.heap.size w w') := Lib.hid (fun w hl => impl_decimal p.number (by omega) (by omega) hl)
    have D2 : Hid (∀ w, LbT w → Calls Tryd.prog 20 #[.int .i64 p.born] w fun e w' => e = .returned (.string (itoB p.born)) ∧ Below w.heap.size w w') := Lib.hid (fun w hl => impl_decimal p.born (by omega) (by omega) hl)
    have D3 : Hid (∀ w, LbT w → Calls Tryd.prog 20 #[.int .i64 p.zone] w fun e w' => e = .returned (.string (itoB p.zone)) ∧ Below w.heap.size w w') := Lib.hid (fun w hl => impl_decimal p.zone (by omega) (by omega) hl)
    have hz : (perS p).size ≤ 1000000000 := by have := perT_fit hq; omega
    rw [e1, e2]
    rw [hq] at HP
    unfold perS at *
    generalize itoB p.number = A at *
    generalize itoB p.born = B at *
    generalize itoB p.zone = Z at *
    unfold perV at *
    clear e1 e2 hq hp h1 h2 h3 h4 h5
    go_enter Tryd.func9, Tryd.ntmps9
    have PC0 := PA0
    obtain ⟨cb0, c00, c01, c02, c03, c04⟩ := PC0
    go_wp2_with fail
    clear c00 c01 c02 c03 c04 cb0
    refine (HP.out _).mono ?_
    rintro e w1 ⟨rfl, b1⟩
    replace PA0 := PA0.below b1
    replace BB := below_next BB (Nat.le_refl _) b1
    clear b1 HP
    go_wp2_with fail
    refine wp_region_all (F := piF w.heap.size p A B Z) (I := fun w' => PerAt w' w.heap.size p ∧ Below w.heap.size w w') (R := fun w w' => Below w.heap.size w w') (m := 17) (n := 22) (pre := [1]) (by kernel_rfl) (by kernel_rfl) rfl (by simp) (fun t w w' v h _ hr => piF_below h hr) ⟨PA0.below ((Below.refl _ _).drew), BB.drew⟩ ?_ ?_ ?_
    · simp
      rfl
    · refine (And.intro ?s7 (And.intro ?s8 (And.intro ?s9 (And.intro ?s10 (And.intro ?s11 (And.intro ?s12 (And.intro ?s13 (And.intro ?s14 (And.intro ?s15 (And.intro ?s16 (And.intro ?s17 (And.intro ?s18 (And.intro ?s19 (And.intro ?s20 (And.intro ?s21 (And.intro ?s2 (And.intro ?s3 trivial)))))))))))))))))
      case s7 =>
        intro f w3 ⟨⟨cb, c0, c1, c2, c3, c4⟩, hB⟩ hF
        simp only [litAll, List.range, List.range.loop, List.map]
        rw [show f 1 = .pointer (some ⟨w.heap.size, 0, none⟩) from hF 1 (by decide)]
        go_wp2_with fail
        exact ⟨rfl, rfl, ⟨⟨cb, c0, c1, c2, c3, c4⟩, hB⟩, Below.refl _ _⟩
      case s8 =>
        intro f w3 ⟨⟨cb, c0, c1, c2, c3, c4⟩, hB⟩ hF
        simp only [litAll, List.range, List.range.loop, List.map]
        rw [show f 7 = .pointer (some ⟨w.heap.size, 0, none⟩) from hF 7 (by decide)]
        go_wp2_with fail
        exact ⟨rfl, rfl, ⟨⟨cb, c0, c1, c2, c3, c4⟩, hB⟩, Below.refl _ _⟩
      case s9 =>
        intro f w3 ⟨⟨cb, c0, c1, c2, c3, c4⟩, hB⟩ hF
        simp only [litAll, List.range, List.range.loop, List.map]
        rw [show f 8 = .int .i64 p.number from hF 8 (by decide)]
        go_wp2_with fail
        refine (D1.out _ (hTT.out.below hB)).mono ?_
        rintro e w4 ⟨rfl, b4⟩
        have PA4 := PerAt.below (p := p) ⟨cb, c0, c1, c2, c3, c4⟩ b4
        have hB4 := below_next hB (Nat.le_refl _) b4
        go_wp2_with fail
        exact ⟨rfl, rfl, ⟨PA4, hB4⟩, b4⟩
      case s10 =>
        intro f w3 ⟨⟨cb, c0, c1, c2, c3, c4⟩, hB⟩ hF
        simp only [litAll, List.range, List.range.loop, List.map]
        rw [show f 1 = .pointer (some ⟨w.heap.size, 0, none⟩) from hF 1 (by decide)]
        go_wp2_with fail
        exact ⟨rfl, rfl, ⟨⟨cb, c0, c1, c2, c3, c4⟩, hB⟩, Below.refl _ _⟩
      case s11 =>
        intro f w3 ⟨⟨cb, c0, c1, c2, c3, c4⟩, hB⟩ hF
        simp only [litAll, List.range, List.range.loop, List.map]
        rw [show f 10 = .pointer (some ⟨w.heap.size, 1, none⟩) from hF 10 (by decide)]
        go_wp2_with fail
        exact ⟨rfl, rfl, ⟨⟨cb, c0, c1, c2, c3, c4⟩, hB⟩, Below.refl _ _⟩
      case s12 =>
        intro f w3 ⟨⟨cb, c0, c1, c2, c3, c4⟩, hB⟩ hF
        simp only [litAll, List.range, List.range.loop, List.map]
        rw [show f 1 = .pointer (some ⟨w.heap.size, 0, none⟩) from hF 1 (by decide)]
        go_wp2_with fail
        exact ⟨rfl, rfl, ⟨⟨cb, c0, c1, c2, c3, c4⟩, hB⟩, Below.refl _ _⟩
      case s13 =>
        intro f w3 ⟨⟨cb, c0, c1, c2, c3, c4⟩, hB⟩ hF
        simp only [litAll, List.range, List.range.loop, List.map]
        rw [show f 12 = .pointer (some ⟨w.heap.size, 2, none⟩) from hF 12 (by decide)]
        go_wp2_with fail
        exact ⟨rfl, rfl, ⟨⟨cb, c0, c1, c2, c3, c4⟩, hB⟩, Below.refl _ _⟩
      case s14 =>
        intro f w3 ⟨⟨cb, c0, c1, c2, c3, c4⟩, hB⟩ hF
        simp only [litAll, List.range, List.range.loop, List.map]
        rw [show f 1 = .pointer (some ⟨w.heap.size, 0, none⟩) from hF 1 (by decide)]
        go_wp2_with fail
        exact ⟨rfl, rfl, ⟨⟨cb, c0, c1, c2, c3, c4⟩, hB⟩, Below.refl _ _⟩
      case s15 =>
        intro f w3 ⟨⟨cb, c0, c1, c2, c3, c4⟩, hB⟩ hF
        simp only [litAll, List.range, List.range.loop, List.map]
        rw [show f 14 = .pointer (some ⟨w.heap.size, 3, none⟩) from hF 14 (by decide)]
        go_wp2_with fail
        exact ⟨rfl, rfl, ⟨⟨cb, c0, c1, c2, c3, c4⟩, hB⟩, Below.refl _ _⟩
      case s16 =>
        intro f w3 ⟨⟨cb, c0, c1, c2, c3, c4⟩, hB⟩ hF
        simp only [litAll, List.range, List.range.loop, List.map]
        rw [show f 15 = .int .i64 p.born from hF 15 (by decide)]
        go_wp2_with fail
        refine (D2.out _ (hTT.out.below hB)).mono ?_
        rintro e w4 ⟨rfl, b4⟩
        have PA4 := PerAt.below (p := p) ⟨cb, c0, c1, c2, c3, c4⟩ b4
        have hB4 := below_next hB (Nat.le_refl _) b4
        go_wp2_with fail
        exact ⟨rfl, rfl, ⟨PA4, hB4⟩, b4⟩
      case s17 =>
        intro f w3 ⟨⟨cb, c0, c1, c2, c3, c4⟩, hB⟩ hF
        simp only [litAll, List.range, List.range.loop, List.map]
        rw [show f 1 = .pointer (some ⟨w.heap.size, 0, none⟩) from hF 1 (by decide)]
        go_wp2_with fail
        exact ⟨rfl, rfl, ⟨⟨cb, c0, c1, c2, c3, c4⟩, hB⟩, Below.refl _ _⟩
      case s18 =>
        intro f w3 ⟨⟨cb, c0, c1, c2, c3, c4⟩, hB⟩ hF
        simp only [litAll, List.range, List.range.loop, List.map]
        rw [show f 17 = .pointer (some ⟨w.heap.size, 4, none⟩) from hF 17 (by decide)]
        go_wp2_with fail
        exact ⟨rfl, rfl, ⟨⟨cb, c0, c1, c2, c3, c4⟩, hB⟩, Below.refl _ _⟩
      case s19 =>
        intro f w3 ⟨⟨cb, c0, c1, c2, c3, c4⟩, hB⟩ hF
        simp only [litAll, List.range, List.range.loop, List.map]
        rw [show f 18 = .int .i64 p.zone from hF 18 (by decide)]
        go_wp2_with fail
        refine (D3.out _ (hTT.out.below hB)).mono ?_
        rintro e w4 ⟨rfl, b4⟩
        have PA4 := PerAt.below (p := p) ⟨cb, c0, c1, c2, c3, c4⟩ b4
        have hB4 := below_next hB (Nat.le_refl _) b4
        go_wp2_with fail
        exact ⟨rfl, rfl, ⟨PA4, hB4⟩, b4⟩
      case s20 =>
        intro f w3 ⟨hPA, hB⟩ hF
        simp only [litAll, List.range, List.range.loop, List.map]
        rw [show f 9 = .string A from hF 9 (by decide)]
        rw [show f 11 = .string p.first from hF 11 (by decide)]
        rw [show f 13 = .string p.last from hF 13 (by decide)]
        rw [show f 16 = .string B from hF 16 (by decide)]
        rw [show f 19 = .string Z from hF 19 (by decide)]
        go_wp2_with fail
        have b4 : Below w3.heap.size w3 (w3.alloc (.cells #[.string A, .string p.first, .string p.last, .string B, .string Z] 9)) := (Below.refl _ _).alloc (Nat.le_refl _) _
        exact ⟨rfl, five_new w3 A p.first p.last B Z _, ⟨hPA.below b4, below_next hB (Nat.le_refl _) b4⟩, b4⟩
      case s21 =>
        intro f w3 ⟨hPA, hB⟩ hF
        simp only [litAll, List.range, List.range.loop, List.map]
        have h20 : FiveAt w3 [A, p.first, p.last, B, Z] (f 20) := hF 20 (by decide)
        go_wp2_with fail
        refine (join_five A p.first p.last B Z h20 hz).mono ?_
        rintro e w4 ⟨rfl, b4⟩
        go_wp2_with fail
        exact ⟨rfl, rfl, ⟨hPA.below b4, below_next hB (Nat.le_refl _) b4⟩, b4⟩
      case s2 =>
        intro f w3 ⟨⟨cb, c0, c1, c2, c3, c4⟩, hB⟩ hF
        simp only [litAll, List.range, List.range.loop, List.map]
        rw [show f 21 = .string (perT A p.first p.last B Z) from hF 21 (by decide)]
        go_wp2_with fail
        exact ⟨rfl, rfl, ⟨⟨cb, c0, c1, c2, c3, c4⟩, hB⟩, Below.refl _ _⟩
      case s3 =>
        intro f w3 ⟨⟨cb, c0, c1, c2, c3, c4⟩, hB⟩ hF
        simp only [litAll, List.range, List.range.loop, List.map]
        go_wp2_with fail
        exact ⟨rfl, rfl, ⟨⟨cb, c0, c1, c2, c3, c4⟩, hB⟩, Below.refl _ _⟩
    · intro f w3 ⟨hPA, hB3⟩ hF
      simp only [dstsOf, List.take, List.filterMap, setSlots, List.foldl, List.set]
      rw [show f 2 = .string (perT A p.first p.last B Z) from hF 2 (by decide), show f 3 = .int .i64 0 from hF 3 (by decide)]
      go_wp2_with fail
      refine bodyPost_ret (v := .tuple #[.string (perT A p.first p.last B Z), .int .i64 0]) (by rw [results_tmp2 rfl]; rfl) rfl ?_
      exact ⟨rfl, hB3⟩
end Go.Proofs.YtibfpajblcfobaaDoor
