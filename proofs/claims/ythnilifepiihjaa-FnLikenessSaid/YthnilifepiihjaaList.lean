/-
  A list of persons drawn: l04List.
  Conditions: each lemma names its own.
-/
import Derived.Test.YthnilifepiihjaaIns
namespace Go.Proofs.Ythnilifepiihjaa
open Go.RowKit
set_option linter.unusedVariables false

theorem own_empty (w : World) : OwnP w.heap.size (.slice (some ⟨w.heap.size, 0, none⟩) 0 0) [] (w.alloc (.cells #[] 35)) :=
  ⟨World.ownsRow_lit w #[] 0 (Nat.le_refl _) (by decide) rfl, fun e => by cases e⟩
theorem GoodP.draw {p : Per} (h : GoodP p) : DrawP p := by
  obtain ⟨h1, h2, h3, h4, h5⟩ := h
  exact ⟨by omega, h2, h3, by omega, by omega⟩
def AllD (ps : List Per) : Prop := ∀ p ∈ ps, DrawP p
theorem AllD.fit {ps : List Per} (h : AllD ps) : PersFit ps := fun p hp => (h p hp).fit
theorem allD_nil : AllD [] := fun p hp => by simp at hp
theorem AllD.snoc {ps : List Per} {p : Per} (h : AllD ps) (hp : DrawP p) : AllD (ps ++ [p]) := fun q hq => by
  rcases List.mem_append.1 hq with hq | hq
  · exact h q hq
  · have : q = p := by simpa using hq
    exact this ▸ hp
theorem AllD.put {ps qs : List Per} {p : Per} (h : AllD ps) (hp : DrawP p) (hq : ∀ q ∈ qs, q ∈ ps ∨ q = p) : AllD qs := fun q hm => by
  rcases hq q hm with hq | hq
  · exact h q hq
  · exact hq ▸ hp
/-- A list of persons is drawn. -/
def GotPers (B g : Nat) (w : World) (e : Ending) (w' : World) : Prop := ∃ u ps, e = .returned u ∧ OwnP w.heap.size u ps w' ∧ ps.length ≤ 13 ∧ AllD ps ∧ Src B g w' ∧ Past g w w'
set_option maxRecDepth 100000 in
set_option maxHeartbeats 16000000 in
theorem list_c {B g : Nat} {w : World} (h : Src B g w) : Calls Try.prog 72 #[.pointer (some ⟨g, 0, none⟩)] w (GotPers B g w) := by
  obtain ⟨i0, hi, hz0, hz1, hz2⟩ := info_parts info_iper
  have hgb := h.lt
  have h1 := Lib.hid (h.alloc (.cells #[] 35))
  have p1 : Past g w (w.alloc (.cells #[] 35)) := (Past.refl g w).alloc _
  have o1 := Lib.hid (own_empty w)
  replace p1 := Lib.hid p1
  clear h
  go_enter Try.func72, Try.ntmps72
  go_wp2_with fail
  generalize (w.alloc (.cells #[] 35)) = w1 at *
  refine (next_c h1.out 8 (by omega)).mono ?_
  rintro e w2 ⟨r, rfl, ⟨a2, b2, z2⟩, h2, p2⟩
  replace b2 := b2 (by omega)
  replace o1 := Lib.hid (o1.out.past p2 hgb)
  replace p1 := Lib.hid (p1.out.trans p2)
  replace h2 := Lib.hid h2
  clear p2 z2 h1
  have hr : r = ((r.toNat : Nat) : Int) := by omega
  generalize r.toNat = n0 at *
  subst hr
  generalize hu : (Value.slice (some ⟨w.heap.size, 0, none⟩) 0 0) = u0 at *
  replace hu := Lib.hid hu
  go_wp2_with fail
  go_loopw [3, 4] (fun u i wr => ∃ (n : Nat) (ps : List Per), i = .int .i64 n ∧ ps.length + n ≤ 7 ∧ Hid (AllD ps) ∧ Hid (OwnP w.heap.size u ps wr) ∧ Hid (Src B g wr) ∧ Hid (Past g w wr)) (fun _ i _ => (intOf i).toNat)
  case atStart => exact ⟨n0, [], rfl, by simp; omega, Lib.hid allD_nil, o1, h2, p1⟩
  case round =>
    clear h2 p1 o1 hu
    obtain ⟨n, ps, rfl, hn, hD, ho, hS, hP⟩ := hrel
    by_cases hlt : 0 < n
    · go_wp2_with fail
      refine (l04Good_c hS.out).mono ?_
      rintro e w3 ⟨p, rfl, hp, h3, p3⟩
      replace ho := Lib.hid (ho.out.past p3 hgb)
      replace hP := Lib.hid (hP.out.trans p3)
      replace hS := Lib.hid h3
      replace hp := Lib.hid hp.draw
      clear h3 p3
      have hsz := Lib.hid hP.out.size
      go_wp2_with fail
      refine (insert_c p ho.out hsz.out (by omega)).mono ?_
      rintro e w4 ⟨v4, qs, rfl, h4, hql, hqm, b4⟩
      replace hS := Lib.hid (hS.out.below b4)
      replace hP := Lib.hid (hP.out.trans (Past.of_below b4))
      replace hD := Lib.hid (hD.out.put hp.out hqm)
      replace ho := Lib.hid h4
      clear b4 hsz h4 hqm
      go_wp2_with fail
      go_roundw
      case rel => exact ⟨n - 1, qs, by go_num, by omega, hD, ho, hS, hP⟩
      case measure => simp [intOf]; omega
    · obtain rfl : n = 0 := by omega
      clear hlt
      go_wp2_with fail
      refine (next_c hS.out 24 (by omega)).mono ?_
      rintro e w3 ⟨r, rfl, ⟨a3, b3, z3⟩, h3, p3⟩
      replace b3 := b3 (by omega)
      replace ho := Lib.hid (ho.out.past p3 hgb)
      replace hP := Lib.hid (hP.out.trans p3)
      replace hS := Lib.hid h3
      clear h3 p3 z3
      rcases (show r = 0 ∨ r = 1 ∨ (r ≠ 0 ∧ r ≠ 1) by omega) with rfl | rfl | ⟨q0, q1⟩
      · go_wp2_with fail
        refine (l04Draw_c hS.out).mono ?_
        rintro e w4 ⟨p, rfl, hp, h4, p4⟩
        replace ho := Lib.hid (ho.out.past p4 hgb)
        replace hP := Lib.hid (hP.out.trans p4)
        replace hS := Lib.hid h4
        replace hD := Lib.hid (hD.out.snoc hp)
        have hsz := Lib.hid hP.out.size
        clear h4 p4 hp
        have hnews : Hid (∀ j u, (perC p)[j]? = some u → (w4.alloc (.cells #[.int .i64 p.number, .string p.first, .string p.last, .int .i64 p.born, .int .i64 p.zone] 35)).cell? ((⟨w4.heap.size, 0, none⟩ : Addr).add j) = some u) := Lib.hid (news_of (heap_alloc_new w4 _))
        have ho1 := Lib.hid ho.out.1
        unfold perV
        go_wp2_with (at_builtin; refine wpList_append_own _ rfl _ _ 50 rfl w.heap.size 35 i0 (.agg #[.int .i64 0, .string ByteArray.empty, .string ByteArray.empty, .int .i64 0, .int .i64 0]) 5 56 Try.underlying50 hi hz0 hz1 hz2 rfl (by decide) _ _ _ rfl (World.ownsRow.alloc ho1.out _) ⟨w4.heap.size, 0, none⟩ 1 1 (perC p) rfl rfl hnews.out (fun u hu => one_cell (ps := [p]) (by simpa using hu)) (by unfold maxLen; omega) (by omega) (by have := hsz.out; simp; omega) ?_)
        intro v' w5 hown hgrow hne
        have hO : Hid (OwnP w.heap.size v' (ps ++ [p]) w5) := Lib.hid ⟨by rw [flat_snoc, List.length_append]; exact hown, hne⟩
        obtain ⟨s5, t5⟩ := src_append hS.out hgb hP.out ho1.out hgrow
        replace s5 := Lib.hid s5
        replace t5 := Lib.hid t5
        clear hown hgrow hne hnews ho1 ho hS hP hsz
        go_wp2_with fail
        go_ret
        exact ⟨_, _, rfl, hO.out, by simp; omega, hD.out, s5.out, t5.out⟩
      · go_wp2_with fail
        generalize hm0 : ps.length = m0 at *
        replace hm0 := Lib.hid hm0
        obtain ⟨wo, rfl⟩ : ∃ wo : World, wo = w3 := ⟨_, rfl⟩
        go_loopw [3, 5] (fun u i wr => ∃ (k : Nat) (ps : List Per), i = .int .i64 (100 + (k : Int)) ∧ Hid (ps.length = m0 + k) ∧ Hid (m0 + k ≤ 13) ∧ Hid (AllD ps) ∧ Hid (OwnP w.heap.size u ps wr) ∧ Hid (Src B g wr) ∧ Hid (Past g w wr)) (fun _ i _ => 200 - (intOf i).toNat)
        case atStart => exact ⟨0, ps, by simp, Lib.hid (by rw [hm0.out]; rfl), Lib.hid (by omega), hD, ho, hS, hP⟩
        case round =>
          clear hD ho hS hP hm0 ps
          obtain ⟨k, ps, rfl, hl, hk, hD, ho, hS, hP⟩ := hrel
          obtain ⟨lb, c, rfl, _, _, hc1, hc2, _⟩ := ho.out.form
          unfold maxLen at hc2
          have hk13 : k ≤ 13 := by have := hk.out; omega
          generalize hL : ps.length = L at *
          have hL13 : L ≤ 13 := by have := hk.out; have := hl.out; omega
          replace hL := Lib.hid hL
          go_wp2_with fail
          refine (next_c hS.out 2 (by omega)).mono ?_
          rintro e w4 ⟨r, rfl, ⟨a4, b4, z4⟩, h4, p4⟩
          replace b4 := b4 (by omega)
          replace ho := Lib.hid (ho.out.past p4 hgb)
          replace hP := Lib.hid (hP.out.trans p4)
          replace hS := Lib.hid h4
          have hsz := Lib.hid hP.out.size
          clear h4 p4 z4
          by_cases q : (L : Int) < 12 + r
          · have hnews : Hid (∀ j u, (perC ⟨100 + (k : Int), ⟨#[105, 100, 97]⟩, ⟨#[116, 97, 108]⟩, 1970, 0⟩)[j]? = some u → (w4.alloc (.cells #[.int .i64 (100 + (k : Int)), .string ⟨#[105, 100, 97]⟩, .string ⟨#[116, 97, 108]⟩, .int .i64 1970, .int .i64 0] 35)).cell? ((⟨w4.heap.size, 0, none⟩ : Addr).add j) = some u) := Lib.hid (news_of (heap_alloc_new w4 _))
            have ho1 := Lib.hid ho.out.1
            rw [hL.out] at ho1
            have hD2 := Lib.hid (hD.out.snoc (p := ⟨100 + (k : Int), ⟨#[105, 100, 97]⟩, ⟨#[116, 97, 108]⟩, 1970, 0⟩) ⟨⟨by simp only; omega, by simp only; omega⟩, by simp only; decide, by simp only; decide, by simp only; omega, by simp only; omega⟩)
            go_wp2_with (at_builtin; refine wpList_append_own _ rfl _ _ 50 rfl w.heap.size 35 i0 (.agg #[.int .i64 0, .string ByteArray.empty, .string ByteArray.empty, .int .i64 0, .int .i64 0]) 5 56 Try.underlying50 hi hz0 hz1 hz2 rfl (by decide) _ _ _ rfl (World.ownsRow.alloc ho1.out _) ⟨w4.heap.size, 0, none⟩ 1 1 (perC ⟨100 + (k : Int), ⟨#[105, 100, 97]⟩, ⟨#[116, 97, 108]⟩, 1970, 0⟩) rfl rfl hnews.out (fun u hu => one_cell (ps := [⟨100 + (k : Int), ⟨#[105, 100, 97]⟩, ⟨#[116, 97, 108]⟩, 1970, 0⟩]) (by simpa using hu)) (by unfold maxLen; omega) (by omega) (by have := hsz.out; simp; omega) ?_)
            intro v' w5 hown hgrow hne
            have hO : Hid (OwnP w.heap.size v' (ps ++ [⟨100 + (k : Int), ⟨#[105, 100, 97]⟩, ⟨#[116, 97, 108]⟩, 1970, 0⟩]) w5) := Lib.hid ⟨by rw [flat_snoc, List.length_append, hL.out]; exact hown, hne⟩
            obtain ⟨s5, t5⟩ := src_append hS.out hgb hP.out ho1.out hgrow
            replace s5 := Lib.hid s5
            replace t5 := Lib.hid t5
            have hL2 : Hid ((ps ++ [(⟨100 + (k : Int), ⟨#[105, 100, 97]⟩, ⟨#[116, 97, 108]⟩, 1970, 0⟩ : Per)]).length = L + 1) := Lib.hid (by rw [List.length_append, hL.out]; rfl)
            generalize (ps ++ [(⟨100 + (k : Int), ⟨#[105, 100, 97]⟩, ⟨#[116, 97, 108]⟩, 1970, 0⟩ : Per)]) = ps2 at *
            clear hown hgrow hne hnews ho1 ho hS hP hsz hD
            go_wp2_with fail
            go_roundw
            case rel => exact ⟨k + 1, ps2, by go_num, Lib.hid (by rw [hL2.out]; have := hl.out; omega), Lib.hid (by have := hl.out; omega), hD2, hO, s5, t5⟩
            case measure => simp [intOf]; omega
          · go_wp2_with fail
            go_ret
            exact ⟨_, ps, rfl, ho.out, by rw [hL.out]; omega, hD.out, hS.out, hP.out⟩
      · have e0 : (r == 0) = false := by simpa using q0
        have e1 : (r == 1) = false := by simpa using q1
        clear q0 q1
        go_wp2_with fail
        go_ret
        exact ⟨_, ps, rfl, ho.out, by omega, hD.out, hS.out, hP.out⟩
end Go.Proofs.Ythnilifepiihjaa
