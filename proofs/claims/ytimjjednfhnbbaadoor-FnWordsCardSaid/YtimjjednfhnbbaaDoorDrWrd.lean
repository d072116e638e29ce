/-
  Draws of words and of their texts.
  Conditions: each lemma names its own.
-/
import Derived.Test.YtimjjednfhnbbaaDoorDmg
import Derived.Test.YtimjjednfhnbbaaDoorDrMon
import Derived.Test.YtimjjednfhnbbaaDoorLst
namespace Go.Proofs.YtimjjednfhnbbaaDoor
open Go.RowKit
set_option linter.unusedVariables false

/-- Texts of at most 32 bytes each. -/
def ManyT (m : Nat) (ss : List ByteArray) : Prop := ss.length ≤ m ∧ ∀ s ∈ ss, s.size ≤ 32
theorem ManyT.snoc {m : Nat} {ss : List ByteArray} {s : ByteArray} (h : ManyT m ss) (hs : s.size ≤ 32) : ManyT (m + 1) (ss ++ [s]) := by
  refine ⟨by rw [List.length_append]; exact Nat.succ_le_succ h.1, fun y hy => ?_⟩
  rw [List.mem_append, List.mem_singleton] at hy
  rcases hy with hy | rfl
  · exact h.2 y hy
  · exact hs
theorem ManyT.mono {m n : Nat} {ss : List ByteArray} (h : ManyT m ss) (hn : m ≤ n) : ManyT n ss := ⟨by have := h.1; omega, h.2⟩
theorem ManyT.fit {m : Nat} {ss : List ByteArray} (h : ManyT m ss) : StrsFit ss := fun s hs => by have := h.2 s hs; omega
theorem manyT_join {m : Nat} {ss : List ByteArray} (h : ManyT m ss) (hm : m ≤ 61) : (joinB ss comma).size ≤ 10000 := by
  unfold joinB
  rw [mkB_size]
  have h1 := join_len_le (xs := datas ss) (m := 32) comma.data.toList (fun x hx => by
    obtain ⟨s, hs, rfl⟩ := List.mem_map.1 hx
    rw [size_data]
    exact h.2 s hs)
  rw [datas_len, size_data] at h1
  have h2 : (32 + comma.size) * ss.length ≤ 33 * 61 := Nat.mul_le_mul (by decide) (by have := h.1; omega)
  omega
def lenV : Value → Nat
  | .slice _ n _ => n
  | _ => 0
/-- Texts are drawn. -/
def GotWords (B g : Nat) (m : Nat) (w : World) (e : Ending) (w' : World) : Prop := ∃ v ss, e = .returned v ∧ OwnT w.heap.size v ss w' ∧ ManyT m ss ∧ Src B g w' ∧ Past g w w'
set_option maxRecDepth 100000 in
set_option maxHeartbeats 4000000 in
theorem drawWords_c {B g : Nat} {w : World} (h : Src B g w) : Calls Tryd.prog 60 #[.pointer (some ⟨g, 0, none⟩)] w (GotWords B g 61 w) := by
  obtain ⟨i0, hi, hz0, hz1, hz2⟩ := info_parts info_str
  have hlt := h.lt
  have hown : OwnT w.heap.size (.slice (some ⟨w.heap.size, 0, none⟩) 0 0) [] (w.alloc (.cells #[] 9)) := World.ownsRow_lit w #[] 0 (by omega) (by decide) rfl
  have H0 := Lib.hid (next_c (h.alloc (.cells #[] 9)) 6 (by omega))
  clear h
  go_enter Tryd.func60, Tryd.ntmps60
  go_wp2_with fail
  refine H0.out.mono ?_
  rintro e w1 ⟨r, rfl, ⟨a1, b1, _⟩, h1, p1⟩
  replace b1 := b1 (by omega)
  replace hown : OwnT w.heap.size (.slice (some ⟨w.heap.size, 0, none⟩) 0 0) [] w1 := own_past hown p1 hlt
  have pp : Past g w w1 := ((Past.refl g w).alloc _).trans p1
  clear p1 H0
  have hr : r = ((r.toNat : Nat) : Int) := by omega
  generalize r.toNat = n at *
  subst hr
  have hn5 : n ≤ 5 := by omega
  clear a1 b1
  replace hown := Lib.hid hown
  go_wp2_with fail
  go_loopw [3, 4] (fun v i wr => ∃ (k : Nat) (ss : List ByteArray), k ≤ n ∧ i = .int .i64 k ∧ OwnT w.heap.size v ss wr ∧ ManyT (n - k) ss ∧ Src B g wr ∧ Past g w wr) (fun _ i _ => (intOf i).toNat)
  case atStart => exact ⟨n, [], Nat.le_refl _, rfl, hown.out, ⟨Nat.zero_le _, by simp⟩, h1, pp⟩
  case round =>
    obtain ⟨k, ss, hk, rfl, ho, hm, hs, hp⟩ := hrel
    clear hown h1 pp
    have hxl := hm.1
    by_cases hlt0 : 0 < k
    · replace ho := Lib.hid ho
      go_wp2_with fail
      refine (drawWord_c hs).mono ?_
      rintro e w4 ⟨x, rfl, hx, h4, p4⟩
      have ho4 : OwnT w.heap.size _ ss w4 := own_past ho.out p4 hlt
      have hp4 : Past g w w4 := hp.trans p4
      have hlt4 := hp4.size
      clear ho p4 hs hp
      go_wp2_with (at_builtin; refine wpList_append_own _ rfl _ _ 22 rfl w.heap.size 9 i0 (.string ⟨#[]⟩) 1 16 Tryd.underlying22 hi hz0 hz1 hz2 rfl (by decide) _ _ _ rfl (World.ownsRow.alloc ho4 _) ⟨w4.heap.size, 0, none⟩ 1 1 [.string x] rfl rfl ?c1 ?c2 ?c3 ?c4 ?c5 ?_)
      case c1 => exact single_strL _ _ _
      case c2 => intro u hu; simp at hu; subst hu; rfl
      case c3 => unfold maxLen; omega
      case c4 => omega
      case c5 => simp; omega
      intro v' w5 hown' hgrow _
      have hm' := hm.snoc hx
      have hsp : Src B g w5 ∧ Past g w w5 := src_append h4 hlt hp4 ho4 hgrow
      have hk1 : n - k + 1 = n - (k - 1) := by omega
      rw [hk1] at hm'
      have hO5 : Hid (OwnT w.heap.size v' (ss ++ [x]) w5) := Lib.hid (ownT_snoc hown')
      have hki : ((k : Nat) : Int) - 1 = ((k - 1 : Nat) : Int) := by omega
      replace hki := Lib.hid hki
      replace hm' := Lib.hid hm'
      clear hown' hgrow ho4 hm hk1
      go_wp2_with fail
      go_roundw
      case rel => exact ⟨k - 1, ss ++ [x], by omega, by rw [hki.out], hO5.out, hm'.out, hsp.1, hsp.2⟩
      case measure => simp [intOf]; omega
    · obtain rfl : k = 0 := by omega
      replace ho := Lib.hid ho
      go_wp2_with fail
      refine (next_c hs 24 (by omega)).mono ?_
      rintro e w2 ⟨r2, rfl, _, h2, p2⟩
      replace ho : Hid (OwnT w.heap.size _ ss w2) := Lib.hid (own_past ho.out p2 hlt)
      have hp2 := hp.trans p2
      clear p2 hs hp
      by_cases q : r2 = 0
      · have hq : (r2 == 0) = true := by simpa using q
        clear q
        go_wp2_with fail
        go_loopw [3] (fun v wr => ∃ (ss : List ByteArray), OwnT w.heap.size v ss wr ∧ ManyT 61 ss ∧ Src B g wr ∧ Past g w wr) (fun v _ => 62 - lenV v)
        case atStart => exact ⟨ss, ho.out, hm.mono (by omega), h2, hp2⟩
        case round =>
          obtain ⟨ss2, ho2, hm2, hs2, hp2⟩ := hrel
          clear ho hm h2 hxl
          have hxl := hm2.1
          obtain ⟨a1, c1, rfl, hc1, hc2, hc3⟩ := own_form ho2
          unfold maxLen at hc2
          replace ho2 := Lib.hid ho2
          clear hc3
          generalize hL : ss2.length = L at *
          replace hL := Lib.hid hL
          go_wp2_with fail
          refine (next_c hs2 2 (by omega)).mono ?_
          rintro e w4 ⟨r4, rfl, ⟨a4, b4, _⟩, h4, p4⟩
          replace b4 := b4 (by omega)
          have ho4 : OwnT w.heap.size (.slice a1 L c1) ss2 w4 := own_past ho2.out p4 hlt
          have hp4 : Past g w w4 := hp2.trans p4
          have hlt4 := hp4.size
          clear ho2 p4 hs2 hp2
          by_cases hlt2 : (L : Int) < 60 + r4
          · obtain rfl := hL.out
            go_wp2_with (at_builtin; refine wpList_append_own _ rfl _ _ 22 rfl w.heap.size 9 i0 (.string ⟨#[]⟩) 1 16 Tryd.underlying22 hi hz0 hz1 hz2 rfl (by decide) _ _ _ rfl (World.ownsRow.alloc ho4 _) ⟨w4.heap.size, 0, none⟩ 1 1 [.string ⟨#[97, 100, 97]⟩] rfl rfl ?c1 ?c2 ?c3 ?c4 ?c5 ?_)
            case c1 => exact single_strL _ _ _
            case c2 => intro u hu; simp at hu; subst hu; rfl
            case c3 => unfold maxLen; omega
            case c4 => omega
            case c5 => simp; omega
            intro v' w5 hown' hgrow _
            have hm' : ManyT 61 (ss2 ++ [⟨#[97, 100, 97]⟩]) := ⟨by rw [List.length_append]; simp; omega, (hm2.snoc (s := ⟨#[97, 100, 97]⟩) (by decide)).2⟩
            have hsp : Src B g w5 ∧ Past g w w5 := src_append h4 hlt hp4 ho4 hgrow
            have hO5 : Hid (OwnT w.heap.size v' (ss2 ++ [⟨#[97, 100, 97]⟩]) w5) := Lib.hid (ownT_snoc hown')
            have hv5 : Hid (lenV v' = ss2.length + 1) := Lib.hid (by
              obtain ⟨a5, c5, e5, _⟩ := own_form hO5.out
              rw [e5]
              simp [lenV])
            replace hm' := Lib.hid hm'
            clear hown' hgrow ho4
            go_wp2_with fail
            go_roundw
            case rel => exact ⟨_, hO5.out, hm'.out, hsp.1, hsp.2⟩
            case measure =>
              show 62 - lenV _ < 62 - lenV _
              rw [hv5.out]
              simp only [lenV]
              omega
          · replace ho4 := Lib.hid ho4
            go_wp2_with fail
            go_ret
            exact ⟨_, ss2, rfl, ho4.out, hm2, h4, hp4⟩
      · have hq : (r2 == 0) = false := by simpa using q
        clear q
        go_wp2_with fail
        go_ret
        exact ⟨_, ss, rfl, ho.out, hm.mono (by omega), h2, hp2⟩
/-- Texts, drawn from a code. -/
def RetWords (m : Nat) (w : World) (e : Ending) (w' : World) : Prop := ∃ v ss, e = .returned v ∧ Strs w' v ss ∧ ManyT m ss ∧ Below w.heap.size w w'
theorem DrawWordsText_c {v : Value} {bs : List Int} {w : World} (h : Bytes w v bs) (hf : BytesFit bs) : Calls Tryd.prog 29 #[v] w (RetWords 61 w) := by
  go_enter Tryd.func29, Tryd.ntmps29
  go_wp2_with fail
  refine (from_c h hf).mono ?_
  rintro e w1 ⟨g, rfl, h1, b1⟩
  clear h
  go_wp2_with fail
  refine (drawWords_c h1).mono ?_
  rintro e w2 ⟨u, ss, rfl, ho, hm, h2, p2⟩
  have hb2 := src_below b1 h1 p2
  have hI := ho.strs
  clear ho
  go_wp2_with fail
  go_ret
  exact ⟨_, ss, rfl, hI, hm, hb2⟩
set_option maxRecDepth 100000 in
set_option maxHeartbeats 2000000 in
theorem DrawReadWords_c {v : Value} {bs : List Int} {w : World} (h : Bytes w v bs) (hf : BytesFit bs) : Calls Tryd.prog 32 #[v] w (RetStr 20000 w) := by
  go_enter Tryd.func32, Tryd.ntmps32
  go_wp2_with fail
  refine (from_c h hf).mono ?_
  rintro e w1 ⟨g, rfl, h1, b1⟩
  clear h
  go_wp2_with fail
  refine (drawWords_c h1).mono ?_
  rintro e w2 ⟨u, ss, rfl, ho, hm, h2, p2⟩
  have hz := manyT_join hm (Nat.le_refl _)
  have HW := Lib.hid (spec_l01Words comma ho.strs (by omega))
  unfold comma at HW
  rw [show (⟨#[44]⟩ : ByteArray) = comma from rfl] at HW
  have hcm : Hid (comma = ⟨#[44]⟩) := Lib.hid rfl
  generalize joinB ss comma = t at *
  rw [hcm.out] at HW
  clear ho hm
  go_wp2_with fail
  refine HW.out.mono ?_
  rintro e w3 ⟨rfl, rfl⟩
  clear HW
  go_wp2_with fail
  refine (next_c h2 3 (by omega)).mono ?_
  rintro e w4 ⟨r4, rfl, _, h4, p4⟩
  by_cases q : r4 = 0
  · have hq : (r4 == 0) = true := by simpa using q
    clear q
    go_wp2_with fail
    refine (damage_c h4 t 10000 hz (by omega)).mono ?_
    rintro e w5 ⟨u, rfl, hu, h5, p5⟩
    have hb5 := src_below b1 h1 ((p2.trans p4).trans p5)
    go_wp2_with fail
    go_ret
    exact ⟨u, rfl, by omega, hb5⟩
  · have hq : (r4 == 0) = false := by simpa using q
    clear q
    have hb4 := src_below b1 h1 (p2.trans p4)
    go_wp2_with fail
    go_ret
    exact ⟨t, rfl, by omega, hb4⟩
end Go.Proofs.YtimjjednfhnbbaaDoor
