/-
  l01DrawValue, l01DrawList, l01Good, l01DrawWord; DrawSumOf, DrawIsWord.
  Conditions: each lemma names its own.
-/
import Derived.Test.YtimjjednfhnbbaaDoorPick
import Derived.Test.YtimjjednfhnbbaaDoorOwn
namespace Go.Proofs.YtimjjednfhnbbaaDoor
open Go.RowKit
set_option linter.unusedVariables false

set_option maxHeartbeats 1000000 in
theorem drawValue_c {B g : Nat} {w : World} (h : Src B g w) : Calls Tryd.prog 68 #[.pointer (some ⟨g, 0, none⟩)] w (Got B g (-1000000000001) 1000000000001 w) := by
  have H0 := Lib.hid (next_c h 10 (by omega))
  clear h
  go_enter Tryd.func68, Tryd.ntmps68
  go_wp2_with fail
  refine H0.out.mono ?_
  rintro e w1 ⟨r, rfl, _, h1, p1⟩
  by_cases q : r = 0
  · have hq : (r == 0) = true := by simpa using q
    clear q
    have HN := Lib.hid (pick_new (T := 2) (cs := #[.int .i64 0, .int .i64 1000000000000, .int .i64 1000000000001, .int .i64 (-1000000000000), .int .i64 (-1000000000001), .int .i64 1]) [0, 1000000000000, 1000000000001, -1000000000000, -1000000000001, 1] (-1000000000001) 1000000000001 h1 rfl rfl (by simp) (by simp) (by simp))
    go_wp2_with fail
    refine HN.out.mono ?_
    rintro e w2 ⟨x, rfl, x0, x1, h2, p2⟩
    go_wp2_with fail
    go_ret
    exact ⟨x, rfl, x0, x1, h2, p1.trans p2⟩
  · have hq : (r == 0) = false := by simpa using q
    clear q
    go_wp2_with fail
    refine (next_c h1 41 (by omega)).mono ?_
    rintro e w2 ⟨r2, rfl, ⟨a2, b2, _⟩, h2, p2⟩
    replace b2 := b2 (by omega)
    go_wp2_with fail
    refine (next_c h2 2001 (by omega)).mono ?_
    rintro e w3 ⟨r3, rfl, ⟨a3, b3, _⟩, h3, p3⟩
    replace b3 := b3 (by omega)
    go_wp2_with fail
    refine (next_c h3 2000000001 (by omega)).mono ?_
    rintro e w4 ⟨r4, rfl, ⟨a4, b4, _⟩, h4, p4⟩
    replace b4 := b4 (by omega)
    have HN := Lib.hid (pick_new (T := 2) (cs := #[.int .i64 (r2 - 20), .int .i64 (r3 - 1000), .int .i64 (r4 - 1000000000)]) [r2 - 20, r3 - 1000, r4 - 1000000000] (-1000000000001) 1000000000001 h4 rfl rfl (by simp) (by simp) (by simp; omega))
    go_wp2_with fail
    refine HN.out.mono ?_
    rintro e w5 ⟨x, rfl, x0, x1, h5, p5⟩
    go_wp2_with fail
    go_ret
    exact ⟨x, rfl, x0, x1, h5, (((p1.trans p2).trans p3).trans p4).trans p5⟩

set_option maxHeartbeats 1000000 in
theorem good_c {B g : Nat} {w : World} (h : Src B g w) : Calls Tryd.prog 98 #[.pointer (some ⟨g, 0, none⟩)] w (GotText B g w) := by
  have hlt := h.lt
  have HN := Lib.hid (next_c (h.alloc (.cells #[.string ⟨#[97, 100, 97]⟩, .string ⟨#[98, 114, 117, 110, 111]⟩, .string ⟨#[99, 108, 97, 114, 97]⟩, .string ⟨#[100, 111, 114, 97]⟩, .string ⟨#[101, 109, 105, 108]⟩, .string ⟨#[102, 114, 105, 100, 97]⟩, .string ⟨#[103, 117, 115, 116, 97, 118]⟩, .string ⟨#[104, 97, 110, 110, 97]⟩, .string ⟨#[105, 118, 97, 110]⟩, .string ⟨#[106, 97, 110, 97]⟩, .string ⟨#[107, 97, 114, 108]⟩, .string ⟨#[108, 101, 110, 97]⟩] 9)) 12 (by omega))
  have H := Lib.hid h
  clear h
  go_enter Tryd.func98, Tryd.ntmps98
  go_wp2_with fail
  refine HN.out.mono ?_
  rintro e w1 ⟨r, rfl, ⟨a2, b2, _⟩, h2, p2⟩
  replace b2 := b2 (by omega)
  have hs := lit_at (r := r.toNat) p2 hlt (by simp; omega) (by kernel_rfl)
  obtain ⟨s, cs, hs⟩ := hs
  have hr : r = ((r.toNat : Nat) : Int) := by omega
  generalize r.toNat = j at *
  subst hr
  go_wp2_with fail
  go_ret
  exact ⟨s, rfl, hs, h2, ((Past.refl g w).alloc _).trans p2⟩

set_option maxHeartbeats 1000000 in
theorem drawWord_c {B g : Nat} {w : World} (h : Src B g w) : Calls Tryd.prog 83 #[.pointer (some ⟨g, 0, none⟩)] w (GotText B g w) := by
  have H0 := Lib.hid (next_c h 24 (by omega))
  clear h
  go_enter Tryd.func83, Tryd.ntmps83
  go_wp2_with fail
  refine H0.out.mono ?_
  rintro e w1 ⟨r, rfl, _, h1, p1⟩
  have hlt := h1.lt
  by_cases q : r = 0
  · have hq : (r == 0) = true := by simpa using q
    clear q
    go_wp2_with fail
    refine (next_c (h1.alloc _) 6 (by omega)).mono ?_
    rintro e w2 ⟨r2, rfl, ⟨a2, b2, _⟩, h2, p2⟩
    replace b2 := b2 (by omega)
    have hs := lit_at (r := r2.toNat) p2 hlt (by simp; omega) (by kernel_rfl)
    obtain ⟨s, cs, hs⟩ := hs
    have hr : r2 = ((r2.toNat : Nat) : Int) := by omega
    generalize r2.toNat = j at *
    subst hr
    have pp : Past g w w2 := (p1.alloc _).trans p2
    go_wp2_with fail
    go_ret
    exact ⟨s, rfl, hs, h2, pp⟩
  · have hq : (r == 0) = false := by simpa using q
    clear q
    go_wp2_with fail
    refine (good_c h1).mono ?_
    rintro e w2 ⟨s, rfl, hs, h2, p2⟩
    go_wp2_with fail
    go_ret
    exact ⟨s, rfl, hs, h2, p1.trans p2⟩

/-- Numbers are drawn. -/
def Many (lo hi : Int) (m : Nat) (xs : List Int) : Prop := xs.length ≤ m ∧ ∀ x ∈ xs, lo ≤ x ∧ x ≤ hi
theorem Many.snoc {lo hi : Int} {m : Nat} {xs : List Int} {x : Int} (h : Many lo hi m xs) (h0 : lo ≤ x) (h1 : x ≤ hi) : Many lo hi (m + 1) (xs ++ [x]) := by
  refine ⟨by rw [List.length_append]; exact Nat.succ_le_succ h.1, fun y hy => ?_⟩
  rw [List.mem_append, List.mem_singleton] at hy
  rcases hy with hy | rfl
  · exact h.2 y hy
  · exact ⟨h0, h1⟩
/-- A list of numbers is drawn. -/
def GotList (B g : Nat) (lo hi : Int) (m : Nat) (w : World) (e : Ending) (w' : World) : Prop := ∃ v xs, e = .returned v ∧ w'.ownsRow w.heap.size 2 1 v xs.length (xs.map (Value.int .i64)) ∧ Many lo hi m xs ∧ Src B g w' ∧ Past g w w'

set_option maxHeartbeats 2000000 in
theorem drawList_c {B g : Nat} {w : World} (h : Src B g w) : Calls Tryd.prog 66 #[.pointer (some ⟨g, 0, none⟩)] w (GotList B g (-1000000000001) 1000000000001 61 w) := by
  obtain ⟨i0, hi, hz0, hz1, hz2⟩ := info_parts info_i64
  have hz2' : i0.bytes ≤ 8 := by omega
  have HZ := Lib.hid hz2
  have hlt := h.lt
  have hown : (w.alloc (.cells #[] 2)).ownsRow w.heap.size 2 1 (.slice (some ⟨w.heap.size, 0, none⟩) 0 0) 0 (([] : List Int).map (Value.int .i64)) := World.ownsRow_lit w #[] 0 (by omega) (by decide) rfl
  have H0 := Lib.hid (next_c (h.alloc (.cells #[] 2)) 6 (by omega))
  clear h
  go_enter Tryd.func66, Tryd.ntmps66
  go_wp2_with fail
  refine H0.out.mono ?_
  rintro e w1 ⟨r, rfl, ⟨a1, b1, _⟩, h1, p1⟩
  replace b1 := b1 (by omega)
  replace hown := own_past hown p1 hlt
  have pp : Past g w w1 := ((Past.refl g w).alloc _).trans p1
  clear p1
  have hr : r = ((r.toNat : Nat) : Int) := by omega
  generalize r.toNat = n at *
  subst hr
  go_wp2_with fail
  go_loopw [3, 4] (fun v i wr => ∃ (k : Nat) (xs : List Int), k ≤ n ∧ i = .int .i64 k ∧ wr.ownsRow w.heap.size 2 1 v xs.length (xs.map (Value.int .i64)) ∧ Many (-1000000000001) 1000000000001 (n - k) xs ∧ Src B g wr ∧ Past g w wr) (fun _ i _ => (intOf i).toNat)
  case atStart => exact ⟨n, [], Nat.le_refl _, rfl, hown, ⟨Nat.zero_le _, by simp⟩, h1, pp⟩
  case round =>
    obtain ⟨k, xs, hk, rfl, ho, hm, hs, hp⟩ := hrel
    clear hown h1 pp
    have hxl := hm.1
    by_cases hlt0 : 0 < k
    · go_wp2_with fail
      refine (next_c hs 200 (by omega)).mono ?_
      rintro e w2 ⟨r2, rfl, ⟨a2, b2, _⟩, h2, p2⟩
      replace b2 := b2 (by omega)
      go_wp2_with fail
      refine (drawValue_c h2).mono ?_
      rintro e w3 ⟨r3, rfl, a3, b3, h3, p3⟩
      have HN := Lib.hid (pick_new (T := 2) (cs := #[.int .i64 (r2 - 100), .int .i64 r3]) [r2 - 100, r3] (-1000000000001) 1000000000001 h3 rfl rfl (by simp) (by simp) (by simp; omega))
      go_wp2_with fail
      refine HN.out.mono ?_
      rintro e w4 ⟨x, rfl, x0, x1, h4, p4⟩
      have ho4 := own_past (own_past (own_past ho p2 hlt) p3 hlt) p4 hlt
      have hp4 : Past g w w4 := ((hp.trans p2).trans p3).trans p4
      have hlt4 := hp4.size
      clear ho p2 p3 p4 hs h2 h3 hp
      go_wp2_with (at_builtin; refine wpList_append_own _ rfl _ _ 33 rfl w.heap.size 2 i0 (.int .i64 0) 1 8 Tryd.underlying33 hi hz0 hz1 hz2 rfl (by decide) _ _ _ rfl (ho4.alloc _) ⟨w4.heap.size, 0, none⟩ 1 1 [.int .i64 x] rfl rfl ?c1 ?c2 ?c3 ?c4 ?c5 ?_)
      case c1 => exact single_at _ _ _
      case c2 => intro u hu; simp at hu; subst hu; rfl
      case c3 => unfold maxLen; omega
      case c4 => omega
      case c5 => simp; omega
      intro v' w5 hown' hgrow _
      have hm' := hm.snoc x0 x1
      have hsp : Src B g w5 ∧ Past g w w5 := src_append h4 hlt hp4 ho4 hgrow
      have hk1 : n - k + 1 = n - (k - 1) := by omega
      rw [hk1] at hm'
      have hl' : xs.length + 1 = (xs ++ [x]).length := by simp
      have hown'' : w5.ownsRow w.heap.size 2 1 v' (xs ++ [x]).length ((xs ++ [x]).map (Value.int .i64)) := by rw [List.map_append, ← hl']; exact hown'
      have hki : ((k : Nat) : Int) - 1 = ((k - 1 : Nat) : Int) := by omega
      replace hown'' := Lib.hid hown''
      replace hki := Lib.hid hki
      replace hm' := Lib.hid hm'
      clear hown' hgrow ho4 hm hk1 hl'
      go_wp2_with fail
      go_roundw
      case rel => exact ⟨k - 1, xs ++ [x], by omega, by rw [hki.out], hown''.out, hm'.out, hsp.1, hsp.2⟩
      case measure => simp [intOf]; omega
    · obtain rfl : k = 0 := by omega
      go_wp2_with fail
      refine (next_c hs 24 (by omega)).mono ?_
      rintro e w2 ⟨r2, rfl, _, h2, p2⟩
      have ho2 := own_past ho p2 hlt
      have hp2 := hp.trans p2
      have hm2 : Many (-1000000000001) 1000000000001 61 xs := ⟨by omega, hm.2⟩
      by_cases q : r2 = 0
      · have hq : (r2 == 0) = true := by simpa using q
        clear q
        go_wp2_with fail
        refine (next_c h2 2 (by omega)).mono ?_
        rintro e w3 ⟨r3, rfl, ⟨a3, b3, _⟩, h3, p3⟩
        replace b3 := b3 (by omega)
        have hp3 := hp2.trans p3
        have hz3 := hp3.size
        clear ho ho2 hm hm2 hp hp2 p2 p3 h2 hs hq
        rcases (show r3 = 0 ∨ r3 = 1 by omega) with rfl | rfl
        · go_wp2_with (at_make; refine wpList_make_full _ rfl _ _ 33 rfl w.heap.size 2 i0 (.int .i64 0) 1 Tryd.underlying33 hi hz0 hz1 _ _ _ _ 60 rfl rfl rfl rfl ?b2 ?b3 ?b4 ?_)
          case b2 => rw [HZ.out]; omega
          case b3 => unfold maxLen; omega
          case b4 => omega
          intro w4 hown4 hgrow4
          have hb4 : Below w3.heap.size w3 w4 := (Below.refl _ _).grown hgrow4 (Nat.le_refl _) (fun k hk => by cases hk)
          have h4 := h3.below hb4
          have hp4 := hp3.trans (Past.of_below hb4)
          have he : (madeCells #[.int .i64 0] (60 * 1)).toList = (List.replicate 60 (0 : Int)).map (Value.int .i64) := by kernel_rfl
          have hown5 : w4.ownsRow w.heap.size 2 1 (.slice (some ⟨w3.heap.size, 0, none⟩) 60 60) (List.replicate 60 (0 : Int)).length ((List.replicate 60 (0 : Int)).map (Value.int .i64)) := he ▸ hown4
          replace hown5 := Lib.hid hown5
          clear he hown4 hgrow4 hb4
          go_wp2_with fail
          go_ret
          exact ⟨_, _, rfl, hown5.out, ⟨by rw [List.length_replicate]; omega, fun x hx => by rw [List.eq_of_mem_replicate hx]; omega⟩, h4, hp4⟩
        · go_wp2_with (at_make; refine wpList_make_full _ rfl _ _ 33 rfl w.heap.size 2 i0 (.int .i64 0) 1 Tryd.underlying33 hi hz0 hz1 _ _ _ _ 61 rfl rfl rfl rfl ?b2 ?b3 ?b4 ?_)
          case b2 => rw [HZ.out]; omega
          case b3 => unfold maxLen; omega
          case b4 => omega
          intro w4 hown4 hgrow4
          have hb4 : Below w3.heap.size w3 w4 := (Below.refl _ _).grown hgrow4 (Nat.le_refl _) (fun k hk => by cases hk)
          have h4 := h3.below hb4
          have hp4 := hp3.trans (Past.of_below hb4)
          have he : (madeCells #[.int .i64 0] (61 * 1)).toList = (List.replicate 61 (0 : Int)).map (Value.int .i64) := by kernel_rfl
          have hown5 : w4.ownsRow w.heap.size 2 1 (.slice (some ⟨w3.heap.size, 0, none⟩) 61 61) (List.replicate 61 (0 : Int)).length ((List.replicate 61 (0 : Int)).map (Value.int .i64)) := he ▸ hown4
          replace hown5 := Lib.hid hown5
          clear he hown4 hgrow4 hb4
          go_wp2_with fail
          go_ret
          exact ⟨_, _, rfl, hown5.out, ⟨by rw [List.length_replicate]; omega, fun x hx => by rw [List.eq_of_mem_replicate hx]; omega⟩, h4, hp4⟩
      · have hq : (r2 == 0) = false := by simpa using q
        clear q
        go_wp2_with fail
        go_ret
        exact ⟨_, xs, rfl, ho2, hm2, h2, hp2⟩

/-- A list of numbers, drawn from a code. -/
def Ret (lo hi : Int) (m : Nat) (w : World) (e : Ending) (w' : World) : Prop := ∃ v xs, e = .returned v ∧ Ints w' v xs ∧ Many lo hi m xs ∧ Below w.heap.size w w'
/-- A text, drawn from a code. -/
def RetText (w : World) (e : Ending) (w' : World) : Prop := ∃ s : ByteArray, e = .returned (.string s) ∧ s.size ≤ 32 ∧ Below w.heap.size w w'
end Go.Proofs.YtimjjednfhnbbaaDoor
