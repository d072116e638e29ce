/-
  Draws of numbers and of their texts.
  Conditions: each lemma names its own.
-/
import Derived.Test.YtimjjednfhnbbaaDoorDmg
import Derived.Test.YtimjjednfhnbbaaDoorDrMon
import Derived.Test.YtimjjednfhnbbaaDoorLstT
namespace Go.Proofs.YtimjjednfhnbbaaDoor
open Go.RowKit
set_option linter.unusedVariables false

theorem DrawListText_c {v : Value} {bs : List Int} {w : World} (h : Bytes w v bs) (hf : BytesFit bs) : Calls Tryd.prog 34 #[v] w (Ret (-1000000000001) 1000000000001 61 w) := by
  go_enter Tryd.func34, Tryd.ntmps34
  go_wp2_with fail
  refine (from_c h hf).mono ?_
  rintro e w1 ⟨g, rfl, h1, b1⟩
  clear h
  go_wp2_with fail
  refine (drawList_c h1).mono ?_
  rintro e w2 ⟨u, xs, rfl, ho, hm, h2, p2⟩
  have hb2 := src_below b1 h1 p2
  have hI := Ints.own ho
  clear ho
  go_wp2_with fail
  go_ret
  exact ⟨_, xs, rfl, hI, hm, hb2⟩
theorem ltS_size {xs : List Int} (h : ValsF xs) : (ltS xs).size ≤ 10000 := by
  unfold ltS
  split
  · have : minus.size = 1 := rfl
    omega
  · exact nums_join h comma (by decide)
set_option maxRecDepth 100000 in
set_option maxHeartbeats 4000000 in
theorem DrawReadList_c {v : Value} {bs : List Int} {w0 : World} (h : Bytes w0 v bs) (hf : BytesFit bs) : Calls Tryd.prog 35 #[v] w0 (RetStr 20000 w0) := by
  obtain ⟨i0, hi, hz0, hz1, hz2⟩ := info_parts info_i64
  go_enter Tryd.func35, Tryd.ntmps35
  go_wp2_with fail
  refine (from_c h hf).mono ?_
  rintro e w ⟨g, rfl, h0, b0⟩
  clear h
  have hlt := h0.lt
  have hown : (w.alloc (.cells #[] 2)).ownsRow w.heap.size 2 1 (.slice (some ⟨w.heap.size, 0, none⟩) 0 0) 0 (([] : List Int).map (Value.int .i64)) := World.ownsRow_lit w #[] 0 (by omega) (by decide) rfl
  have H0 := Lib.hid (next_c (h0.alloc (.cells #[] 2)) 6 (by omega))
  go_wp2_with fail
  refine H0.out.mono ?_
  rintro e w1 ⟨r, rfl, ⟨a1, b1, _⟩, h1, p1⟩
  replace b1 := b1 (by omega)
  replace hown := own_past hown p1 hlt
  have pp : Past g w w1 := ((Past.refl g w).alloc _).trans p1
  clear p1 H0
  have hr : r = ((r.toNat : Nat) : Int) := by omega
  generalize r.toNat = n at *
  subst hr
  have hn5 : n ≤ 5 := by omega
  clear a1 b1
  go_wp2_with fail
  go_loopw [4, 5] (fun v i wr => ∃ (k : Nat) (xs : List Int), k ≤ n ∧ i = .int .i64 k ∧ wr.ownsRow w.heap.size 2 1 v xs.length (xs.map (Value.int .i64)) ∧ Many (-100) 100 (n - k) xs ∧ Src w0.heap.size g wr ∧ Past g w wr) (fun _ i _ => (intOf i).toNat)
  case atStart => exact ⟨n, [], Nat.le_refl _, rfl, hown, ⟨Nat.zero_le _, by simp⟩, h1, pp⟩
  case round =>
    obtain ⟨k, xs, hk, rfl, ho, hm, hs, hp⟩ := hrel
    clear hown h1 pp
    have hxl := hm.1
    by_cases hlt0 : 0 < k
    · go_wp2_with fail
      refine (next_c hs 200 (by omega)).mono ?_
      rintro e w4 ⟨r2, rfl, ⟨a2, b2, _⟩, h4, p4⟩
      replace b2 := b2 (by omega)
      have ho4 := own_past ho p4 hlt
      have hp4 : Past g w w4 := hp.trans p4
      have hlt4 := hp4.size
      clear ho p4 hs hp
      go_wp2_with (at_builtin; refine wpList_append_own _ rfl _ _ 33 rfl w.heap.size 2 i0 (.int .i64 0) 1 8 Tryd.underlying33 hi hz0 hz1 hz2 rfl (by decide) _ _ _ rfl (ho4.alloc _) ⟨w4.heap.size, 0, none⟩ 1 1 [.int .i64 (r2 - 100)] rfl rfl ?c1 ?c2 ?c3 ?c4 ?c5 ?_)
      case c1 => exact single_at _ _ _
      case c2 => intro u hu; simp at hu; subst hu; rfl
      case c3 => unfold maxLen; omega
      case c4 => omega
      case c5 => simp; omega
      intro v' w5 hown' hgrow _
      have hm' := hm.snoc (x := r2 - 100) (by omega) (by omega)
      have hsp : Src w0.heap.size g w5 ∧ Past g w w5 := src_append h4 hlt hp4 ho4 hgrow
      have hk1 : n - k + 1 = n - (k - 1) := by omega
      rw [hk1] at hm'
      have hl' : xs.length + 1 = (xs ++ [r2 - 100]).length := by simp
      have hown'' : w5.ownsRow w.heap.size 2 1 v' (xs ++ [r2 - 100]).length ((xs ++ [r2 - 100]).map (Value.int .i64)) := by rw [List.map_append, ← hl']; exact hown'
      have hki : ((k : Nat) : Int) - 1 = ((k - 1 : Nat) : Int) := by omega
      replace hown'' := Lib.hid hown''
      replace hki := Lib.hid hki
      replace hm' := Lib.hid hm'
      clear hown' hgrow ho4 hm hk1 hl'
      go_wp2_with fail
      go_roundw
      case rel => exact ⟨k - 1, xs ++ [r2 - 100], by omega, by rw [hki.out], hown''.out, hm'.out, hsp.1, hsp.2⟩
      case measure => simp [intOf]; omega
    · obtain rfl : k = 0 := by omega
      have hv : ValsF xs := ⟨fun x hx => by have := hm.2 x hx; omega, by omega⟩
      have HT := Lib.hid (spec_text (Ints.own ho) hv)
      have hz := ltS_size hv
      generalize ltS xs = t at *
      clear ho hm hv
      go_wp2_with fail
      refine HT.out.mono ?_
      rintro e w3 ⟨rfl, b3⟩
      have h3 := hs.below b3
      have p3 := hp.trans (Past.of_below b3)
      clear HT b3
      go_wp2_with fail
      refine (next_c h3 3 (by omega)).mono ?_
      rintro e w4 ⟨r4, rfl, _, h4, p4⟩
      by_cases q : r4 = 0
      · have hq : (r4 == 0) = true := by simpa using q
        clear q
        go_wp2_with fail
        refine (damage_c h4 t 10000 hz (by omega)).mono ?_
        rintro e w5 ⟨u, rfl, hu, h5, p5⟩
        have hb5 := src_below b0 h0 ((p3.trans p4).trans p5)
        go_wp2_with fail
        go_ret
        exact ⟨u, rfl, by omega, hb5⟩
      · have hq : (r4 == 0) = false := by simpa using q
        clear q
        have hb4 := src_below b0 h0 (p3.trans p4)
        go_wp2_with fail
        go_ret
        exact ⟨t, rfl, by omega, hb4⟩
end Go.Proofs.YtimjjednfhnbbaaDoor
