/-
  The draws of holidays and of days.
  Conditions: each lemma names its own.
-/
import Derived.Test.YtiphankcngclfaaPick
import Derived.Test.YtiphankcngclfaaOwn
namespace Go.Proofs.Ytiphankcngclfaa
open Go.RowKit
set_option linter.unusedVariables false

/-- Numbers are drawn. -/
def Many (lo hi : Int) (m : Nat) (xs : List Int) : Prop := xs.length ≤ m ∧ ∀ x ∈ xs, lo ≤ x ∧ x ≤ hi
theorem Many.snoc {lo hi : Int} {m : Nat} {xs : List Int} {x : Int} (h : Many lo hi m xs) (h0 : lo ≤ x) (h1 : x ≤ hi) : Many lo hi (m + 1) (xs ++ [x]) := by
  refine ⟨by rw [List.length_append]; exact Nat.succ_le_succ h.1, fun y hy => ?_⟩
  rw [List.mem_append, List.mem_singleton] at hy
  rcases hy with hy | rfl
  · exact h.2 y hy
  · exact ⟨h0, h1⟩
theorem Many.more {lo hi : Int} {m m' : Nat} {xs : List Int} (h : Many lo hi m xs) (hm : m ≤ m') : Many lo hi m' xs := ⟨Nat.le_trans h.1 hm, h.2⟩
/-- A list of numbers is drawn. -/
def GotList (B g : Nat) (lo hi : Int) (m : Nat) (w : World) (e : Ending) (w' : World) : Prop := ∃ v xs, e = .returned v ∧ w'.ownsRow w.heap.size 2 1 v xs.length (xs.map (Value.int .i64)) ∧ Many lo hi m xs ∧ Src B g w' ∧ Past g w w'
/-- An own list of numbers in the midst of its making. -/
structure Grows (B g : Nat) (lo hi : Int) (m : Nat) (w : World) (v : Value) (xs : List Int) (wr : World) : Prop where
  own : wr.ownsRow w.heap.size 2 1 v xs.length (xs.map (Value.int .i64))
  many : Many lo hi m xs
  src : Src B g wr
  past : Past g w wr
theorem Grows.past_ {B g m : Nat} {lo hi : Int} {w wr w' : World} {v : Value} {xs : List Int} (h : Grows B g lo hi m w v xs wr) (hg : g < w.heap.size) (hs : Src B g w') (hp : Past g wr w') : Grows B g lo hi m w v xs w' :=
  ⟨own_past h.own hp hg, h.many, hs, h.past.trans hp⟩
theorem Grows.snoc {B g m : Nat} {lo hi : Int} {w wr w' : World} {v v' : Value} {xs : List Int} {x : Int} {T : TypeId} (h : Grows B g lo hi m w v xs wr) (hg : g < w.heap.size) (h0 : lo ≤ x) (h1 : x ≤ hi)
    (ho : w'.ownsRow w.heap.size 2 1 v' (xs.length + 1) (xs.map (Value.int .i64) ++ [.int .i64 x])) (hgr : (wr.alloc (.cells #[.int .i64 x] T)).grownBy w' v.ownBlock) : Grows B g lo hi (m + 1) w v' (xs ++ [x]) w' := by
  obtain ⟨s1, s2⟩ := src_append h.src hg h.past h.own hgr
  refine ⟨?_, h.many.snoc h0 h1, s1, s2⟩
  rw [List.map_append, List.length_append]
  exact ho
theorem grows_new {B g : Nat} {lo hi : Int} {w wr : World} (hs : Src B g wr) (hp : Past g w wr) : Grows B g lo hi 0 w (.slice (some ⟨wr.heap.size, 0, none⟩) 0 0) [] (wr.alloc (.cells #[] 2)) :=
  ⟨World.ownsRow_lit wr #[] 0 hp.size (by decide) rfl, ⟨Nat.le_refl _, by simp⟩, hs.alloc _, hp.alloc _⟩
def sliceLen : Value → Nat
  | .slice _ n _ => n
  | _ => 0

set_option maxRecDepth 100000 in
set_option maxHeartbeats 4000000 in
theorem holidays_c {B g : Nat} {w : World} (h : Src B g w) : Calls Try.prog 53 #[.pointer (some ⟨g, 0, none⟩)] w (GotList B g (-1) 20001 41 w) := by
  have hlt := h.lt
  have S := Lib.hid h
  have PP : Past g w w := Past.refl _ _
  clear h
  obtain ⟨i0, hi, hz0, hz1, hz2⟩ := info_parts info_i64
  have GG := Lib.hid (grows_new (lo := -1) (hi := 20001) S.out PP)
  replace S := Lib.hid (S.out.alloc (.cells #[] 2))
  replace PP := PP.alloc (.cells #[] 2)
  go_enter Try.func53, Try.ntmps53
  clear S PP
  go_wp2_with fail
  refine (next_c GG.out.src 60 (by omega)).mono ?_
  rintro e w1 ⟨r1, rfl, ⟨a1, b1, _⟩, S', p1⟩
  replace b1 := b1 (by omega)
  replace GG := Lib.hid (GG.out.past_ hlt S' p1)
  clear S' p1
  go_wp2_with fail
  refine (next_c GG.out.src 8 (by omega)).mono ?_
  rintro e w2 ⟨r2, rfl, ⟨a2, b2, _⟩, S', p2⟩
  replace b2 := b2 (by omega)
  replace GG := Lib.hid (GG.out.past_ hlt S' p2)
  clear S' p2
  have hr : r2 = ((r2.toNat : Nat) : Int) := by omega
  generalize r2.toNat = n at *
  subst hr
  go_wp2_with fail
  go_loopw [3, 4, 5] (fun v y i wr => ∃ (k : Nat) (xs : List Int) (d : Int), k ≤ n ∧ i = .int .i64 k ∧ y = .int .i64 d ∧ 100 ≤ d ∧ d ≤ 159 + 40 * ((n : Int) - k) ∧ Hid (Grows B g (-1) 20001 (n - k) w v xs wr)) (fun _ _ i _ => (intOf i).toNat)
  case atStart => exact ⟨n, [], _, Nat.le_refl _, rfl, rfl, by omega, by omega, by rw [Nat.sub_self]; exact GG⟩
  case round =>
    clear GG
    obtain ⟨k, xs, d, hk, rfl, rfl, hd0, hd1, GG⟩ := hrel
    by_cases hlt0 : 0 < k
    · have GG := GG.out
      go_wp2_with (at_builtin; refine wpList_append_own _ rfl _ _ 22 rfl w.heap.size 2 i0 (.int .i64 0) 1 8 Try.underlying22 hi hz0 hz1 hz2 rfl (by decide) _ _ _ rfl (GG.own.alloc _) ⟨wr.heap.size, 0, none⟩ 1 1 [.int .i64 (d)] rfl rfl ?c1 ?c2 ?c3 ?c4 ?c5 ?_)
      case c1 => exact single_at _ _ _
      case c2 => intro u hu; simp at hu; subst hu; rfl
      case c3 => unfold maxLen; have := GG.many.1; omega
      case c4 => have := GG.many.1; omega
      case c5 => have := GG.past.size; simp; omega
      intro v' w5 hown' hgrow _
      replace GG := GG.snoc hlt (by omega) (by omega) hown' hgrow
      clear hown' hgrow
      have hk1 : n - k + 1 = n - (k - 1) := by omega
      rw [hk1] at GG
      replace GG := Lib.hid GG
      clear hk1
      generalize xs ++ [d] = xs2 at *
      go_wp2_with fail
      refine (next_c GG.out.src 5 (by omega)).mono ?_
      rintro e w6 ⟨r6, rfl, ⟨a6, b6, _⟩, S', p6⟩
      replace b6 := b6 (by omega)
      replace GG := Lib.hid (GG.out.past_ hlt S' p6)
      clear S' p6
      go_wp2_with fail
      refine (next_c GG.out.src 40 (by omega)).mono ?_
      rintro e w7 ⟨r7, rfl, ⟨a7, b7, _⟩, S', p7⟩
      replace b7 := b7 (by omega)
      replace GG := Lib.hid (GG.out.past_ hlt S' p7)
      clear S' p7
      have HN := Lib.hid (pick_new (T := 2) (cs := #[.int .i64 0, .int .i64 r6, .int .i64 r7]) [0, r6, r7] 0 39 GG.out.src rfl rfl (by simp) (by simp) (by simp; omega))
      go_wp2_with fail
      refine HN.out.mono ?_
      rintro e w8 ⟨r8, rfl, a8, b8, S', p8⟩
      replace GG := Lib.hid (GG.out.past_ hlt S' p8)
      clear S' p8 HN
      have hki : ((k : Nat) : Int) - 1 = ((k - 1 : Nat) : Int) := by omega
      replace hki := Lib.hid hki
      go_wp2_with fail
      go_roundw
      case rel => exact ⟨k - 1, xs2, _, by omega, by rw [hki.out], rfl, by omega, by omega, GG⟩
      case measure => simp [intOf]; omega
    · obtain rfl : k = 0 := by omega
      go_wp2_with fail
      refine (next_c GG.out.src 24 (by omega)).mono ?_
      rintro e w9 ⟨r9, rfl, ⟨a9, b9, _⟩, S', p9⟩
      replace b9 := b9 (by omega)
      replace GG := Lib.hid (GG.out.past_ hlt S' p9)
      clear S' p9
      have hn7 : n ≤ 7 := by omega
      by_cases q0 : r9 = 0
      · subst q0
        have HN := Lib.hid (pick_new (T := 2) (cs := #[.int .i64 (d - 60), .int .i64 20000, .int .i64 20001, .int .i64 (-1)]) [d - 60, 20000, 20001, -1] (-1) 20001 GG.out.src rfl rfl (by simp) (by simp) (by simp; omega))
        go_wp2_with fail
        refine HN.out.mono ?_
        rintro e wa ⟨ra, rfl, aa, ba, S', pa⟩
        replace GG := GG.out.past_ hlt S' pa
        clear S' pa HN
        go_wp2_with (at_builtin; refine wpList_append_own _ rfl _ _ 22 rfl w.heap.size 2 i0 (.int .i64 0) 1 8 Try.underlying22 hi hz0 hz1 hz2 rfl (by decide) _ _ _ rfl (GG.own.alloc _) ⟨wa.heap.size, 0, none⟩ 1 1 [.int .i64 (ra)] rfl rfl ?c1 ?c2 ?c3 ?c4 ?c5 ?_)
        case c1 => exact single_at _ _ _
        case c2 => intro u hu; simp at hu; subst hu; rfl
        case c3 => unfold maxLen; have := GG.many.1; omega
        case c4 => have := GG.many.1; omega
        case c5 => have := GG.past.size; simp; omega
        intro v' wb hown' hgrow _
        replace GG := GG.snoc hlt aa ba hown' hgrow
        clear hown' hgrow
        replace GG := Lib.hid GG
        go_wp2_with fail
        go_ret
        exact ⟨_, _, rfl, GG.out.own, GG.out.many.more (by omega), GG.out.src, GG.out.past⟩
      · by_cases q1 : r9 = 1
        · subst q1
          replace GG := grows_new (lo := -1) (hi := 20001) GG.out.src GG.out.past
          replace GG := Lib.hid GG
          clear q0
          go_wp2_with fail
          go_loopw [3] (fun v wr => ∃ xs : List Int, Hid (Grows B g (-1) 20001 xs.length w v xs wr) ∧ xs.length ≤ 41 ∧ sliceLen v = xs.length) (fun v _ => 41 - sliceLen v)
          case atStart => exact ⟨[], GG, by simp, rfl⟩
          case round =>
            clear GG xs
            obtain ⟨xs, GG, hx, hv⟩ := hrel
            obtain ⟨a, c, rfl, hcap, hmost, _⟩ := own_form GG.out.own
            clear hv
            unfold maxLen at hmost
            generalize hL : xs.length = L at *
            replace hL := Lib.hid hL
            go_wp2_with fail
            refine (next_c GG.out.src 2 (by omega)).mono ?_
            rintro e w11 ⟨r11, rfl, ⟨a11, b11, _⟩, S', p11⟩
            replace b11 := b11 (by omega)
            replace GG := Lib.hid (GG.out.past_ hlt S' p11)
            clear S' p11
            by_cases hq : (L : Int) < 40 + r11
            · have HW := Lib.hid GG
              have GG := GG.out
              have hx2 : L + 1 ≤ 41 := by omega
              go_wp2_with (at_builtin; refine wpList_append_own _ rfl _ _ 22 rfl w.heap.size 2 i0 (.int .i64 0) 1 8 Try.underlying22 hi hz0 hz1 hz2 rfl (by decide) _ _ _ rfl (GG.own.alloc _) ⟨w11.heap.size, 0, none⟩ 1 1 [.int .i64 (150 + (L : Int))] rfl rfl ?c1 ?c2 ?c3 ?c4 ?c5 ?_)
              case c1 => exact single_at _ _ _
              case c2 => intro u hu; simp at hu; subst hu; rfl
              case c3 => unfold maxLen; have := GG.many.1; omega
              case c4 => have := GG.many.1; omega
              case c5 => have := GG.past.size; simp; omega
              intro v' w12 hown' hgrow _
              replace GG := GG.snoc hlt (by omega) (by omega) hown' hgrow
              clear hown' hgrow
              obtain ⟨a2, c2, hv2, _, _, _⟩ := own_form GG.own
              have hlv : Hid (sliceLen v' = L + 1) := Lib.hid (by rw [hv2, sliceLen, List.length_append, hL.out]; rfl)
              have hl2 : Hid ((xs ++ [150 + (L : Int)]).length = L + 1) := Lib.hid (by rw [List.length_append, hL.out]; rfl)
              replace GG := Lib.hid GG
              clear hv2 HW
              go_wp2_with fail
              go_roundw
              case rel => exact ⟨xs ++ [150 + (L : Int)], by rw [hl2.out]; exact GG, by rw [hl2.out]; omega, by rw [hl2.out]; exact hlv.out⟩
              case measure => rw [hlv.out]; simp [sliceLen]; omega
            · go_wp2_with fail
              go_ret
              exact ⟨_, _, rfl, by rw [hL.out]; exact (hL.out ▸ GG.out.own), GG.out.many.more (by omega), GG.out.src, GG.out.past⟩
        · have f0 : (r9 == 0) = false := by simpa using q0
          have f1 : (r9 == 1) = false := by simpa using q1
          clear q0 q1
          go_wp2_with fail
          go_ret
          exact ⟨_, _, rfl, GG.out.own, GG.out.many.more (by omega), GG.out.src, GG.out.past⟩
set_option maxHeartbeats 1000000 in
theorem day_c {B g : Nat} {w : World} (h : Src B g w) : Calls Try.prog 54 #[.pointer (some ⟨g, 0, none⟩)] w (Got B g (-1) 20001 w) := by
  have hlt := h.lt
  have S := Lib.hid h
  have PP : Past g w w := Past.refl _ _
  clear h
  go_enter Try.func54, Try.ntmps54
  go_wp2_with fail
  refine (next_c S.out 16 (by omega)).mono ?_
  rintro e w1 ⟨r1, rfl, ⟨a1, b1, z1⟩, S', p1⟩
  replace PP := PP.trans p1
  replace S := Lib.hid S'
  clear S'
  replace b1 := b1 (by omega)
  clear z1 p1
  by_cases q : r1 = 0
  · have hq : (r1 == 0) = true := by simpa using q
    clear q
    have HN := Lib.hid (pick_new (T := 2) (cs := #[.int .i64 0, .int .i64 20000, .int .i64 19999, .int .i64 20001, .int .i64 (-1), .int .i64 5]) [0, 20000, 19999, 20001, -1, 5] (-1) 20001 S.out rfl rfl (by simp) (by simp) (by simp))
    go_wp2_with fail
    refine HN.out.mono ?_
    rintro e w2 ⟨r2, rfl, a2, b2, S', p2⟩
    clear HN
    replace PP := PP.trans p2
    replace S := Lib.hid S'
    clear S' p2
    go_wp2_with fail
    go_ret
    exact ⟨_, rfl, a2, b2, S.out, PP⟩
  · have hq : (r1 == 0) = false := by simpa using q
    clear q
    go_wp2_with fail
    refine (next_c S.out 250 (by omega)).mono ?_
    rintro e w3 ⟨r3, rfl, ⟨a3, b3, z3⟩, S', p3⟩
    replace PP := PP.trans p3
    replace S := Lib.hid S'
    clear S'
    replace b3 := b3 (by omega)
    clear z3 p3
    go_wp2_with fail
    go_ret
    exact ⟨_, rfl, by omega, by omega, S.out, PP⟩
/-- Holidays and one, two numbers, drawn from a code. -/
def RetH1 (lo hi : Int) (w : World) (e : Ending) (w' : World) : Prop := ∃ (v : Value) (xs : List Int) (x : Int), e = .returned (.tuple #[v, .int .i64 x]) ∧ w'.ownsRow w.heap.size 2 1 v xs.length (xs.map (Value.int .i64)) ∧ (lo ≤ x ∧ x ≤ hi) ∧ Below w.heap.size w w'
def RetH2 (lo hi lo2 hi2 : Int) (w : World) (e : Ending) (w' : World) : Prop := ∃ (v : Value) (xs : List Int) (x y : Int), e = .returned (.tuple #[v, .int .i64 x, .int .i64 y]) ∧ w'.ownsRow w.heap.size 2 1 v xs.length (xs.map (Value.int .i64)) ∧ (lo ≤ x ∧ x ≤ hi ∧ lo2 ≤ y ∧ y ≤ hi2) ∧ Below w.heap.size w w'
set_option maxHeartbeats 1000000 in
theorem DrawIsCourtDay_c {v : Value} {bs : List Int} {w : World} (h : Bytes w v bs) (hf : BytesFit bs) : Calls Try.prog 35 #[v] w (RetH1 (-1) 20001 w) := by
  have BB : Below w.heap.size w w := Below.refl _ _
  go_enter Try.func35, Try.ntmps35
  go_wp2_with fail
  refine (from_c (h.below BB) hf).mono ?_
  rintro e w1 ⟨g, rfl, S, b1⟩
  replace BB := below_next BB (Nat.le_refl _) b1
  replace S := Lib.hid S
  clear b1
  have hgb := S.out.lt
  have hbs := BB.size
  go_wp2_with fail
  refine (holidays_c S.out).mono ?_
  rintro e w2 ⟨vh, xh, rfl, ho, mh, S', ph⟩
  replace BB := src_below BB S.out ph
  replace S := Lib.hid S'
  clear S' ph mh
  go_wp2_with fail
  refine (day_c S.out).mono ?_
  rintro e w3 ⟨r3, rfl, a3, b3, S', p3⟩
  replace ho := own_past ho p3 hgb
  replace BB := src_below BB S.out p3
  replace S := Lib.hid S'
  clear S' p3
  go_wp2_with fail
  go_ret2
  exact ⟨_, _, _, rfl, own_mono ho hbs, ⟨a3, b3⟩, BB⟩
set_option maxHeartbeats 1000000 in
theorem DrawCountCourtDays_c {v : Value} {bs : List Int} {w : World} (h : Bytes w v bs) (hf : BytesFit bs) : Calls Try.prog 34 #[v] w (RetH2 (-1) 20001 (-1) 20001 w) := by
  have BB : Below w.heap.size w w := Below.refl _ _
  go_enter Try.func34, Try.ntmps34
  go_wp2_with fail
  refine (from_c (h.below BB) hf).mono ?_
  rintro e w1 ⟨g, rfl, S, b1⟩
  replace BB := below_next BB (Nat.le_refl _) b1
  replace S := Lib.hid S
  clear b1
  have hgb := S.out.lt
  have hbs := BB.size
  go_wp2_with fail
  refine (holidays_c S.out).mono ?_
  rintro e w2 ⟨vh, xh, rfl, ho, mh, S', ph⟩
  replace BB := src_below BB S.out ph
  replace S := Lib.hid S'
  clear S' ph mh
  go_wp2_with fail
  refine (day_c S.out).mono ?_
  rintro e w3 ⟨r3, rfl, a3, b3, S', p3⟩
  replace ho := own_past ho p3 hgb
  replace BB := src_below BB S.out p3
  replace S := Lib.hid S'
  clear S' p3
  go_wp2_with fail
  refine (day_c S.out).mono ?_
  rintro e w4 ⟨r4, rfl, a4, b4, S', p4⟩
  replace ho := own_past ho p4 hgb
  replace BB := src_below BB S.out p4
  replace S := Lib.hid S'
  clear S' p4
  go_wp2_with fail
  go_ret3
  exact ⟨_, _, _, _, rfl, own_mono ho hbs, ⟨a3, b3, a4, b4⟩, BB⟩
set_option maxHeartbeats 1000000 in
theorem DrawAddCourtDays_c {v : Value} {bs : List Int} {w : World} (h : Bytes w v bs) (hf : BytesFit bs) : Calls Try.prog 33 #[v] w (RetH2 (-1) 20001 (-1) 401 w) := by
  have BB : Below w.heap.size w w := Below.refl _ _
  go_enter Try.func33, Try.ntmps33
  go_wp2_with fail
  refine (from_c (h.below BB) hf).mono ?_
  rintro e w1 ⟨g, rfl, S, b1⟩
  replace BB := below_next BB (Nat.le_refl _) b1
  replace S := Lib.hid S
  clear b1
  have hgb := S.out.lt
  have hbs := BB.size
  go_wp2_with fail
  refine (DrawIsCourtDay_c (h.below BB) hf).mono ?_
  rintro e w2 ⟨vh, xh, x2, rfl, ho, ⟨c1, c2⟩, q2⟩
  replace BB := below_next BB (Nat.le_refl _) q2
  replace S := Lib.hid (S.out.below q2)
  clear q2
  go_wp2_with fail
  refine (next_c S.out 40 (by omega)).mono ?_
  rintro e w3 ⟨r3, rfl, ⟨a3, b3, z3⟩, S', p3⟩
  replace ho := own_past ho p3 hgb
  replace BB := src_below BB S.out p3
  replace S := Lib.hid S'
  clear S'
  replace b3 := b3 (by omega)
  clear z3 p3
  go_wp2_with fail
  refine (next_c S.out 10 (by omega)).mono ?_
  rintro e w4 ⟨r4, rfl, ⟨a4, b4, z4⟩, S', p4⟩
  replace ho := own_past ho p4 hgb
  replace BB := src_below BB S.out p4
  replace S := Lib.hid S'
  clear S'
  replace b4 := b4 (by omega)
  clear z4 p4
  have HN := Lib.hid (pick_new (T := 2) (cs := #[.int .i64 0, .int .i64 1, .int .i64 (r3), .int .i64 400, .int .i64 401, .int .i64 (-1), .int .i64 (r4)]) [0, 1, r3, 400, 401, -1, r4] (-1) 401 S.out rfl rfl (by simp) (by simp) (by simp; omega))
  go_wp2_with fail
  refine HN.out.mono ?_
  rintro e w5 ⟨r5, rfl, a5, b5, S', p5⟩
  clear HN
  replace ho := own_past ho p5 hgb
  replace BB := src_below BB S.out p5
  replace S := Lib.hid S'
  clear S' p5
  go_wp2_with fail
  go_ret3
  exact ⟨_, _, _, _, rfl, own_mono ho hbs, ⟨c1, c2, a5, b5⟩, BB⟩
set_option maxHeartbeats 1000000 in
theorem DrawDeadlineOf_c {v : Value} {bs : List Int} {w : World} (h : Bytes w v bs) (hf : BytesFit bs) : Calls Try.prog 31 #[v] w (RetH2 (-1) 20001 (-1) 1001 w) := by
  have BB : Below w.heap.size w w := Below.refl _ _
  go_enter Try.func31, Try.ntmps31
  go_wp2_with fail
  refine (from_c (h.below BB) hf).mono ?_
  rintro e w1 ⟨g, rfl, S, b1⟩
  replace BB := below_next BB (Nat.le_refl _) b1
  replace S := Lib.hid S
  clear b1
  have hgb := S.out.lt
  have hbs := BB.size
  go_wp2_with fail
  refine (DrawIsCourtDay_c (h.below BB) hf).mono ?_
  rintro e w2 ⟨vh, xh, x2, rfl, ho, ⟨c1, c2⟩, q2⟩
  replace BB := below_next BB (Nat.le_refl _) q2
  replace S := Lib.hid (S.out.below q2)
  clear q2
  go_wp2_with fail
  refine (next_c S.out 60 (by omega)).mono ?_
  rintro e w3 ⟨r3, rfl, ⟨a3, b3, z3⟩, S', p3⟩
  replace ho := own_past ho p3 hgb
  replace BB := src_below BB S.out p3
  replace S := Lib.hid S'
  clear S'
  replace b3 := b3 (by omega)
  clear z3 p3
  have HN := Lib.hid (pick_new (T := 2) (cs := #[.int .i64 0, .int .i64 30, .int .i64 (r3), .int .i64 1000, .int .i64 1001, .int .i64 (-1), .int .i64 14]) [0, 30, r3, 1000, 1001, -1, 14] (-1) 1001 S.out rfl rfl (by simp) (by simp) (by simp; omega))
  go_wp2_with fail
  refine HN.out.mono ?_
  rintro e w4 ⟨r4, rfl, a4, b4, S', p4⟩
  clear HN
  replace ho := own_past ho p4 hgb
  replace BB := src_below BB S.out p4
  replace S := Lib.hid S'
  clear S' p4
  go_wp2_with fail
  go_ret3
  exact ⟨_, _, _, _, rfl, own_mono ho hbs, ⟨c1, c2, a4, b4⟩, BB⟩
set_option maxHeartbeats 1000000 in
theorem DrawNextCourtDay_c {v : Value} {bs : List Int} {w : World} (h : Bytes w v bs) (hf : BytesFit bs) : Calls Try.prog 32 #[v] w (RetH1 (-1) 20001 w) := by
  have BB : Below w.heap.size w w := Below.refl _ _
  go_enter Try.func32, Try.ntmps32
  go_wp2_with fail
  refine (DrawIsCourtDay_c (h.below BB) hf).mono ?_
  rintro e w1 ⟨vh, xh, x1, rfl, ho, hx, q1⟩
  replace BB := below_next BB (Nat.le_refl _) q1
  clear q1
  go_wp2_with fail
  go_ret2
  exact ⟨_, _, _, rfl, ho, hx, BB⟩
set_option maxHeartbeats 4000000 in
theorem DrawLongestBreak_c {v : Value} {bs : List Int} {w : World} (h : Bytes w v bs) (hf : BytesFit bs) : Calls Try.prog 30 #[v] w (RetH2 (-1) 20001 (-2) 21001 w) := by
  have BB : Below w.heap.size w w := Below.refl _ _
  go_enter Try.func30, Try.ntmps30
  go_wp2_with fail
  refine (from_c (h.below BB) hf).mono ?_
  rintro e w1 ⟨g, rfl, S, b1⟩
  replace BB := below_next BB (Nat.le_refl _) b1
  replace S := Lib.hid S
  clear b1
  have hgb := S.out.lt
  have hbs := BB.size
  go_wp2_with fail
  refine (DrawCountCourtDays_c (h.below BB) hf).mono ?_
  rintro e w2 ⟨vh, xh, x2, y2, rfl, ho, ⟨c1, c2, c3, c4⟩, q2⟩
  replace BB := below_next BB (Nat.le_refl _) q2
  replace S := Lib.hid (S.out.below q2)
  clear q2
  go_wp2_with fail
  refine (next_c S.out 4 (by omega)).mono ?_
  rintro e w3 ⟨r3, rfl, ⟨a3, b3, z3⟩, S', p3⟩
  replace ho := own_past ho p3 hgb
  replace BB := src_below BB S.out p3
  replace S := Lib.hid S'
  clear S'
  replace b3 := b3 (by omega)
  clear z3 p3
  by_cases q : 0 < r3
  · rcases Int.lt_or_le x2 y2 with q2 | q2
    · go_wp2_with fail
      all_goals (go_ret3; exact ⟨_, _, _, _, rfl, own_mono ho hbs, ⟨by omega, by omega, by omega, by omega⟩, BB⟩)
    · go_wp2_with fail
      all_goals (go_ret3; exact ⟨_, _, _, _, rfl, own_mono ho hbs, ⟨by omega, by omega, by omega, by omega⟩, BB⟩)
  · have q2 : r3 ≤ 0 := by omega
    have HN := Lib.hid (pick_new (T := 2) (cs := #[.int .i64 (x2 + 999), .int .i64 (x2 + 1000), .int .i64 (x2), .int .i64 (x2 - 1)]) [x2 + 999, x2 + 1000, x2, x2 - 1] (-2) 21001 S.out rfl rfl (by simp) (by simp) (by simp; omega))
    go_wp2_with fail
    refine HN.out.mono ?_
    rintro e w4 ⟨r4, rfl, a4, b4, S', p4⟩
    clear HN
    replace ho := own_past ho p4 hgb
    replace BB := src_below BB S.out p4
    replace S := Lib.hid S'
    clear S' p4
    go_wp2_with fail
    go_ret3
    exact ⟨_, _, _, _, rfl, own_mono ho hbs, ⟨c1, c2, a4, b4⟩, BB⟩
end Go.Proofs.Ytiphankcngclfaa
