/-
  A text changed slightly.
  Conditions: each lemma names its own.
-/
import Derived.Test.YtibfpajblcfobaaDoorDrawSum
import Derived.Test.YtibfpajblcfobaaDoorReg
namespace Go.Proofs.YtibfpajblcfobaaDoor
open Go.RowKit
set_option linter.unusedVariables false

/-- A text of at most m bytes is drawn. -/
def GotUpTo (B g m : Nat) (w : World) (e : Ending) (w' : World) : Prop := ∃ s : ByteArray, e = .returned (.string s) ∧ s.size ≤ m ∧ Src B g w' ∧ Past g w w'
theorem ext_le {s : ByteArray} {i j m : Nat} (h : s.size ≤ m) : (s.extract i j).size ≤ m := by rw [ByteArray.size_extract]; omega
theorem cut_out {s : ByteArray} {k m : Nat} (h : s.size ≤ m) (hk : k ≤ s.size) : (s.extract 0 k ++ s.extract (k + 1) s.size).size ≤ m + 32 := by
  rw [ByteArray.size_append, ByteArray.size_extract, ByteArray.size_extract]; omega
theorem cut_in {s u : ByteArray} {k m : Nat} (h : s.size ≤ m) (hu : u.size ≤ 32) (hk : k ≤ s.size) : (s.extract 0 k ++ u ++ s.extract k s.size).size ≤ m + 32 := by
  rw [ByteArray.size_append, ByteArray.size_append, ByteArray.size_extract, ByteArray.size_extract]; omega
theorem Src.drewN {B g : Nat} {w : World} (h : Src B g w) (n : Nat) : Src B g (w.drewN n) := h.below ⟨rfl, rfl, rfl, Nat.le_refl _, fun _ _ => rfl⟩
theorem Src.drew {B g : Nat} {w : World} (h : Src B g w) : Src B g w.drew := h.below ⟨rfl, rfl, rfl, Nat.le_refl _, fun _ _ => rfl⟩
/-- Texts of at most 32 bytes, in a block other than the source's. -/
def LitAt (g n : Nat) (w : World) (v : Value) : Prop := ∃ b, v = .slice (some ⟨b, 0, none⟩) n n ∧ b ≠ g ∧ b < w.heap.size ∧ ∀ j, j < n → ∃ s : ByteArray, w.cell? ⟨b, j, none⟩ = some (.string s) ∧ s.size ≤ 32
theorem LitAt.past {g n : Nat} {w w' : World} {v : Value} (h : LitAt g n w v) (hp : Past g w w') : LitAt g n w' v := by
  obtain ⟨b, hv, hb, hlt, hc⟩ := h
  exact ⟨b, hv, hb, Nat.lt_of_lt_of_le hlt hp.size, fun j hj => by obtain ⟨s, h1, h2⟩ := hc j hj; exact ⟨s, hp.cell h1 (by intro e; injection e with e; exact hb e), h2⟩⟩
theorem LitAt.new {g n : Nat} {w : World} {cs : Array Value} {T : TypeId} (hg : g < w.heap.size) (hn : cs.size = n) (hall : cs.all shortB = true) : LitAt g n (w.alloc (.cells cs T)) (.slice (some ⟨w.heap.size, 0, none⟩) n n) :=
  ⟨w.heap.size, rfl, by omega, by simp, fun j hj => lit_at (Past.refl g _) hg (by omega) hall⟩
/-- The address of such a text. -/
def TextAt (g : Nat) (w : World) (v : Value) : Prop := ∃ b o, v = .pointer (some ⟨b, o, none⟩) ∧ b ≠ g ∧ ∃ s : ByteArray, w.cell? ⟨b, o, none⟩ = some (.string s) ∧ s.size ≤ 32
theorem TextAt.past {g : Nat} {w w' : World} {v : Value} (h : TextAt g w v) (hp : Past g w w') : TextAt g w' v := by
  obtain ⟨b, o, hv, hb, s, h1, h2⟩ := h
  exact ⟨b, o, hv, hb, s, hp.cell h1 (by intro e; injection e with e; exact hb e), h2⟩
/-- A text of at most m bytes. -/
def TextOf (m : Nat) (v : Value) : Prop := ∃ s : ByteArray, v = .string s ∧ s.size ≤ m
/-- A number from lo to hi. -/
def NumOf (lo hi : Int) (v : Value) : Prop := ∃ x : Int, v = .int .i64 x ∧ lo ≤ x ∧ x ≤ hi
/-- The facts of the slots. -/
def dmgF (g : Nat) (t : ByteArray) (k m : Nat) (i : Nat) (w : World) (v : Value) : Prop :=
  match i with
  | 0 => v = .pointer (some ⟨g, 0, none⟩)
  | 1 => v = .string t
  | 5 => v = .int .i64 k
  | 20 => v = .string t
  | 21 => v = .int .i64 k
  | 22 => v = .string (t.extract 0 k)
  | 23 => LitAt g 8 w v
  | 24 => v = .pointer (some ⟨g, 0, none⟩)
  | 25 => NumOf 0 7 v
  | 26 => TextAt g w v
  | 27 => TextOf 32 v
  | 28 => ∃ u : ByteArray, v = .string (t.extract 0 k ++ u) ∧ u.size ≤ 32
  | 29 => v = .string t
  | 30 => v = .int .i64 k
  | 31 => v = .string (t.extract k t.size)
  | 32 => TextOf (m + 32) v
  | _ => False
theorem dmgF_past {g : Nat} {t : ByteArray} {k m i : Nat} {w w' : World} {v : Value} (h : dmgF g t k m i w v) (hp : Past g w w') : dmgF g t k m i w' v := by
  unfold dmgF at *
  split at h <;> first | exact h | exact LitAt.past h hp | exact TextAt.past h hp
set_option maxRecDepth 100000 in
set_option maxHeartbeats 4000000 in
theorem damage_c {B g : Nat} {w : World} (h : Src B g w) (t : ByteArray) (m : Nat) (ht : t.size ≤ m) (hm : m ≤ 1000000) : Calls Tryd.prog 29 #[.pointer (some ⟨g, 0, none⟩), .string t] w (GotUpTo B g (m + 32) w) := by
  have hlt := h.lt
  have H0 := Lib.hid (next_c h ((t.size : Int) + 1) (by omega))
  clear h
  go_enter Tryd.func29, Tryd.ntmps29
  go_wp2_with fail
  refine H0.out.mono ?_
  rintro e w1 ⟨r, rfl, ⟨a1, b1, _⟩, h1, p1⟩
  clear H0
  replace b1 : r ≤ (t.size : Int) := by
    by_cases q : 1 ≤ (t.size : Int) + 1
    · have := b1 q; omega
    · omega
  have hr : r = ((r.toNat : Nat) : Int) := by omega
  generalize r.toNat = k at *
  subst hr
  have hk : k ≤ t.size := by omega
  clear a1 b1
  have hlt1 := h1.lt
  have H1 := Lib.hid (next_c h1 8 (by omega))
  clear h1
  go_wp2_with fail
  refine H1.out.mono ?_
  rintro e w2 ⟨r, rfl, ⟨a2, b2, _⟩, h2, p2⟩
  replace b2 := b2 (by omega)
  have pp := p1.trans p2
  have hlt2 := h2.lt
  clear H1 p1 p2
  rcases (show r = 0 ∨ r = 1 ∨ r = 2 ∨ (r ≠ 0 ∧ r ≠ 1 ∧ r ≠ 2) by omega) with rfl | rfl | rfl | ⟨q0, q1, q2⟩
  · have hz : Hid ((t.extract 0 k).size ≤ m + 32) := Lib.hid (ext_le (by omega))
    go_wp2_with fail
    go_ret
    exact ⟨_, rfl, hz.out, h2, pp⟩
  · have hz : ∀ u : ByteArray, u.size ≤ 32 → (t.extract 0 k ++ u ++ t.extract k t.size).size ≤ m + 32 := fun u hu => cut_in ht hu hk
    replace hz := Lib.hid hz
    go_wp2_with fail
    refine wp_region_facts (F := dmgF g t k m) (I := fun w' => Src B g w' ∧ Past g w w') (R := Past g) (m := 13) (n := 48) (pre := [0, 1, 5]) (by kernel_rfl) (by kernel_rfl) rfl (by simp) (fun t w w' v h _ hr => dmgF_past h hr) ⟨h2.drew, pp.drew⟩ ?_ ?_ ?_
    · simp
      exact ⟨rfl, rfl, rfl⟩
    · refine (And.intro (step_move (by omega) (by omega) (fun _ _ h => h) (fun _ => Past.refl _ _)) (And.intro (step_move (by omega) (by omega) (fun _ _ h => h) (fun _ => Past.refl _ _)) (And.intro ?s22 (And.intro ?s23 (And.intro (step_move (by omega) (by omega) (fun _ _ h => h) (fun _ => Past.refl _ _)) (And.intro ?s25 (And.intro ?s26 (And.intro ?s27 (And.intro ?s28 (And.intro (step_move (by omega) (by omega) (fun _ _ h => h) (fun _ => Past.refl _ _)) (And.intro (step_move (by omega) (by omega) (fun _ _ h => h) (fun _ => Past.refl _ _)) (And.intro ?s31 (And.intro ?s32 trivial)))))))))))))
      case s22 =>
        intro f w3 ⟨hS, hP⟩ hF
        simp only [litAll, List.range, List.range.loop, List.map]
        rw [show f 20 = .string t from hF 20 (by decide), show f 21 = .int .i64 k from hF 21 (by decide)]
        go_wp2_with fail
        exact ⟨rfl, rfl, ⟨hS, hP⟩, Past.refl _ _⟩
      case s23 =>
        intro f w3 ⟨hS, hP⟩ hF
        simp only [litAll, List.range, List.range.loop, List.map]
        have hlt3 := hS.lt
        go_wp2_with fail
        exact ⟨rfl, LitAt.new hlt3 rfl (by kernel_rfl), ⟨hS.alloc _, hP.alloc _⟩, (Past.refl g _).alloc _⟩
      case s25 =>
        intro f w3 ⟨hS, hP⟩ hF
        simp only [litAll, List.range, List.range.loop, List.map]
        rw [show f 24 = .pointer (some ⟨g, 0, none⟩) from hF 24 (by decide)]
        go_wp2_with fail
        refine (next_c hS 8 (by omega)).mono ?_
        rintro e w4 ⟨r, rfl, ⟨a4, b4, _⟩, h4, p4⟩
        replace b4 := b4 (by omega)
        go_wp2_with fail
        exact ⟨rfl, ⟨r, rfl, a4, by omega⟩, ⟨h4, hP.trans p4⟩, p4⟩
      case s26 =>
        intro f w3 ⟨hS, hP⟩ hF
        simp only [litAll, List.range, List.range.loop, List.map]
        obtain ⟨b, h23, hb, hbl, hc⟩ := hF 23 (by decide)
        obtain ⟨r, h25, r0, r1⟩ := hF 25 (by decide)
        rw [h23, h25]
        have hr : r = ((r.toNat : Nat) : Int) := by omega
        generalize r.toNat = j at *
        subst hr
        have hcj := hc j (by omega)
        clear hc h23 h25
        go_wp2_with fail
        exact ⟨rfl, ⟨b, _, rfl, hb, hcj⟩, ⟨hS, hP⟩, Past.refl _ _⟩
      case s27 =>
        intro f w3 ⟨hS, hP⟩ hF
        simp only [litAll, List.range, List.range.loop, List.map]
        obtain ⟨b, o, h26, hb, u, hu, hul⟩ := hF 26 (by decide)
        rw [h26]
        go_wp2_with fail
        exact ⟨rfl, ⟨u, rfl, hul⟩, ⟨hS, hP⟩, Past.refl _ _⟩
      case s28 =>
        intro f w3 ⟨hS, hP⟩ hF
        simp only [litAll, List.range, List.range.loop, List.map]
        obtain ⟨u, hu, hul⟩ := hF 27 (by decide)
        rw [show f 22 = .string (t.extract 0 k) from hF 22 (by decide), hu]
        go_wp2_with fail
        exact ⟨rfl, ⟨u, rfl, hul⟩, ⟨hS, hP⟩, Past.refl _ _⟩
      case s31 =>
        intro f w3 ⟨hS, hP⟩ hF
        simp only [litAll, List.range, List.range.loop, List.map]
        rw [show f 29 = .string t from hF 29 (by decide), show f 30 = .int .i64 k from hF 30 (by decide)]
        go_wp2_with fail
        exact ⟨rfl, rfl, ⟨hS, hP⟩, Past.refl _ _⟩
      case s32 =>
        intro f w3 ⟨hS, hP⟩ hF
        simp only [litAll, List.range, List.range.loop, List.map]
        obtain ⟨u, hu, hul⟩ := hF 28 (by decide)
        rw [hu, show f 31 = .string (t.extract k t.size) from hF 31 (by decide)]
        go_wp2_with fail
        exact ⟨rfl, ⟨_, rfl, hz.out u hul⟩, ⟨hS, hP⟩, Past.refl _ _⟩
    · intro f w3 ⟨h3, p3⟩ hF o ho
      injection ho with ho
      subst ho
      obtain ⟨u, hu, hul⟩ := hF 32 (by decide)
      simp only [dstsOf, List.take, List.filterMap, setSlots, List.foldl, List.set]
      rw [hu]
      go_wp2_with fail
      refine bodyPost_ret (v := .string u) (by rw [results_tmp rfl]; rfl) rfl ?_
      exact ⟨u, rfl, hul, h3, p3⟩
  · by_cases q : k < t.size
    · have hz : Hid ((t.extract 0 k ++ t.extract (k + 1) t.size).size ≤ m + 32) := Lib.hid (cut_out ht hk)
      have e0 : IntKind.i64.wrap ((k : Int) + 1) = (k : Int) + 1 := IntWalk.i64_in _ (by omega)
      have e1 : k + 1 ≤ t.size := q
      go_wp2_with fail
      go_quiet (fail)
      go_wp2_with fail
      go_ret
      exact ⟨_, rfl, hz.out, Src.drewN h2 _, pp.drewN _⟩
    · have hz : Hid (t.size ≤ m + 32) := Lib.hid (by omega)
      go_wp2_with fail
      go_ret
      exact ⟨_, rfl, hz.out, h2, pp⟩
  · have e0 : (r == 0) = false := by simpa using q0
    have e1 : (r == 1) = false := by simpa using q1
    have e2 : (r == 2) = false := by simpa using q2
    have hz : Hid (t.size ≤ m + 32) := Lib.hid (by omega)
    clear q0 q1 q2
    go_wp2_with fail
    go_ret
    exact ⟨_, rfl, hz.out, h2, pp⟩
end Go.Proofs.YtibfpajblcfobaaDoor
