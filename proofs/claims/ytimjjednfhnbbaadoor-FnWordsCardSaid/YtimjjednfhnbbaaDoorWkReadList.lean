/-
  The walk of FnExactReadList. Conditions: the library's variables read as they are laid.
-/
import Derived.Test.YtimjjednfhnbbaaDoorRdLW
import Derived.Test.YtimjjednfhnbbaaDoorIntsEq
import Derived.Test.YtimjjednfhnbbaaDoorMark
namespace Go.Proofs.YtimjjednfhnbbaaDoor
open Go.RowKit
set_option linter.unusedVariables false

/-- What the numbers and the code are. -/
def RdLA (s : ByteArray) (xs : List Int) (c : Int) : Prop :=
  (s.data.toList = [45] ∧ xs = [] ∧ c = 0) ∨ (¬ s.data.toList = [45] ∧ NumOk (pcs 44 s) xs ∧ c = 0) ∨ (¬ s.data.toList = [45] ∧ (∀ ys, ¬ NumOk (pcs 44 s) ys) ∧ xs = [] ∧ c = 6)
theorem rdLA_one {s : ByteArray} {xs ys : List Int} {c d : Int} (h : RdLA s xs c) (g : RdLA s ys d) : xs = ys ∧ c = d := by
  rcases h with ⟨a, b, e⟩ | ⟨a, b, e⟩ | ⟨a, b, e, f⟩ <;> rcases g with ⟨a', b', e'⟩ | ⟨a', b', e'⟩ | ⟨a', b', e', f'⟩
  · exact ⟨by rw [b, b'], by rw [e, e']⟩
  · exact absurd a a'
  · exact absurd a a'
  · exact absurd a' a
  · exact ⟨numOk_one b b', by rw [e, e']⟩
  · exact absurd b (b' _)
  · exact absurd a' a
  · exact absurd b' (b _)
  · exact ⟨by rw [e, e'], by rw [f, f']⟩
theorem rdLA_len {s : ByteArray} {xs : List Int} {c : Int} (h : RdLA s xs c) : xs.length ≤ s.size + 1 := by
  rcases h with ⟨a, b, e⟩ | ⟨a, b, e⟩ | ⟨a, b, e, f⟩
  · rw [b]; simp
  · have := congrArg List.length b.1
    rw [nums_len] at this
    have h2 := pcs_len 44 s
    omega
  · rw [e]; simp
set_option maxRecDepth 100000 in
set_option maxHeartbeats 4000000 in
theorem wk_FnExactReadList (s : ByteArray) (hs : s.size ≤ 9223372036854775807) {w : World} (hM : LbM w) (hE : LbE w) (hT : LbT w) :
    Calls Tryd.prog 7 #[.string s] w fun e w' => e = .returned (.bool true) ∧ Below w.heap.size w w' := by
  by_cases hb : 1048576 < s.size
  · go_enter Tryd.func7, Tryd.ntmps7
    go_wp2_with fail
    go_ret
    exact ⟨rfl, Below.refl _ _⟩
  · have SP := Lib.hid (fun (w : World) => spec_ReadList s (by omega) w)
    have IM := Lib.hid (fun (w : World) hM hE hT => impl_ReadList s (by omega) (w := w) hM hE hT)
    replace hM := Lib.hid hM
    replace hE := Lib.hid hE
    replace hT := Lib.hid hT
    go_enter Tryd.func7, Tryd.ntmps7
    go_wp2_with fail
    refine (SP.out _).mono ?_
    rintro e w1 ⟨u, xs, c, rfl, o1, BB, R⟩
    replace R : Hid (RdLA s xs c) := Lib.hid R
    have hlen : Hid (xs.length ≤ 1073741824) := Lib.hid (by have := rdLA_len R.out; omega)
    have t1 := Lib.hid o1.ints
    have h1 := Lib.hid BB.size
    clear o1
    go_wp2_with fail
    refine (IM.out _ (hM.out.below BB) (hE.out.below BB) (hT.out.below BB)).mono ?_
    rintro e w2 ⟨v, xs', c', rfl, o2, B1, R'⟩
    obtain ⟨e1, e2⟩ := rdLA_one R' R.out
    subst e1 e2
    replace o2 := Lib.hid o2
    replace BB := below_next BB (Nat.le_refl _) B1
    clear R'
    go_wp2_with fail
    refine (eqInt64S_c o2.out.ints (t1.out.below B1)).mono ?_
    rintro e w3 ⟨rfl, m3, rfl⟩
    have b3 := below_of_drewN (Below.refl w2.heap.size w2) m3
    replace o2 := Lib.hid (o2.out.below b3)
    replace B1 := below_next B1 (Nat.le_refl _) b3
    replace BB := below_next BB (Nat.le_refl _) b3
    generalize w2.drewN m3 = w3 at *
    clear b3
    go_wp2_with fail
    refine (mark_c 1 o2.out (by omega) (by omega) hlen.out).mono ?_
    rintro e w4 ⟨rfl, o4, b4⟩
    have b4' : Below w1.heap.size w3 w4 := b4
    replace o4 : Hid (w4.ownsRow w1.heap.size 2 1 v xs'.length ((marks 1 xs'.length).map (Value.int .i64))) := Lib.hid o4
    replace B1 := B1.trans b4
    replace BB := BB.trans (b4.mono h1.out)
    clear b4 b4' o2
    have I4 : Hid (Ints w4 v (marks 1 xs'.length)) := Lib.hid (by
      have hq : w4.ownsRow w1.heap.size 2 1 v (marks 1 xs'.length).length ((marks 1 xs'.length).map (Value.int .i64)) := by rw [marks_len]; exact o4.out
      exact Ints.own hq)
    clear o4
    go_wp2_with fail
    refine (held_c 1 I4.out (by omega) (by omega) hlen.out).mono ?_
    rintro e w5 ⟨rfl, m5, rfl⟩
    have b5 := below_of_drewN (Below.refl w4.heap.size w4) m5
    replace I4 := Lib.hid (I4.out.below b5)
    replace B1 := below_next B1 (Nat.le_refl _) b5
    replace BB := below_next BB (Nat.le_refl _) b5
    generalize w4.drewN m5 = w5 at *
    clear b5
    go_wp2_with fail
    refine (IM.out _ (hM.out.below BB) (hE.out.below BB) (hT.out.below BB)).mono ?_
    rintro e w6 ⟨v6, xs6, c6, rfl, o6, b6, R6⟩
    obtain ⟨e1, e2⟩ := rdLA_one R6 R.out
    subst e1 e2
    replace I4 := Lib.hid (I4.out.below b6)
    replace B1 := below_next B1 (Nat.le_refl _) b6
    replace BB := below_next BB (Nat.le_refl _) b6
    have t6 := Lib.hid o6.ints
    clear b6 o6 R6
    go_wp2_with fail
    refine (eqInt64S_c t6.out (t1.out.below B1)).mono ?_
    rintro e w7 ⟨rfl, m7, rfl⟩
    have b7 := below_of_drewN (Below.refl w6.heap.size w6) m7
    replace I4 := Lib.hid (I4.out.below b7)
    replace BB := below_next BB (Nat.le_refl _) b7
    generalize w6.drewN m7 = w7 at *
    clear b7 B1 t6
    go_wp2_with fail
    refine (held_c 1 I4.out (by omega) (by omega) hlen.out).mono ?_
    rintro e w8 ⟨rfl, m8, rfl⟩
    have b8 := below_of_drewN (Below.refl w7.heap.size w7) m8
    replace BB := below_next BB (Nat.le_refl _) b8
    generalize w7.drewN m8 = w8 at *
    clear b8 I4
    go_wp2_with fail
    go_ret
    exact ⟨rfl, BB⟩
end Go.Proofs.YtimjjednfhnbbaaDoor
