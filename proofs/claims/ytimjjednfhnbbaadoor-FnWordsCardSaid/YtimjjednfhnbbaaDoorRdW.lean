/-
  Words read, the program's and the reference's.
  Conditions: each lemma names its own.
-/
import Derived.Test.YtimjjednfhnbbaaDoorSpl
import Derived.Test.YtimjjednfhnbbaaDoorVal
namespace Go.Proofs.YtimjjednfhnbbaaDoor
open Go.RowKit
set_option linter.unusedVariables false

/-- Whether the pieces are words, and few. -/
def rwB (s : ByteArray) : Bool := wordsB (pcs 44 s) && decide ((pcs 44 s).length ≤ 60)
/-- The words of a text. -/
def rwL (s : ByteArray) : List ByteArray := if s.data.toList = [45] then [] else if rwB s then pcs 44 s else []
def rwN (s : ByteArray) : Int := if s.data.toList = [45] then 0 else if rwB s then 0 else 6
theorem rw_minus {s : ByteArray} (h : s.data.toList = [45]) : rwL s = [] ∧ rwN s = 0 := by unfold rwL rwN; rw [if_pos h, if_pos h]; exact ⟨rfl, rfl⟩
theorem rw_yes {s : ByteArray} (h : ¬ s.data.toList = [45]) (hb : rwB s = true) : rwL s = pcs 44 s ∧ rwN s = 0 := by unfold rwL rwN; rw [if_neg h, if_neg h, hb]; exact ⟨rfl, rfl⟩
theorem rw_no {s : ByteArray} (h : ¬ s.data.toList = [45]) (hb : rwB s = false) : rwL s = [] ∧ rwN s = 6 := by unfold rwL rwN; rw [if_neg h, if_neg h, hb]; exact ⟨rfl, rfl⟩
theorem pcs_fit {c : UInt8} {s : ByteArray} (hs : s.size ≤ 1048576) : StrsFit (pcs c s) := fun p hp => by have := pcs_size hp; omega
theorem nilT (base : Nat) (w : World) : OwnT base (.slice none 0 0) [] w := ⟨rfl, Or.inl ⟨rfl, rfl⟩⟩
theorem ret2v {v : Value} {a b : Int} (h : a = b) : Ending.returned (.tuple #[v, .int .i64 a]) = .returned (.tuple #[v, .int .i64 b]) := by rw [h]
/-- What ReadWords hands back. -/
def RdW (s : ByteArray) (w : World) (e : Ending) (w' : World) : Prop := ∃ v, e = .returned (.tuple #[v, .int .i64 (rwN s)]) ∧ OwnT w.heap.size v (rwL s) w' ∧ Below w.heap.size w w'
theorem minus_of {s : ByteArray} (h : s.data.toList = [45]) : s = ⟨#[45]⟩ := bytes_inj h
theorem minus_ne {s : ByteArray} (h : ¬ s.data.toList = [45]) : (s.toList == [45]) = false := by
  rw [beq_eq_false_iff_ne, tl]
  exact h
set_option maxRecDepth 100000 in
set_option maxHeartbeats 2000000 in
theorem spec_ReadWords (s : ByteArray) (hs : s.size ≤ 1048576) (w : World) : Calls Tryd.prog 11 #[.string s] w (RdW s w) := by
  by_cases hm : s.data.toList = [45]
  · obtain ⟨e1, e2⟩ := rw_minus hm
    have E1 := Lib.hid e1
    have E2 := Lib.hid e2
    have hO : OwnT w.heap.size (.slice (some ⟨w.heap.size, 0, none⟩) 0 0) [] (w.alloc (.cells #[] 9)) := World.ownsRow_lit w #[] 0 (by omega) (by decide) rfl
    obtain rfl := minus_of hm
    clear hm e1 e2
    go_enter Tryd.func11, Tryd.ntmps11
    go_wp2_with fail
    go_ret2
    exact ⟨_, ret2v E2.out.symm, by rw [E1.out]; exact hO, (Below.refl _ _).alloc (Nat.le_refl _) _⟩
  · have hne := minus_ne hm
    have HS := Lib.hid (spec_split 44 s hs w)
    have HA := Lib.hid (fun (v : Value) (w : World) (h : Strs w v (pcs 44 s)) => spec_l01All h (pcs_fit hs))
    have hl := pcs_len 44 s
    cases hb : rwB s
    · obtain ⟨e1, e2⟩ := rw_no hm hb
      have E1 := Lib.hid e1
      have E2 := Lib.hid e2
      clear e1 e2 hm
      have hb2 : wordsB (pcs 44 s) = false ∨ (wordsB (pcs 44 s) = true ∧ 60 < (pcs 44 s).length) := by
        unfold rwB at hb
        cases hw : wordsB (pcs 44 s)
        · exact Or.inl rfl
        · rw [hw] at hb
          right
          refine ⟨rfl, ?_⟩
          simp at hb
          exact hb
      clear hb
      generalize hpp : pcs 44 s = pp at *
      go_enter Tryd.func11, Tryd.ntmps11
      rcases hb2 with hw | ⟨hw, h60⟩
      · rw [hw] at HA
        clear hpp hw
        go_wp2_with fail
        refine HS.out.mono ?_
        rintro e w1 ⟨v1, rfl, o1, b1⟩
        go_wp2_with fail
        refine (HA.out _ _ o1.strs).mono ?_
        rintro e w' ⟨rfl, rfl⟩
        go_wp2_with fail
        go_ret2
        exact ⟨_, ret2v E2.out.symm, by rw [E1.out]; exact nilT _ _, b1⟩
      · rw [hw] at HA
        clear hpp hw
        go_wp2_with fail
        refine HS.out.mono ?_
        rintro e w1 ⟨v1, rfl, o1, b1⟩
        have HA1 := Lib.hid (HA.out _ _ o1.strs)
        obtain ⟨a1, c1, rfl, _, _, _⟩ := own_form o1
        clear o1
        go_wp2_with fail
        refine HA1.out.mono ?_
        rintro e w' ⟨rfl, rfl⟩
        go_wp2_with fail
        go_ret2
        exact ⟨_, ret2v E2.out.symm, by rw [E1.out]; exact nilT _ _, b1⟩
    · obtain ⟨e1, e2⟩ := rw_yes hm hb
      have E1 := Lib.hid e1
      have E2 := Lib.hid e2
      clear e1 e2 hm
      have hb2 : wordsB (pcs 44 s) = true ∧ (pcs 44 s).length ≤ 60 := by
        unfold rwB at hb
        simpa using hb
      obtain ⟨hw, h60⟩ := hb2
      rw [hw] at HA
      clear hb hw
      generalize hpp : pcs 44 s = pp at *
      replace hpp := Lib.hid hpp
      go_enter Tryd.func11, Tryd.ntmps11
      go_wp2_with fail
      refine HS.out.mono ?_
      rintro e w1 ⟨v1, rfl, o1, b1⟩
      have HA1 := Lib.hid (HA.out _ _ o1.strs)
      obtain ⟨a1, c1, rfl, _, _, _⟩ := own_form o1
      replace o1 := Lib.hid o1
      go_wp2_with fail
      refine HA1.out.mono ?_
      rintro e w' ⟨rfl, rfl⟩
      go_wp2_with fail
      go_ret2
      exact ⟨_, ret2v E2.out.symm, by rw [E1.out]; exact o1.out, b1⟩
set_option maxRecDepth 100000 in
set_option maxHeartbeats 2000000 in
theorem impl_ReadWords (s : ByteArray) (hs : s.size ≤ 1048576) {w : World} (hM : LbM w) : Calls Tryd.prog 12 #[.string s] w (RdW s w) := by
  by_cases hm : s.data.toList = [45]
  · obtain ⟨e1, e2⟩ := rw_minus hm
    have E1 := Lib.hid e1
    have E2 := Lib.hid e2
    obtain rfl := minus_of hm
    clear hm e1 e2 hM
    go_enter Tryd.func12, Tryd.ntmps12
    go_wp2_with fail
    go_ret2
    exact ⟨_, ret2v E2.out.symm, by rw [E1.out]; exact nilT _ _, Below.refl _ _⟩
  · have hne := minus_ne hm
    have HS := Lib.hid (impl_split 44 s hs hM)
    have HA := Lib.hid (fun (v : Value) (w : World) (h : Strs w v (pcs 44 s)) => impl_areWords h (pcs_fit hs))
    have hl := pcs_len 44 s
    clear hM
    cases hb : rwB s
    · obtain ⟨e1, e2⟩ := rw_no hm hb
      have E1 := Lib.hid e1
      have E2 := Lib.hid e2
      clear e1 e2 hm
      have hb2 : wordsB (pcs 44 s) = false ∨ (wordsB (pcs 44 s) = true ∧ 60 < (pcs 44 s).length) := by
        unfold rwB at hb
        cases hw : wordsB (pcs 44 s)
        · exact Or.inl rfl
        · rw [hw] at hb
          right
          refine ⟨rfl, ?_⟩
          simp at hb
          exact hb
      clear hb
      generalize hpp : pcs 44 s = pp at *
      go_enter Tryd.func12, Tryd.ntmps12
      rcases hb2 with hw | ⟨hw, h60⟩
      · rw [hw] at HA
        clear hpp hw
        go_wp2_with fail
        refine HS.out.mono ?_
        rintro e w1 ⟨v1, rfl, o1, b1⟩
        go_wp2_with fail
        refine (HA.out _ _ o1.strs).mono ?_
        rintro e w' ⟨rfl, rfl⟩
        go_wp2_with fail
        go_ret2
        exact ⟨_, ret2v E2.out.symm, by rw [E1.out]; exact nilT _ _, b1⟩
      · rw [hw] at HA
        clear hpp hw
        have HF := Lib.hid (fun w => fewT_no pp.length h60 (by omega) w)
        go_wp2_with fail
        refine HS.out.mono ?_
        rintro e w1 ⟨v1, rfl, o1, b1⟩
        have HA1 := Lib.hid (HA.out _ _ o1.strs)
        obtain ⟨a1, c1, rfl, _, _, _⟩ := own_form o1
        clear o1
        go_wp2_with fail
        refine HA1.out.mono ?_
        rintro e w' ⟨rfl, rfl⟩
        go_wp2_with fail
        refine (HF.out _).mono ?_
        rintro e w' ⟨rfl, rfl⟩
        go_wp2_with fail
        go_ret2
        exact ⟨_, ret2v E2.out.symm, by rw [E1.out]; exact nilT _ _, b1⟩
    · obtain ⟨e1, e2⟩ := rw_yes hm hb
      have E1 := Lib.hid e1
      have E2 := Lib.hid e2
      clear e1 e2 hm
      have hb2 : wordsB (pcs 44 s) = true ∧ (pcs 44 s).length ≤ 60 := by
        unfold rwB at hb
        simpa using hb
      obtain ⟨hw, h60⟩ := hb2
      rw [hw] at HA
      clear hb hw
      generalize hpp : pcs 44 s = pp at *
      replace hpp := Lib.hid hpp
      have HF := Lib.hid (fun w => fewT_yes pp.length h60 w)
      go_enter Tryd.func12, Tryd.ntmps12
      go_wp2_with fail
      refine HS.out.mono ?_
      rintro e w1 ⟨v1, rfl, o1, b1⟩
      have HA1 := Lib.hid (HA.out _ _ o1.strs)
      obtain ⟨a1, c1, rfl, _, _, _⟩ := own_form o1
      replace o1 := Lib.hid o1
      go_wp2_with fail
      refine HA1.out.mono ?_
      rintro e w' ⟨rfl, rfl⟩
      go_wp2_with fail
      refine (HF.out _).mono ?_
      rintro e w' ⟨rfl, rfl⟩
      go_wp2_with fail
      go_ret2
      exact ⟨_, ret2v E2.out.symm, by rw [E1.out]; exact o1.out, b1⟩
end Go.Proofs.YtimjjednfhnbbaaDoor
