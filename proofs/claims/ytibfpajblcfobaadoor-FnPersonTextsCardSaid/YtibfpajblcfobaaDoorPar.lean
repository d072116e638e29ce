/-
  strconv.ParseInt at base 10: one contract for all texts; readDecimal of the program.
  Conditions: the library's two errors are errors or nil; the table of powers of ten reads as it is laid.
-/
import Derived.Test.YtibfpajblcfobaaDoorLb
import Derived.Test.YtibfpajblcfobaaDoorVal
import Derived.Shelf.Strconv.ParseIntPublic10
namespace Go.Proofs.YtibfpajblcfobaaDoor
open Go.RowKit
set_option linter.unusedVariables false

/-- What ParseInt hands back. -/
def ParsePost (l : List UInt8) (w : World) (e : Ending) (w' : World) : Prop :=
  Below w.heap.size w w' ∧ ((∃ v, Lib.parseIntB 64 l = .ok v ∧ e = .returned (.tuple #[.int .i64 v, .nilIface])) ∨
    ((∀ v, Lib.parseIntB 64 l ≠ .ok v) ∧ ∃ (r : Int) (N : Nat), e = .returned (.tuple #[.int .i64 r, .iface 94 (.pointer (some ⟨N, 0, none⟩))])))
set_option maxRecDepth 100000 in
theorem parse_c (s : ByteArray) (hs : s.size ≤ 281474976710656) {w : World} (hl : LbE w) : Calls Tryd.prog 41 #[.string s, .int .i64 10, .int .i64 64] w (ParsePost s.data.toList w) := by
  obtain ⟨⟨e1, h1, k1⟩, e2, h2, k2⟩ := hl
  cases h : Lib.parseIntB 64 s.data.toList with
  | ok v =>
    refine (Any.strconv_ParseInt_10_at64_ok Tryd.laysC174 s (by omega) v h w).mono ?_
    rintro e w' ⟨he, hw⟩
    refine ⟨?_, Or.inl ⟨v, h, he⟩⟩
    rcases hw with rfl | ⟨t, rfl⟩
    · exact Below.refl _ _
    · exact Lib.bytesWorld_below _ _ _
  | _ =>
    first
      | (refine (Any.strconv_ParseInt_10_at64_syntax Tryd.laysC174 s hs h e1 w h1 k1).mono ?_
         rintro e w' ⟨N, he, _, _, hb⟩
         exact ⟨hb, Or.inr ⟨(fun v hv => by rw [h] at hv; cases hv), _, N, he⟩⟩)
      | (refine (Any.strconv_ParseInt_10_at64_range Tryd.laysC174 s hs h e2 w h2 k2).mono ?_
         rintro e w' ⟨N, he, _, _, hb⟩
         exact ⟨hb, Or.inr ⟨(fun v hv => by rw [h] at hv; cases hv), _, N, he⟩⟩)
/-- What readDecimal hands back. -/
def DecPost (l : List UInt8) (w : World) (e : Ending) (w' : World) : Prop :=
  Below w.heap.size w w' ∧ ((∃ v, decOf l = some v ∧ e = .returned (.tuple #[.int .i64 v, .bool true])) ∨ (decOf l = none ∧ e = .returned (.tuple #[.int .i64 0, .bool false])))
theorem decOf_ok {l : List UInt8} {v : Int} (h : Lib.parseIntB 64 l = .ok v) : decOf l = if Lib.itoa v = l then some v else none := by unfold decOf; rw [h]
theorem decOf_bad {l : List UInt8} (h : ∀ v, Lib.parseIntB 64 l ≠ .ok v) : decOf l = none := by
  unfold decOf
  split
  · rename_i v hv; exact absurd hv (h v)
  · rfl
set_option maxRecDepth 100000 in
set_option maxHeartbeats 2000000 in
theorem impl_readDecimal (s : ByteArray) (hs : s.size ≤ 281474976710656) {w : World} (hl : LbE w) (ht : LbT w) : Calls Tryd.prog 24 #[.string s] w (DecPost s.data.toList w) := by
  have HP := Lib.hid (parse_c s hs hl)
  replace ht := Lib.hid ht
  clear hl
  go_enter Tryd.func24, Tryd.ntmps24
  go_wp2_with fail
  refine HP.out.mono ?_
  rintro e w1 ⟨b1, hr⟩
  replace ht := Lib.hid (ht.out.below b1)
  clear HP
  rcases hr with ⟨v, hv, rfl⟩ | ⟨hv, r, N, rfl⟩
  · have hb := parse_bd hv
    have HD := Lib.hid (impl_decimal v hb.1 hb.2 ht.out)
    have hd := decOf_ok hv
    by_cases hq : itoB v = s
    · have hf : Hid (decOf s.data.toList = some v) := Lib.hid (by rw [hd, if_pos (by rw [← hq]; unfold itoB; rw [mkB_data])])
      rw [hq] at HD
      clear hq hd hv
      go_wp2_with fail
      refine HD.out.mono ?_
      rintro e w2 ⟨rfl, b2⟩
      replace b1 := below_next b1 (Nat.le_refl _) b2
      go_wp2_with fail
      go_ret2
      exact ⟨b1, Or.inl ⟨v, hf.out, rfl⟩⟩
    · have hf : Hid (decOf s.data.toList = none) := Lib.hid (by rw [hd, if_neg (fun e => hq (bytes_inj (by unfold itoB; rw [mkB_data]; exact e)))])
      have hne := str_ne hq
      generalize itoB v = t at *
      clear hq hd hv
      go_wp2_with fail
      refine HD.out.mono ?_
      rintro e w2 ⟨rfl, b2⟩
      replace b1 := below_next b1 (Nat.le_refl _) b2
      go_wp2_with fail
      go_ret2
      exact ⟨b1, Or.inr ⟨hf.out, rfl⟩⟩
  · have hf := Lib.hid (decOf_bad hv)
    clear hv
    go_wp2_with fail
    go_ret2
    exact ⟨b1, Or.inr ⟨hf.out, rfl⟩⟩
end Go.Proofs.YtibfpajblcfobaaDoor
