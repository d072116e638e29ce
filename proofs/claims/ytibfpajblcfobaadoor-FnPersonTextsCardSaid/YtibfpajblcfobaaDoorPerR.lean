/-
  A person read, the plain law.
  Conditions: each lemma names its own.
-/
import Derived.Test.YtibfpajblcfobaaDoorPerTI
import Derived.Test.YtibfpajblcfobaaDoorSpl
import Derived.Test.YtibfpajblcfobaaDoorVal
import Derived.Test.YtibfpajblcfobaaDoorPar
namespace Go.Proofs.YtibfpajblcfobaaDoor
open Go.RowKit
open Go.Lib
set_option linter.unusedVariables false

theorem joinS_data (ss : List ByteArray) : (joinB ss ⟨#[47]⟩).data.toList = join (datas ss) [47] := by unfold joinB; rw [mkB_data]
theorem joinS_pcs (s : ByteArray) : joinB (pcs 47 s) ⟨#[47]⟩ = s := by
  refine bytes_inj ?_
  rw [joinS_data, pcs_datas, join_cut]
theorem pcs_joinS {ss : List ByteArray} (h0 : ss ≠ []) (h : ∀ s ∈ ss, ¬ (47 : UInt8) ∈ s.data.toList) : pcs 47 (joinB ss ⟨#[47]⟩) = ss := by
  symm
  refine pcs_of ?_
  rw [joinS_data, cut_join 47 _ (by unfold datas; simpa using h0)]
  intro x hx
  obtain ⟨s, hs, rfl⟩ := List.mem_map.1 hx
  exact h s hs
theorem itoa_no47 {x : Int} (hx : 0 ≤ x) : ¬ (47 : UInt8) ∈ itoa x := by
  rw [itoa_pos (by omega)]
  intro hc
  have := digs_decDigits x.toNat _ hc
  simp at this
theorem word_ge {s : ByteArray} (h : wordB s.data.toList = true) {c : UInt8} (hc : c ∈ s.data.toList) : 97 ≤ c.toNat := by
  unfold wordB at h
  rw [Bool.and_eq_true, List.all_eq_true] at h
  have := h.1 c hc
  simp at this
  exact this.1
/-- The five parts of a person. -/
def parts5 (p : Per) : List ByteArray := [itoB p.number, p.first, p.last, itoB p.born, itoB p.zone]
theorem parts_pcs {p : Per} (h : perB p = true) : pcs 47 (perS p) = parts5 p := by
  obtain ⟨h1, h2, h3, h4, h5⟩ := (perB_iff p).1 h
  unfold perS
  rw [← perT_join]
  refine pcs_joinS (by simp) fun s hs => ?_
  simp only [List.mem_cons, List.not_mem_nil, or_false] at hs
  rcases hs with rfl | rfl | rfl | rfl | rfl
  · unfold itoB; rw [mkB_data]; exact itoa_no47 (by omega)
  · intro hc; have := word_ge h2 hc; simp at this
  · intro hc; have := word_ge h3 hc; simp at this
  · unfold itoB; rw [mkB_data]; exact itoa_no47 (by omega)
  · unfold itoB; rw [mkB_data]; exact itoa_no47 (by omega)
theorem itoB_inj {a b : Int} (h : itoB a = itoB b) : a = b := by
  have := congrArg (fun x : ByteArray => x.data.toList) h
  unfold itoB at this
  simp only [mkB_data] at this
  exact itoa_inj this
theorem per_ext {p q : Per} (h1 : p.number = q.number) (h2 : p.first = q.first) (h3 : p.last = q.last) (h4 : p.born = q.born) (h5 : p.zone = q.zone) : p = q := by
  cases p; cases q; simp at *; exact ⟨h1, h2, h3, h4, h5⟩
theorem parts_inj {p q : Per} (h : parts5 p = parts5 q) : p = q := by
  unfold parts5 at h
  simp only [List.cons.injEq, and_true] at h
  obtain ⟨h1, h2, h3, h4, h5⟩ := h
  exact per_ext (itoB_inj h1) h2 h3 (itoB_inj h4) (itoB_inj h5)
/-- What a number's text was read as. -/
def RdOk (t : ByteArray) (n : Int) (ok : Bool) : Prop := (ok = true ∧ itoB n = t) ∨ (ok = false ∧ ∀ v, 0 ≤ v → v ≤ 10000000 → ¬ itoB v = t)
theorem rdOk_val {t : ByteArray} {r : Nat} {ok : Bool} (h : valOf t.data.toList = (if ok then some r else none)) : RdOk t r ok := by
  cases ok
  · refine Or.inr ⟨rfl, fun v h0 h1 e => ?_⟩
    have hv : decDigits v.toNat = t.data.toList := by
      rw [← e]
      unfold itoB
      rw [mkB_data, itoa_pos (by omega)]
    have := valOf_iff.2 ⟨hv, by omega⟩
    rw [h] at this
    cases this
  · refine Or.inl ⟨rfl, bytes_inj ?_⟩
    have := (valOf_iff.1 h).1
    unfold itoB
    rw [mkB_data, itoa_pos (by omega)]
    simpa using this
theorem rdOk_dec {t : ByteArray} {v : Int} (h : decOf t.data.toList = some v) : RdOk t v true := by
  refine Or.inl ⟨rfl, bytes_inj ?_⟩
  unfold itoB
  rw [mkB_data]
  exact (decOf_iff.1 h).1
theorem rdOk_none {t : ByteArray} (h : decOf t.data.toList = none) (v0 : Int) : RdOk t v0 false := by
  refine Or.inr ⟨rfl, fun v h0 h1 e => ?_⟩
  have hv : itoa v = t.data.toList := by
    rw [← e]
    unfold itoB
    rw [mkB_data]
  have := decOf_iff.2 ⟨hv, by omega, by omega⟩
  rw [h] at this
  cases this
def per0 : Per := ⟨0, ⟨#[]⟩, ⟨#[]⟩, 0, 0⟩
/-- What ReadPerson's two results are. -/
def RdPA (s : ByteArray) (p : Per) (c : Int) : Prop := (c = 0 ∧ perB p = true ∧ perS p = s) ∨ (c = 6 ∧ p = per0 ∧ ∀ q, perB q = true → ¬ perS q = s)
def RdP (s : ByteArray) (w : World) (e : Ending) (w' : World) : Prop := ∃ (p : Per) (c : Int), e = .returned (.tuple #[perV p, .int .i64 c]) ∧ RdPA s p c ∧ Below w.heap.size w w'
theorem rdPA_one {s : ByteArray} {p q : Per} {c d : Int} (h : RdPA s p c) (g : RdPA s q d) : p = q ∧ c = d := by
  rcases h with ⟨a1, a2, a3⟩ | ⟨a1, a2, a3⟩ <;> rcases g with ⟨b1, b2, b3⟩ | ⟨b1, b2, b3⟩
  · refine ⟨parts_inj ?_, by omega⟩
    rw [← parts_pcs a2, ← parts_pcs b2, a3, b3]
  · exact absurd a3 (b3 _ a2)
  · exact absurd b3 (a3 _ b2)
  · exact ⟨by rw [a2, b2], by omega⟩
theorem rdp_len {s : ByteArray} (h : (pcs 47 s).length ≠ 5) : RdPA s per0 6 := Or.inr ⟨rfl, rfl, fun q hq e => h (by rw [← e, parts_pcs hq]; rfl)⟩
theorem rdp_yes {s w0 w1 w2 w3 w4 : ByteArray} {n b z : Int} (h : pcs 47 s = [w0, w1, w2, w3, w4]) (h0 : RdOk w0 n true) (h3 : RdOk w3 b true) (h4 : RdOk w4 z true) (hp : perB ⟨n, w1, w2, b, z⟩ = true) : RdPA s ⟨n, w1, w2, b, z⟩ 0 := by
  refine Or.inl ⟨rfl, hp, ?_⟩
  have e0 : itoB n = w0 := by rcases h0 with ⟨_, h⟩ | ⟨h, _⟩; exact h; cases h
  have e3 : itoB b = w3 := by rcases h3 with ⟨_, h⟩ | ⟨h, _⟩; exact h; cases h
  have e4 : itoB z = w4 := by rcases h4 with ⟨_, h⟩ | ⟨h, _⟩; exact h; cases h
  unfold perS
  rw [← perT_join, e0, e3, e4]
  simp only
  rw [← h, joinS_pcs]
theorem rdp_no {s w0 w1 w2 w3 w4 : ByteArray} {n b z : Int} {o0 o3 o4 : Bool} (h : pcs 47 s = [w0, w1, w2, w3, w4]) (h0 : RdOk w0 n o0) (h3 : RdOk w3 b o3) (h4 : RdOk w4 z o4) (hp : o0 = false ∨ o3 = false ∨ o4 = false ∨ perB ⟨n, w1, w2, b, z⟩ = false) : RdPA s per0 6 := by
  refine Or.inr ⟨rfl, rfl, fun q hq e => ?_⟩
  obtain ⟨q1, q2, q3, q4, q5⟩ := (perB_iff q).1 hq
  have hpq := parts_pcs hq
  rw [e, h] at hpq
  unfold parts5 at hpq
  simp only [List.cons.injEq, and_true] at hpq
  obtain ⟨p0, p1, p2, p3, p4⟩ := hpq
  have e0 : o0 = true ∧ n = q.number := by
    rcases h0 with ⟨a, a'⟩ | ⟨_, a'⟩
    · exact ⟨a, itoB_inj (by rw [a', p0])⟩
    · exact absurd p0.symm (a' _ (by omega) (by omega))
  have e3 : o3 = true ∧ b = q.born := by
    rcases h3 with ⟨a, a'⟩ | ⟨_, a'⟩
    · exact ⟨a, itoB_inj (by rw [a', p3])⟩
    · exact absurd p3.symm (a' _ (by omega) (by omega))
  have e4 : o4 = true ∧ z = q.zone := by
    rcases h4 with ⟨a, a'⟩ | ⟨_, a'⟩
    · exact ⟨a, itoB_inj (by rw [a', p4])⟩
    · exact absurd p4.symm (a' _ (by omega) (by omega))
  rcases hp with hp | hp | hp | hp
  · rw [e0.1] at hp; cases hp
  · rw [e3.1] at hp; cases hp
  · rw [e4.1] at hp; cases hp
  · have : (⟨n, w1, w2, b, z⟩ : Per) = q := per_ext e0.2 p1 p2 e3.2 e4.2
    rw [this, hq] at hp
    cases hp
theorem five_of {α : Type} {l : List α} (h : l.length = 5) : ∃ a b c d e, l = [a, b, c, d, e] := by
  match l, h with
  | [a, b, c, d, e], _ => exact ⟨a, b, c, d, e, rfl⟩
end Go.Proofs.YtibfpajblcfobaaDoor
