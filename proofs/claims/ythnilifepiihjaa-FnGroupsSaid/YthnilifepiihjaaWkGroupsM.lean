/-
  The walk of FnGroups. Conditions: none but that the code reads as bytes.
-/
import Derived.Test.YthnilifepiihjaaGroups2
import Derived.Test.YthnilifepiihjaaPersCopy
import Derived.Test.YthnilifepiihjaaResP
import Derived.Test.YthnilifepiihjaaLeast
import Derived.Test.YthnilifepiihjaaReg
import Derived.Test.YthnilifepiihjaaDrPer
import Derived.Test.YthnilifepiihjaaLikeB
import Derived.Test.YthnilifepiihjaaMarkSS
import Derived.Test.YthnilifepiihjaaPersLik
/-
  JoinedList of both packages.
  Conditions: each lemma names its own.
-/
namespace Go.Proofs.Ythnilifepiihjaa
open Go.RowKit
set_option linter.unusedVariables false

/-- Between base and the end of w nothing turned. -/
def Mid (base : Nat) (w w' : World) : Prop := w.heap.size ≤ w'.heap.size ∧ ∀ b, base ≤ b → b < w.heap.size → w'.heap[b]? = w.heap[b]?
theorem Mid.refl (base : Nat) (w : World) : Mid base w w := ⟨Nat.le_refl _, fun _ _ _ => rfl⟩
theorem Mid.step {base : Nat} {w w1 w2 : World} {o : Obj} {row : Option Nat} (h : Mid base w w1) (hg : (w1.alloc o).grownBy w2 row) (hr : ∀ g, row = some g → g < base ∨ w.heap.size ≤ g) : Mid base w w2 := by
  obtain ⟨h1, h2⟩ := h
  have hs := hg.size
  have ha : (w1.alloc o).heap.size = w1.heap.size + 1 := by simp
  refine ⟨by omega, fun b hb hw => ?_⟩
  rw [hg.block b (by omega) (fun e => by have := hr b e.symm; omega), Below.heap_alloc _ _ _ (by omega)]
  exact h2 b hb hw
theorem own_mid {base size n : Nat} {e : TypeId} {v : Value} {cs : List Value} {w w' : World} (h : w.ownsRow base e size v n cs) (hm : Mid base w w') : w'.ownsRow base e size v n cs := by
  refine ⟨h.1, ?_⟩
  rcases h.2 with hn | ⟨g, cap, cur, hv, hbg, hg, rest⟩
  · exact .inl hn
  · exact .inr ⟨g, cap, cur, hv, hbg, (hm.2 g hbg (Array.getElem?_eq_some_iff.1 hg).1).trans hg, rest⟩
theorem Tab.mid {base : Nat} {v : Value} {L : List (List Int)} {w w' : World} (h : Tab base v L w) (hm : Mid base w w') : Tab base v L w' := by
  obtain ⟨vs, h1, h2, h3, h4⟩ := h
  exact ⟨vs, own_mid h1 hm, fun i u xs hu hx => own_mid (h2 i u xs hu hx) hm, h3, h4⟩
theorem grpsL_first {adj : Nat → Nat → Bool} {n i : Nat} {g : List Int} (h : (grpsL adj n)[i]? = some g) : ∃ a : Nat, a < n ∧ g[0]? = some (a : Int) := by
  unfold grpsL grps at h
  rw [List.map_map, List.getElem?_map] at h
  cases hk : (kprs adj n)[i]? with
  | none => rw [hk] at h; simp at h
  | some a =>
    rw [hk] at h
    simp only [Option.map_some, Option.some.injEq, Function.comp] at h
    have ha := (mem_kprs.1 (List.mem_of_getElem? hk)).1
    obtain ⟨t, ht⟩ := grp_cons (adj := adj) ha
    refine ⟨kpr adj n a, (kpr_mem ha).1, ?_⟩
    rw [← h, ht]
    rfl
def jl (ps : List Per) (L : List (List Int)) (k : Nat) : List Per := (L.take k).map fun g => ps.getD (nth g 0).toNat perZ
theorem jl_step {ps : List Per} {L : List (List Int)} {k a : Nat} {g : List Int} {p : Per} (h : L[k]? = some g) (hg : g[0]? = some (a : Int)) (hp : ps[a]? = some p) : jl ps L (k + 1) = jl ps L k ++ [p] := by
  unfold jl
  rw [List.take_add_one, h, List.map_append]
  congr 1
  simp only [Option.toList, List.map_cons, List.map_nil]
  rw [nth_eq hg]
  rw [show ((a : Int)).toNat = a by omega, getD_per hp]
theorem jl_len (ps : List Per) (L : List (List Int)) {k : Nat} (h : k ≤ L.length) : (jl ps L k).length = k := by
  unfold jl
  rw [List.length_map, List.length_take]
  omega
def jlI (ps : List Per) (l : Int) : List Per := if jcode ps l [] = 0 then jl ps (grpsL (adjB ps l) ps.length) (grpsL (adjB ps l) ps.length).length else []
theorem jlI_cnt (ps : List Per) (l : Int) : P_cnt (jlI ps l) ≤ 1000000 := by
  unfold jlI P_cnt
  by_cases q : jcode ps l [] = 0
  · rw [if_pos q, jl_len _ _ (Nat.le_refl _)]
    have h := persB_len (jcode_ok.1 q).1
    have hgl : (grpsL (adjB ps l) ps.length).length ≤ ps.length := by rw [← grpsTo_all]; exact grpsTo_len (adjB ps l) ps.length ps.length
    omega
  · rw [if_neg q]
    simp
theorem per_cells (w : World) (p : Per) (e : TypeId) : ∀ j u, (perC p)[j]? = some u → (w.alloc (.cells #[.int .i64 p.number, .string p.first, .string p.last, .int .i64 p.born, .int .i64 p.zone] e)).cell? ((⟨w.heap.size, 0, none⟩ : Addr).add j) = some u := by
  intro j u hj
  have hg := heap_alloc_new w (.cells #[.int .i64 p.number, .string p.first, .string p.last, .int .i64 p.born, .int .i64 p.zone] e)
  rw [Addr.add_lit, cell_of_row _ _ _ _ _ _ hg]
  rw [← hj, Nat.zero_add]
  unfold perC
  simp

set_option maxRecDepth 100000 in
set_option maxHeartbeats 4000000 in
theorem spec_Joined {v : Value} {ps : List Per} {w : World} (h : Persons w v ps) (hp : PersFit ps) (l : Int) :
    Calls Try.prog 46 #[v, .int .i64 l] w fun e w' => ∃ u, e = .returned (.tuple #[u, .int .i64 (jcode ps l [])]) ∧ w'.ownsRow w.heap.size 35 5 u (jlI ps l).length ((jlI ps l).flatMap perC) ∧ Below w.heap.size w w' := by
  have HC := spec_l05Limit h hp l
  have HG := fun (wr : World) (b : Below w.heap.size w wr) (hB : persB ps = true) => spec_groups (h.below b) hp hB l
  obtain ⟨i0, hi, hz0, hz1, hz2⟩ := info_parts info_iper
  obtain ⟨aa, n, c, rfl, H⟩ := h.parts
  have hlen := Lib.hid H.len
  have hcap := H.cap
  have hmost := H.most
  unfold maxLen at hmost
  have HP := Lib.hid h
  clear H h hp
  by_cases q : jcode ps l [] = 0
  · obtain ⟨hB, _, _⟩ := jcode_ok.1 q
    have hn12 : ps.length ≤ 12 := persB_len hB
    have R1 : Hid (jlI ps l = jl ps (grpsL (adjB ps l) ps.length) (grpsL (adjB ps l) ps.length).length) := Lib.hid (by unfold jlI; rw [if_pos q])
    have hgl : (grpsL (adjB ps l) ps.length).length ≤ ps.length := by rw [← grpsTo_all]; exact grpsTo_len (adjB ps l) ps.length ps.length
    have hfst := Lib.hid (fun i g h => grpsL_first (adj := adjB ps l) (n := ps.length) (i := i) (g := g) h)
    rw [q] at HC ⊢
    rw [R1.out]
    replace HC := Lib.hid HC
    replace HG := Lib.hid (fun (wr : World) (b : Below w.heap.size w wr) => HG wr b hB)
    clear q hB R1
    generalize grpsL (adjB ps l) ps.length = L at *
    have hjl := Lib.hid (fun k (h : k ≤ L.length) => jl_len ps L h)
    generalize hm : L.length = m at *
    replace hm := Lib.hid hm
    go_enter Try.func46, Try.ntmps46
    go_wp2_with fail
    refine HC.out.mono ?_
    rintro e w1 ⟨rfl, b1⟩
    have hO : Hid ((w1.alloc (.cells #[] 35)).ownsRow w.heap.size 35 5 (.slice (some ⟨w1.heap.size, 0, none⟩) 0 0) (jl ps L 0).length ((jl ps L 0).flatMap perC)) := Lib.hid (World.ownsRow_lit w1 #[] 0 b1.size (by decide) rfl)
    have BB := b1.alloc b1.size (.cells #[] 35)
    clear b1 HC
    go_wp2_with fail
    refine (HG.out _ BB).mono ?_
    rintro e w2 ⟨ut, rfl, ht, b2⟩
    replace hO := Lib.hid (own_below hO.out b2)
    replace BB := below_next BB (Nat.le_refl _) b2
    obtain ⟨aT, cT, rfl, hcT, hmT, hfT⟩ := ht.form
    rw [hm.out] at hcT hfT ⊢
    unfold maxLen at hmT
    have hbs : (w1.alloc (.cells #[] 35)).heap.size = w1.heap.size + 1 := by simp
    rw [hbs] at ht
    have HT := Lib.hid ht
    have hob : ∀ g, (Value.slice (some ⟨w1.heap.size, 0, none⟩) 0 0).ownBlock = some g → g < w1.heap.size + 1 ∨ w2.heap.size ≤ g := by
      intro g e
      simp [Value.ownBlock] at e
      omega
    replace hob := Lib.hid hob
    have hM := Lib.hid (Mid.refl (w1.heap.size + 1) w2)
    clear b2 hbs hfT ht HG
    go_wp2_with fail
    go_loopw [7, 9] (fun u i wr => ∃ k : Nat, k ≤ m ∧ i = .int .i64 k ∧ Hid (wr.ownsRow w.heap.size 35 5 u (jl ps L k).length ((jl ps L k).flatMap perC)) ∧ Hid (Mid (w1.heap.size + 1) w2 wr) ∧ Hid (∀ g, u.ownBlock = some g → g < w1.heap.size + 1 ∨ w2.heap.size ≤ g) ∧ Below w.heap.size w wr) (fun _ i _ => m - (intOf i).toNat)
    case atStart => exact ⟨0, Nat.zero_le _, rfl, hO, hM, hob, BB⟩
    case round =>
      clear hO hM hob BB
      obtain ⟨k, hk, rfl, hO, hM, hob, BB⟩ := hrel
      rename_i wr
      by_cases hlt : k < m
      · have HTR := (HT.out.mid hM.out).reads
        rw [show L.length = m from hm.out] at *
        obtain ⟨bt, ot, x, xs, hat, hbt, c0, hx, hix⟩ := HTR.at_ hlt
        subst hat
        obtain ⟨a, ha, hg0⟩ := hfst.out k xs hx
        obtain ⟨ax, nx, cx, rfl, HX⟩ := hix.parts
        have hnx : 0 < nx := by have := HX.len; have := (List.getElem?_eq_some_iff.1 hg0).1; omega
        obtain ⟨bx, ox, rfl, hbx, hcx⟩ := HX.cells hnx
        have d0 := hcx 0 _ hg0
        rw [Nat.add_zero] at d0
        have hcX := HX.cap
        have hmX := HX.most
        unfold maxLen at hmX
        obtain ⟨p, hp⟩ := per_at (ps := ps) (k := a) ha
        have hst := Lib.hid (jl_step hx hg0 hp)
        have hl := hjl.out k hk
        obtain ⟨b, o, rfl⟩ := HP.out.form.2.2.2 (by have := hlen.out; omega)
        obtain ⟨hbb, p0, p1, p2, p3, p4⟩ := (HP.out.below BB).at_ hp
        have ho1 := hO.out
        have hsz := BB.size
        have han : (a : Int) < n := by have := hlen.out; omega
        clear HTR hx hix HX hcx hg0 hp
        go_wp2_with (at_builtin; refine wpList_append_own_at _ rfl _ _ 50 rfl w.heap.size 35 i0 (.agg #[.int .i64 0, .string ByteArray.empty, .string ByteArray.empty, .int .i64 0, .int .i64 0]) 5 56 Try.underlying50 hi hz0 hz1 hz2 rfl (by decide) _ _ _ rfl (World.ownsRow.alloc ho1 _) ⟨wr.heap.size, 0, none⟩ 1 1 (perC p) rfl rfl ?c1 ?c2 ?c3 ?c4 ?c5 ?_)
        case c1 =>
          intro j u h
          unfold perC at h
          exact h
        case c2 => intro u hu; unfold perC at hu; simp at hu; rcases hu with rfl | rfl | rfl | rfl | rfl <;> rfl
        case c3 => unfold maxLen; omega
        case c4 => omega
        case c5 => omega
        intro v' w5 hown' hgrow _ hat
        have hM2 := Lib.hid (hM.out.step hgrow hob.out)
        have hob2 : Hid (∀ g, v'.ownBlock = some g → g < w1.heap.size + 1 ∨ w2.heap.size ≤ g) := Lib.hid (by
          intro g e
          rcases hat with h | h
          · exact hob.out g (by rw [← h]; exact e)
          · rw [h] at e
            injection e with e
            have := hM.out.1
            right
            first | omega | (simp at e; omega))
        have hO2 : Hid (w5.ownsRow w.heap.size 35 5 v' (jl ps L (k + 1)).length ((jl ps L (k + 1)).flatMap perC)) := Lib.hid (by
          rw [hst.out, List.length_append, List.flatMap_append, hl]
          simpa using hown')
        have BB2 := below_append BB hsz ho1 hgrow
        clear hown' hgrow hat ho1 hO hM hob BB hbt hbx hbb hl
        go_wp2_with fail
        clear c0 d0 p0 p1 p2 p3 p4
        go_roundw
        case rel => exact ⟨k + 1, by omega, by go_num, hO2, hM2, hob2, BB2⟩
        case measure => simp [intOf]; omega
      · obtain rfl : k = m := by omega
        clear hlt
        go_wp2_with fail
        go_ret2
        exact ⟨_, rfl, hO.out, BB⟩
  · have R1 : Hid (jlI ps l = []) := Lib.hid (by unfold jlI; rw [if_neg q])
    have q1 : (jcode ps l [] != 0) = true := by simpa using q
    rw [R1.out]
    replace HC := Lib.hid HC
    clear q R1 HG
    generalize jcode ps l [] = cc at *
    go_enter Try.func46, Try.ntmps46
    go_wp2_with fail
    refine HC.out.mono ?_
    rintro e w1 ⟨rfl, b1⟩
    go_wp2_with fail
    go_ret2
    exact ⟨_, rfl, World.ownsRow_nil _ _ _ _, b1⟩
set_option maxRecDepth 100000 in
set_option maxHeartbeats 4000000 in
theorem impl_Joined {v : Value} {ps : List Per} {w : World} (h : Persons w v ps) (hp : PersFit ps) (l : Int) :
    Calls Try.prog 45 #[v, .int .i64 l] w fun e w' => ∃ u, e = .returned (.tuple #[u, .int .i64 (jcode ps l [])]) ∧ w'.ownsRow w.heap.size 35 5 u (jlI ps l).length ((jlI ps l).flatMap perC) ∧ Below w.heap.size w w' := by
  have HC := impl_joinCode h hp (ints_nil w) l
  have HG := fun (wr : World) (b : Below w.heap.size w wr) (hB : persB ps = true) => impl_groups (h.below b) hp hB l
  obtain ⟨i0, hi, hz0, hz1, hz2⟩ := info_parts info_iper
  obtain ⟨aa, n, c, rfl, H⟩ := h.parts
  have hlen := Lib.hid H.len
  have hcap := H.cap
  have hmost := H.most
  unfold maxLen at hmost
  have HP := Lib.hid h
  clear H h hp
  by_cases q : jcode ps l [] = 0
  · obtain ⟨hB, _, _⟩ := jcode_ok.1 q
    have hn12 : ps.length ≤ 12 := persB_len hB
    have R1 : Hid (jlI ps l = jl ps (grpsL (adjB ps l) ps.length) (grpsL (adjB ps l) ps.length).length) := Lib.hid (by unfold jlI; rw [if_pos q])
    have hgl : (grpsL (adjB ps l) ps.length).length ≤ ps.length := by rw [← grpsTo_all]; exact grpsTo_len (adjB ps l) ps.length ps.length
    have hfst := Lib.hid (fun i g h => grpsL_first (adj := adjB ps l) (n := ps.length) (i := i) (g := g) h)
    rw [q] at HC ⊢
    rw [R1.out]
    replace HC := Lib.hid HC
    replace HG := Lib.hid (fun (wr : World) (b : Below w.heap.size w wr) => HG wr b hB)
    clear q hB R1
    generalize grpsL (adjB ps l) ps.length = L at *
    have hjl := Lib.hid (fun k (h : k ≤ L.length) => jl_len ps L h)
    generalize hm : L.length = m at *
    replace hm := Lib.hid hm
    go_enter Try.func45, Try.ntmps45
    go_wp2_with fail
    refine HC.out.mono ?_
    rintro e w1 ⟨rfl, b1⟩
    have hO : Hid ((w1.alloc (.cells #[] 35)).ownsRow w.heap.size 35 5 (.slice (some ⟨w1.heap.size, 0, none⟩) 0 0) (jl ps L 0).length ((jl ps L 0).flatMap perC)) := Lib.hid (World.ownsRow_lit w1 #[] 0 b1.size (by decide) rfl)
    have BB := b1.alloc b1.size (.cells #[] 35)
    clear b1 HC
    go_wp2_with fail
    refine (HG.out _ BB).mono ?_
    rintro e w2 ⟨ut, rfl, ht, b2⟩
    replace hO := Lib.hid (own_below hO.out b2)
    replace BB := below_next BB (Nat.le_refl _) b2
    obtain ⟨aT, cT, rfl, hcT, hmT, hfT⟩ := ht.form
    rw [hm.out] at hcT hfT ⊢
    unfold maxLen at hmT
    have hbs : (w1.alloc (.cells #[] 35)).heap.size = w1.heap.size + 1 := by simp
    rw [hbs] at ht
    have HT := Lib.hid ht
    have hob : ∀ g, (Value.slice (some ⟨w1.heap.size, 0, none⟩) 0 0).ownBlock = some g → g < w1.heap.size + 1 ∨ w2.heap.size ≤ g := by
      intro g e
      simp [Value.ownBlock] at e
      omega
    replace hob := Lib.hid hob
    have hM := Lib.hid (Mid.refl (w1.heap.size + 1) w2)
    clear b2 hbs hfT ht HG
    go_wp2_with fail
    go_loopw [7, 21] (fun u i wr => ∃ k : Nat, k ≤ m ∧ i = .int .i64 k ∧ Hid (wr.ownsRow w.heap.size 35 5 u (jl ps L k).length ((jl ps L k).flatMap perC)) ∧ Hid (Mid (w1.heap.size + 1) w2 wr) ∧ Hid (∀ g, u.ownBlock = some g → g < w1.heap.size + 1 ∨ w2.heap.size ≤ g) ∧ Below w.heap.size w wr) (fun _ i _ => m - (intOf i).toNat)
    case atStart => exact ⟨0, Nat.zero_le _, rfl, hO, hM, hob, BB⟩
    case round =>
      clear hO hM hob BB
      obtain ⟨k, hk, rfl, hO, hM, hob, BB⟩ := hrel
      rename_i wr
      by_cases hlt : k < m
      · have HTR := (HT.out.mid hM.out).reads
        rw [show L.length = m from hm.out] at *
        obtain ⟨bt, ot, x, xs, hat, hbt, c0, hx, hix⟩ := HTR.at_ hlt
        subst hat
        obtain ⟨a, ha, hg0⟩ := hfst.out k xs hx
        obtain ⟨ax, nx, cx, rfl, HX⟩ := hix.parts
        have hnx : 0 < nx := by have := HX.len; have := (List.getElem?_eq_some_iff.1 hg0).1; omega
        obtain ⟨bx, ox, rfl, hbx, hcx⟩ := HX.cells hnx
        have d0 := hcx 0 _ hg0
        rw [Nat.add_zero] at d0
        have hcX := HX.cap
        have hmX := HX.most
        unfold maxLen at hmX
        obtain ⟨p, hp⟩ := per_at (ps := ps) (k := a) ha
        have hst := Lib.hid (jl_step hx hg0 hp)
        have hl := hjl.out k hk
        obtain ⟨b, o, rfl⟩ := HP.out.form.2.2.2 (by have := hlen.out; omega)
        obtain ⟨hbb, p0, p1, p2, p3, p4⟩ := (HP.out.below BB).at_ hp
        have ho1 := hO.out
        have hsz := BB.size
        have han : (a : Int) < n := by have := hlen.out; omega
        clear HTR hx hix HX hcx hg0 hp
        go_wp2_with (at_builtin; refine wpList_append_own_at _ rfl _ _ 50 rfl w.heap.size 35 i0 (.agg #[.int .i64 0, .string ByteArray.empty, .string ByteArray.empty, .int .i64 0, .int .i64 0]) 5 56 Try.underlying50 hi hz0 hz1 hz2 rfl (by decide) _ _ _ rfl (World.ownsRow.alloc ho1 _) ⟨wr.heap.size, 0, none⟩ 1 1 (perC p) rfl rfl ?c1 ?c2 ?c3 ?c4 ?c5 ?_)
        case c1 =>
          intro j u h
          unfold perC at h
          exact h
        case c2 => intro u hu; unfold perC at hu; simp at hu; rcases hu with rfl | rfl | rfl | rfl | rfl <;> rfl
        case c3 => unfold maxLen; omega
        case c4 => omega
        case c5 => omega
        intro v' w5 hown' hgrow _ hat
        have hM2 := Lib.hid (hM.out.step hgrow hob.out)
        have hob2 : Hid (∀ g, v'.ownBlock = some g → g < w1.heap.size + 1 ∨ w2.heap.size ≤ g) := Lib.hid (by
          intro g e
          rcases hat with h | h
          · exact hob.out g (by rw [← h]; exact e)
          · rw [h] at e
            injection e with e
            have := hM.out.1
            right
            first | omega | (simp at e; omega))
        have hO2 : Hid (w5.ownsRow w.heap.size 35 5 v' (jl ps L (k + 1)).length ((jl ps L (k + 1)).flatMap perC)) := Lib.hid (by
          rw [hst.out, List.length_append, List.flatMap_append, hl]
          simpa using hown')
        have BB2 := below_append BB hsz ho1 hgrow
        clear hown' hgrow hat ho1 hO hM hob BB hbt hbx hbb hl
        go_wp2_with fail
        clear c0 d0 p0 p1 p2 p3 p4
        go_roundw
        case rel => exact ⟨k + 1, by omega, by go_num, hO2, hM2, hob2, BB2⟩
        case measure => simp [intOf]; omega
      · obtain rfl : k = m := by omega
        clear hlt
        go_wp2_with fail
        go_ret2
        exact ⟨_, rfl, hO.out, BB⟩
  · have R1 : Hid (jlI ps l = []) := Lib.hid (by unfold jlI; rw [if_neg q])
    have q1 : (jcode ps l [] != 0) = true := by simpa using q
    rw [R1.out]
    replace HC := Lib.hid HC
    clear q R1 HG
    generalize jcode ps l [] = cc at *
    go_enter Try.func45, Try.ntmps45
    go_wp2_with fail
    refine HC.out.mono ?_
    rintro e w1 ⟨rfl, b1⟩
    go_wp2_with fail
    go_ret2
    exact ⟨_, rfl, World.ownsRow_nil _ _ _ _, b1⟩
end Go.Proofs.Ythnilifepiihjaa

/-
  AlikePairs of both packages.
  Conditions: each lemma names its own.
-/
namespace Go.Proofs.Ythnilifepiihjaa
open Go.RowKit
set_option linter.unusedVariables false


theorem own_lit2 (w : World) (d d2 : Int) : OwnI w.heap.size (.slice (some ⟨w.heap.size, 0, none⟩) 2 2) [d, d2] (w.alloc (.cells #[.int .i64 d, .int .i64 d2] 2)) :=
  World.ownsRow_lit w #[.int .i64 d, .int .i64 d2] 2 (Nat.le_refl _) (by decide) rfl

theorem PerAt.kept {w w' : World} {b : Nat} {p : Per} {row : Option Nat} (h : PerAt w b p) (hg : w.grownBy w' row) (hne : row ≠ some b) : PerAt w' b p := by
  obtain ⟨h0, h1, h2, h3, h4, h5⟩ := h
  exact ⟨Nat.lt_of_lt_of_le h0 hg.size, hg.cell h1 hne.symm, hg.cell h2 hne.symm, hg.cell h3 hne.symm, hg.cell h4 hne.symm, hg.cell h5 hne.symm⟩
def alB (ps : List Per) (l : Int) (i k : Nat) : Bool := decide (l ≤ lik (ps.getD i perZ) (ps.getD k perZ))
theorem alB_at {ps : List Per} {l : Int} {i k : Nat} {p q : Per} (hp : ps[i]? = some p) (hq : ps[k]? = some q) : alB ps l i k = decide (l ≤ lik p q) := by
  unfold alB; rw [getD_per hp, getD_per hq]
/-- The pairs of i with those from i + 1 on, below k. -/
def prow (al : Nat → Nat → Bool) (i k : Nat) : List (List Int) := ((List.range k).filter fun j => decide (i < j) && al i j).map fun j : Nat => [(i : Int), (j : Int)]
def prs (al : Nat → Nat → Bool) (n : Nat) : Nat → List (List Int)
  | 0 => []
  | i + 1 => prs al n i ++ prow al i n
theorem prow_yes {al : Nat → Nat → Bool} {i k : Nat} (h : i < k) (q : al i k = true) : prow al i (k + 1) = prow al i k ++ [[(i : Int), (k : Int)]] := by
  unfold prow
  rw [List.range_succ, List.filter_append, List.map_append]
  congr 1
  rw [List.filter_cons, if_pos (by simp [h, q]), List.filter_nil]
  rfl
theorem prow_no {al : Nat → Nat → Bool} {i k : Nat} (q : al i k = false) : prow al i (k + 1) = prow al i k := by
  unfold prow
  rw [List.range_succ, List.filter_append, List.map_append, List.filter_cons, if_neg (by simp [q]), List.filter_nil, List.map_nil, List.append_nil]
theorem prow_nil (al : Nat → Nat → Bool) (i : Nat) : prow al i (i + 1) = [] := by
  unfold prow
  rw [List.filter_eq_nil_iff.2 (fun j hj => by have := List.mem_range.1 hj; simp; omega)]
  rfl
theorem prow_len (al : Nat → Nat → Bool) (i k : Nat) : (prow al i k).length ≤ k := by
  unfold prow
  rw [List.length_map]
  exact Nat.le_trans (List.length_filter_le _ _) (by rw [List.length_range]; exact Nat.le_refl _)
theorem prow_tot (al : Nat → Nat → Bool) (i k : Nat) : tot (prow al i k) ≤ 2 * k := by
  have h : ∀ xs : List Nat, tot (xs.map fun j : Nat => [(i : Int), (j : Int)]) = 2 * xs.length := by
    intro xs
    induction xs with
    | nil => rfl
    | cons x xs ih =>
      have : tot ((x :: xs).map fun j : Nat => [(i : Int), (j : Int)]) = 2 + tot (xs.map fun j : Nat => [(i : Int), (j : Int)]) := by simp [tot]
      rw [this, ih, List.length_cons]
      omega
  unfold prow
  rw [h]
  have := List.length_filter_le (fun j => decide (i < j) && al i j) (List.range k)
  rw [List.length_range] at this
  omega
theorem prs_len (al : Nat → Nat → Bool) (n : Nat) : ∀ i, (prs al n i).length ≤ i * n
  | 0 => by simp [prs]
  | i + 1 => by
    have := prs_len al n i
    have := prow_len al i n
    rw [prs, List.length_append, Nat.succ_mul]
    omega
theorem prs_tot (al : Nat → Nat → Bool) (n : Nat) : ∀ i, tot (prs al n i) ≤ i * (2 * n)
  | 0 => by simp [prs, tot]
  | i + 1 => by
    have := prs_tot al n i
    have := prow_tot al i n
    have e : tot (prs al n (i + 1)) = tot (prs al n i) + tot (prow al i n) := by simp [prs, tot]
    rw [e, Nat.succ_mul]
    omega
theorem prs_room {al : Nat → Nat → Bool} {n i k : Nat} (hn : n ≤ 12) (hi : i < n) (hk : k ≤ n) : (prs al n i ++ prow al i k).length ≤ 200 := by
  have h1 := prs_len al n i
  have h2 := prow_len al i k
  have h3 : i * n ≤ 12 * 12 := Nat.mul_le_mul (by omega) hn
  rw [List.length_append]
  omega
def apI (ps : List Per) (l : Int) : List (List Int) := if jcode ps l [] = 0 then prs (alB ps l) ps.length ps.length else []
theorem apI_cnt (ps : List Per) (l : Int) : SS_cnt (apI ps l) ≤ 1000000 := by
  unfold apI SS_cnt
  by_cases q : jcode ps l [] = 0
  · rw [if_pos q]
    have h := persB_len (jcode_ok.1 q).1
    have h1 := prs_tot (alB ps l) ps.length ps.length
    have h3 : ps.length * (2 * ps.length) ≤ 12 * 24 := Nat.mul_le_mul h (by omega)
    omega
  · rw [if_neg q]
    simp [tot]

set_option maxRecDepth 100000 in
set_option maxHeartbeats 4000000 in
theorem spec_Alike {v : Value} {ps : List Per} {w : World} (h : Persons w v ps) (hp : PersFit ps) (l : Int) :
    Calls Try.prog 44 #[v, .int .i64 l] w fun e w' => ∃ u, e = .returned (.tuple #[u, .int .i64 (jcode ps l [])]) ∧ Tab w.heap.size u (apI ps l) w' ∧ Below w.heap.size w w' := by
  have HC := spec_l05Limit h hp l
  obtain ⟨i0, hi, hz0, hz1, hz2⟩ := info_parts info_sl
  obtain ⟨aa, n, c, rfl, H⟩ := h.parts
  have hlen := Lib.hid H.len
  have hcap := H.cap
  have hmost := H.most
  unfold maxLen at hmost
  have HP := Lib.hid h
  have FF := Lib.hid hp
  clear H h hp
  by_cases q : jcode ps l [] = 0
  · obtain ⟨hB, _, _⟩ := jcode_ok.1 q
    have R1 : Hid (apI ps l = prs (alB ps l) n n) := Lib.hid (by unfold apI; rw [if_pos q, hlen.out])
    have hn12 : n ≤ 12 := by have := persB_len hB; have := hlen.out; omega
    have VB := Lib.hid (fun k q hx => persB_born hB (k := k) (q := q) hx)
    rw [q] at HC ⊢
    rw [R1.out]
    replace HC := Lib.hid HC
    clear q hB R1
    go_enter Try.func44, Try.ntmps44
    go_wp2_with fail
    refine HC.out.mono ?_
    rintro e w1 ⟨rfl, BB⟩
    clear HC
    have hT : Hid (Tab w.heap.size (.slice (some ⟨w1.heap.size, 0, none⟩) 0 0) (prs (alB ps l) n 0) (w1.alloc (.cells #[] 22))) := Lib.hid ((tab_new (Nat.le_refl _)).mono BB.size)
    replace BB := BB.alloc BB.size (.cells #[] 22)
    go_wp2_with fail
    go_loopw [7, 8] (fun u i wr => ∃ k : Nat, k ≤ n ∧ i = .int .i64 k ∧ Hid (Tab w.heap.size u (prs (alB ps l) n k) wr) ∧ Below w.heap.size w wr) (fun _ i _ => n - (intOf i).toNat)
    case atStart => exact ⟨0, Nat.zero_le _, rfl, hT, BB⟩
    case round =>
      clear hT BB
      obtain ⟨k, hk, rfl, hT, BB⟩ := hrel
      rename_i wr
      by_cases hlt : k < n
      · have hX := per_at (ps := ps) (k := k) (by have := hlen.out; omega)
        obtain ⟨p, hx⟩ := hX
        have fp := Lib.hid (FF.out.at_ hx)
        have bp := Lib.hid (VB.out k p hx)
        have HX := Lib.hid hx
        clear hx
        obtain ⟨b, o, rfl⟩ := HP.out.form.2.2.2 (by omega)
        have hT0 := hT
        rw [← List.append_nil (prs (alB ps l) n k), ← prow_nil (alB ps l) k] at hT0
        clear hT
        go_wp2_with fail
        go_loopw [7, 9] (fun u i wr => ∃ j : Nat, k + 1 ≤ j ∧ j ≤ n ∧ i = .int .i64 j ∧ Hid (Tab w.heap.size u (prs (alB ps l) n k ++ prow (alB ps l) k j) wr) ∧ Below w.heap.size w wr) (fun _ i _ => n - (intOf i).toNat)
        case atStart => exact ⟨k + 1, Nat.le_refl _, by omega, by go_num, hT0, BB⟩
        case round =>
          obtain ⟨j, hkj, hj, rfl, hT, BR⟩ := hrel
          rename_i wr
          clear hT0
          by_cases hjk : j < n
          · have hY := per_at (ps := ps) (k := j) (by have := hlen.out; omega)
            obtain ⟨q, hy⟩ := hY
            have fq := Lib.hid (FF.out.at_ hy)
            have bq := Lib.hid (VB.out j q hy)
            have hal := alB_at (l := l) HX.out hy
            obtain ⟨_, c0, c1, c2, c3, c4⟩ := (HP.out.below BR).at_ HX.out
            obtain ⟨hbb, d0, d1, d2, d3, d4⟩ := (HP.out.below BR).at_ hy
            have hlik := Lib.hid (fun w => spec_lik_l p q fp.out fq.out bp.out bq.out w)
            have hl := lik_bd p q
            clear hy
            have hroom := prs_room (al := alB ps l) (i := k) (k := j) hn12 hlt hj
            by_cases qq : l ≤ lik p q
            · have hyes := Lib.hid (prow_yes (al := alB ps l) (i := k) (k := j) (by omega) (by rw [hal]; exact decide_eq_true qq))
              clear hal
              generalize lik p q = x at *
              go_wp2_with fail
              refine region_ext (by kernel_rfl) (by kernel_rfl) ?_
              repeat (go_big_quiet_step ((with_reducible_and_instances exact ext_call (hlik.out _))))
              refine wpQuiet_nil ?_
              rintro _ ⟨nx, rfl⟩
              have b3 := ext_below _ nx
              generalize extW _ nx = w3 at *
              replace BR := below_next BR (Nat.le_refl _) b3
              replace hT := Lib.hid (hT.out.below b3)
              clear c0 c1 c2 c3 c4 d0 d1 d2 d3 d4 b3 hbb
              have hsz := BR.size
              obtain ⟨vs, t1, t2, t3, t4, t5, t6⟩ := hT.out.blocks
              have b4 : Below w3.heap.size w3 (w3.alloc (.cells #[.int .i64 (k : Int), .int .i64 (j : Int)] 2)) := (Below.refl _ _).alloc (Nat.le_refl _) _
              have hu := Lib.hid (own_lit2 w3 k j)
              have BR2 := below_next BR (Nat.le_refl _) b4
              have t1' := own_below t1 b4
              have t2' : ∀ (i : Nat) (u : Value) (xs : List Int), vs[i]? = some u → (prs (alB ps l) n k ++ prow (alB ps l) k j)[i]? = some xs → OwnI w.heap.size u xs (w3.alloc (.cells #[.int .i64 (k : Int), .int .i64 (j : Int)] 2)) := fun i u xs h1 h2 => (t2 i u xs h1 h2).below b4
              replace t2' := Lib.hid t2'
              replace t3 := Lib.hid t3
              replace t4 := Lib.hid t4
              replace t5 := Lib.hid t5
              replace t6 := Lib.hid t6
              clear t2 t1 hT
              generalize hM : prs (alB ps l) n k ++ prow (alB ps l) k j = M at *
              replace hM := Lib.hid hM
              go_wp2_with (at_builtin; refine wpList_append_own_at _ rfl _ _ 68 rfl w.heap.size 22 i0 (.slice none 0 0) 1 24 Try.underlying68 hi hz0 hz1 hz2 rfl (by decide) _ _ _ rfl (World.ownsRow.alloc t1' _) ⟨w3.heap.size + 1, 0, none⟩ 1 1 [.slice (some ⟨w3.heap.size, 0, none⟩) 2 2] rfl rfl ?c1 ?c2 ?c3 ?c4 ?c5 ?_)
              case c1 =>
                have e : (w3.alloc (.cells #[.int .i64 (k : Int), .int .i64 (j : Int)] 2)).heap.size = w3.heap.size + 1 := by simp
                rw [← e]
                exact single_atV _ _ _
              case c2 => intro u hu; simp at hu; subst hu; rfl
              case c3 => unfold maxLen; omega
              case c4 => omega
              case c5 => simp; omega
              intro v' w5 hown' hgrow _ hat
              have hT3 : Hid (Tab w.heap.size v' (prs (alB ps l) n k ++ prow (alB ps l) k (j + 1)) w5) := Lib.hid (by
                rw [hyes.out, ← List.append_assoc, hM.out]
                exact Tab.snoc (H := w3.heap.size) t1' t2'.out t3.out t4.out t5.out t6.out hu.out hsz b4.size hown' hgrow (by simpa using hat))
              have BR3 := below_append BR2 (by simp; omega) t1' hgrow
              clear hown' hgrow hat t1' t2' t3 t4 t5 t6 hu
              go_wp2_with fail
              go_roundw
              case rel => exact ⟨j + 1, by omega, by omega, by go_num, hT3, BR3⟩
              case measure => simp [intOf]; omega
            · have hno := prow_no (al := alB ps l) (i := k) (k := j) (by rw [hal]; exact decide_eq_false qq)
              rw [← hno] at hT
              replace qq : lik p q < l := by omega
              clear hal hno
              generalize lik p q = x at *
              go_wp2_with fail
              refine region_ext (by kernel_rfl) (by kernel_rfl) ?_
              repeat (go_big_quiet_step ((with_reducible_and_instances exact ext_call (hlik.out _))))
              refine wpQuiet_nil ?_
              rintro _ ⟨nx, rfl⟩
              have b3 := ext_below _ nx
              generalize extW _ nx = w3 at *
              replace BR := below_next BR (Nat.le_refl _) b3
              replace hT := Lib.hid (hT.out.below b3)
              clear c0 c1 c2 c3 c4 d0 d1 d2 d3 d4 b3 hbb
              go_wp2_with fail
              go_roundw
              case rel => exact ⟨j + 1, by omega, by omega, by go_num, hT, BR⟩
              case measure => simp [intOf]; omega
          · obtain rfl : j = n := by omega
            have hT2 : Hid (Tab w.heap.size _ (prs (alB ps l) j (k + 1)) _) := hT
            clear hT
            go_wp2_with fail
            go_roundw
            case rel => exact ⟨k + 1, by omega, by go_num, hT2, BR⟩
            case measure => simp [intOf]; omega
      · obtain rfl : k = n := by omega
        clear hlt
        go_wp2_with fail
        go_ret2
        exact ⟨_, rfl, hT.out, BB⟩
  · have R1 : Hid (apI ps l = []) := Lib.hid (by unfold apI; rw [if_neg q])
    have q1 : (jcode ps l [] != 0) = true := by simpa using q
    rw [R1.out]
    replace HC := Lib.hid HC
    clear q R1
    generalize jcode ps l [] = cc at *
    go_enter Try.func44, Try.ntmps44
    go_wp2_with fail
    refine HC.out.mono ?_
    rintro e w1 ⟨rfl, b1⟩
    go_wp2_with fail
    go_ret2
    exact ⟨_, rfl, tab_nil _ _, b1⟩
set_option maxRecDepth 100000 in
set_option maxHeartbeats 4000000 in
theorem impl_Alike {v : Value} {ps : List Per} {w : World} (h : Persons w v ps) (hp : PersFit ps) (l : Int) :
    Calls Try.prog 43 #[v, .int .i64 l] w fun e w' => ∃ u, e = .returned (.tuple #[u, .int .i64 (jcode ps l [])]) ∧ Tab w.heap.size u (apI ps l) w' ∧ Below w.heap.size w w' := by
  have HC := impl_joinCode h hp (ints_nil w) l
  obtain ⟨i0, hi, hz0, hz1, hz2⟩ := info_parts info_sl
  obtain ⟨aa, n, c, rfl, H⟩ := h.parts
  have hlen := Lib.hid H.len
  have hcap := H.cap
  have hmost := H.most
  unfold maxLen at hmost
  have HP := Lib.hid h
  have FF := Lib.hid hp
  clear H h hp
  by_cases q : jcode ps l [] = 0
  · obtain ⟨hB, _, _⟩ := jcode_ok.1 q
    have R1 : Hid (apI ps l = prs (alB ps l) n n) := Lib.hid (by unfold apI; rw [if_pos q, hlen.out])
    have hn12 : n ≤ 12 := by have := persB_len hB; have := hlen.out; omega
    have VB := Lib.hid (fun k q hx => persB_born hB (k := k) (q := q) hx)
    rw [q] at HC ⊢
    rw [R1.out]
    replace HC := Lib.hid HC
    clear q hB R1
    go_enter Try.func43, Try.ntmps43
    go_wp2_with fail
    refine HC.out.mono ?_
    rintro e w1 ⟨rfl, BB⟩
    clear HC
    have hT : Hid (Tab w.heap.size (.slice (some ⟨w1.heap.size, 0, none⟩) 0 0) (prs (alB ps l) n 0) (w1.alloc (.cells #[] 22))) := Lib.hid ((tab_new (Nat.le_refl _)).mono BB.size)
    replace BB := BB.alloc BB.size (.cells #[] 22)
    go_wp2_with fail
    go_loopw [7, 20] (fun u i wr => ∃ k : Nat, k ≤ n ∧ i = .int .i64 k ∧ Hid (Tab w.heap.size u (prs (alB ps l) n k) wr) ∧ Below w.heap.size w wr) (fun _ i _ => n - (intOf i).toNat)
    case atStart => exact ⟨0, Nat.zero_le _, rfl, hT, BB⟩
    case round =>
      clear hT BB
      obtain ⟨k, hk, rfl, hT, BB⟩ := hrel
      rename_i wr
      by_cases hlt : k < n
      · have hX := per_at (ps := ps) (k := k) (by have := hlen.out; omega)
        obtain ⟨p, hx⟩ := hX
        have fp := Lib.hid (FF.out.at_ hx)
        have bp := Lib.hid (VB.out k p hx)
        have HX := Lib.hid hx
        clear hx
        obtain ⟨wo, rfl⟩ : ∃ wo : World, wo = wr := ⟨_, rfl⟩
        obtain ⟨b, o, rfl⟩ := HP.out.form.2.2.2 (by omega)
        obtain ⟨_, c0, c1, c2, c3, c4⟩ := (HP.out.below BB).at_ HX.out
        go_wp2_with fail
        clear c0 c1 c2 c3 c4
        have PN := perAt_new wo p 35
        have BN : Below w.heap.size w (wo.alloc (.cells #[.int .i64 p.number, .string p.first, .string p.last, .int .i64 p.born, .int .i64 p.zone] 35)) := BB.alloc BB.size _
        have hT0 : Hid (Tab w.heap.size _ (prs (alB ps l) n k ++ prow (alB ps l) k (k + 1)) (wo.alloc (.cells #[.int .i64 p.number, .string p.first, .string p.last, .int .i64 p.born, .int .i64 p.zone] 35))) := Lib.hid (by
          rw [prow_nil, List.append_nil]
          exact hT.out.below ((Below.refl _ _).alloc (Nat.le_refl _) _))
        have hne0 := fun e => Nat.lt_irrefl _ (hT.out.blocks.choose_spec.2.2.2.2.2 _ e)
        clear hT BB
        go_loopw [7, 10] (fun u i wr => ∃ j : Nat, k + 1 ≤ j ∧ j ≤ n ∧ i = .int .i64 j ∧ Hid (Tab w.heap.size u (prs (alB ps l) n k ++ prow (alB ps l) k j) wr) ∧ Below w.heap.size w wr ∧ PerAt wr wo.heap.size p ∧ u.ownBlock ≠ some wo.heap.size) (fun _ i _ => n - (intOf i).toNat)
        case atStart => exact ⟨k + 1, Nat.le_refl _, by omega, by go_num, hT0, BN, PN, hne0⟩
        case round =>
          obtain ⟨j, hkj, hj, rfl, hT, BR, PR, hne⟩ := hrel
          rename_i wr
          clear hT0
          by_cases hjk : j < n
          · have hY := per_at (ps := ps) (k := j) (by have := hlen.out; omega)
            obtain ⟨q, hy⟩ := hY
            have fq := Lib.hid (FF.out.at_ hy)
            have bq := Lib.hid (VB.out j q hy)
            have hal := alB_at (l := l) HX.out hy
            obtain ⟨c0, c1, c2, c3, c4, c5⟩ := id PR
            obtain ⟨hbb, d0, d1, d2, d3, d4⟩ := (HP.out.below BR).at_ hy
            have hlik := Lib.hid (fun w => impl_lik_l p q fp.out fq.out bp.out bq.out w)
            have hl := lik_bd p q
            clear hy
            have hroom := prs_room (al := alB ps l) (i := k) (k := j) hn12 hlt hj
            by_cases qq : l ≤ lik p q
            · have hyes := Lib.hid (prow_yes (al := alB ps l) (i := k) (k := j) (by omega) (by rw [hal]; exact decide_eq_true qq))
              clear hal
              generalize lik p q = x at *
              go_wp2_with fail
              refine region_ext (by kernel_rfl) (by kernel_rfl) ?_
              repeat (go_big_quiet_step ((with_reducible_and_instances exact ext_call (hlik.out _))))
              refine wpQuiet_nil ?_
              rintro _ ⟨nx, rfl⟩
              have b3 := ext_below _ nx
              generalize extW _ nx = w3 at *
              replace BR := below_next BR (Nat.le_refl _) b3
              replace hT := Lib.hid (hT.out.below b3)
              replace PR := PR.below b3
              clear c0 c1 c2 c3 c4 c5 d0 d1 d2 d3 d4 b3 hbb
              have hsz := BR.size
              obtain ⟨vs, t1, t2, t3, t4, t5, t6⟩ := hT.out.blocks
              have b4 : Below w3.heap.size w3 (w3.alloc (.cells #[.int .i64 (k : Int), .int .i64 (j : Int)] 2)) := (Below.refl _ _).alloc (Nat.le_refl _) _
              have hu := Lib.hid (own_lit2 w3 k j)
              have BR2 := below_next BR (Nat.le_refl _) b4
              have PR2 := PR.below b4
              have t1' := own_below t1 b4
              have t2' : ∀ (i : Nat) (u : Value) (xs : List Int), vs[i]? = some u → (prs (alB ps l) n k ++ prow (alB ps l) k j)[i]? = some xs → OwnI w.heap.size u xs (w3.alloc (.cells #[.int .i64 (k : Int), .int .i64 (j : Int)] 2)) := fun i u xs h1 h2 => (t2 i u xs h1 h2).below b4
              replace t2' := Lib.hid t2'
              replace t3 := Lib.hid t3
              replace t4 := Lib.hid t4
              replace t5 := Lib.hid t5
              replace t6 := Lib.hid t6
              clear t2 t1 hT
              generalize hM : prs (alB ps l) n k ++ prow (alB ps l) k j = M at *
              replace hM := Lib.hid hM
              go_wp2_with (at_builtin; refine wpList_append_own_at _ rfl _ _ 68 rfl w.heap.size 22 i0 (.slice none 0 0) 1 24 Try.underlying68 hi hz0 hz1 hz2 rfl (by decide) _ _ _ rfl (World.ownsRow.alloc t1' _) ⟨w3.heap.size + 1, 0, none⟩ 1 1 [.slice (some ⟨w3.heap.size, 0, none⟩) 2 2] rfl rfl ?c1 ?c2 ?c3 ?c4 ?c5 ?_)
              case c1 =>
                have e : (w3.alloc (.cells #[.int .i64 (k : Int), .int .i64 (j : Int)] 2)).heap.size = w3.heap.size + 1 := by simp
                rw [← e]
                exact single_atV _ _ _
              case c2 => intro u hu; simp at hu; subst hu; rfl
              case c3 => unfold maxLen; omega
              case c4 => omega
              case c5 => simp; omega
              intro v' w5 hown' hgrow _ hat
              have hT3 : Hid (Tab w.heap.size v' (prs (alB ps l) n k ++ prow (alB ps l) k (j + 1)) w5) := Lib.hid (by
                rw [hyes.out, ← List.append_assoc, hM.out]
                exact Tab.snoc (H := w3.heap.size) t1' t2'.out t3.out t4.out t5.out t6.out hu.out hsz b4.size hown' hgrow (by simpa using hat))
              have BR3 := below_append BR2 (by simp; omega) t1' hgrow
              have hw3 := PR.1
              replace PR2 := (PR2.alloc _).kept hgrow hne
              have hne2 : v'.ownBlock ≠ some wo.heap.size := by
                rcases hat with h | h
                · rw [h]; exact hne
                · rw [h]; intro e; injection e with e; first | omega | (simp at e; omega)
              clear hown' hgrow hat t1' t2' t3 t4 t5 t6 hu
              go_wp2_with fail
              go_roundw
              case rel => exact ⟨j + 1, by omega, by omega, by go_num, hT3, BR3, PR2, hne2⟩
              case measure => simp [intOf]; omega
            · have hno := prow_no (al := alB ps l) (i := k) (k := j) (by rw [hal]; exact decide_eq_false qq)
              rw [← hno] at hT
              replace qq : lik p q < l := by omega
              clear hal hno
              generalize lik p q = x at *
              go_wp2_with fail
              refine region_ext (by kernel_rfl) (by kernel_rfl) ?_
              repeat (go_big_quiet_step ((with_reducible_and_instances exact ext_call (hlik.out _))))
              refine wpQuiet_nil ?_
              rintro _ ⟨nx, rfl⟩
              have b3 := ext_below _ nx
              generalize extW _ nx = w3 at *
              replace BR := below_next BR (Nat.le_refl _) b3
              replace hT := Lib.hid (hT.out.below b3)
              replace PR := PR.below b3
              clear c0 c1 c2 c3 c4 c5 d0 d1 d2 d3 d4 b3 hbb
              go_wp2_with fail
              go_roundw
              case rel => exact ⟨j + 1, by omega, by omega, by go_num, hT, BR, PR, hne⟩
              case measure => simp [intOf]; omega
          · obtain rfl : j = n := by omega
            have hT2 : Hid (Tab w.heap.size _ (prs (alB ps l) j (k + 1)) _) := hT
            clear hT
            go_wp2_with fail
            go_roundw
            case rel => exact ⟨k + 1, by omega, by go_num, hT2, BR⟩
            case measure => simp [intOf]; omega
      · obtain rfl : k = n := by omega
        clear hlt
        go_wp2_with fail
        go_ret2
        exact ⟨_, rfl, hT.out, BB⟩
  · have R1 : Hid (apI ps l = []) := Lib.hid (by unfold apI; rw [if_neg q])
    have q1 : (jcode ps l [] != 0) = true := by simpa using q
    rw [R1.out]
    replace HC := Lib.hid HC
    clear q R1
    generalize jcode ps l [] = cc at *
    go_enter Try.func43, Try.ntmps43
    go_wp2_with fail
    refine HC.out.mono ?_
    rintro e w1 ⟨rfl, b1⟩
    go_wp2_with fail
    go_ret2
    exact ⟨_, rfl, tab_nil _ _, b1⟩
end Go.Proofs.Ythnilifepiihjaa

/-
  What the law on groups needs, in plain words: pairs lie in one group, groups hold everybody once, above the least safe limit nobody is alike.
  Conditions: none of its own; every lemma names what it takes.
-/
namespace Go.Proofs.Ythnilifepiihjaa
open Go.RowKit
set_option linter.unusedVariables false

theorem prow_mem {al : Nat → Nat → Bool} {i k : Nat} {pr : List Int} (h : pr ∈ prow al i k) : ∃ j : Nat, j < k ∧ i < j ∧ al i j = true ∧ pr = [(i : Int), (j : Int)] := by
  unfold prow at h
  obtain ⟨j, hj, rfl⟩ := List.mem_map.1 h
  obtain ⟨h1, h2⟩ := List.mem_filter.1 hj
  rw [Bool.and_eq_true, decide_eq_true_eq] at h2
  exact ⟨j, List.mem_range.1 h1, h2.1, h2.2, rfl⟩
theorem prs_mem {al : Nat → Nat → Bool} {n : Nat} {pr : List Int} : ∀ i, pr ∈ prs al n i → ∃ x y : Nat, x < i ∧ y < n ∧ al x y = true ∧ pr = [(x : Int), (y : Int)]
  | 0, h => by simp [prs] at h
  | i + 1, h => by
    rcases List.mem_append.1 h with h | h
    · obtain ⟨x, y, h1, h2⟩ := prs_mem i h
      exact ⟨x, y, by omega, h2⟩
    · obtain ⟨j, h1, _, h3, h4⟩ := prow_mem h
      exact ⟨i, j, by omega, h1, h3, h4⟩
theorem prow_none {al : Nat → Nat → Bool} {i k : Nat} (h : ∀ j, i < j → j < k → al i j = false) : prow al i k = [] := by
  cases hp : prow al i k with
  | nil => rfl
  | cons pr t =>
    obtain ⟨j, h1, h2, h3, _⟩ := prow_mem (pr := pr) (by rw [hp]; exact List.mem_cons_self)
    rw [h j h2 h1] at h3
    cases h3
theorem prs_none {al : Nat → Nat → Bool} {n : Nat} (h : ∀ i j, i < j → j < n → al i j = false) : ∀ i, prs al n i = []
  | 0 => rfl
  | i + 1 => by
    rw [prs, prs_none h i, prow_none fun j h1 h2 => h i j h1 h2]
    rfl
/-- Above the least safe limit nobody is alike. -/
theorem safe_ok {ps : List Per} (h : lsiE ps = 0) : jcode ps (lsiI ps) [] = 0 ∧ apI ps (lsiI ps) = [] := by
  unfold lsiE at h
  by_cases hB : persB ps = true
  · rw [if_pos hB] at h
    by_cases hm : amx ps ps.length = 100
    · rw [if_pos hm] at h; cases h
    · have e : lsiI ps = amx ps ps.length + 1 := by unfold lsiI; rw [if_pos hB, if_neg hm]
      have hb := amx_bd ps ps.length
      have hj : jcode ps (lsiI ps) [] = 0 := jcode_ok.2 ⟨hB, by omega, by simp⟩
      refine ⟨hj, ?_⟩
      unfold apI
      rw [if_pos hj]
      refine prs_none (fun i j hi hj => ?_) _
      unfold alB
      rw [decide_eq_false_iff_not, e, lik_comm]
      have := amx_le ps ps.length j i hj hi
      omega
  · rw [if_neg hB] at h; cases h
theorem natI_mem {L : List Nat} {x : Nat} : (x : Int) ∈ natI L ↔ x ∈ L := by
  unfold natI
  rw [List.mem_map]
  constructor
  · rintro ⟨y, hy, e⟩
    have : y = x := by omega
    exact this ▸ hy
  · intro h
    exact ⟨x, h, rfl⟩
/-- The sum of the lengths of the first k. -/
def totTo (g : List (List Int)) (k : Nat) : Nat := tot (g.take k)
theorem totTo_zero (g : List (List Int)) : totTo g 0 = 0 := rfl
theorem totTo_succ {g : List (List Int)} {k : Nat} {xs : List Int} (h : g[k]? = some xs) : totTo g (k + 1) = totTo g k + xs.length := by
  unfold totTo tot
  rw [List.take_add_one, h, List.map_append, List.sum_append]
  simp
theorem totTo_all (g : List (List Int)) : totTo g g.length = tot g := by unfold totTo; rw [List.take_length]
theorem totTo_le (g : List (List Int)) (k : Nat) : totTo g k ≤ tot g := by
  unfold totTo tot
  have e : (g.map List.length).sum = ((g.take k).map List.length).sum + ((g.drop k).map List.length).sum := by
    rw [← List.sum_append, ← List.map_append, List.take_append_drop]
  omega
/-- What is known of groups. -/
structure GroupsOk (ps : List Per) (l : Int) (g p : List (List Int)) (j : List Per) (n : Int) : Prop where
  few : ps.length ≤ 12
  all : tot g = ps.length
  len : j.length = g.length
  num : n = (ps.length : Int) - (g.length : Int)
  same : ∀ (i k : Nat) (xs pr : List Int), g[i]? = some xs → p[k]? = some pr → ∃ x y : Int, pr = [x, y] ∧ decide (x ∈ xs) = decide (y ∈ xs)
theorem groups_ok {ps : List Per} {l : Int} (h : jcode ps l [] = 0) : GroupsOk ps l (gpI ps l) (apI ps l) (jlI ps l) (cdI ps l) := by
  have hB := (jcode_ok.1 h).1
  have e1 : gpI ps l = grpsL (adjB ps l) ps.length := by unfold gpI; rw [if_pos h]
  have e2 : apI ps l = prs (alB ps l) ps.length ps.length := by unfold apI; rw [if_pos h]
  have e3 : jlI ps l = jl ps (grpsL (adjB ps l) ps.length) (grpsL (adjB ps l) ps.length).length := by unfold jlI; rw [if_pos h]
  have e4 : cdI ps l = (ps.length : Int) - ((grpsL (adjB ps l) ps.length).length : Int) := by unfold cdI; rw [if_pos h]
  refine ⟨persB_len hB, ?_, by rw [e3, e1, jl_len _ _ (Nat.le_refl _)], by rw [e4, e1], fun i k xs pr hg hp => ?_⟩
  · rw [e1]
    unfold tot grpsL
    rw [List.map_map, show (List.length ∘ natI) = (List.length : List Nat → Nat) from funext fun L => natI_len L]
    exact grps_sum (adjB_comm ps l)
  · rw [e2] at hp
    obtain ⟨x, y, hx, hy, ha, rfl⟩ := prs_mem _ (List.mem_of_getElem? hp)
    rw [e1] at hg
    unfold grpsL grps at hg
    rw [List.map_map] at hg
    obtain ⟨a, hka, rfl⟩ := List.mem_map.1 (List.mem_of_getElem? hg)
    have han := (mem_kprs.1 hka).1
    refine ⟨x, y, rfl, ?_⟩
    have hm := mem_adj (adj := adjB ps l) (n := ps.length) (adjB_comm ps l) han hx hy ha
    rw [decide_eq_decide]
    show ((x : Nat) : Int) ∈ natI (grp (adjB ps l) ps.length a) ↔ ((y : Nat) : Int) ∈ natI (grp (adjB ps l) ps.length a)
    rw [natI_mem, natI_mem, mem_grp, mem_grp, hm]
    exact ⟨fun h => ⟨hy, h.2⟩, fun h => ⟨hx, h.2⟩⟩
end Go.Proofs.Ythnilifepiihjaa

/-
  A region that draws its order, by one fact for each slot, where one operation may consume a slot (an append that writes on in a row).
  Conditions: a slot's fact stands while the region's other operations run, until the one that consumes it; the last operation waits for all others; no guards, no selects.
-/
namespace Go.Proofs.Ythnilifepiihjaa
open Go.RowKit
set_option linter.unusedVariables false

/-- Who consumes what is right. -/
def consGood (ops : Array Oper) (m : Nat) (pre : List Nat) (cons : Nat → Option Nat) : Bool :=
  ((List.range m).all fun i => match ops[i]? with
    | none => false
    | some o => (slotsOf o).all fun t => cons t == none || cons t == some i) && pre.all fun t => cons t == none
/-- Operation i comes after operation j. -/
def laterOp (ops : Array Oper) : Nat → Nat → Nat → Bool
  | 0, _, _ => false
  | f + 1, i, j => match ops[i]? with
    | some o => o.after.any fun e => Region.binds .any e && (e.on == j || laterOp ops f e.on j)
    | none => false
theorem laterOp_listed {ops : Array Oper} {listed : Array Bool} {m : Nat} (hb : ∀ i o, i ≤ m → ops[i]? = some o → ∀ e ∈ o.after, e.on < i) (hc : ∀ i o, i < m → ops[i]? = some o → listed.getD i false = true → ∀ e ∈ o.after, Region.binds .any e = true → listed.getD e.on false = true) :
    ∀ (f i j : Nat) (o : Oper), i ≤ m → ops[i]? = some o → (∀ e ∈ o.after, Region.binds .any e = true → listed.getD e.on false = true) → laterOp ops f i j = true → listed.getD j false = true := by
  intro f
  induction f with
  | zero => intro i j o _ _ _ h; cases h
  | succ f ih =>
    intro i j o hi ho hd h
    unfold laterOp at h
    rw [ho] at h
    simp only at h
    rw [Array.any_eq_true'] at h
    obtain ⟨e, he, h⟩ := h
    rw [Bool.and_eq_true, Bool.or_eq_true] at h
    have hl := hd e he h.1
    rcases h.2 with h2 | h2
    · have : e.on = j := by simpa using h2
      rw [← this]; exact hl
    · have hlt := hb i o hi ho e he
      cases hoe : ops[e.on]? with
      | none => cases f <;> simp [laterOp, hoe] at h2
      | some oe => exact ih e.on j oe (by omega) hoe (fun e' he' hb' => hc e.on oe (by omega) hoe hl e' he' hb') h2
/-- The fact of slot t must stand while operation i runs. -/
def mustStand (ops : Array Oper) (m : Nat) (cons : Nat → Option Nat) (i t : Nat) : Bool :=
  cons t != some i && (match cons t with | none => true | some j => !laterOp ops m i j) &&
  (List.range m).all fun j => ((ops[j]?).bind (·.dst)) != some t || (j != i && !laterOp ops m j i)
theorem mustStand_mk {ops : Array Oper} {m : Nat} {cons : Nat → Option Nat} {i t : Nat} (h1 : cons t ≠ some i) (h2 : ∀ j, cons t = some j → laterOp ops m i j = false)
    (h3 : ∀ j, j < m → ((ops[j]?).bind (·.dst)) = some t → j ≠ i ∧ laterOp ops m j i = false) : mustStand ops m cons i t = true := by
  unfold mustStand
  rw [Bool.and_eq_true, Bool.and_eq_true, List.all_eq_true]
  refine ⟨⟨by simpa using h1, ?_⟩, fun j hj => ?_⟩
  · split
    · rfl
    · rename_i j hj
      rw [h2 j hj]
      rfl
  · by_cases hd : ((ops[j]?).bind (·.dst)) = some t
    · obtain ⟨h4, h5⟩ := h3 j (List.mem_range.1 hj) hd
      rw [h5, Bool.or_eq_true, Bool.and_eq_true]
      exact .inr ⟨by simpa using h4, rfl⟩
    · rw [Bool.or_eq_true]
      exact .inl (by simpa using hd)
section
variable {P : Program} {ops : Array Oper} {Q : Exit → Act → World → Prop} {F : Nat → World → Value → Prop} {I : World → Prop} {R : Nat → World → World → Prop} {m n : Nat} {pre : List Nat} {cons : Nat → Option Nat}
/-- Each operation does what its slot's fact says. -/
def StepsU (P : Program) (F : Nat → World → Value → Prop) (I : World → Prop) (R : Nat → World → World → Prop) (n : Nat) : Nat → List Oper → Prop
  | _, [] => True
  | k, o :: os => (∀ (f : Nat → Value) (w : World), I w → (∀ t ∈ slotsOf o, F t w (f t)) → wpList P #[] (LeftBy F I (R k) (o.dst.getD 0) w) [o] ⟨litAll n f, []⟩ w) ∧ StepsU P F I R n (k + 1) os
theorem StepsU.at_ : ∀ {os : List Oper} {k : Nat}, StepsU P F I R n k os → ∀ {i : Nat} {o : Oper}, os[i]? = some o → ∀ (f : Nat → Value) (w : World), I w → (∀ t ∈ slotsOf o, F t w (f t)) → wpList P #[] (LeftBy F I (R (k + i)) (o.dst.getD 0) w) [o] ⟨litAll n f, []⟩ w
  | [], _, _, i, o, h => by simp at h
  | q :: os, k, h, 0, o, hi => by
    simp at hi
    subst hi
    exact h.1
  | q :: os, k, h, i + 1, o, hi => by
    have := StepsU.at_ h.2 (i := i) (o := o) (by simpa using hi)
    rw [show k + (i + 1) = k + 1 + i by omega]
    exact this
/-- The state among the region's operations. -/
structure RegU (ops : Array Oper) (F : Nat → World → Value → Prop) (I : World → Prop) (pre : List Nat) (cons : Nat → Option Nat) (m : Nat) (a0 : Act) (listed : Array Bool) (a : Act) (w : World) : Prop where
  inv : I w
  defers : a.defers = a0.defers
  size : a.tmps.size = a0.tmps.size
  same : ∀ t, t ∉ dstsOf ops m → a.tmps[t]? = a0.tmps[t]?
  pre_ : ∀ t ∈ pre, F t w (a.tmps.getD t undef)
  closed : ∀ i o, i < m → ops[i]? = some o → listed.getD i false = true → ∀ e ∈ o.after, Region.binds .any e = true → listed.getD e.on false = true
  done : ∀ i o d, i < m → ops[i]? = some o → o.dst = some d → listed.getD i false = true → (∀ j, cons d = some j → listed.getD j true = false) → F d w (a.tmps.getD d undef)

theorem regAnyU {a0 : Act} (hg : regGood ops m pre n = true) (hn : a0.tmps.size = n) (hp : ∀ t ∈ pre, t < n)
    (hc : consGood ops m pre cons = true) (hF : ∀ i t w w' v, mustStand ops m cons i t = true → F t w v → I w → R i w w' → F t w' v)
    (hstep : StepsU P F I R n 0 (ops.toList.take m))
    (hend : ∀ (f : Nat → Value) w, I w → (∀ d ∈ dstsOf ops m, (cons d = none ∨ cons d = some m) → F d w (f d)) → ∀ o, ops[m]? = some o → wpList P ops Q [o] ⟨(setSlots a0.tmps.toList f (dstsOf ops m)).toArray, a0.defers⟩ w) :
    ∀ (fuel : Nat) (listed : Array Bool) (a : Act) (w : World), listed.size = m + 1 → unl listed.toList = fuel → listed.getD m true = false → RegU ops F I pre cons m a0 listed a w →
      wpAny P .any ops Q fuel listed a w := by
  unfold regGood at hg
  rw [Bool.and_eq_true, Bool.and_eq_true, Bool.and_eq_true] at hg
  obtain ⟨⟨⟨hsz, hall⟩, hlast⟩, hback⟩ := hg
  rw [List.all_eq_true] at hback
  have hbk : ∀ i o, i ≤ m → ops[i]? = some o → ∀ e ∈ o.after, e.on < i := fun i o hi ho e he => by
    have hb := hback i (List.mem_range.2 (by omega))
    rw [ho] at hb
    simp only [Array.all_eq_true', decide_eq_true_eq] at hb
    exact hb e he
  unfold consGood at hc
  rw [Bool.and_eq_true, List.all_eq_true, List.all_eq_true] at hc
  obtain ⟨hcs, hcp⟩ := hc
  replace hsz : ops.size = m + 1 := by simpa using hsz
  rw [List.all_eq_true] at hall
  intro fuel
  induction fuel with
  | zero =>
    intro listed a w hl hu hm hst
    have := unl_zero listed.toList hu m
    rw [Array.getD_eq_getD_getElem?] at hm
    rw [List.getD_eq_getElem?_getD, Array.getElem?_toList, hm] at this
    cases this
  | succ fuel ih =>
    intro listed a w hl hu hm hst
    have hmr : listed[m]? = some false := by
      rw [Array.getD_eq_getD_getElem?] at hm
      cases h : listed[m]? with
      | none => rw [h] at hm; cases hm
      | some b => rw [h] at hm; simp at hm; rw [hm]
    obtain ⟨om, hom⟩ : ∃ o, ops[m]? = some o := ⟨ops[m]'(by omega), Array.getElem?_eq_getElem (by omega)⟩
    rw [hom] at hlast
    simp only [Bool.and_eq_true, List.all_eq_true, List.mem_range, Array.any_eq_true'] at hlast
    have stepAt : ∀ i ∈ Region.ready .any ops listed, wpOp P ops Q i (wpAny P .any ops Q fuel (listed.setIfInBounds i true)) a w := by
      intro i hi
      obtain ⟨hun, o, ho, hdep⟩ := mem_ready.1 hi
      have hilt : i < m + 1 := by rw [← hsz]; exact (Array.getElem?_eq_some_iff.1 ho).1
      have hif : listed.toList[i]? = some false := by
        rw [Array.getElem?_toList]
        rw [Array.getD_eq_getD_getElem?] at hun
        cases h : listed[i]? with
        | none => rw [h] at hun; cases hun
        | some b => rw [h] at hun; simp at hun; rw [hun]
      have hu' : unl (listed.setIfInBounds i true).toList = fuel := by
        rw [Array.toList_setIfInBounds]
        have := unl_set _ _ hif
        omega
      by_cases him : i = m
      · subst him
        rw [hom] at ho
        injection ho with ho
        subst ho
        have hz : fuel = 0 := by
          by_cases hf : fuel = 0
          · exact hf
          · exfalso
            have hallt : ∀ j : Nat, (listed.setIfInBounds i true).toList[j]? = some false → False := by
              intro j hj
              rw [Array.getElem?_toList] at hj
              by_cases hji : j = i
              · subst hji
                rw [Array.getElem?_setIfInBounds_self] at hj
                split at hj <;> cases hj
              · rw [Array.getElem?_setIfInBounds_ne (fun e => hji e.symm)] at hj
                have hjl : j < i := by
                  have := (Array.getElem?_eq_some_iff.1 hj).1
                  omega
                obtain ⟨e, he, hb, hon⟩ := hlast.2 j hjl
                have hon : e.on = j := by simpa using hon
                have := hdep e he hb
                rw [hon, Array.getD_eq_getD_getElem?, hj] at this
                cases this
            have key : ∀ l : List Bool, (∀ j : Nat, l[j]? = some false → False) → unl l = 0 := by
              intro l
              induction l with
              | nil => intro _; rfl
              | cons b l ihl =>
                intro h
                have hb : b = true := by
                  cases b with
                  | true => rfl
                  | false => exact (h 0 rfl).elim
                have := ihl fun j hj => h (j + 1) (by simpa using hj)
                simp [unl, hb, this]
            have := key _ hallt
            omega
        have hdone : ∀ d ∈ dstsOf ops i, (cons d = none ∨ cons d = some i) → F d w (a.tmps.getD d undef) := by
          intro d hd hcd
          obtain ⟨j, oj, hj, hoj, hdj⟩ := mem_dsts hd
          refine hst.done j oj d hj hoj hdj ?_ (fun k hk => by
            rcases hcd with h | h
            · rw [h] at hk; cases hk
            · rw [h] at hk; injection hk with hk; rw [← hk]; exact hun)
          obtain ⟨e, he, hb, hon⟩ := hlast.2 j hj
          have hon : e.on = j := by simpa using hon
          have := hdep e he hb
          rw [hon] at this
          exact this
        have hE := hend (fun t => a.tmps.getD t undef) w hst.inv hdone om hom
        have hae : (⟨(setSlots a0.tmps.toList (fun t => a.tmps.getD t undef) (dstsOf ops i)).toArray, a0.defers⟩ : Act) = a := by
          obtain ⟨tm, df⟩ := a
          have h1 := hst.defers
          have h2 := hst.size
          have h3 := hst.same
          simp only at h1 h2 h3
          subst h1
          congr 1
          refine Array.ext_getElem? fun t => ?_
          simp only [List.getElem?_toArray]
          by_cases htl : t < a0.tmps.size
          · rw [setSlots_at _ _ _ _ (by simpa using htl)]
            split
            · rw [Array.getElem?_eq_getElem (by omega)]
              simp [Array.getD, show t < tm.size by omega]
            · rename_i hnd
              rw [h3 t hnd, Array.getElem?_toList]
          · rw [List.getElem?_eq_none (by rw [setSlots_len]; simp; omega), Array.getElem?_eq_none (by omega)]
        rw [hae] at hE
        unfold wpList at hE
        unfold wpOp
        simp only [hom]
        have hw : Region.wanted om (yielded ops a.tmps) = true := by
          have : om.guard = none := by simpa using hlast.1
          simp [Region.wanted, this]
        rw [if_pos hw] at hE ⊢
        have hrd : Region.ready .any ops (listed.setIfInBounds i true) = [] := by
          rw [hz] at hu'
          have h0 := unl_zero _ hu'
          refine List.eq_nil_iff_forall_not_mem.2 fun j hj => ?_
          have := (mem_ready.1 hj).1
          have h1 := h0 j
          rw [List.getD_eq_getElem?_getD, Array.getElem?_toList] at h1
          rw [Array.getD_eq_getD_getElem?, h1] at this
          cases this
        rcases hE with hE | hE
        · refine .inl (Oper.wp_mono (fun a' w' hq => ?_) hE)
          subst hz
          exact ⟨hrd, hq⟩
        · exact .inr hE
      · have him' : i < m := by omega
        have hgi := hall i (List.mem_range.2 him')
        rw [ho] at hgi
        simp only [Bool.and_eq_true, List.all_eq_true] at hgi
        obtain ⟨⟨⟨hgn, hns⟩, hslots⟩, hdst⟩ := hgi
        have hgn' : o.guard = none := by simpa using hgn
        cases hd : o.dst with
        | none => rw [hd] at hdst; cases hdst
        | some d =>
          rw [hd] at hdst
          simp only [Bool.and_eq_true, decide_eq_true_eq, Bool.not_eq_true', List.all_eq_true, List.mem_range, Bool.or_eq_true, beq_iff_eq, bne_iff_ne] at hdst
          obtain ⟨⟨hdn, hdp⟩, hdu⟩ := hdst
          have hfacts : ∀ t ∈ slotsOf o, t < n ∧ F t w (a.tmps.getD t undef) := by
            intro t ht
            have := hslots t ht
            rw [Bool.or_eq_true] at this
            rcases this with h | h
            · have h' : t ∈ pre := by simpa using h
              exact ⟨hp t h', hst.pre_ t h'⟩
            · rw [Array.any_eq_true'] at h
              obtain ⟨e, he, h⟩ := h
              simp only [Bool.and_eq_true, decide_eq_true_eq, beq_iff_eq] at h
              obtain ⟨⟨hb, hem⟩, hed⟩ := h
              cases hoe : ops[e.on]? with
              | none => rw [hoe] at hed; cases hed
              | some oe =>
                rw [hoe] at hed
                simp only [Option.bind_some] at hed
                refine ⟨?_, hst.done e.on oe t hem hoe hed (hdep e he hb) (fun k hk => by
                  have hct := hcs i (List.mem_range.2 him')
                  rw [ho] at hct
                  simp only [List.all_eq_true, Bool.or_eq_true, beq_iff_eq] at hct
                  rcases hct t ht with h | h
                  · rw [h] at hk; cases hk
                  · rw [h] at hk; injection hk with hk; rw [← hk]; exact hun)⟩
                have hge := hall e.on (List.mem_range.2 hem)
                rw [hoe] at hge
                simp only [Bool.and_eq_true] at hge
                have h2 := hge.2
                rw [hed] at h2
                simp only [Bool.and_eq_true, decide_eq_true_eq] at h2
                exact h2.1.1
          have hS := StepsU.at_ hstep (i := i) (o := o) (by rw [List.getElem?_take_of_lt him', Array.getElem?_toList]; exact ho) (fun t => a.tmps.getD t undef) w hst.inv (fun t ht => (hfacts t ht).2)
          rw [Nat.zero_add] at hS
          unfold wpOp
          simp only [ho]
          rw [if_pos (by simp [Region.wanted, hgn'])]
          refine .inl (wp_of_lit hgn' hns hd hdn (fun t ht => (hfacts t ht).1) hS fun v w' h1 h2 h3 => ?_)
          refine ih _ _ _ (by simpa using hl) hu' ?_ ⟨h2, ?_, ?_, ?_, ?_, ?_, ?_⟩
          · rw [Array.getD_eq_getD_getElem?, Array.getElem?_setIfInBounds_ne him, hmr]
            rfl
          · rw [hd]; exact hst.defers
          · rw [hd]; simp [Act.put, hst.size]
          · intro t ht
            rw [hd]
            have : d ≠ t := by rintro rfl; exact ht (dsts_mem him' ho hd)
            simp only [Act.put]
            rw [Array.getElem?_setIfInBounds_ne this]
            exact hst.same t ht
          · intro t ht
            rw [hd]
            have : d ≠ t := by
              rintro rfl
              have : pre.contains d = true := by simpa using ht
              rw [hdp] at this
              cases this
            simp only [Act.put]
            rw [Array.getD_eq_getD_getElem?, Array.getElem?_setIfInBounds_ne this, ← Array.getD_eq_getD_getElem?]
            refine hF i t w w' _ (mustStand_mk (by have := hcp t ht; simp only [beq_iff_eq] at this; rw [this]; exact fun e => by cases e) (fun j hj => by have := hcp t ht; simp only [beq_iff_eq] at this; rw [this] at hj; cases hj) fun j hj hjd => ?_) (hst.pre_ t ht) hst.inv h3
            have hgj := hall j (List.mem_range.2 hj)
            cases hoj : ops[j]? with
            | none => rw [hoj] at hjd; cases hjd
            | some oj =>
              rw [hoj] at hgj hjd
              simp only [Option.bind_some] at hjd
              simp only [Bool.and_eq_true] at hgj
              have h2 := hgj.2
              rw [hjd] at h2
              simp only [Bool.and_eq_true, Bool.not_eq_true'] at h2
              have hpc : pre.contains t = true := by simpa using ht
              rw [h2.1.2] at hpc
              cases hpc
          · intro j oj hj hoj hlj e he hb
            by_cases hji : j = i
            · subst hji
              rw [ho] at hoj
              injection hoj with hoj
              subst hoj
              exact getD_set_true (hdep e he hb)
            · rw [Array.getD_eq_getD_getElem?, Array.getElem?_setIfInBounds_ne (fun e => hji e.symm), ← Array.getD_eq_getD_getElem?] at hlj
              exact getD_set_true (hst.closed j oj hj hoj hlj e he hb)
          · intro j oj dj hj hoj hdj hlj hcj
            rw [hd]
            by_cases hji : j = i
            · subst hji
              rw [ho] at hoj
              injection hoj with hoj
              subst hoj
              rw [hd] at hdj
              injection hdj with hdj
              subst hdj
              simp only [Act.put]
              rw [Array.getD_eq_getD_getElem?, Array.getElem?_setIfInBounds_self_of_lt (by rw [hst.size, hn]; exact hdn)]
              exact h1
            · have hne : d ≠ dj := by
                rintro rfl
                rcases hdu j hj with h | h
                · exact hji h
                · rw [hoj] at h
                  exact h (by simpa using hdj)
              simp only [Act.put]
              rw [Array.getD_eq_getD_getElem?, Array.getElem?_setIfInBounds_ne hne, ← Array.getD_eq_getD_getElem?]
              have hci : cons dj ≠ some i := fun e => by
                have := hcj i e
                rw [Array.getD_eq_getD_getElem?, Array.getElem?_setIfInBounds_self] at this
                split at this <;> cases this
              refine hF i dj w w' _ (mustStand_mk hci (fun k hk => by
                  by_cases hlat : laterOp ops m i k = true
                  · have hk1 := laterOp_listed (listed := listed) hbk hst.closed m i k o (by omega) ho hdep hlat
                    have hk2 := hcj k hk
                    have hki : k ≠ i := fun e => by rw [e] at hk; exact hci hk
                    rw [Array.getD_eq_getD_getElem?, Array.getElem?_setIfInBounds_ne (fun e => hki e.symm)] at hk2
                    rw [Array.getD_eq_getD_getElem?] at hk1
                    cases hq : listed[k]? with
                    | none => rw [hq] at hk1; cases hk1
                    | some bq => rw [hq] at hk1 hk2; simp at hk1 hk2; rw [hk1] at hk2; cases hk2
                  · simpa using hlat) fun k hk hkd => ?_) (hst.done j oj dj hj hoj hdj ?_ (fun k hk => by
                have := hcj k hk
                have hki : k ≠ i := fun e => by rw [e] at hk; exact hci hk
                rw [Array.getD_eq_getD_getElem?, Array.getElem?_setIfInBounds_ne (fun e => hki e.symm), ← Array.getD_eq_getD_getElem?] at this
                exact this)) hst.inv h3
              · have hkj : k = j := by
                  have hgj := hall j (List.mem_range.2 hj)
                  rw [hoj] at hgj
                  simp only [Bool.and_eq_true] at hgj
                  have h2 := hgj.2
                  rw [hdj] at h2
                  simp only [Bool.and_eq_true, List.all_eq_true, List.mem_range, Bool.or_eq_true, beq_iff_eq, bne_iff_ne] at h2
                  rcases h2.2 k hk with h | h
                  · exact h
                  · exact absurd hkd h
                subst hkj
                refine ⟨hji, ?_⟩
                have hlj0 := hlj
                rw [Array.getD_eq_getD_getElem?, Array.getElem?_setIfInBounds_ne (fun e => hji e.symm), ← Array.getD_eq_getD_getElem?] at hlj0
                by_cases hlat : laterOp ops m k i = true
                · have hk1 := laterOp_listed (listed := listed) hbk hst.closed m k i oj (by omega) hoj (hst.closed k oj hj hoj hlj0) hlat
                  rw [Array.getD_eq_getD_getElem?] at hun hk1
                  cases hq : listed[i]? with
                  | none => rw [hq] at hk1; cases hk1
                  | some bq => rw [hq] at hk1 hun; simp at hk1 hun; rw [hk1] at hun; cases hun
                · simpa using hlat
              · rw [Array.getD_eq_getD_getElem?, Array.getElem?_setIfInBounds_ne (fun e => hji e.symm), ← Array.getD_eq_getD_getElem?] at hlj
                exact hlj
    have hmin : ∀ k, k ≤ m → listed.getD k true = false → ∃ j, j ∈ Region.ready .any ops listed := by
      intro k
      induction k using Nat.strongRecOn with
      | ind k ihk =>
        intro hk hkf
        by_cases hrd : k ∈ Region.ready .any ops listed
        · exact ⟨k, hrd⟩
        · have hks : k < ops.size := by omega
          have hb := hback k (List.mem_range.2 (by omega))
          rw [Array.getElem?_eq_getElem hks] at hb
          simp only [Array.all_eq_true', decide_eq_true_eq] at hb
          have : ¬ ∀ e ∈ (ops[k]'hks).after, Region.binds .any e = true → listed.getD e.on false = true := fun hh => hrd (mem_ready.2 ⟨hkf, _, Array.getElem?_eq_getElem hks, hh⟩)
          simp only [Classical.not_forall] at this
          obtain ⟨e, he, hbd, hno⟩ := this
          have hlt := hb e he
          refine ihk e.on hlt (by omega) ?_
          have hes : e.on < listed.size := by omega
          rw [Array.getD_eq_getD_getElem?, Array.getElem?_eq_getElem hes] at hno ⊢
          simpa using hno
    refine ⟨fun hr => ?_, stepAt⟩
    obtain ⟨j, hj⟩ := hmin m (Nat.le_refl _) hm
    rw [hr] at hj
    cases hj
/-- The region, by its slots' facts. -/
theorem wp_region_use {id : Nat} {a0 : Act} {w0 : World} (hmo : P.follows .mixedOrders = true) (hg : regGood ops m pre n = true) (hn : a0.tmps.size = n) (hp : ∀ t ∈ pre, t < n)
    (hc : consGood ops m pre cons = true) (hF : ∀ i t w w' v, mustStand ops m cons i t = true → F t w v → I w → R i w w' → F t w' v)
    (hI : I w0.drew) (hpre : ∀ t ∈ pre, F t w0.drew (a0.tmps.getD t undef))
    (hstep : StepsU P F I R n 0 (ops.toList.take m))
    (hend : ∀ (f : Nat → Value) w, I w → (∀ d ∈ dstsOf ops m, (cons d = none ∨ cons d = some m) → F d w (f d)) → ∀ o, ops[m]? = some o → wpList P ops Q [o] ⟨(setSlots a0.tmps.toList f (dstsOf ops m)).toArray, a0.defers⟩ w) :
    (Code.region id ops true).wp P Q a0 w0 := by
  have hsz : ops.size = m + 1 := by
    unfold regGood at hg
    rw [Bool.and_eq_true, Bool.and_eq_true, Bool.and_eq_true] at hg
    simpa using hg.1.1.1
  refine wp_region_any hmo (regAnyU hg hn hp hc hF hstep hend _ _ _ _ (by simp [hsz]) ?_ ?_ ⟨hI, rfl, rfl, fun _ _ => rfl, hpre, fun i o hi ho hl => ?_, fun i o d hi ho hd hl _ => ?_⟩)
  · rw [Array.toList_replicate, unl_rep]
  · simp [hsz, Array.getD_eq_getD_getElem?]
  · exfalso
    rw [Array.getD_eq_getD_getElem?, Array.getElem?_replicate] at hl
    split at hl <;> cases hl
  · exfalso
    rw [Array.getD_eq_getD_getElem?, Array.getElem?_replicate] at hl
    split at hl <;> cases hl
/-- A move. -/
theorem stepU_move {d s T : Nat} {pos : String} {after : Array Edge} {k : Nat} (hd : d < n) (hs : s < n) (hFF : ∀ w v, F s w v → F d w v) (hR : ∀ w, R k w w) :
    ∀ (f : Nat → Value) (w : World), I w → (∀ t ∈ slotsOf ⟨some d, .move (.tmp s), T, pos, after, none⟩, F t w (f t)) → wpList P #[] (LeftBy F I (R k) d w) [⟨some d, .move (.tmp s), T, pos, after, none⟩] ⟨litAll n f, []⟩ w := step_move hd hs hFF hR
end
end Go.Proofs.Ythnilifepiihjaa

/-
  A person put in among persons: l04Insert.
  Conditions: each lemma names its own.
-/
namespace Go.Proofs.Ythnilifepiihjaa
open Go.RowKit
set_option linter.unusedVariables false

/-- An own row of persons, in a block. -/
def OwnP (base : Nat) (v : Value) (ps : List Per) (w : World) : Prop := w.ownsRow base 35 5 v ps.length (ps.flatMap perC) ∧ v ≠ .slice none 0 0
theorem OwnP.below {base : Nat} {v : Value} {s : List Per} {w w' : World} (h : OwnP base v s w) (hb : Below w.heap.size w w') : OwnP base v s w' := ⟨own_below h.1 hb, h.2⟩
theorem OwnP.persons {base : Nat} {v : Value} {s : List Per} {w : World} (h : OwnP base v s w) : Persons w v s := Row.own h.1
theorem OwnP.mono {base base' : Nat} {v : Value} {s : List Per} {w : World} (h : OwnP base v s w) (hb : base' ≤ base) : OwnP base' v s w := ⟨own_mono h.1 hb, h.2⟩
theorem OwnP.past {base g : Nat} {v : Value} {s : List Per} {w w' : World} (h : OwnP base v s w) (hp : Past g w w') (hg : g < base) : OwnP base v s w' := ⟨own_past h.1 hp hg, h.2⟩
theorem OwnP.form {base : Nat} {v : Value} {s : List Per} {w : World} (h : OwnP base v s w) : ∃ lb c, v = .slice (some ⟨lb, 0, none⟩) s.length c ∧ base ≤ lb ∧ lb < w.heap.size ∧ s.length ≤ c ∧ c ≤ maxLen ∧
    (∀ j u, (s.flatMap perC)[j]? = some u → w.cell? ⟨lb, j, none⟩ = some u) := by
  obtain ⟨h1, h2⟩ := h
  have hc := fun g (hg : v.ownBlock = some g) => h1.cells hg
  rcases h1.2 with ⟨hv, _⟩ | ⟨lb, c, cur, rfl, hbl, hcell, hnc, hcm, _⟩
  · exact absurd hv h2
  · refine ⟨lb, c, rfl, hbl, (Array.getElem?_eq_some_iff.1 hcell).1, hnc, hcm, fun j u hu => ?_⟩
    have := hc lb rfl j u hu
    rwa [Addr.add_lit, Nat.zero_add] at this
theorem cells_at {w : World} {lb : Nat} {ps : List Per} (h : ∀ j u, (ps.flatMap perC)[j]? = some u → w.cell? ⟨lb, j, none⟩ = some u) {k : Nat} {p : Per} (hp : ps[k]? = some p) :
    w.cell? ⟨lb, k * 5, none⟩ = some (.int .i64 p.number) ∧ w.cell? ⟨lb, k * 5 + 1, none⟩ = some (.string p.first) ∧ w.cell? ⟨lb, k * 5 + 2, none⟩ = some (.string p.last) ∧ w.cell? ⟨lb, k * 5 + 3, none⟩ = some (.int .i64 p.born) ∧ w.cell? ⟨lb, k * 5 + 4, none⟩ = some (.int .i64 p.zone) :=
  ⟨h _ _ (flat_at ps k p hp 0 (by omega)), h _ _ (flat_at ps k p hp 1 (by omega)), h _ _ (flat_at ps k p hp 2 (by omega)), h _ _ (flat_at ps k p hp 3 (by omega)), h _ _ (flat_at ps k p hp 4 (by omega))⟩
theorem flat_split (ps : List Per) (k : Nat) : ps.flatMap perC = (ps.take k).flatMap perC ++ (ps.drop k).flatMap perC := by
  rw [← List.flatMap_append, List.take_append_drop]
theorem flat_take {ps : List Per} {k j : Nat} {u : Value} (h : ((ps.take k).flatMap perC)[j]? = some u) : (ps.flatMap perC)[j]? = some u := by
  rw [flat_split ps k, List.getElem?_append_left (List.getElem?_eq_some_iff.1 h).1]
  exact h
theorem flat_drop {ps : List Per} {k j : Nat} {u : Value} (hk : k ≤ ps.length) (h : ((ps.drop k).flatMap perC)[j]? = some u) : (ps.flatMap perC)[k * 5 + j]? = some u := by
  have hl : ((ps.take k).flatMap perC).length = k * 5 := by rw [flat_len, List.length_take, Nat.min_eq_left hk]
  rw [flat_split ps k, List.getElem?_append_right (by omega), hl, show k * 5 + j - k * 5 = j by omega]
  exact h
theorem news_of {w : World} {b : Nat} {cs : Array Value} {t : TypeId} (hb : w.heap[b]? = some (.cells cs t)) : ∀ j u, cs.toList[j]? = some u → w.cell? ((⟨b, 0, none⟩ : Addr).add j) = some u := fun j u hu => by
  rw [Addr.add_lit, cell_of_row _ _ _ _ _ _ hb]
  simpa using hu
theorem one_cell {u : Value} {ps : List Per} (h : u ∈ ps.flatMap perC) : u.oneCell' = true := by
  obtain ⟨p, _, hu⟩ := List.mem_flatMap.1 h
  unfold perC at hu
  simp at hu
  rcases hu with rfl | rfl | rfl | rfl | rfl <;> rfl

/-- An append to an empty own row of no room turns no block. -/
theorem run_append_empty {P : Program} (t ty e : TypeId) (i : TypeInfo) (z : Value) (bytes : Nat) (ht : P.underlying t = some (.slice e)) (hi : P.info? e = some i) (hz : i.zero = some z)
    (hby : i.bytes = bytes) {w w' : World} {v' : Value} {b : Nat} (hb : w.heap[b]? = some (.cells #[] e (0, 0)))
    (a : Addr) (m c : Nat) (news : List Value) (hl : news.length = m * i.size) (hnews : ∀ j u, news[j]? = some u → w.cell? (a.add j) = some u) (h1 : ∀ u ∈ news, u.oneCell' = true)
    (h63 : m ≤ maxLen) (hbytes : m * bytes ≤ 140737488355328)
    (hr : (Builtin.append_ #[t, t] ty #[.slice (some ⟨b, 0, none⟩) 0 0, .slice (some a) m c]).run P w = .ok v' w') : Below w.heap.size w w' := by
  by_cases hm : m = 0
  · subst hm
    have hn : news = [] := List.eq_nil_of_length_eq_zero (by simpa using hl)
    subst hn
    have h := run_append_room (P := P) w t ty e i ht hi b 0 0 #[] hb a 0 c [] hl hnews h1 (Nat.le_refl _) (by simp)
    rw [hr] at h
    injection h with _ h
    subst h
    refine ⟨rfl, rfl, rfl, by simp [World.setRow], fun k hk => ?_⟩
    by_cases hkb : k = b
    · subst hkb
      rw [setRow_heap w k _ _ e _ hb, hb]
      simp
    · exact setRow_other w b k _ (fun e => hkb e)
  · have h := run_append_grow (P := P) w t ty e i z ht hi hz ⟨b, 0, none⟩ 0 0 [] (by simp) (fun j v hj => by simp at hj) a m c news hl hnews (by omega) (by unfold maxLen at h63; omega) (growslice_fits (by omega) (by rw [hby]; simpa using hbytes))
    rw [hr] at h
    injection h with _ h
    subst h
    exact (Below.refl w.heap.size w).drew.alloc (Nat.le_refl _) _
theorem wpList_append_empty {P : Program} {w : World} {ops : Array Oper} {rest : List Oper} {o : Oper} {a : Act} {Q : Exit → Act → World → Prop} (hgd : o.guard = none) (s x : Operand) (t : TypeId)
    (ho : o.op = .call { callee := .builtin .append, args := #[s, x], argTypes := #[t, t] })
    (base : Nat) (e : TypeId) (i : TypeInfo) (z : Value) (size bytes : Nat) (ht : P.underlying t = some (.slice e)) (hi : P.info? e = some i) (hz : i.zero = some z)
    (hsize : i.size = size) (hby : i.bytes = bytes) (hzs : z.cells.size = size) (hsz : 0 < size)
    (b : Nat) (hs : a.eval s = .slice (some ⟨b, 0, none⟩) 0 0) (hb : w.heap[b]? = some (.cells #[] e (0, 0))) (hbb : base ≤ b)
    (ad : Addr) (m c : Nat) (news : List Value) (hx : a.eval x = .slice (some ad) m c) (hl : news.length = m * size) (hnews : ∀ j u, news[j]? = some u → w.cell? (ad.add j) = some u) (h1 : ∀ u ∈ news, u.oneCell' = true)
    (h63 : m ≤ maxLen) (hbytes : m * bytes ≤ 140737488355328) (hbase : base ≤ w.heap.size)
    (h : ∀ v' w', w'.ownsRow base e size v' m news → v' ≠ .slice none 0 0 → Below w.heap.size w w' → wpList P ops Q rest (a.put o.dst v') w') : wpList P ops Q (o :: rest) a w := by
  refine wpList_plain hgd fun _ hK => ?_
  have hown : w.ownsRow base e size (.slice (some ⟨b, 0, none⟩) 0 0) 0 [] := ⟨by simp, .inr ⟨b, 0, #[], rfl, hbb, hb, Nat.le_refl _, Nat.zero_le _, by simp, by simp⟩⟩
  obtain ⟨v', w', hr, h2, h3, h4⟩ := run_append_own (P := P) w base t o.type e i z size bytes ht hi hz hsize hby hzs hsz _ 0 [] hown ad m c news hl hnews h1 (by omega) (by simpa using hbytes) hbase
  have hbl := run_append_empty (P := P) t o.type e i z bytes ht hi hz hby hb ad m c news (by rw [hsize]; exact hl) hnews h1 h63 hbytes hr
  rw [Nat.zero_add, List.nil_append] at h2
  unfold Oper.wp execOp
  simp only [ho, resolve, invoke, builtin, Sem.run_bind, Sem.run_pure, Result.andThen_ok, List.map_toArray, List.map_cons, List.map_nil, hs, hx, hr]
  exact hK _ _ (h v' w' h2 (fun e => by have := (h4.1 e).1; cases this) hbl)

/-- The facts of the slots of the last region. -/
def insF (lb n c k pb : Nat) (ps : List Per) (p : Per) (w1 : World) (i : Nat) (w : World) (v : Value) : Prop :=
  match i with
  | 0 => v = .slice (some ⟨lb, 0, none⟩) n c
  | 38 => v = .slice (some ⟨lb, 0, none⟩) n c
  | 45 => v = .slice (some ⟨lb, 0, none⟩) n c
  | 3 => v = .pointer (some ⟨pb, 0, none⟩)
  | 5 => v = .int .i64 k
  | 39 => v = .int .i64 k
  | 46 => v = .int .i64 k
  | 40 => v = .slice (some ⟨lb, 0, none⟩) k c
  | 42 => v = .agg #[.int .i64 p.number, .string p.first, .string p.last, .int .i64 p.born, .int .i64 p.zone]
  | 47 => ∃ (ad : Addr) (l c' : Nat), v = .slice (some ad) l c' ∧ l = n - k ∧ ∀ j u, ((ps.drop k).flatMap perC)[j]? = some u → (ad.add j).block < w1.heap.size ∧ w1.cell? (ad.add j) = some u
  | 37 => ∃ b, v = .slice (some ⟨b, 0, none⟩) 0 0 ∧ w1.heap.size ≤ b ∧ w.heap[b]? = some (.cells #[] 35)
  | 43 => ∃ b, v = .slice (some ⟨b, 0, none⟩) 1 1 ∧ w.heap[b]? = some (.cells #[.int .i64 p.number, .string p.first, .string p.last, .int .i64 p.born, .int .i64 p.zone] 35)
  | 41 => OwnP w1.heap.size v (ps.take k) w
  | 44 => OwnP w1.heap.size v (ps.take k ++ [p]) w
  | 48 => OwnP w1.heap.size v (ps.take k ++ [p] ++ ps.drop k) w
  | _ => False
/-- Which operation consumes a slot. -/
def insC (t : Nat) : Option Nat := if t = 37 then some 4 else if t = 41 then some 7 else if t = 43 then some 7 else if t = 44 then some 11 else none
def insR (i : Nat) (w w' : World) : Prop := (i ≠ 7 ∧ i ≠ 11) → Below w.heap.size w w'
theorem insR_refl (i : Nat) (w : World) : insR i w w := fun _ => Below.refl _ _
theorem insR_of {i : Nat} {w w' : World} (h : Below w.heap.size w w') : insR i w w' := fun _ => h
theorem block_below {w w' : World} {b : Nat} {x : Obj} (h : w.heap[b]? = some x) (hb : Below w.heap.size w w') : w'.heap[b]? = some x := (hb.block b (Array.getElem?_eq_some_iff.1 h).1).trans h
theorem insF_stands {lb n c k pb : Nat} {ps : List Per} {p : Per} {w1 : World} {ops : Array Oper} (h1 : ∀ t, t = 37 ∨ t = 41 ∨ t = 43 ∨ t = 44 ∨ t = 48 → mustStand ops 12 insC 7 t = false ∧ mustStand ops 12 insC 11 t = false)
    (i t : Nat) (w w' : World) (v : Value) (hs : mustStand ops 12 insC i t = true) (h : insF lb n c k pb ps p w1 t w v) (hR : insR i w w') : insF lb n c k pb ps p w1 t w' v := by
  have key : (t = 37 ∨ t = 41 ∨ t = 43 ∨ t = 44 ∨ t = 48) → Below w.heap.size w w' := fun ht => by
    refine hR ⟨?_, ?_⟩
    · rintro rfl
      rw [(h1 t ht).1] at hs
      cases hs
    · rintro rfl
      rw [(h1 t ht).2] at hs
      cases hs
  unfold insF at h ⊢
  split at h
  case h_11 => obtain ⟨b, e1, e2, e3⟩ := h; exact ⟨b, e1, e2, block_below e3 (key (by simp))⟩
  case h_12 => obtain ⟨b, e1, e3⟩ := h; exact ⟨b, e1, block_below e3 (key (by simp))⟩
  case h_13 => exact h.below (key (by simp))
  case h_14 => exact h.below (key (by simp))
  case h_15 => exact h.below (key (by simp))
  all_goals exact h
theorem flat_snoc (ps : List Per) (p : Per) : (ps ++ [p]).flatMap perC = ps.flatMap perC ++ perC p := by rw [List.flatMap_append]; simp

set_option maxRecDepth 100000 in
set_option maxHeartbeats 16000000 in
theorem insert_c {base : Nat} {v : Value} {ps : List Per} {w : World} (p : Per) (h : OwnP base v ps w) (hb : base ≤ w.heap.size) (hm : ps.length ≤ 1000) :
    Calls Try.prog 100 #[v, perV p] w fun e w' => ∃ u qs, e = .returned u ∧ OwnP base u qs w' ∧ qs.length ≤ ps.length + 1 ∧ (∀ q ∈ qs, q ∈ ps ∨ q = p) ∧ Below w.heap.size w w' := by
  obtain ⟨i0, hi, hz0, hz1, hz2⟩ := info_parts info_iper
  have PA0 := perAt_new w p 35
  have BB : Below w.heap.size w (w.alloc (.cells #[.int .i64 p.number, .string p.first, .string p.last, .int .i64 p.born, .int .i64 p.zone] 35)) := (Below.refl _ _).alloc (Nat.le_refl _) _
  have HO := Lib.hid (h.below BB)
  obtain ⟨lb, c, rfl, hbl, hlb, hcap, hmost, hcells⟩ := (h.below BB).form
  have hlen : Hid (ps.length = ps.length) := Lib.hid rfl
  replace hcells := Lib.hid hcells
  replace hbl := Lib.hid hbl
  have HM := Lib.hid hmost
  unfold maxLen at hmost
  clear h
  generalize hn' : ps.length = n at *
  replace hn' := Lib.hid hn'
  unfold perV
  go_enter Try.func100, Try.ntmps100
  go_wp2_with fail
  generalize (w.alloc (.cells #[.int .i64 p.number, .string p.first, .string p.last, .int .i64 p.born, .int .i64 p.zone] 35)) = w1 at *
  have hbw := Lib.hid BB.size
  replace hlen := Lib.hid BB
  generalize hpbe : w.heap.size = pb at *
  go_loopw [5] (fun i wr => ∃ k m : Nat, k ≤ n ∧ i = .int .i64 k ∧ wr = w1.drewN m) (fun i _ => n - (intOf i).toNat)
  case atStart => exact ⟨0, 0, Nat.zero_le _, rfl, rfl⟩
  case round =>
    obtain ⟨k, m, hk, rfl, rfl⟩ := hrel
    obtain ⟨hpb, c0, c1, c2, c3, c4⟩ := PA0
    by_cases hlt : k < n
    · obtain ⟨q, hq⟩ := per_at (ps := ps) (k := k) (by have := hn'.out; omega)
      obtain ⟨d0, d1, d2, d3, d4⟩ := cells_at hcells.out hq
      clear hq
      by_cases hle : q.number < p.number
      · go_wp2_with fail
        go_quiet (fail)
        go_wp2_with fail
        go_roundw
        case rel => exact ⟨k + 1, _, by omega, by go_num, rfl⟩
        case measure => simp [intOf]; omega
      · by_cases heq : q.number = p.number
        · go_wp2_with fail
          go_quiet (fail)
          go_wp2_with fail
          go_quiet (fail)
          go_wp2_with fail
          go_ret
          exact ⟨_, ps, rfl, HO.out, by rw [hn'.out]; exact Nat.le_succ _, fun q hq => Or.inl hq, below_of_drewN (below_of_drewN (below_of_drewN (by rw [hpbe]; exact BB) _) _) _⟩
        · go_wp2_with fail
          go_quiet (fail)
          go_wp2_with fail
          go_quiet (fail)
          go_wp2_with fail
          refine wp_region_use (F := insF lb n c k pb ps p w1) (I := Below w1.heap.size w1) (R := insR) (m := 12) (n := 49) (pre := [0, 3, 5]) (cons := insC) (by kernel_rfl) (by kernel_rfl) rfl (by simp) (by kernel_rfl) ?hF (below_of_drewN (below_of_drewN (below_of_drewN (Below.refl _ _) _) _) _).drew ?hpre ?hstep ?hend
          case hF =>
            intro i t w3 w4 v hs hv _ hR
            exact insF_stands (fun t ht => by rcases ht with rfl | rfl | rfl | rfl | rfl <;> exact ⟨by kernel_rfl, by kernel_rfl⟩) i t w3 w4 v hs hv hR
          case hpre =>
            intro t ht
            simp only [List.mem_cons, List.not_mem_nil, or_false] at ht
            rcases ht with rfl | rfl | rfl <;> exact rfl
          case hstep =>
            refine (And.intro ?s37 (And.intro (stepU_move (by omega) (by omega) (fun _ _ h => h) (fun _ => insR_refl _ _)) (And.intro (stepU_move (by omega) (by omega) (fun _ _ h => h) (fun _ => insR_refl _ _)) (And.intro ?s40 (And.intro ?s41 (And.intro ?s42 (And.intro ?s43 (And.intro ?s44 (And.intro (stepU_move (by omega) (by omega) (fun _ _ h => h) (fun _ => insR_refl _ _)) (And.intro (stepU_move (by omega) (by omega) (fun _ _ h => h) (fun _ => insR_refl _ _)) (And.intro ?s47 (And.intro ?s48 trivial))))))))))))
            case s37 =>
              intro f w3 hI hF
              simp only [litAll, List.range, List.range.loop, List.map]
              go_wp2_with fail
              exact ⟨rfl, ⟨_, rfl, hI.size, heap_alloc_new w3 _⟩, hI.alloc hI.size _, insR_of ((Below.refl _ _).alloc (Nat.le_refl _) _)⟩
            case s40 =>
              intro f w3 hI hF
              simp only [litAll, List.range, List.range.loop, List.map]
              rw [show f 38 = .slice (some ⟨lb, 0, none⟩) n c from hF 38 (by decide), show f 39 = .int .i64 k from hF 39 (by decide)]
              go_wp2_with fail
              exact ⟨rfl, rfl, hI, insR_refl _ _⟩
            case s41 =>
              intro f w3 hI hF
              simp only [litAll, List.range, List.range.loop, List.map]
              obtain ⟨b, h37, hb1, hb2⟩ := hF 37 (by decide)
              rw [h37, show f 40 = .slice (some ⟨lb, 0, none⟩) k c from hF 40 (by decide)]
              have hn1 := Lib.hid hn'.out
              have hnews : Hid (∀ j u, ((ps.take k).flatMap perC)[j]? = some u → w3.cell? ((⟨lb, 0, none⟩ : Addr).add j) = some u) := Lib.hid fun j u hu => by rw [Addr.add_lit, Nat.zero_add]; exact (hI.cell (p := ⟨lb, j, none⟩) hlb).trans (hcells.out j u (flat_take hu))
              have hl5 : Hid (((ps.take k).flatMap perC).length = k * 5) := Lib.hid (by rw [flat_len, List.length_take, hn'.out]; omega)
              have hk1 : Hid ((ps.take k).length = k) := Lib.hid (by rw [List.length_take, hn'.out]; omega)
              refine wpList_append_empty rfl _ _ 50 rfl w1.heap.size 35 i0 (.agg #[.int .i64 0, .string ByteArray.empty, .string ByteArray.empty, .int .i64 0, .int .i64 0]) 5 56 Try.underlying50 hi hz0 hz1 hz2 rfl (by decide) b rfl hb2 hb1 ⟨lb, 0, none⟩ k c ((ps.take k).flatMap perC) rfl hl5.out hnews.out (fun u hu => one_cell hu) (by unfold maxLen; omega) (by omega) hI.size ?_
              intro v' w4 hown hne hb4
              have hO : Hid (OwnP w1.heap.size v' (ps.take k) w4) := Lib.hid ⟨by rw [hk1.out]; exact hown, hne⟩
              clear hown hnews hl5 hk1
              go_wp2_with fail
              exact ⟨rfl, hO.out, hI.trans (hb4.mono hI.size), insR_of hb4⟩
            case s42 =>
              intro f w3 hI hF
              simp only [litAll, List.range, List.range.loop, List.map]
              rw [show f 3 = .pointer (some ⟨pb, 0, none⟩) from hF 3 (by decide)]
              have e0 := (hI.cell (p := ⟨pb, 0, none⟩) hpb).trans c0
              have e1 := (hI.cell (p := ⟨pb, 1, none⟩) hpb).trans c1
              have e2 := (hI.cell (p := ⟨pb, 2, none⟩) hpb).trans c2
              have e3 := (hI.cell (p := ⟨pb, 3, none⟩) hpb).trans c3
              have e4 := (hI.cell (p := ⟨pb, 4, none⟩) hpb).trans c4
              go_wp2_with fail
              exact ⟨rfl, rfl, hI, insR_refl _ _⟩
            case s43 =>
              intro f w3 hI hF
              simp only [litAll, List.range, List.range.loop, List.map]
              rw [show f 42 = .agg #[.int .i64 p.number, .string p.first, .string p.last, .int .i64 p.born, .int .i64 p.zone] from hF 42 (by decide)]
              go_wp2_with fail
              exact ⟨rfl, ⟨_, rfl, heap_alloc_new w3 _⟩, hI.alloc hI.size _, insR_of ((Below.refl _ _).alloc (Nat.le_refl _) _)⟩
            case s44 =>
              intro f w3 hI hF
              simp only [litAll, List.range, List.range.loop, List.map]
              have hO1 := Lib.hid (show OwnP w1.heap.size (f 41) (ps.take k) w3 from hF 41 (by decide))
              obtain ⟨b, h43, hb2⟩ := hF 43 (by decide)
              rw [h43]
              have hk1 : Hid ((ps.take k).length = k) := Lib.hid (by rw [List.length_take, hn'.out]; omega)
              have hnews : Hid (∀ j u, (perC p)[j]? = some u → w3.cell? ((⟨b, 0, none⟩ : Addr).add j) = some u) := Lib.hid (news_of hb2)
              generalize f 41 = v41 at *
              refine wpList_append_own w3 rfl _ _ 50 rfl w1.heap.size 35 i0 (.agg #[.int .i64 0, .string ByteArray.empty, .string ByteArray.empty, .int .i64 0, .int .i64 0]) 5 56 Try.underlying50 hi hz0 hz1 hz2 rfl (by decide) v41 _ _ rfl hO1.out.1 ⟨b, 0, none⟩ 1 1 (perC p) rfl rfl hnews.out (fun u hu => one_cell (ps := [p]) (by simpa using hu)) (by rw [hk1.out]; unfold maxLen; omega) (by rw [hk1.out]; omega) hI.size ?_
              intro v' w4 hown hgrow hne
              rw [← flat_snoc, show (ps.take k).length + 1 = (ps.take k ++ [p]).length by simp] at hown
              have hO : Hid (OwnP w1.heap.size v' (ps.take k ++ [p]) w4) := Lib.hid ⟨hown, fun e => hO1.out.2 (hne.1 e).1⟩
              have hI4 : Below w1.heap.size w1 w4 := hI.grown hgrow hI.size (fun g hg => (hO1.out.1.lt g hg).1)
              clear hown hnews hk1 hgrow hne
              go_wp2_with fail
              exact ⟨rfl, hO.out, hI4, fun h => absurd rfl h.1⟩
            case s47 =>
              intro f w3 hI hF
              simp only [litAll, List.range, List.range.loop, List.map]
              rw [show f 45 = .slice (some ⟨lb, 0, none⟩) n c from hF 45 (by decide), show f 46 = .int .i64 k from hF 46 (by decide)]
              have hcl : Hid (∀ j u, ((ps.drop k).flatMap perC)[j]? = some u → w1.cell? ⟨lb, k * 5 + j, none⟩ = some u) := Lib.hid fun j u hu => hcells.out _ u (flat_drop (by rw [hn'.out]; omega) hu)
              have hdn : Hid (c = k → ps.drop k = []) := Lib.hid fun e => List.drop_eq_nil_of_le (by rw [hn'.out]; omega)
              by_cases hck : c = k
              · have hnil := Lib.hid (hdn.out hck)
                go_wp2_with fail
                exact ⟨rfl, ⟨_, _, _, rfl, by omega, fun j u hu => by rw [hnil.out] at hu; simp at hu⟩, hI, insR_refl _ _⟩
              · go_wp2_with fail
                exact ⟨rfl, ⟨_, _, _, rfl, by omega, fun j u hu => by have := hcl.out j u hu; rw [Addr.add_lit]; exact ⟨hlb, by simpa using this⟩⟩, hI, insR_refl _ _⟩
            case s48 =>
              intro f w3 hI hF
              simp only [litAll, List.range, List.range.loop, List.map]
              have hO1 := Lib.hid (show OwnP w1.heap.size (f 44) (ps.take k ++ [p]) w3 from hF 44 (by decide))
              obtain ⟨ad, l, c', h47, hln, hb2⟩ := hF 47 (by decide)
              rw [h47]
              have hk1 : Hid ((ps.take k ++ [p]).length = k + 1) := Lib.hid (by rw [List.length_append, List.length_take, hn'.out, List.length_singleton]; omega)
              have hk2 : Hid ((ps.drop k).length = l) := Lib.hid (by rw [List.length_drop, hn'.out, hln])
              have hnews : Hid (∀ j u, ((ps.drop k).flatMap perC)[j]? = some u → w3.cell? (ad.add j) = some u) := Lib.hid fun j u hu => (hI.cell (hb2 j u hu).1).trans (hb2 j u hu).2
              generalize f 44 = v44 at *
              refine wpList_append_own w3 rfl _ _ 50 rfl w1.heap.size 35 i0 (.agg #[.int .i64 0, .string ByteArray.empty, .string ByteArray.empty, .int .i64 0, .int .i64 0]) 5 56 Try.underlying50 hi hz0 hz1 hz2 rfl (by decide) v44 _ _ rfl hO1.out.1 ad l c' ((ps.drop k).flatMap perC) rfl (by rw [flat_len, hk2.out]) hnews.out (fun u hu => one_cell hu) (by rw [hk1.out]; unfold maxLen; omega) (by rw [hk1.out]; omega) hI.size ?_
              intro v' w4 hown hgrow hne
              rw [← List.flatMap_append, ← hk2.out, ← List.length_append] at hown
              have hO : Hid (OwnP w1.heap.size v' (ps.take k ++ [p] ++ ps.drop k) w4) := Lib.hid ⟨hown, fun e => hO1.out.2 (hne.1 e).1⟩
              have hI4 : Below w1.heap.size w1 w4 := hI.grown hgrow hI.size (fun g hg => (hO1.out.1.lt g hg).1)
              clear hown hnews hk1 hgrow hne
              go_wp2_with fail
              exact ⟨rfl, hO.out, hI4, fun h => absurd rfl h.2⟩
          case hend =>
            intro f w3 hI hF o ho
            injection ho with ho
            subst ho
            have hO : Hid (OwnP w1.heap.size (f 48) (ps.take k ++ [p] ++ ps.drop k) w3) := Lib.hid (hF 48 (by decide) (Or.inl rfl))
            simp only [dstsOf, List.take, List.filterMap, setSlots, List.foldl, List.set]
            clear hF
            generalize f 37 = v37 at *
            generalize f 38 = v38 at *
            generalize f 39 = v39 at *
            generalize f 40 = v40 at *
            generalize f 41 = v41 at *
            generalize f 42 = v42 at *
            generalize f 43 = v43 at *
            generalize f 44 = v44 at *
            generalize f 45 = v45 at *
            generalize f 46 = v46 at *
            generalize f 47 = v47 at *
            generalize f 48 = v48 at *
            go_wp2_with fail
            go_ret
            refine ⟨v48, _, rfl, hO.out.mono (by have := hbw.out; omega), ?_, fun q hq => ?_, ?_⟩
            · simp only [List.length_append, List.length_take, List.length_drop, List.length_singleton, hn'.out]; omega
            · rcases List.mem_append.1 hq with hq | hq
              · rcases List.mem_append.1 hq with hq | hq
                · exact Or.inl (List.mem_of_mem_take hq)
                · exact Or.inr (by simpa using hq)
              · exact Or.inl (List.mem_of_mem_drop hq)
            · rw [hpbe]; exact hlen.out.trans (hI.mono hbw.out)
    · obtain rfl : k = n := by omega
      go_wp2_with fail
      go_quiet (fail)
      go_wp2_with fail
      go_quiet (fail)
      go_wp2_with fail
      refine wp_region_use (F := insF lb k c k pb ps p w1) (I := Below w1.heap.size w1) (R := insR) (m := 12) (n := 49) (pre := [0, 3, 5]) (cons := insC) (by kernel_rfl) (by kernel_rfl) rfl (by simp) (by kernel_rfl) ?hF (below_of_drewN (below_of_drewN (below_of_drewN (Below.refl _ _) _) _) _).drew ?hpre ?hstep ?hend
      case hF =>
        intro i t w3 w4 v hs hv _ hR
        exact insF_stands (fun t ht => by rcases ht with rfl | rfl | rfl | rfl | rfl <;> exact ⟨by kernel_rfl, by kernel_rfl⟩) i t w3 w4 v hs hv hR
      case hpre =>
        intro t ht
        simp only [List.mem_cons, List.not_mem_nil, or_false] at ht
        rcases ht with rfl | rfl | rfl <;> exact rfl
      case hstep =>
        refine (And.intro ?s37 (And.intro (stepU_move (by omega) (by omega) (fun _ _ h => h) (fun _ => insR_refl _ _)) (And.intro (stepU_move (by omega) (by omega) (fun _ _ h => h) (fun _ => insR_refl _ _)) (And.intro ?s40 (And.intro ?s41 (And.intro ?s42 (And.intro ?s43 (And.intro ?s44 (And.intro (stepU_move (by omega) (by omega) (fun _ _ h => h) (fun _ => insR_refl _ _)) (And.intro (stepU_move (by omega) (by omega) (fun _ _ h => h) (fun _ => insR_refl _ _)) (And.intro ?s47 (And.intro ?s48 trivial))))))))))))
        case s37 =>
          intro f w3 hI hF
          simp only [litAll, List.range, List.range.loop, List.map]
          go_wp2_with fail
          exact ⟨rfl, ⟨_, rfl, hI.size, heap_alloc_new w3 _⟩, hI.alloc hI.size _, insR_of ((Below.refl _ _).alloc (Nat.le_refl _) _)⟩
        case s40 =>
          intro f w3 hI hF
          simp only [litAll, List.range, List.range.loop, List.map]
          rw [show f 38 = .slice (some ⟨lb, 0, none⟩) k c from hF 38 (by decide), show f 39 = .int .i64 k from hF 39 (by decide)]
          go_wp2_with fail
          exact ⟨rfl, rfl, hI, insR_refl _ _⟩
        case s41 =>
          intro f w3 hI hF
          simp only [litAll, List.range, List.range.loop, List.map]
          obtain ⟨b, h37, hb1, hb2⟩ := hF 37 (by decide)
          rw [h37, show f 40 = .slice (some ⟨lb, 0, none⟩) k c from hF 40 (by decide)]
          have hn1 := Lib.hid hn'.out
          have hnews : Hid (∀ j u, ((ps.take k).flatMap perC)[j]? = some u → w3.cell? ((⟨lb, 0, none⟩ : Addr).add j) = some u) := Lib.hid fun j u hu => by rw [Addr.add_lit, Nat.zero_add]; exact (hI.cell (p := ⟨lb, j, none⟩) hlb).trans (hcells.out j u (flat_take hu))
          have hl5 : Hid (((ps.take k).flatMap perC).length = k * 5) := Lib.hid (by rw [flat_len, List.length_take, hn'.out]; omega)
          have hk1 : Hid ((ps.take k).length = k) := Lib.hid (by rw [List.length_take, hn'.out]; omega)
          refine wpList_append_empty rfl _ _ 50 rfl w1.heap.size 35 i0 (.agg #[.int .i64 0, .string ByteArray.empty, .string ByteArray.empty, .int .i64 0, .int .i64 0]) 5 56 Try.underlying50 hi hz0 hz1 hz2 rfl (by decide) b rfl hb2 hb1 ⟨lb, 0, none⟩ k c ((ps.take k).flatMap perC) rfl hl5.out hnews.out (fun u hu => one_cell hu) (by unfold maxLen; omega) (by omega) hI.size ?_
          intro v' w4 hown hne hb4
          have hO : Hid (OwnP w1.heap.size v' (ps.take k) w4) := Lib.hid ⟨by rw [hk1.out]; exact hown, hne⟩
          clear hown hnews hl5 hk1
          go_wp2_with fail
          exact ⟨rfl, hO.out, hI.trans (hb4.mono hI.size), insR_of hb4⟩
        case s42 =>
          intro f w3 hI hF
          simp only [litAll, List.range, List.range.loop, List.map]
          rw [show f 3 = .pointer (some ⟨pb, 0, none⟩) from hF 3 (by decide)]
          have e0 := (hI.cell (p := ⟨pb, 0, none⟩) hpb).trans c0
          have e1 := (hI.cell (p := ⟨pb, 1, none⟩) hpb).trans c1
          have e2 := (hI.cell (p := ⟨pb, 2, none⟩) hpb).trans c2
          have e3 := (hI.cell (p := ⟨pb, 3, none⟩) hpb).trans c3
          have e4 := (hI.cell (p := ⟨pb, 4, none⟩) hpb).trans c4
          go_wp2_with fail
          exact ⟨rfl, rfl, hI, insR_refl _ _⟩
        case s43 =>
          intro f w3 hI hF
          simp only [litAll, List.range, List.range.loop, List.map]
          rw [show f 42 = .agg #[.int .i64 p.number, .string p.first, .string p.last, .int .i64 p.born, .int .i64 p.zone] from hF 42 (by decide)]
          go_wp2_with fail
          exact ⟨rfl, ⟨_, rfl, heap_alloc_new w3 _⟩, hI.alloc hI.size _, insR_of ((Below.refl _ _).alloc (Nat.le_refl _) _)⟩
        case s44 =>
          intro f w3 hI hF
          simp only [litAll, List.range, List.range.loop, List.map]
          have hO1 := Lib.hid (show OwnP w1.heap.size (f 41) (ps.take k) w3 from hF 41 (by decide))
          obtain ⟨b, h43, hb2⟩ := hF 43 (by decide)
          rw [h43]
          have hk1 : Hid ((ps.take k).length = k) := Lib.hid (by rw [List.length_take, hn'.out]; omega)
          have hnews : Hid (∀ j u, (perC p)[j]? = some u → w3.cell? ((⟨b, 0, none⟩ : Addr).add j) = some u) := Lib.hid (news_of hb2)
          generalize f 41 = v41 at *
          refine wpList_append_own w3 rfl _ _ 50 rfl w1.heap.size 35 i0 (.agg #[.int .i64 0, .string ByteArray.empty, .string ByteArray.empty, .int .i64 0, .int .i64 0]) 5 56 Try.underlying50 hi hz0 hz1 hz2 rfl (by decide) v41 _ _ rfl hO1.out.1 ⟨b, 0, none⟩ 1 1 (perC p) rfl rfl hnews.out (fun u hu => one_cell (ps := [p]) (by simpa using hu)) (by rw [hk1.out]; unfold maxLen; omega) (by rw [hk1.out]; omega) hI.size ?_
          intro v' w4 hown hgrow hne
          rw [← flat_snoc, show (ps.take k).length + 1 = (ps.take k ++ [p]).length by simp] at hown
          have hO : Hid (OwnP w1.heap.size v' (ps.take k ++ [p]) w4) := Lib.hid ⟨hown, fun e => hO1.out.2 (hne.1 e).1⟩
          have hI4 : Below w1.heap.size w1 w4 := hI.grown hgrow hI.size (fun g hg => (hO1.out.1.lt g hg).1)
          clear hown hnews hk1 hgrow hne
          go_wp2_with fail
          exact ⟨rfl, hO.out, hI4, fun h => absurd rfl h.1⟩
        case s47 =>
          intro f w3 hI hF
          simp only [litAll, List.range, List.range.loop, List.map]
          rw [show f 45 = .slice (some ⟨lb, 0, none⟩) k c from hF 45 (by decide), show f 46 = .int .i64 k from hF 46 (by decide)]
          have hcl : Hid (∀ j u, ((ps.drop k).flatMap perC)[j]? = some u → w1.cell? ⟨lb, k * 5 + j, none⟩ = some u) := Lib.hid fun j u hu => hcells.out _ u (flat_drop (by rw [hn'.out]; omega) hu)
          have hdn : Hid (c = k → ps.drop k = []) := Lib.hid fun e => List.drop_eq_nil_of_le (by rw [hn'.out]; omega)
          by_cases hck : c = k
          · have hnil := Lib.hid (hdn.out hck)
            go_wp2_with fail
            exact ⟨rfl, ⟨_, _, _, rfl, by omega, fun j u hu => by rw [hnil.out] at hu; simp at hu⟩, hI, insR_refl _ _⟩
          · go_wp2_with fail
            exact ⟨rfl, ⟨_, _, _, rfl, by omega, fun j u hu => by have := hcl.out j u hu; rw [Addr.add_lit]; exact ⟨hlb, by simpa using this⟩⟩, hI, insR_refl _ _⟩
        case s48 =>
          intro f w3 hI hF
          simp only [litAll, List.range, List.range.loop, List.map]
          have hO1 := Lib.hid (show OwnP w1.heap.size (f 44) (ps.take k ++ [p]) w3 from hF 44 (by decide))
          obtain ⟨ad, l, c', h47, hln, hb2⟩ := hF 47 (by decide)
          rw [h47]
          have hk1 : Hid ((ps.take k ++ [p]).length = k + 1) := Lib.hid (by rw [List.length_append, List.length_take, hn'.out, List.length_singleton]; omega)
          have hk2 : Hid ((ps.drop k).length = l) := Lib.hid (by rw [List.length_drop, hn'.out, hln])
          have hnews : Hid (∀ j u, ((ps.drop k).flatMap perC)[j]? = some u → w3.cell? (ad.add j) = some u) := Lib.hid fun j u hu => (hI.cell (hb2 j u hu).1).trans (hb2 j u hu).2
          generalize f 44 = v44 at *
          refine wpList_append_own w3 rfl _ _ 50 rfl w1.heap.size 35 i0 (.agg #[.int .i64 0, .string ByteArray.empty, .string ByteArray.empty, .int .i64 0, .int .i64 0]) 5 56 Try.underlying50 hi hz0 hz1 hz2 rfl (by decide) v44 _ _ rfl hO1.out.1 ad l c' ((ps.drop k).flatMap perC) rfl (by rw [flat_len, hk2.out]) hnews.out (fun u hu => one_cell hu) (by rw [hk1.out]; unfold maxLen; omega) (by rw [hk1.out]; omega) hI.size ?_
          intro v' w4 hown hgrow hne
          rw [← List.flatMap_append, ← hk2.out, ← List.length_append] at hown
          have hO : Hid (OwnP w1.heap.size v' (ps.take k ++ [p] ++ ps.drop k) w4) := Lib.hid ⟨hown, fun e => hO1.out.2 (hne.1 e).1⟩
          have hI4 : Below w1.heap.size w1 w4 := hI.grown hgrow hI.size (fun g hg => (hO1.out.1.lt g hg).1)
          clear hown hnews hk1 hgrow hne
          go_wp2_with fail
          exact ⟨rfl, hO.out, hI4, fun h => absurd rfl h.2⟩
      case hend =>
        intro f w3 hI hF o ho
        injection ho with ho
        subst ho
        have hO : Hid (OwnP w1.heap.size (f 48) (ps.take k ++ [p] ++ ps.drop k) w3) := Lib.hid (hF 48 (by decide) (Or.inl rfl))
        simp only [dstsOf, List.take, List.filterMap, setSlots, List.foldl, List.set]
        clear hF
        generalize f 37 = v37 at *
        generalize f 38 = v38 at *
        generalize f 39 = v39 at *
        generalize f 40 = v40 at *
        generalize f 41 = v41 at *
        generalize f 42 = v42 at *
        generalize f 43 = v43 at *
        generalize f 44 = v44 at *
        generalize f 45 = v45 at *
        generalize f 46 = v46 at *
        generalize f 47 = v47 at *
        generalize f 48 = v48 at *
        go_wp2_with fail
        go_ret
        refine ⟨v48, _, rfl, hO.out.mono (by have := hbw.out; omega), ?_, fun q hq => ?_, ?_⟩
        · simp only [List.length_append, List.length_take, List.length_drop, List.length_singleton, hn'.out]; omega
        · rcases List.mem_append.1 hq with hq | hq
          · rcases List.mem_append.1 hq with hq | hq
            · exact Or.inl (List.mem_of_mem_take hq)
            · exact Or.inr (by simpa using hq)
          · exact Or.inl (List.mem_of_mem_drop hq)
        · rw [hpbe]; exact hlen.out.trans (hI.mono hbw.out)
end Go.Proofs.Ythnilifepiihjaa

/-
  A list of persons drawn: l04List.
  Conditions: each lemma names its own.
-/
namespace Go.Proofs.Ythnilifepiihjaa
open Go.RowKit
set_option linter.unusedVariables false

theorem own_empty (w : World) : OwnP w.heap.size (.slice (some ⟨w.heap.size, 0, none⟩) 0 0) [] (w.alloc (.cells #[] 35)) :=
  ⟨World.ownsRow_lit w #[] 0 (Nat.le_refl _) (by decide) rfl, fun e => by cases e⟩
theorem GoodP.draw {p : Per} (h : GoodP p) : DrawP p := by
  obtain ⟨h1, h2, h3, h4, h5⟩ := h
  exact ⟨by omega, h2, h3, by omega, by omega⟩
def AllD (ps : List Per) : Prop := ∀ p ∈ ps, DrawP p
theorem AllD.fit {ps : List Per} (h : AllD ps) : PersFit ps := fun p hp => (h p hp).fit
theorem allD_nil : AllD [] := fun p hp => by simp at hp
theorem AllD.snoc {ps : List Per} {p : Per} (h : AllD ps) (hp : DrawP p) : AllD (ps ++ [p]) := fun q hq => by
  rcases List.mem_append.1 hq with hq | hq
  · exact h q hq
  · have : q = p := by simpa using hq
    exact this ▸ hp
theorem AllD.put {ps qs : List Per} {p : Per} (h : AllD ps) (hp : DrawP p) (hq : ∀ q ∈ qs, q ∈ ps ∨ q = p) : AllD qs := fun q hm => by
  rcases hq q hm with hq | hq
  · exact h q hq
  · exact hq ▸ hp
/-- A list of persons is drawn. -/
def GotPers (B g : Nat) (w : World) (e : Ending) (w' : World) : Prop := ∃ u ps, e = .returned u ∧ OwnP w.heap.size u ps w' ∧ ps.length ≤ 13 ∧ AllD ps ∧ Src B g w' ∧ Past g w w'
set_option maxRecDepth 100000 in
set_option maxHeartbeats 16000000 in
theorem list_c {B g : Nat} {w : World} (h : Src B g w) : Calls Try.prog 72 #[.pointer (some ⟨g, 0, none⟩)] w (GotPers B g w) := by
  obtain ⟨i0, hi, hz0, hz1, hz2⟩ := info_parts info_iper
  have hgb := h.lt
  have h1 := Lib.hid (h.alloc (.cells #[] 35))
  have p1 : Past g w (w.alloc (.cells #[] 35)) := (Past.refl g w).alloc _
  have o1 := Lib.hid (own_empty w)
  replace p1 := Lib.hid p1
  clear h
  go_enter Try.func72, Try.ntmps72
  go_wp2_with fail
  generalize (w.alloc (.cells #[] 35)) = w1 at *
  refine (next_c h1.out 8 (by omega)).mono ?_
  rintro e w2 ⟨r, rfl, ⟨a2, b2, z2⟩, h2, p2⟩
  replace b2 := b2 (by omega)
  replace o1 := Lib.hid (o1.out.past p2 hgb)
  replace p1 := Lib.hid (p1.out.trans p2)
  replace h2 := Lib.hid h2
  clear p2 z2 h1
  have hr : r = ((r.toNat : Nat) : Int) := by omega
  generalize r.toNat = n0 at *
  subst hr
  generalize hu : (Value.slice (some ⟨w.heap.size, 0, none⟩) 0 0) = u0 at *
  replace hu := Lib.hid hu
  go_wp2_with fail
  go_loopw [3, 4] (fun u i wr => ∃ (n : Nat) (ps : List Per), i = .int .i64 n ∧ ps.length + n ≤ 7 ∧ Hid (AllD ps) ∧ Hid (OwnP w.heap.size u ps wr) ∧ Hid (Src B g wr) ∧ Hid (Past g w wr)) (fun _ i _ => (intOf i).toNat)
  case atStart => exact ⟨n0, [], rfl, by simp; omega, Lib.hid allD_nil, o1, h2, p1⟩
  case round =>
    clear h2 p1 o1 hu
    obtain ⟨n, ps, rfl, hn, hD, ho, hS, hP⟩ := hrel
    by_cases hlt : 0 < n
    · go_wp2_with fail
      refine (l04Good_c hS.out).mono ?_
      rintro e w3 ⟨p, rfl, hp, h3, p3⟩
      replace ho := Lib.hid (ho.out.past p3 hgb)
      replace hP := Lib.hid (hP.out.trans p3)
      replace hS := Lib.hid h3
      replace hp := Lib.hid hp.draw
      clear h3 p3
      have hsz := Lib.hid hP.out.size
      go_wp2_with fail
      refine (insert_c p ho.out hsz.out (by omega)).mono ?_
      rintro e w4 ⟨v4, qs, rfl, h4, hql, hqm, b4⟩
      replace hS := Lib.hid (hS.out.below b4)
      replace hP := Lib.hid (hP.out.trans (Past.of_below b4))
      replace hD := Lib.hid (hD.out.put hp.out hqm)
      replace ho := Lib.hid h4
      clear b4 hsz h4 hqm
      go_wp2_with fail
      go_roundw
      case rel => exact ⟨n - 1, qs, by go_num, by omega, hD, ho, hS, hP⟩
      case measure => simp [intOf]; omega
    · obtain rfl : n = 0 := by omega
      clear hlt
      go_wp2_with fail
      refine (next_c hS.out 24 (by omega)).mono ?_
      rintro e w3 ⟨r, rfl, ⟨a3, b3, z3⟩, h3, p3⟩
      replace b3 := b3 (by omega)
      replace ho := Lib.hid (ho.out.past p3 hgb)
      replace hP := Lib.hid (hP.out.trans p3)
      replace hS := Lib.hid h3
      clear h3 p3 z3
      rcases (show r = 0 ∨ r = 1 ∨ (r ≠ 0 ∧ r ≠ 1) by omega) with rfl | rfl | ⟨q0, q1⟩
      · go_wp2_with fail
        refine (l04Draw_c hS.out).mono ?_
        rintro e w4 ⟨p, rfl, hp, h4, p4⟩
        replace ho := Lib.hid (ho.out.past p4 hgb)
        replace hP := Lib.hid (hP.out.trans p4)
        replace hS := Lib.hid h4
        replace hD := Lib.hid (hD.out.snoc hp)
        have hsz := Lib.hid hP.out.size
        clear h4 p4 hp
        have hnews : Hid (∀ j u, (perC p)[j]? = some u → (w4.alloc (.cells #[.int .i64 p.number, .string p.first, .string p.last, .int .i64 p.born, .int .i64 p.zone] 35)).cell? ((⟨w4.heap.size, 0, none⟩ : Addr).add j) = some u) := Lib.hid (news_of (heap_alloc_new w4 _))
        have ho1 := Lib.hid ho.out.1
        unfold perV
        go_wp2_with (at_builtin; refine wpList_append_own _ rfl _ _ 50 rfl w.heap.size 35 i0 (.agg #[.int .i64 0, .string ByteArray.empty, .string ByteArray.empty, .int .i64 0, .int .i64 0]) 5 56 Try.underlying50 hi hz0 hz1 hz2 rfl (by decide) _ _ _ rfl (World.ownsRow.alloc ho1.out _) ⟨w4.heap.size, 0, none⟩ 1 1 (perC p) rfl rfl hnews.out (fun u hu => one_cell (ps := [p]) (by simpa using hu)) (by unfold maxLen; omega) (by omega) (by have := hsz.out; simp; omega) ?_)
        intro v' w5 hown hgrow hne
        have hO : Hid (OwnP w.heap.size v' (ps ++ [p]) w5) := Lib.hid ⟨by rw [flat_snoc, List.length_append]; exact hown, hne⟩
        obtain ⟨s5, t5⟩ := src_append hS.out hgb hP.out ho1.out hgrow
        replace s5 := Lib.hid s5
        replace t5 := Lib.hid t5
        clear hown hgrow hne hnews ho1 ho hS hP hsz
        go_wp2_with fail
        go_ret
        exact ⟨_, _, rfl, hO.out, by simp; omega, hD.out, s5.out, t5.out⟩
      · go_wp2_with fail
        generalize hm0 : ps.length = m0 at *
        replace hm0 := Lib.hid hm0
        obtain ⟨wo, rfl⟩ : ∃ wo : World, wo = w3 := ⟨_, rfl⟩
        go_loopw [3, 5] (fun u i wr => ∃ (k : Nat) (ps : List Per), i = .int .i64 (100 + (k : Int)) ∧ Hid (ps.length = m0 + k) ∧ Hid (m0 + k ≤ 13) ∧ Hid (AllD ps) ∧ Hid (OwnP w.heap.size u ps wr) ∧ Hid (Src B g wr) ∧ Hid (Past g w wr)) (fun _ i _ => 200 - (intOf i).toNat)
        case atStart => exact ⟨0, ps, by simp, Lib.hid (by rw [hm0.out]; rfl), Lib.hid (by omega), hD, ho, hS, hP⟩
        case round =>
          clear hD ho hS hP hm0 ps
          obtain ⟨k, ps, rfl, hl, hk, hD, ho, hS, hP⟩ := hrel
          obtain ⟨lb, c, rfl, _, _, hc1, hc2, _⟩ := ho.out.form
          unfold maxLen at hc2
          have hk13 : k ≤ 13 := by have := hk.out; omega
          generalize hL : ps.length = L at *
          have hL13 : L ≤ 13 := by have := hk.out; have := hl.out; omega
          replace hL := Lib.hid hL
          go_wp2_with fail
          refine (next_c hS.out 2 (by omega)).mono ?_
          rintro e w4 ⟨r, rfl, ⟨a4, b4, z4⟩, h4, p4⟩
          replace b4 := b4 (by omega)
          replace ho := Lib.hid (ho.out.past p4 hgb)
          replace hP := Lib.hid (hP.out.trans p4)
          replace hS := Lib.hid h4
          have hsz := Lib.hid hP.out.size
          clear h4 p4 z4
          by_cases q : (L : Int) < 12 + r
          · have hnews : Hid (∀ j u, (perC ⟨100 + (k : Int), ⟨#[105, 100, 97]⟩, ⟨#[116, 97, 108]⟩, 1970, 0⟩)[j]? = some u → (w4.alloc (.cells #[.int .i64 (100 + (k : Int)), .string ⟨#[105, 100, 97]⟩, .string ⟨#[116, 97, 108]⟩, .int .i64 1970, .int .i64 0] 35)).cell? ((⟨w4.heap.size, 0, none⟩ : Addr).add j) = some u) := Lib.hid (news_of (heap_alloc_new w4 _))
            have ho1 := Lib.hid ho.out.1
            rw [hL.out] at ho1
            have hD2 := Lib.hid (hD.out.snoc (p := ⟨100 + (k : Int), ⟨#[105, 100, 97]⟩, ⟨#[116, 97, 108]⟩, 1970, 0⟩) ⟨⟨by simp only; omega, by simp only; omega⟩, by simp only; decide, by simp only; decide, by simp only; omega, by simp only; omega⟩)
            go_wp2_with (at_builtin; refine wpList_append_own _ rfl _ _ 50 rfl w.heap.size 35 i0 (.agg #[.int .i64 0, .string ByteArray.empty, .string ByteArray.empty, .int .i64 0, .int .i64 0]) 5 56 Try.underlying50 hi hz0 hz1 hz2 rfl (by decide) _ _ _ rfl (World.ownsRow.alloc ho1.out _) ⟨w4.heap.size, 0, none⟩ 1 1 (perC ⟨100 + (k : Int), ⟨#[105, 100, 97]⟩, ⟨#[116, 97, 108]⟩, 1970, 0⟩) rfl rfl hnews.out (fun u hu => one_cell (ps := [⟨100 + (k : Int), ⟨#[105, 100, 97]⟩, ⟨#[116, 97, 108]⟩, 1970, 0⟩]) (by simpa using hu)) (by unfold maxLen; omega) (by omega) (by have := hsz.out; simp; omega) ?_)
            intro v' w5 hown hgrow hne
            have hO : Hid (OwnP w.heap.size v' (ps ++ [⟨100 + (k : Int), ⟨#[105, 100, 97]⟩, ⟨#[116, 97, 108]⟩, 1970, 0⟩]) w5) := Lib.hid ⟨by rw [flat_snoc, List.length_append, hL.out]; exact hown, hne⟩
            obtain ⟨s5, t5⟩ := src_append hS.out hgb hP.out ho1.out hgrow
            replace s5 := Lib.hid s5
            replace t5 := Lib.hid t5
            have hL2 : Hid ((ps ++ [(⟨100 + (k : Int), ⟨#[105, 100, 97]⟩, ⟨#[116, 97, 108]⟩, 1970, 0⟩ : Per)]).length = L + 1) := Lib.hid (by rw [List.length_append, hL.out]; rfl)
            generalize (ps ++ [(⟨100 + (k : Int), ⟨#[105, 100, 97]⟩, ⟨#[116, 97, 108]⟩, 1970, 0⟩ : Per)]) = ps2 at *
            clear hown hgrow hne hnews ho1 ho hS hP hsz hD
            go_wp2_with fail
            go_roundw
            case rel => exact ⟨k + 1, ps2, by go_num, Lib.hid (by rw [hL2.out]; have := hl.out; omega), Lib.hid (by have := hl.out; omega), hD2, hO, s5, t5⟩
            case measure => simp [intOf]; omega
          · go_wp2_with fail
            go_ret
            exact ⟨_, ps, rfl, ho.out, by rw [hL.out]; omega, hD.out, hS.out, hP.out⟩
      · have e0 : (r == 0) = false := by simpa using q0
        have e1 : (r == 1) = false := by simpa using q1
        clear q0 q1
        go_wp2_with fail
        go_ret
        exact ⟨_, ps, rfl, ho.out, by omega, hD.out, hS.out, hP.out⟩
end Go.Proofs.Ythnilifepiihjaa

/-
  Draws of lists of persons, limits and indices from a code.
  Conditions: each lemma names its own.
-/
namespace Go.Proofs.Ythnilifepiihjaa
open Go.RowKit
set_option linter.unusedVariables false

set_option maxRecDepth 100000 in
set_option maxHeartbeats 8000000 in
theorem l05Draw_c {B g : Nat} {w : World} (h : Src B g w) : Calls Try.prog 84 #[.pointer (some ⟨g, 0, none⟩)] w fun e w' => ∃ u ps l, e = .returned (.tuple #[u, .int .i64 l]) ∧ OwnP w.heap.size u ps w' ∧ ps.length ≤ 13 ∧ AllD ps ∧ (-1 ≤ l ∧ l ≤ 101) ∧ Src B g w' ∧ Past g w w' := by
  have hgl := h.lt
  have HL := Lib.hid (list_c h)
  clear h
  go_enter Try.func84, Try.ntmps84
  go_wp2_with fail
  refine HL.out.mono ?_
  rintro e w1 ⟨u, ps, rfl, ho, hl, hD, h1, p1⟩
  replace ho := Lib.hid ho
  replace hD := Lib.hid hD
  clear HL
  go_wp2_with fail
  refine (next_c h1 2 (by omega)).mono ?_
  rintro e w2 ⟨r, rfl, ⟨a2, b2, _⟩, h2, p2⟩
  replace b2 := b2 (by omega)
  replace ho := Lib.hid (ho.out.past p2 hgl)
  replace p1 := p1.trans p2
  clear h1 p2
  have HN := Lib.hid (pick_new (T := 2) (cs := #[.int .i64 60, .int .i64 70, .int .i64 80, .int .i64 50, .int .i64 65, .int .i64 100, .int .i64 0, .int .i64 (101 - 102 * r)]) [60, 70, 80, 50, 65, 100, 0, 101 - 102 * r] (-1) 101 h2 rfl rfl (by simp) (by simp) (by simp; omega))
  go_wp2_with fail
  refine HN.out.mono ?_
  rintro e w3 ⟨l, rfl, l0, l1, h3, p3⟩
  replace ho := Lib.hid (ho.out.past p3 hgl)
  replace p1 := p1.trans p3
  clear HN h2 p3
  go_wp2_with fail
  go_ret2
  exact ⟨u, ps, l, rfl, ho.out, hl, hD.out, ⟨l0, l1⟩, h3, p1⟩
set_option maxRecDepth 100000 in
set_option maxHeartbeats 8000000 in
theorem DrawGroupsOf_c {v : Value} {bs : List Int} {w : World} (h : Bytes w v bs) (hf : BytesFit bs) : Calls Try.prog 40 #[v] w fun e w' => ∃ u ps l, e = .returned (.tuple #[u, .int .i64 l]) ∧ OwnP w.heap.size u ps w' ∧ ps.length ≤ 13 ∧ AllD ps ∧ (-1 ≤ l ∧ l ≤ 101) ∧ Below w.heap.size w w' := by
  have HF := Lib.hid (from_c h hf)
  clear h
  go_enter Try.func40, Try.ntmps40
  go_wp2_with fail
  refine HF.out.mono ?_
  rintro e w1 ⟨g, rfl, h1, b1⟩
  go_wp2_with fail
  refine (l05Draw_c h1).mono ?_
  rintro e w2 ⟨u, ps, l, rfl, ho, hl, hD, hll, h2, p2⟩
  have hsz := Lib.hid b1.size
  have BB := src_below b1 h1 p2
  replace ho := Lib.hid ho
  go_wp2_with fail
  go_ret2
  exact ⟨u, ps, l, rfl, ho.out.mono hsz.out, hl, hD, hll, BB⟩
set_option maxRecDepth 100000 in
set_option maxHeartbeats 8000000 in
theorem DrawLeastSafeLimit_c {v : Value} {bs : List Int} {w : World} (h : Bytes w v bs) (hf : BytesFit bs) : Calls Try.prog 49 #[v] w fun e w' => ∃ u ps, e = .returned u ∧ OwnP w.heap.size u ps w' ∧ ps.length ≤ 13 ∧ AllD ps ∧ Below w.heap.size w w' := by
  have HF := Lib.hid (from_c h hf)
  clear h
  go_enter Try.func49, Try.ntmps49
  go_wp2_with fail
  refine HF.out.mono ?_
  rintro e w1 ⟨g, rfl, h1, b1⟩
  go_wp2_with fail
  refine (list_c h1).mono ?_
  rintro e w2 ⟨u, ps, rfl, ho, hl, hD, h2, p2⟩
  have hsz := Lib.hid b1.size
  have BB := src_below b1 h1 p2
  replace ho := Lib.hid ho
  go_wp2_with fail
  go_ret
  exact ⟨u, ps, rfl, ho.out.mono hsz.out, hl, hD, BB⟩
set_option maxRecDepth 100000 in
set_option maxHeartbeats 8000000 in
theorem DrawKeeperOf_c {v : Value} {bs : List Int} {w : World} (h : Bytes w v bs) (hf : BytesFit bs) : Calls Try.prog 34 #[v] w fun e w' => ∃ u ps l i, e = .returned (.tuple #[u, .int .i64 l, .int .i64 i]) ∧ OwnP w.heap.size u ps w' ∧ ps.length ≤ 13 ∧ AllD ps ∧ (-1 ≤ l ∧ l ≤ 101) ∧ (-1 ≤ i ∧ i ≤ 13) ∧ Below w.heap.size w w' := by
  have HF := Lib.hid (from_c h hf)
  clear h
  go_enter Try.func34, Try.ntmps34
  go_wp2_with fail
  refine HF.out.mono ?_
  rintro e w1 ⟨g, rfl, h1, b1⟩
  have hgl := h1.lt
  have hsz := Lib.hid b1.size
  go_wp2_with fail
  refine (l05Draw_c h1).mono ?_
  rintro e w2 ⟨u, ps, l, rfl, ho, hl, hD, hll, h2, p2⟩
  obtain ⟨lb, c, rfl, hlb, hlw, hlc, hcm, hcells⟩ := ho.form
  clear hcells HF
  unfold maxLen at hcm
  replace ho := Lib.hid ho
  replace hD := Lib.hid hD
  generalize hL : ps.length = L at *
  replace hL := Lib.hid hL
  go_wp2_with fail
  refine (next_c h2 ((L : Int) + 1) (by omega)).mono ?_
  rintro e w3 ⟨r, rfl, ⟨a3, b3, z3⟩, h3, p3⟩
  have hr : r ≤ L := by
    by_cases q : L = 0
    · have := z3 (by omega); omega
    · have := b3 (by omega); omega
  clear b3 z3
  go_wp2_with fail
  refine (next_c h3 24 (by omega)).mono ?_
  rintro e w4 ⟨s, rfl, ⟨a4, b4, z4⟩, h4, p4⟩
  replace b4 := b4 (by omega)
  have BB := src_below b1 h1 ((p2.trans p3).trans p4)
  replace ho := Lib.hid (ho.out.past (p3.trans p4) hgl)
  go_wp2_with fail
  go_ret3
  exact ⟨_, ps, l, _, rfl, ho.out.mono hsz.out, by rw [hL.out]; exact hl, hD.out, hll, by omega, BB⟩
set_option maxRecDepth 100000 in
set_option maxHeartbeats 8000000 in
theorem DrawChainBetween_c {v : Value} {bs : List Int} {w : World} (h : Bytes w v bs) (hf : BytesFit bs) : Calls Try.prog 31 #[v] w fun e w' => ∃ u ps l a b, e = .returned (.tuple #[u, .int .i64 l, .int .i64 a, .int .i64 b]) ∧ OwnP w.heap.size u ps w' ∧ ps.length ≤ 13 ∧ AllD ps ∧ (-1 ≤ l ∧ l ≤ 101) ∧ (-1 ≤ a ∧ a ≤ 13) ∧ (-1 ≤ b ∧ b ≤ 13) ∧ Below w.heap.size w w' := by
  have HB := Lib.hid h
  have HF := Lib.hid (from_c h hf)
  clear h
  go_enter Try.func31, Try.ntmps31
  go_wp2_with fail
  refine HF.out.mono ?_
  rintro e w1 ⟨g, rfl, h1, b1⟩
  have hgl := h1.lt
  have hsz := Lib.hid b1.size
  clear HF
  go_wp2_with fail
  refine (DrawKeeperOf_c (HB.out.below b1) hf).mono ?_
  rintro e w2 ⟨u, ps, l, a, rfl, ho, hl, hD, hll, hla, b2⟩
  have h2 := h1.below b2
  obtain ⟨lb, c, rfl, hlb, hlw, hlc, hcm, hcells⟩ := ho.form
  clear hcells
  unfold maxLen at hcm
  replace ho := Lib.hid ho
  replace hD := Lib.hid hD
  generalize hL : ps.length = L at *
  replace hL := Lib.hid hL
  go_wp2_with fail
  refine (next_c h2 ((L : Int) + 1) (by omega)).mono ?_
  rintro e w3 ⟨r, rfl, ⟨a3, b3, z3⟩, h3, p3⟩
  have hr : r ≤ L := by
    by_cases q : L = 0
    · have := z3 (by omega); omega
    · have := b3 (by omega); omega
  clear b3 z3
  have BB := src_below b1 h1 ((Past.of_below b2).trans p3)
  replace ho := Lib.hid (ho.out.past p3 hgl)
  go_wp2_with fail
  go_returns
  exact ⟨_, ps, l, a, r, rfl, ho.out.mono hsz.out, by rw [hL.out]; exact hl, hD.out, hll, hla, by omega, BB⟩
end Go.Proofs.Ythnilifepiihjaa

/-
  Two slices of slices of numbers, or of persons, that are the same: likeTables, likePersons.
  Conditions: each lemma names its own.
-/
namespace Go.Proofs.Ythnilifepiihjaa
open Go.RowKit
set_option linter.unusedVariables false

set_option maxHeartbeats 2000000 in
theorem likeTables_same {v u : Value} {xss : List (List Int)} {w : World} (h : TabR w v xss) (g : TabR w u xss) :
    Calls Try.prog 52 #[v, u] w fun e w' => e = .returned (.bool true) ∧ Below w.heap.size w w' := by
  obtain ⟨a, c, rfl, hcap, hmost⟩ := h.form
  obtain ⟨a', c', rfl, hcap', hmost'⟩ := g.form
  have HP := Lib.hid h
  have HG := Lib.hid g
  clear h g
  generalize hn : xss.length = n at *
  clear hn
  unfold maxLen at hmost hmost'
  go_enter Try.func52, Try.ntmps52
  go_wp2_with fail
  go_loopw [5] (fun i wr => ∃ k : Nat, k ≤ n ∧ i = .int .i64 k ∧ Below w.heap.size w wr) (fun i _ => n - (intOf i).toNat)
  case atStart => exact ⟨0, Nat.zero_le _, rfl, Below.refl _ _⟩
  case round =>
    obtain ⟨k, hk, rfl, BB⟩ := hrel
    rename_i wr
    by_cases hlt : k < n
    · obtain ⟨b, o, x, xs, hab, hbb, c0, hx, hi⟩ := (HP.out.below BB).at_ hlt
      obtain ⟨b', o', x', xs', hab', hbb', d0, hx', hi'⟩ := (HG.out.below BB).at_ hlt
      subst hab hab'
      obtain rfl : xs = xs' := by rw [hx] at hx'; injection hx'
      have HE := Lib.hid (fun n : Ext wr => likeInts_same (hi.below (ext_below wr n)) (hi'.below (ext_below wr n)))
      clear hx hx' hi hi'
      go_wp2_with fail
      refine region_ext (by kernel_rfl) (by kernel_rfl) ?_
      repeat (go_big_quiet_step ((with_reducible_and_instances exact ext_call (HE.out _))))
      refine wpQuiet_nil ?_
      rintro _ ⟨nx, rfl⟩
      have b3 := ext_below _ nx
      generalize extW _ nx = w3 at *
      replace BB := below_next BB (Nat.le_refl _) b3
      clear b3 c0 d0 hbb hbb' HE
      go_wp2_with fail
      go_roundw
      case rel => exact ⟨k + 1, by omega, by go_num, BB⟩
      case measure => simp [intOf]; omega
    · obtain rfl : k = n := by omega
      go_wp2_with fail
      go_ret
      exact ⟨rfl, BB⟩
set_option maxRecDepth 100000 in
set_option maxHeartbeats 2000000 in
theorem likePersons_same {v u : Value} {ps : List Per} {w : World} (h : Persons w v ps) (g : Persons w u ps) :
    Calls Try.prog 53 #[v, u] w fun e w' => e = .returned (.bool true) ∧ Below w.heap.size w w' := by
  obtain ⟨a, n, c, rfl, H⟩ := h.parts
  obtain ⟨a', n', c', rfl, H'⟩ := g.parts
  obtain rfl : n = n' := by rw [← H.len, ← H'.len]
  have hlen := Lib.hid H.len
  have hcap := H.cap
  have hmost := H.most
  have hcap' := H'.cap
  have hmost' := H'.most
  unfold maxLen at hmost hmost'
  clear H H'
  have HP := Lib.hid h
  have HG := Lib.hid g
  clear h g
  go_enter Try.func53, Try.ntmps53
  go_wp2_with fail
  go_loopw [5] (fun i wr => ∃ k m : Nat, k ≤ n ∧ i = .int .i64 k ∧ wr = w.drewN m) (fun i _ => n - (intOf i).toNat)
  case atStart => exact ⟨0, 0, Nat.zero_le _, rfl, rfl⟩
  case round =>
    obtain ⟨k, m, hk, rfl, rfl⟩ := hrel
    by_cases hlt : k < n
    · obtain ⟨p, hx⟩ := per_at (ps := ps) (k := k) (by have := hlen.out; omega)
      obtain ⟨b, o, rfl⟩ := HP.out.form.2.2.2 (by omega)
      obtain ⟨b', o', rfl⟩ := HG.out.form.2.2.2 (by omega)
      obtain ⟨hbb, c0, c1, c2, c3, c4⟩ := HP.out.at_ hx
      obtain ⟨hbb', d0, d1, d2, d3, d4⟩ := HG.out.at_ hx
      clear hx
      go_wp2_with fail
      go_quiet (fail)
      go_wp2_with fail
      go_roundw
      case rel => exact ⟨k + 1, _, by omega, by go_num, rfl⟩
      case measure => simp [intOf]; omega
    · obtain rfl : k = n := by omega
      go_wp2_with fail
      go_ret
      exact ⟨rfl, below_of_drewN (Below.refl _ _) _⟩
end Go.Proofs.Ythnilifepiihjaa

/-
  hasInt: whether a list of numbers holds one; the beginning of a list.
  Conditions: each lemma names its own.
-/
namespace Go.Proofs.Ythnilifepiihjaa
open Go.RowKit
set_option linter.unusedVariables false

theorem ints_take {w : World} {a : Option Addr} {n c j : Nat} {xs : List Int} (h : Ints w (.slice a n c) xs) (hj : j ≤ n) : Ints w (.slice a j c) (xs.take j) := by
  obtain ⟨a', n', c', hv, H⟩ := h.parts
  injection hv with h1 h2 h3
  subst h1 h2 h3
  have hl : (xs.take j).length = j := by rw [List.length_take, H.len]; omega
  refine ⟨by simp, a, c, by rw [hl], by rw [hl]; exact Nat.le_trans hj H.cap, H.most, H.nil, fun h0 => ?_⟩
  rw [hl] at h0
  obtain ⟨b, o, ha, hb, hc⟩ := H.cells (by omega)
  refine ⟨b, o, ha, hb, fun k u hu => ?_⟩
  rw [List.getElem?_map] at hu
  cases hx : (xs.take j)[k]? with
  | none => rw [hx] at hu; cases hu
  | some x =>
    rw [hx] at hu
    rw [List.getElem?_take] at hx
    split at hx
    · rw [hc k x hx]; exact hu
    · cases hx
def NotIn (xs : List Int) (x : Int) (k : Nat) : Prop := ∀ j y, j < k → xs[j]? = some y → y ≠ x
theorem NotIn.succ {xs : List Int} {x : Int} {k : Nat} {y : Int} (h : NotIn xs x k) (hy : xs[k]? = some y) (hx : ¬ y = x) : NotIn xs x (k + 1) := fun j z hj hz => by
  by_cases e : j = k
  · subst e; rw [hy] at hz; injection hz with hz; subst hz; exact hx
  · exact h j z (by omega) hz
theorem notIn_all {xs : List Int} {x : Int} {k : Nat} (h : NotIn xs x k) (hk : xs.length ≤ k) : ¬ x ∈ xs := fun hm => by
  obtain ⟨j, hj, rfl⟩ := List.getElem_of_mem hm
  exact h j _ (by omega) (List.getElem?_eq_getElem hj) rfl
theorem hasInt_c {v : Value} {xs : List Int} {w : World} (h : Ints w v xs) (x : Int) : Calls Try.prog 54 #[v, .int .i64 x] w fun e w' => e = .returned (.bool (decide (x ∈ xs))) ∧ w = w' := by
  obtain ⟨a, n, c, rfl, H⟩ := h.parts
  have hlen := Lib.hid H.len
  have hcap := H.cap
  have hmost := H.most
  unfold maxLen at hmost
  clear h
  go_enter Try.func54, Try.ntmps54
  go_wp2_with fail
  go_loop [5] (fun i => ∃ k : Nat, k ≤ n ∧ i = .int .i64 k ∧ Hid (NotIn xs x k)) (fun i => n - (intOf i).toNat)
  case atStart => exact ⟨0, Nat.zero_le _, rfl, Lib.hid fun j y hj => absurd hj (by omega)⟩
  case round =>
    obtain ⟨k, hk, rfl, hny⟩ := hrel
    by_cases hlt : k < n
    · have hX := at_of (xs := xs) (k := k) (by have := hlen.out; omega)
      obtain ⟨y, hy⟩ := hX
      obtain ⟨b, o, ha, hbb, hc⟩ := H.cells (by omega)
      subst ha
      have cy := hc k y hy
      have HY := Lib.hid hy
      clear hc H hy
      by_cases q : y = x
      · have hq : (y == x) = true := by simpa using q
        have hm : Hid (x ∈ xs) := Lib.hid (q ▸ List.mem_of_getElem? HY.out)
        clear q
        go_wp2_with fail
        go_ret
        exact ⟨rb (decide_eq_true hm.out).symm, rfl⟩
      · have hq : (y == x) = false := by simpa using q
        have hnext := Lib.hid (hny.out.succ HY.out q)
        clear q hny
        go_wp2_with fail
        go_round
        case rel => exact ⟨k + 1, by omega, by go_num, hnext⟩
        case measure => simp [intOf]; omega
    · have hm : Hid (¬ x ∈ xs) := Lib.hid (notIn_all hny.out (by have := hlen.out; omega))
      clear H
      go_wp2_with fail
      go_ret
      exact ⟨rb (decide_eq_false hm.out).symm, rfl⟩
theorem hasInt_yes {v : Value} {xs : List Int} {w : World} (h : Ints w v xs) {x : Int} (hx : x ∈ xs) : Calls Try.prog 54 #[v, .int .i64 x] w fun e w' => e = .returned (.bool true) ∧ w = w' :=
  (hasInt_c h x).mono fun _ _ ⟨he, hw⟩ => ⟨he.trans (rb (decide_eq_true hx)), hw⟩
end Go.Proofs.Ythnilifepiihjaa

/-
  The walk of FnGroups. Conditions: none but that the code reads as bytes.
-/
namespace Go.Proofs.Ythnilifepiihjaa
open Go.RowKit
set_option linter.unusedVariables false

set_option maxRecDepth 100000 in
set_option maxHeartbeats 16000000 in
theorem wk_FnGroups {v : Value} {bs : List Int} {w : World} (h : Bytes w v bs) (hf : BytesFit bs) :
    Calls Try.prog 6 #[v] w fun e w' => e = .returned (.bool true) ∧ Below w.heap.size w w' := by
  by_cases hbig : 4096 < bs.length
  · have HB := Lib.hid (big_yes h hbig)
    go_enter Try.func6, Try.ntmps6
    go_wp2_with fail
    refine HB.out.mono ?_
    rintro e w' ⟨rfl, rfl⟩
    go_wp2_with fail
    go_ret
    exact ⟨rfl, Below.refl _ _⟩
  · have BB : Below w.heap.size w w := Below.refl _ _
    have HB := Lib.hid (big_no h (by omega))
    have hb0 := Lib.hid h
    clear h hbig
    go_enter Try.func6, Try.ntmps6
    go_wp2_with fail
    refine HB.out.mono ?_
    rintro e w0 ⟨rfl, rfl⟩
    clear HB
    go_wp2_with fail
    refine (DrawGroupsOf_c (hb0.out.below BB) hf).mono ?_
    rintro e w2 ⟨u, ps, lim, rfl, ho, hl13, hD, hll, q2⟩
    replace BB := below_next BB (Nat.le_refl _) q2
    clear q2
    have PS := Lib.hid ho.persons
    have fps := Lib.hid hD.fit
    clear ho hD hll
    have H1 := Lib.hid (fun (w : World) (h : Persons w u ps) => impl_Groups h fps.out lim)
    have H2 := Lib.hid (fun (w : World) (h : Persons w u ps) => spec_Groups h fps.out lim)
    have H3 := Lib.hid (fun (w : World) (h : Persons w u ps) => impl_Alike h fps.out lim)
    have H4 := Lib.hid (fun (w : World) (h : Persons w u ps) => spec_Alike h fps.out lim)
    have H5 := Lib.hid (fun (w : World) (h : Persons w u ps) => impl_Joined h fps.out lim)
    have H6 := Lib.hid (fun (w : World) (h : Persons w u ps) => spec_Joined h fps.out lim)
    have H7 := Lib.hid (fun (w : World) (h : Persons w u ps) => impl_Count h fps.out lim)
    have H8 := Lib.hid (fun (w : World) (h : Persons w u ps) => spec_Count h fps.out lim)
    have hok : Hid (jcode ps lim [] = 0 → GroupsOk ps lim (gpI ps lim) (apI ps lim) (jlI ps lim) (cdI ps lim)) := Lib.hid fun h => groups_ok h
    generalize gpI ps lim = g at *
    generalize apI ps lim = pr at *
    generalize jlI ps lim = js at *
    generalize cdI ps lim = nd at *
    generalize jcode ps lim [] = bad at *
    go_wp2_with fail
    refine (H1.out _ PS.out).mono ?_
    rintro e w3 ⟨gv, rfl, ht, q3⟩
    replace BB := below_next BB (Nat.le_refl _) q3
    replace PS := Lib.hid (PS.out.below q3)
    clear q3
    have GI := Lib.hid ht.reads
    clear ht H1
    go_wp2_with fail
    refine (H2.out _ PS.out).mono ?_
    rintro e w4 ⟨gm, rfl, ht, q4⟩
    replace BB := below_next BB (Nat.le_refl _) q4
    replace PS := Lib.hid (PS.out.below q4)
    replace GI := Lib.hid (GI.out.below q4)
    clear q4
    have GM := Lib.hid ht.reads
    clear ht H2
    go_wp2_with fail
    refine (H3.out _ PS.out).mono ?_
    rintro e w5 ⟨pv, rfl, ht, q5⟩
    replace BB := below_next BB (Nat.le_refl _) q5
    replace PS := Lib.hid (PS.out.below q5)
    replace GI := Lib.hid (GI.out.below q5)
    replace GM := Lib.hid (GM.out.below q5)
    clear q5
    have PI := Lib.hid ht.reads
    clear ht H3
    go_wp2_with fail
    refine (H4.out _ PS.out).mono ?_
    rintro e w6 ⟨pm, rfl, ht, q6⟩
    replace BB := below_next BB (Nat.le_refl _) q6
    replace PS := Lib.hid (PS.out.below q6)
    replace GI := Lib.hid (GI.out.below q6)
    replace GM := Lib.hid (GM.out.below q6)
    replace PI := Lib.hid (PI.out.below q6)
    clear q6
    have PM := Lib.hid ht.reads
    clear ht H4
    go_wp2_with fail
    refine (H5.out _ PS.out).mono ?_
    rintro e w7 ⟨jv, rfl, ho, q7⟩
    replace BB := below_next BB (Nat.le_refl _) q7
    replace PS := Lib.hid (PS.out.below q7)
    replace GI := Lib.hid (GI.out.below q7)
    replace GM := Lib.hid (GM.out.below q7)
    replace PI := Lib.hid (PI.out.below q7)
    replace PM := Lib.hid (PM.out.below q7)
    clear q7
    have JI : Hid (Persons _ jv js) := Lib.hid (Row.own ho)
    clear ho H5
    go_wp2_with fail
    refine (H6.out _ PS.out).mono ?_
    rintro e w8 ⟨jm, rfl, ho, q8⟩
    replace BB := below_next BB (Nat.le_refl _) q8
    replace PS := Lib.hid (PS.out.below q8)
    replace GI := Lib.hid (GI.out.below q8)
    replace GM := Lib.hid (GM.out.below q8)
    replace PI := Lib.hid (PI.out.below q8)
    replace PM := Lib.hid (PM.out.below q8)
    replace JI := Lib.hid (JI.out.below q8)
    clear q8
    have JM : Hid (Persons _ jm js) := Lib.hid (Row.own ho)
    clear ho H6
    go_wp2_with fail
    refine (H7.out _ PS.out).mono ?_
    rintro e w9 ⟨rfl, q9⟩
    replace BB := below_next BB (Nat.le_refl _) q9
    replace PS := Lib.hid (PS.out.below q9)
    replace GI := Lib.hid (GI.out.below q9)
    replace GM := Lib.hid (GM.out.below q9)
    replace PI := Lib.hid (PI.out.below q9)
    replace PM := Lib.hid (PM.out.below q9)
    replace JI := Lib.hid (JI.out.below q9)
    replace JM := Lib.hid (JM.out.below q9)
    clear q9
    go_wp2_with fail
    refine (H8.out _ PS.out).mono ?_
    rintro e w10 ⟨rfl, q10⟩
    replace BB := below_next BB (Nat.le_refl _) q10
    replace PS := Lib.hid (PS.out.below q10)
    replace GI := Lib.hid (GI.out.below q10)
    replace GM := Lib.hid (GM.out.below q10)
    replace PI := Lib.hid (PI.out.below q10)
    replace PM := Lib.hid (PM.out.below q10)
    replace JI := Lib.hid (JI.out.below q10)
    replace JM := Lib.hid (JM.out.below q10)
    clear q10
    clear H7 H8
    go_wp2_with fail
    refine (DrawLeastSafeLimit_c (hb0.out.below BB) hf).mono ?_
    rintro e w11 ⟨ux, xs, rfl, ho, hx13, hD, q11⟩
    replace BB := below_next BB (Nat.le_refl _) q11
    replace PS := Lib.hid (PS.out.below q11)
    replace GI := Lib.hid (GI.out.below q11)
    replace GM := Lib.hid (GM.out.below q11)
    replace PI := Lib.hid (PI.out.below q11)
    replace PM := Lib.hid (PM.out.below q11)
    replace JI := Lib.hid (JI.out.below q11)
    replace JM := Lib.hid (JM.out.below q11)
    clear q11
    have XS := Lib.hid ho.persons
    have fxs := Lib.hid hD.fit
    clear ho hD hx13
    have H1 := Lib.hid (fun (w : World) (h : Persons w ux xs) => impl_Least h fxs.out)
    have H2 := Lib.hid (fun (w : World) (h : Persons w ux xs) => spec_Least h fxs.out)
    have H3 := Lib.hid (fun (w : World) (h : Persons w ux xs) => impl_Alike h fxs.out (lsiI xs))
    have hsafe : Hid (lsiE xs = 0 → jcode xs (lsiI xs) [] = 0 ∧ apI xs (lsiI xs) = []) := Lib.hid fun h => safe_ok h
    generalize apI xs (lsiI xs) = none_ at *
    generalize jcode xs (lsiI xs) [] = nine at *
    generalize lsiI xs = l0 at *
    generalize lsiE xs = seven at *
    go_wp2_with fail
    refine (H1.out _ XS.out).mono ?_
    rintro e w12 ⟨rfl, q12⟩
    replace BB := below_next BB (Nat.le_refl _) q12
    replace PS := Lib.hid (PS.out.below q12)
    replace GI := Lib.hid (GI.out.below q12)
    replace GM := Lib.hid (GM.out.below q12)
    replace PI := Lib.hid (PI.out.below q12)
    replace PM := Lib.hid (PM.out.below q12)
    replace JI := Lib.hid (JI.out.below q12)
    replace JM := Lib.hid (JM.out.below q12)
    replace XS := Lib.hid (XS.out.below q12)
    clear q12
    go_wp2_with fail
    refine (H2.out _ XS.out).mono ?_
    rintro e w13 ⟨rfl, q13⟩
    replace BB := below_next BB (Nat.le_refl _) q13
    replace PS := Lib.hid (PS.out.below q13)
    replace GI := Lib.hid (GI.out.below q13)
    replace GM := Lib.hid (GM.out.below q13)
    replace PI := Lib.hid (PI.out.below q13)
    replace PM := Lib.hid (PM.out.below q13)
    replace JI := Lib.hid (JI.out.below q13)
    replace JM := Lib.hid (JM.out.below q13)
    replace XS := Lib.hid (XS.out.below q13)
    clear q13
    clear H1 H2
    go_wp2_with fail
    refine (likeTables_same GI.out GM.out).mono ?_
    rintro e w14 ⟨rfl, q14⟩
    replace BB := below_next BB (Nat.le_refl _) q14
    replace PS := Lib.hid (PS.out.below q14)
    replace GI := Lib.hid (GI.out.below q14)
    replace GM := Lib.hid (GM.out.below q14)
    replace PI := Lib.hid (PI.out.below q14)
    replace PM := Lib.hid (PM.out.below q14)
    replace JI := Lib.hid (JI.out.below q14)
    replace JM := Lib.hid (JM.out.below q14)
    replace XS := Lib.hid (XS.out.below q14)
    clear q14
    clear GM
    go_wp2_with fail
    refine (likeTables_same PI.out PM.out).mono ?_
    rintro e w15 ⟨rfl, q15⟩
    replace BB := below_next BB (Nat.le_refl _) q15
    replace PS := Lib.hid (PS.out.below q15)
    replace GI := Lib.hid (GI.out.below q15)
    replace PI := Lib.hid (PI.out.below q15)
    replace PM := Lib.hid (PM.out.below q15)
    replace JI := Lib.hid (JI.out.below q15)
    replace JM := Lib.hid (JM.out.below q15)
    replace XS := Lib.hid (XS.out.below q15)
    clear q15
    clear PM
    go_wp2_with fail
    refine (likePersons_same JI.out JM.out).mono ?_
    rintro e w16 ⟨rfl, q16⟩
    replace BB := below_next BB (Nat.le_refl _) q16
    replace PS := Lib.hid (PS.out.below q16)
    replace GI := Lib.hid (GI.out.below q16)
    replace PI := Lib.hid (PI.out.below q16)
    replace JI := Lib.hid (JI.out.below q16)
    replace JM := Lib.hid (JM.out.below q16)
    replace XS := Lib.hid (XS.out.below q16)
    clear q16
    clear JM
    by_cases qo : seven = 0
    · subst qo
      obtain ⟨rfl, rfl⟩ := hsafe.out rfl
      clear hsafe
      go_wp2_with fail
      refine (H3.out _ XS.out).mono ?_
      rintro e w17 ⟨nv, rfl, ht, q17⟩
      replace BB := below_next BB (Nat.le_refl _) q17
      replace PS := Lib.hid (PS.out.below q17)
      replace GI := Lib.hid (GI.out.below q17)
      replace PI := Lib.hid (PI.out.below q17)
      replace JI := Lib.hid (JI.out.below q17)
      replace XS := Lib.hid (XS.out.below q17)
      clear q17
      have NT := ht.reads
      clear ht H3
      obtain ⟨an, cn, rfl, hcn, hmn⟩ := NT.form
      clear NT
      unfold maxLen at hmn
      by_cases qb : bad = 0
      · subst qb
        obtain ⟨k12, kall, klen, knum, ksame⟩ := hok.out rfl
        clear hok
        obtain ⟨ag, cg, rfl, hcg, hmg⟩ := GI.out.form
        obtain ⟨ap, cp, rfl, hcp, hmp⟩ := PI.out.form
        obtain ⟨aj, nj, cj, rfl, HJ⟩ := JI.out.parts
        obtain ⟨au, nu, cu, rfl, HU⟩ := PS.out.parts
        have hnj : nj = g.length := by rw [← klen, HJ.len]
        subst hnj
        have hcj := HJ.cap
        have hmj := HJ.most
        have hcu := HU.cap
        have hmu := HU.most
        have hnu := HU.len
        rw [hnu] at k12 kall knum
        subst knum
        clear HJ HU JI PS XS klen
        unfold maxLen at hmg hmp hmj hmu
        have htl : Hid (∀ k, totTo g k ≤ nu) := Lib.hid fun k => kall ▸ totTo_le g k
        have hta : Hid (totTo g g.length = nu) := Lib.hid ((totTo_all g).trans kall)
        replace ksame := Lib.hid ksame
        replace hnu := Lib.hid hnu
        clear kall
        generalize hm : g.length = m at *
        generalize hmp_ : pr.length = mp at *
        replace hm := Lib.hid hm
        replace hmp_ := Lib.hid hmp_
        go_wp2_with fail
        go_loopw [28, 29] (fun s i wr => ∃ j : Nat, j ≤ m ∧ i = .int .i64 j ∧ s = .int .i64 (totTo g j : Nat) ∧ Hid (TabR wr (.slice ag m cg) g) ∧ Hid (TabR wr (.slice ap mp cp) pr) ∧ Below w.heap.size w wr) (fun _ i _ => m - (intOf i).toNat)
        case atStart => exact ⟨0, Nat.zero_le _, rfl, by rw [totTo_zero]; rfl, GI, PI, BB⟩
        case round =>
          clear GI PI BB
          obtain ⟨j, hj, rfl, rfl, GI, PI, BB⟩ := hrel
          by_cases hlt : j < m
          · obtain ⟨wo, rfl⟩ : ∃ wo : World, wo = wr := ⟨_, rfl⟩
            have GT := GI.out.at_ hlt
            obtain ⟨bg, og, gx, xs1, rfl, hbg, cg0, hgx, hgi⟩ := GT
            obtain ⟨ax, nx, cx, rfl, HX⟩ := hgi.parts
            have hs : Hid (totTo g (j + 1) = totTo g j + nx) := Lib.hid (by have := totTo_succ hgx; rw [HX.len] at this; exact this)
            have hcx := HX.cap
            have hmx := HX.most
            unfold maxLen at hmx
            have ht1 : totTo g j + nx ≤ nu := by have := htl.out (j + 1); have := hs.out; omega
            generalize totTo g j = s0 at *
            clear HX hgi
            replace hgx := Lib.hid hgx
            go_wp2_with fail
            clear cg0
            go_loopw [30] (fun i wr => ∃ k : Nat, k ≤ mp ∧ i = .int .i64 k ∧ Hid (TabR wr (.slice (some ⟨bg, og, none⟩) m cg) g) ∧ Hid (TabR wr (.slice ap mp cp) pr) ∧ Below w.heap.size w wr) (fun i _ => mp - (intOf i).toNat)
            case atStart => exact ⟨0, Nat.zero_le _, rfl, GI, PI, BB⟩
            case round =>
              clear GI PI BB hbg
              obtain ⟨k, hk, rfl, GI, PI, BB⟩ := hrel
              by_cases hkt : k < mp
              · obtain ⟨bg1, og1, gu, xs2, hag, hbg, cg0, hgx2, hgi⟩ := GI.out.at_ hlt
                injection hag with hag
                injection hag with e1 e2
                subst e1 e2
                obtain rfl : xs1 = xs2 := by rw [hgx.out] at hgx2; injection hgx2
                obtain ⟨bp, op, pu, pxs, rfl, hbp, cp0, hpx, hpi⟩ := PI.out.at_ hkt
                obtain ⟨x, y, rfl, hxy⟩ := ksame.out j k xs1 pxs hgx.out hpx
                obtain ⟨a2, n2, c2, rfl, HP⟩ := hpi.parts
                have hn2 : n2 = 2 := by rw [← HP.len]; rfl
                subst hn2
                have hc2 := HP.cap
                have hm2 := HP.most
                unfold maxLen at hm2
                obtain ⟨b2, o2, rfl, hb2, hcell⟩ := HP.cells (by omega)
                have d0 := hcell 0 x rfl
                have d1 := hcell 1 y rfl
                rw [Nat.add_zero] at d0
                have HA := Lib.hid (fun n : Ext wr => (hasInt_c (hgi.below (ext_below wr n)) x).mono fun e w' (h : e = .returned (.bool (decide (x ∈ xs1))) ∧ extW wr n = w') => show e = .returned (.bool (decide (x ∈ xs1))) ∧ Below (extW wr n).heap.size (extW wr n) w' from ⟨h.1, h.2 ▸ Below.refl _ _⟩)
                have HB := Lib.hid (fun n : Ext wr => (hasInt_c (hgi.below (ext_below wr n)) y).mono fun e w' (h : e = .returned (.bool (decide (y ∈ xs1))) ∧ extW wr n = w') => show e = .returned (.bool (decide (y ∈ xs1))) ∧ Below (extW wr n).heap.size (extW wr n) w' from ⟨h.1, h.2 ▸ Below.refl _ _⟩)
                rw [hxy] at HA
                generalize decide (y ∈ xs1) = yb at *
                clear hgx2 hgi hpx hxy hpi HP hcell
                go_wp2_with fail
                refine region_ext (by kernel_rfl) (by kernel_rfl) ?_
                repeat (go_big_quiet_step (first | (with_reducible_and_instances exact ext_call (HA.out _)) | (with_reducible_and_instances exact ext_call (HB.out _))))
                clear d0 d1 cg0 cp0 hbg hbp hb2
                refine wpQuiet_nil ?_
                rintro _ ⟨nx1, rfl⟩
                have bx := ext_below _ nx1
                generalize extW _ nx1 = wx at *
                replace BB := below_next BB (Nat.le_refl _) bx
                replace GI := Lib.hid (GI.out.below bx)
                replace PI := Lib.hid (PI.out.below bx)
                clear bx HA HB
                go_wp2_with fail
                go_roundw
                case rel => exact ⟨k + 1, by omega, by go_num, GI, PI, BB⟩
                case measure => simp [intOf]; omega
              · obtain rfl : k = mp := by omega
                go_wp2_with fail
                go_roundw
                case rel => exact ⟨j + 1, by omega, by go_num, by rw [hs.out]; go_num, GI, PI, BB⟩
                case measure => simp [intOf]; omega
          · obtain rfl : j = m := by omega
            rw [hta.out]
            clear hlt
            go_wp2_with fail
            go_ret
            exact ⟨rfl, BB⟩
      · have qbn : (bad != 0) = true := by simpa using qb
        clear qb hok
        go_wp2_with fail
        go_ret
        exact ⟨rfl, BB⟩
    · have qon : (seven == 0) = false := by simpa using qo
      clear qo hsafe H3
      by_cases qb : bad = 0
      · subst qb
        obtain ⟨k12, kall, klen, knum, ksame⟩ := hok.out rfl
        clear hok
        obtain ⟨ag, cg, rfl, hcg, hmg⟩ := GI.out.form
        obtain ⟨ap, cp, rfl, hcp, hmp⟩ := PI.out.form
        obtain ⟨aj, nj, cj, rfl, HJ⟩ := JI.out.parts
        obtain ⟨au, nu, cu, rfl, HU⟩ := PS.out.parts
        have hnj : nj = g.length := by rw [← klen, HJ.len]
        subst hnj
        have hcj := HJ.cap
        have hmj := HJ.most
        have hcu := HU.cap
        have hmu := HU.most
        have hnu := HU.len
        rw [hnu] at k12 kall knum
        subst knum
        clear HJ HU JI PS XS klen
        unfold maxLen at hmg hmp hmj hmu
        have htl : Hid (∀ k, totTo g k ≤ nu) := Lib.hid fun k => kall ▸ totTo_le g k
        have hta : Hid (totTo g g.length = nu) := Lib.hid ((totTo_all g).trans kall)
        replace ksame := Lib.hid ksame
        replace hnu := Lib.hid hnu
        clear kall
        generalize hm : g.length = m at *
        generalize hmp_ : pr.length = mp at *
        replace hm := Lib.hid hm
        replace hmp_ := Lib.hid hmp_
        go_wp2_with fail
        go_loopw [28, 29] (fun s i wr => ∃ j : Nat, j ≤ m ∧ i = .int .i64 j ∧ s = .int .i64 (totTo g j : Nat) ∧ Hid (TabR wr (.slice ag m cg) g) ∧ Hid (TabR wr (.slice ap mp cp) pr) ∧ Below w.heap.size w wr) (fun _ i _ => m - (intOf i).toNat)
        case atStart => exact ⟨0, Nat.zero_le _, rfl, by rw [totTo_zero]; rfl, GI, PI, BB⟩
        case round =>
          clear GI PI BB
          obtain ⟨j, hj, rfl, rfl, GI, PI, BB⟩ := hrel
          by_cases hlt : j < m
          · obtain ⟨wo, rfl⟩ : ∃ wo : World, wo = wr := ⟨_, rfl⟩
            have GT := GI.out.at_ hlt
            obtain ⟨bg, og, gx, xs1, rfl, hbg, cg0, hgx, hgi⟩ := GT
            obtain ⟨ax, nx, cx, rfl, HX⟩ := hgi.parts
            have hs : Hid (totTo g (j + 1) = totTo g j + nx) := Lib.hid (by have := totTo_succ hgx; rw [HX.len] at this; exact this)
            have hcx := HX.cap
            have hmx := HX.most
            unfold maxLen at hmx
            have ht1 : totTo g j + nx ≤ nu := by have := htl.out (j + 1); have := hs.out; omega
            generalize totTo g j = s0 at *
            clear HX hgi
            replace hgx := Lib.hid hgx
            go_wp2_with fail
            clear cg0
            go_loopw [30] (fun i wr => ∃ k : Nat, k ≤ mp ∧ i = .int .i64 k ∧ Hid (TabR wr (.slice (some ⟨bg, og, none⟩) m cg) g) ∧ Hid (TabR wr (.slice ap mp cp) pr) ∧ Below w.heap.size w wr) (fun i _ => mp - (intOf i).toNat)
            case atStart => exact ⟨0, Nat.zero_le _, rfl, GI, PI, BB⟩
            case round =>
              clear GI PI BB hbg
              obtain ⟨k, hk, rfl, GI, PI, BB⟩ := hrel
              by_cases hkt : k < mp
              · obtain ⟨bg1, og1, gu, xs2, hag, hbg, cg0, hgx2, hgi⟩ := GI.out.at_ hlt
                injection hag with hag
                injection hag with e1 e2
                subst e1 e2
                obtain rfl : xs1 = xs2 := by rw [hgx.out] at hgx2; injection hgx2
                obtain ⟨bp, op, pu, pxs, rfl, hbp, cp0, hpx, hpi⟩ := PI.out.at_ hkt
                obtain ⟨x, y, rfl, hxy⟩ := ksame.out j k xs1 pxs hgx.out hpx
                obtain ⟨a2, n2, c2, rfl, HP⟩ := hpi.parts
                have hn2 : n2 = 2 := by rw [← HP.len]; rfl
                subst hn2
                have hc2 := HP.cap
                have hm2 := HP.most
                unfold maxLen at hm2
                obtain ⟨b2, o2, rfl, hb2, hcell⟩ := HP.cells (by omega)
                have d0 := hcell 0 x rfl
                have d1 := hcell 1 y rfl
                rw [Nat.add_zero] at d0
                have HA := Lib.hid (fun n : Ext wr => (hasInt_c (hgi.below (ext_below wr n)) x).mono fun e w' (h : e = .returned (.bool (decide (x ∈ xs1))) ∧ extW wr n = w') => show e = .returned (.bool (decide (x ∈ xs1))) ∧ Below (extW wr n).heap.size (extW wr n) w' from ⟨h.1, h.2 ▸ Below.refl _ _⟩)
                have HB := Lib.hid (fun n : Ext wr => (hasInt_c (hgi.below (ext_below wr n)) y).mono fun e w' (h : e = .returned (.bool (decide (y ∈ xs1))) ∧ extW wr n = w') => show e = .returned (.bool (decide (y ∈ xs1))) ∧ Below (extW wr n).heap.size (extW wr n) w' from ⟨h.1, h.2 ▸ Below.refl _ _⟩)
                rw [hxy] at HA
                generalize decide (y ∈ xs1) = yb at *
                clear hgx2 hgi hpx hxy hpi HP hcell
                go_wp2_with fail
                refine region_ext (by kernel_rfl) (by kernel_rfl) ?_
                repeat (go_big_quiet_step (first | (with_reducible_and_instances exact ext_call (HA.out _)) | (with_reducible_and_instances exact ext_call (HB.out _))))
                clear d0 d1 cg0 cp0 hbg hbp hb2
                refine wpQuiet_nil ?_
                rintro _ ⟨nx1, rfl⟩
                have bx := ext_below _ nx1
                generalize extW _ nx1 = wx at *
                replace BB := below_next BB (Nat.le_refl _) bx
                replace GI := Lib.hid (GI.out.below bx)
                replace PI := Lib.hid (PI.out.below bx)
                clear bx HA HB
                go_wp2_with fail
                go_roundw
                case rel => exact ⟨k + 1, by omega, by go_num, GI, PI, BB⟩
                case measure => simp [intOf]; omega
              · obtain rfl : k = mp := by omega
                go_wp2_with fail
                go_roundw
                case rel => exact ⟨j + 1, by omega, by go_num, by rw [hs.out]; go_num, GI, PI, BB⟩
                case measure => simp [intOf]; omega
          · obtain rfl : j = m := by omega
            rw [hta.out]
            clear hlt
            go_wp2_with fail
            go_ret
            exact ⟨rfl, BB⟩
      · have qbn : (bad != 0) = true := by simpa using qb
        clear qb hok
        go_wp2_with fail
        go_ret
        exact ⟨rfl, BB⟩
end Go.Proofs.Ythnilifepiihjaa
