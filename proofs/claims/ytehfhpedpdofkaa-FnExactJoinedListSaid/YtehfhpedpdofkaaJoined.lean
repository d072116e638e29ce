/-
  JoinedList of both packages.
  Conditions: each lemma names its own.
-/
import Derived.Test.YtehfhpedpdofkaaGroups2
import Derived.Test.YtehfhpedpdofkaaPersCopy
import Derived.Test.YtehfhpedpdofkaaResP
namespace Go.Proofs.Ytehfhpedpdofkaa
open Go.RowKit
set_option linter.unusedVariables false

/-- Between base and the end of w nothing turned. -/
def Mid (base : Nat) (w w' : World) : Prop := w.heap.size ≤ w'.heap.size ∧ ∀ b, base ≤ b → b < w.heap.size → w'.heap[b]? = w.heap[b]?
theorem Mid.refl (base : Nat) (w : World) : Mid base w w := ⟨Nat.le_refl _, fun _ _ _ => rfl⟩
theorem Mid.step {base : Nat} {w w1 w2 : World} {o : Obj} {row : Option Nat} (h : Mid base w w1) (hg : (w1.alloc o).grownBy w2 row) (hr : ∀ g, row = some g → g < base ∨ w.heap.size ≤ g) : Mid base w w2 := by
  obtain ⟨h1, h2⟩ := h
  have hs := hg.size
  have ha : (w1.alloc o).heap.size = w1.heap.size + 1 := by simp
  refine ⟨by omega, fun b hb hw => ?_⟩
  rw [hg.block b (by omega) (fun e => by have := hr b e.symm; omega), Below.heap_alloc _ _ _ (by omega)]
  exact h2 b hb hw
theorem own_mid {base size n : Nat} {e : TypeId} {v : Value} {cs : List Value} {w w' : World} (h : w.ownsRow base e size v n cs) (hm : Mid base w w') : w'.ownsRow base e size v n cs := by
  refine ⟨h.1, ?_⟩
  rcases h.2 with hn | ⟨g, cap, cur, hv, hbg, hg, rest⟩
  · exact .inl hn
  · exact .inr ⟨g, cap, cur, hv, hbg, (hm.2 g hbg (Array.getElem?_eq_some_iff.1 hg).1).trans hg, rest⟩
theorem Tab.mid {base : Nat} {v : Value} {L : List (List Int)} {w w' : World} (h : Tab base v L w) (hm : Mid base w w') : Tab base v L w' := by
  obtain ⟨vs, h1, h2, h3, h4⟩ := h
  exact ⟨vs, own_mid h1 hm, fun i u xs hu hx => own_mid (h2 i u xs hu hx) hm, h3, h4⟩
theorem grpsL_first {adj : Nat → Nat → Bool} {n i : Nat} {g : List Int} (h : (grpsL adj n)[i]? = some g) : ∃ a : Nat, a < n ∧ g[0]? = some (a : Int) := by
  unfold grpsL grps at h
  rw [List.map_map, List.getElem?_map] at h
  cases hk : (kprs adj n)[i]? with
  | none => rw [hk] at h; simp at h
  | some a =>
    rw [hk] at h
    simp only [Option.map_some, Option.some.injEq, Function.comp] at h
    have ha := (mem_kprs.1 (List.mem_of_getElem? hk)).1
    obtain ⟨t, ht⟩ := grp_cons (adj := adj) ha
    refine ⟨kpr adj n a, (kpr_mem ha).1, ?_⟩
    rw [← h, ht]
    rfl
def jl (ps : List Per) (L : List (List Int)) (k : Nat) : List Per := (L.take k).map fun g => ps.getD (nth g 0).toNat perZ
theorem jl_step {ps : List Per} {L : List (List Int)} {k a : Nat} {g : List Int} {p : Per} (h : L[k]? = some g) (hg : g[0]? = some (a : Int)) (hp : ps[a]? = some p) : jl ps L (k + 1) = jl ps L k ++ [p] := by
  unfold jl
  rw [List.take_add_one, h, List.map_append]
  congr 1
  simp only [Option.toList, List.map_cons, List.map_nil]
  rw [nth_eq hg]
  rw [show ((a : Int)).toNat = a by omega, getD_per hp]
theorem jl_len (ps : List Per) (L : List (List Int)) {k : Nat} (h : k ≤ L.length) : (jl ps L k).length = k := by
  unfold jl
  rw [List.length_map, List.length_take]
  omega
def jlI (ps : List Per) (l : Int) : List Per := if jcode ps l [] = 0 then jl ps (grpsL (adjB ps l) ps.length) (grpsL (adjB ps l) ps.length).length else []
theorem jlI_cnt (ps : List Per) (l : Int) : P_cnt (jlI ps l) ≤ 1000000 := by
  unfold jlI P_cnt
  by_cases q : jcode ps l [] = 0
  · rw [if_pos q, jl_len _ _ (Nat.le_refl _)]
    have h := persB_len (jcode_ok.1 q).1
    have hgl : (grpsL (adjB ps l) ps.length).length ≤ ps.length := by rw [← grpsTo_all]; exact grpsTo_len (adjB ps l) ps.length ps.length
    omega
  · rw [if_neg q]
    simp
theorem per_cells (w : World) (p : Per) (e : TypeId) : ∀ j u, (perC p)[j]? = some u → (w.alloc (.cells #[.int .i64 p.number, .string p.first, .string p.last, .int .i64 p.born, .int .i64 p.zone] e)).cell? ((⟨w.heap.size, 0, none⟩ : Addr).add j) = some u := by
  intro j u hj
  have hg := heap_alloc_new w (.cells #[.int .i64 p.number, .string p.first, .string p.last, .int .i64 p.born, .int .i64 p.zone] e)
  rw [Addr.add_lit, cell_of_row _ _ _ _ _ _ hg]
  rw [← hj, Nat.zero_add]
  unfold perC
  simp

set_option maxRecDepth 100000 in
set_option maxHeartbeats 4000000 in
theorem spec_Joined {v : Value} {ps : List Per} {w : World} (h : Persons w v ps) (hp : PersFit ps) (l : Int) :
    Calls Try.prog 26 #[v, .int .i64 l] w fun e w' => ∃ u, e = .returned (.tuple #[u, .int .i64 (jcode ps l [])]) ∧ w'.ownsRow w.heap.size 56 5 u (jlI ps l).length ((jlI ps l).flatMap perC) ∧ Below w.heap.size w w' := by
  have HC := spec_l05Limit h hp l
  have HG := fun (wr : World) (b : Below w.heap.size w wr) (hB : persB ps = true) => spec_groups (h.below b) hp hB l
  obtain ⟨i0, hi, hz0, hz1, hz2⟩ := info_parts info_iper
  obtain ⟨aa, n, c, rfl, H⟩ := h.parts
  have hlen := Lib.hid H.len
  have hcap := H.cap
  have hmost := H.most
  unfold maxLen at hmost
  have HP := Lib.hid h
  clear H h hp
  by_cases q : jcode ps l [] = 0
  · obtain ⟨hB, _, _⟩ := jcode_ok.1 q
    have hn12 : ps.length ≤ 12 := persB_len hB
    have R1 : Hid (jlI ps l = jl ps (grpsL (adjB ps l) ps.length) (grpsL (adjB ps l) ps.length).length) := Lib.hid (by unfold jlI; rw [if_pos q])
    have hgl : (grpsL (adjB ps l) ps.length).length ≤ ps.length := by rw [← grpsTo_all]; exact grpsTo_len (adjB ps l) ps.length ps.length
    have hfst := Lib.hid (fun i g h => grpsL_first (adj := adjB ps l) (n := ps.length) (i := i) (g := g) h)
    rw [q] at HC ⊢
    rw [R1.out]
    replace HC := Lib.hid HC
    replace HG := Lib.hid (fun (wr : World) (b : Below w.heap.size w wr) => HG wr b hB)
    clear q hB R1
    generalize grpsL (adjB ps l) ps.length = L at *
    have hjl := Lib.hid (fun k (h : k ≤ L.length) => jl_len ps L h)
    generalize hm : L.length = m at *
    replace hm := Lib.hid hm
    go_enter Try.func26, Try.ntmps26
    go_wp2_with fail
    refine HC.out.mono ?_
    rintro e w1 ⟨rfl, b1⟩
    have hO : Hid ((w1.alloc (.cells #[] 56)).ownsRow w.heap.size 56 5 (.slice (some ⟨w1.heap.size, 0, none⟩) 0 0) (jl ps L 0).length ((jl ps L 0).flatMap perC)) := Lib.hid (World.ownsRow_lit w1 #[] 0 b1.size (by decide) rfl)
    have BB := b1.alloc b1.size (.cells #[] 56)
    clear b1 HC
    go_wp2_with fail
    refine (HG.out _ BB).mono ?_
    rintro e w2 ⟨ut, rfl, ht, b2⟩
    replace hO := Lib.hid (own_below hO.out b2)
    replace BB := below_next BB (Nat.le_refl _) b2
    obtain ⟨aT, cT, rfl, hcT, hmT, hfT⟩ := ht.form
    rw [hm.out] at hcT hfT ⊢
    unfold maxLen at hmT
    have hbs : (w1.alloc (.cells #[] 56)).heap.size = w1.heap.size + 1 := by simp
    rw [hbs] at ht
    have HT := Lib.hid ht
    have hob : ∀ g, (Value.slice (some ⟨w1.heap.size, 0, none⟩) 0 0).ownBlock = some g → g < w1.heap.size + 1 ∨ w2.heap.size ≤ g := by
      intro g e
      simp [Value.ownBlock] at e
      omega
    replace hob := Lib.hid hob
    have hM := Lib.hid (Mid.refl (w1.heap.size + 1) w2)
    clear b2 hbs hfT ht HG
    go_wp2_with fail
    go_loopw [7, 9] (fun u i wr => ∃ k : Nat, k ≤ m ∧ i = .int .i64 k ∧ Hid (wr.ownsRow w.heap.size 56 5 u (jl ps L k).length ((jl ps L k).flatMap perC)) ∧ Hid (Mid (w1.heap.size + 1) w2 wr) ∧ Hid (∀ g, u.ownBlock = some g → g < w1.heap.size + 1 ∨ w2.heap.size ≤ g) ∧ Below w.heap.size w wr) (fun _ i _ => m - (intOf i).toNat)
    case atStart => exact ⟨0, Nat.zero_le _, rfl, hO, hM, hob, BB⟩
    case round =>
      clear hO hM hob BB
      obtain ⟨k, hk, rfl, hO, hM, hob, BB⟩ := hrel
      rename_i wr
      by_cases hlt : k < m
      · have HTR := (HT.out.mid hM.out).reads
        rw [show L.length = m from hm.out] at *
        obtain ⟨bt, ot, x, xs, hat, hbt, c0, hx, hix⟩ := HTR.at_ hlt
        subst hat
        obtain ⟨a, ha, hg0⟩ := hfst.out k xs hx
        obtain ⟨ax, nx, cx, rfl, HX⟩ := hix.parts
        have hnx : 0 < nx := by have := HX.len; have := (List.getElem?_eq_some_iff.1 hg0).1; omega
        obtain ⟨bx, ox, rfl, hbx, hcx⟩ := HX.cells hnx
        have d0 := hcx 0 _ hg0
        rw [Nat.add_zero] at d0
        have hcX := HX.cap
        have hmX := HX.most
        unfold maxLen at hmX
        obtain ⟨p, hp⟩ := per_at (ps := ps) (k := a) ha
        have hst := Lib.hid (jl_step hx hg0 hp)
        have hl := hjl.out k hk
        obtain ⟨b, o, rfl⟩ := HP.out.form.2.2.2 (by have := hlen.out; omega)
        obtain ⟨hbb, p0, p1, p2, p3, p4⟩ := (HP.out.below BB).at_ hp
        have ho1 := hO.out
        have hsz := BB.size
        have han : (a : Int) < n := by have := hlen.out; omega
        clear HTR hx hix HX hcx hg0 hp
        go_wp2_with (at_builtin; refine wpList_append_own_at _ rfl _ _ 26 rfl w.heap.size 56 i0 (.agg #[.int .i64 0, .string ByteArray.empty, .string ByteArray.empty, .int .i64 0, .int .i64 0]) 5 56 Try.underlying26 hi hz0 hz1 hz2 rfl (by decide) _ _ _ rfl (World.ownsRow.alloc ho1 _) ⟨wr.heap.size, 0, none⟩ 1 1 (perC p) rfl rfl ?c1 ?c2 ?c3 ?c4 ?c5 ?_)
        case c1 =>
          intro j u h
          unfold perC at h
          exact h
        case c2 => intro u hu; unfold perC at hu; simp at hu; rcases hu with rfl | rfl | rfl | rfl | rfl <;> rfl
        case c3 => unfold maxLen; omega
        case c4 => omega
        case c5 => omega
        intro v' w5 hown' hgrow _ hat
        have hM2 := Lib.hid (hM.out.step hgrow hob.out)
        have hob2 : Hid (∀ g, v'.ownBlock = some g → g < w1.heap.size + 1 ∨ w2.heap.size ≤ g) := Lib.hid (by
          intro g e
          rcases hat with h | h
          · exact hob.out g (by rw [← h]; exact e)
          · rw [h] at e
            injection e with e
            have := hM.out.1
            right
            first | omega | (simp at e; omega))
        have hO2 : Hid (w5.ownsRow w.heap.size 56 5 v' (jl ps L (k + 1)).length ((jl ps L (k + 1)).flatMap perC)) := Lib.hid (by
          rw [hst.out, List.length_append, List.flatMap_append, hl]
          simpa using hown')
        have BB2 := below_append BB hsz ho1 hgrow
        clear hown' hgrow hat ho1 hO hM hob BB hbt hbx hbb hl
        go_wp2_with fail
        clear c0 d0 p0 p1 p2 p3 p4
        go_roundw
        case rel => exact ⟨k + 1, by omega, by go_num, hO2, hM2, hob2, BB2⟩
        case measure => simp [intOf]; omega
      · obtain rfl : k = m := by omega
        clear hlt
        go_wp2_with fail
        go_ret2
        exact ⟨_, rfl, hO.out, BB⟩
  · have R1 : Hid (jlI ps l = []) := Lib.hid (by unfold jlI; rw [if_neg q])
    have q1 : (jcode ps l [] != 0) = true := by simpa using q
    rw [R1.out]
    replace HC := Lib.hid HC
    clear q R1 HG
    generalize jcode ps l [] = cc at *
    go_enter Try.func26, Try.ntmps26
    go_wp2_with fail
    refine HC.out.mono ?_
    rintro e w1 ⟨rfl, b1⟩
    go_wp2_with fail
    go_ret2
    exact ⟨_, rfl, World.ownsRow_nil _ _ _ _, b1⟩
set_option maxRecDepth 100000 in
set_option maxHeartbeats 4000000 in
theorem impl_Joined {v : Value} {ps : List Per} {w : World} (h : Persons w v ps) (hp : PersFit ps) (l : Int) :
    Calls Try.prog 27 #[v, .int .i64 l] w fun e w' => ∃ u, e = .returned (.tuple #[u, .int .i64 (jcode ps l [])]) ∧ w'.ownsRow w.heap.size 56 5 u (jlI ps l).length ((jlI ps l).flatMap perC) ∧ Below w.heap.size w w' := by
  have HC := impl_joinCode h hp (ints_nil w) l
  have HG := fun (wr : World) (b : Below w.heap.size w wr) (hB : persB ps = true) => impl_groups (h.below b) hp hB l
  obtain ⟨i0, hi, hz0, hz1, hz2⟩ := info_parts info_iper
  obtain ⟨aa, n, c, rfl, H⟩ := h.parts
  have hlen := Lib.hid H.len
  have hcap := H.cap
  have hmost := H.most
  unfold maxLen at hmost
  have HP := Lib.hid h
  clear H h hp
  by_cases q : jcode ps l [] = 0
  · obtain ⟨hB, _, _⟩ := jcode_ok.1 q
    have hn12 : ps.length ≤ 12 := persB_len hB
    have R1 : Hid (jlI ps l = jl ps (grpsL (adjB ps l) ps.length) (grpsL (adjB ps l) ps.length).length) := Lib.hid (by unfold jlI; rw [if_pos q])
    have hgl : (grpsL (adjB ps l) ps.length).length ≤ ps.length := by rw [← grpsTo_all]; exact grpsTo_len (adjB ps l) ps.length ps.length
    have hfst := Lib.hid (fun i g h => grpsL_first (adj := adjB ps l) (n := ps.length) (i := i) (g := g) h)
    rw [q] at HC ⊢
    rw [R1.out]
    replace HC := Lib.hid HC
    replace HG := Lib.hid (fun (wr : World) (b : Below w.heap.size w wr) => HG wr b hB)
    clear q hB R1
    generalize grpsL (adjB ps l) ps.length = L at *
    have hjl := Lib.hid (fun k (h : k ≤ L.length) => jl_len ps L h)
    generalize hm : L.length = m at *
    replace hm := Lib.hid hm
    go_enter Try.func27, Try.ntmps27
    go_wp2_with fail
    refine HC.out.mono ?_
    rintro e w1 ⟨rfl, b1⟩
    have hO : Hid ((w1.alloc (.cells #[] 56)).ownsRow w.heap.size 56 5 (.slice (some ⟨w1.heap.size, 0, none⟩) 0 0) (jl ps L 0).length ((jl ps L 0).flatMap perC)) := Lib.hid (World.ownsRow_lit w1 #[] 0 b1.size (by decide) rfl)
    have BB := b1.alloc b1.size (.cells #[] 56)
    clear b1 HC
    go_wp2_with fail
    refine (HG.out _ BB).mono ?_
    rintro e w2 ⟨ut, rfl, ht, b2⟩
    replace hO := Lib.hid (own_below hO.out b2)
    replace BB := below_next BB (Nat.le_refl _) b2
    obtain ⟨aT, cT, rfl, hcT, hmT, hfT⟩ := ht.form
    rw [hm.out] at hcT hfT ⊢
    unfold maxLen at hmT
    have hbs : (w1.alloc (.cells #[] 56)).heap.size = w1.heap.size + 1 := by simp
    rw [hbs] at ht
    have HT := Lib.hid ht
    have hob : ∀ g, (Value.slice (some ⟨w1.heap.size, 0, none⟩) 0 0).ownBlock = some g → g < w1.heap.size + 1 ∨ w2.heap.size ≤ g := by
      intro g e
      simp [Value.ownBlock] at e
      omega
    replace hob := Lib.hid hob
    have hM := Lib.hid (Mid.refl (w1.heap.size + 1) w2)
    clear b2 hbs hfT ht HG
    go_wp2_with fail
    go_loopw [7, 21] (fun u i wr => ∃ k : Nat, k ≤ m ∧ i = .int .i64 k ∧ Hid (wr.ownsRow w.heap.size 56 5 u (jl ps L k).length ((jl ps L k).flatMap perC)) ∧ Hid (Mid (w1.heap.size + 1) w2 wr) ∧ Hid (∀ g, u.ownBlock = some g → g < w1.heap.size + 1 ∨ w2.heap.size ≤ g) ∧ Below w.heap.size w wr) (fun _ i _ => m - (intOf i).toNat)
    case atStart => exact ⟨0, Nat.zero_le _, rfl, hO, hM, hob, BB⟩
    case round =>
      clear hO hM hob BB
      obtain ⟨k, hk, rfl, hO, hM, hob, BB⟩ := hrel
      rename_i wr
      by_cases hlt : k < m
      · have HTR := (HT.out.mid hM.out).reads
        rw [show L.length = m from hm.out] at *
        obtain ⟨bt, ot, x, xs, hat, hbt, c0, hx, hix⟩ := HTR.at_ hlt
        subst hat
        obtain ⟨a, ha, hg0⟩ := hfst.out k xs hx
        obtain ⟨ax, nx, cx, rfl, HX⟩ := hix.parts
        have hnx : 0 < nx := by have := HX.len; have := (List.getElem?_eq_some_iff.1 hg0).1; omega
        obtain ⟨bx, ox, rfl, hbx, hcx⟩ := HX.cells hnx
        have d0 := hcx 0 _ hg0
        rw [Nat.add_zero] at d0
        have hcX := HX.cap
        have hmX := HX.most
        unfold maxLen at hmX
        obtain ⟨p, hp⟩ := per_at (ps := ps) (k := a) ha
        have hst := Lib.hid (jl_step hx hg0 hp)
        have hl := hjl.out k hk
        obtain ⟨b, o, rfl⟩ := HP.out.form.2.2.2 (by have := hlen.out; omega)
        obtain ⟨hbb, p0, p1, p2, p3, p4⟩ := (HP.out.below BB).at_ hp
        have ho1 := hO.out
        have hsz := BB.size
        have han : (a : Int) < n := by have := hlen.out; omega
        clear HTR hx hix HX hcx hg0 hp
        go_wp2_with (at_builtin; refine wpList_append_own_at _ rfl _ _ 26 rfl w.heap.size 56 i0 (.agg #[.int .i64 0, .string ByteArray.empty, .string ByteArray.empty, .int .i64 0, .int .i64 0]) 5 56 Try.underlying26 hi hz0 hz1 hz2 rfl (by decide) _ _ _ rfl (World.ownsRow.alloc ho1 _) ⟨wr.heap.size, 0, none⟩ 1 1 (perC p) rfl rfl ?c1 ?c2 ?c3 ?c4 ?c5 ?_)
        case c1 =>
          intro j u h
          unfold perC at h
          exact h
        case c2 => intro u hu; unfold perC at hu; simp at hu; rcases hu with rfl | rfl | rfl | rfl | rfl <;> rfl
        case c3 => unfold maxLen; omega
        case c4 => omega
        case c5 => omega
        intro v' w5 hown' hgrow _ hat
        have hM2 := Lib.hid (hM.out.step hgrow hob.out)
        have hob2 : Hid (∀ g, v'.ownBlock = some g → g < w1.heap.size + 1 ∨ w2.heap.size ≤ g) := Lib.hid (by
          intro g e
          rcases hat with h | h
          · exact hob.out g (by rw [← h]; exact e)
          · rw [h] at e
            injection e with e
            have := hM.out.1
            right
            first | omega | (simp at e; omega))
        have hO2 : Hid (w5.ownsRow w.heap.size 56 5 v' (jl ps L (k + 1)).length ((jl ps L (k + 1)).flatMap perC)) := Lib.hid (by
          rw [hst.out, List.length_append, List.flatMap_append, hl]
          simpa using hown')
        have BB2 := below_append BB hsz ho1 hgrow
        clear hown' hgrow hat ho1 hO hM hob BB hbt hbx hbb hl
        go_wp2_with fail
        clear c0 d0 p0 p1 p2 p3 p4
        go_roundw
        case rel => exact ⟨k + 1, by omega, by go_num, hO2, hM2, hob2, BB2⟩
        case measure => simp [intOf]; omega
      · obtain rfl : k = m := by omega
        clear hlt
        go_wp2_with fail
        go_ret2
        exact ⟨_, rfl, hO.out, BB⟩
  · have R1 : Hid (jlI ps l = []) := Lib.hid (by unfold jlI; rw [if_neg q])
    have q1 : (jcode ps l [] != 0) = true := by simpa using q
    rw [R1.out]
    replace HC := Lib.hid HC
    clear q R1 HG
    generalize jcode ps l [] = cc at *
    go_enter Try.func27, Try.ntmps27
    go_wp2_with fail
    refine HC.out.mono ?_
    rintro e w1 ⟨rfl, b1⟩
    go_wp2_with fail
    go_ret2
    exact ⟨_, rfl, World.ownsRow_nil _ _ _ _, b1⟩
end Go.Proofs.Ytehfhpedpdofkaa
