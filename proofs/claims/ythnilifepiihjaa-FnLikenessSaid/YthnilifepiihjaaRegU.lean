/-
  A region that draws its order, by one fact for each slot, where one operation may consume a slot (an append that writes on in a row).
  Conditions: a slot's fact stands while the region's other operations run, until the one that consumes it; the last operation waits for all others; no guards, no selects.
-/
import Derived.Test.YthnilifepiihjaaReg
namespace Go.Proofs.Ythnilifepiihjaa
open Go.RowKit
set_option linter.unusedVariables false

/-- Who consumes what is right. -/
def consGood (ops : Array Oper) (m : Nat) (pre : List Nat) (cons : Nat → Option Nat) : Bool :=
  ((List.range m).all fun i => match ops[i]? with
    | none => false
    | some o => (slotsOf o).all fun t => cons t == none || cons t == some i) && pre.all fun t => cons t == none
/-- Operation i comes after operation j. -/
def laterOp (ops : Array Oper) : Nat → Nat → Nat → Bool
  | 0, _, _ => false
  | f + 1, i, j => match ops[i]? with
    | some o => o.after.any fun e => Region.binds .any e && (e.on == j || laterOp ops f e.on j)
    | none => false
theorem laterOp_listed {ops : Array Oper} {listed : Array Bool} {m : Nat} (hb : ∀ i o, i ≤ m → ops[i]? = some o → ∀ e ∈ o.after, e.on < i) (hc : ∀ i o, i < m → ops[i]? = some o → listed.getD i false = true → ∀ e ∈ o.after, Region.binds .any e = true → listed.getD e.on false = true) :
    ∀ (f i j : Nat) (o : Oper), i ≤ m → ops[i]? = some o → (∀ e ∈ o.after, Region.binds .any e = true → listed.getD e.on false = true) → laterOp ops f i j = true → listed.getD j false = true := by
  intro f
  induction f with
  | zero => intro i j o _ _ _ h; cases h
  | succ f ih =>
    intro i j o hi ho hd h
    unfold laterOp at h
    rw [ho] at h
    simp only at h
    rw [Array.any_eq_true'] at h
    obtain ⟨e, he, h⟩ := h
    rw [Bool.and_eq_true, Bool.or_eq_true] at h
    have hl := hd e he h.1
    rcases h.2 with h2 | h2
    · have : e.on = j := by simpa using h2
      rw [← this]; exact hl
    · have hlt := hb i o hi ho e he
      cases hoe : ops[e.on]? with
      | none => cases f <;> simp [laterOp, hoe] at h2
      | some oe => exact ih e.on j oe (by omega) hoe (fun e' he' hb' => hc e.on oe (by omega) hoe hl e' he' hb') h2
/-- The fact of slot t must stand while operation i runs. -/
def mustStand (ops : Array Oper) (m : Nat) (cons : Nat → Option Nat) (i t : Nat) : Bool :=
  cons t != some i && (match cons t with | none => true | some j => !laterOp ops m i j) &&
  (List.range m).all fun j => ((ops[j]?).bind (·.dst)) != some t || (j != i && !laterOp ops m j i)
theorem mustStand_mk {ops : Array Oper} {m : Nat} {cons : Nat → Option Nat} {i t : Nat} (h1 : cons t ≠ some i) (h2 : ∀ j, cons t = some j → laterOp ops m i j = false)
    (h3 : ∀ j, j < m → ((ops[j]?).bind (·.dst)) = some t → j ≠ i ∧ laterOp ops m j i = false) : mustStand ops m cons i t = true := by
  unfold mustStand
  rw [Bool.and_eq_true, Bool.and_eq_true, List.all_eq_true]
  refine ⟨⟨by simpa using h1, ?_⟩, fun j hj => ?_⟩
  · split
    · rfl
    · rename_i j hj
      rw [h2 j hj]
      rfl
  · by_cases hd : ((ops[j]?).bind (·.dst)) = some t
    · obtain ⟨h4, h5⟩ := h3 j (List.mem_range.1 hj) hd
      rw [h5, Bool.or_eq_true, Bool.and_eq_true]
      exact .inr ⟨by simpa using h4, rfl⟩
    · rw [Bool.or_eq_true]
      exact .inl (by simpa using hd)
section
variable {P : Program} {ops : Array Oper} {Q : Exit → Act → World → Prop} {F : Nat → World → Value → Prop} {I : World → Prop} {R : Nat → World → World → Prop} {m n : Nat} {pre : List Nat} {cons : Nat → Option Nat}
/-- Each operation does what its slot's fact says. -/
def StepsU (P : Program) (F : Nat → World → Value → Prop) (I : World → Prop) (R : Nat → World → World → Prop) (n : Nat) : Nat → List Oper → Prop
  | _, [] => True
  | k, o :: os => (∀ (f : Nat → Value) (w : World), I w → (∀ t ∈ slotsOf o, F t w (f t)) → wpList P #[] (LeftBy F I (R k) (o.dst.getD 0) w) [o] ⟨litAll n f, []⟩ w) ∧ StepsU P F I R n (k + 1) os
theorem StepsU.at_ : ∀ {os : List Oper} {k : Nat}, StepsU P F I R n k os → ∀ {i : Nat} {o : Oper}, os[i]? = some o → ∀ (f : Nat → Value) (w : World), I w → (∀ t ∈ slotsOf o, F t w (f t)) → wpList P #[] (LeftBy F I (R (k + i)) (o.dst.getD 0) w) [o] ⟨litAll n f, []⟩ w
  | [], _, _, i, o, h => by simp at h
  | q :: os, k, h, 0, o, hi => by
    simp at hi
    subst hi
    exact h.1
  | q :: os, k, h, i + 1, o, hi => by
    have := StepsU.at_ h.2 (i := i) (o := o) (by simpa using hi)
    rw [show k + (i + 1) = k + 1 + i by omega]
    exact this
/-- The state among the region's operations. -/
structure RegU (ops : Array Oper) (F : Nat → World → Value → Prop) (I : World → Prop) (pre : List Nat) (cons : Nat → Option Nat) (m : Nat) (a0 : Act) (listed : Array Bool) (a : Act) (w : World) : Prop where
  inv : I w
  defers : a.defers = a0.defers
  size : a.tmps.size = a0.tmps.size
  same : ∀ t, t ∉ dstsOf ops m → a.tmps[t]? = a0.tmps[t]?
  pre_ : ∀ t ∈ pre, F t w (a.tmps.getD t undef)
  closed : ∀ i o, i < m → ops[i]? = some o → listed.getD i false = true → ∀ e ∈ o.after, Region.binds .any e = true → listed.getD e.on false = true
  done : ∀ i o d, i < m → ops[i]? = some o → o.dst = some d → listed.getD i false = true → (∀ j, cons d = some j → listed.getD j true = false) → F d w (a.tmps.getD d undef)

theorem regAnyU {a0 : Act} (hg : regGood ops m pre n = true) (hn : a0.tmps.size = n) (hp : ∀ t ∈ pre, t < n)
    (hc : consGood ops m pre cons = true) (hF : ∀ i t w w' v, mustStand ops m cons i t = true → F t w v → I w → R i w w' → F t w' v)
    (hstep : StepsU P F I R n 0 (ops.toList.take m))
    (hend : ∀ (f : Nat → Value) w, I w → (∀ d ∈ dstsOf ops m, (cons d = none ∨ cons d = some m) → F d w (f d)) → ∀ o, ops[m]? = some o → wpList P ops Q [o] ⟨(setSlots a0.tmps.toList f (dstsOf ops m)).toArray, a0.defers⟩ w) :
    ∀ (fuel : Nat) (listed : Array Bool) (a : Act) (w : World), listed.size = m + 1 → unl listed.toList = fuel → listed.getD m true = false → RegU ops F I pre cons m a0 listed a w →
      wpAny P .any ops Q fuel listed a w := by
  unfold regGood at hg
  rw [Bool.and_eq_true, Bool.and_eq_true, Bool.and_eq_true] at hg
  obtain ⟨⟨⟨hsz, hall⟩, hlast⟩, hback⟩ := hg
  rw [List.all_eq_true] at hback
  have hbk : ∀ i o, i ≤ m → ops[i]? = some o → ∀ e ∈ o.after, e.on < i := fun i o hi ho e he => by
    have hb := hback i (List.mem_range.2 (by omega))
    rw [ho] at hb
    simp only [Array.all_eq_true', decide_eq_true_eq] at hb
    exact hb e he
  unfold consGood at hc
  rw [Bool.and_eq_true, List.all_eq_true, List.all_eq_true] at hc
  obtain ⟨hcs, hcp⟩ := hc
  replace hsz : ops.size = m + 1 := by simpa using hsz
  rw [List.all_eq_true] at hall
  intro fuel
  induction fuel with
  | zero =>
    intro listed a w hl hu hm hst
    have := unl_zero listed.toList hu m
    rw [Array.getD_eq_getD_getElem?] at hm
    rw [List.getD_eq_getElem?_getD, Array.getElem?_toList, hm] at this
    cases this
  | succ fuel ih =>
    intro listed a w hl hu hm hst
    have hmr : listed[m]? = some false := by
      rw [Array.getD_eq_getD_getElem?] at hm
      cases h : listed[m]? with
      | none => rw [h] at hm; cases hm
      | some b => rw [h] at hm; simp at hm; rw [hm]
    obtain ⟨om, hom⟩ : ∃ o, ops[m]? = some o := ⟨ops[m]'(by omega), Array.getElem?_eq_getElem (by omega)⟩
    rw [hom] at hlast
    simp only [Bool.and_eq_true, List.all_eq_true, List.mem_range, Array.any_eq_true'] at hlast
    have stepAt : ∀ i ∈ Region.ready .any ops listed, wpOp P ops Q i (wpAny P .any ops Q fuel (listed.setIfInBounds i true)) a w := by
      intro i hi
      obtain ⟨hun, o, ho, hdep⟩ := mem_ready.1 hi
      have hilt : i < m + 1 := by rw [← hsz]; exact (Array.getElem?_eq_some_iff.1 ho).1
      have hif : listed.toList[i]? = some false := by
        rw [Array.getElem?_toList]
        rw [Array.getD_eq_getD_getElem?] at hun
        cases h : listed[i]? with
        | none => rw [h] at hun; cases hun
        | some b => rw [h] at hun; simp at hun; rw [hun]
      have hu' : unl (listed.setIfInBounds i true).toList = fuel := by
        rw [Array.toList_setIfInBounds]
        have := unl_set _ _ hif
        omega
      by_cases him : i = m
      · subst him
        rw [hom] at ho
        injection ho with ho
        subst ho
        have hz : fuel = 0 := by
          by_cases hf : fuel = 0
          · exact hf
          · exfalso
            have hallt : ∀ j : Nat, (listed.setIfInBounds i true).toList[j]? = some false → False := by
              intro j hj
              rw [Array.getElem?_toList] at hj
              by_cases hji : j = i
              · subst hji
                rw [Array.getElem?_setIfInBounds_self] at hj
                split at hj <;> cases hj
              · rw [Array.getElem?_setIfInBounds_ne (fun e => hji e.symm)] at hj
                have hjl : j < i := by
                  have := (Array.getElem?_eq_some_iff.1 hj).1
                  omega
                obtain ⟨e, he, hb, hon⟩ := hlast.2 j hjl
                have hon : e.on = j := by simpa using hon
                have := hdep e he hb
                rw [hon, Array.getD_eq_getD_getElem?, hj] at this
                cases this
            have key : ∀ l : List Bool, (∀ j : Nat, l[j]? = some false → False) → unl l = 0 := by
              intro l
              induction l with
              | nil => intro _; rfl
              | cons b l ihl =>
                intro h
                have hb : b = true := by
                  cases b with
                  | true => rfl
                  | false => exact (h 0 rfl).elim
                have := ihl fun j hj => h (j + 1) (by simpa using hj)
                simp [unl, hb, this]
            have := key _ hallt
            omega
        have hdone : ∀ d ∈ dstsOf ops i, (cons d = none ∨ cons d = some i) → F d w (a.tmps.getD d undef) := by
          intro d hd hcd
          obtain ⟨j, oj, hj, hoj, hdj⟩ := mem_dsts hd
          refine hst.done j oj d hj hoj hdj ?_ (fun k hk => by
            rcases hcd with h | h
            · rw [h] at hk; cases hk
            · rw [h] at hk; injection hk with hk; rw [← hk]; exact hun)
          obtain ⟨e, he, hb, hon⟩ := hlast.2 j hj
          have hon : e.on = j := by simpa using hon
          have := hdep e he hb
          rw [hon] at this
          exact this
        have hE := hend (fun t => a.tmps.getD t undef) w hst.inv hdone om hom
        have hae : (⟨(setSlots a0.tmps.toList (fun t => a.tmps.getD t undef) (dstsOf ops i)).toArray, a0.defers⟩ : Act) = a := by
          obtain ⟨tm, df⟩ := a
          have h1 := hst.defers
          have h2 := hst.size
          have h3 := hst.same
          simp only at h1 h2 h3
          subst h1
          congr 1
          refine Array.ext_getElem? fun t => ?_
          simp only [List.getElem?_toArray]
          by_cases htl : t < a0.tmps.size
          · rw [setSlots_at _ _ _ _ (by simpa using htl)]
            split
            · rw [Array.getElem?_eq_getElem (by omega)]
              simp [Array.getD, show t < tm.size by omega]
            · rename_i hnd
              rw [h3 t hnd, Array.getElem?_toList]
          · rw [List.getElem?_eq_none (by rw [setSlots_len]; simp; omega), Array.getElem?_eq_none (by omega)]
        rw [hae] at hE
        unfold wpList at hE
        unfold wpOp
        simp only [hom]
        have hw : Region.wanted om (yielded ops a.tmps) = true := by
          have : om.guard = none := by simpa using hlast.1
          simp [Region.wanted, this]
        rw [if_pos hw] at hE ⊢
        have hrd : Region.ready .any ops (listed.setIfInBounds i true) = [] := by
          rw [hz] at hu'
          have h0 := unl_zero _ hu'
          refine List.eq_nil_iff_forall_not_mem.2 fun j hj => ?_
          have := (mem_ready.1 hj).1
          have h1 := h0 j
          rw [List.getD_eq_getElem?_getD, Array.getElem?_toList] at h1
          rw [Array.getD_eq_getD_getElem?, h1] at this
          cases this
        rcases hE with hE | hE
        · refine .inl (Oper.wp_mono (fun a' w' hq => ?_) hE)
          subst hz
          exact ⟨hrd, hq⟩
        · exact .inr hE
      · have him' : i < m := by omega
        have hgi := hall i (List.mem_range.2 him')
        rw [ho] at hgi
        simp only [Bool.and_eq_true, List.all_eq_true] at hgi
        obtain ⟨⟨⟨hgn, hns⟩, hslots⟩, hdst⟩ := hgi
        have hgn' : o.guard = none := by simpa using hgn
        cases hd : o.dst with
        | none => rw [hd] at hdst; cases hdst
        | some d =>
          rw [hd] at hdst
          simp only [Bool.and_eq_true, decide_eq_true_eq, Bool.not_eq_true', List.all_eq_true, List.mem_range, Bool.or_eq_true, beq_iff_eq, bne_iff_ne] at hdst
          obtain ⟨⟨hdn, hdp⟩, hdu⟩ := hdst
          have hfacts : ∀ t ∈ slotsOf o, t < n ∧ F t w (a.tmps.getD t undef) := by
            intro t ht
            have := hslots t ht
            rw [Bool.or_eq_true] at this
            rcases this with h | h
            · have h' : t ∈ pre := by simpa using h
              exact ⟨hp t h', hst.pre_ t h'⟩
            · rw [Array.any_eq_true'] at h
              obtain ⟨e, he, h⟩ := h
              simp only [Bool.and_eq_true, decide_eq_true_eq, beq_iff_eq] at h
              obtain ⟨⟨hb, hem⟩, hed⟩ := h
              cases hoe : ops[e.on]? with
              | none => rw [hoe] at hed; cases hed
              | some oe =>
                rw [hoe] at hed
                simp only [Option.bind_some] at hed
                refine ⟨?_, hst.done e.on oe t hem hoe hed (hdep e he hb) (fun k hk => by
                  have hct := hcs i (List.mem_range.2 him')
                  rw [ho] at hct
                  simp only [List.all_eq_true, Bool.or_eq_true, beq_iff_eq] at hct
                  rcases hct t ht with h | h
                  · rw [h] at hk; cases hk
                  · rw [h] at hk; injection hk with hk; rw [← hk]; exact hun)⟩
                have hge := hall e.on (List.mem_range.2 hem)
                rw [hoe] at hge
                simp only [Bool.and_eq_true] at hge
                have h2 := hge.2
                rw [hed] at h2
                simp only [Bool.and_eq_true, decide_eq_true_eq] at h2
                exact h2.1.1
          have hS := StepsU.at_ hstep (i := i) (o := o) (by rw [List.getElem?_take_of_lt him', Array.getElem?_toList]; exact ho) (fun t => a.tmps.getD t undef) w hst.inv (fun t ht => (hfacts t ht).2)
          rw [Nat.zero_add] at hS
          unfold wpOp
          simp only [ho]
          rw [if_pos (by simp [Region.wanted, hgn'])]
          refine .inl (wp_of_lit hgn' hns hd hdn (fun t ht => (hfacts t ht).1) hS fun v w' h1 h2 h3 => ?_)
          refine ih _ _ _ (by simpa using hl) hu' ?_ ⟨h2, ?_, ?_, ?_, ?_, ?_, ?_⟩
          · rw [Array.getD_eq_getD_getElem?, Array.getElem?_setIfInBounds_ne him, hmr]
            rfl
          · rw [hd]; exact hst.defers
          · rw [hd]; simp [Act.put, hst.size]
          · intro t ht
            rw [hd]
            have : d ≠ t := by rintro rfl; exact ht (dsts_mem him' ho hd)
            simp only [Act.put]
            rw [Array.getElem?_setIfInBounds_ne this]
            exact hst.same t ht
          · intro t ht
            rw [hd]
            have : d ≠ t := by
              rintro rfl
              have : pre.contains d = true := by simpa using ht
              rw [hdp] at this
              cases this
            simp only [Act.put]
            rw [Array.getD_eq_getD_getElem?, Array.getElem?_setIfInBounds_ne this, ← Array.getD_eq_getD_getElem?]
            refine hF i t w w' _ (mustStand_mk (by have := hcp t ht; simp only [beq_iff_eq] at this; rw [this]; exact fun e => by cases e) (fun j hj => by have := hcp t ht; simp only [beq_iff_eq] at this; rw [this] at hj; cases hj) fun j hj hjd => ?_) (hst.pre_ t ht) hst.inv h3
            have hgj := hall j (List.mem_range.2 hj)
            cases hoj : ops[j]? with
            | none => rw [hoj] at hjd; cases hjd
            | some oj =>
              rw [hoj] at hgj hjd
              simp only [Option.bind_some] at hjd
              simp only [Bool.and_eq_true] at hgj
              have h2 := hgj.2
              rw [hjd] at h2
              simp only [Bool.and_eq_true, Bool.not_eq_true'] at h2
              have hpc : pre.contains t = true := by simpa using ht
              rw [h2.1.2] at hpc
              cases hpc
          · intro j oj hj hoj hlj e he hb
            by_cases hji : j = i
            · subst hji
              rw [ho] at hoj
              injection hoj with hoj
              subst hoj
              exact getD_set_true (hdep e he hb)
            · rw [Array.getD_eq_getD_getElem?, Array.getElem?_setIfInBounds_ne (fun e => hji e.symm), ← Array.getD_eq_getD_getElem?] at hlj
              exact getD_set_true (hst.closed j oj hj hoj hlj e he hb)
          · intro j oj dj hj hoj hdj hlj hcj
            rw [hd]
            by_cases hji : j = i
            · subst hji
              rw [ho] at hoj
              injection hoj with hoj
              subst hoj
              rw [hd] at hdj
              injection hdj with hdj
              subst hdj
              simp only [Act.put]
              rw [Array.getD_eq_getD_getElem?, Array.getElem?_setIfInBounds_self_of_lt (by rw [hst.size, hn]; exact hdn)]
              exact h1
            · have hne : d ≠ dj := by
                rintro rfl
                rcases hdu j hj with h | h
                · exact hji h
                · rw [hoj] at h
                  exact h (by simpa using hdj)
              simp only [Act.put]
              rw [Array.getD_eq_getD_getElem?, Array.getElem?_setIfInBounds_ne hne, ← Array.getD_eq_getD_getElem?]
              have hci : cons dj ≠ some i := fun e => by
                have := hcj i e
                rw [Array.getD_eq_getD_getElem?, Array.getElem?_setIfInBounds_self] at this
                split at this <;> cases this
              refine hF i dj w w' _ (mustStand_mk hci (fun k hk => by
                  by_cases hlat : laterOp ops m i k = true
                  · have hk1 := laterOp_listed (listed := listed) hbk hst.closed m i k o (by omega) ho hdep hlat
                    have hk2 := hcj k hk
                    have hki : k ≠ i := fun e => by rw [e] at hk; exact hci hk
                    rw [Array.getD_eq_getD_getElem?, Array.getElem?_setIfInBounds_ne (fun e => hki e.symm)] at hk2
                    rw [Array.getD_eq_getD_getElem?] at hk1
                    cases hq : listed[k]? with
                    | none => rw [hq] at hk1; cases hk1
                    | some bq => rw [hq] at hk1 hk2; simp at hk1 hk2; rw [hk1] at hk2; cases hk2
                  · simpa using hlat) fun k hk hkd => ?_) (hst.done j oj dj hj hoj hdj ?_ (fun k hk => by
                have := hcj k hk
                have hki : k ≠ i := fun e => by rw [e] at hk; exact hci hk
                rw [Array.getD_eq_getD_getElem?, Array.getElem?_setIfInBounds_ne (fun e => hki e.symm), ← Array.getD_eq_getD_getElem?] at this
                exact this)) hst.inv h3
              · have hkj : k = j := by
                  have hgj := hall j (List.mem_range.2 hj)
                  rw [hoj] at hgj
                  simp only [Bool.and_eq_true] at hgj
                  have h2 := hgj.2
                  rw [hdj] at h2
                  simp only [Bool.and_eq_true, List.all_eq_true, List.mem_range, Bool.or_eq_true, beq_iff_eq, bne_iff_ne] at h2
                  rcases h2.2 k hk with h | h
                  · exact h
                  · exact absurd hkd h
                subst hkj
                refine ⟨hji, ?_⟩
                have hlj0 := hlj
                rw [Array.getD_eq_getD_getElem?, Array.getElem?_setIfInBounds_ne (fun e => hji e.symm), ← Array.getD_eq_getD_getElem?] at hlj0
                by_cases hlat : laterOp ops m k i = true
                · have hk1 := laterOp_listed (listed := listed) hbk hst.closed m k i oj (by omega) hoj (hst.closed k oj hj hoj hlj0) hlat
                  rw [Array.getD_eq_getD_getElem?] at hun hk1
                  cases hq : listed[i]? with
                  | none => rw [hq] at hk1; cases hk1
                  | some bq => rw [hq] at hk1 hun; simp at hk1 hun; rw [hk1] at hun; cases hun
                · simpa using hlat
              · rw [Array.getD_eq_getD_getElem?, Array.getElem?_setIfInBounds_ne (fun e => hji e.symm), ← Array.getD_eq_getD_getElem?] at hlj
                exact hlj
    have hmin : ∀ k, k ≤ m → listed.getD k true = false → ∃ j, j ∈ Region.ready .any ops listed := by
      intro k
      induction k using Nat.strongRecOn with
      | ind k ihk =>
        intro hk hkf
        by_cases hrd : k ∈ Region.ready .any ops listed
        · exact ⟨k, hrd⟩
        · have hks : k < ops.size := by omega
          have hb := hback k (List.mem_range.2 (by omega))
          rw [Array.getElem?_eq_getElem hks] at hb
          simp only [Array.all_eq_true', decide_eq_true_eq] at hb
          have : ¬ ∀ e ∈ (ops[k]'hks).after, Region.binds .any e = true → listed.getD e.on false = true := fun hh => hrd (mem_ready.2 ⟨hkf, _, Array.getElem?_eq_getElem hks, hh⟩)
          simp only [Classical.not_forall] at this
          obtain ⟨e, he, hbd, hno⟩ := this
          have hlt := hb e he
          refine ihk e.on hlt (by omega) ?_
          have hes : e.on < listed.size := by omega
          rw [Array.getD_eq_getD_getElem?, Array.getElem?_eq_getElem hes] at hno ⊢
          simpa using hno
    refine ⟨fun hr => ?_, stepAt⟩
    obtain ⟨j, hj⟩ := hmin m (Nat.le_refl _) hm
    rw [hr] at hj
    cases hj
/-- The region, by its slots' facts. -/
theorem wp_region_use {id : Nat} {a0 : Act} {w0 : World} (hmo : P.follows .mixedOrders = true) (hg : regGood ops m pre n = true) (hn : a0.tmps.size = n) (hp : ∀ t ∈ pre, t < n)
    (hc : consGood ops m pre cons = true) (hF : ∀ i t w w' v, mustStand ops m cons i t = true → F t w v → I w → R i w w' → F t w' v)
    (hI : I w0.drew) (hpre : ∀ t ∈ pre, F t w0.drew (a0.tmps.getD t undef))
    (hstep : StepsU P F I R n 0 (ops.toList.take m))
    (hend : ∀ (f : Nat → Value) w, I w → (∀ d ∈ dstsOf ops m, (cons d = none ∨ cons d = some m) → F d w (f d)) → ∀ o, ops[m]? = some o → wpList P ops Q [o] ⟨(setSlots a0.tmps.toList f (dstsOf ops m)).toArray, a0.defers⟩ w) :
    (Code.region id ops true).wp P Q a0 w0 := by
  have hsz : ops.size = m + 1 := by
    unfold regGood at hg
    rw [Bool.and_eq_true, Bool.and_eq_true, Bool.and_eq_true] at hg
    simpa using hg.1.1.1
  refine wp_region_any hmo (regAnyU hg hn hp hc hF hstep hend _ _ _ _ (by simp [hsz]) ?_ ?_ ⟨hI, rfl, rfl, fun _ _ => rfl, hpre, fun i o hi ho hl => ?_, fun i o d hi ho hd hl _ => ?_⟩)
  · rw [Array.toList_replicate, unl_rep]
  · simp [hsz, Array.getD_eq_getD_getElem?]
  · exfalso
    rw [Array.getD_eq_getD_getElem?, Array.getElem?_replicate] at hl
    split at hl <;> cases hl
  · exfalso
    rw [Array.getD_eq_getD_getElem?, Array.getElem?_replicate] at hl
    split at hl <;> cases hl
/-- A move. -/
theorem stepU_move {d s T : Nat} {pos : String} {after : Array Edge} {k : Nat} (hd : d < n) (hs : s < n) (hFF : ∀ w v, F s w v → F d w v) (hR : ∀ w, R k w w) :
    ∀ (f : Nat → Value) (w : World), I w → (∀ t ∈ slotsOf ⟨some d, .move (.tmp s), T, pos, after, none⟩, F t w (f t)) → wpList P #[] (LeftBy F I (R k) d w) [⟨some d, .move (.tmp s), T, pos, after, none⟩] ⟨litAll n f, []⟩ w := step_move hd hs hFF hR
end
end Go.Proofs.Ythnilifepiihjaa
