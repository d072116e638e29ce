/-
  A region that draws its order, by one fact for each slot: whatever the order, each operation lays into its slot a value of which the slot's fact holds.
  Conditions: the facts stand while the region's other operations run; the last operation waits for all others; no guards, no selects.
-/
import Derived.Test.YthnilifepiihjaaPre
import Derived.Orders
namespace Go.Proofs.Ythnilifepiihjaa
open Go.RowKit
set_option linter.unusedVariables false

def EndsIn (G : Act → World → Prop) : Exit → Act → World → Prop
  | .normal, a, w => G a w
  | _, _, _ => False
/-- The slots that an operation reads. -/
def slotsOf (o : Oper) : List Nat := o.op.operands.toList.filterMap fun | .tmp t => some t | _ => none
def notSelect (o : Oper) : Bool := match o.op with | .select .. => false | _ => true
/-- The slots ds of l are set to what f says. -/
def setSlots (l : List Value) (f : Nat → Value) (ds : List Nat) : List Value := ds.foldl (fun l d => l.set d (f d)) l
theorem setSlots_len (f : Nat → Value) : ∀ (ds : List Nat) (l : List Value), (setSlots l f ds).length = l.length
  | [], l => rfl
  | d :: ds, l => by
    show (setSlots (l.set d (f d)) f ds).length = l.length
    rw [setSlots_len f ds, List.length_set]
theorem setSlots_at (f : Nat → Value) (t : Nat) : ∀ (ds : List Nat) (l : List Value), t < l.length → (setSlots l f ds)[t]? = if t ∈ ds then some (f t) else l[t]?
  | [], l, _ => by simp [setSlots]
  | d :: ds, l, h => by
    show (setSlots (l.set d (f d)) f ds)[t]? = _
    rw [setSlots_at f t ds _ (by rw [List.length_set]; exact h)]
    by_cases hd : d = t
    · subst hd
      rw [List.getElem?_set_self h]
      simp
    · rw [List.getElem?_set_ne hd]
      have : t ≠ d := fun e => hd e.symm
      simp [this]
/-- How many are false. -/
def unl : List Bool → Nat
  | [] => 0
  | b :: l => (if b then 0 else 1) + unl l
theorem unl_set : ∀ (l : List Bool) (i : Nat), l[i]? = some false → unl (l.set i true) + 1 = unl l
  | [], i, h => by simp at h
  | b :: l, 0, h => by
    simp at h
    subst h
    simp [unl]
    omega
  | b :: l, i + 1, h => by
    simp at h
    have := unl_set l i h
    simp only [List.set_cons_succ, unl]
    omega
theorem unl_zero : ∀ (l : List Bool), unl l = 0 → ∀ j, l.getD j true = true
  | [], _, j => by simp
  | b :: l, h, j => by
    unfold unl at h
    cases b with
    | false => simp at h
    | true =>
      cases j with
      | zero => rfl
      | succ j => simpa using unl_zero l (by simpa using h) j
theorem unl_rep : ∀ n, unl (List.replicate n false) = n
  | 0 => rfl
  | n + 1 => by
    rw [List.replicate_succ]
    unfold unl
    rw [unl_rep n]
    simp
    omega
/-- The slots that the first m operations write. -/
def dstsOf (ops : Array Oper) (m : Nat) : List Nat := (ops.toList.take m).filterMap (·.dst)
/-- What is asked of a region. -/
def regGood (ops : Array Oper) (m : Nat) (pre : List Nat) (n : Nat) : Bool :=
  ops.size == m + 1 && ((List.range m).all fun i => match ops[i]? with
    | none => false
    | some o => o.guard.isNone && notSelect o && (slotsOf o).all (fun t => pre.contains t || o.after.any (fun e => Region.binds .any e && decide (e.on < m) && ((ops[e.on]?).bind (·.dst)) == some t)) &&
      (match o.dst with
        | some d => decide (d < n) && !pre.contains d && (List.range m).all (fun j => j == i || ((ops[j]?).bind (·.dst)) != some d)
        | none => false)) &&
  (match ops[m]? with
    | some o => o.guard.isNone && (List.range m).all (fun j => o.after.any fun e => Region.binds .any e && e.on == j)
    | none => false) &&
  ((List.range (m + 1)).all fun i => match ops[i]? with
    | some o => o.after.all fun e => decide (e.on < i)
    | none => false)

/-- What is asked of a region of which all operations go by their slots' facts. -/
def regGoodA (ops : Array Oper) (m : Nat) (pre : List Nat) (n : Nat) : Bool :=
  ops.size == m && ((List.range m).all fun i => match ops[i]? with
    | none => false
    | some o => o.guard.isNone && notSelect o && (slotsOf o).all (fun t => pre.contains t || o.after.any (fun e => Region.binds .any e && decide (e.on < m) && ((ops[e.on]?).bind (·.dst)) == some t)) &&
      (match o.dst with
        | some d => decide (d < n) && !pre.contains d && (List.range m).all (fun j => j == i || ((ops[j]?).bind (·.dst)) != some d)
        | none => false)) &&
  ((List.range m).all fun i => match ops[i]? with
    | some o => o.after.all fun e => decide (e.on < i)
    | none => false)
theorem unl_pos : ∀ (l : List Bool), unl l ≠ 0 → ∃ k : Nat, l[k]? = some false
  | [], h => absurd rfl h
  | false :: l, _ => ⟨0, rfl⟩
  | true :: l, h => by
    obtain ⟨k, hk⟩ := unl_pos l (by simpa [unl] using h)
    exact ⟨k + 1, by simpa using hk⟩

section
variable {P : Program} {ops : Array Oper} {Q : Exit → Act → World → Prop} {F : Nat → World → Value → Prop} {I : World → Prop} {R : World → World → Prop} {m n : Nat} {pre : List Nat}
/-- What an operation with slot d leaves. -/
def LeftBy (F : Nat → World → Value → Prop) (I : World → Prop) (R : World → World → Prop) (d : Nat) (w : World) : Exit → Act → World → Prop :=
  EndsIn fun a' w' => a'.defers = [] ∧ F d w' (a'.tmps.getD d undef) ∧ I w' ∧ R w w'
/-- All slots as letters. -/
def litAll (n : Nat) (f : Nat → Value) : Array Value := ((List.range n).map f).toArray
theorem litAll_at (n : Nat) (f : Nat → Value) (t : Nat) (h : t < n) : (litAll n f).getD t undef = f t := by simp [litAll, h]
/-- Each operation does what its slot's fact says. -/
def StepsOk (P : Program) (F : Nat → World → Value → Prop) (I : World → Prop) (R : World → World → Prop) (n : Nat) : List Oper → Prop
  | [] => True
  | o :: os => (∀ (f : Nat → Value) (w : World), I w → (∀ t ∈ slotsOf o, F t w (f t)) → wpList P #[] (LeftBy F I R (o.dst.getD 0) w) [o] ⟨litAll n f, []⟩ w) ∧ StepsOk P F I R n os
theorem StepsOk.at_ : ∀ {os : List Oper}, StepsOk P F I R n os → ∀ {i : Nat} {o : Oper}, os[i]? = some o → ∀ (f : Nat → Value) (w : World), I w → (∀ t ∈ slotsOf o, F t w (f t)) → wpList P #[] (LeftBy F I R (o.dst.getD 0) w) [o] ⟨litAll n f, []⟩ w
  | [], _, i, o, h => by simp at h
  | q :: os, h, 0, o, hi => by
    simp at hi
    subst hi
    exact h.1
  | q :: os, h, i + 1, o, hi => StepsOk.at_ h.2 (i := i) (by simpa using hi)

theorem wp_of_lit {o : Oper} {d : Nat} {a : Act} {w : World} {K : Act → World → Prop} (hg : o.guard = none) (hs : notSelect o = true) (hd : o.dst = some d) (hdn : d < n)
    (ht : ∀ t ∈ slotsOf o, t < n)
    (h : wpList P #[] (LeftBy F I R (o.dst.getD 0) w) [o] ⟨litAll n (fun t => a.tmps.getD t undef), []⟩ w)
    (hK : ∀ v w', F d w' v → I w' → R w w' → K (a.put o.dst v) w') : o.wp P a w K Q := by
  unfold wpList at h
  rw [if_pos (by simp [Region.wanted, hg])] at h
  rcases h with h | ⟨_, x, y, h⟩
  case inr => exact h.elim
  have hev : execOp (Act.eval ⟨litAll n (fun t => a.tmps.getD t undef), []⟩) o = execOp a.eval o := execOp_congr o (by
    intro cs b e
    unfold notSelect at hs
    rw [e] at hs
    cases hs) (fun x hx => by
    cases x with
    | tmp t =>
      show (litAll n _).getD t undef = a.tmps.getD t undef
      exact litAll_at n _ t (ht t (List.mem_filterMap.2 ⟨.tmp t, by simpa using hx, rfl⟩))
    | _ => rfl)
  unfold Oper.wp at *
  rw [hev] at h
  rw [hd] at h
  simp only [Option.getD_some] at h
  have hput : ∀ v : Value, ((Act.put ⟨litAll n (fun t => a.tmps.getD t undef), []⟩ (some d) v).tmps.getD d undef) = v := fun v => by
    simp only [Act.put]
    have : d < (litAll n (fun t => a.tmps.getD t undef)).size := by simpa [litAll] using hdn
    rw [Array.getD_eq_getD_getElem?, Array.getElem?_setIfInBounds_self_of_lt this]
    rfl
  generalize (execOp a.eval o).run P w = r at *
  cases r with
  | ok nx w' =>
    cases nx <;> simp only [Oper.upon, hd] at h ⊢
    case value v =>
      obtain ⟨_, h1, h2, h3⟩ := h
      rw [hput] at h1
      rw [← hd]
      exact hK _ _ h1 h2 h3
    case skip =>
      obtain ⟨_, h1, h2, h3⟩ := h
      rw [hput] at h1
      rw [← hd]
      exact hK _ _ h1 h2 h3
    case defer df =>
      obtain ⟨h0, _⟩ := h
      simp [Act.put] at h0
    case enter f args =>
      refine Calls.mono h fun e w'' he => ?_
      cases e with
      | returned u =>
        obtain ⟨_, h1, h2, h3⟩ := he
        rw [hput] at h1
        show K (a.put (some d) u) w''
        rw [← hd]
        exact hK _ _ h1 h2 h3
      | panicked c => exact he.elim
      | outgrown =>
        obtain ⟨x, y, h⟩ := he
        exact h.elim
    case row row args =>
      refine Rows.mono h fun u w'' he => ?_
      obtain ⟨_, h1, h2, h3⟩ := he
      rw [hput] at h1
      rw [← hd]
      exact hK _ _ h1 h2 h3
  | halt x w' => cases x <;> simp only [Oper.upon] at h ⊢ <;> exact h.elim

/-- The state among the region's operations. -/
structure RegSt (ops : Array Oper) (F : Nat → World → Value → Prop) (I : World → Prop) (pre : List Nat) (m : Nat) (a0 : Act) (listed : Array Bool) (a : Act) (w : World) : Prop where
  inv : I w
  defers : a.defers = a0.defers
  size : a.tmps.size = a0.tmps.size
  same : ∀ t, t ∉ dstsOf ops m → a.tmps[t]? = a0.tmps[t]?
  pre_ : ∀ t ∈ pre, F t w (a.tmps.getD t undef)
  done : ∀ i o d, i < m → ops[i]? = some o → o.dst = some d → listed.getD i false = true → F d w (a.tmps.getD d undef)

theorem dsts_mem {i : Nat} {o : Oper} {d : Nat} (hi : i < m) (ho : ops[i]? = some o) (hd : o.dst = some d) : d ∈ dstsOf ops m := by
  unfold dstsOf
  refine List.mem_filterMap.2 ⟨o, ?_, hd⟩
  refine List.mem_of_getElem? (i := i) ?_
  rw [List.getElem?_take_of_lt hi, Array.getElem?_toList]
  exact ho
theorem mem_dsts {d : Nat} (h : d ∈ dstsOf ops m) : ∃ i o, i < m ∧ ops[i]? = some o ∧ o.dst = some d := by
  unfold dstsOf at h
  obtain ⟨o, ho, hd⟩ := List.mem_filterMap.1 h
  obtain ⟨i, hi⟩ := List.getElem?_of_mem ho
  rw [List.getElem?_take] at hi
  split at hi
  · exact ⟨i, o, by assumption, by rw [← Array.getElem?_toList]; exact hi, hd⟩
  · cases hi

theorem regAny {a0 : Act} (hg : regGood ops m pre n = true) (hn : a0.tmps.size = n) (hp : ∀ t ∈ pre, t < n)
    (hF : ∀ t w w' v, F t w v → I w → R w w' → F t w' v)
    (hstep : StepsOk P F I R n (ops.toList.take m))
    (hend : ∀ (f : Nat → Value) w, I w → (∀ d ∈ dstsOf ops m, F d w (f d)) → ∀ o, ops[m]? = some o → wpList P ops Q [o] ⟨(setSlots a0.tmps.toList f (dstsOf ops m)).toArray, a0.defers⟩ w) :
    ∀ (fuel : Nat) (listed : Array Bool) (a : Act) (w : World), listed.size = m + 1 → unl listed.toList = fuel → listed.getD m true = false → RegSt ops F I pre m a0 listed a w →
      wpAny P .any ops Q fuel listed a w := by
  unfold regGood at hg
  rw [Bool.and_eq_true, Bool.and_eq_true, Bool.and_eq_true] at hg
  obtain ⟨⟨⟨hsz, hall⟩, hlast⟩, hback⟩ := hg
  rw [List.all_eq_true] at hback
  replace hsz : ops.size = m + 1 := by simpa using hsz
  rw [List.all_eq_true] at hall
  intro fuel
  induction fuel with
  | zero =>
    intro listed a w hl hu hm hst
    have := unl_zero listed.toList hu m
    rw [Array.getD_eq_getD_getElem?] at hm
    rw [List.getD_eq_getElem?_getD, Array.getElem?_toList, hm] at this
    cases this
  | succ fuel ih =>
    intro listed a w hl hu hm hst
    have hmr : listed[m]? = some false := by
      rw [Array.getD_eq_getD_getElem?] at hm
      cases h : listed[m]? with
      | none => rw [h] at hm; cases hm
      | some b => rw [h] at hm; simp at hm; rw [hm]
    obtain ⟨om, hom⟩ : ∃ o, ops[m]? = some o := ⟨ops[m]'(by omega), Array.getElem?_eq_getElem (by omega)⟩
    rw [hom] at hlast
    simp only [Bool.and_eq_true, List.all_eq_true, List.mem_range, Array.any_eq_true'] at hlast
    have stepAt : ∀ i ∈ Region.ready .any ops listed, wpOp P ops Q i (wpAny P .any ops Q fuel (listed.setIfInBounds i true)) a w := by
      intro i hi
      obtain ⟨hun, o, ho, hdep⟩ := mem_ready.1 hi
      have hilt : i < m + 1 := by rw [← hsz]; exact (Array.getElem?_eq_some_iff.1 ho).1
      have hif : listed.toList[i]? = some false := by
        rw [Array.getElem?_toList]
        rw [Array.getD_eq_getD_getElem?] at hun
        cases h : listed[i]? with
        | none => rw [h] at hun; cases hun
        | some b => rw [h] at hun; simp at hun; rw [hun]
      have hu' : unl (listed.setIfInBounds i true).toList = fuel := by
        rw [Array.toList_setIfInBounds]
        have := unl_set _ _ hif
        omega
      by_cases him : i = m
      · subst him
        rw [hom] at ho
        injection ho with ho
        subst ho
        have hz : fuel = 0 := by
          by_cases hf : fuel = 0
          · exact hf
          · exfalso
            have hallt : ∀ j : Nat, (listed.setIfInBounds i true).toList[j]? = some false → False := by
              intro j hj
              rw [Array.getElem?_toList] at hj
              by_cases hji : j = i
              · subst hji
                rw [Array.getElem?_setIfInBounds_self] at hj
                split at hj <;> cases hj
              · rw [Array.getElem?_setIfInBounds_ne (fun e => hji e.symm)] at hj
                have hjl : j < i := by
                  have := (Array.getElem?_eq_some_iff.1 hj).1
                  omega
                obtain ⟨e, he, hb, hon⟩ := hlast.2 j hjl
                have hon : e.on = j := by simpa using hon
                have := hdep e he hb
                rw [hon, Array.getD_eq_getD_getElem?, hj] at this
                cases this
            have key : ∀ l : List Bool, (∀ j : Nat, l[j]? = some false → False) → unl l = 0 := by
              intro l
              induction l with
              | nil => intro _; rfl
              | cons b l ihl =>
                intro h
                have hb : b = true := by
                  cases b with
                  | true => rfl
                  | false => exact (h 0 rfl).elim
                have := ihl fun j hj => h (j + 1) (by simpa using hj)
                simp [unl, hb, this]
            have := key _ hallt
            omega
        have hdone : ∀ d ∈ dstsOf ops i, F d w (a.tmps.getD d undef) := by
          intro d hd
          obtain ⟨j, oj, hj, hoj, hdj⟩ := mem_dsts hd
          refine hst.done j oj d hj hoj hdj ?_
          obtain ⟨e, he, hb, hon⟩ := hlast.2 j hj
          have hon : e.on = j := by simpa using hon
          have := hdep e he hb
          rw [hon] at this
          exact this
        have hE := hend (fun t => a.tmps.getD t undef) w hst.inv hdone om hom
        have hae : (⟨(setSlots a0.tmps.toList (fun t => a.tmps.getD t undef) (dstsOf ops i)).toArray, a0.defers⟩ : Act) = a := by
          obtain ⟨tm, df⟩ := a
          have h1 := hst.defers
          have h2 := hst.size
          have h3 := hst.same
          simp only at h1 h2 h3
          subst h1
          congr 1
          refine Array.ext_getElem? fun t => ?_
          simp only [List.getElem?_toArray]
          by_cases htl : t < a0.tmps.size
          · rw [setSlots_at _ _ _ _ (by simpa using htl)]
            split
            · rw [Array.getElem?_eq_getElem (by omega)]
              simp [Array.getD, show t < tm.size by omega]
            · rename_i hnd
              rw [h3 t hnd, Array.getElem?_toList]
          · rw [List.getElem?_eq_none (by rw [setSlots_len]; simp; omega), Array.getElem?_eq_none (by omega)]
        rw [hae] at hE
        unfold wpList at hE
        unfold wpOp
        simp only [hom]
        have hw : Region.wanted om (yielded ops a.tmps) = true := by
          have : om.guard = none := by simpa using hlast.1
          simp [Region.wanted, this]
        rw [if_pos hw] at hE ⊢
        have hrd : Region.ready .any ops (listed.setIfInBounds i true) = [] := by
          rw [hz] at hu'
          have h0 := unl_zero _ hu'
          refine List.eq_nil_iff_forall_not_mem.2 fun j hj => ?_
          have := (mem_ready.1 hj).1
          have h1 := h0 j
          rw [List.getD_eq_getElem?_getD, Array.getElem?_toList] at h1
          rw [Array.getD_eq_getD_getElem?, h1] at this
          cases this
        rcases hE with hE | hE
        · refine .inl (Oper.wp_mono (fun a' w' hq => ?_) hE)
          subst hz
          exact ⟨hrd, hq⟩
        · exact .inr hE
      · have him' : i < m := by omega
        have hgi := hall i (List.mem_range.2 him')
        rw [ho] at hgi
        simp only [Bool.and_eq_true, List.all_eq_true] at hgi
        obtain ⟨⟨⟨hgn, hns⟩, hslots⟩, hdst⟩ := hgi
        have hgn' : o.guard = none := by simpa using hgn
        cases hd : o.dst with
        | none => rw [hd] at hdst; cases hdst
        | some d =>
          rw [hd] at hdst
          simp only [Bool.and_eq_true, decide_eq_true_eq, Bool.not_eq_true', List.all_eq_true, List.mem_range, Bool.or_eq_true, beq_iff_eq, bne_iff_ne] at hdst
          obtain ⟨⟨hdn, hdp⟩, hdu⟩ := hdst
          have hfacts : ∀ t ∈ slotsOf o, t < n ∧ F t w (a.tmps.getD t undef) := by
            intro t ht
            have := hslots t ht
            rw [Bool.or_eq_true] at this
            rcases this with h | h
            · have h' : t ∈ pre := by simpa using h
              exact ⟨hp t h', hst.pre_ t h'⟩
            · rw [Array.any_eq_true'] at h
              obtain ⟨e, he, h⟩ := h
              simp only [Bool.and_eq_true, decide_eq_true_eq, beq_iff_eq] at h
              obtain ⟨⟨hb, hem⟩, hed⟩ := h
              cases hoe : ops[e.on]? with
              | none => rw [hoe] at hed; cases hed
              | some oe =>
                rw [hoe] at hed
                simp only [Option.bind_some] at hed
                refine ⟨?_, hst.done e.on oe t hem hoe hed (hdep e he hb)⟩
                have hge := hall e.on (List.mem_range.2 hem)
                rw [hoe] at hge
                simp only [Bool.and_eq_true] at hge
                have h2 := hge.2
                rw [hed] at h2
                simp only [Bool.and_eq_true, decide_eq_true_eq] at h2
                exact h2.1.1
          have hS := hstep.at_ (i := i) (o := o) (by rw [List.getElem?_take_of_lt him', Array.getElem?_toList]; exact ho) (fun t => a.tmps.getD t undef) w hst.inv (fun t ht => (hfacts t ht).2)
          unfold wpOp
          simp only [ho]
          rw [if_pos (by simp [Region.wanted, hgn'])]
          refine .inl (wp_of_lit hgn' hns hd hdn (fun t ht => (hfacts t ht).1) hS fun v w' h1 h2 h3 => ?_)
          refine ih _ _ _ (by simpa using hl) hu' ?_ ⟨h2, ?_, ?_, ?_, ?_, ?_⟩
          · rw [Array.getD_eq_getD_getElem?, Array.getElem?_setIfInBounds_ne him, hmr]
            rfl
          · rw [hd]; exact hst.defers
          · rw [hd]; simp [Act.put, hst.size]
          · intro t ht
            rw [hd]
            have : d ≠ t := by rintro rfl; exact ht (dsts_mem him' ho hd)
            simp only [Act.put]
            rw [Array.getElem?_setIfInBounds_ne this]
            exact hst.same t ht
          · intro t ht
            rw [hd]
            have : d ≠ t := by
              rintro rfl
              have : pre.contains d = true := by simpa using ht
              rw [hdp] at this
              cases this
            simp only [Act.put]
            rw [Array.getD_eq_getD_getElem?, Array.getElem?_setIfInBounds_ne this, ← Array.getD_eq_getD_getElem?]
            exact hF t w w' _ (hst.pre_ t ht) hst.inv h3
          · intro j oj dj hj hoj hdj hlj
            rw [hd]
            by_cases hji : j = i
            · subst hji
              rw [ho] at hoj
              injection hoj with hoj
              subst hoj
              rw [hd] at hdj
              injection hdj with hdj
              subst hdj
              simp only [Act.put]
              rw [Array.getD_eq_getD_getElem?, Array.getElem?_setIfInBounds_self_of_lt (by rw [hst.size, hn]; exact hdn)]
              exact h1
            · have hne : d ≠ dj := by
                rintro rfl
                rcases hdu j hj with h | h
                · exact hji h
                · rw [hoj] at h
                  exact h (by simpa using hdj)
              simp only [Act.put]
              rw [Array.getD_eq_getD_getElem?, Array.getElem?_setIfInBounds_ne hne, ← Array.getD_eq_getD_getElem?]
              refine hF dj w w' _ (hst.done j oj dj hj hoj hdj ?_) hst.inv h3
              rw [Array.getD_eq_getD_getElem?, Array.getElem?_setIfInBounds_ne (fun e => hji e.symm), ← Array.getD_eq_getD_getElem?] at hlj
              exact hlj
    have hmin : ∀ k, k ≤ m → listed.getD k true = false → ∃ j, j ∈ Region.ready .any ops listed := by
      intro k
      induction k using Nat.strongRecOn with
      | ind k ihk =>
        intro hk hkf
        by_cases hrd : k ∈ Region.ready .any ops listed
        · exact ⟨k, hrd⟩
        · have hks : k < ops.size := by omega
          have hb := hback k (List.mem_range.2 (by omega))
          rw [Array.getElem?_eq_getElem hks] at hb
          simp only [Array.all_eq_true', decide_eq_true_eq] at hb
          have : ¬ ∀ e ∈ (ops[k]'hks).after, Region.binds .any e = true → listed.getD e.on false = true := fun hh => hrd (mem_ready.2 ⟨hkf, _, Array.getElem?_eq_getElem hks, hh⟩)
          simp only [Classical.not_forall] at this
          obtain ⟨e, he, hbd, hno⟩ := this
          have hlt := hb e he
          refine ihk e.on hlt (by omega) ?_
          have hes : e.on < listed.size := by omega
          rw [Array.getD_eq_getD_getElem?, Array.getElem?_eq_getElem hes] at hno ⊢
          simpa using hno
    refine ⟨fun hr => ?_, stepAt⟩
    obtain ⟨j, hj⟩ := hmin m (Nat.le_refl _) hm
    rw [hr] at hj
    cases hj
/-- The region, by its slots' facts. -/
theorem wp_region_facts {id : Nat} {a0 : Act} {w0 : World} (hmo : P.follows .mixedOrders = true) (hg : regGood ops m pre n = true) (hn : a0.tmps.size = n) (hp : ∀ t ∈ pre, t < n)
    (hF : ∀ t w w' v, F t w v → I w → R w w' → F t w' v)
    (hI : I w0.drew) (hpre : ∀ t ∈ pre, F t w0.drew (a0.tmps.getD t undef))
    (hstep : StepsOk P F I R n (ops.toList.take m))
    (hend : ∀ (f : Nat → Value) w, I w → (∀ d ∈ dstsOf ops m, F d w (f d)) → ∀ o, ops[m]? = some o → wpList P ops Q [o] ⟨(setSlots a0.tmps.toList f (dstsOf ops m)).toArray, a0.defers⟩ w) :
    (Code.region id ops true).wp P Q a0 w0 := by
  have hsz : ops.size = m + 1 := by
    unfold regGood at hg
    rw [Bool.and_eq_true, Bool.and_eq_true, Bool.and_eq_true] at hg
    simpa using hg.1.1.1
  refine wp_region_any hmo (regAny hg hn hp hF hstep hend _ _ _ _ (by simp [hsz]) ?_ ?_ ⟨hI, rfl, rfl, fun _ _ => rfl, hpre, fun i o d hi ho hd hl => ?_⟩)
  · rw [Array.toList_replicate, unl_rep]
  · simp [hsz, Array.getD_eq_getD_getElem?]
  · exfalso
    rw [Array.getD_eq_getD_getElem?, Array.getElem?_replicate] at hl
    split at hl <;> cases hl
theorem regAnyA {a0 : Act} (hg : regGoodA ops m pre n = true) (hn : a0.tmps.size = n) (hp : ∀ t ∈ pre, t < n)
    (hF : ∀ t w w' v, F t w v → I w → R w w' → F t w' v)
    (hstep : StepsOk P F I R n (ops.toList.take m))
    (hend : ∀ (f : Nat → Value) w, I w → (∀ d ∈ dstsOf ops m, F d w (f d)) → Q .normal ⟨(setSlots a0.tmps.toList f (dstsOf ops m)).toArray, a0.defers⟩ w) :
    ∀ (fuel : Nat) (listed : Array Bool) (a : Act) (w : World), listed.size = m → unl listed.toList = fuel → RegSt ops F I pre m a0 listed a w →
      wpAny P .any ops Q fuel listed a w := by
  unfold regGoodA at hg
  rw [Bool.and_eq_true, Bool.and_eq_true] at hg
  obtain ⟨⟨hsz, hall⟩, hback⟩ := hg
  rw [List.all_eq_true] at hback
  replace hsz : ops.size = m := by simpa using hsz
  rw [List.all_eq_true] at hall
  intro fuel
  induction fuel with
  | zero =>
    intro listed a w hl hu hst
    have hz0 := unl_zero listed.toList hu
    have hdone : ∀ d ∈ dstsOf ops m, F d w (a.tmps.getD d undef) := by
      intro d hd
      obtain ⟨j, oj, hj, hoj, hdj⟩ := mem_dsts hd
      refine hst.done j oj d hj hoj hdj ?_
      have h1 := hz0 j
      have hjs : j < listed.size := by omega
      rw [List.getD_eq_getElem?_getD, Array.getElem?_toList, Array.getElem?_eq_getElem hjs] at h1
      rw [Array.getD_eq_getD_getElem?, Array.getElem?_eq_getElem hjs]
      exact h1
    have hE := hend (fun t => a.tmps.getD t undef) w hst.inv hdone
    have hae : (⟨(setSlots a0.tmps.toList (fun t => a.tmps.getD t undef) (dstsOf ops m)).toArray, a0.defers⟩ : Act) = a := by
        obtain ⟨tm, df⟩ := a
        have h1 := hst.defers
        have h2 := hst.size
        have h3 := hst.same
        simp only at h1 h2 h3
        subst h1
        congr 1
        refine Array.ext_getElem? fun t => ?_
        simp only [List.getElem?_toArray]
        by_cases htl : t < a0.tmps.size
        · rw [setSlots_at _ _ _ _ (by simpa using htl)]
          split
          · rw [Array.getElem?_eq_getElem (by omega)]
            simp [Array.getD, show t < tm.size by omega]
          · rename_i hnd
            rw [h3 t hnd, Array.getElem?_toList]
        · rw [List.getElem?_eq_none (by rw [setSlots_len]; simp; omega), Array.getElem?_eq_none (by omega)]
    rw [hae] at hE
    refine ⟨?_, hE⟩
    refine List.eq_nil_iff_forall_not_mem.2 fun j hj => ?_
    have := (mem_ready.1 hj).1
    have h1 := hz0 j
    rw [List.getD_eq_getElem?_getD, Array.getElem?_toList] at h1
    rw [Array.getD_eq_getD_getElem?, h1] at this
    cases this
  | succ fuel ih =>
    intro listed a w hl hu hst
    have stepAt : ∀ i ∈ Region.ready .any ops listed, wpOp P ops Q i (wpAny P .any ops Q fuel (listed.setIfInBounds i true)) a w := by
      intro i hi
      obtain ⟨hun, o, ho, hdep⟩ := mem_ready.1 hi
      have hilt : i < m := by rw [← hsz]; exact (Array.getElem?_eq_some_iff.1 ho).1
      have hif : listed.toList[i]? = some false := by
        rw [Array.getElem?_toList]
        rw [Array.getD_eq_getD_getElem?] at hun
        cases h : listed[i]? with
        | none => rw [h] at hun; cases hun
        | some b => rw [h] at hun; simp at hun; rw [hun]
      have hu' : unl (listed.setIfInBounds i true).toList = fuel := by
        rw [Array.toList_setIfInBounds]
        have := unl_set _ _ hif
        omega
      · have him' : i < m := hilt
        have hgi := hall i (List.mem_range.2 him')
        rw [ho] at hgi
        simp only [Bool.and_eq_true, List.all_eq_true] at hgi
        obtain ⟨⟨⟨hgn, hns⟩, hslots⟩, hdst⟩ := hgi
        have hgn' : o.guard = none := by simpa using hgn
        cases hd : o.dst with
        | none => rw [hd] at hdst; cases hdst
        | some d =>
          rw [hd] at hdst
          simp only [Bool.and_eq_true, decide_eq_true_eq, Bool.not_eq_true', List.all_eq_true, List.mem_range, Bool.or_eq_true, beq_iff_eq, bne_iff_ne] at hdst
          obtain ⟨⟨hdn, hdp⟩, hdu⟩ := hdst
          have hfacts : ∀ t ∈ slotsOf o, t < n ∧ F t w (a.tmps.getD t undef) := by
            intro t ht
            have := hslots t ht
            rw [Bool.or_eq_true] at this
            rcases this with h | h
            · have h' : t ∈ pre := by simpa using h
              exact ⟨hp t h', hst.pre_ t h'⟩
            · rw [Array.any_eq_true'] at h
              obtain ⟨e, he, h⟩ := h
              simp only [Bool.and_eq_true, decide_eq_true_eq, beq_iff_eq] at h
              obtain ⟨⟨hb, hem⟩, hed⟩ := h
              cases hoe : ops[e.on]? with
              | none => rw [hoe] at hed; cases hed
              | some oe =>
                rw [hoe] at hed
                simp only [Option.bind_some] at hed
                refine ⟨?_, hst.done e.on oe t hem hoe hed (hdep e he hb)⟩
                have hge := hall e.on (List.mem_range.2 hem)
                rw [hoe] at hge
                simp only [Bool.and_eq_true] at hge
                have h2 := hge.2
                rw [hed] at h2
                simp only [Bool.and_eq_true, decide_eq_true_eq] at h2
                exact h2.1.1
          have hS := hstep.at_ (i := i) (o := o) (by rw [List.getElem?_take_of_lt him', Array.getElem?_toList]; exact ho) (fun t => a.tmps.getD t undef) w hst.inv (fun t ht => (hfacts t ht).2)
          unfold wpOp
          simp only [ho]
          rw [if_pos (by simp [Region.wanted, hgn'])]
          refine .inl (wp_of_lit hgn' hns hd hdn (fun t ht => (hfacts t ht).1) hS fun v w' h1 h2 h3 => ?_)
          refine ih _ _ _ (by simpa using hl) hu' ⟨h2, ?_, ?_, ?_, ?_, ?_⟩
          · rw [hd]; exact hst.defers
          · rw [hd]; simp [Act.put, hst.size]
          · intro t ht
            rw [hd]
            have : d ≠ t := by rintro rfl; exact ht (dsts_mem him' ho hd)
            simp only [Act.put]
            rw [Array.getElem?_setIfInBounds_ne this]
            exact hst.same t ht
          · intro t ht
            rw [hd]
            have : d ≠ t := by
              rintro rfl
              have : pre.contains d = true := by simpa using ht
              rw [hdp] at this
              cases this
            simp only [Act.put]
            rw [Array.getD_eq_getD_getElem?, Array.getElem?_setIfInBounds_ne this, ← Array.getD_eq_getD_getElem?]
            exact hF t w w' _ (hst.pre_ t ht) hst.inv h3
          · intro j oj dj hj hoj hdj hlj
            rw [hd]
            by_cases hji : j = i
            · subst hji
              rw [ho] at hoj
              injection hoj with hoj
              subst hoj
              rw [hd] at hdj
              injection hdj with hdj
              subst hdj
              simp only [Act.put]
              rw [Array.getD_eq_getD_getElem?, Array.getElem?_setIfInBounds_self_of_lt (by rw [hst.size, hn]; exact hdn)]
              exact h1
            · have hne : d ≠ dj := by
                rintro rfl
                rcases hdu j hj with h | h
                · exact hji h
                · rw [hoj] at h
                  exact h (by simpa using hdj)
              simp only [Act.put]
              rw [Array.getD_eq_getD_getElem?, Array.getElem?_setIfInBounds_ne hne, ← Array.getD_eq_getD_getElem?]
              refine hF dj w w' _ (hst.done j oj dj hj hoj hdj ?_) hst.inv h3
              rw [Array.getD_eq_getD_getElem?, Array.getElem?_setIfInBounds_ne (fun e => hji e.symm), ← Array.getD_eq_getD_getElem?] at hlj
              exact hlj
    have hmin : ∀ k, k < m → listed.getD k true = false → ∃ j, j ∈ Region.ready .any ops listed := by
      intro k
      induction k using Nat.strongRecOn with
      | ind k ihk =>
        intro hk hkf
        by_cases hrd : k ∈ Region.ready .any ops listed
        · exact ⟨k, hrd⟩
        · have hks : k < ops.size := by omega
          have hb := hback k (List.mem_range.2 hk)
          rw [Array.getElem?_eq_getElem hks] at hb
          simp only [Array.all_eq_true', decide_eq_true_eq] at hb
          have : ¬ ∀ e ∈ (ops[k]'hks).after, Region.binds .any e = true → listed.getD e.on false = true := fun hh => hrd (mem_ready.2 ⟨hkf, _, Array.getElem?_eq_getElem hks, hh⟩)
          simp only [Classical.not_forall] at this
          obtain ⟨e, he, hbd, hno⟩ := this
          have hlt := hb e he
          refine ihk e.on hlt (by omega) ?_
          have hes : e.on < listed.size := by omega
          rw [Array.getD_eq_getD_getElem?, Array.getElem?_eq_getElem hes] at hno ⊢
          simpa using hno
    refine ⟨fun hr => ?_, stepAt⟩
    obtain ⟨k, hk⟩ := unl_pos _ (by omega : unl listed.toList ≠ 0)
    have hks : k < listed.size := by
      rw [Array.getElem?_toList] at hk
      exact (Array.getElem?_eq_some_iff.1 hk).1
    obtain ⟨j, hj⟩ := hmin k (by omega) (by
      rw [Array.getElem?_toList] at hk
      rw [Array.getD_eq_getD_getElem?, hk]
      rfl)
    rw [hr] at hj
    cases hj
/-- The region, by its slots' facts. -/
theorem wp_region_all {id : Nat} {a0 : Act} {w0 : World} (hmo : P.follows .mixedOrders = true) (hg : regGoodA ops m pre n = true) (hn : a0.tmps.size = n) (hp : ∀ t ∈ pre, t < n)
    (hF : ∀ t w w' v, F t w v → I w → R w w' → F t w' v)
    (hI : I w0.drew) (hpre : ∀ t ∈ pre, F t w0.drew (a0.tmps.getD t undef))
    (hstep : StepsOk P F I R n (ops.toList.take m))
    (hend : ∀ (f : Nat → Value) w, I w → (∀ d ∈ dstsOf ops m, F d w (f d)) → Q .normal ⟨(setSlots a0.tmps.toList f (dstsOf ops m)).toArray, a0.defers⟩ w) :
    (Code.region id ops true).wp P Q a0 w0 := by
  have hsz : ops.size = m := by
    unfold regGoodA at hg
    rw [Bool.and_eq_true, Bool.and_eq_true] at hg
    simpa using hg.1.1
  refine wp_region_any hmo (regAnyA hg hn hp hF hstep hend _ _ _ _ (by simp [hsz]) ?_ ⟨hI, rfl, rfl, fun _ _ => rfl, hpre, fun i o d hi ho hd hl => ?_⟩)
  · rw [Array.toList_replicate, unl_rep]
  · exfalso
    rw [Array.getD_eq_getD_getElem?, Array.getElem?_replicate] at hl
    split at hl <;> cases hl
/-- A move. -/
theorem step_move {d s T : Nat} {pos : String} {after : Array Edge} (hd : d < n) (hs : s < n) (hFF : ∀ w v, F s w v → F d w v) (hR : ∀ w, R w w) :
    ∀ (f : Nat → Value) (w : World), I w → (∀ t ∈ slotsOf ⟨some d, .move (.tmp s), T, pos, after, none⟩, F t w (f t)) → wpList P #[] (LeftBy F I R d w) [⟨some d, .move (.tmp s), T, pos, after, none⟩] ⟨litAll n f, []⟩ w := by
  intro f w hI hF
  have h1 : F s w (f s) := hF s (by simp [slotsOf, Op.operands])
  refine wpList_plain rfl fun K hK => ?_
  have hv : Act.eval ⟨litAll n f, []⟩ (.tmp s) = f s := litAll_at n f s hs
  unfold Oper.wp
  simp only [execOp, hv]
  refine hK _ _ ⟨rfl, ?_, hI, hR w⟩
  simp only [Act.put]
  rw [Array.getD_eq_getD_getElem?, Array.getElem?_setIfInBounds_self_of_lt (by simpa [litAll] using hd)]
  exact hFF _ _ h1
end
end Go.Proofs.Ythnilifepiihjaa
