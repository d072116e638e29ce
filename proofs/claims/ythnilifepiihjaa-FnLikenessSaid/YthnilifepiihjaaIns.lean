/-
  A person put in among persons: l04Insert.
  Conditions: each lemma names its own.
-/
import Derived.Test.YthnilifepiihjaaDrPer
import Derived.Test.YthnilifepiihjaaPersCopy
import Derived.Test.YthnilifepiihjaaRegU
namespace Go.Proofs.Ythnilifepiihjaa
open Go.RowKit
set_option linter.unusedVariables false

/-- An own row of persons, in a block. -/
def OwnP (base : Nat) (v : Value) (ps : List Per) (w : World) : Prop := w.ownsRow base 35 5 v ps.length (ps.flatMap perC) ∧ v ≠ .slice none 0 0
theorem OwnP.below {base : Nat} {v : Value} {s : List Per} {w w' : World} (h : OwnP base v s w) (hb : Below w.heap.size w w') : OwnP base v s w' := ⟨own_below h.1 hb, h.2⟩
theorem OwnP.persons {base : Nat} {v : Value} {s : List Per} {w : World} (h : OwnP base v s w) : Persons w v s := Row.own h.1
theorem OwnP.mono {base base' : Nat} {v : Value} {s : List Per} {w : World} (h : OwnP base v s w) (hb : base' ≤ base) : OwnP base' v s w := ⟨own_mono h.1 hb, h.2⟩
theorem OwnP.past {base g : Nat} {v : Value} {s : List Per} {w w' : World} (h : OwnP base v s w) (hp : Past g w w') (hg : g < base) : OwnP base v s w' := ⟨own_past h.1 hp hg, h.2⟩
theorem OwnP.form {base : Nat} {v : Value} {s : List Per} {w : World} (h : OwnP base v s w) : ∃ lb c, v = .slice (some ⟨lb, 0, none⟩) s.length c ∧ base ≤ lb ∧ lb < w.heap.size ∧ s.length ≤ c ∧ c ≤ maxLen ∧
    (∀ j u, (s.flatMap perC)[j]? = some u → w.cell? ⟨lb, j, none⟩ = some u) := by
  obtain ⟨h1, h2⟩ := h
  have hc := fun g (hg : v.ownBlock = some g) => h1.cells hg
  rcases h1.2 with ⟨hv, _⟩ | ⟨lb, c, cur, rfl, hbl, hcell, hnc, hcm, _⟩
  · exact absurd hv h2
  · refine ⟨lb, c, rfl, hbl, (Array.getElem?_eq_some_iff.1 hcell).1, hnc, hcm, fun j u hu => ?_⟩
    have := hc lb rfl j u hu
    rwa [Addr.add_lit, Nat.zero_add] at this
theorem cells_at {w : World} {lb : Nat} {ps : List Per} (h : ∀ j u, (ps.flatMap perC)[j]? = some u → w.cell? ⟨lb, j, none⟩ = some u) {k : Nat} {p : Per} (hp : ps[k]? = some p) :
    w.cell? ⟨lb, k * 5, none⟩ = some (.int .i64 p.number) ∧ w.cell? ⟨lb, k * 5 + 1, none⟩ = some (.string p.first) ∧ w.cell? ⟨lb, k * 5 + 2, none⟩ = some (.string p.last) ∧ w.cell? ⟨lb, k * 5 + 3, none⟩ = some (.int .i64 p.born) ∧ w.cell? ⟨lb, k * 5 + 4, none⟩ = some (.int .i64 p.zone) :=
  ⟨h _ _ (flat_at ps k p hp 0 (by omega)), h _ _ (flat_at ps k p hp 1 (by omega)), h _ _ (flat_at ps k p hp 2 (by omega)), h _ _ (flat_at ps k p hp 3 (by omega)), h _ _ (flat_at ps k p hp 4 (by omega))⟩
theorem flat_split (ps : List Per) (k : Nat) : ps.flatMap perC = (ps.take k).flatMap perC ++ (ps.drop k).flatMap perC := by
  rw [← List.flatMap_append, List.take_append_drop]
theorem flat_take {ps : List Per} {k j : Nat} {u : Value} (h : ((ps.take k).flatMap perC)[j]? = some u) : (ps.flatMap perC)[j]? = some u := by
  rw [flat_split ps k, List.getElem?_append_left (List.getElem?_eq_some_iff.1 h).1]
  exact h
theorem flat_drop {ps : List Per} {k j : Nat} {u : Value} (hk : k ≤ ps.length) (h : ((ps.drop k).flatMap perC)[j]? = some u) : (ps.flatMap perC)[k * 5 + j]? = some u := by
  have hl : ((ps.take k).flatMap perC).length = k * 5 := by rw [flat_len, List.length_take, Nat.min_eq_left hk]
  rw [flat_split ps k, List.getElem?_append_right (by omega), hl, show k * 5 + j - k * 5 = j by omega]
  exact h
theorem news_of {w : World} {b : Nat} {cs : Array Value} {t : TypeId} (hb : w.heap[b]? = some (.cells cs t)) : ∀ j u, cs.toList[j]? = some u → w.cell? ((⟨b, 0, none⟩ : Addr).add j) = some u := fun j u hu => by
  rw [Addr.add_lit, cell_of_row _ _ _ _ _ _ hb]
  simpa using hu
theorem one_cell {u : Value} {ps : List Per} (h : u ∈ ps.flatMap perC) : u.oneCell' = true := by
  obtain ⟨p, _, hu⟩ := List.mem_flatMap.1 h
  unfold perC at hu
  simp at hu
  rcases hu with rfl | rfl | rfl | rfl | rfl <;> rfl

/-- An append to an empty own row of no room turns no block. -/
theorem run_append_empty {P : Program} (t ty e : TypeId) (i : TypeInfo) (z : Value) (bytes : Nat) (ht : P.underlying t = some (.slice e)) (hi : P.info? e = some i) (hz : i.zero = some z)
    (hby : i.bytes = bytes) {w w' : World} {v' : Value} {b : Nat} (hb : w.heap[b]? = some (.cells #[] e (0, 0)))
    (a : Addr) (m c : Nat) (news : List Value) (hl : news.length = m * i.size) (hnews : ∀ j u, news[j]? = some u → w.cell? (a.add j) = some u) (h1 : ∀ u ∈ news, u.oneCell' = true)
    (h63 : m ≤ maxLen) (hbytes : m * bytes ≤ 140737488355328)
    (hr : (Builtin.append_ #[t, t] ty #[.slice (some ⟨b, 0, none⟩) 0 0, .slice (some a) m c]).run P w = .ok v' w') : Below w.heap.size w w' := by
  by_cases hm : m = 0
  · subst hm
    have hn : news = [] := List.eq_nil_of_length_eq_zero (by simpa using hl)
    subst hn
    have h := run_append_room (P := P) w t ty e i ht hi b 0 0 #[] hb a 0 c [] hl hnews h1 (Nat.le_refl _) (by simp)
    rw [hr] at h
    injection h with _ h
    subst h
    refine ⟨rfl, rfl, rfl, by simp [World.setRow], fun k hk => ?_⟩
    by_cases hkb : k = b
    · subst hkb
      rw [setRow_heap w k _ _ e _ hb, hb]
      simp
    · exact setRow_other w b k _ (fun e => hkb e)
  · have h := run_append_grow (P := P) w t ty e i z ht hi hz ⟨b, 0, none⟩ 0 0 [] (by simp) (fun j v hj => by simp at hj) a m c news hl hnews (by omega) (by unfold maxLen at h63; omega) (growslice_fits (by omega) (by rw [hby]; simpa using hbytes))
    rw [hr] at h
    injection h with _ h
    subst h
    exact (Below.refl w.heap.size w).drew.alloc (Nat.le_refl _) _
theorem wpList_append_empty {P : Program} {w : World} {ops : Array Oper} {rest : List Oper} {o : Oper} {a : Act} {Q : Exit → Act → World → Prop} (hgd : o.guard = none) (s x : Operand) (t : TypeId)
    (ho : o.op = .call { callee := .builtin .append, args := #[s, x], argTypes := #[t, t] })
    (base : Nat) (e : TypeId) (i : TypeInfo) (z : Value) (size bytes : Nat) (ht : P.underlying t = some (.slice e)) (hi : P.info? e = some i) (hz : i.zero = some z)
    (hsize : i.size = size) (hby : i.bytes = bytes) (hzs : z.cells.size = size) (hsz : 0 < size)
    (b : Nat) (hs : a.eval s = .slice (some ⟨b, 0, none⟩) 0 0) (hb : w.heap[b]? = some (.cells #[] e (0, 0))) (hbb : base ≤ b)
    (ad : Addr) (m c : Nat) (news : List Value) (hx : a.eval x = .slice (some ad) m c) (hl : news.length = m * size) (hnews : ∀ j u, news[j]? = some u → w.cell? (ad.add j) = some u) (h1 : ∀ u ∈ news, u.oneCell' = true)
    (h63 : m ≤ maxLen) (hbytes : m * bytes ≤ 140737488355328) (hbase : base ≤ w.heap.size)
    (h : ∀ v' w', w'.ownsRow base e size v' m news → v' ≠ .slice none 0 0 → Below w.heap.size w w' → wpList P ops Q rest (a.put o.dst v') w') : wpList P ops Q (o :: rest) a w := by
  refine wpList_plain hgd fun _ hK => ?_
  have hown : w.ownsRow base e size (.slice (some ⟨b, 0, none⟩) 0 0) 0 [] := ⟨by simp, .inr ⟨b, 0, #[], rfl, hbb, hb, Nat.le_refl _, Nat.zero_le _, by simp, by simp⟩⟩
  obtain ⟨v', w', hr, h2, h3, h4⟩ := run_append_own (P := P) w base t o.type e i z size bytes ht hi hz hsize hby hzs hsz _ 0 [] hown ad m c news hl hnews h1 (by omega) (by simpa using hbytes) hbase
  have hbl := run_append_empty (P := P) t o.type e i z bytes ht hi hz hby hb ad m c news (by rw [hsize]; exact hl) hnews h1 h63 hbytes hr
  rw [Nat.zero_add, List.nil_append] at h2
  unfold Oper.wp execOp
  simp only [ho, resolve, invoke, builtin, Sem.run_bind, Sem.run_pure, Result.andThen_ok, List.map_toArray, List.map_cons, List.map_nil, hs, hx, hr]
  exact hK _ _ (h v' w' h2 (fun e => by have := (h4.1 e).1; cases this) hbl)

/-- The facts of the slots of the last region. -/
def insF (lb n c k pb : Nat) (ps : List Per) (p : Per) (w1 : World) (i : Nat) (w : World) (v : Value) : Prop :=
  match i with
  | 0 => v = .slice (some ⟨lb, 0, none⟩) n c
  | 38 => v = .slice (some ⟨lb, 0, none⟩) n c
  | 45 => v = .slice (some ⟨lb, 0, none⟩) n c
  | 3 => v = .pointer (some ⟨pb, 0, none⟩)
  | 5 => v = .int .i64 k
  | 39 => v = .int .i64 k
  | 46 => v = .int .i64 k
  | 40 => v = .slice (some ⟨lb, 0, none⟩) k c
  | 42 => v = .agg #[.int .i64 p.number, .string p.first, .string p.last, .int .i64 p.born, .int .i64 p.zone]
  | 47 => ∃ (ad : Addr) (l c' : Nat), v = .slice (some ad) l c' ∧ l = n - k ∧ ∀ j u, ((ps.drop k).flatMap perC)[j]? = some u → (ad.add j).block < w1.heap.size ∧ w1.cell? (ad.add j) = some u
  | 37 => ∃ b, v = .slice (some ⟨b, 0, none⟩) 0 0 ∧ w1.heap.size ≤ b ∧ w.heap[b]? = some (.cells #[] 35)
  | 43 => ∃ b, v = .slice (some ⟨b, 0, none⟩) 1 1 ∧ w.heap[b]? = some (.cells #[.int .i64 p.number, .string p.first, .string p.last, .int .i64 p.born, .int .i64 p.zone] 35)
  | 41 => OwnP w1.heap.size v (ps.take k) w
  | 44 => OwnP w1.heap.size v (ps.take k ++ [p]) w
  | 48 => OwnP w1.heap.size v (ps.take k ++ [p] ++ ps.drop k) w
  | _ => False
/-- Which operation consumes a slot. -/
def insC (t : Nat) : Option Nat := if t = 37 then some 4 else if t = 41 then some 7 else if t = 43 then some 7 else if t = 44 then some 11 else none
def insR (i : Nat) (w w' : World) : Prop := (i ≠ 7 ∧ i ≠ 11) → Below w.heap.size w w'
theorem insR_refl (i : Nat) (w : World) : insR i w w := fun _ => Below.refl _ _
theorem insR_of {i : Nat} {w w' : World} (h : Below w.heap.size w w') : insR i w w' := fun _ => h
theorem block_below {w w' : World} {b : Nat} {x : Obj} (h : w.heap[b]? = some x) (hb : Below w.heap.size w w') : w'.heap[b]? = some x := (hb.block b (Array.getElem?_eq_some_iff.1 h).1).trans h
theorem insF_stands {lb n c k pb : Nat} {ps : List Per} {p : Per} {w1 : World} {ops : Array Oper} (h1 : ∀ t, t = 37 ∨ t = 41 ∨ t = 43 ∨ t = 44 ∨ t = 48 → mustStand ops 12 insC 7 t = false ∧ mustStand ops 12 insC 11 t = false)
    (i t : Nat) (w w' : World) (v : Value) (hs : mustStand ops 12 insC i t = true) (h : insF lb n c k pb ps p w1 t w v) (hR : insR i w w') : insF lb n c k pb ps p w1 t w' v := by
  have key : (t = 37 ∨ t = 41 ∨ t = 43 ∨ t = 44 ∨ t = 48) → Below w.heap.size w w' := fun ht => by
    refine hR ⟨?_, ?_⟩
    · rintro rfl
      rw [(h1 t ht).1] at hs
      cases hs
    · rintro rfl
      rw [(h1 t ht).2] at hs
      cases hs
  unfold insF at h ⊢
  split at h
  case h_11 => obtain ⟨b, e1, e2, e3⟩ := h; exact ⟨b, e1, e2, block_below e3 (key (by simp))⟩
  case h_12 => obtain ⟨b, e1, e3⟩ := h; exact ⟨b, e1, block_below e3 (key (by simp))⟩
  case h_13 => exact h.below (key (by simp))
  case h_14 => exact h.below (key (by simp))
  case h_15 => exact h.below (key (by simp))
  all_goals exact h
theorem flat_snoc (ps : List Per) (p : Per) : (ps ++ [p]).flatMap perC = ps.flatMap perC ++ perC p := by rw [List.flatMap_append]; simp

set_option maxRecDepth 100000 in
set_option maxHeartbeats 16000000 in
theorem insert_c {base : Nat} {v : Value} {ps : List Per} {w : World} (p : Per) (h : OwnP base v ps w) (hb : base ≤ w.heap.size) (hm : ps.length ≤ 1000) :
    Calls Try.prog 100 #[v, perV p] w fun e w' => ∃ u qs, e = .returned u ∧ OwnP base u qs w' ∧ qs.length ≤ ps.length + 1 ∧ (∀ q ∈ qs, q ∈ ps ∨ q = p) ∧ Below w.heap.size w w' := by
  obtain ⟨i0, hi, hz0, hz1, hz2⟩ := info_parts info_iper
  have PA0 := perAt_new w p 35
  have BB : Below w.heap.size w (w.alloc (.cells #[.int .i64 p.number, .string p.first, .string p.last, .int .i64 p.born, .int .i64 p.zone] 35)) := (Below.refl _ _).alloc (Nat.le_refl _) _
  have HO := Lib.hid (h.below BB)
  obtain ⟨lb, c, rfl, hbl, hlb, hcap, hmost, hcells⟩ := (h.below BB).form
  have hlen : Hid (ps.length = ps.length) := Lib.hid rfl
  replace hcells := Lib.hid hcells
  replace hbl := Lib.hid hbl
  have HM := Lib.hid hmost
  unfold maxLen at hmost
  clear h
  generalize hn' : ps.length = n at *
  replace hn' := Lib.hid hn'
  unfold perV
  go_enter Try.func100, Try.ntmps100
  go_wp2_with fail
  generalize (w.alloc (.cells #[.int .i64 p.number, .string p.first, .string p.last, .int .i64 p.born, .int .i64 p.zone] 35)) = w1 at *
  have hbw := Lib.hid BB.size
  replace hlen := Lib.hid BB
  generalize hpbe : w.heap.size = pb at *
  go_loopw [5] (fun i wr => ∃ k m : Nat, k ≤ n ∧ i = .int .i64 k ∧ wr = w1.drewN m) (fun i _ => n - (intOf i).toNat)
  case atStart => exact ⟨0, 0, Nat.zero_le _, rfl, rfl⟩
  case round =>
    obtain ⟨k, m, hk, rfl, rfl⟩ := hrel
    obtain ⟨hpb, c0, c1, c2, c3, c4⟩ := PA0
    by_cases hlt : k < n
    · obtain ⟨q, hq⟩ := per_at (ps := ps) (k := k) (by have := hn'.out; omega)
      obtain ⟨d0, d1, d2, d3, d4⟩ := cells_at hcells.out hq
      clear hq
      by_cases hle : q.number < p.number
      · go_wp2_with fail
        go_quiet (fail)
        go_wp2_with fail
        go_roundw
        case rel => exact ⟨k + 1, _, by omega, by go_num, rfl⟩
        case measure => simp [intOf]; omega
      · by_cases heq : q.number = p.number
        · go_wp2_with fail
          go_quiet (fail)
          go_wp2_with fail
          go_quiet (fail)
          go_wp2_with fail
          go_ret
          exact ⟨_, ps, rfl, HO.out, by rw [hn'.out]; exact Nat.le_succ _, fun q hq => Or.inl hq, below_of_drewN (below_of_drewN (below_of_drewN (by rw [hpbe]; exact BB) _) _) _⟩
        · go_wp2_with fail
          go_quiet (fail)
          go_wp2_with fail
          go_quiet (fail)
          go_wp2_with fail
          refine wp_region_use (F := insF lb n c k pb ps p w1) (I := Below w1.heap.size w1) (R := insR) (m := 12) (n := 49) (pre := [0, 3, 5]) (cons := insC) (by kernel_rfl) (by kernel_rfl) rfl (by simp) (by kernel_rfl) ?hF (below_of_drewN (below_of_drewN (below_of_drewN (Below.refl _ _) _) _) _).drew ?hpre ?hstep ?hend
          case hF =>
            intro i t w3 w4 v hs hv _ hR
            exact insF_stands (fun t ht => by rcases ht with rfl | rfl | rfl | rfl | rfl <;> exact ⟨by kernel_rfl, by kernel_rfl⟩) i t w3 w4 v hs hv hR
          case hpre =>
            intro t ht
            simp only [List.mem_cons, List.not_mem_nil, or_false] at ht
            rcases ht with rfl | rfl | rfl <;> exact rfl
          case hstep =>
            refine (And.intro ?s37 (And.intro (stepU_move (by omega) (by omega) (fun _ _ h => h) (fun _ => insR_refl _ _)) (And.intro (stepU_move (by omega) (by omega) (fun _ _ h => h) (fun _ => insR_refl _ _)) (And.intro ?s40 (And.intro ?s41 (And.intro ?s42 (And.intro ?s43 (And.intro ?s44 (And.intro (stepU_move (by omega) (by omega) (fun _ _ h => h) (fun _ => insR_refl _ _)) (And.intro (stepU_move (by omega) (by omega) (fun _ _ h => h) (fun _ => insR_refl _ _)) (And.intro ?s47 (And.intro ?s48 trivial))))))))))))
            case s37 =>
              intro f w3 hI hF
              simp only [litAll, List.range, List.range.loop, List.map]
              go_wp2_with fail
              exact ⟨rfl, ⟨_, rfl, hI.size, heap_alloc_new w3 _⟩, hI.alloc hI.size _, insR_of ((Below.refl _ _).alloc (Nat.le_refl _) _)⟩
            case s40 =>
              intro f w3 hI hF
              simp only [litAll, List.range, List.range.loop, List.map]
              rw [show f 38 = .slice (some ⟨lb, 0, none⟩) n c from hF 38 (by decide), show f 39 = .int .i64 k from hF 39 (by decide)]
              go_wp2_with fail
              exact ⟨rfl, rfl, hI, insR_refl _ _⟩
            case s41 =>
              intro f w3 hI hF
              simp only [litAll, List.range, List.range.loop, List.map]
              obtain ⟨b, h37, hb1, hb2⟩ := hF 37 (by decide)
              rw [h37, show f 40 = .slice (some ⟨lb, 0, none⟩) k c from hF 40 (by decide)]
              have hn1 := Lib.hid hn'.out
              have hnews : Hid (∀ j u, ((ps.take k).flatMap perC)[j]? = some u → w3.cell? ((⟨lb, 0, none⟩ : Addr).add j) = some u) := Lib.hid fun j u hu => by rw [Addr.add_lit, Nat.zero_add]; exact (hI.cell (p := ⟨lb, j, none⟩) hlb).trans (hcells.out j u (flat_take hu))
              have hl5 : Hid (((ps.take k).flatMap perC).length = k * 5) := Lib.hid (by rw [flat_len, List.length_take, hn'.out]; omega)
              have hk1 : Hid ((ps.take k).length = k) := Lib.hid (by rw [List.length_take, hn'.out]; omega)
              refine wpList_append_empty rfl _ _ 50 rfl w1.heap.size 35 i0 (.agg #[.int .i64 0, .string ByteArray.empty, .string ByteArray.empty, .int .i64 0, .int .i64 0]) 5 56 Try.underlying50 hi hz0 hz1 hz2 rfl (by decide) b rfl hb2 hb1 ⟨lb, 0, none⟩ k c ((ps.take k).flatMap perC) rfl hl5.out hnews.out (fun u hu => one_cell hu) (by unfold maxLen; omega) (by omega) hI.size ?_
              intro v' w4 hown hne hb4
              have hO : Hid (OwnP w1.heap.size v' (ps.take k) w4) := Lib.hid ⟨by rw [hk1.out]; exact hown, hne⟩
              clear hown hnews hl5 hk1
              go_wp2_with fail
              exact ⟨rfl, hO.out, hI.trans (hb4.mono hI.size), insR_of hb4⟩
            case s42 =>
              intro f w3 hI hF
              simp only [litAll, List.range, List.range.loop, List.map]
              rw [show f 3 = .pointer (some ⟨pb, 0, none⟩) from hF 3 (by decide)]
              have e0 := (hI.cell (p := ⟨pb, 0, none⟩) hpb).trans c0
              have e1 := (hI.cell (p := ⟨pb, 1, none⟩) hpb).trans c1
              have e2 := (hI.cell (p := ⟨pb, 2, none⟩) hpb).trans c2
              have e3 := (hI.cell (p := ⟨pb, 3, none⟩) hpb).trans c3
              have e4 := (hI.cell (p := ⟨pb, 4, none⟩) hpb).trans c4
              go_wp2_with fail
              exact ⟨rfl, rfl, hI, insR_refl _ _⟩
            case s43 =>
              intro f w3 hI hF
              simp only [litAll, List.range, List.range.loop, List.map]
              rw [show f 42 = .agg #[.int .i64 p.number, .string p.first, .string p.last, .int .i64 p.born, .int .i64 p.zone] from hF 42 (by decide)]
              go_wp2_with fail
              exact ⟨rfl, ⟨_, rfl, heap_alloc_new w3 _⟩, hI.alloc hI.size _, insR_of ((Below.refl _ _).alloc (Nat.le_refl _) _)⟩
            case s44 =>
              intro f w3 hI hF
              simp only [litAll, List.range, List.range.loop, List.map]
              have hO1 := Lib.hid (show OwnP w1.heap.size (f 41) (ps.take k) w3 from hF 41 (by decide))
              obtain ⟨b, h43, hb2⟩ := hF 43 (by decide)
              rw [h43]
              have hk1 : Hid ((ps.take k).length = k) := Lib.hid (by rw [List.length_take, hn'.out]; omega)
              have hnews : Hid (∀ j u, (perC p)[j]? = some u → w3.cell? ((⟨b, 0, none⟩ : Addr).add j) = some u) := Lib.hid (news_of hb2)
              generalize f 41 = v41 at *
              refine wpList_append_own w3 rfl _ _ 50 rfl w1.heap.size 35 i0 (.agg #[.int .i64 0, .string ByteArray.empty, .string ByteArray.empty, .int .i64 0, .int .i64 0]) 5 56 Try.underlying50 hi hz0 hz1 hz2 rfl (by decide) v41 _ _ rfl hO1.out.1 ⟨b, 0, none⟩ 1 1 (perC p) rfl rfl hnews.out (fun u hu => one_cell (ps := [p]) (by simpa using hu)) (by rw [hk1.out]; unfold maxLen; omega) (by rw [hk1.out]; omega) hI.size ?_
              intro v' w4 hown hgrow hne
              rw [← flat_snoc, show (ps.take k).length + 1 = (ps.take k ++ [p]).length by simp] at hown
              have hO : Hid (OwnP w1.heap.size v' (ps.take k ++ [p]) w4) := Lib.hid ⟨hown, fun e => hO1.out.2 (hne.1 e).1⟩
              have hI4 : Below w1.heap.size w1 w4 := hI.grown hgrow hI.size (fun g hg => (hO1.out.1.lt g hg).1)
              clear hown hnews hk1 hgrow hne
              go_wp2_with fail
              exact ⟨rfl, hO.out, hI4, fun h => absurd rfl h.1⟩
            case s47 =>
              intro f w3 hI hF
              simp only [litAll, List.range, List.range.loop, List.map]
              rw [show f 45 = .slice (some ⟨lb, 0, none⟩) n c from hF 45 (by decide), show f 46 = .int .i64 k from hF 46 (by decide)]
              have hcl : Hid (∀ j u, ((ps.drop k).flatMap perC)[j]? = some u → w1.cell? ⟨lb, k * 5 + j, none⟩ = some u) := Lib.hid fun j u hu => hcells.out _ u (flat_drop (by rw [hn'.out]; omega) hu)
              have hdn : Hid (c = k → ps.drop k = []) := Lib.hid fun e => List.drop_eq_nil_of_le (by rw [hn'.out]; omega)
              by_cases hck : c = k
              · have hnil := Lib.hid (hdn.out hck)
                go_wp2_with fail
                exact ⟨rfl, ⟨_, _, _, rfl, by omega, fun j u hu => by rw [hnil.out] at hu; simp at hu⟩, hI, insR_refl _ _⟩
              · go_wp2_with fail
                exact ⟨rfl, ⟨_, _, _, rfl, by omega, fun j u hu => by have := hcl.out j u hu; rw [Addr.add_lit]; exact ⟨hlb, by simpa using this⟩⟩, hI, insR_refl _ _⟩
            case s48 =>
              intro f w3 hI hF
              simp only [litAll, List.range, List.range.loop, List.map]
              have hO1 := Lib.hid (show OwnP w1.heap.size (f 44) (ps.take k ++ [p]) w3 from hF 44 (by decide))
              obtain ⟨ad, l, c', h47, hln, hb2⟩ := hF 47 (by decide)
              rw [h47]
              have hk1 : Hid ((ps.take k ++ [p]).length = k + 1) := Lib.hid (by rw [List.length_append, List.length_take, hn'.out, List.length_singleton]; omega)
              have hk2 : Hid ((ps.drop k).length = l) := Lib.hid (by rw [List.length_drop, hn'.out, hln])
              have hnews : Hid (∀ j u, ((ps.drop k).flatMap perC)[j]? = some u → w3.cell? (ad.add j) = some u) := Lib.hid fun j u hu => (hI.cell (hb2 j u hu).1).trans (hb2 j u hu).2
              generalize f 44 = v44 at *
              refine wpList_append_own w3 rfl _ _ 50 rfl w1.heap.size 35 i0 (.agg #[.int .i64 0, .string ByteArray.empty, .string ByteArray.empty, .int .i64 0, .int .i64 0]) 5 56 Try.underlying50 hi hz0 hz1 hz2 rfl (by decide) v44 _ _ rfl hO1.out.1 ad l c' ((ps.drop k).flatMap perC) rfl (by rw [flat_len, hk2.out]) hnews.out (fun u hu => one_cell hu) (by rw [hk1.out]; unfold maxLen; omega) (by rw [hk1.out]; omega) hI.size ?_
              intro v' w4 hown hgrow hne
              rw [← List.flatMap_append, ← hk2.out, ← List.length_append] at hown
              have hO : Hid (OwnP w1.heap.size v' (ps.take k ++ [p] ++ ps.drop k) w4) := Lib.hid ⟨hown, fun e => hO1.out.2 (hne.1 e).1⟩
              have hI4 : Below w1.heap.size w1 w4 := hI.grown hgrow hI.size (fun g hg => (hO1.out.1.lt g hg).1)
              clear hown hnews hk1 hgrow hne
              go_wp2_with fail
              exact ⟨rfl, hO.out, hI4, fun h => absurd rfl h.2⟩
          case hend =>
            intro f w3 hI hF o ho
            injection ho with ho
            subst ho
            have hO : Hid (OwnP w1.heap.size (f 48) (ps.take k ++ [p] ++ ps.drop k) w3) := Lib.hid (hF 48 (by decide) (Or.inl rfl))
            simp only [dstsOf, List.take, List.filterMap, setSlots, List.foldl, List.set]
            clear hF
            generalize f 37 = v37 at *
            generalize f 38 = v38 at *
            generalize f 39 = v39 at *
            generalize f 40 = v40 at *
            generalize f 41 = v41 at *
            generalize f 42 = v42 at *
            generalize f 43 = v43 at *
            generalize f 44 = v44 at *
            generalize f 45 = v45 at *
            generalize f 46 = v46 at *
            generalize f 47 = v47 at *
            generalize f 48 = v48 at *
            go_wp2_with fail
            go_ret
            refine ⟨v48, _, rfl, hO.out.mono (by have := hbw.out; omega), ?_, fun q hq => ?_, ?_⟩
            · simp only [List.length_append, List.length_take, List.length_drop, List.length_singleton, hn'.out]; omega
            · rcases List.mem_append.1 hq with hq | hq
              · rcases List.mem_append.1 hq with hq | hq
                · exact Or.inl (List.mem_of_mem_take hq)
                · exact Or.inr (by simpa using hq)
              · exact Or.inl (List.mem_of_mem_drop hq)
            · rw [hpbe]; exact hlen.out.trans (hI.mono hbw.out)
    · obtain rfl : k = n := by omega
      go_wp2_with fail
      go_quiet (fail)
      go_wp2_with fail
      go_quiet (fail)
      go_wp2_with fail
      refine wp_region_use (F := insF lb k c k pb ps p w1) (I := Below w1.heap.size w1) (R := insR) (m := 12) (n := 49) (pre := [0, 3, 5]) (cons := insC) (by kernel_rfl) (by kernel_rfl) rfl (by simp) (by kernel_rfl) ?hF (below_of_drewN (below_of_drewN (below_of_drewN (Below.refl _ _) _) _) _).drew ?hpre ?hstep ?hend
      case hF =>
        intro i t w3 w4 v hs hv _ hR
        exact insF_stands (fun t ht => by rcases ht with rfl | rfl | rfl | rfl | rfl <;> exact ⟨by kernel_rfl, by kernel_rfl⟩) i t w3 w4 v hs hv hR
      case hpre =>
        intro t ht
        simp only [List.mem_cons, List.not_mem_nil, or_false] at ht
        rcases ht with rfl | rfl | rfl <;> exact rfl
      case hstep =>
        refine (And.intro ?s37 (And.intro (stepU_move (by omega) (by omega) (fun _ _ h => h) (fun _ => insR_refl _ _)) (And.intro (stepU_move (by omega) (by omega) (fun _ _ h => h) (fun _ => insR_refl _ _)) (And.intro ?s40 (And.intro ?s41 (And.intro ?s42 (And.intro ?s43 (And.intro ?s44 (And.intro (stepU_move (by omega) (by omega) (fun _ _ h => h) (fun _ => insR_refl _ _)) (And.intro (stepU_move (by omega) (by omega) (fun _ _ h => h) (fun _ => insR_refl _ _)) (And.intro ?s47 (And.intro ?s48 trivial))))))))))))
        case s37 =>
          intro f w3 hI hF
          simp only [litAll, List.range, List.range.loop, List.map]
          go_wp2_with fail
          exact ⟨rfl, ⟨_, rfl, hI.size, heap_alloc_new w3 _⟩, hI.alloc hI.size _, insR_of ((Below.refl _ _).alloc (Nat.le_refl _) _)⟩
        case s40 =>
          intro f w3 hI hF
          simp only [litAll, List.range, List.range.loop, List.map]
          rw [show f 38 = .slice (some ⟨lb, 0, none⟩) k c from hF 38 (by decide), show f 39 = .int .i64 k from hF 39 (by decide)]
          go_wp2_with fail
          exact ⟨rfl, rfl, hI, insR_refl _ _⟩
        case s41 =>
          intro f w3 hI hF
          simp only [litAll, List.range, List.range.loop, List.map]
          obtain ⟨b, h37, hb1, hb2⟩ := hF 37 (by decide)
          rw [h37, show f 40 = .slice (some ⟨lb, 0, none⟩) k c from hF 40 (by decide)]
          have hn1 := Lib.hid hn'.out
          have hnews : Hid (∀ j u, ((ps.take k).flatMap perC)[j]? = some u → w3.cell? ((⟨lb, 0, none⟩ : Addr).add j) = some u) := Lib.hid fun j u hu => by rw [Addr.add_lit, Nat.zero_add]; exact (hI.cell (p := ⟨lb, j, none⟩) hlb).trans (hcells.out j u (flat_take hu))
          have hl5 : Hid (((ps.take k).flatMap perC).length = k * 5) := Lib.hid (by rw [flat_len, List.length_take, hn'.out]; omega)
          have hk1 : Hid ((ps.take k).length = k) := Lib.hid (by rw [List.length_take, hn'.out]; omega)
          refine wpList_append_empty rfl _ _ 50 rfl w1.heap.size 35 i0 (.agg #[.int .i64 0, .string ByteArray.empty, .string ByteArray.empty, .int .i64 0, .int .i64 0]) 5 56 Try.underlying50 hi hz0 hz1 hz2 rfl (by decide) b rfl hb2 hb1 ⟨lb, 0, none⟩ k c ((ps.take k).flatMap perC) rfl hl5.out hnews.out (fun u hu => one_cell hu) (by unfold maxLen; omega) (by omega) hI.size ?_
          intro v' w4 hown hne hb4
          have hO : Hid (OwnP w1.heap.size v' (ps.take k) w4) := Lib.hid ⟨by rw [hk1.out]; exact hown, hne⟩
          clear hown hnews hl5 hk1
          go_wp2_with fail
          exact ⟨rfl, hO.out, hI.trans (hb4.mono hI.size), insR_of hb4⟩
        case s42 =>
          intro f w3 hI hF
          simp only [litAll, List.range, List.range.loop, List.map]
          rw [show f 3 = .pointer (some ⟨pb, 0, none⟩) from hF 3 (by decide)]
          have e0 := (hI.cell (p := ⟨pb, 0, none⟩) hpb).trans c0
          have e1 := (hI.cell (p := ⟨pb, 1, none⟩) hpb).trans c1
          have e2 := (hI.cell (p := ⟨pb, 2, none⟩) hpb).trans c2
          have e3 := (hI.cell (p := ⟨pb, 3, none⟩) hpb).trans c3
          have e4 := (hI.cell (p := ⟨pb, 4, none⟩) hpb).trans c4
          go_wp2_with fail
          exact ⟨rfl, rfl, hI, insR_refl _ _⟩
        case s43 =>
          intro f w3 hI hF
          simp only [litAll, List.range, List.range.loop, List.map]
          rw [show f 42 = .agg #[.int .i64 p.number, .string p.first, .string p.last, .int .i64 p.born, .int .i64 p.zone] from hF 42 (by decide)]
          go_wp2_with fail
          exact ⟨rfl, ⟨_, rfl, heap_alloc_new w3 _⟩, hI.alloc hI.size _, insR_of ((Below.refl _ _).alloc (Nat.le_refl _) _)⟩
        case s44 =>
          intro f w3 hI hF
          simp only [litAll, List.range, List.range.loop, List.map]
          have hO1 := Lib.hid (show OwnP w1.heap.size (f 41) (ps.take k) w3 from hF 41 (by decide))
          obtain ⟨b, h43, hb2⟩ := hF 43 (by decide)
          rw [h43]
          have hk1 : Hid ((ps.take k).length = k) := Lib.hid (by rw [List.length_take, hn'.out]; omega)
          have hnews : Hid (∀ j u, (perC p)[j]? = some u → w3.cell? ((⟨b, 0, none⟩ : Addr).add j) = some u) := Lib.hid (news_of hb2)
          generalize f 41 = v41 at *
          refine wpList_append_own w3 rfl _ _ 50 rfl w1.heap.size 35 i0 (.agg #[.int .i64 0, .string ByteArray.empty, .string ByteArray.empty, .int .i64 0, .int .i64 0]) 5 56 Try.underlying50 hi hz0 hz1 hz2 rfl (by decide) v41 _ _ rfl hO1.out.1 ⟨b, 0, none⟩ 1 1 (perC p) rfl rfl hnews.out (fun u hu => one_cell (ps := [p]) (by simpa using hu)) (by rw [hk1.out]; unfold maxLen; omega) (by rw [hk1.out]; omega) hI.size ?_
          intro v' w4 hown hgrow hne
          rw [← flat_snoc, show (ps.take k).length + 1 = (ps.take k ++ [p]).length by simp] at hown
          have hO : Hid (OwnP w1.heap.size v' (ps.take k ++ [p]) w4) := Lib.hid ⟨hown, fun e => hO1.out.2 (hne.1 e).1⟩
          have hI4 : Below w1.heap.size w1 w4 := hI.grown hgrow hI.size (fun g hg => (hO1.out.1.lt g hg).1)
          clear hown hnews hk1 hgrow hne
          go_wp2_with fail
          exact ⟨rfl, hO.out, hI4, fun h => absurd rfl h.1⟩
        case s47 =>
          intro f w3 hI hF
          simp only [litAll, List.range, List.range.loop, List.map]
          rw [show f 45 = .slice (some ⟨lb, 0, none⟩) k c from hF 45 (by decide), show f 46 = .int .i64 k from hF 46 (by decide)]
          have hcl : Hid (∀ j u, ((ps.drop k).flatMap perC)[j]? = some u → w1.cell? ⟨lb, k * 5 + j, none⟩ = some u) := Lib.hid fun j u hu => hcells.out _ u (flat_drop (by rw [hn'.out]; omega) hu)
          have hdn : Hid (c = k → ps.drop k = []) := Lib.hid fun e => List.drop_eq_nil_of_le (by rw [hn'.out]; omega)
          by_cases hck : c = k
          · have hnil := Lib.hid (hdn.out hck)
            go_wp2_with fail
            exact ⟨rfl, ⟨_, _, _, rfl, by omega, fun j u hu => by rw [hnil.out] at hu; simp at hu⟩, hI, insR_refl _ _⟩
          · go_wp2_with fail
            exact ⟨rfl, ⟨_, _, _, rfl, by omega, fun j u hu => by have := hcl.out j u hu; rw [Addr.add_lit]; exact ⟨hlb, by simpa using this⟩⟩, hI, insR_refl _ _⟩
        case s48 =>
          intro f w3 hI hF
          simp only [litAll, List.range, List.range.loop, List.map]
          have hO1 := Lib.hid (show OwnP w1.heap.size (f 44) (ps.take k ++ [p]) w3 from hF 44 (by decide))
          obtain ⟨ad, l, c', h47, hln, hb2⟩ := hF 47 (by decide)
          rw [h47]
          have hk1 : Hid ((ps.take k ++ [p]).length = k + 1) := Lib.hid (by rw [List.length_append, List.length_take, hn'.out, List.length_singleton]; omega)
          have hk2 : Hid ((ps.drop k).length = l) := Lib.hid (by rw [List.length_drop, hn'.out, hln])
          have hnews : Hid (∀ j u, ((ps.drop k).flatMap perC)[j]? = some u → w3.cell? (ad.add j) = some u) := Lib.hid fun j u hu => (hI.cell (hb2 j u hu).1).trans (hb2 j u hu).2
          generalize f 44 = v44 at *
          refine wpList_append_own w3 rfl _ _ 50 rfl w1.heap.size 35 i0 (.agg #[.int .i64 0, .string ByteArray.empty, .string ByteArray.empty, .int .i64 0, .int .i64 0]) 5 56 Try.underlying50 hi hz0 hz1 hz2 rfl (by decide) v44 _ _ rfl hO1.out.1 ad l c' ((ps.drop k).flatMap perC) rfl (by rw [flat_len, hk2.out]) hnews.out (fun u hu => one_cell hu) (by rw [hk1.out]; unfold maxLen; omega) (by rw [hk1.out]; omega) hI.size ?_
          intro v' w4 hown hgrow hne
          rw [← List.flatMap_append, ← hk2.out, ← List.length_append] at hown
          have hO : Hid (OwnP w1.heap.size v' (ps.take k ++ [p] ++ ps.drop k) w4) := Lib.hid ⟨hown, fun e => hO1.out.2 (hne.1 e).1⟩
          have hI4 : Below w1.heap.size w1 w4 := hI.grown hgrow hI.size (fun g hg => (hO1.out.1.lt g hg).1)
          clear hown hnews hk1 hgrow hne
          go_wp2_with fail
          exact ⟨rfl, hO.out, hI4, fun h => absurd rfl h.2⟩
      case hend =>
        intro f w3 hI hF o ho
        injection ho with ho
        subst ho
        have hO : Hid (OwnP w1.heap.size (f 48) (ps.take k ++ [p] ++ ps.drop k) w3) := Lib.hid (hF 48 (by decide) (Or.inl rfl))
        simp only [dstsOf, List.take, List.filterMap, setSlots, List.foldl, List.set]
        clear hF
        generalize f 37 = v37 at *
        generalize f 38 = v38 at *
        generalize f 39 = v39 at *
        generalize f 40 = v40 at *
        generalize f 41 = v41 at *
        generalize f 42 = v42 at *
        generalize f 43 = v43 at *
        generalize f 44 = v44 at *
        generalize f 45 = v45 at *
        generalize f 46 = v46 at *
        generalize f 47 = v47 at *
        generalize f 48 = v48 at *
        go_wp2_with fail
        go_ret
        refine ⟨v48, _, rfl, hO.out.mono (by have := hbw.out; omega), ?_, fun q hq => ?_, ?_⟩
        · simp only [List.length_append, List.length_take, List.length_drop, List.length_singleton, hn'.out]; omega
        · rcases List.mem_append.1 hq with hq | hq
          · rcases List.mem_append.1 hq with hq | hq
            · exact Or.inl (List.mem_of_mem_take hq)
            · exact Or.inr (by simpa using hq)
          · exact Or.inl (List.mem_of_mem_drop hq)
        · rw [hpbe]; exact hlen.out.trans (hI.mono hbw.out)
end Go.Proofs.Ythnilifepiihjaa
