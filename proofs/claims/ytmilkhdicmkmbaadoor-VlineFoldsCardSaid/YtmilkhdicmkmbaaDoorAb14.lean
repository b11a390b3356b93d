/- A region that draws its order. By an AI agent. -/
import Derived.Test.YtmilkhdicmkmbaaDoorAb13
set_option linter.unusedVariables false
set_option linter.unusedSimpArgs false
namespace Go.Ab
open Go Go.RowKit

/-- What the tables of a region say. -/
structure Tab (P : Program) (nt : Nat) (ops : Array Oper) (ri : RI) : Prop where
  ms : ri.ms = masksGo ops.toList []
  es : ri.es = effsGo P ops.toList 0
  rows : ri.rows = rowsGo P ri.es ops.toList ri.ms 0
  edges : ∀ (j : Nat) (o : Oper), ops.toList[j]? = some o → ∀ e ∈ o.after.toList, Region.binds .any e = true → e.on < j
  chain : ∀ l1 x l2, ri.es = l1 ++ x :: l2 → ∀ y, y ∈ l1 → Nat.testBit ((ri.ms[x]?).getD 0) y = true
  dst : ∀ (j : Nat) (r : Row), ri.rows[j]? = some r → ∀ d, r.o.dst = some d → ri.wr.get d = some r.i ∧ d < nt
  wrs : ∀ t j, ri.wr.get t = some j → ∃ o, ops.toList[j]? = some o ∧ o.dst = some t

theorem regionInfo_tab {P : Program} {nt : Nat} {ops : Array Oper} {ri : RI} (h : regionInfo P nt ops = some ri) : Tab P nt ops ri := by
  unfold regionInfo at h
  simp only at h
  split at h <;> first | cases h | skip
  rename_i hc
  simp only [Bool.and_eq_true, List.all_eq_true] at hc
  obtain ⟨⟨h1, h2⟩, h3⟩ := hc
  refine ⟨rfl, rfl, rfl, fun j o ho e he hb => ?_, fun l1 x l2 he y hy => ?_, fun j r hr d hd => ?_, fun t j ht => ?_⟩
  · have := edgesOk_spec _ _ h1 j o ho e he hb; omega
  · exact chainOk_spec _ _ h2 l1 x l2 he y (.inr hy)
  · have := h3 r (List.mem_of_getElem? hr)
    rw [hd] at this
    simp only [Bool.and_eq_true] at this
    have h5 := ble_t this.2
    have h4 := this.1
    split at h4
    · rename_i j' hj'; rw [hj', beq_t h4]; exact ⟨rfl, h5⟩
    · cases h4
  · rcases wrGo_spec _ _ _ _ _ ht with ⟨q, o, a, b, c⟩ | h
    · exact ⟨o, by rw [b, Nat.zero_add]; exact a, c⟩
    · simp [Tree.get] at h

section
variable {P : Program} {X : Ext} {base : Base} {nt : Nat} {ops : Array Oper} {ri : RI}

theorem Tab.row (ht : Tab P nt ops ri) {j : Nat} {r : Row} (h : ri.rows[j]? = some r) :
    r.i = j ∧ ops.toList[j]? = some r.o ∧ ri.ms[j]? = some r.m ∧ r.lev = levGo r.m ri.es 0 0 ∧ r.kd = kindOf P r.o := by
  rw [ht.rows] at h
  obtain ⟨o, m, a, b, rfl⟩ := rowsGo_spec _ _ _ _ _ h
  exact ⟨by simp, a, b, rfl, rfl⟩
theorem Tab.ex (ht : Tab P nt ops ri) {j : Nat} {o : Oper} (h : ops.toList[j]? = some o) : ∃ r, ri.rows[j]? = some r ∧ r.o = o := by
  have hl : ri.ms.length = ops.toList.length := by rw [ht.ms, masksGo_length]; simp
  have hj : j < ri.ms.length := by rw [hl]; exact (List.getElem?_eq_some_iff.1 h).1
  exact ⟨_, by rw [ht.rows]; exact rowsGo_get _ _ _ _ _ ri.ms[j] h (by simp [hj]), rfl⟩
theorem Tab.eff (ht : Tab P nt ops ri) {j : Nat} {r : Row} (h : ri.rows[j]? = some r) : j ∈ ri.es ↔ isEff r.kd = true := by
  obtain ⟨h1, h2, h3, h4, h5⟩ := ht.row h
  rw [ht.es, effsGo_mem, h5]
  constructor
  · rintro ⟨q, o, a, b, c⟩
    rw [Nat.zero_add] at b; subst b
    rw [h2] at a; cases a; exact c
  · exact fun hk => ⟨j, r.o, h2, by simp, hk⟩

/-- Whoever stands ahead of one that is ready is done. -/
theorem Tab.ahead (ht : Tab P nt ops ri) {S : Nat → Prop} (hS : Closed ops.toList S) {j : Nat} {r : Row} (h : ri.rows[j]? = some r) (hr : ∀ e ∈ r.o.after.toList, Region.binds .any e = true → S e.on) {q : Nat} (hq : Nat.testBit r.m q = true) : S q := by
  obtain ⟨h1, h2, h3, h4, h5⟩ := ht.row h
  exact mask_closed hS j r.m (by rw [← ht.ms]; exact h3) (fun o ho => by rw [h2] at ho; cases ho; exact hr) (List.getElem?_eq_some_iff.1 h2).1 q hq
theorem Tab.aheadIn (ht : Tab P nt ops ri) {S : Nat → Prop} (hS : Closed ops.toList S) {j : Nat} (hj : S j) {o : Oper} (ho : ops.toList[j]? = some o) {q : Nat} (hq : Nat.testBit ((ri.ms[j]?).getD 0) q = true) : S q := by
  obtain ⟨r, hr, rfl⟩ := ht.ex ho
  obtain ⟨h1, h2, h3, h4, h5⟩ := ht.row hr
  rw [h3] at hq
  exact ht.ahead hS hr (fun e he hb => hS j _ h2 hj e he hb) hq

/-- What a slot holds while a region goes on. -/
def SlotRel (ρ : Ren) (T0 : Tree AV) (wr : Tree Nat) (vals : Tree AV) (S : Nat → Prop) (a : Act) : Prop :=
  ∀ t, (∀ j, wr.get t = some j → S j → VRel ρ ((vals.get j).getD .top) (a.tmps.getD t undef)) ∧ ((∀ j, wr.get t = some j → ¬ S j) → VRel ρ ((T0.get t).getD .top) (a.tmps.getD t undef))

structure Inv (P : Program) (base : Base) (nt : Nat) (ops : Array Oper) (ri : RI) (T0 : Tree AV) (n0 : Nat) (ρ0 : Ren) (w0 : World) (k : Nat) (done rest : List Nat) (s : RS) (S : Nat → Prop) (ρ : Ren) (a : Act) (w : World) : Prop where
  es : ri.es = done ++ rest
  len : done.length = k
  closed : Closed ops.toList S
  dn : ∀ x ∈ done, S x
  rs : ∀ x ∈ rest, ¬ S x
  lev : ∀ (j : Nat) (r : Row), ri.rows[j]? = some r → isEff r.kd = false → S j → r.lev ≤ k
  size : a.tmps.size = nt
  defers : a.defers = []
  slot : SlotRel ρ T0 ri.wr s.vals S a
  wrel : WRel P base ρ s.A w
  step : Step base n0 ρ0 w0 ρ w
  next : n0 ≤ s.A.next
  bid : ∀ j b, s.bids.get j = some b → n0 ≤ b ∧ b < s.A.next ∧ (¬ S j → ρ b = none) ∧ j < ops.size

theorem nonA_spec {T0 : Tree AV} {wr : Tree Nat} {k : Nat} : ∀ (rows : List Row) (s s' : RS), nonA P ops T0 wr k rows s = some s' →
    (∀ j, (∀ r ∈ rows, r.i = j → ¬ (r.lev = k ∧ isEff r.kd = false)) → s'.vals.get j = s.vals.get j ∧ s'.bids.get j = s.bids.get j) ∧
    (∀ ρ w, WRel P base ρ s.A w → WRel P base ρ s'.A w) ∧ s.A.next ≤ s'.A.next ∧ (∀ j b, s'.bids.get j = some b → s.bids.get j = some b ∨ (s.A.next ≤ b ∧ b < s'.A.next ∧ ∃ r ∈ rows, r.i = j))
  | [], s, s', h => by
    simp only [nonA] at h; cases h
    exact ⟨fun _ _ => ⟨rfl, rfl⟩, fun _ _ h => h, Nat.le_refl _, fun _ _ h => .inl h⟩
  | r :: rows, s, s', h => by
    simp only [nonA] at h
    split at h
    · obtain ⟨a, b, c, d⟩ := nonA_spec rows s s' h
      exact ⟨fun j hj => a j fun r' hr' => hj r' (.tail _ hr'), b, c, fun j b' hb' => (d j b' hb').imp id fun ⟨x, y, r', z, u⟩ => ⟨x, y, r', .tail _ z, u⟩⟩
    · rename_i hk
      simp only [Bool.and_eq_true, Bool.not_eq_true'] at hk
      have hlev := beq_t hk.1
      have key : ∀ (v : AV), nonA P ops T0 wr k rows { s with vals := s.vals.set r.i v } = some s' →
          (∀ j, (∀ r' ∈ r :: rows, r'.i = j → ¬ (r'.lev = k ∧ isEff r'.kd = false)) → s'.vals.get j = s.vals.get j ∧ s'.bids.get j = s.bids.get j) ∧
          (∀ ρ w, WRel P base ρ s.A w → WRel P base ρ s'.A w) ∧ s.A.next ≤ s'.A.next ∧ (∀ j b, s'.bids.get j = some b → s.bids.get j = some b ∨ (s.A.next ≤ b ∧ b < s'.A.next ∧ ∃ r' ∈ r :: rows, r'.i = j)) := by
        intro v h
        obtain ⟨a, b, c, d⟩ := nonA_spec rows _ s' h
        refine ⟨fun j hj => ?_, b, c, fun j b' hb' => (d j b' hb').imp id fun ⟨x, y, r', z, u⟩ => ⟨x, y, r', .tail _ z, u⟩⟩
        obtain ⟨e1, e2⟩ := a j fun r' hr' => hj r' (.tail _ hr')
        refine ⟨?_, e2⟩
        rw [e1]
        simp only [Tree.get_set]
        rw [if_neg]
        intro e
        exact hj r (.head _) e.symm ⟨hlev, hk.2⟩
      split at h <;> first | cases h | skip
      · exact key _ h
      · split at h <;> first | cases h | skip
        · split at h <;> first | cases h | skip
          exact key _ h
        · split at h <;> first | cases h | skip
          exact key _ h
        · split at h <;> first | cases h | skip
          rename_i x mk hx
          obtain ⟨a, b, c, d⟩ := nonA_spec rows _ s' h
          simp only [AW.push] at c d
          refine ⟨fun j hj => ?_, fun ρ w hw => b ρ w (phantom_rel hw x), by omega, fun j b' hb' => ?_⟩
          · obtain ⟨e1, e2⟩ := a j fun r' hr' => hj r' (.tail _ hr')
            have hne : j ≠ r.i := fun e => hj r (.head _) e.symm ⟨hlev, hk.2⟩
            simp only [Tree.get_set, if_neg hne] at e1 e2
            exact ⟨e1, e2⟩
          · rcases d j b' hb' with h | h
            · rw [Tree.get_set] at h
              split at h
              · rename_i e; cases h; exact .inr ⟨Nat.le_refl _, by omega, r, .head _, e.symm⟩
              · exact .inl h
            · obtain ⟨x1, x2, r', z, u⟩ := h
              exact .inr ⟨by omega, x2, r', .tail _ z, u⟩

variable {T0 : Tree AV} {n0 : Nat} {ρ0 : Ren} {w0 : World} {k : Nat} {done rest : List Nat} {s : RS} {S : Nat → Prop} {ρ : Ren} {a : Act} {w : World}

theorem envR_rel (ht : Tab P nt ops ri) (hI : Inv P base nt ops ri T0 n0 ρ0 w0 k done rest s S ρ a w) {i : Nat} {r : Row} (hr : ri.rows[i]? = some r) (hns : ¬ S i) (hd : ∀ e ∈ r.o.after.toList, Region.binds .any e = true → S e.on)
    (hok : slotsOk ri r = true) : ∀ x ∈ r.o.op.operands, VRel ρ (envR T0 ri.wr s.vals r.m x) (a.eval x) := by
  intro x hx
  have hx' : slotOk ri r x = true := by
    unfold slotsOk at hok
    exact List.all_eq_true.1 hok x (by simpa using hx)
  cases x with
  | tmp t =>
    obtain ⟨h1, h2⟩ := hI.slot t
    simp only [envR, Act.eval]
    simp only [slotOk] at hx'
    cases hw : ri.wr.get t with
    | none =>
      simp only
      exact h2 fun j hj => by rw [hw] at hj; cases hj
    | some j =>
      rw [hw] at hx'
      simp only
      cases hb : Nat.testBit r.m j with
      | true =>
        simp only
        exact h1 j hw (ht.ahead hI.closed hr hd hb)
      | false =>
        simp only
        refine h2 fun j' hj' => ?_
        rw [hw] at hj'; cases hj'
        simp only [hb, Bool.false_or, Bool.or_eq_true] at hx'
        obtain ⟨e1, _⟩ := ht.row hr
        rcases hx' with hx' | hx'
        · rw [beq_t hx', e1]; exact hns
        · intro hS
          rw [nth_getElem, e1] at hx'
          obtain ⟨o, ho, _⟩ := ht.wrs t j hw
          exact hns (ht.aheadIn hI.closed hS ho hx')
  | const v =>
    simp only [envR, evalT, Act.eval]
    cases hv : ofVal v with
    | none => exact .top _
    | some u => exact ofVal_rel hv
  | global g => exact .top _
  | func f => exact .fn _ _ _ _ _ rfl .nil .nil

theorem wantedR_rel (ht : Tab P nt ops ri) (hI : Inv P base nt ops ri T0 n0 ρ0 w0 k done rest s S ρ a w) {i : Nat} {r : Row} (hr : ri.rows[i]? = some r) (hd : ∀ e ∈ r.o.after.toList, Region.binds .any e = true → S e.on) {b : Bool}
    (hw : wantedR ops ri.wr s.vals r = some b) : Region.wanted r.o (yielded ops a.tmps) = b := by
  unfold wantedR at hw
  unfold Region.wanted
  split at hw
  · rename_i hg; simp only [hg]; cases hw; rfl
  · rename_i j want hg
    simp only [hg]
    split at hw <;> first | cases hw | skip
    rename_i d hdst
    split at hw <;> first | cases hw | skip
    rename_i j' hb hwr
    have hv := (hI.slot d).1 j' hwr
    split at hw <;> first | cases hw | skip
    · rename_i t he hval
      have he := beq_t he
      subst he
      have hv := hv (ht.ahead hI.closed hr hd hb)
      rw [hval] at hv
      have hc := (sc_inv hv).1
      have : a.tmps[d]? = some (.bool t) := by
        rw [Array.getD_eq_getD_getElem?] at hc
        cases hx : a.tmps[d]? with
        | none => rw [hx] at hc; simp [undef] at hc
        | some y => rw [hx] at hc; simp at hc; rw [hc]
      unfold yielded
      rw [hdst]
      simp [this]
    · rename_i he hval
      have he := beq_t he
      subst he
      have hv := hv (ht.ahead hI.closed hr hd hb)
      rw [hval] at hv
      obtain ⟨vs, hc, hrl⟩ := tup_inv hv
      cases hrl
      have hn : ∀ t, a.tmps[d]? ≠ some (.bool t) := by
        intro t hx
        rw [Array.getD_eq_getD_getElem?, hx] at hc
        simp at hc
      unfold yielded
      rw [hdst]
      simp only [Option.bind_some]
      first
        | rfl
        | (split
           · rename_i hx; exact absurd hx (hn _)
           · rfl)

theorem slot_put (ht : Tab P nt ops ri) {vals : Tree AV} (hs : SlotRel ρ T0 ri.wr vals S a) (hsz : a.tmps.size = nt) {i : Nat} {r : Row} (hr : ri.rows[i]? = some r) {v : AV} {v' : Value} (hv : VRel ρ v v') (hvi : vals.get i = some v) {S' : Nat → Prop} (hS' : ∀ j, S' j ↔ S j ∨ j = i) :
    SlotRel ρ T0 ri.wr vals S' (a.put r.o.dst v') := by
  obtain ⟨e1, e2, _⟩ := ht.row hr
  intro t
  have hput : (a.put r.o.dst v').tmps.getD t undef = if r.o.dst = some t then v' else a.tmps.getD t undef := by
    cases hd : r.o.dst with
    | none => simp [Act.put]
    | some d =>
      have := (ht.dst i r hr d hd).2
      simp only [Act.put]
      rw [getD_set _ _ _ _ (by rw [hsz]; exact this)]
      by_cases e : t = d
      · subst e; simp
      · rw [if_neg e, if_neg (by simpa using fun h => e h.symm)]
  rw [hput]
  by_cases hd : r.o.dst = some t
  · rw [if_pos hd]
    have hw := (ht.dst i r hr t hd).1
    rw [e1] at hw
    refine ⟨fun j hj _ => ?_, fun h => absurd ((hS' i).2 (.inr rfl)) (h i hw)⟩
    rw [hw] at hj; cases hj
    rw [hvi]; exact hv
  · rw [if_neg hd]
    obtain ⟨h1, h2⟩ := hs t
    have hne : ∀ j, ri.wr.get t = some j → j ≠ i := fun j hj e => by
      subst e
      obtain ⟨o, ho, hdo⟩ := ht.wrs t j hj
      rw [e2] at ho; cases ho
      exact hd hdo
    refine ⟨fun j hj hS => h1 j hj (((hS' j).1 hS).resolve_right (hne j hj)), fun h => h2 fun j hj hS => h j hj ((hS' j).2 (.inl hS))⟩

theorem finT_rel {vals : Tree AV} (t : Nat) (v : Value) : ∀ (rows : List Row) (T : Tree AV), (∀ r ∈ rows, r.o.dst = some t → VRel ρ ((vals.get r.i).getD .top) v) → ((∃ r ∈ rows, r.o.dst = some t) ∨ VRel ρ ((T.get t).getD .top) v) →
    VRel ρ (((finT T vals rows).get t).getD .top) v
  | [], T, _, h => by
    rcases h with ⟨r, hr, _⟩ | h
    · cases hr
    · exact h
  | r :: rows, T, h1, h2 => by
    simp only [finT]
    cases hd : r.o.dst with
    | none =>
      simp only
      refine finT_rel t v rows T (fun r' hr' => h1 r' (.tail _ hr')) ?_
      rcases h2 with ⟨r', hr', hd'⟩ | h2
      · rcases List.mem_cons.1 hr' with e | hr'
        · subst e; rw [hd] at hd'; cases hd'
        · exact .inl ⟨r', hr', hd'⟩
      · exact .inr h2
    | some d =>
      simp only
      refine finT_rel t v rows _ (fun r' hr' => h1 r' (.tail _ hr')) ?_
      by_cases e : t = d
      · subst e
        exact .inr (by rw [Tree.get_set, if_pos rfl]; exact h1 r (.head _) hd)
      · rcases h2 with ⟨r', hr', hd'⟩ | h2
        · rcases List.mem_cons.1 hr' with e' | hr'
          · subst e'; rw [hd] at hd'; cases hd'; exact absurd rfl e
          · exact .inl ⟨r', hr', hd'⟩
        · exact .inr (by rw [Tree.get_set, if_neg e]; exact h2)
end
end Go.Ab
