/- A region that draws its order, part 2: in whatever order, the same. By an AI agent. -/
import Derived.Test.YtmilkhdicmkmbaaDoorAb14
set_option linter.unusedVariables false
set_option linter.unusedSimpArgs false
namespace Go.Ab
open Go Go.RowKit

section
variable {P : Program} {X : Ext} {base : Base} {nt : Nat} {ops : Array Oper} {ri : RI} {T0 : Tree AV} {n0 : Nat} {ρ0 : Ren} {w0 : World}

/-- What is listed. -/
def Lst (listed : Array Bool) (i : Nat) : Prop := listed.getD i false = true

theorem lst_set {listed : Array Bool} {i : Nat} (hi : i < listed.size) (j : Nat) : Lst (listed.setIfInBounds i true) j ↔ Lst listed j ∨ j = i := by
  unfold Lst
  simp only [Array.getD_eq_getD_getElem?, Array.getElem?_setIfInBounds]
  by_cases e : i = j
  · subst e; simp [hi]
  · simp [e]; intro h; exact absurd h.symm e

theorem count_set {listed : Array Bool} {i : Nat} (hi : i < listed.size) (h : ¬ Lst listed i) {fuel : Nat} (hc : listed.toList.count false ≤ fuel + 1) : (listed.setIfInBounds i true).toList.count false ≤ fuel := by
  have hf : listed.toList[i]? = some false := by
    unfold Lst at h
    rw [Array.getElem?_toList]
    simp only [Array.getD_eq_getD_getElem?] at h
    rw [Array.getElem?_eq_getElem hi] at h ⊢
    simpa using h
  rw [Array.toList_setIfInBounds]
  obtain ⟨hl, hv⟩ := List.getElem?_eq_some_iff.1 hf
  rw [List.count_set hl, hv]
  have : 0 < listed.toList.count false := List.count_pos_iff.2 (hv ▸ List.getElem_mem hl)
  simp only [beq_self_eq_true, if_true, show ((true : Bool) == false) = false from rfl, Bool.false_eq_true, if_false]
  omega

theorem all_listed {listed : Array Bool} (h : listed.toList.count false = 0) {i : Nat} (hi : i < listed.size) : Lst listed i := by
  unfold Lst
  have hm : listed[i] ∈ listed.toList := by simp
  have : false ∉ listed.toList := List.count_eq_zero.1 h
  simp only [Array.getD_eq_getD_getElem?, Array.getElem?_eq_getElem hi]
  cases hb : listed[i] with
  | true => rfl
  | false => rw [hb] at hm; exact absurd hm this

theorem ready_mem {listed : Array Bool} (hsz : listed.size = ops.size) {i : Nat} (h : i ∈ Region.ready .any ops listed) :
    i < ops.size ∧ ¬ Lst listed i ∧ ∃ o, ops[i]? = some o ∧ ∀ e ∈ o.after.toList, Region.binds .any e = true → Lst listed e.on := by
  unfold Region.ready at h
  obtain ⟨h1, h2⟩ := List.mem_filter.1 h
  have hi : i < ops.size := by simpa using h1
  simp only [Bool.and_eq_true, Bool.not_eq_true'] at h2
  obtain ⟨h3, h4⟩ := h2
  refine ⟨hi, ?_, ops[i], by simp [hi], ?_⟩
  · unfold Lst
    simp only [Array.getD_eq_getD_getElem?, Array.getElem?_eq_getElem (show i < listed.size by omega)] at h3 ⊢
    simp at h3; simp [h3]
  · intro e he hb
    simp only [hi, getElem?_pos, Option.map_some, Option.getD_some, Array.all_eq_true'] at h4
    have := h4 e (by simpa using he)
    rw [hb] at this
    unfold Lst
    simpa using this

theorem mem_ready {listed : Array Bool} (hsz : listed.size = ops.size) {i : Nat} (hi : i < ops.size) (hn : ¬ Lst listed i) {o : Oper} (ho : ops[i]? = some o) (he : ∀ e ∈ o.after.toList, Region.binds .any e = true → Lst listed e.on) :
    i ∈ Region.ready .any ops listed := by
  unfold Region.ready
  refine List.mem_filter.2 ⟨by simpa using hi, ?_⟩
  simp only [Bool.and_eq_true, Bool.not_eq_true', ho, Option.map_some, Option.getD_some, Array.all_eq_true']
  constructor
  · unfold Lst at hn
    simp only [Array.getD_eq_getD_getElem?, Array.getElem?_eq_getElem (show i < listed.size by omega)] at hn ⊢
    simpa using hn
  · intro e hm
    cases hb : Region.binds .any e with
    | false => rfl
    | true =>
      have := he e (by simpa using hm) hb
      unfold Lst at this
      simpa using this

theorem nothing_ready (ht : Tab P nt ops ri) {listed : Array Bool} (hsz : listed.size = ops.size) (h : Region.ready .any ops listed = []) : ∀ i, i < ops.size → Lst listed i := by
  intro i
  induction i using Nat.strongRecOn with
  | _ i ih =>
    intro hi
    by_cases hl : Lst listed i
    · exact hl
    · have hm := mem_ready hsz hi hl (o := ops[i]) (by simp [hi]) fun e he hb => ih e.on (ht.edges i ops[i] (by simp [hi]) e he hb) (by have := ht.edges i ops[i] (by simp [hi]) e he hb; omega)
      rw [h] at hm; cases hm

/-- What is still to be done behind a stage. -/
def Cont (P : Program) (X : Ext) (call : CallF) (ops : Array Oper) (T0 : Tree AV) (ri : RI) (k : Nat) (s : RS) (sF : RS) : List Nat → Prop
  | [] => s = sF
  | x :: rest => ∃ r s2, ri.rows[x]? = some r ∧ effA P X call ops T0 ri r s = some s2 ∧ stageA P X call ops T0 ri (k + 1) rest s2 = some sF

theorem stageA_step {call : CallF} {k : Nat} {es : List Nat} {s sF : RS} (h : stageA P X call ops T0 ri k es s = some sF) :
    ∃ s1, nonA P ops T0 ri.wr k ri.rows s = some s1 ∧ checkA P ops T0 ri k s1 = true ∧ Cont P X call ops T0 ri k s1 sF es := by
  cases es with
  | nil =>
    rw [stageA] at h
    dsimp only at h
    split at h <;> first | (cases h; done) | skip
    rename_i s1 h1
    split at h <;> first | (cases h; done) | skip
    rename_i h2
    cases h
    exact ⟨_, h1, h2, rfl⟩
  | cons x rest =>
    rw [stageA] at h
    dsimp only at h
    split at h <;> first | (cases h; done) | skip
    rename_i s1 h1
    split at h <;> first | (cases h; done) | skip
    rename_i h2
    split at h <;> first | (cases h; done) | skip
    rename_i r hr
    split at h <;> first | (cases h; done) | skip
    rename_i s2 hs2
    exact ⟨_, h1, h2, r, s2, by rw [← nth_getElem]; exact hr, hs2, h⟩

variable {k : Nat} {done rest : List Nat} {s sF : RS} {ρ : Ren} {a : Act} {w : World}

/-- An operation without an effect is done. -/
theorem inv_non (ht : Tab P nt ops ri) {listed : Array Bool} (hsz : listed.size = ops.size) (hI : Inv P base nt ops ri T0 n0 ρ0 w0 k done rest s (Lst listed) ρ a w) {i : Nat} {r : Row} (hi : i < ops.size) (hr : ri.rows[i]? = some r)
    (hd : ∀ e ∈ r.o.after.toList, Region.binds .any e = true → Lst listed e.on) (hk : isEff r.kd = false) (hlev : r.lev ≤ k) {v : AV} {v' : Value} {ρ' : Ren} {w' : World} (hvi : s.vals.get i = some v) (hv : VRel ρ' v v') (hle : ρ.le ρ')
    (hw : WRel P base ρ' s.A w') (hst : Step base n0 ρ w ρ' w') (hbid : ∀ j b, s.bids.get j = some b → ¬ Lst (listed.setIfInBounds i true) j → ρ' b = none) :
    Inv P base nt ops ri T0 n0 ρ0 w0 k done rest s (Lst (listed.setIfInBounds i true)) ρ' (a.put r.o.dst v') w' := by
  have hS : ∀ j, Lst (listed.setIfInBounds i true) j ↔ Lst listed j ∨ j = i := lst_set (by omega)
  obtain ⟨e1, e2, _⟩ := ht.row hr
  refine ⟨hI.es, hI.len, ?_, fun x hx => (hS x).2 (.inl (hI.dn x hx)), ?_, ?_, ?_, ?_, ?_, hw, hI.step.trans hst (Nat.le_refl _), hI.next, fun j b hb => ⟨(hI.bid j b hb).1, (hI.bid j b hb).2.1, hbid j b hb, (hI.bid j b hb).2.2.2⟩⟩
  · intro j o ho hj e he hb
    rcases (hS j).1 hj with hj | rfl
    · exact (hS _).2 (.inl (hI.closed j o ho hj e he hb))
    · rw [e2] at ho; cases ho
      exact (hS _).2 (.inl (hd e he hb))
  · intro x hx hl
    rcases (hS x).1 hl with hl | rfl
    · exact hI.rs x hx hl
    · have : x ∈ ri.es := by rw [hI.es]; exact List.mem_append_right _ hx
      rw [ht.eff hr, hk] at this
      cases this
  · intro j r' hr' hk' hj
    rcases (hS j).1 hj with hj | rfl
    · exact hI.lev j r' hr' hk' hj
    · rw [hr] at hr'; cases hr'; exact hlev
  · cases hdst : r.o.dst <;> simp [Act.put, hI.size]
  · cases hdst : r.o.dst <;> simp [Act.put, hI.defers]
  · exact slot_put ht (fun t => ⟨fun j h1 h2 => ((hI.slot t).1 j h1 h2).mono hle, fun h => ((hI.slot t).2 h).mono hle⟩) hI.size hr hv hvi hS

/-- An operation with an effect is done: the next stage. -/
theorem inv_eff (ht : Tab P nt ops ri) {call : CallF} {listed : Array Bool} (hsz : listed.size = ops.size) {i : Nat} {rest' : List Nat} (hI : Inv P base nt ops ri T0 n0 ρ0 w0 k done (i :: rest') s (Lst listed) ρ a w) {r : Row} (hi : i < ops.size) (hr : ri.rows[i]? = some r)
    (hd : ∀ e ∈ r.o.after.toList, Region.binds .any e = true → Lst listed e.on) (hnd : i ∉ rest') {v : AV} {v' : Value} {ρ' : Ren} {w' : World} {A' : AW} (hv : VRel ρ' v v')
    (hw : WRel P base ρ' A' w') (hst : Step base s.A.next ρ w ρ' w') (hn : s.A.next ≤ A'.next) (hcont : stageA P X call ops T0 ri (k + 1) rest' { s with vals := s.vals.set i v, A := A' } = some sF) :
    ∃ s3, Inv P base nt ops ri T0 n0 ρ0 w0 (k + 1) (done ++ [i]) rest' s3 (Lst (listed.setIfInBounds i true)) ρ' (a.put r.o.dst v') w' ∧ checkA P ops T0 ri (k + 1) s3 = true ∧ Cont P X call ops T0 ri (k + 1) s3 sF rest' := by
  obtain ⟨s3, h1, h2, h3⟩ := stageA_step hcont
  obtain ⟨f1, f2, f3, f4⟩ := nonA_spec (base := base) _ _ _ h1
  have hS : ∀ j, Lst (listed.setIfInBounds i true) j ↔ Lst listed j ∨ j = i := lst_set (by omega)
  obtain ⟨e1, e2, _⟩ := ht.row hr
  have hmem : i ∈ ri.es := by rw [hI.es]; simp
  have hke := (ht.eff hr).1 hmem
  have hle := hst.le hI.wrel
  have hkeep : ∀ j, Lst listed j ∨ j = i → s3.vals.get j = (s.vals.set i v).get j := by
    intro j hj
    refine (f1 j fun r' hr' he => ?_).1
    rintro ⟨hl, hk'⟩
    obtain ⟨q, hq⟩ := List.mem_iff_getElem?.1 hr'
    obtain ⟨g1, _⟩ := ht.row hq
    have hqj : q = j := by omega
    subst hqj
    rcases hj with hj | rfl
    · have := hI.lev q r' hq hk' hj; omega
    · rw [hr] at hq; cases hq; rw [hke] at hk'; cases hk'
  have hvi : s3.vals.get i = some v := by rw [hkeep i (.inr rfl), Tree.get_set, if_pos rfl]
  refine ⟨s3, ⟨by rw [hI.es]; simp, by simp [hI.len], ?_, ?_, ?_, ?_, ?_, ?_, ?_, f2 _ _ hw, hI.step.trans hst hI.next, Nat.le_trans hI.next (Nat.le_trans hn f3), ?_⟩, h2, h3⟩
  · intro j o ho hj e he hb
    rcases (hS j).1 hj with hj | rfl
    · exact (hS _).2 (.inl (hI.closed j o ho hj e he hb))
    · rw [e2] at ho; cases ho
      exact (hS _).2 (.inl (hd e he hb))
  · intro x hx
    rcases List.mem_append.1 hx with hx | hx
    · exact (hS x).2 (.inl (hI.dn x hx))
    · simp at hx; subst hx; exact (hS x).2 (.inr rfl)
  · intro x hx hl
    rcases (hS x).1 hl with hl | rfl
    · exact hI.rs x (.tail _ hx) hl
    · exact hnd hx
  · intro j r' hr' hk' hj
    rcases (hS j).1 hj with hj | rfl
    · have := hI.lev j r' hr' hk' hj; omega
    · rw [hr] at hr'; cases hr'; rw [hke] at hk'; cases hk'
  · cases hdst : r.o.dst <;> simp [Act.put, hI.size]
  · cases hdst : r.o.dst <;> simp [Act.put, hI.defers]
  · refine slot_put ht (v := v) (S := Lst listed) (fun t => ⟨fun j h1 h2 => ?_, fun h => ((hI.slot t).2 h).mono hle⟩) hI.size hr hv hvi hS
    rw [hkeep j (.inl h2), Tree.get_set]
    split
    · rename_i e
      subst e
      exact absurd h2 (hI.rs j (.head _))
    · exact ((hI.slot t).1 j h1 h2).mono hle
  · intro j b hb
    rcases f4 j b hb with h | ⟨h, h', r', hr', hj'⟩
    · obtain ⟨b1, b2, b3, b4⟩ := hI.bid j b h
      refine ⟨b1, by simp only at f3; omega, fun hj => ?_, b4⟩
      rw [hst.ext b b2]
      exact b3 fun hl => hj ((hS j).2 (.inl hl))
    · refine ⟨?_, h', fun _ => ?_, ?_⟩
      · have := hI.next; simp only at h; omega
      · exact hw.fresh h
      · obtain ⟨q, hq⟩ := List.mem_iff_getElem?.1 hr'
        obtain ⟨g1, g2, _⟩ := ht.row hq
        have := (List.getElem?_eq_some_iff.1 g2).1
        rw [Array.length_toList] at this
        omega

theorem draw_any (hng : XOk P X) {call : CallF} (hc : CallOk P base call) (ht : Tab P nt ops ri) (hb0 : base ≤ w0.heap.size) {Q : Exit → Act → World → Prop}
    (hQ : ∀ ρ' a' w', Step base n0 ρ0 w0 ρ' w' → ARel ρ' nt (finT T0 sF.vals ri.rows) a' → WRel P base ρ' sF.A w' → n0 ≤ sF.A.next → Q .normal a' w') :
    ∀ (fuel : Nat) (listed : Array Bool) (k : Nat) (done rest : List Nat) (s : RS) (ρ : Ren) (a : Act) (w : World), listed.size = ops.size → listed.toList.count false ≤ fuel →
      Inv P base nt ops ri T0 n0 ρ0 w0 k done rest s (Lst listed) ρ a w → checkA P ops T0 ri k s = true → Cont P X call ops T0 ri k s sF rest → wpAny P .any ops Q fuel listed a w := by
  have fin : ∀ (listed : Array Bool) (k : Nat) (done rest : List Nat) (s : RS) (ρ : Ren) (a : Act) (w : World), listed.size = ops.size → (∀ i, i < ops.size → Lst listed i) →
      Inv P base nt ops ri T0 n0 ρ0 w0 k done rest s (Lst listed) ρ a w → Cont P X call ops T0 ri k s sF rest → Q .normal a w := by
    intro listed k done rest s ρ a w hsz hall hI hcont
    have hrest : rest = [] := by
      cases rest with
      | nil => rfl
      | cons x rest =>
        have hx : x ∈ ri.es := by rw [hI.es]; simp
        rw [ht.es, effsGo_mem] at hx
        obtain ⟨j, o, hj, rfl, _⟩ := hx
        have := (List.getElem?_eq_some_iff.1 hj).1
        exact absurd (hall (0 + j) (by simpa using this)) (hI.rs _ (.head _))
    subst hrest
    have hcont : s = sF := hcont
    subst hcont
    refine hQ ρ a w hI.step ⟨hI.size, fun t => ?_, hI.defers⟩ hI.wrel hI.next
    obtain ⟨g1, g2⟩ := hI.slot t
    refine finT_rel t _ ri.rows T0 (fun r hr hd => ?_) ?_
    · obtain ⟨q, hq⟩ := List.mem_iff_getElem?.1 hr
      obtain ⟨e1, e2, _⟩ := ht.row hq
      have hql := (List.getElem?_eq_some_iff.1 e2).1
      have := g1 r.i (ht.dst q r hq t hd).1 (by rw [e1]; exact hall q (by simpa using hql))
      exact this
    · by_cases hex : ∃ j, ri.wr.get t = some j
      · obtain ⟨j, hj⟩ := hex
        obtain ⟨o, ho, hdo⟩ := ht.wrs t j hj
        obtain ⟨r, hr, rfl⟩ := ht.ex ho
        exact .inl ⟨r, List.mem_of_getElem? hr, hdo⟩
      · exact .inr (g2 fun j hj => absurd ⟨j, hj⟩ hex)
  intro fuel
  induction fuel with
  | zero =>
    intro listed k done rest s ρ a w hsz hcnt hI hchk hcont
    have hall : ∀ i, i < ops.size → Lst listed i := fun i hi => all_listed (by omega) (by omega)
    refine ⟨?_, fin listed k done rest s ρ a w hsz hall hI hcont⟩
    rw [List.eq_nil_iff_forall_not_mem]
    intro i hi
    obtain ⟨h1, h2, _⟩ := ready_mem hsz hi
    exact h2 (hall i h1)
  | succ fuel ih =>
    intro listed k done rest s ρ a w hsz hcnt hI hchk hcont
    refine ⟨fun hr => fin listed k done rest s ρ a w hsz (nothing_ready ht hsz hr) hI hcont, fun i hi => ?_⟩
    obtain ⟨hilt, hnl, o, ho, hd⟩ := ready_mem hsz hi
    obtain ⟨r, hr, rfl⟩ := ht.ex (j := i) (o := o) (by rw [Array.getElem?_toList]; exact ho)
    obtain ⟨e1, e2, e3, e4, e5⟩ := ht.row hr
    have hbase : base ≤ w.heap.size := Nat.le_trans hb0 hI.step.size
    unfold wpOp
    simp only [ho]
    cases hk : isEff r.kd with
    | false =>
      -- no effect: the checks of this stage
      unfold checkA at hchk
      simp only [Bool.and_eq_true, List.all_eq_true] at hchk
      obtain ⟨hchk, hbids⟩ := hchk
      have hall : aliveAt ri.ms ri.es k r = true := by
        unfold aliveAt
        rw [Bool.and_eq_true, List.all_eq_true]
        constructor
        · rw [ble_iff, e4]
          rcases levGo_spec (m := r.m) ri.es 0 0 with h | ⟨q, x, a1, a2, a3⟩
          · omega
          · have hx := ht.ahead hI.closed hr hd a2
            rw [a3]
            rcases Nat.lt_or_ge q k with h | h
            · omega
            · rw [hI.es, List.getElem?_append_right (by rw [hI.len]; exact h)] at a1
              exact absurd hx (hI.rs x (List.mem_of_getElem? a1))
        · intro x hx
          rw [hI.es, List.take_left' hI.len] at hx
          rw [Bool.not_eq_true', ← Bool.not_eq_true, e1, nth_getElem]
          intro hb
          have hxe : x ∈ ri.es := by rw [hI.es]; exact List.mem_append_left _ hx
          rw [ht.es, effsGo_mem] at hxe
          obtain ⟨j, o', hj, hxj, _⟩ := hxe
          rw [Nat.zero_add] at hxj; subst hxj
          exact hnl (ht.aheadIn hI.closed (hI.dn x hx) hj hb)
      have hlev : r.lev ≤ k := by
        unfold aliveAt at hall
        rw [Bool.and_eq_true] at hall
        exact ble_t hall.1
      have hsame : sameA P ops T0 ri s r = true := by
        have := hchk r (List.mem_of_getElem? hr)
        simpa [hk, hall] using this
      have hnb : ∀ j b, s.bids.get j = some b → ¬ Lst (listed.setIfInBounds i true) j → ρ b = none := fun j b hb hj =>
        (hI.bid j b hb).2.2.1 fun hl => hj ((lst_set (by omega) j).2 (.inl hl))
      have next : ∀ {v : AV} {v' : Value} {ρ' : Ren} {w' : World}, s.vals.get i = some v → VRel ρ' v v' → ρ.le ρ' → WRel P base ρ' s.A w' → Step base n0 ρ w ρ' w' →
          (∀ j b, s.bids.get j = some b → ¬ Lst (listed.setIfInBounds i true) j → ρ' b = none) → wpAny P .any ops Q fuel (listed.setIfInBounds i true) (a.put r.o.dst v') w' := by
        intro v v' ρ' w' hvi hv hle hw hst hb
        exact ih _ k done rest s ρ' _ w' (by simpa using hsz) (count_set (by omega) hnl hcnt) (inv_non ht hsz hI hilt hr hd hk hlev hvi hv hle hw hst hb) (by unfold checkA; simp only [Bool.and_eq_true, List.all_eq_true]; exact ⟨hchk, hbids⟩) hcont
      have hrefl : ρ.le ρ := fun _ _ h => h
      unfold sameA at hsame
      rw [e1] at hsame
      split at hsame <;> first | (cases hsame; done) | skip
      · rename_i v hwant hvi
        rw [wantedR_rel ht hI hr hd hwant]
        simp only [Bool.false_eq_true, if_false]
        have := avEq_eq _ _ hsame
        subst this
        exact next hvi (.tup _ _ .nil) hrefl hI.wrel (Step.refl _ _ _) hnb
      · rename_i v hwant hvi
        rw [wantedR_rel ht hI hr hd hwant]
        simp only [if_true]
        rw [Bool.and_eq_true] at hsame
        obtain ⟨hslots, hsame⟩ := hsame
        have he := envR_rel ht hI hr hnl hd hslots
        refine .inl ?_
        split at hsame
        · have hp := optEq_eq hsame
          obtain ⟨v', h1, h2⟩ := pureOp_sound he hp
          exact op_gives r.o (h1 w) (next hvi h2 hrefl hI.wrel (Step.refl _ _ _) hnb)
        · have hp := optEq_eq hsame
          obtain ⟨v', h1, h2⟩ := loadOp_sound hI.wrel he hp
          exact op_gives r.o h1 (next hvi h2 hrefl hI.wrel (Step.refl _ _ _) hnb)
        · split at hsame <;> first | (cases hsame; done) | skip
          rename_i x mk b hx hbi
          split at hsame <;> first | (cases hsame; done) | skip
          rename_i y hy
          simp only [Bool.and_eq_true] at hsame
          have hxy := blkEq_eq hsame.1
          have hmk := avEq_eq _ _ hsame.2
          subst hxy
          obtain ⟨d, ob, u, inf, hrun, hinf, hrel, hmkv⟩ := allocOp_sound he hx w
          obtain ⟨b1, b2, b3, b4⟩ := hI.bid i b hbi
          have hbn := b3 hnl
          have hd' : WRel P base ρ s.A (if d = true then w.drew else w) := by cases d <;> simp [hI.wrel, hI.wrel.drew]
          have hsz' : (if d = true then w.drew else w).heap.size = w.heap.size := by cases d <;> simp
          have hst' : Step base n0 ρ w ρ (if d = true then w.drew else w) := by cases d <;> simp [Step.refl, Step.drew]
          obtain ⟨h1, h2⟩ := push_rel hd' (by omega) (i := inf) (by omega) hbn b2 hy (hrel.mono (Ren.le_add hbn))
          refine op_gives r.o hrun (next hvi (hmk ▸ hmkv _ b (by simp [Ren.add])) (Ren.le_add hbn) h1 (hst'.trans h2 b1) fun j b' hb' hj => ?_)
          have hne : b' ≠ b := by
            intro e
            subst e
            have hji : j ≠ i := fun e => hj ((lst_set (by omega) j).2 (.inr e))
            -- the rows of j and i
            have hjl := (hI.bid j b' hb').2.2.2
            obtain ⟨r', hr', _⟩ := ht.ex (j := j) (o := ops[j]) (by simp [hjl])
            obtain ⟨g1, _⟩ := ht.row hr'
            have := (bidsOk_spec _ _ hbids).2 j i r' r b' hr' hr (by rw [g1]; exact hb') (by rw [e1]; exact hbi)
            exact hji this
          unfold Ren.add
          rw [if_neg hne]
          exact hnb j b' hb' hj
        · cases hsame
    | true =>
      have hie : i ∈ ri.es := (ht.eff hr).2 hk
      rw [hI.es] at hie
      have hir : i ∈ rest := by
        rcases List.mem_append.1 hie with h | h
        · exact absurd (hI.dn i h) hnl
        · exact h
      cases rest with
      | nil => cases hir
      | cons x rest' =>
        have hxi : x = i := by
          rcases List.mem_cons.1 hir with e | hm
          · exact e.symm
          · obtain ⟨l1, l2, hl⟩ := List.append_of_mem hm
            have := ht.chain (done ++ x :: l1) i l2 (by rw [hI.es, hl]; simp) x (by simp)
            rw [e3] at this
            exact absurd (ht.ahead hI.closed hr hd this) (hI.rs x (.head _))
        subst hxi
        have hnd : x ∉ rest' := by
          intro hm
          obtain ⟨l1, l2, hl⟩ := List.append_of_mem hm
          have := ht.chain (done ++ x :: l1) x l2 (by rw [hI.es, hl]; simp) x (by simp)
          rw [e3] at this
          exact hnl (ht.ahead hI.closed hr hd this)
        obtain ⟨r', s2, hr', heff, hstage⟩ := hcont
        rw [hr] at hr'; cases hr'
        have next : ∀ {v : AV} {v' : Value} {ρ' : Ren} {w' : World} {A' : AW}, VRel ρ' v v' → WRel P base ρ' A' w' → Step base s.A.next ρ w ρ' w' → s.A.next ≤ A'.next → s2 = { s with vals := s.vals.set x v, A := A' } →
            wpAny P .any ops Q fuel (listed.setIfInBounds x true) (a.put r.o.dst v') w' := by
          intro v v' ρ' w' A' hv hw hst hn hs2
          subst hs2
          obtain ⟨s3, h1, h2, h3⟩ := inv_eff ht hsz hI hilt hr hd hnd hv hw hst hn hstage
          exact ih _ (k + 1) _ rest' s3 ρ' _ w' (by simpa using hsz) (count_set (by omega) hnl hcnt) h1 h2 h3
        unfold effA at heff
        rw [e1] at heff
        split at heff <;> first | (cases heff; done) | skip
        · rename_i hwant
          rw [wantedR_rel ht hI hr hd hwant]
          simp only [Bool.false_eq_true, if_false]
          cases heff
          exact next (.tup _ _ .nil) hI.wrel (Step.refl _ _ _) (Nat.le_refl _) rfl
        · rename_i hwant hslots
          rw [wantedR_rel ht hI hr hd hwant]
          simp only [if_true]
          have he := envR_rel ht hI hr hnl hd hslots
          refine .inl ?_
          split at heff <;> first | (cases heff; done) | skip
          · rename_i v A1 hx
            cases heff
            obtain ⟨ρ', w', h1, h2, h3, v', h4, h5⟩ := effOp_sound hng hI.wrel hbase he hx
            exact op_gives r.o h4 (next h5 h2 h1 h3 rfl)
          · rename_i A1 hx
            cases heff
            obtain ⟨ρ', w', h1, h2, h3, h4⟩ := effOp_sound hng hI.wrel hbase he hx
            exact op_skips r.o h4 (next (.tup _ _ .nil) h2 h1 h3 rfl)
          · rename_i f args A1 hx
            split at heff <;> first | (cases heff; done) | skip
            rename_i v A2 hcall
            cases heff
            obtain ⟨ρ', w', h1, h2, h3, us, h4, h5⟩ := effOp_sound hng hI.wrel hbase he hx
            refine op_enters r.o h4 (hc f args A1 v A2 hcall ρ' w' us h5 h2 (Nat.le_trans hbase h1.size)) fun e w'' hR => ?_
            obtain ⟨ρ2, v', rfl, k1, k2, k3, k4⟩ := hR
            exact ⟨v', rfl, next k4 k2 (h1.trans k1 h3) (Nat.le_trans h3 k3) rfl⟩
end
end Go.Ab
