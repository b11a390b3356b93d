/- Slots; operations in the text's order. By an AI agent. -/
import Derived.Test.YtmilkhdicmkmbaaDoorAb11
set_option linter.unusedVariables false
set_option linter.unusedSimpArgs false
namespace Go.Ab
open Go Go.RowKit

/-- Slots and temporaries. -/
structure ARel (ρ : Ren) (nt : Nat) (T : Tree AV) (a : Act) : Prop where
  size : a.tmps.size = nt
  val : ∀ t, VRel ρ ((T.get t).getD .top) (a.tmps.getD t undef)
  defers : a.defers = []

theorem ARel.mono {ρ ρ' : Ren} {nt : Nat} {T : Tree AV} {a : Act} (h : ρ.le ρ') (k : ARel ρ nt T a) : ARel ρ' nt T a :=
  ⟨k.size, fun t => (k.val t).mono h, k.defers⟩

section
variable {P : Program} {X : Ext} {base : Base} {ρ : Ren} {A : AW} {w : World} {nt : Nat} {T : Tree AV} {a : Act}

theorem evalT_rel (h : ARel ρ nt T a) (x : Operand) : VRel ρ (evalT T x) (a.eval x) := by
  cases x with
  | tmp t => exact h.val t
  | const v =>
    simp only [evalT, Act.eval]
    cases hv : ofVal v with
    | none => exact .top _
    | some u => exact ofVal_rel hv
  | global g => exact .top _
  | func f => exact .fn _ _ _ _ _ rfl .nil .nil

theorem getD_set (ts : Array Value) (d t : Nat) (v : Value) (hd : d < ts.size) : (ts.setIfInBounds d v).getD t undef = if t = d then v else ts.getD t undef := by
  simp only [Array.getD_eq_getD_getElem?, Array.getElem?_setIfInBounds]
  by_cases e : d = t
  · subst e; simp [hd]
  · rw [if_neg e, if_neg (fun h => e h.symm)]

theorem put_rel (h : ARel ρ nt T a) {d : Option Tmp} {v : AV} {v' : Value} {T' : Tree AV} (hv : VRel ρ v v') (hp : putT nt T d v = some T') : ARel ρ nt T' (a.put d v') := by
  cases d with
  | none => simp only [putT] at hp; cases hp; exact h
  | some d =>
    simp only [putT] at hp
    split at hp <;> first | cases hp | skip
    rename_i hb
    have hb := ble_t hb
    refine ⟨by simp only [Act.put, Array.size_setIfInBounds]; exact h.size, fun t => ?_, h.defers⟩
    simp only [Act.put]
    rw [getD_set _ _ _ _ (by rw [h.size]; omega), Tree.get_set]
    by_cases e : t = d
    · rw [if_pos e, if_pos e]; exact hv
    · rw [if_neg e, if_neg e]; exact h.val t

theorem wanted_rel (h : ARel ρ nt T a) {ops : Array Oper} {o : Oper} {b : Bool} (hw : wantedA ops T o = some b) : Region.wanted o (yielded ops a.tmps) = b := by
  unfold wantedA at hw
  unfold Region.wanted
  split at hw
  · rename_i hg; simp only [hg]; cases hw; rfl
  · rename_i j want hg
    simp only [hg]
    split at hw <;> first | cases hw | skip
    rename_i d hd
    have hv := h.val d
    unfold yielded
    rw [hd]
    simp only [Option.bind_some]
    split at hw <;> first | cases hw | skip
    · rename_i t ht
      rw [ht] at hv
      have hc := (sc_inv hv).1
      have : a.tmps[d]? = some (.bool t) := by
        rw [Array.getD_eq_getD_getElem?] at hc
        cases hx : a.tmps[d]? with
        | none => rw [hx] at hc; simp [undef] at hc
        | some y => rw [hx] at hc; simp at hc; rw [hc]
      rw [this]
      simp
    · rename_i ht
      rw [ht] at hv
      obtain ⟨vs, hc, hr⟩ := tup_inv hv
      cases hr
      have : ∀ t, a.tmps[d]? ≠ some (.bool t) := by
        intro t hx
        rw [Array.getD_eq_getD_getElem?, hx] at hc
        simp at hc
      split
      · rename_i hx; exact absurd hx (this _)
      · rfl

/-- What a call's abstract run says. -/
def CallOk (P : Program) (base : Base) (call : CallF) : Prop :=
  ∀ f args A v A', call f args A = some (v, A') → ∀ (ρ : Ren) (w : World) (us : List Value), LRel ρ args us → WRel P base ρ A w → base ≤ w.heap.size →
    Calls P f ⟨us⟩ w fun e w' => ∃ ρ' v', e = .returned v' ∧ Step base A.next ρ w ρ' w' ∧ WRel P base ρ' A' w' ∧ A.next ≤ A'.next ∧ VRel ρ' v v'

/-- What one operation's abstract run says: of whatever comes behind it. -/
theorem op_gives (o : Oper) {v' : Value} {w' : World} {K : Act → World → Prop} {Q : Exit → Act → World → Prop} (hr : (execOp a.eval o).run P w = .ok (.value v') w') (h : K (a.put o.dst v') w') : o.wp P a w K Q := by
  unfold Oper.wp; rw [hr]; exact h
theorem op_skips (o : Oper) {w' : World} {K : Act → World → Prop} {Q : Exit → Act → World → Prop} (hr : (execOp a.eval o).run P w = .ok .skip w') (h : K (a.put o.dst undef) w') : o.wp P a w K Q := by
  unfold Oper.wp; rw [hr]; exact h
theorem op_enters (o : Oper) {f : FuncId} {args : Array Value} {w' : World} {K : Act → World → Prop} {Q : Exit → Act → World → Prop} {R : Ending → World → Prop} (hr : (execOp a.eval o).run P w = .ok (.enter f args) w')
    (hc : Calls P f args w' R) (h : ∀ e w'', R e w'' → ∃ v, e = .returned v ∧ K (a.put o.dst v) w'') : o.wp P a w K Q := by
  unfold Oper.wp; rw [hr]
  exact hc.mono fun e w'' hR => by
    obtain ⟨v, rfl, hk⟩ := h e w'' hR
    exact hk

theorem makes_rel (hw : WRel P base ρ A w) (hbase : base ≤ w.heap.size) {o : Oper} {c : Operand → Value} {x : Blk} {mk : Nat → AV} (h : Makes P ρ w o c x mk) :
    ∃ ρ' w' u, (execOp c o).run P w = .ok (.value u) w' ∧ WRel P base ρ' (A.push x) w' ∧ Step base A.next ρ w ρ' w' ∧ VRel ρ' (mk A.next) u := by
  obtain ⟨d, ob, u, i, hrun, hi, hrel, hv⟩ := h
  have hb : ρ A.next = none := hw.fresh (Nat.le_refl _)
  have hd : WRel P base ρ A (if d = true then w.drew else w) := by cases d <;> simp [hw, hw.drew]
  have hsz : (if d = true then w.drew else w).heap.size = w.heap.size := by cases d <;> simp
  have hst : Step base A.next ρ w ρ (if d = true then w.drew else w) := by cases d <;> simp [Step.refl, Step.drew]
  obtain ⟨h1, h2⟩ := alloc_rel hd (by omega) (i := i) (by omega) (hrel.mono (Ren.le_add hb))
  exact ⟨_, _, u, hrun, h1, hst.trans h2 (Nat.le_refl _), hv _ _ (by simp [Ren.add])⟩

theorem opA_sound (hng : XOk P X) {call : CallF} (hc : CallOk P base call) (hA : ARel ρ nt T a) (hw : WRel P base ρ A w) (hbase : base ≤ w.heap.size)
    {o : Oper} {T' : Tree AV} {A' : AW} (h : opA P X call nt o T A = some (T', A')) {K : Act → World → Prop} {Q : Exit → Act → World → Prop}
    (hK : ∀ ρ' a' w', Step base A.next ρ w ρ' w' → ARel ρ' nt T' a' → WRel P base ρ' A' w' → A.next ≤ A'.next → K a' w') : o.wp P a w K Q := by
  have he : ∀ x ∈ o.op.operands, VRel ρ (evalT T x) (a.eval x) := fun x _ => evalT_rel hA x
  have fin : ∀ {ρ' : Ren} {w' : World} {v : AV} {v' : Value} {A1 : AW}, andPut nt T o.dst v A1 = some (T', A') → Step base A.next ρ w ρ' w' → WRel P base ρ' A1 w' → A.next ≤ A1.next → VRel ρ' v v' → K (a.put o.dst v') w' := by
    intro ρ' w' v v' A1 hp hs hw1 hn hv
    unfold andPut at hp
    split at hp <;> first | cases hp | skip
    rename_i hput
    exact hK ρ' _ w' hs (put_rel (hA.mono (hs.le hw)) hv hput) hw1 hn
  unfold opA at h
  split at h
  · split at h <;> first | cases h | skip
    rename_i v hv
    obtain ⟨v', h1, h2⟩ := pureOp_sound he hv
    exact op_gives o (h1 w) (fin h (Step.refl _ _ _) hw (Nat.le_refl _) h2)
  · split at h <;> first | cases h | skip
    rename_i v hv
    obtain ⟨v', h1, h2⟩ := loadOp_sound hw he hv
    exact op_gives o h1 (fin h (Step.refl _ _ _) hw (Nat.le_refl _) h2)
  · split at h <;> first | cases h | skip
    rename_i x mk hx
    obtain ⟨ρ', w', u, h1, h2, h3, h4⟩ := makes_rel hw hbase (allocOp_sound he hx w)
    exact op_gives o h1 (fin h h3 h2 (by simp [AW.push]) h4)
  · split at h <;> first | cases h | skip
    · rename_i v A1 hx
      obtain ⟨ρ', w', h1, h2, h3, v', h4, h5⟩ := effOp_sound hng hw hbase he hx
      exact op_gives o h4 (fin h h1 h2 h3 h5)
    · rename_i A1 hx
      obtain ⟨ρ', w', h1, h2, h3, h4⟩ := effOp_sound hng hw hbase he hx
      exact op_skips o h4 (fin h h1 h2 h3 (.tup _ _ .nil))
    · rename_i f args A1 hx
      obtain ⟨ρ', w', h1, h2, h3, us, h4, h5⟩ := effOp_sound hng hw hbase he hx
      split at h <;> first | cases h | skip
      rename_i v A2 hcall
      refine op_enters o h4 (hc f args A1 v A2 hcall ρ' w' us h5 h2 (Nat.le_trans hbase h1.size)) fun e w'' hR => ?_
      obtain ⟨ρ2, v', rfl, k1, k2, k3, k4⟩ := hR
      exact ⟨v', rfl, fin h (h1.trans k1 h3) k2 (Nat.le_trans h3 k3) k4⟩

theorem opsA_sound (hng : XOk P X) {call : CallF} (hc : CallOk P base call) {ops : Array Oper} {Q : Exit → Act → World → Prop} {Tf : Tree AV} {Af : AW} :
    ∀ (l : List Oper) (i : Nat) {ρ : Ren} {A : AW} {w : World} {T : Tree AV} {a : Act}, ops.toList.drop i = l → ARel ρ nt T a → WRel P base ρ A w → base ≤ w.heap.size → opsA P X call nt ops l T A = some (Tf, Af) →
      (∀ ρ' a' w', Step base A.next ρ w ρ' w' → ARel ρ' nt Tf a' → WRel P base ρ' Af w' → A.next ≤ Af.next → Q .normal a' w') → wpOps P ops Q (List.range' i l.length) a w
  | [], i, ρ, A, w, T, a, _, hA, hw, _, h, hQ => by
    simp only [opsA] at h; cases h
    exact hQ ρ a w (Step.refl _ _ _) hA hw (Nat.le_refl _)
  | o :: rest, i, ρ, A, w, T, a, hl, hA, hw, hb, h, hQ => by
    have ho : ops[i]? = some o := by
      have : ops.toList[i]? = some o := by
        have h0 : (ops.toList.drop i)[0]? = some o := by rw [hl]; rfl
        rw [List.getElem?_drop] at h0; exact h0
      rw [← Array.getElem?_toList]; exact this
    have hl' : ops.toList.drop (i + 1) = rest := by
      rw [← List.drop_drop (i := 1) (j := i)] <;> rw [hl]; rfl
    rw [List.length_cons, List.range'_succ, wpOps_cons]
    unfold wpOp
    simp only [ho]
    simp only [opsA] at h
    split at h <;> first | cases h | skip
    · rename_i hwant
      rw [wanted_rel hA hwant]
      simp only [if_true]
      split at h <;> first | cases h | skip
      rename_i T1 A1 hop
      refine .inl (opA_sound hng hc hA hw hb hop fun ρ' a' w' s1 s2 s3 s4 => ?_)
      exact opsA_sound hng hc rest (i + 1) hl' s2 s3 (Nat.le_trans hb s1.size) h fun ρ2 a2 w2 k1 k2 k3 k4 => hQ ρ2 a2 w2 (s1.trans k1 s4) k2 k3 (Nat.le_trans s4 k4)
    · rename_i hwant
      rw [wanted_rel hA hwant]
      simp only [Bool.false_eq_true, if_false]
      split at h <;> first | cases h | skip
      rename_i T1 hput
      exact opsA_sound hng hc rest (i + 1) hl' (put_rel hA (.tup _ _ .nil) hput) hw hb h hQ
end
end Go.Ab
