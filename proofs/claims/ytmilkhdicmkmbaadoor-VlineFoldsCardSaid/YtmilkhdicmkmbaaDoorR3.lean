/- Operations that reckon or read, over data that is not known: they are sound. By an AI agent. -/
import Derived.Test.YtmilkhdicmkmbaaDoorR2
import Derived.Laws.StructEq
set_option linter.unusedVariables false
set_option linter.unusedSimpArgs false
namespace Go.Ab
open Go Go.RowKit

section
variable {P : Program} {ρ : Ren} {o : Oper} {e : Operand → AV} {c : Operand → Value} {M : RM} {K : AV → Prop}

theorem bnd_natOr (d : Nat) (x : Option Operand) : natOr e d x = bnd d (x.map e) := by
  cases x with
  | none => rfl
  | some x =>
    simp only [natOr, Option.map_some]
    generalize e x = y
    cases y <;> try rfl
    rename_i v
    cases v <;> try rfl
    rename_i k n
    cases n with
    | ofNat n => simp [natOf, bnd]
    | negSucc n => simp only [natOf, bnd]; rw [if_neg (by omega)]

theorem ble_ff {a b : Nat} (h : ¬ a ≤ b) : Nat.ble a b = false := by
  rcases hb : Nat.ble a b
  · rfl
  · exact absurd (ble_t hb) h
theorem beq_tt {a b : Nat} (h : a = b) : Nat.beq a b = true := by subst h; simp
theorem beq_ff {a b : Nat} (h : ¬ a = b) : Nat.beq a b = false := by rw [nat_beq]; simp [h]

theorem bnd_natOf (d : Nat) (x : Operand) : natOf (e x) = bnd d (some (e x)) := bnd_natOr d (some x)

theorem subS_slice {t elem : TypeId} {x : Operand} {lo hi mx : Option Operand} {size : Nat} {v : AV} (hu : P.underlying t = some (.slice elem)) (hs : sizeT P elem = some size)
    (h : subS size (e x) (lo.map e) (hi.map e) (mx.map e) = some v) : sliceOf P e t x lo hi mx = some v := by
  unfold sliceOf
  unfold subS at h
  split at h <;> first | (cases h; done) | skip
  · rename_i b o' len cap hex
    rw [hex]
    simp only [hu, hs, bnd_natOr]
    split at h <;> first | (cases h; done) | skip
    rename_i l hh hl hhh
    simp only [hl, hhh]
    split at h
    · rename_i hmx
      have hmx : mx = none := by cases mx <;> simp at hmx; rfl
      subst hmx
      simp only
      split at h
      · rename_i cc
        split at h <;> first | (cases h; done) | skip
        rename_i hc
        have e1 := ble_iff.2 hc.1
        have e2 := ble_iff.2 hc.2
        split at h
        · rename_i hcl
          have e3 := beq_tt hcl
          simp only [e1, e2, e3]
          exact h
        · rename_i hcl
          have e3 := beq_ff hcl
          simp only [e1, e2, e3]
          exact h
      · rename_i esz
        split at h <;> first | (cases h; done) | skip
        rename_i hc
        have e1 := ble_iff.2 hc.1
        have e2 := ble_iff.2 hc.2.1
        have e4 := beq_tt hc.2.2
        split at h
        · rename_i hcl
          have e3 := ble_iff.2 hcl
          simp only [e1, e2, e3, e4]
          exact h
        · rename_i hcl
          have e3 := ble_ff hcl
          simp only [e1, e2, e3, e4]
          exact h
    · rename_i y hmx
      cases mx with
      | none => cases hmx
      | some z =>
      cases hmx
      split at h <;> first | (cases h; done) | skip
      rename_i hy m hhi hm
      cases hi with
      | none => cases hhi
      | some y2 =>
      simp only
      rw [bnd_natOf 0, hm]
      simp only
      cases cap with
      | ex cc =>
        simp only at h
        split at h <;> first | (cases h; done) | skip
        rename_i hc
        have e1 := ble_iff.2 hc.1
        have e2 := ble_iff.2 hc.2.1
        have e4 := ble_iff.2 hc.2.2
        split at h
        · rename_i hcl
          have e3 := beq_tt hcl
          simp only [e1, e2, e3, e4]
          exact h
        · rename_i hcl
          have e3 := beq_ff hcl
          simp only [e1, e2, e3, e4]
          exact h
      | op esz =>
        simp only at h
        split at h <;> first | (cases h; done) | skip
        rename_i hc
        have e1 := ble_iff.2 hc.1
        have e2 := ble_iff.2 hc.2.1
        have e4 := ble_iff.2 hc.2.2
        split at h
        · rename_i hcl
          have e3 := beq_tt hcl
          simp only [e1, e2, e3, e4]
          exact h
        · rename_i hcl
          have e3 := beq_ff hcl
          simp only [e1, e2, e3, e4]
          exact h
  · rename_i b hex
    rw [hex]
    simp only [hu, hs, bnd_natOr]
    split at h <;> first | (cases h; done) | skip
    rename_i hl hhh hmx
    have hmx : mx = none := by cases mx <;> simp at hmx; rfl
    subst hmx
    simp only [hl, hhh]; exact h
  · rename_i hex
    rw [hex]
    simp only [hu, hs, bnd_natOr]
    split at h <;> first | (cases h; done) | skip
    · rename_i hl hhh hmx
      have hmx : mx = none := by cases mx <;> simp at hmx; rfl
      subst hmx
      have e3 : bnd 0 (Option.map e none) = some 0 := rfl
      simp only [hl, hhh, e3]
      rw [hex] at h; exact h
    · rename_i y hl hhh hmx
      cases mx with
      | none => cases hmx
      | some z =>
      cases hmx
      split at h <;> first | (cases h; done) | skip
      rename_i hy hhi hm
      cases hi with
      | none => cases hhi
      | some y2 =>
      have e3 : bnd 0 (Option.map e (some z)) = some 0 := hm
      simp only [hl, hhh, e3]
      rw [hex] at h; exact h

theorem subA_slice {t elem : TypeId} {n : Nat} {x : Operand} {lo hi : Option Operand} {size : Nat} {v : AV} (hu : P.underlying t = some (.array n elem)) (hs : sizeT P elem = some size)
    (h : subA n size (e x) (lo.map e) (hi.map e) = some v) : sliceOf P e t x lo hi none = some v := by
  unfold sliceOf
  unfold subA at h
  split at h <;> first | (cases h; done) | skip
  rename_i b o' hex
  rw [hex]
  simp only [hu, hs, bnd_natOr]
  split at h <;> first | (cases h; done) | skip
  rename_i l hh hl hhh
  simp only [hl, hhh]
  split at h <;> first | (cases h; done) | skip
  rename_i hc
  have e1 := ble_iff.2 hc.1
  have e2 := ble_iff.2 hc.2
  split at h
  · rename_i hcl
    have e3 := beq_tt hcl
    simp only [e1, e2, e3]
    exact h
  · rename_i hcl
    have e3 := beq_ff hcl
    simp only [e1, e2, e3]
    exact h

theorem fillL_G {place : Nat → Option (Nat × Nat)} : ∀ (parts : List (Nat × AV)) (qs : List (Nat × Nat × AV)) (cs : List AV), (parts.map fun p => (place p.1).map fun q => (q.1, q.2, p.2)) = qs.map some → fillG place cs parts = fillL cs qs
  | [], qs, cs, h => by
    cases qs with
    | nil => rfl
    | cons q qs => simp at h
  | (i, v) :: parts, qs, cs, h => by
    cases qs with
    | nil => simp at h
    | cons q qs =>
      simp only [List.map_cons, List.cons.injEq] at h
      obtain ⟨h1, h2⟩ := h
      cases hp : place i with
      | none => simp [hp] at h1
      | some pl =>
        obtain ⟨off, size⟩ := pl
        simp only [hp, Option.map_some, Option.some.injEq] at h1
        subst h1
        simp only [fillG, hp, fillL]
        by_cases hk : known v = true ∧ v.cells.length = size ∧ off + size ≤ cs.length
        · rw [if_pos hk, hk.1]
          simp only [nat_beq, hk.2.1, decide_true, ble_iff.2 hk.2.2]
          rw [← fillL_G parts qs _ h2]
        · rw [if_neg hk]
          split
          · rename_i a b d
            exact absurd ⟨a, beq_t b, ble_t d⟩ hk
          · rfl

theorem mapO_map {β γ δ : Type} (f : β → Option γ) (g : δ → β) : ∀ l : List δ, mapO f (l.map g) = mapO (fun x => f (g x)) l
  | [] => rfl
  | x :: l => by simp only [List.map_cons, mapO, mapO_map f g l]

theorem loads_one {w : World} {b p : Nat} {i : Info} {v : AV} (hw : MRel P ρ M w) (hb : ρ b = some i) (h : M.loads b p 1 = some [v]) : ∃ u, VRel ρ v u ∧ w.cell? ⟨i.cb, i.sh + p, none⟩ = some u := by
  obtain ⟨vs, hr, hlen, hcell⟩ := RM.loads_rel hw hb h
  cases hr with
  | cons _ u _ us hu hn =>
  cases hn
  have hcell := hcell 0 u (by simp)
  rw [add_off] at hcell
  exact ⟨u, hu, by simpa using hcell⟩

theorem flatEq_append : ∀ (ks rest : List Nat) (cs ds : List AV) {r : Bool}, flatEq (ks ++ rest) cs ds = some r → (∃ r0, flatEq ks (cs.take ks.length) (ds.take ks.length) = some r0 ∧ (r0 = false → r = false) ∧ (r0 = true → flatEq rest (cs.drop ks.length) (ds.drop ks.length) = some r)) ∨ ((cs.length < ks.length ∨ ds.length < ks.length) ∧ r = false)
  | [], rest, cs, ds, r, h => .inl ⟨true, rfl, (fun h => by cases h), fun _ => h⟩
  | k :: ks, rest, [], _, r, h => by simp [flatEq] at h
  | k :: ks, rest, _ :: _, [], r, h => by simp [flatEq] at h
  | k :: ks, rest, x :: cs, y :: ds, r, h => by
    simp only [List.cons_append, flatEq] at h
    split at h
    · rename_i hc
      rcases flatEq_append ks rest cs ds h with ⟨r0, h1, h2, h3⟩ | ⟨h1, h2⟩
      · exact .inl ⟨r0, by simp only [List.length_cons, List.take_succ_cons, flatEq, hc]; exact h1, h2, fun e => by simpa using h3 e⟩
      · exact .inr ⟨by simp; omega, h2⟩
    · rename_i hc
      cases h
      exact .inl ⟨false, by simp only [List.length_cons, List.take_succ_cons, flatEq, hc], fun _ => rfl, fun h => by cases h⟩
    · cases h

theorem part_scalar {t : TypeId} {us : List Value} {off : Nat} {u : Value} {w : World} (ha : isAggT P t = some false) (hu : us[off]? = some u) : (part t ⟨us⟩ off).run P w = .ok u w := by
  simp only [part, Sem.run_bind, isAggT_run ha, Result.andThen_ok, Bool.false_eq_true, if_false]
  simp [hu]
theorem part_agg {t : TypeId} {us : List Value} {off n : Nat} {w : World} (ha : isAggT P t = some true) (hs : sizeT P t = some n) : (part t ⟨us⟩ off).run P w = .ok (.agg ⟨(us.drop off).take n⟩) w := by
  simp only [part, Sem.run_bind, isAggT_run ha, Result.andThen_ok, if_true, sizeT_run hs, Sem.run_pure]
  simp [List.take_drop]

/-- A flat value, compared. -/
theorem flat_run : ∀ (d : Nat) (t : TypeId) (ks : List Nat) (D : Nat), flatD P d t = some ks → d ≤ D → ∀ (cs ds : List AV) (us vs : List Value) (r : Bool) (w : World), LRel ρ cs us → LRel ρ ds vs → cs.length = ks.length → ds.length = ks.length → flatEq ks cs ds = some r →
    (isAggT P t = some true ∧ (Op.equalIn D t (.agg ⟨us⟩) (.agg ⟨vs⟩)).run P w = .ok r w) ∨ (isAggT P t = some false ∧ ∃ u v, us = [u] ∧ vs = [v] ∧ (Op.equalIn D t u v).run P w = .ok r w) := by
  intro d
  induction d with
  | zero => intro t ks D h; simp [flatD] at h
  | succ d ih =>
    intro t ks D h hD cs ds us vs r w hc hd hlc hld he
    obtain ⟨D, rfl⟩ : ∃ D', D = D' + 1 := ⟨D - 1, by omega⟩
    simp only [flatD] at h
    have one : ∀ k, ks = [k] → ∃ x y u v, cs = [x] ∧ ds = [y] ∧ us = [u] ∧ vs = [v] ∧ VRel ρ x u ∧ VRel ρ y v ∧ cellEq k x y = some r := by
      intro k hk
      subst hk
      cases hc with
      | nil => simp at hlc
      | cons x u cs us hx hc => cases hc with
        | cons => simp at hlc
        | nil => cases hd with
          | nil => simp at hld
          | cons y v ds vs hy hd => cases hd with
            | cons => simp at hld
            | nil =>
              refine ⟨x, y, u, v, rfl, rfl, rfl, rfl, hx, hy, ?_⟩
              simp only [flatEq] at he
              split at he
              · rename_i h1; cases he; exact h1
              · rename_i h1; cases he; exact h1
              · cases he
    split at h <;> first | (cases h; done) | skip
    · rename_i k hu
      cases h
      obtain ⟨x, y, u, v, rfl, rfl, rfl, rfl, hx, hy, hce⟩ := one 1 rfl
      refine .inr ⟨by simp [isAggT, hu], u, v, rfl, rfl, ?_⟩
      unfold cellEq at hce
      split at hce <;> first | (cases hce; done) | skip
      · split at hce <;> first | (cases hce; done) | skip
        rename_i e0; subst e0
        cases hce
        rw [(sc_inv hx).1, (sc_inv hy).1]
        exact run_equalIn_int w D t _ _ _ _ hu
      all_goals (rename_i e0; cases e0)
    · rename_i hu
      cases h
      obtain ⟨x, y, u, v, rfl, rfl, rfl, rfl, hx, hy, hce⟩ := one 2 rfl
      refine .inr ⟨by simp [isAggT, hu], u, v, rfl, rfl, ?_⟩
      unfold cellEq at hce
      split at hce <;> first | (cases hce; done) | skip
      · rename_i e0; cases e0
      · cases hce
        rw [(sc_inv hx).1, (sc_inv hy).1, run_equalIn_string w D t _ _ hu, ByteArray.toList_eq, ByteArray.toList_eq]
      · rename_i e0; cases e0
    · rename_i hu
      cases h
      obtain ⟨x, y, u, v, rfl, rfl, rfl, rfl, hx, hy, hce⟩ := one 3 rfl
      refine .inr ⟨by simp [isAggT, hu], u, v, rfl, rfl, ?_⟩
      unfold cellEq at hce
      split at hce <;> first | (cases hce; done) | skip
      · rename_i e0; cases e0
      · rename_i e0; cases e0
      · cases hce
        rw [(sc_inv hx).1, (sc_inv hy).1]
        exact run_equalIn_bool' w D t _ _ hu
    · rename_i fs hu
      split at h <;> first | (cases h; done) | skip
      rename_i hst
      refine .inl ⟨by simp [isAggT, hu], ?_⟩
      have hfs : P.underlying t = some (.struct (P.fieldsOf t)) := by simp [Program.fieldsOf, hu]
      rw [run_equalIn_struct w D t _ _ hfs hst]
      have hff : (P.fieldsOf t).toList = fs.toList := by simp [Program.fieldsOf, hu]
      rw [hff]
      have key : ∀ (l : List Field) (off : Nat) (kr : List Nat) (r : Bool), flatFs P (flatD P d) l off = some kr → (cs.drop off).length = kr.length → (ds.drop off).length = kr.length → flatEq kr (cs.drop off) (ds.drop off) = some r → (Op.eqFields D ⟨us⟩ ⟨vs⟩ l).run P w = .ok r w := by
        intro l
        induction l with
        | nil =>
          intro off kr r h h1 h2 h3
          simp only [flatFs] at h
          cases h
          have e1 := List.eq_nil_of_length_eq_zero h1
          have e2 := List.eq_nil_of_length_eq_zero h2
          rw [e1, e2] at h3
          simp only [flatEq] at h3
          cases h3
          rfl
        | cons f l ihl =>
          intro off kr r h h1 h2 h3
          simp only [flatFs] at h
          split at h <;> first | (cases h; done) | skip
          rename_i kf n hn hoff hkf hsz
          split at h <;> first | (cases h; done) | skip
          rename_i kr' hlen hrest
          cases h
          have hoff := beq_t hoff
          have hlen := beq_t hlen
          have hname : f.name ≠ "_" := by simpa using hn
          rw [List.length_append] at h1 h2
          rcases flatEq_append kf kr' _ _ h3 with ⟨r0, g1, g2, g3⟩ | ⟨g, _⟩
          · have hsub := ih f.type kf D hkf (by omega) ((cs.drop off).take n) ((ds.drop off).take n) ((us.drop off).take n) ((vs.drop off).take n) r0 w ((hc.drop off).take n) ((hd.drop off).take n) (by simp at h1 ⊢; omega) (by simp at h2 ⊢; omega) (by rw [hlen]; exact g1)
            have hstep : (Op.eqFields D ⟨us⟩ ⟨vs⟩ (f :: l)).run P w = (if r0 = false then .ok false w else (Op.eqFields D ⟨us⟩ ⟨vs⟩ l).run P w) := by
              simp only [Op.eqFields, if_pos hname]
              rcases hsub with ⟨ha, hrun⟩ | ⟨ha, u, v, hu1, hv1, hrun⟩
              · simp only [Sem.run_bind, hoff, part_agg ha hsz, Result.andThen_ok, hrun]
                cases r0 <;> simp
              · have hn1 : n = 1 := by
                  have := congrArg List.length hu1
                  have hl := hc.length
                  simp at this h1; omega
                have p1 : us[off]? = some u := by
                  have : ((us.drop off).take n)[0]? = some u := by rw [hu1]; rfl
                  rw [List.getElem?_take, if_pos (by omega), List.getElem?_drop] at this
                  simpa using this
                have p2 : vs[off]? = some v := by
                  have : ((vs.drop off).take n)[0]? = some v := by rw [hv1]; rfl
                  rw [List.getElem?_take, if_pos (by omega), List.getElem?_drop] at this
                  simpa using this
                simp only [Sem.run_bind, hoff, part_scalar ha p1, part_scalar ha p2, Result.andThen_ok, hrun]
                cases r0 <;> simp
            rw [hstep]
            cases r0 with
            | false => rw [g2 rfl]; simp
            | true =>
              simp only [Bool.true_eq_false, if_false]
              refine ihl (off + n) kr' r hrest (by simp at h1 ⊢; omega) (by simp at h2 ⊢; omega) ?_
              have := g3 rfl
              rw [List.drop_drop, List.drop_drop, ← hlen] at this
              exact this
          · omega
      exact key fs.toList 0 ks r h (by simpa using hlc) (by simpa using hld) (by simpa using he)

theorem niceV_sound (h : niceV P o e M K) : ∃ v, ((∀ M', GivesR P o e M' v) ∨ (kindOf P o = .read ∧ GivesR P o e M v)) ∧ K v := by
  cases hop : o.op
  case move x => simp only [niceV, hop] at h; exact ⟨_, givesA_pure (by simp only [pureOp, hop]), h⟩
  case assign x => simp only [niceV, hop] at h; exact ⟨_, givesA_pure (by simp only [pureOp, hop]), h⟩
  case pick cn a b =>
    simp only [niceV, hop] at h
    obtain ⟨t, ht, hk⟩ := h
    exact ⟨_, givesA_pure (by cases t <;> simp only [pureOp, hop, ht] <;> rfl), hk⟩
  case nilCheck x =>
    simp only [niceV, hop] at h
    obtain ⟨b, p, hx, hk⟩ := h
    exact ⟨_, givesA_pure (by simp only [pureOp, hop, hx]), hk⟩
  case fieldAddr s x f =>
    simp only [niceV, hop] at h
    split at h <;> first | (cases h; done) | skip
    rename_i fields hu
    split at h <;> first | (cases h; done) | skip
    rename_i fd hf
    split at h <;> first | (cases h; done) | skip
    rename_i n hs
    obtain ⟨b, p, hx, hk⟩ := h
    exact ⟨_, givesA_pure (by simp only [pureOp, hop, hu, hx, hf, hs]), hk⟩
  case indexAddr t x ix =>
    simp only [niceV, hop] at h
    split at h <;> first | (cases h; done) | skip
    · rename_i elem hu
      split at h <;> first | (cases h; done) | skip
      rename_i size hs
      obtain ⟨b, p, len, cap, k, n, hx, hi, h0, h1, hk⟩ := h
      exact ⟨_, givesA_pure (by simp only [pureOp, hop, hu, hx, hi, natOf_N h0, ble_iff.2 (show n.toNat + 1 ≤ len by omega), hs]), hk⟩
    · rename_i len elem hu
      split at h <;> first | (cases h; done) | skip
      rename_i size hs
      obtain ⟨b, p, k, n, hx, hi, h0, h1, hk⟩ := h
      exact ⟨_, givesA_pure (by simp only [pureOp, hop, hu, hx, hi, natOf_N h0, ble_iff.2 (show n.toNat + 1 ≤ len by omega), hs]), hk⟩
  case field t x f =>
    simp only [niceV, hop] at h
    split at h <;> first | (cases h; done) | skip
    rename_i fields hu
    split at h <;> first | (cases h; done) | skip
    rename_i fd hf
    split at h <;> first | (cases h; done) | skip
    · rename_i ha
      obtain ⟨cs, v, hx, hv, hk⟩ := h
      exact ⟨_, givesA_pure (by simp only [pureOp, hop, hu, hx, hf, partOf, ha, nth_getElem]; exact hv), hk⟩
    · rename_i ha
      split at h <;> first | (cases h; done) | skip
      rename_i n hs
      obtain ⟨cs, hx, hv, hk⟩ := h
      exact ⟨_, givesA_pure (by simp only [pureOp, hop, hu, hx, hf, partOf, ha, hs, ble_iff.2 hv]), hk⟩
  case index t x ix =>
    simp only [niceV, hop] at h
    split at h <;> first | (cases h; done) | skip
    · rename_i hu
      obtain ⟨s, k, n, b, hx, hi, h0, hb, hk⟩ := h
      exact ⟨_, givesA_pure (by simp only [pureOp, hop, hu, hx, hi, natOf_N h0, nth_getElem, hb]), hk⟩
    · rename_i len elem hu
      split at h <;> first | (cases h; done) | skip
      · rename_i ha
        split at h <;> first | (cases h; done) | skip
        rename_i hs
        obtain ⟨cs, k, n, v, hx, hi, h0, h1, hv, hk⟩ := h
        exact ⟨_, givesA_pure (by simp only [pureOp, hop, hu, hx, hi, natOf_N h0, ble_iff.2 (show n.toNat + 1 ≤ len by omega), hs, partOf, ha, nth_getElem, Nat.mul_one]; exact hv), hk⟩
      · rename_i ha
        split at h <;> first | (cases h; done) | skip
        rename_i size hs
        obtain ⟨cs, k, n, hx, hi, h0, h1, hv, hk⟩ := h
        exact ⟨_, givesA_pure (by simp only [pureOp, hop, hu, hx, hi, natOf_N h0, ble_iff.2 (show n.toNat + 1 ≤ len by omega), hs, partOf, ha, ble_iff.2 hv]), hk⟩
  case slice t x lo hi mx =>
    simp only [niceV, hop] at h
    split at h <;> first | (cases h; done) | skip
    · rename_i hu
      split at h <;> first | (cases h; done) | skip
      obtain ⟨v, hv, hk⟩ := h
      refine ⟨_, givesA_pure ?_, hk⟩
      unfold subStr at hv
      split at hv <;> first | (cases hv; done) | skip
      rename_i s hex
      split at hv <;> first | (cases hv; done) | skip
      rename_i l hh hl hhh
      split at hv <;> first | (cases hv; done) | skip
      rename_i hc
      simp only [pureOp, hop, hex, strPart, hu, bnd_natOr, hl, hhh, ble_iff.2 hc.1, ble_iff.2 hc.2]
      exact hv
    · rename_i elem hu
      split at h <;> first | (cases h; done) | skip
      rename_i size hs
      obtain ⟨v, hv, hk⟩ := h
      have h1 := subS_slice hu hs hv
      refine ⟨_, givesA_pure ?_, hk⟩
      simp only [pureOp, hop]
      split
      · rename_i s hex
        simp [subS, hex] at hv
      · exact h1
    · rename_i n elem hu
      split at h <;> first | (cases h; done) | skip
      rename_i size hs
      obtain ⟨v, hv, hk⟩ := h
      have h1 := subA_slice hu hs hv
      refine ⟨_, givesA_pure ?_, hk⟩
      simp only [pureOp, hop]
      split
      · rename_i s hex
        simp [subA, hex] at hv
      · exact h1
  case extract x i =>
    simp only [niceV, hop] at h
    obtain ⟨vs, v, hx, hv, hk⟩ := h
    exact ⟨_, givesA_pure (by simp only [pureOp, hop, hx, nth_getElem]; exact hv), hk⟩
  case makeInterface t x =>
    simp only [niceV, hop] at h
    split at h <;> first | (cases h; done) | skip
    rename_i d hne hu
    exact ⟨_, givesA_pure (by simp only [pureOp, hop, hu]), h⟩
  case makeFunc f first captured =>
    simp only [niceV, hop] at h
    split at h <;> first | (cases h; done) | skip
    exact ⟨_, givesA_pure (by simp only [pureOp, hop]), h⟩
  case build t parts =>
    simp only [niceV, hop] at h
    split at h <;> first | (cases h; done) | skip
    · rename_i it n el hi hu
      split at h <;> first | (cases h; done) | skip
      rename_i z ie hz hie
      split at h <;> first | (cases h; done) | skip
      rename_i cs hcs
      obtain ⟨cs', hf, hk⟩ := h
      refine ⟨_, givesA_pure ?_, hk⟩
      simp only [pureOp, hop, hi, hu, hz, hie, hcs]
      rw [fillL_G _ (parts.toList.map fun p => (p.1 * ie.size, ie.size, e p.2)) _ (by simp), hf]
      rfl
    · rename_i it fields hi hu
      split at h <;> first | (cases h; done) | skip
      rename_i z places hz hpl
      split at h <;> first | (cases h; done) | skip
      rename_i cs ps hcs hps
      obtain ⟨cs', hf, hk⟩ := h
      refine ⟨_, givesA_pure ?_, hk⟩
      simp only [pureOp, hop, hi, hu, hz, hpl, hcs]
      rw [fillL_G _ ps _ ?_, hf]
      · rfl
      · rw [List.map_map]
        revert hps
        generalize parts.toList = pl
        intro hps
        induction pl generalizing ps cs cs' with
        | nil => simp [mapO] at hps; subst hps; rfl
        | cons p pl ih =>
          simp only [mapO] at hps
          split at hps <;> first | (cases hps; done) | skip
          rename_i y hy
          split at hps <;> first | (cases hps; done) | skip
          rename_i ys hys
          cases hps
          simp only [List.map_cons, List.cons.injEq]
          refine ⟨?_, ?_⟩
          · split at hy <;> first | (cases hy; done) | skip
            rename_i q hq
            cases hy
            simp [hq]
          · clear ih hf
            revert hys
            generalize ys = zs
            intro hys
            induction pl generalizing zs with
            | nil => simp [mapO] at hys; subst hys; rfl
            | cons p pl ih =>
              simp only [mapO] at hys
              split at hys <;> first | (cases hys; done) | skip
              rename_i y' hy'
              split at hys <;> first | (cases hys; done) | skip
              rename_i ys' hys'
              cases hys
              simp only [List.map_cons, List.cons.injEq]
              refine ⟨?_, ih _ hys'⟩
              split at hy' <;> first | (cases hy'; done) | skip
              rename_i q hq
              cases hy'
              simp [hq]
  case binOp op t x y yt =>
    simp only [niceV, hop] at h
    split at h <;> first | (cases h; done) | skip
    · split at h
      · obtain ⟨k, a, l, b, v, hx, hy, hv, hk⟩ := h
        exact ⟨_, givesA_pure (sh_gen hop hx hy hv), hk⟩
      · obtain ⟨k, a, l, b, v, hx, hy, hv, hk⟩ := h
        exact ⟨_, givesA_pure (sh_gen hop hx hy hv), hk⟩
      · obtain ⟨k, a, b, v, hx, hy, hv, hk⟩ := h
        exact ⟨_, givesA_pure (int_gen hop hx hy hv), hk⟩
    · obtain ⟨a, b, v, hx, hy, hv, hk⟩ := h
      exact ⟨_, givesA_pure (by simp only [pureOp, hop, hx, hy]; exact hv), hk⟩
    · rename_i hu
      split at h <;> first | (cases h; done) | skip
      · obtain ⟨a, b, hx, hy, hk⟩ := h
        exact ⟨_, givesA_pure (boolEq_gen hop hx hy hu (.inl ⟨rfl, rfl⟩)), hk⟩
      · obtain ⟨a, b, hx, hy, hk⟩ := h
        exact ⟨_, givesA_pure (boolEq_gen hop hx hy hu (.inr ⟨rfl, rfl⟩)), hk⟩
    · rename_i fs hu
      have key : ∀ (ks : List Nat) (neg : Bool), flatT P t = some ks → aggEqW neg ks (e x) (e y) K → ((op = .eql ∧ neg = false) ∨ (op = .neq ∧ neg = true)) → ∃ v, ((∀ M', GivesR P o e M' v) ∨ (kindOf P o = .read ∧ GivesR P o e M v)) ∧ K v := by
        intro ks neg hf h hop2
        obtain ⟨cs, ds, r, hx, hy, hlc, hld, he, hk⟩ := h
        refine ⟨_, .inl fun _ ρ w c M' _ hw he0 => ⟨.bool (r != neg), ?_, .sc _ rfl⟩, hk⟩
        have hxr : VRel ρ (e x) (c x) := he0 x (by rw [hop]; simp [Op.operands])
        have hyr : VRel ρ (e y) (c y) := he0 y (by rw [hop]; simp [Op.operands])
        rw [hx] at hxr
        rw [hy] at hyr
        obtain ⟨us, hcx, hru⟩ := agg_inv hxr
        obtain ⟨vs, hcy, hrv⟩ := agg_inv hyr
        unfold flatT at hf
        split at hf <;> first | (cases hf; done) | skip
        rename_i hg
        have hrun : (Op.equalIn 10000 t (.agg ⟨us⟩) (.agg ⟨vs⟩)).run P w = .ok r w := by
          rcases flat_run 10 t ks 10000 hf (by omega) cs ds us vs r w hru hrv hlc hld he with ⟨_, h1⟩ | ⟨h1, _⟩
          · exact h1
          · simp [isAggT, hu] at h1
        simp only [execOp, hop, hcx, hcy, Sem.run_bind, run_eqGuard_agg w op t x y _ _ hg, Result.andThen_ok]
        rcases hop2 with ⟨rfl, rfl⟩ | ⟨rfl, rfl⟩
        · rw [run_eql_struct, hrun]; cases r <;> rfl
        · rw [run_neq_struct, hrun]; cases r <;> rfl
      split at h <;> first | (cases h; done) | skip
      · exact key _ _ ‹_› h (.inl ⟨rfl, rfl⟩)
      · exact key _ _ ‹_› h (.inr ⟨rfl, rfl⟩)
    · obtain ⟨v, hv, hk⟩ := h
      exact ⟨_, givesA_pure hv, hk⟩
    · split at h <;> first | (cases h; done) | skip
      · obtain ⟨v, hv, hk⟩ := h
        exact ⟨_, givesA_pure hv, hk⟩
      · rename_i h0
        obtain ⟨htag, r, hr, hk⟩ := h
        exact ⟨_, givesA_pure (ref_gen hop (.inl ⟨rfl, rfl⟩) rfl (fun e0 => h0 e0) htag hr), hk⟩
      · rename_i h0
        obtain ⟨htag, r, hr, hk⟩ := h
        exact ⟨_, givesA_pure (ref_gen hop (.inr ⟨rfl, rfl⟩) rfl (fun e0 => h0 e0) htag hr), hk⟩
  case convert src dst x =>
    simp only [niceV, hop] at h
    split at h <;> first | (cases h; done) | skip
    · rename_i k hs hd
      obtain ⟨l, n, hx, hk⟩ := h
      refine ⟨_, givesA_pure ?_, hk⟩
      simp only [pureOp, hop]
      refine genOp_of (l := [.int l n]) (by rw [hop]; simp [Op.operands, mapO, hx, toVal, toCell]) (u := .int k (k.wrap n)) ?_ rfl
      simp only [execOp, hop, hx, toVal, toCell, Option.getD_some]
      refine pureRun_bind _ _ (Value.int k (k.wrap n)) ?_
      simp only [convert]
      rw [pureRun_bind _ _ _ (pureRun_underlying hs), pureRun_bind _ _ _ (pureRun_underlying hd)]
      rfl
    · rename_i hs hd
      obtain ⟨s, hx, hk⟩ := h
      refine ⟨_, givesA_pure ?_, hk⟩
      simp only [pureOp, hop]
      refine genOp_of (l := [.string ⟨⟨s⟩⟩]) (by rw [hop]; simp [Op.operands, mapO, hx, toVal, toCell]) (u := .string ⟨⟨s⟩⟩) ?_ rfl
      simp only [execOp, hop, hx, toVal, toCell, Option.getD_some]
      refine pureRun_bind _ _ (Value.string ⟨⟨s⟩⟩) ?_
      simp only [convert]
      rw [pureRun_bind _ _ _ (pureRun_underlying hs), pureRun_bind _ _ _ (pureRun_underlying hd)]
      rfl
    · rename_i el hs hd
      split at h <;> first | (cases h; done) | skip
      rename_i hel
      obtain ⟨s, hx, hk⟩ := h
      refine ⟨_, .inr ⟨by simp only [kindOf, hop, hs, hd], fun ρ w c M' hsub hw he => ?_⟩, hk⟩
      have hxr : VRel ρ (e x) (c x) := he x (by rw [hop]; simp [Op.operands])
      unfold toStr at hx
      split at hx <;> first | (cases hx; done) | skip
      · rename_i b p len cap hex
        split at hx <;> first | (cases hx; done) | skip
        rename_i xs hl
        rw [hex] at hxr
        obtain ⟨i, cp, hbi, hc⟩ := slc_inv hxr
        obtain ⟨vs, hr, hlen, _, hrun⟩ := RM.run_loads (P := P) hw hbi (hsub.loads hl)
        obtain ⟨ns, rfl, rfl⟩ := bytesOf_rel hr hx
        refine ⟨_, ?_, .sc _ rfl⟩
        simp only [execOp, hop, hc, Sem.run_bind]
        rw [run_convert_bytes_string w src dst el _ len cp hs hel hd, run_bytesToString w _ len cp ns (by rw [hrun]), foldl_push_bytes]
        have he0 : ByteArray.empty.data = #[] := rfl
        simp [he0]
      · rename_i b hex
        cases hx
        rw [hex] at hxr
        generalize hcx : c x = cx at hxr
        cases hxr with
        | emp _ ad cp =>
        refine ⟨_, ?_, .sc _ rfl⟩
        simp only [execOp, hop, hcx, Sem.run_bind]
        rw [run_convert_bytes_string w src dst el _ 0 cp hs hel hd, run_bytesToString w _ 0 cp [] (by rfl)]
        rfl
      · rename_i hex
        cases hx
        rw [hex] at hxr
        refine ⟨_, ?_, .sc _ rfl⟩
        simp only [execOp, hop, (sc_inv hxr).1, Sem.run_bind]
        rw [run_convert_bytes_string w src dst el _ 0 0 hs hel hd]
        rfl
    · rename_i t hs hd
      split at h <;> first | (cases h; done) | skip
      rename_i n hsz
      obtain ⟨b, p, l, opn, el, fz, hex, hg, hle, hk⟩ := h
      refine ⟨_, .inr ⟨by simp only [kindOf, hop, hs, hd], fun ρ w c M' hsub hw he => ?_⟩, hk⟩
      obtain ⟨A, hA⟩ := hw
      rcases hA.blk b _ (hsub.2 b _ hg) with ⟨y, hy, hr⟩ | ⟨_, e0, _⟩
      · cases y <;> first | exact hr.elim | skip
        obtain ⟨h1, rfl, rfl, rfl, h5⟩ := hr
        refine loadOp_sound hA.rel he ?_
        simp only [loadOp, hop, hs, hd, hex, hy, hsz]
        rw [ble_iff.2 (by omega)]
      · cases e0
    · rename_i u hs hd
      split at h <;> first | (cases h; done) | skip
      rename_i n hsz hc1 hli
      obtain ⟨b, l, opn, fz, hex, hg, hle, hk⟩ := h
      have hc1 := ble_t hc1
      refine ⟨_, .inr ⟨by simp only [kindOf, hop, hs, hd], fun ρ w c M' hsub hw he => ?_⟩, hk⟩
      obtain ⟨A, hA⟩ := hw
      rcases hA.blk b _ (hsub.2 b _ hg) with ⟨y, hy, hr⟩ | ⟨_, e0, _⟩
      · cases y <;> first | exact hr.elim | skip
        rename_i nn tree zs opn' elem' fz'
        obtain ⟨h1, rfl, rfl, rfl, h5⟩ := hr
        refine loadOp_sound hA.rel he ?_
        have hdiv : nn / P.cellsOf elem' = 1 := by rw [← h1, hle]; exact Nat.div_self (by omega)
        simp only [loadOp, hop, hs, hd, hex, hy, hsz, hdiv, hli]
      · cases e0
    · obtain ⟨v, hv, hk⟩ := h
      exact ⟨_, givesA_pure hv, hk⟩
  case unOp op t x =>
    simp only [niceV, hop] at h
    split at h
    · obtain ⟨b, hx, hk⟩ := h
      refine ⟨_, givesA_pure ?_, hk⟩
      simp only [pureOp, hop]
      refine genOp_of (l := [.bool b]) (by rw [hop]; simp [Op.operands, mapO, hx, toVal, toCell]) (u := .bool (!b)) ?_ rfl
      simp only [execOp, hop, hx, toVal, toCell, Option.getD_some]
      rfl
    · obtain ⟨k, n, hx, hk⟩ := h
      refine ⟨_, givesA_pure ?_, hk⟩
      simp only [pureOp, hop]
      refine genOp_of (l := [.int k n]) (by rw [hop]; simp [Op.operands, mapO, hx, toVal, toCell]) (u := .int k (k.wrap (0 - n))) ?_ rfl
      simp only [execOp, hop, hx, toVal, toCell, Option.getD_some]
      rfl
    · obtain ⟨v, hv, hk⟩ := h
      exact ⟨_, givesA_pure hv, hk⟩
  case load t x =>
    simp only [niceV, hop] at h
    split at h <;> first | (cases h; done) | skip
    · rename_i ha
      obtain ⟨b, p, v, hx, hl, hk⟩ := h
      refine ⟨_, .inr ⟨by simp only [kindOf, hop], fun ρ w c M' hsub hw he => ?_⟩, hk⟩
      have hxr : VRel ρ (e x) (c x) := he x (by rw [hop]; simp [Op.operands])
      rw [hx] at hxr
      obtain ⟨i, hb, hc⟩ := ptr_inv hxr
      obtain ⟨u, hu, hcell⟩ := loads_one hw hb (hsub.loads hl)
      refine ⟨u, ?_, hu⟩
      simp only [execOp, hop, Instr.loadAt, Instr.sureAddr, loadVar, hc, Sem.run_bind, Sem.run_pure, Result.andThen_ok, isAggT_run ha, Bool.false_eq_true, if_false, load, Sem.run]
      simp [hcell, Sem.run]
    · rename_i ha
      split at h <;> first | (cases h; done) | skip
      rename_i n hs
      obtain ⟨b, p, xs, hx, hl, hk⟩ := h
      refine ⟨_, .inr ⟨by simp only [kindOf, hop], fun ρ w c M' hsub hw he => ?_⟩, hk⟩
      have hxr : VRel ρ (e x) (c x) := he x (by rw [hop]; simp [Op.operands])
      rw [hx] at hxr
      obtain ⟨i, hb, hc⟩ := ptr_inv hxr
      obtain ⟨vs, hr, hlen, _, hrun⟩ := RM.run_loads (P := P) hw hb (hsub.loads hl)
      refine ⟨.agg ⟨vs⟩, ?_, .agg _ _ hr⟩
      simp only [execOp, hop, Instr.loadAt, Instr.sureAddr, loadVar, hc, Sem.run_bind, Sem.run_pure, Result.andThen_ok, isAggT_run ha, if_true, sizeT_run hs, hrun]
  case call cl =>
    obtain ⟨callee, args, ts⟩ := cl
    cases callee with
    | builtin b =>
      cases b
      case len =>
        simp only [niceV, hop] at h
        split at h <;> first | (cases h; done) | skip
        rename_i t x ht hx
        have hgoal : ∀ {w : World} {c : Operand → Value} {n : Nat}, (Builtin.len_ ts o.type (args.map c)).run P w = .ok (.int .i64 n) w → (execOp c o).run P w = .ok (.value (.int .i64 n)) w := by
          intro w c n hrun
          simp only [execOp, hop, resolve, invoke, builtin, Sem.run_bind, Sem.run_pure, Result.andThen_ok, hrun]
        split at h <;> first | (cases h; done) | skip
        · rename_i el hu
          obtain ⟨n, hn, hk⟩ := h
          refine ⟨_, .inl fun _ ρ w c M' _ hw he => ⟨.int .i64 n, hgoal ?_, .sc _ rfl⟩, hk⟩
          have hr : VRel ρ (e x) (c x) := he x (by rw [hop]; simp only [Op.operands, Call.operands, Array.empty_append]; exact Array.mem_of_getElem? hx)
          unfold lenSl at hn
          split at hn <;> first | (cases hn; done) | skip
          · rename_i b p k cap hex
            cases hn
            rw [hex] at hr
            obtain ⟨i, cp, hb, hc⟩ := slc_inv hr
            simp only [Builtin.len_, ht, Array.getElem?_map, hx, Option.map_some, hc, Sem.run_bind, run_underlying hu, Result.andThen_ok, Sem.run_pure, goInt]
          · rename_i b hex
            cases hn
            rw [hex] at hr
            generalize hcx : c x = cx at hr
            cases hr
            simp only [Builtin.len_, ht, Array.getElem?_map, hx, Option.map_some, hcx, Sem.run_bind, run_underlying hu, Result.andThen_ok, Sem.run_pure, goInt]
          · rename_i hex
            cases hn
            rw [hex] at hr
            simp only [Builtin.len_, ht, Array.getElem?_map, hx, Option.map_some, (sc_inv hr).1, Sem.run_bind, run_underlying hu, Result.andThen_ok, Sem.run_pure, goInt]
        · rename_i hu
          obtain ⟨s, hex, hk⟩ := h
          refine ⟨_, .inl fun _ ρ w c M' _ hw he => ⟨.int .i64 s.length, hgoal ?_, .sc _ rfl⟩, hk⟩
          have hr : VRel ρ (e x) (c x) := he x (by rw [hop]; simp only [Op.operands, Call.operands, Array.empty_append]; exact Array.mem_of_getElem? hx)
          rw [hex] at hr
          simp only [Builtin.len_, ht, Array.getElem?_map, hx, Option.map_some, (sc_inv hr).1, Sem.run_bind, run_underlying hu, Result.andThen_ok, Sem.run_pure, goInt]
          rfl
        · rename_i kt et hu
          obtain ⟨b, es, cl, hex, hg, hk⟩ := h
          refine ⟨_, .inr ⟨by simp only [kindOf, hop, ht, hu], fun ρ w c M' hsub hw he => ⟨.int .i64 es.length, hgoal ?_, .sc _ rfl⟩⟩, hk⟩
          have hr : VRel ρ (e x) (c x) := he x (by rw [hop]; simp only [Op.operands, Call.operands, Array.empty_append]; exact Array.mem_of_getElem? hx)
          rw [hex] at hr
          generalize hcx : c x = cx at hr
          cases hr with
          | map _ i hb =>
          obtain ⟨A, hA⟩ := hw
          rcases hA.blk b _ (hsub.2 _ _ hg) with ⟨y, hy, hle⟩ | ⟨_, e0, _⟩
          · cases y <;> first | exact hle.elim | skip
            obtain ⟨rfl, rfl⟩ := hle
            obtain ⟨ob, hob, fs, rfl, hfs⟩ := hA.rel.blk b i _ hb hy
            have hlen : ∀ (es : List (AV × AV × Nat)) (fs : List MapEntry), EntRel ρ es fs → es.length = fs.length := by
              intro es
              induction es with
              | nil => intro fs h; cases fs <;> simp_all [EntRel]
              | cons a es ih =>
                intro fs h
                cases fs with
                | nil => exact h.elim
                | cons f fs => simp [ih fs h.2.2.2]
            simp only [Builtin.len_, ht, Array.getElem?_map, hx, Option.map_some, hcx, Sem.run_bind, run_underlying hu, Result.andThen_ok, getObj, Sem.run, hob]
            simp [goInt, hlen _ _ hfs]
          · cases e0
      case cap =>
        simp only [niceV, hop] at h
        split at h <;> first | (cases h; done) | skip
        rename_i t x ht hx
        split at h <;> first | (cases h; done) | skip
        rename_i el hu
        obtain ⟨n, hn, hk⟩ := h
        refine ⟨_, givesA_pure ?_, hk⟩
        split at hn <;> first | (cases hn; done) | skip
        · rename_i b p k cc hex
          cases hn
          simp only [pureOp, hop, ht, hx, hu, hex]
        · rename_i hex
          cases hn
          simp only [pureOp, hop, ht, hx, hu, hex]
          rfl
      case unsafeSliceData =>
        simp only [niceV, hop] at h
        split at h <;> first | (cases h; done) | skip
        rename_i x
        unfold sdataW at h
        split at h <;> first | (cases h; done) | skip
        · rename_i hex; exact ⟨_, givesA_pure (by simp only [pureOp, hop, hex]), h⟩
        · rename_i hex; exact ⟨_, givesA_pure (by simp only [pureOp, hop, hex]), h⟩
        · rename_i hex; exact ⟨_, givesA_pure (by simp only [pureOp, hop, hex]), h⟩
      case min =>
        simp only [niceV, hop] at h
        split at h <;> first | (cases h; done) | skip
        rename_i x y
        obtain ⟨k, a, b, hx, hy, hk⟩ := h
        refine ⟨_, givesA_pure ?_, hk⟩
        simp only [pureOp, hop]
        refine genOp_of (l := [.int k a, .int k b]) (by rw [hop]; simp [Op.operands, Call.operands, mapO, hx, hy, toVal, toCell]) (u := .int k (if b < a then b else a)) ?_ rfl
        simp only [execOp, hop, resolve, invoke, builtin]
        rw [show (Array.map (fun x => (toVal (e x)).getD default) ⟨[x, y]⟩) = #[.int k a, .int k b] by simp [hx, hy, toVal, toCell]]
        rfl
      case max =>
        simp only [niceV, hop] at h
        split at h <;> first | (cases h; done) | skip
        rename_i x y
        obtain ⟨k, a, b, hx, hy, hk⟩ := h
        refine ⟨_, givesA_pure ?_, hk⟩
        simp only [pureOp, hop]
        refine genOp_of (l := [.int k a, .int k b]) (by rw [hop]; simp [Op.operands, Call.operands, mapO, hx, hy, toVal, toCell]) (u := .int k (if b > a then b else a)) ?_ rfl
        simp only [execOp, hop, resolve, invoke, builtin]
        rw [show (Array.map (fun x => (toVal (e x)).getD default) ⟨[x, y]⟩) = #[.int k a, .int k b] by simp [hx, hy, toVal, toCell]]
        rfl
      all_goals (simp only [niceV, hop] at h)
    | value f => simp only [niceV, hop] at h
    | invoke r m => simp only [niceV, hop] at h
  all_goals (simp only [niceV, hop] at h)
end
end Go.Ab
