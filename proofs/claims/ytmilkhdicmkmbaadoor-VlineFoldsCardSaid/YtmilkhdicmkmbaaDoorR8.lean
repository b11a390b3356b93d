/- A region that draws its order, over data that is not known: it is sound. By an AI agent. -/
import Derived.Test.YtmilkhdicmkmbaaDoorR7
set_option linter.unusedVariables false
set_option linter.unusedSimpArgs false
namespace Go.Ab
open Go Go.RowKit

section
variable {P : Program} {nt : Nat} {ops : Array Oper} {ri : RI} {T0 : Tree AV}

theorem reRow_spec {wr : Tree Nat} {r : Row} {s s0 : RSM} {K : Prop} (h : reRow P ops T0 wr r s K) (hold : RowOk P ops T0 wr s0 r) (hv : ∀ j, Nat.testBit r.m j = true ∨ j = r.i → s.vals.get j = s0.vals.get j) (hb : s.bids.get r.i = s0.bids.get r.i) :
    K ∧ RowOk P ops T0 wr s r := by
  obtain ⟨g, hg, hold⟩ := hold
  have hi := hv r.i (.inr rfl)
  have he : envR T0 wr s.vals r.m = envR T0 wr s0.vals r.m := envR_same fun j hj => hv j (.inl hj)
  have hg' : guardOf ops wr s.vals r = some g := by rw [← hg]; exact guardOf_same fun j hj => hv j (.inl hj)
  have offon : GOff g → GOn g → False := by
    intro h1 h2
    unfold GOff at h1
    unfold GOn at h2
    split at h1
    · exact h1
    · simp only at h2
      rcases h1 with h1 | ⟨b, h1, h3⟩
      · rw [h2] at h1; cases h1
      · rw [h2] at h1; cases h1; exact h3 rfl
  have hoffc : ∀ {K'}, K' → GOff g ∧ s0.vals.get r.i = some .undef → K' ∧ RowOk P ops T0 wr s r := fun k h => ⟨k, g, hg', .inr ⟨h.1, by rw [hi]; exact h.2⟩⟩
  unfold reRow at h
  cases hkd : r.kd with
  | pure =>
    rw [hkd] at h
    refine ⟨h, g, hg', ?_⟩
    rcases hold with ⟨hon, v, hvi, hk⟩ | ⟨hoff, hvi⟩
    · refine .inl ⟨hon, v, by rw [hi]; exact hvi, ?_⟩
      rw [hkd] at hk ⊢
      rw [he]; exact hk
    · exact .inr ⟨hoff, by rw [hi]; exact hvi⟩
  | eff =>
    rcases hold with ⟨hon, v, hvi, hk⟩ | ho
    · rw [hkd] at hk; exact hk.elim
    · rw [hkd] at h; exact hoffc h ho
  | read =>
    rw [hkd] at h
    obtain ⟨g2, hg2, hcase⟩ := guardS_cases h
    rw [hg'] at hg2; cases hg2
    rcases hold with ⟨hon, v, hvi, hk⟩ | ho
    · rcases hcase with ⟨_, hn⟩ | ⟨hoff, _⟩
      · obtain ⟨v', hgv, hv', hK⟩ := niceV_sound hn
        have hgv : GivesR P r.o (envR T0 wr s.vals r.m) s.M v' := by rcases hgv with hgv | ⟨_, hgv⟩ <;> first | exact hgv _ | exact hgv
        rw [hi, hvi] at hv'
        simp only [Option.getD_some] at hv'
        subst hv'
        refine ⟨hK, g, hg', .inl ⟨hon, v', by rw [hi]; exact hvi, ?_⟩⟩
        rw [hkd]; exact hgv
      · exact (offon hoff hon).elim
    · rcases hcase with ⟨hon, _⟩ | ⟨_, hK⟩
      · exact (offon ho.1 hon).elim
      · exact hoffc hK ho
  | alloc =>
    rw [hkd] at h
    obtain ⟨g2, hg2, hcase⟩ := guardS_cases h
    rw [hg'] at hg2; cases hg2
    rcases hold with ⟨hon, v, hvi, hk⟩ | ho
    · rcases hcase with ⟨_, hn⟩ | ⟨hoff, _⟩
      · obtain ⟨x, mk, hm, hx, hK⟩ := niceN_sound hn
        rw [hkd] at hk
        obtain ⟨x0, mk0, b, _, h2, _, _⟩ := hk
        rw [hb, h2] at hx
        simp only [Option.getD_some] at hx
        rw [hi, hvi] at hx
        simp only [Option.getD_some] at hx
        refine ⟨hK, g, hg', .inl ⟨hon, v, by rw [hi]; exact hvi, ?_⟩⟩
        rw [hkd]
        exact ⟨x, mk, b, hm, by rw [hb]; exact h2, hx.1, hx.2⟩
      · exact (offon hoff hon).elim
    · rcases hcase with ⟨hon, _⟩ | ⟨_, hK⟩
      · exact (offon ho.1 hon).elim
      · exact hoffc hK ho

theorem reW_spec {lev : Nat} {s s0 : RSM} {K : Prop} : ∀ (rows : List Row), reW P ops T0 ri lev rows s K →
    (∀ r ∈ rows, isEff r.kd = false → r.lev ≤ lev → aliveAt ri.ms ri.es (lev + 1) r = true → RowOk P ops T0 ri.wr s0 r ∧ (∀ j, Nat.testBit r.m j = true ∨ j = r.i → s.vals.get j = s0.vals.get j) ∧ s.bids.get r.i = s0.bids.get r.i) →
    K ∧ ∀ r ∈ rows, isEff r.kd = false → r.lev ≤ lev → aliveAt ri.ms ri.es (lev + 1) r = true → RowOk P ops T0 ri.wr s r
  | [], h, _ => ⟨h, fun r hr => by cases hr⟩
  | r :: rows, h, ho => by
    simp only [reW] at h
    split at h
    · rename_i hc
      obtain ⟨h1, h2⟩ := reW_spec rows h fun r' hr' => ho r' (.tail _ hr')
      refine ⟨h1, fun r' hr' e1 e2 e3 => ?_⟩
      rcases List.mem_cons.1 hr' with e | hr'
      · subst e
        rw [ble_iff.2 e2, e1, e3] at hc
        cases hc
      · exact h2 r' hr' e1 e2 e3
    · rename_i hc
      simp only [Bool.and_eq_true, Bool.not_eq_true'] at hc
      obtain ⟨⟨c1, c2⟩, c3⟩ := hc
      obtain ⟨o1, o2, o3⟩ := ho r (.head _) c2 (ble_t c1) c3
      obtain ⟨h1, h2⟩ := reRow_spec h o1 o2 o3
      obtain ⟨h3, h4⟩ := reW_spec rows h1 fun r' hr' => ho r' (.tail _ hr')
      refine ⟨h3, fun r' hr' e1 e2 e3 => ?_⟩
      rcases List.mem_cons.1 hr' with e | hr'
      · subst e; exact h2
      · exact h4 r' hr' e1 e2 e3

theorem RLe_blk {ρ : Ren} {i : Info} {x : RB} {y y' : Blk} {ob : Obj} (h : RLe x y) (h' : RLe x y') (hb : BlkRel P ρ i y ob) : BlkRel P ρ i y' ob := by
  cases x with
  | row l opn elem fz =>
    cases y <;> first | exact h.elim | skip
    cases y' <;> first | exact h'.elim | skip
    obtain ⟨rfl, rfl, rfl, rfl, h5⟩ := h
    obtain ⟨h1, rfl, rfl, rfl, h5'⟩ := h'
    subst h1
    obtain ⟨c, fr, rfl, hr⟩ := hb
    refine ⟨c, fr, rfl, hr.size, fun k u hk => ?_, hr.free, hr.mark, hr.opn, hr.sh0⟩
    have hlt := cellAt_lt hk
    have hv : l[k]? = some l[k] := by simp [hlt]
    have e1 := h5' k _ hv
    rw [hk] at e1; cases e1
    exact hr.val k _ (h5 k _ hv)
  | ro c => cases y <;> exact h.elim
  | map es c =>
    cases y <;> first | exact h.elim | skip
    cases y' <;> first | exact h'.elim | skip
    obtain ⟨rfl, rfl⟩ := h
    obtain ⟨rfl, rfl⟩ := h'
    exact hb
  | iter m a b c =>
    cases y <;> first | exact h.elim | skip
    cases y' <;> first | exact h'.elim | skip
    obtain ⟨rfl, rfl, rfl, rfl⟩ := h
    obtain ⟨rfl, rfl, rfl, rfl⟩ := h'
    exact hb
  | siter s p =>
    cases y <;> first | exact h.elim | skip
    cases y' <;> first | exact h'.elim | skip
    obtain ⟨rfl, rfl⟩ := h
    obtain ⟨rfl, rfl⟩ := h'
    exact hb

theorem push_relR {ρ : Ren} {M : RM} {w : World} {b : Nat} {x : RB} {y : Blk} {ob : Obj} {i : Info} (hw : MRel P ρ M w) (hi : i.cb = w.heap.size) (hb : ρ b = none) (hlt : b < M.next) (hx : M.heap b = some x) (hle : RLe x y)
    (hrel : BlkRel P ρ i y ob) : MRel P (ρ.add b i) M (w.alloc ob) ∧ Step M.lo b ρ w (ρ.add b i) (w.alloc ob) := by
  obtain ⟨A, hA⟩ := hw
  rcases hA.blk b x hx with ⟨y', hy', hle'⟩ | ⟨c, rfl, _⟩
  · obtain ⟨h1, h2⟩ := push_rel hA.rel hA.size hi hb (by rw [hA.next]; exact hlt) hy' ((RLe_blk hle hle' hrel).mono (Ren.le_add hb))
    have := hA.size
    refine ⟨⟨A, hA.next, h1, by simp; omega, fun c z hz => ?_, fun c hc => ?_⟩, h2⟩
    · rcases hA.blk c z hz with k | ⟨d, rfl, hlt, elem, fr, hh⟩
      · exact .inl k
      · exact .inr ⟨d, rfl, hlt, elem, fr, by rw [heap_alloc_old w ob c (by omega)]; exact hh⟩
    · unfold Ren.add
      rw [if_neg (fun e => by subst e; rw [hA.old _ hc] at hb; cases hb)]
      exact hA.old c hc
  · cases y <;> exact hle.elim

/-- How it stands while a region goes on. -/
structure InvR (P : Program) (nt : Nat) (ops : Array Oper) (ri : RI) (T0 : Tree AV) (M0 : RM) (ρ0 : Ren) (w0 : World) (k : Nat) (done rest : List Nat) (s : RSM) (S : Nat → Prop) (ρ : Ren) (a : Act) (w : World) : Prop where
  es : ri.es = done ++ rest
  len : done.length = k
  closed : Closed ops.toList S
  dn : ∀ x ∈ done, S x
  rs : ∀ x ∈ rest, ¬ S x
  lev : ∀ (j : Nat) (r : Row), ri.rows[j]? = some r → isEff r.kd = false → S j → r.lev ≤ k
  size : a.tmps.size = nt
  defers : a.defers = []
  slot : SlotRel ρ T0 ri.wr s.vals S a
  wrel : MRel P ρ s.M w
  step : Step M0.lo M0.next ρ0 w0 ρ w
  base : s.M.base = M0.base
  next : M0.next ≤ s.M.next
  bid : ∀ j b, s.bids.get j = some (some b) → M0.next ≤ b ∧ b < s.M.next ∧ (¬ S j → ρ b = none) ∧ j < ops.size
  bidne : ∀ j1 j2 b, s.bids.get j1 = some (some b) → s.bids.get j2 = some (some b) → j1 = j2

variable {M0 : RM} {ρ0 : Ren} {w0 : World} {k : Nat} {done rest : List Nat} {s : RSM} {S : Nat → Prop} {ρ : Ren} {a : Act} {w : World}

theorem envR_relR (ht : Tab P nt ops ri) (hI : InvR P nt ops ri T0 M0 ρ0 w0 k done rest s S ρ a w) {i : Nat} {r : Row} (hr : ri.rows[i]? = some r) (hns : ¬ S i) (hd : ∀ e ∈ r.o.after.toList, Region.binds .any e = true → S e.on)
    (hok : slotsOk ri r = true) : ∀ x ∈ r.o.op.operands, VRel ρ (envR T0 ri.wr s.vals r.m x) (a.eval x) := by
  intro x hx
  have hx' : slotOk ri r x = true := by
    unfold slotsOk at hok
    exact List.all_eq_true.1 hok x (by simpa using hx)
  cases x with
  | tmp t =>
    obtain ⟨h1, h2⟩ := hI.slot t
    simp only [envR, Act.eval]
    simp only [slotOk] at hx'
    cases hw : ri.wr.get t with
    | none =>
      simp only
      exact h2 fun j hj => by rw [hw] at hj; cases hj
    | some j =>
      rw [hw] at hx'
      simp only
      cases hb : Nat.testBit r.m j with
      | true =>
        simp only
        exact h1 j hw (ht.ahead hI.closed hr hd hb)
      | false =>
        simp only
        refine h2 fun j' hj' => ?_
        rw [hw] at hj'; cases hj'
        simp only [hb, Bool.false_or, Bool.or_eq_true] at hx'
        obtain ⟨e1, _⟩ := ht.row hr
        rcases hx' with hx' | hx'
        · rw [beq_t hx', e1]; exact hns
        · intro hS
          rw [nth_getElem, e1] at hx'
          obtain ⟨o, ho, _⟩ := ht.wrs t j hw
          exact hns (ht.aheadIn hI.closed hS ho hx')
  | const v =>
    simp only [envR, evalT, Act.eval]
    cases hv : ofVal v with
    | none => exact .top _
    | some u => exact ofVal_rel hv
  | global g => exact .top _
  | func f => exact .fn _ _ _ _ _ rfl .nil .nil

theorem guard_relR (ht : Tab P nt ops ri) (hI : InvR P nt ops ri T0 M0 ρ0 w0 k done rest s S ρ a w) {i : Nat} {r : Row} (hr : ri.rows[i]? = some r) (hd : ∀ e ∈ r.o.after.toList, Region.binds .any e = true → S e.on) {g : Option (AV × Bool)}
    (hg : guardOf ops ri.wr s.vals r = some g) : (GOn g → Region.wanted r.o (yielded ops a.tmps) = true) ∧ (GOff g → Region.wanted r.o (yielded ops a.tmps) = false) := by
  unfold guardOf at hg
  unfold Region.wanted
  split at hg
  · rename_i hgu; simp only [hgu]; cases hg
    exact ⟨fun _ => trivial, fun h => h.elim⟩
  · rename_i j want hgu
    simp only [hgu]
    split at hg <;> first | (cases hg; done) | skip
    rename_i d hdst
    split at hg <;> first | (cases hg; done) | skip
    rename_i j' hb hwr
    split at hg <;> first | (cases hg; done) | skip
    rename_i he
    cases hg
    have he := beq_t he
    subst he
    have hv := (hI.slot d).1 j' hwr (ht.ahead hI.closed hr hd hb)
    have hyv : yielded ops a.tmps j' = match a.tmps[d]? with | some (.bool b) => some b | _ => none := by
      unfold yielded; rw [hdst]; rfl
    have hget : ∀ t : Bool, a.tmps.getD d undef = .bool t ↔ a.tmps[d]? = some (.bool t) := by
      intro t
      rw [Array.getD_eq_getD_getElem?]
      cases hx : a.tmps[d]? with
      | none => simp [undef]
      | some y => simp
    have off : (∀ b, a.tmps.getD d undef = .bool b → b ≠ want) → (yielded ops a.tmps j' == some want) = false := by
      intro hn
      rw [hyv]
      cases hx : a.tmps[d]? with
      | none => rfl
      | some y =>
        cases y <;> try rfl
        rename_i b
        have := hn b ((hget b).2 hx)
        simpa using this
    constructor
    · intro hon
      simp only [GOn] at hon
      rw [hon] at hv
      have hc := (sc_inv hv).1
      rw [hyv, (hget want).1 hc]; simp
    · intro hoff
      simp only [GOff] at hoff
      refine off fun b hb' => ?_
      rcases hoff with hu | ⟨b', hu, hne⟩
      · rw [hu] at hv
        obtain ⟨vs, hc, hrl⟩ := tup_inv hv
        rw [hc] at hb'; cases hb'
      · rw [hu] at hv
        rw [(sc_inv hv).1] at hb'; cases hb'; exact hne

/-- What is still owed behind a stage. -/
def ContR (P : Program) (ops : Array Oper) (T0 : Tree AV) (ri : RI) (k : Nat) (s : RSM) (K : RSM → Prop) : List Nat → Prop
  | [] => K s
  | x :: rest => ∃ r, nth ri.rows x = some r ∧ guardS (guardOf ops ri.wr s.vals r) (niceE P r.o (envR T0 ri.wr s.vals r.m) s.M) (fun k => k .undef s.M)
        (fun v M' => reW P ops T0 ri k ri.rows { vals := s.vals.set x v, M := M', bids := s.bids } (stageW P ops T0 ri (k + 1) rest { vals := s.vals.set x v, M := M', bids := s.bids } K))

theorem stageW_step (ht : Tab P nt ops ri) {K : RSM → Prop} {es : List Nat} (hf : Fr s.M) (hbd : ∀ j b, s.bids.get j = some (some b) → b < s.M.next) (h : stageW P ops T0 ri k es s K) :
    ∃ s1, ContR P ops T0 ri k s1 K es ∧ Pass P ops T0 ri k 0 s s1 := by
  cases es with
  | nil =>
    rw [stageW] at h
    exact nonW_spec ht ri.rows 0 s rfl hf hbd h
  | cons x rest =>
    rw [stageW] at h
    obtain ⟨s1, hk, hp⟩ := nonW_spec ht ri.rows 0 s rfl hf hbd h
    refine ⟨s1, ?_, hp⟩
    split at hk
    · cases hk
    · rename_i r hr
      exact ⟨r, hr, hk⟩

/-- The rows that may still come are known. -/
def Chk (P : Program) (ops : Array Oper) (T0 : Tree AV) (ri : RI) (k : Nat) (s : RSM) : Prop := ∀ r ∈ ri.rows, isEff r.kd = false → aliveAt ri.ms ri.es k r = true → RowOk P ops T0 ri.wr s r

theorem maskOf_has {acc : List Nat} : ∀ (es : List Edge) (e : Edge), e ∈ es → Region.binds .any e = true → Nat.testBit (maskOf acc es) e.on = true ∧ ∀ j, Nat.testBit ((nth acc e.on).getD 0) j = true → Nat.testBit (maskOf acc es) j = true
  | [], e, h, _ => by cases h
  | x :: es, e, h, hb => by
    simp only [maskOf]
    rcases List.mem_cons.1 h with rfl | h
    · rw [hb]
      simp only
      refine ⟨?_, fun j hj => ?_⟩
      · rw [Nat.testBit_or, Nat.testBit_or, Nat.testBit_two_pow]; simp
      · rw [Nat.testBit_or, Nat.testBit_or, hj]; simp
    · obtain ⟨h1, h2⟩ := maskOf_has (acc := acc) es e h hb
      split
      · refine ⟨?_, fun j hj => ?_⟩
        · rw [Nat.testBit_or, h1]; simp
        · rw [Nat.testBit_or, h2 j hj]; simp
      · exact ⟨h1, h2⟩

theorem ahead_pre (ht : Tab P nt ops ri) {q : Nat} {r : Row} (hq : ri.rows[q]? = some r) : ∃ pre, (∀ i, i < q → nth pre i = ri.ms[i]?) ∧ r.m = maskOf pre r.o.after.toList := by
  obtain ⟨g1, g2, g3, g4, g5⟩ := ht.row hq
  obtain ⟨pre, h1, h2, h3⟩ := (masksGo_spec ops.toList []).2 q r.o g2
  simp only [List.length_nil, Nat.zero_add] at h1 h2 h3
  refine ⟨pre, fun i hi => by rw [nth_getElem, h2 i hi, ← ht.ms], ?_⟩
  rw [← ht.ms, g3] at h3
  exact Option.some.inj h3

theorem ahead_self (ht : Tab P nt ops ri) {q : Nat} {r : Row} (hq : ri.rows[q]? = some r) {e : Edge} (he : e ∈ r.o.after.toList) (hb : Region.binds .any e = true) : Nat.testBit r.m e.on = true := by
  obtain ⟨pre, _, h2⟩ := ahead_pre ht hq
  rw [h2]; exact (maskOf_has _ e he hb).1

theorem ahead_trans (ht : Tab P nt ops ri) : ∀ (q : Nat) {i : Nat} {r : Row} {o : Oper}, ri.rows[q]? = some r → Nat.testBit r.m i = true → ops.toList[i]? = some o → ∀ {e : Edge}, e ∈ o.after.toList → Region.binds .any e = true → Nat.testBit r.m e.on = true := by
  intro q
  induction q using Nat.strongRecOn with
  | _ q ih =>
    intro i r o hq hi ho e he hb
    obtain ⟨g1, g2, g3, g4, g5⟩ := ht.row hq
    obtain ⟨pre, h1, h2⟩ := ahead_pre ht hq
    have hi' := hi
    rw [h2] at hi'
    obtain ⟨e0, he0, hb0, hcase⟩ := maskOf_bit _ hi'
    have hlt := ht.edges q r.o g2 e0 he0 hb0
    obtain ⟨r0, hr0, _⟩ := ht.ex (j := e0.on) (o := ops.toList[e0.on]'(by have := (List.getElem?_eq_some_iff.1 g2).1; omega)) (by simp)
    obtain ⟨k1, k2, k3, k4, k5⟩ := ht.row hr0
    have hsub : ∀ j, Nat.testBit r0.m j = true → Nat.testBit r.m j = true := by
      intro j hj
      rw [h2]
      refine (maskOf_has _ e0 he0 hb0).2 j ?_
      rw [h1 e0.on hlt, k3]; exact hj
    rcases hcase with rfl | ⟨m, hm, hmi⟩
    · rw [k2] at ho; cases ho
      exact hsub _ (ahead_self ht hr0 he hb)
    · rw [← nth_getElem, h1 e0.on hlt, k3] at hm
      cases hm
      exact hsub _ (ih e0.on hlt hr0 hmi ho he hb)

theorem lev_mono {m m' : Nat} (h : ∀ x, Nat.testBit m x = true → Nat.testBit m' x = true) : ∀ (es : List Nat) (i0 b b' : Nat), b ≤ b' → b' ≤ i0 → levGo m es i0 b ≤ levGo m' es i0 b'
  | [], i0, b, b', hb, _ => by simpa [levGo] using hb
  | x :: es, i0, b, b', hb, hi => by
    simp only [levGo]
    cases hm : Nat.testBit m x with
    | true =>
      rw [h x hm]
      exact lev_mono h es (i0 + 1) _ _ (Nat.le_refl _) (Nat.le_refl _)
    | false =>
      cases hm' : Nat.testBit m' x with
      | true => exact lev_mono h es (i0 + 1) b (i0 + 1) (by omega) (Nat.le_refl _)
      | false => exact lev_mono h es (i0 + 1) b b' hb (by omega)

theorem inv_nonR (ht : Tab P nt ops ri) {listed : Array Bool} (hsz : listed.size = ops.size) (hI : InvR P nt ops ri T0 M0 ρ0 w0 k done rest s (Lst listed) ρ a w) {i : Nat} {r : Row} (hi : i < ops.size) (hr : ri.rows[i]? = some r)
    (hd : ∀ e ∈ r.o.after.toList, Region.binds .any e = true → Lst listed e.on) (hk : isEff r.kd = false) (hlev : r.lev ≤ k) {v : AV} {v' : Value} {ρ' : Ren} {w' : World} (hvi : s.vals.get i = some v) (hv : VRel ρ' v v') (hle : ρ.le ρ')
    (hw : MRel P ρ' s.M w') (hst : Step M0.lo M0.next ρ w ρ' w') (hbid : ∀ j b, s.bids.get j = some (some b) → ¬ Lst (listed.setIfInBounds i true) j → ρ' b = none) :
    InvR P nt ops ri T0 M0 ρ0 w0 k done rest s (Lst (listed.setIfInBounds i true)) ρ' (a.put r.o.dst v') w' := by
  have hS : ∀ j, Lst (listed.setIfInBounds i true) j ↔ Lst listed j ∨ j = i := lst_set (by omega)
  obtain ⟨e1, e2, _⟩ := ht.row hr
  refine ⟨hI.es, hI.len, ?_, fun x hx => (hS x).2 (.inl (hI.dn x hx)), ?_, ?_, ?_, ?_, ?_, hw, hI.step.trans hst (Nat.le_refl _), hI.base, hI.next, fun j b hb => ⟨(hI.bid j b hb).1, (hI.bid j b hb).2.1, hbid j b hb, (hI.bid j b hb).2.2.2⟩, hI.bidne⟩
  · intro j o ho hj e he hb
    rcases (hS j).1 hj with hj | rfl
    · exact (hS _).2 (.inl (hI.closed j o ho hj e he hb))
    · rw [e2] at ho; cases ho
      exact (hS _).2 (.inl (hd e he hb))
  · intro x hx hl
    rcases (hS x).1 hl with hl | rfl
    · exact hI.rs x hx hl
    · have : x ∈ ri.es := by rw [hI.es]; exact List.mem_append_right _ hx
      rw [ht.eff hr, hk] at this
      cases this
  · intro j r' hr' hk' hj
    rcases (hS j).1 hj with hj | rfl
    · exact hI.lev j r' hr' hk' hj
    · rw [hr] at hr'; cases hr'; exact hlev
  · cases hdst : r.o.dst <;> simp [Act.put, hI.size]
  · cases hdst : r.o.dst <;> simp [Act.put, hI.defers]
  · exact slot_put ht (fun t => ⟨fun j h1 h2 => ((hI.slot t).1 j h1 h2).mono hle, fun h => ((hI.slot t).2 h).mono hle⟩) hI.size hr hv hvi hS

/-- An operation with an effect is done: the next stage. -/
theorem inv_effR (ht : Tab P nt ops ri) {listed : Array Bool} (hsz : listed.size = ops.size) {i : Nat} {rest' : List Nat} (hI : InvR P nt ops ri T0 M0 ρ0 w0 k done (i :: rest') s (Lst listed) ρ a w) (hchk : Chk P ops T0 ri k s) {r : Row} (hi : i < ops.size) (hr : ri.rows[i]? = some r)
    (hd : ∀ e ∈ r.o.after.toList, Region.binds .any e = true → Lst listed e.on) (hnd : i ∉ rest') {v : AV} {v' : Value} {ρ' : Ren} {w' : World} {M' : RM} (hv : VRel ρ' v v') {K : RSM → Prop}
    (haft : After P s.M ρ w M' ρ' w') (hre : reW P ops T0 ri k ri.rows { vals := s.vals.set i v, M := M', bids := s.bids } (stageW P ops T0 ri (k + 1) rest' { vals := s.vals.set i v, M := M', bids := s.bids } K)) :
    ∃ s3, InvR P nt ops ri T0 M0 ρ0 w0 (k + 1) (done ++ [i]) rest' s3 (Lst (listed.setIfInBounds i true)) ρ' (a.put r.o.dst v') w' ∧ Chk P ops T0 ri (k + 1) s3 ∧ ContR P ops T0 ri (k + 1) s3 K rest' := by
  have hS : ∀ j, Lst (listed.setIfInBounds i true) j ↔ Lst listed j ∨ j = i := lst_set (by omega)
  obtain ⟨e1, e2, e3, e4, e5⟩ := ht.row hr
  have hmem : i ∈ ri.es := by rw [hI.es]; simp
  have hke := (ht.eff hr).1 hmem
  have hle := haft.le hI.wrel
  -- an alive row that was done does not look at the effect
  have hesk : ri.es[k]? = some i := by
    rw [hI.es, List.getElem?_append_right (by rw [hI.len]; omega), hI.len]; simp
  have notin : ∀ r' ∈ ri.rows, r'.lev ≤ k → Nat.testBit r'.m i = true → False := by
    intro r' hr' hl hb
    obtain ⟨q, hq⟩ := List.mem_iff_getElem?.1 hr'
    obtain ⟨g1, g2, g3, g4, g5⟩ := ht.row hq
    have key : ∀ (es : List Nat) (i0 best k : Nat), es[k]? = some i → i0 + k + 1 ≤ levGo r'.m es i0 best := by
      intro es
      induction es with
      | nil => intro i0 best k h; simp at h
      | cons x es ih =>
        intro i0 best k h
        simp only [levGo]
        cases k with
        | zero =>
          simp at h; subst h
          rw [hb]
          simp only
          have mono : ∀ (es : List Nat) (j best : Nat), best ≤ j → best ≤ levGo r'.m es j best := by
            intro es
            induction es with
            | nil => intro j best _; exact Nat.le_refl _
            | cons y es ih2 =>
              intro j best hbj
              simp only [levGo]
              split
              · exact Nat.le_trans (by omega) (ih2 (j + 1) (j + 1) (Nat.le_refl _))
              · exact ih2 (j + 1) best (by omega)
          exact mono es (i0 + 1) (i0 + 1) (Nat.le_refl _)
        | succ k =>
          split
          · have := ih (i0 + 1) (i0 + 1) k (by simpa using h); omega
          · have := ih (i0 + 1) best k (by simpa using h); omega
    have := key ri.es 0 0 k hesk
    rw [← g4] at this
    omega
  obtain ⟨hstage, hrows⟩ := reW_spec (s0 := s) ri.rows hre fun r' hr' f1 f2 f3 => by
    refine ⟨hchk r' hr' f1 ?_, fun j hj => ?_, rfl⟩
    · unfold aliveAt at f3 ⊢
      rw [Bool.and_eq_true] at f3 ⊢
      refine ⟨ble_iff.2 f2, ?_⟩
      have f4 := f3.2
      rw [List.all_eq_true] at f4 ⊢
      intro x hx
      refine f4 x ?_
      have := List.take_subset_take_left ri.es (Nat.le_succ k)
      exact this hx
    · simp only [Tree.get_set]
      rw [if_neg]
      rintro rfl
      rcases hj with hj | hj
      · exact notin r' hr' f2 hj
      · obtain ⟨q, hq⟩ := List.mem_iff_getElem?.1 hr'
        obtain ⟨g1, _⟩ := ht.row hq
        have : q = j := by omega
        subst this
        rw [hr] at hq; cases hq
        rw [f1] at hke; cases hke
  obtain ⟨s3, hcont, hp⟩ := stageW_step (s := { vals := s.vals.set i v, M := M', bids := s.bids }) ht (haft.rel.fr) (fun j b hb => Nat.lt_of_lt_of_le (hI.bid j b hb).2.1 haft.next) hstage
  have hkeep : ∀ j, Lst listed j ∨ j = i → s3.vals.get j = (s.vals.set i v).get j := by
    intro j hj
    refine (hp.keep j fun r' hr' _ => ?_).1
    rintro ⟨hl, hk'⟩
    rcases hj with hj | rfl
    · have := hI.lev j r' hr' hk' hj; omega
    · rw [hr] at hr'; cases hr'; rw [hke] at hk'; cases hk'
  have hvi : s3.vals.get i = some v := by rw [hkeep i (.inr rfl), Tree.get_set, if_pos rfl]
  refine ⟨s3, ⟨by rw [hI.es]; simp, by simp [hI.len], ?_, ?_, ?_, ?_, ?_, ?_, ?_, hp.rel _ _ haft.rel, hI.step.trans (haft.step.of_base hI.base) hI.next, ?_, ?_, ?_, ?_⟩, ?_, hcont⟩
  · intro j o ho hj e he hb
    rcases (hS j).1 hj with hj | rfl
    · exact (hS _).2 (.inl (hI.closed j o ho hj e he hb))
    · rw [e2] at ho; cases ho
      exact (hS _).2 (.inl (hd e he hb))
  · intro x hx
    rcases List.mem_append.1 hx with hx | hx
    · exact (hS x).2 (.inl (hI.dn x hx))
    · simp at hx; subst hx; exact (hS x).2 (.inr rfl)
  · intro x hx hl
    rcases (hS x).1 hl with hl | rfl
    · exact hI.rs x (.tail _ hx) hl
    · exact hnd hx
  · intro j r' hr' hk' hj
    rcases (hS j).1 hj with hj | rfl
    · have := hI.lev j r' hr' hk' hj; omega
    · rw [hr] at hr'; cases hr'; rw [hke] at hk'; cases hk'
  · cases hdst : r.o.dst <;> simp [Act.put, hI.size]
  · cases hdst : r.o.dst <;> simp [Act.put, hI.defers]
  · refine slot_put ht (v := v) (S := Lst listed) (fun t => ⟨fun j h1 h2 => ?_, fun h => ((hI.slot t).2 h).mono hle⟩) hI.size hr hv hvi hS
    rw [hkeep j (.inl h2), Tree.get_set]
    split
    · rename_i e
      subst e
      exact absurd h2 (hI.rs j (.head _))
    · exact ((hI.slot t).1 j h1 h2).mono hle
  · rw [hp.sub.1, ← hI.base]; exact haft.base
  · exact Nat.le_trans hI.next (Nat.le_trans haft.next hp.next)
  · intro j b hb
    rcases hp.bids j b hb with h | ⟨h, h', _, r', hr'⟩
    · obtain ⟨b1, b2, b3, b4⟩ := hI.bid j b h
      refine ⟨b1, Nat.lt_of_lt_of_le b2 (Nat.le_trans haft.next hp.next), fun hj => ?_, b4⟩
      rw [haft.step.ext b b2]
      exact b3 fun hl => hj ((hS j).2 (.inl hl))
    · refine ⟨Nat.le_trans hI.next (Nat.le_trans haft.next h), h', fun _ => haft.rel.fresh h, ?_⟩
      obtain ⟨g1, g2, _⟩ := ht.row hr'
      have := (List.getElem?_eq_some_iff.1 g2).1
      rw [Array.length_toList] at this
      exact this
  · intro j1 j2 b h1 h2
    rcases Nat.lt_or_ge b M'.next with hlt | hge
    · have q : ∀ j, s3.bids.get j = some (some b) → s.bids.get j = some (some b) := by
        intro j hj
        rcases hp.bids j b hj with k | ⟨k1, _⟩
        · exact k
        · simp only at k1; omega
      exact hI.bidne j1 j2 b (q j1 h1) (q j2 h2)
    · exact hp.bidne j1 j2 b h1 h2 hge
  · intro r' hr' f1 f3
    obtain ⟨q, hq⟩ := List.mem_iff_getElem?.1 hr'
    obtain ⟨g1, g2, g3, g4, g5⟩ := ht.row hq
    have f3' := f3
    unfold aliveAt at f3'
    rw [Bool.and_eq_true] at f3'
    have hl := ble_t f3'.1
    by_cases he : r'.lev = k + 1
    · exact hp.done q r' hq (Nat.zero_le _) he f1
    · have hl' : r'.lev ≤ k := by omega
      refine (hrows r' hr' f1 hl' f3).keep (fun j hj => ?_) ?_ hp.sub
      · refine (hp.keep j fun r2 hr2 _ => ?_).1
        rintro ⟨h1, h2⟩
        rcases hj with hj | hj
        · -- what stands ahead has no higher level
          have hjm : r2.lev ≤ r'.lev := by
            obtain ⟨q1, q2, q3, q4, q5⟩ := ht.row hr2
            have sub : ∀ x, Nat.testBit r2.m x = true → Nat.testBit r'.m x = true := by
              intro x hx
              have hcl : Closed ops.toList (fun i => Nat.testBit r'.m i = true ∨ i = q) := by
                intro i o ho hi e he' hb'
                rcases hi with hi | rfl
                · exact .inl (ahead_trans ht _ hq hi ho he' hb')
                · rw [g2] at ho; cases ho
                  exact .inl (ahead_self ht hq he' hb')
              rcases ht.aheadIn hcl (.inl hj) q2 (by rw [q3]; exact hx) with h | h
              · exact h
              · subst h
                exfalso
                have hlt : j < x := by
                  have hc : Closed ops.toList (fun i => i < x) := fun i o ho hi e he' hb' => by have := ht.edges i o ho e he' hb'; omega
                  exact ht.ahead hc hq (fun e he' hb' => ht.edges x r'.o g2 e he' hb') hj
                have hlt2 : x < j := by
                  have hc : Closed ops.toList (fun i => i < j) := fun i o ho hi e he' hb' => by have := ht.edges i o ho e he' hb'; omega
                  exact ht.ahead hc hr2 (fun e he' hb' => ht.edges j r2.o q2 e he' hb') hx
                omega
            rw [q4, g4]
            exact lev_mono sub ri.es 0 0 0 (Nat.le_refl _) (Nat.le_refl _)
          omega
        · have : q = j := by omega
          subst this
          rw [hq] at hr2; cases hr2; omega
      · refine (hp.keep r'.i fun r2 hr2 _ => ?_).2
        rw [g1, hq] at hr2; cases hr2
        rintro ⟨h1, _⟩; omega

theorem draw_anyR (hP : POk P) (ht : Tab P nt ops ri) (hslots : ∀ r ∈ ri.rows, slotsOk ri r = true) {Q : Exit → Act → World → Prop} {K : RSM → Prop}
    (hQ : ∀ s ρ' a' w', K s → Step M0.lo M0.next ρ0 w0 ρ' w' → ARel ρ' nt (finT T0 s.vals ri.rows) a' → MRel P ρ' s.M w' → s.M.base = M0.base → M0.next ≤ s.M.next → Q .normal a' w') :
    ∀ (fuel : Nat) (listed : Array Bool) (k : Nat) (done rest : List Nat) (s : RSM) (ρ : Ren) (a : Act) (w : World), listed.size = ops.size → listed.toList.count false ≤ fuel →
      InvR P nt ops ri T0 M0 ρ0 w0 k done rest s (Lst listed) ρ a w → Chk P ops T0 ri k s → ContR P ops T0 ri k s K rest → wpAny P .any ops Q fuel listed a w := by
  have fin : ∀ (listed : Array Bool) (k : Nat) (done rest : List Nat) (s : RSM) (ρ : Ren) (a : Act) (w : World), listed.size = ops.size → (∀ i, i < ops.size → Lst listed i) →
      InvR P nt ops ri T0 M0 ρ0 w0 k done rest s (Lst listed) ρ a w → ContR P ops T0 ri k s K rest → Q .normal a w := by
    intro listed k done rest s ρ a w hsz hall hI hcont
    have hrest : rest = [] := by
      cases rest with
      | nil => rfl
      | cons x rest =>
        have hx : x ∈ ri.es := by rw [hI.es]; simp
        rw [ht.es, effsGo_mem] at hx
        obtain ⟨j, o, hj, rfl, _⟩ := hx
        have := (List.getElem?_eq_some_iff.1 hj).1
        exact absurd (hall (0 + j) (by simpa using this)) (hI.rs _ (.head _))
    subst hrest
    have hcont : K s := hcont
    refine hQ s ρ a w hcont hI.step ⟨hI.size, fun t => ?_, hI.defers⟩ hI.wrel hI.base hI.next
    obtain ⟨g1, g2⟩ := hI.slot t
    refine finT_rel t _ ri.rows T0 (fun r hr hd => ?_) ?_
    · obtain ⟨q, hq⟩ := List.mem_iff_getElem?.1 hr
      obtain ⟨e1, e2, _⟩ := ht.row hq
      have hql := (List.getElem?_eq_some_iff.1 e2).1
      have := g1 r.i (ht.dst q r hq t hd).1 (by rw [e1]; exact hall q (by simpa using hql))
      exact this
    · by_cases hex : ∃ j, ri.wr.get t = some j
      · obtain ⟨j, hj⟩ := hex
        obtain ⟨o, ho, hdo⟩ := ht.wrs t j hj
        obtain ⟨r, hr, rfl⟩ := ht.ex ho
        exact .inl ⟨r, List.mem_of_getElem? hr, hdo⟩
      · exact .inr (g2 fun j hj => absurd ⟨j, hj⟩ hex)
  intro fuel
  induction fuel with
  | zero =>
    intro listed k done rest s ρ a w hsz hcnt hI hchk hcont
    have hall : ∀ i, i < ops.size → Lst listed i := fun i hi => all_listed (by omega) (by omega)
    refine ⟨?_, fin listed k done rest s ρ a w hsz hall hI hcont⟩
    rw [List.eq_nil_iff_forall_not_mem]
    intro i hi
    obtain ⟨h1, h2, _⟩ := ready_mem hsz hi
    exact h2 (hall i h1)
  | succ fuel ih =>
    intro listed k done rest s ρ a w hsz hcnt hI hchk hcont
    refine ⟨fun hr => fin listed k done rest s ρ a w hsz (nothing_ready ht hsz hr) hI hcont, fun i hi => ?_⟩
    obtain ⟨hilt, hnl, o, ho, hd⟩ := ready_mem hsz hi
    obtain ⟨r, hr, rfl⟩ := ht.ex (j := i) (o := o) (by rw [Array.getElem?_toList]; exact ho)
    obtain ⟨e1, e2, e3, e4, e5⟩ := ht.row hr
    have hrm := List.mem_of_getElem? hr
    have he := envR_relR ht hI hr hnl hd (hslots r hrm)
    unfold wpOp
    simp only [ho]
    cases hk : isEff r.kd with
    | false =>
      have hall : aliveAt ri.ms ri.es k r = true := by
        unfold aliveAt
        rw [Bool.and_eq_true, List.all_eq_true]
        constructor
        · rw [ble_iff, e4]
          rcases levGo_spec (m := r.m) ri.es 0 0 with h | ⟨q, x, a1, a2, a3⟩
          · omega
          · have hx := ht.ahead hI.closed hr hd a2
            rw [a3]
            rcases Nat.lt_or_ge q k with h | h
            · omega
            · rw [hI.es, List.getElem?_append_right (by rw [hI.len]; exact h)] at a1
              exact absurd hx (hI.rs x (List.mem_of_getElem? a1))
        · intro x hx
          rw [hI.es, List.take_left' hI.len] at hx
          rw [Bool.not_eq_true', ← Bool.not_eq_true, e1, nth_getElem]
          intro hb
          have hxe : x ∈ ri.es := by rw [hI.es]; exact List.mem_append_left _ hx
          rw [ht.es, effsGo_mem] at hxe
          obtain ⟨j, o', hj, hxj, _⟩ := hxe
          rw [Nat.zero_add] at hxj; subst hxj
          exact hnl (ht.aheadIn hI.closed (hI.dn x hx) hj hb)
      have hlev : r.lev ≤ k := by
        unfold aliveAt at hall
        rw [Bool.and_eq_true] at hall
        exact ble_t hall.1
      have hok := hchk r hrm hk hall
      have hnb : ∀ j b, s.bids.get j = some (some b) → ¬ Lst (listed.setIfInBounds i true) j → ρ b = none := fun j b hb hj =>
        (hI.bid j b hb).2.2.1 fun hl => hj ((lst_set (by omega) j).2 (.inl hl))
      have next : ∀ {v : AV} {v' : Value} {ρ' : Ren} {w' : World}, s.vals.get i = some v → VRel ρ' v v' → ρ.le ρ' → MRel P ρ' s.M w' → Step M0.lo M0.next ρ w ρ' w' →
          (∀ j b, s.bids.get j = some (some b) → ¬ Lst (listed.setIfInBounds i true) j → ρ' b = none) → wpAny P .any ops Q fuel (listed.setIfInBounds i true) (a.put r.o.dst v') w' := by
        intro v v' ρ' w' hvi hv hle hw hst hb
        exact ih _ k done rest s ρ' _ w' (by simpa using hsz) (count_set (by omega) hnl hcnt) (inv_nonR ht hsz hI hilt hr hd hk hlev hvi hv hle hw hst hb) hchk hcont
      have hrefl : ρ.le ρ := fun _ _ h => h
      obtain ⟨g, hg, hcase⟩ := hok
      obtain ⟨gon, goff⟩ := guard_relR ht hI hr hd hg
      rw [e1] at hcase
      rcases hcase with ⟨hon, v, hvi, hkd⟩ | ⟨hoff, hvi⟩
      · rw [gon hon]
        simp only [if_true]
        refine .inl ?_
        have val : GivesR P r.o (envR T0 ri.wr s.vals r.m) s.M v → r.o.wp P a w (wpAny P .any ops Q fuel (listed.setIfInBounds i true)) Q := by
          intro hgv
          obtain ⟨v', h1, h2⟩ := hgv ρ w a.eval s.M (RM.Sub.refl _) hI.wrel he
          exact op_gives r.o h1 (next hvi h2 hrefl hI.wrel (Step.refl _ _ _) hnb)
        cases hkk : r.kd with
        | pure => rw [hkk] at hkd; exact val (hkd _)
        | read => rw [hkk] at hkd; exact val hkd
        | eff => rw [hkk] at hkd; exact hkd.elim
        | alloc =>
          rw [hkk] at hkd
          obtain ⟨x, mk, b, ⟨y, hx, hle⟩, hbi, hy, hmk⟩ := hkd
          obtain ⟨d, ob, u, inf, hrun, hinf, hrel, hmkv⟩ := allocOp_sound he hx w
          obtain ⟨b1, b2, b3, b4⟩ := hI.bid i b hbi
          have hbn := b3 hnl
          have hd' : MRel P ρ s.M (if d = true then w.drew else w) := by cases d <;> simp [hI.wrel, hI.wrel.drew]
          have hsz' : (if d = true then w.drew else w).heap.size = w.heap.size := by cases d <;> simp
          have hst' : Step M0.lo M0.next ρ w ρ (if d = true then w.drew else w) := by cases d <;> simp [Step.refl, Step.drew]
          obtain ⟨h1, h2⟩ := push_relR hd' (by omega) hbn b2 hy hle hrel
          replace h2 := h2.of_base hI.base
          refine op_gives r.o hrun (next hvi (hmk ▸ hmkv _ b (by simp [Ren.add])) (Ren.le_add hbn) h1 (hst'.trans h2 b1) fun j b' hb' hj => ?_)
          have hne : b' ≠ b := by
            intro e
            subst e
            have hji : j ≠ i := fun e => hj ((lst_set (by omega) j).2 (.inr e))
            exact hji (hI.bidne j i b' hb' hbi)
          unfold Ren.add
          rw [if_neg hne]
          exact hnb j b' hb' hj
      · rw [goff hoff]
        simp only [Bool.false_eq_true, if_false]
        exact next hvi (.tup _ _ .nil) hrefl hI.wrel (Step.refl _ _ _) hnb
    | true =>
      have hie : i ∈ ri.es := (ht.eff hr).2 hk
      rw [hI.es] at hie
      have hir : i ∈ rest := by
        rcases List.mem_append.1 hie with h | h
        · exact absurd (hI.dn i h) hnl
        · exact h
      cases rest with
      | nil => cases hir
      | cons x rest' =>
        have hxi : x = i := by
          rcases List.mem_cons.1 hir with e | hm
          · exact e.symm
          · obtain ⟨l1, l2, hl⟩ := List.append_of_mem hm
            have := ht.chain (done ++ x :: l1) i l2 (by rw [hI.es, hl]; simp) x (by simp)
            rw [e3] at this
            exact absurd (ht.ahead hI.closed hr hd this) (hI.rs x (.head _))
        subst hxi
        have hnd : x ∉ rest' := by
          intro hm
          obtain ⟨l1, l2, hl⟩ := List.append_of_mem hm
          have := ht.chain (done ++ x :: l1) x l2 (by rw [hI.es, hl]; simp) x (by simp)
          rw [e3] at this
          exact hnl (ht.ahead hI.closed hr hd this)
        obtain ⟨r', hr', hgs⟩ := hcont
        rw [nth_getElem, hr] at hr'; cases hr'
        obtain ⟨g, hg, hcase⟩ := guardS_cases hgs
        obtain ⟨gon, goff⟩ := guard_relR ht hI hr hd hg
        have next : ∀ {v : AV} {v' : Value} {ρ' : Ren} {w' : World} {M' : RM}, VRel ρ' v v' → After P s.M ρ w M' ρ' w' →
            reW P ops T0 ri k ri.rows { vals := s.vals.set x v, M := M', bids := s.bids } (stageW P ops T0 ri (k + 1) rest' { vals := s.vals.set x v, M := M', bids := s.bids } K) →
            wpAny P .any ops Q fuel (listed.setIfInBounds x true) (a.put r.o.dst v') w' := by
          intro v v' ρ' w' M' hv haft hre
          obtain ⟨s3, h1, h2, h3⟩ := inv_effR ht hsz hI hchk hilt hr hd hnd hv haft hre
          exact ih _ (k + 1) _ rest' s3 ρ' _ w' (by simpa using hsz) (count_set (by omega) hnl hcnt) h1 h2 h3
        rcases hcase with ⟨hon, hn⟩ | ⟨hoff, hn⟩
        · rw [gon hon]
          simp only [if_true]
          exact .inl (does_wp (niceE_sound hP (fun _ => rfl) hn) hI.wrel he fun v v' M' ρ' w' haft hv hk => next hv haft hk)
        · rw [goff hoff]
          simp only [Bool.false_eq_true, if_false]
          exact next (.tup _ _ .nil) (After.refl hI.wrel) hn

theorem finT_get {vals : Tree AV} {t : Nat} : ∀ (rows : List Row) (T : Tree AV), (∀ r ∈ rows, r.o.dst ≠ some t) → (finT T vals rows).get t = T.get t
  | [], T, _ => rfl
  | r :: rows, T, h => by
    simp only [finT]
    cases hd : r.o.dst with
    | none => exact finT_get rows T fun r' hr' => h r' (.tail _ hr')
    | some d =>
      simp only
      rw [finT_get rows _ fun r' hr' => h r' (.tail _ hr'), Tree.get_set, if_neg]
      intro e; subst e
      exact h r (.head _) hd

theorem drawW_sound (hP : POk P) {id : Nat} {T : Tree AV} {M : RM} {K : Tree AV → RM → Prop} {Q : Exit → Act → World → Prop} (hM : After P M0 ρ0 w0 M ρ w) (hA : ARel ρ nt T a)
    (hQ : ∀ T' M' ρ' a' w', After P M0 ρ0 w0 M' ρ' w' → ARel ρ' nt T' a' → K T' M' → (∀ t, (∀ o ∈ ops.toList, o.dst ≠ some t) → T'.get t = T.get t) → Q .normal a' w') (h : drawW P nt ops T M K) : (Code.region id ops true).wp P Q a w := by
  unfold drawW at h
  split at h <;> first | (cases h; done) | skip
  rename_i ri hri
  split at h <;> first | (cases h; done) | skip
  rename_i hslots
  have ht := regionInfo_tab hri
  obtain ⟨s1, h1, hp⟩ := stageW_step ht hM.rel.fr (fun j b hb => by simp [Tree.get] at hb) h
  have hno : ∀ i, ¬ Lst (Array.replicate ops.size false) i := by
    intro i h
    unfold Lst at h
    simp only [Array.getD_eq_getD_getElem?, Array.getElem?_replicate] at h
    split at h <;> simp at h
  refine wp_region_any hP.mixed (draw_anyR (M0 := M0) (ρ0 := ρ0) (w0 := w0) (T0 := T) hP ht (fun r hr => List.all_eq_true.1 hslots r hr) (fun s ρ' a' w' k0 k1 k2 k3 k4 k5 => hQ _ _ ρ' a' w' ⟨k1, k3, k4, k5⟩ k2 k0 (fun t hnt => finT_get ri.rows T fun r hr => by
      obtain ⟨q, hq⟩ := List.mem_iff_getElem?.1 hr
      exact hnt r.o (List.mem_of_getElem? (ht.row hq).2.1))) ops.size _ 0 [] ri.es s1 ρ a _ (by simp) (by simp) ?_ ?_ h1)
  · refine ⟨rfl, rfl, fun i o _ hi => absurd hi (hno i), (fun x hx => by cases hx), fun x _ => hno x, fun j r _ _ hj => absurd hj (hno j), hA.size, hA.defers, fun t => ⟨fun j _ hj => absurd hj (hno j), fun _ => hA.val t⟩, hp.rel _ _ hM.rel.drew, hM.step.trans (Step.drew (n := M0.next)) (Nat.le_refl _), by rw [hp.sub.1]; exact hM.base, Nat.le_trans hM.next hp.next, fun j b hb' => ?_, fun j1 j2 b b1 b2 => ?_⟩
    · rcases hp.bids j b hb' with h | ⟨h, h', _, r, hr⟩
      · simp [Tree.get] at h
      · refine ⟨Nat.le_trans hM.next h, h', fun _ => hM.rel.fresh h, ?_⟩
        obtain ⟨g1, g2, _⟩ := ht.row hr
        have := (List.getElem?_eq_some_iff.1 g2).1
        rw [Array.length_toList] at this
        exact this
    · rcases hp.bids j1 b b1 with h | ⟨h, _⟩
      · simp [Tree.get] at h
      · exact hp.bidne j1 j2 b b1 b2 h
  · intro r hr hk hal
    obtain ⟨q, hq⟩ := List.mem_iff_getElem?.1 hr
    unfold aliveAt at hal
    rw [Bool.and_eq_true] at hal
    exact hp.done q r hq (Nat.zero_le _) (by have := ble_t hal.1; omega) hk
end
end Go.Ab
