/- Code and calls. By an AI agent. -/
import Derived.Test.YtmilkhdicmkmbaaDoorAb15
import Derived.LoopN
set_option linter.unusedVariables false
set_option linter.unusedSimpArgs false
namespace Go.Ab
open Go Go.RowKit

section
variable {P : Program} {X : Ext} {base : Base} {nt : Nat}

def exOf : Ex → Exit
  | .normal => .normal
  | .exit id => .exit id
  | .ret => .ret

/-- What the code's abstract run says. -/
def Post (P : Program) (base : Base) (nt : Nat) (n0 : Nat) (ρ0 : Ren) (w0 : World) (x : Ex) (T : Tree AV) (A : AW) (e : Exit) (a : Act) (w : World) : Prop :=
  e = exOf x ∧ ∃ ρ, Step base n0 ρ0 w0 ρ w ∧ ARel ρ nt T a ∧ WRel P base ρ A w ∧ n0 ≤ A.next

variable {n0 : Nat} {ρ0 : Ren} {w0 : World} {ρ : Ren} {A : AW} {w : World} {T : Tree AV} {a : Act}

theorem drawA_sound (hng : XOk P X) (hm : P.follows .mixedOrders = true) {call : CallF} (hc : CallOk P base call)
    (hb : base ≤ w0.heap.size) (hn : n0 ≤ A.next) (hst : Step base n0 ρ0 w0 ρ w) (hA : ARel ρ nt T a) (hw : WRel P base ρ A w) {id : Nat} {ops : Array Oper} {T' : Tree AV} {A' : AW}
    (h : drawA P X call nt ops T A = some (T', A')) : (Code.region id ops true).wp P (Post P base nt n0 ρ0 w0 .normal T' A') a w := by
  unfold drawA at h
  split at h <;> first | (cases h; done) | skip
  rename_i ri hri
  split at h <;> first | (cases h; done) | skip
  rename_i s hs
  cases h
  have ht := regionInfo_tab hri
  obtain ⟨s1, h1, h2, h3⟩ := stageA_step hs
  obtain ⟨f1, f2, f3, f4⟩ := nonA_spec (base := base) _ _ _ h1
  have hno : ∀ i, ¬ Lst (Array.replicate ops.size false) i := by
    intro i h
    unfold Lst at h
    simp only [Array.getD_eq_getD_getElem?, Array.getElem?_replicate] at h
    split at h <;> simp at h
  refine wp_region_any hm (draw_any (n0 := n0) (ρ0 := ρ0) (w0 := w0) (sF := s) hng hc ht hb (fun ρ' a' w' k1 k2 k3 k4 => ⟨rfl, ρ', k1, k2, k3, k4⟩) ops.size _ 0 [] ri.es s1 ρ a _ (by simp) (by simp) ?_ h2 h3)
  refine ⟨rfl, rfl, fun i o _ hi => absurd hi (hno i), (fun x hx => by cases hx), fun x _ => hno x, fun j r _ _ hj => absurd hj (hno j), hA.size, hA.defers, fun t => ⟨fun j _ hj => absurd hj (hno j), fun _ => hA.val t⟩, f2 ρ _ hw.drew, hst.trans (Step.drew (n := n0)) (Nat.le_refl _), Nat.le_trans hn f3, fun j b hb' => ?_⟩
  rcases f4 j b hb' with h | ⟨h, h', r, hr, hj⟩
  · simp [Tree.get] at h
  · refine ⟨Nat.le_trans hn h, h', fun _ => hw.fresh h, ?_⟩
    obtain ⟨q, hq⟩ := List.mem_iff_getElem?.1 hr
    obtain ⟨g1, g2, _⟩ := ht.row hq
    have := (List.getElem?_eq_some_iff.1 g2).1
    rw [Array.length_toList] at this
    omega

theorem codeA_sound (hng : XOk P X) (hm : P.follows .mixedOrders = true) {call : CallF} (hc : CallOk P base call) (hb : base ≤ w0.heap.size) :
    ∀ (f : Nat) (c : Code) (T : Tree AV) (A : AW) (x : Ex) (T' : Tree AV) (A' : AW), codeA P X call nt f c T A = some (x, T', A') →
      (∀ (ρ : Ren) (a : Act) (w : World), n0 ≤ A.next → Step base n0 ρ0 w0 ρ w → ARel ρ nt T a → WRel P base ρ A w → c.wp P (Post P base nt n0 ρ0 w0 x T' A') a w) ∧
      (∀ b, c = .loop b → ∀ (ρ : Ren) (a : Act) (w : World), n0 ≤ A.next → Step base n0 ρ0 w0 ρ w → ARel ρ nt T a → WRel P base ρ A w → Code.rounds P b (Post P base nt n0 ρ0 w0 x T' A') f a w) := by
  intro f
  induction f with
  | zero => intro c T A x T' A' h; simp [codeA] at h
  | succ f ih =>
    intro c T A x T' A' h
    cases c with
    | loop b =>
      simp only [codeA] at h
      have key : ∀ (ρ : Ren) (a : Act) (w : World), n0 ≤ A.next → Step base n0 ρ0 w0 ρ w → ARel ρ nt T a → WRel P base ρ A w → Code.rounds P b (Post P base nt n0 ρ0 w0 x T' A') (f + 1) a w := by
        intro ρ a w hn hst hA hw
        rw [rounds_succ]
        split at h
        · rename_i T1 A1 h1
          refine wp_mono ((ih b T A _ T1 A1 h1).1 ρ a w hn hst hA hw) fun e a' w' hp => ?_
          obtain ⟨rfl, ρ', k1, k2, k3, k4⟩ := hp
          exact (ih (.loop b) T1 A1 x T' A' h).2 b rfl ρ' a' w' k4 k1 k2 k3
        · rename_i hne
          refine wp_mono ((ih b T A x T' A' h).1 ρ a w hn hst hA hw) fun e a' w' hp => ?_
          obtain ⟨rfl, hp2⟩ := hp
          cases x with
          | normal => exact absurd h (hne T' A')
          | exit id => exact ⟨rfl, hp2⟩
          | ret => exact ⟨rfl, hp2⟩
      exact ⟨fun ρ a w hn hst hA hw => wp_loop_rounds (f + 1) (key ρ a w hn hst hA hw), fun b' hb' => by cases hb'; exact key⟩
    | skip =>
      simp only [codeA] at h; cases h
      exact ⟨fun ρ a w hn hst hA hw => wp_skip ⟨rfl, ρ, hst, hA, hw, hn⟩, fun b hb => by cases hb⟩
    | region id ops d =>
      cases d with
      | false =>
        simp only [codeA] at h
        split at h <;> first | (cases h; done) | skip
        rename_i T1 A1 h1
        cases h
        refine ⟨fun ρ a w hn hst hA hw => wp_region ?_, fun b hb => by cases hb⟩
        have hbw : base ≤ w.heap.size := Nat.le_trans hb hst.size
        have := opsA_sound hng hc (ops := ops) (Q := Post P base nt n0 ρ0 w0 .normal T' A') ops.toList 0 (by simp) hA hw hbw h1 (fun ρ' a' w' k1 k2 k3 k4 => ⟨rfl, ρ', hst.trans k1 hn, k2, k3, Nat.le_trans hn k4⟩)
        rw [Array.length_toList, ← List.range_eq_range'] at this
        exact this
      | true =>
        simp only [codeA] at h
        split at h <;> first | (cases h; done) | skip
        rename_i T1 A1 h1
        cases h
        exact ⟨fun ρ a w hn hst hA hw => drawA_sound hng hm hc hb hn hst hA hw h1, fun b hb => by cases hb⟩
    | seq c1 c2 =>
      simp only [codeA] at h
      refine ⟨fun ρ a w hn hst hA hw => wp_seq ?_, fun b hb => by cases hb⟩
      split at h
      · rename_i T1 A1 h1
        refine wp_mono ((ih c1 T A _ T1 A1 h1).1 ρ a w hn hst hA hw) fun e a' w' hp => ?_
        obtain ⟨rfl, ρ', k1, k2, k3, k4⟩ := hp
        exact (ih c2 T1 A1 x T' A' h).1 ρ' a' w' k4 k1 k2 k3
      · rename_i hne
        refine wp_mono ((ih c1 T A x T' A' h).1 ρ a w hn hst hA hw) fun e a' w' hp => ?_
        obtain ⟨rfl, hp2⟩ := hp
        cases x with
        | normal => exact absurd h (hne T' A')
        | exit id => exact ⟨rfl, hp2⟩
        | ret => exact ⟨rfl, hp2⟩
    | cond cnd c1 c2 =>
      simp only [codeA] at h
      refine ⟨fun ρ a w hn hst hA hw => ?_, fun b hb => by cases hb⟩
      have hv := evalT_rel hA cnd
      split at h <;> first | (cases h; done) | skip
      · rename_i hc1
        rw [hc1] at hv
        exact wp_cond_true (sc_inv hv).1 ((ih c1 T A x T' A' h).1 ρ a w hn hst hA hw)
      · rename_i hc1
        rw [hc1] at hv
        exact wp_cond_false (sc_inv hv).1 ((ih c2 T A x T' A' h).1 ρ a w hn hst hA hw)
    | block id c1 =>
      simp only [codeA] at h
      refine ⟨fun ρ a w hn hst hA hw => wp_block ?_, fun b hb => by cases hb⟩
      split at h
      · rename_i id' T1 A1 h1
        split at h
        · rename_i he
          cases h
          have he := beq_t he
          subst he
          refine wp_mono ((ih c1 T A _ _ _ h1).1 ρ a w hn hst hA hw) fun e a' w' hp => ?_
          obtain ⟨rfl, hp2⟩ := hp
          simp only [exOf, Exit.inBlock, if_true]
          exact ⟨rfl, hp2⟩
        · rename_i he
          cases h
          have he := beq_f he
          refine wp_mono ((ih c1 T A _ _ _ h1).1 ρ a w hn hst hA hw) fun e a' w' hp => ?_
          obtain ⟨rfl, hp2⟩ := hp
          simp only [exOf, Exit.inBlock, if_neg he]
          exact ⟨rfl, hp2⟩
      · rename_i hne
        refine wp_mono ((ih c1 T A x T' A' h).1 ρ a w hn hst hA hw) fun e a' w' hp => ?_
        obtain ⟨rfl, hp2⟩ := hp
        cases x with
        | normal => exact ⟨rfl, hp2⟩
        | exit id' => exact absurd h (hne id' T' A')
        | ret => exact ⟨rfl, hp2⟩
    | exit id =>
      simp only [codeA] at h; cases h
      exact ⟨fun ρ a w hn hst hA hw => wp_exit ⟨rfl, ρ, hst, hA, hw, hn⟩, fun b hb => by cases hb⟩
    | ret =>
      simp only [codeA] at h; cases h
      exact ⟨fun ρ a w hn hst hA hw => wp_ret ⟨rfl, ρ, hst, hA, hw, hn⟩, fun b hb => by cases hb⟩
    | rangeFunc => simp [codeA] at h
    | scope => simp [codeA] at h
    | label => simp [codeA] at h
    | goto => simp [codeA] at h
    | refuse => simp [codeA] at h

def resFn (tmps : Array Value) : ResultVar → Sem Value
  | .tmp t => pure (tmps.getD t undef)
  | .cell x t => do loadVar t (← asAddr (tmps.getD x undef))

theorem resultA_sound (hA : ARel ρ nt T a) (hw : WRel P base ρ A w) {r : ResultVar} {v : AV} (h : resultA P T A r = some v) :
    ∃ v', (resFn a.tmps r).run P w = .ok v' w ∧ VRel ρ v v' := by
  cases r with
  | tmp t =>
    simp only [resultA] at h
    have := hA.val t
    rw [h] at this
    exact ⟨_, rfl, this⟩
  | cell x t =>
    simp only [resultA] at h
    split at h <;> first | (cases h; done) | skip
    rename_i b p hx
    have hv := hA.val x
    rw [hx] at hv
    obtain ⟨i, hb, hc⟩ := ptr_inv hv
    simp only [resFn, hc, asAddr, Sem.run_bind, Sem.run_pure, Result.andThen_ok, loadVar]
    split at h <;> first | (cases h; done) | skip
    · rename_i ha
      split at h <;> first | (cases h; done) | skip
      rename_i hl
      cases h
      obtain ⟨vs, hr, hlen, hcell⟩ := loads_rel hw hb hl
      cases hr with
      | cons _ u _ us hu hn =>
      cases hn
      have hcell := hcell 0 u (by simp)
      rw [add_off, Nat.add_zero] at hcell
      exact ⟨u, by simp only [isAggT_run ha, Result.andThen_ok, Bool.false_eq_true, if_false, load, Sem.run, hcell], hu⟩
    · rename_i n ha hs
      split at h <;> first | (cases h; done) | skip
      rename_i xs hl
      cases h
      obtain ⟨vs, hr, hlen, _, hrun⟩ := run_loads (P := P) hw hb hl
      exact ⟨.agg ⟨vs⟩, by simp only [isAggT_run ha, Result.andThen_ok, if_true, Sem.run_bind, sizeT_run hs, hrun, Sem.run_pure], .agg _ _ hr⟩

theorem resultsL_sound (hA : ARel ρ nt T a) (hw : WRel P base ρ A w) : ∀ (rs : List ResultVar) (vs : List AV), mapO (resultA P T A) rs = some vs →
    ∃ us, (rs.mapM (resFn a.tmps)).run P w = .ok us w ∧ LRel ρ vs us
  | [], vs, h => by
    simp [mapO] at h; subst h
    exact ⟨[], by simp, .nil⟩
  | r :: rs, vs, h => by
    simp only [mapO] at h
    split at h <;> first | (cases h; done) | skip
    rename_i v hv
    split at h <;> first | (cases h; done) | skip
    rename_i ys hys
    cases h
    obtain ⟨v', h1, h2⟩ := resultA_sound hA hw hv
    obtain ⟨us, h3, h4⟩ := resultsL_sound hA hw rs ys hys
    refine ⟨v' :: us, ?_, .cons _ _ _ _ h2 h4⟩
    simp only [List.mapM_cons, Sem.run_bind, h1, Result.andThen_ok, h3, Sem.run_pure]

theorem resultsA_sound (hA : ARel ρ nt T a) (hw : WRel P base ρ A w) {fn : Func} {v : AV} (h : resultsA P fn T A = some v) : ∃ v', (results fn a.tmps).run P w = .ok v' w ∧ VRel ρ v v' := by
  unfold resultsA at h
  have key : ∀ us : List Value, (fn.results.toList.mapM (resFn a.tmps)).run P w = .ok us w →
      (results fn a.tmps).run P w = .ok (if h : (⟨us⟩ : Array Value).size = 1 then (⟨us⟩ : Array Value)[0] else .tuple ⟨us⟩) w := by
    intro us hu
    have e : results fn a.tmps = (fn.results.mapM (resFn a.tmps) >>= fun vs => pure (if h : vs.size = 1 then vs[0] else .tuple vs)) := rfl
    rw [e, Array.mapM_eq_mapM_toList]
    simp only [Sem.run_bind, Sem.run_map, hu, Result.andThen_ok, Sem.run_pure]
  split at h <;> first | (cases h; done) | skip
  · rename_i u hu
    cases h
    obtain ⟨us, h1, h2⟩ := resultsL_sound hA hw _ _ hu
    cases h2 with
    | cons _ u' _ us hu' hn =>
    cases hn
    exact ⟨u', by rw [key _ h1]; rfl, hu'⟩
  · rename_i vs hne hvs
    cases h
    obtain ⟨us, h1, h2⟩ := resultsL_sound hA hw _ _ hvs
    refine ⟨.tuple ⟨us⟩, ?_, .tup _ _ h2⟩
    rw [key _ h1, dif_neg]
    intro h
    have hl := h2.length
    have : us.length = 1 := h
    cases vs with
    | nil => simp at hl; omega
    | cons v vs => cases vs with
      | nil => exact hne v rfl
      | cons _ _ => simp at hl; omega

theorem bodyA_sound (hng : XOk P X) (hm : P.follows .mixedOrders = true) (L : Nat) {call : CallF} (hc : CallOk P base call) : CallOk P base (bodyA P X L call) := by
  intro f args A v A' h ρ w us hargs hw hb
  simp only [bodyA] at h
  split at h <;> first | (cases h; done) | skip
  rename_i fn hfn
  split at h <;> first | (cases h; done) | skip
  rename_i c hbody
  have hlen := hargs.length
  have hA : ARel ρ (args.length + (fn.ntmps - args.length)) (Tree.ofList args 0 .leaf) { tmps := ⟨us⟩ ++ Array.replicate (fn.ntmps - (⟨us⟩ : Array Value).size) undef, defers := [] } := by
    refine ⟨by simp [hlen], fun t => ?_, rfl⟩
    rw [Tree.get_ofList]
    by_cases ht : t < args.length
    · rw [if_pos (by omega), Nat.sub_zero]
      obtain ⟨u, hu, hv⟩ := hargs.get (n := t) (x := args[t]) (by simp [ht])
      rw [List.getElem?_eq_getElem ht]
      simp only [Option.getD_some]
      have : ((⟨us⟩ : Array Value) ++ Array.replicate (fn.ntmps - (⟨us⟩ : Array Value).size) undef).getD t undef = u := by
        rw [Array.getD_eq_getD_getElem?, Array.getElem?_append_left (by simp; omega)]
        simp [hu]
      rw [this]; exact hv
    · rw [if_neg (by omega)]
      exact .top _
  have hret : ∀ {ex : Ex} {T' : Tree AV} {A1 : AW}, (ex = .normal ∨ ex = .ret) → codeA P X call (args.length + (fn.ntmps - args.length)) L c (Tree.ofList args 0 .leaf) A = some (ex, T', A1) → resultsA P fn T' A1 = some v → A' = A1 →
      Calls P f ⟨us⟩ w fun e w' => ∃ ρ' v', e = .returned v' ∧ Step base A.next ρ w ρ' w' ∧ WRel P base ρ' A' w' ∧ A.next ≤ A'.next ∧ VRel ρ' v v' := by
    intro ex T' A1 hex hcode hres hA1
    subst hA1
    refine calls_of_wp hfn hbody (wp_mono ((codeA_sound hng hm hc (n0 := A.next) (ρ0 := ρ) (w0 := w) hb L c _ A ex T' A' hcode).1 ρ _ w (Nat.le_refl _) (Step.refl _ _ _) hA hw) fun e a' w' hp => ?_)
    obtain ⟨rfl, ρ', k1, k2, k3, k4⟩ := hp
    obtain ⟨v', h1, h2⟩ := resultsA_sound k2 k3 hres
    rcases hex with rfl | rfl
    · exact ⟨k2.defers, v', h1, ρ', v', rfl, k1, k3, k4, h2⟩
    · exact ⟨k2.defers, v', h1, ρ', v', rfl, k1, k3, k4, h2⟩
  split at h <;> first | (cases h; done) | skip
  rename_i ex T' A1 hne hcode
  split at h <;> first | (cases h; done) | skip
  rename_i v1 hres
  cases h
  refine hret ?_ hcode hres rfl
  cases ex with
  | normal => exact .inl rfl
  | ret => exact .inr rfl
  | exit id => exact (hne id rfl).elim
end
end Go.Ab
