/- Operations in the text's order, over data that is not known. By an AI agent. -/
import Derived.Test.YtmilkhdicmkmbaaDoorR5
set_option linter.unusedVariables false
set_option linter.unusedSimpArgs false
namespace Go.Ab
open Go Go.RowKit

def putK (nt : Nat) (T : Tree AV) (d : Option Tmp) (v : AV) (K : Tree AV → Prop) : Prop :=
  match d with
  | none => K T
  | some d => match Nat.ble (d + 1) nt with
    | true => K (T.set d v)
    | false => False

/-- A new block. -/
def newW (x : RB) (mk : Nat → AV) (M : RM) (K : PostV) : Prop := K (mk M.next) (M.push x)

def opW (P : Program) (o : Oper) (e : Operand → AV) (M : RM) (K : PostV) : Prop :=
  match kindOf P o with
  | .pure | .read => niceV P o e M (fun v => K v M)
  | .alloc => niceN P o e (fun x mk => newW x mk M K)
  | .eff => niceE P o e M K

def guardW {α : Type} (x : AV) (want : Bool) (f g : α → Prop) (k : α) : Prop :=
  match x with
  | .sc (.bool b) => if b = want then f k else g k
  | .tup [] => g k
  | _ => False

def opsW (P : Program) (nt : Nat) (ops : Array Oper) : List Oper → Tree AV → RM → (Tree AV → RM → Prop) → Prop
  | [], T, M, K => K T M
  | o :: rest, T, M, K => match o.guard with
    | none => opW P o (evalT T) M (fun v M' => putK nt T o.dst v (fun T' => opsW P nt ops rest T' M' K))
    | some (j, want) => match (ops[j]?).bind (·.dst) with
      | none => False
      | some d => guardW ((T.get d).getD .top) want (opW P o (evalT T) M) (fun k => k .undef M) (fun v M' => putK nt T o.dst v (fun T' => opsW P nt ops rest T' M' K))

section
variable {P : Program} {ρ : Ren} {M : RM} {w : World} {nt : Nat} {T : Tree AV} {a : Act}

theorem putK_rel (h : ARel ρ nt T a) {d : Option Tmp} {v : AV} {v' : Value} {K : Tree AV → Prop} (hv : VRel ρ v v') (hp : putK nt T d v K) : ∃ T', ARel ρ nt T' (a.put d v') ∧ K T' ∧ ∀ t, d ≠ some t → T'.get t = T.get t := by
  cases d with
  | none => exact ⟨T, put_rel h hv rfl, hp, fun _ _ => rfl⟩
  | some d =>
    simp only [putK] at hp
    split at hp
    · rename_i hb
      exact ⟨T.set d v, put_rel h hv (by simp only [putT, hb]), hp, fun t ht => by rw [Tree.get_set, if_neg (fun e => ht (by rw [e]))]⟩
    · cases hp

theorem opW_does (hP : POk P) {o : Oper} {e : Operand → AV} {K : PostV} (he0 : ∀ g, e (.func g) = .fn (.func g) [] []) (h : opW P o e M K) : DoesR P o e M K := by
  unfold opW at h
  have val : niceV P o e M (fun v => K v M) → DoesR P o e M K := by
    intro h ρ w c hw he
    obtain ⟨v, hg, hk⟩ := niceV_sound h
    have hg : GivesR P o e M v := by rcases hg with hg | ⟨_, hg⟩ <;> first | exact hg M | exact hg
    obtain ⟨v', h1, h2⟩ := hg ρ w c M (RM.Sub.refl M) hw he
    exact ⟨M, ρ, w, After.refl hw, .inl ⟨v', v, h1, h2, hk⟩⟩
  split at h
  · exact val h
  · exact val h
  · obtain ⟨x, mk, hm, hk⟩ := niceN_sound h
    intro ρ w c hw he
    obtain ⟨ρ', w', u, h1, h2, h3⟩ := makes_after hw he hm
    exact ⟨_, ρ', w', h2, .inl ⟨u, _, h1, h3, hk⟩⟩
  · exact niceE_sound hP he0 h

/-- One operation, and what comes behind it. -/
theorem does_wp {o : Oper} {e : Operand → AV} {K : PostV} (h : DoesR P o e M K) (hw : MRel P ρ M w) (he : ∀ x ∈ o.op.operands, VRel ρ (e x) (a.eval x)) {K' : Act → World → Prop} {Q : Exit → Act → World → Prop}
    (hK : ∀ v v' M' ρ' w', After P M ρ w M' ρ' w' → VRel ρ' v v' → K v M' → K' (a.put o.dst v') w') : o.wp P a w K' Q := by
  obtain ⟨M', ρ', w', haft, h2⟩ := h ρ w a.eval hw he
  rcases h2 with ⟨v', v, h1, h3, hk⟩ | ⟨h1, hk⟩ | ⟨f, args, us, h1, h3, hb, hc⟩
  · exact op_gives o h1 (hK _ _ _ _ _ haft h3 hk)
  · exact op_skips o h1 (hK _ _ _ _ _ haft (.tup _ _ .nil) hk)
  · refine op_enters o h1 (hc ρ' w' us h3 haft.rel) fun e w'' hR => ?_
    obtain ⟨v', v, M2, ρ2, rfl, k1, k2, k3⟩ := hR
    exact ⟨v', rfl, hK _ _ _ _ _ (haft.trans k1) k2 k3⟩

theorem guardW_rel {α : Type} {x : AV} {u : Value} {want : Bool} {f g : α → Prop} {k : α} (h : guardW x want f g k) (hx : VRel ρ x u) : (u = .bool want ∧ f k) ∨ ((∀ b, u = .bool b → b ≠ want) ∧ g k) := by
  unfold guardW at h
  split at h <;> first | (cases h; done) | skip
  · obtain ⟨rfl, _⟩ := sc_inv hx
    split at h
    · rename_i e; subst e; exact .inl ⟨rfl, h⟩
    · rename_i e; exact .inr ⟨fun b hb => by cases hb; exact e, h⟩
  · obtain ⟨vs, rfl, hr⟩ := tup_inv hx
    exact .inr ⟨fun b hb => (by cases hb), h⟩

theorem opsW_sound (hP : POk P) {ops : Array Oper} {Q : Exit → Act → World → Prop} {K : Tree AV → RM → Prop} {M0 : RM} {ρ0 : Ren} {w0 : World} {T0 : Tree AV}
    (hQ : ∀ T' M' ρ' a' w', After P M0 ρ0 w0 M' ρ' w' → ARel ρ' nt T' a' → K T' M' → (∀ t, (∀ o ∈ ops.toList, o.dst ≠ some t) → T'.get t = T0.get t) → Q .normal a' w') :
    ∀ (l : List Oper) (i : Nat) {ρ : Ren} {M : RM} {w : World} {T : Tree AV} {a : Act}, ops.toList.drop i = l → ARel ρ nt T a → After P M0 ρ0 w0 M ρ w → (∀ t, (∀ o ∈ ops.toList, o.dst ≠ some t) → T.get t = T0.get t) → opsW P nt ops l T M K →
      wpOps P ops Q (List.range' i l.length) a w
  | [], i, ρ, M, w, T, a, _, hA, hw, hkp, h => hQ T M ρ a w hw hA h hkp
  | o :: rest, i, ρ, M, w, T, a, hl, hA, hw, hkp, h => by
    have ho : ops[i]? = some o := by
      have : ops.toList[i]? = some o := by
        have h0 : (ops.toList.drop i)[0]? = some o := by rw [hl]; rfl
        rw [List.getElem?_drop] at h0; exact h0
      rw [← Array.getElem?_toList]; exact this
    have hom : o ∈ ops.toList := by
      have h1 : ops.toList[i]? = some o := by rw [Array.getElem?_toList]; exact ho
      exact List.mem_of_getElem? h1
    have hl' : ops.toList.drop (i + 1) = rest := by
      rw [← List.drop_drop (i := 1) (j := i)] <;> rw [hl]; rfl
    rw [List.length_cons, List.range'_succ, wpOps_cons]
    unfold wpOp
    simp only [ho]
    simp only [opsW] at h
    have he : ∀ x ∈ o.op.operands, VRel ρ (evalT T x) (a.eval x) := fun x _ => evalT_rel hA x
    have next : opW P o (evalT T) M (fun v M' => putK nt T o.dst v (fun T' => opsW P nt ops rest T' M' K)) → o.wp P a w (wpOps P ops Q (List.range' (i + 1) rest.length)) Q := by
      intro h
      refine does_wp (opW_does hP (fun _ => rfl) h) hw.rel he fun v v' M' ρ' w' haft hv hk => ?_
      obtain ⟨T', hT, hk, hkt⟩ := putK_rel (hA.mono (haft.le hw.rel)) hv hk
      exact opsW_sound hP hQ rest (i + 1) hl' hT (hw.trans haft) (fun t ht => by rw [hkt t (ht o hom), hkp t ht]) hk
    split at h
    · rename_i hg
      have : Region.wanted o (yielded ops a.tmps) = true := by simp [Region.wanted, hg]
      rw [this]
      exact .inl (next h)
    · rename_i j want hg
      split at h <;> first | (cases h; done) | skip
      rename_i d hd
      have hyv : yielded ops a.tmps j = match a.tmps[d]? with | some (.bool b) => some b | _ => none := by
        unfold yielded; rw [hd]; rfl
      have hget : ∀ t : Bool, a.tmps.getD d undef = .bool t ↔ a.tmps[d]? = some (.bool t) := by
        intro t
        rw [Array.getD_eq_getD_getElem?]
        cases hx : a.tmps[d]? with
        | none => simp [undef]
        | some y => simp
      rcases guardW_rel h (hA.val d) with ⟨hu, hf⟩ | ⟨hn, hk⟩
      · have : Region.wanted o (yielded ops a.tmps) = true := by
          simp only [Region.wanted, hg, hyv, (hget want).1 hu]; simp
        rw [this]
        exact .inl (next hf)
      · have : Region.wanted o (yielded ops a.tmps) = false := by
          simp only [Region.wanted, hg, hyv]
          cases hx : a.tmps[d]? with
          | none => rfl
          | some y =>
            cases y <;> try rfl
            rename_i b
            have := hn b ((hget b).2 hx)
            simpa using this
        rw [this]
        simp only [Bool.false_eq_true, if_false]
        obtain ⟨T', hT, hk, hkt⟩ := putK_rel (v' := undef) hA (.tup _ _ .nil) hk
        exact opsW_sound hP hQ rest (i + 1) hl' hT hw (fun t ht => by rw [hkt t (ht o hom), hkp t ht]) hk
end
end Go.Ab
