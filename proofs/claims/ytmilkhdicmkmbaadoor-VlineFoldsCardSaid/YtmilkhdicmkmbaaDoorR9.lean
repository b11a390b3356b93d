/- Code and bodies, over data that is not known. By an AI agent. -/
import Derived.Test.YtmilkhdicmkmbaaDoorR8
set_option linter.unusedVariables false
set_option linter.unusedSimpArgs false
namespace Go.Ab
open Go Go.RowKit

/-! ### which slots are written, which are looked at again (sets as bits) -/
def dstBit : Option Tmp → Nat
  | some d => 2 ^ d
  | none => 0
def useBit : Operand → Nat
  | .tmp t => 2 ^ t
  | _ => 0
def usesOf : List Operand → Nat
  | [] => 0
  | x :: xs => useBit x ||| usesOf xs
def dropBits (L m : Nat) : Nat := L ^^^ (L &&& m)

def asgOps : List Oper → Nat
  | [] => 0
  | o :: os => dstBit o.dst ||| asgOps os
def asgC : Nat → Code → Nat
  | 0, _ => 0
  | f + 1, c => match c with
    | .region _ ops _ => asgOps ops.toList
    | .seq a b => asgC f a ||| asgC f b
    | .cond _ a b => asgC f a ||| asgC f b
    | .block _ c => asgC f c
    | .loop c => asgC f c
    | _ => 0

def liveOps : List Oper → Nat → Nat
  | [], L => L
  | o :: os, L => dropBits (liveOps os L) (dstBit o.dst) ||| usesOf o.op.operands.toList

def envGet : List (Nat × Nat) → Nat → Nat
  | [], _ => 0
  | (i, L) :: r, id => match Nat.beq i id with
    | true => L
    | false => envGet r id

def liveC (ret : Nat) : Nat → List (Nat × Nat) → Code → Nat → Nat
  | 0, _, _, _ => 0
  | f + 1, env, c, L => match c with
    | .skip => L
    | .region _ ops _ => liveOps ops.toList L
    | .seq a b => liveC ret f env a (liveC ret f env b L)
    | .cond c a b => useBit c ||| liveC ret f env a L ||| liveC ret f env b L
    | .block id c => liveC ret f ((id, L) :: env) c L
    | .loop c => liveC ret f env c (liveC ret f env c 0)
    | .exit id => envGet env id
    | .ret => ret
    | _ => 0

/-- How many ways lead out at the end (0, 1, or 2: more); 'id': out of the block of that number. -/
def cap2 (n : Nat) : Nat := match n with | 0 => 0 | 1 => 1 | _ => 2
def exitsTo (id : Nat) : Nat → Code → Nat
  | 0, _ => 2
  | f + 1, c => match c with
    | .seq a b => cap2 (exitsTo id f a + exitsTo id f b)
    | .cond _ a b => cap2 (exitsTo id f a + exitsTo id f b)
    | .block _ c => exitsTo id f c
    | .loop c => exitsTo id f c
    | .exit i => match Nat.beq i id with | true => 1 | false => 0
    | _ => 0
def pathsC : Nat → Code → Nat
  | 0, _ => 2
  | f + 1, c => match c with
    | .skip => 1
    | .region _ _ _ => 1
    | .seq a b => cap2 (pathsC f a * pathsC f b)
    | .cond _ a b => cap2 (pathsC f a + pathsC f b)
    | .block id c => cap2 (pathsC f c + exitsTo id f c)
    | _ => 0

def bitsGo (m : Nat) : Nat → Nat → List Nat
  | _, 0 => []
  | i, n + 1 => match Nat.testBit m i with
    | true => i :: bitsGo m (i + 1) n
    | false => bitsGo m (i + 1) n
def bitsOf (m nt : Nat) : List Nat := bitsGo m 0 nt

def getL (T : Tree AV) : List Nat → List AV
  | [] => []
  | t :: ts => (T.get t).getD .top :: getL T ts
def nthD : List AV → Nat → AV
  | [], _ => .top
  | x :: _, 0 => x
  | _ :: xs, n + 1 => nthD xs n
def killL (T : Tree AV) : List Nat → Tree AV
  | [] => T
  | t :: ts => killL (T.set t .top) ts
def setL (T : Tree AV) (xs : List AV) : Nat → List Nat → Tree AV
  | _, [] => T
  | i, t :: ts => setL (T.set t (nthD xs i)) xs (i + 1) ts
/-- The slots at a join: those that were written are forgotten, but for 'vs', which hold 'xs'. -/
def headT (T : Tree AV) (asg vs : List Nat) (xs : List AV) : Tree AV := setL (killL T asg) xs 0 vs

def condW (x : AV) (p q : Prop) : Prop :=
  match x with
  | .sc (.bool b) => (b = true → p) ∧ (b = false → q)
  | _ => False
def joinW (f : (List AV → RM → Prop) → Prop) (g : List AV → RM → Prop) : Prop := f g
def loopW (body : (List AV → RM → Prop) → List AV → RM → Prop) (xs : List AV) (M : RM) : Prop :=
  ∃ (I : Nat → List AV → RM → Prop) (n : Nat), I n xs M ∧ ∀ m ys M', I m ys M' → body (fun zs M'' => ∃ m', m' < m ∧ I m' zs M'') ys M'

abbrev K3 := Ex → Tree AV → RM → Prop

def wpC (P : Program) (nt ret : Nat) : Nat → Code → List (Nat × Nat) → Nat → Tree AV → RM → K3 → Prop
  | 0, _, _, _, _, _, _ => False
  | f + 1, c, env, L, T, M, K => match c with
    | .skip => K .normal T M
    | .region _ ops false => opsW P nt ops ops.toList T M (fun T' M' => K .normal T' M')
    | .region _ ops true => drawW P nt ops T M (fun T' M' => K .normal T' M')
    | .seq a b => match Nat.ble (pathsC f a) 1 with
      | true => wpC P nt ret f a env (liveC ret f env b L) T M (fun e T' M' => match e with
        | .normal => wpC P nt ret f b env L T' M' K
        | e => K e T' M')
      | false => joinW (fun J => wpC P nt ret f a env (liveC ret f env b L) T M (fun e T' M' => match e with
          | .normal => J (getL T' (bitsOf (asgC f a &&& liveC ret f env b L) nt)) M'
          | e => K e T' M'))
        (fun xs M' => wpC P nt ret f b env L (headT T (bitsOf (asgC f a) nt) (bitsOf (asgC f a &&& liveC ret f env b L) nt) xs) M' K)
    | .cond c a b => condW (evalT T c) (wpC P nt ret f a env L T M K) (wpC P nt ret f b env L T M K)
    | .block id c => wpC P nt ret f c ((id, L) :: env) L T M (fun e T' M' => match e with
      | .exit i => match Nat.beq i id with
        | true => K .normal T' M'
        | false => K (.exit i) T' M'
      | e => K e T' M')
    | .loop c => loopW (fun next xs M' => wpC P nt ret f c env (liveC ret f env c (liveC ret f env c 0)) (headT T (bitsOf (asgC f c) nt) (bitsOf (asgC f c &&& liveC ret f env c (liveC ret f env c 0)) nt) xs) M'
        (fun e T' M' => match e with
          | .normal => next (getL T' (bitsOf (asgC f c &&& liveC ret f env c (liveC ret f env c 0)) nt)) M'
          | e => K e T' M'))
      (getL T (bitsOf (asgC f c &&& liveC ret f env c (liveC ret f env c 0)) nt)) M
    | .exit id => K (.exit id) T M
    | .ret => K .ret T M
    | _ => False

def resV (P : Program) (T : Tree AV) (M : RM) (r : ResultVar) (K : AV → Prop) : Prop :=
  match r with
  | .tmp t => K ((T.get t).getD .top)
  | .cell a t => match isAggT P t with
    | some false => load1 M ((T.get a).getD .top) K
    | some true => match sizeT P t with
      | some n => loadN M ((T.get a).getD .top) n K
      | none => False
    | none => False
def resL (P : Program) (T : Tree AV) (M : RM) : List ResultVar → (List AV → Prop) → Prop
  | [], K => K []
  | r :: rs, K => resV P T M r (fun v => resL P T M rs (fun vs => K (v :: vs)))
def resK (Q : PostV) (M : RM) : List AV → Prop
  | [v] => Q v M
  | vs => Q (.tup vs) M

def retBits : List ResultVar → Nat
  | [] => 0
  | .tmp t :: rs => 2 ^ t ||| retBits rs
  | .cell a _ :: rs => 2 ^ a ||| retBits rs

def wpBody (P : Program) (fn : Func) (c : Code) (args : List AV) (M : RM) (Q : PostV) : Prop :=
  wpC P (args.length + (fn.ntmps - args.length)) (retBits fn.results.toList) 1000 c [] 0 (Tree.ofList args 0 .leaf) M
    (fun e T M' => match e with
      | .exit _ => False
      | _ => resL P T M' fn.results.toList (resK Q M'))

/-! ### it is sound -/
section
variable {P : Program} {nt ret : Nat}

def PostR (P : Program) (nt : Nat) (M0 : RM) (ρ0 : Ren) (w0 : World) (T : Tree AV) (asg : Nat) (K : K3) (e : Exit) (a : Act) (w : World) : Prop :=
  ∃ x T' M' ρ', e = exOf x ∧ After P M0 ρ0 w0 M' ρ' w ∧ ARel ρ' nt T' a ∧ (∀ t, Nat.testBit asg t = false → T'.get t = T.get t) ∧ K x T' M'

theorem getL_get {T : Tree AV} : ∀ (vs : List Nat) (i : Nat), nthD (getL T vs) i = match vs[i]? with | some t => (T.get t).getD .top | none => .top
  | [], i => by simp [getL, nthD]
  | t :: vs, 0 => by simp [getL, nthD]
  | t :: vs, i + 1 => by simp [getL, nthD, getL_get vs i]

theorem killL_get : ∀ (asg : List Nat) (T : Tree AV) (t : Nat), (killL T asg).get t = if t ∈ asg then some .top else T.get t
  | [], T, t => by simp [killL]
  | d :: asg, T, t => by
    simp only [killL, killL_get asg, Tree.get_set, List.mem_cons]
    by_cases h1 : t ∈ asg
    · simp [h1]
    · by_cases h2 : t = d <;> simp [h1, h2]

theorem setL_get : ∀ (vs : List Nat) (T : Tree AV) (xs : List AV) (i t : Nat), (t ∉ vs ∧ (setL T xs i vs).get t = T.get t) ∨ ∃ j, vs[j]? = some t ∧ (setL T xs i vs).get t = some (nthD xs (i + j))
  | [], T, xs, i, t => .inl ⟨by simp, rfl⟩
  | d :: vs, T, xs, i, t => by
    simp only [setL]
    rcases setL_get vs (T.set d (nthD xs i)) xs (i + 1) t with ⟨h1, h2⟩ | ⟨j, h1, h2⟩
    · rw [Tree.get_set] at h2
      by_cases e : t = d
      · rw [if_pos e] at h2
        exact .inr ⟨0, by simp [e], h2⟩
      · rw [if_neg e] at h2
        exact .inl ⟨by simp [e, h1], h2⟩
    · exact .inr ⟨j + 1, by simpa using h1, by rw [h2]; congr 2; omega⟩

theorem bitsGo_mem {m : Nat} : ∀ (n i t : Nat), t ∈ bitsGo m i n ↔ i ≤ t ∧ t < i + n ∧ Nat.testBit m t = true
  | 0, i, t => by simp [bitsGo]; omega
  | n + 1, i, t => by
    simp only [bitsGo]
    split
    · rename_i h
      rw [List.mem_cons, bitsGo_mem n (i + 1) t]
      constructor
      · rintro (rfl | ⟨a, b, c⟩)
        · exact ⟨Nat.le_refl _, by omega, h⟩
        · exact ⟨by omega, by omega, c⟩
      · rintro ⟨a, b, c⟩
        by_cases e : t = i
        · exact .inl e
        · exact .inr ⟨by omega, by omega, c⟩
    · rename_i h
      rw [bitsGo_mem n (i + 1) t]
      constructor
      · rintro ⟨a, b, c⟩; exact ⟨by omega, by omega, c⟩
      · rintro ⟨a, b, c⟩
        have : t ≠ i := fun e => by subst e; rw [h] at c; cases c
        exact ⟨by omega, by omega, c⟩
theorem bitsOf_mem {m n t : Nat} : t ∈ bitsOf m n ↔ t < n ∧ Nat.testBit m t = true := by
  unfold bitsOf; rw [bitsGo_mem]; simp

/-- At a join. -/
theorem headT_rel {ρ : Ren} {T T' : Tree AV} {a : Act} {asg : Nat} {vs : List Nat} (h : ARel ρ nt T' a) (hge : ∀ t, nt ≤ t → VRel ρ ((T.get t).getD .top) undef) (hk : ∀ t, Nat.testBit asg t = false → T'.get t = T.get t) : ARel ρ nt (headT T (bitsOf asg nt) vs (getL T' vs)) a := by
  refine ⟨h.size, fun t => ?_, h.defers⟩
  unfold headT
  rcases setL_get vs (killL T (bitsOf asg nt)) (getL T' vs) 0 t with ⟨_, h2⟩ | ⟨j, h1, h2⟩
  · rw [h2, killL_get]
    split
    · exact .top _
    · rename_i hm
      by_cases hb : Nat.testBit asg t = true
      · have hge' : nt ≤ t := by
          rcases Nat.lt_or_ge t nt with hlt | hge
          · exact absurd (bitsOf_mem.2 ⟨hlt, hb⟩) hm
          · exact hge
        have hv : a.tmps.getD t undef = undef := by
          rw [Array.getD_eq_getD_getElem?, Array.getElem?_eq_none (by rw [h.size]; exact hge')]; rfl
        rw [hv]; exact hge t hge'
      · rw [← hk t (by simpa using hb)]
        exact h.val t
  · rw [h2, Nat.zero_add, getL_get, h1]
    exact h.val t

theorem headT_keep {T : Tree AV} {asg : Nat} {vs : List Nat} {xs : List AV} (hvs : ∀ t ∈ vs, Nat.testBit asg t = true) (t : Nat) (h : Nat.testBit asg t = false) : (headT T (bitsOf asg nt) vs xs).get t = T.get t := by
  unfold headT
  rcases setL_get vs (killL T (bitsOf asg nt)) xs 0 t with ⟨_, h2⟩ | ⟨j, h1, h2⟩
  · rw [h2, killL_get, if_neg]
    intro hm
    rw [(bitsOf_mem.1 hm).2] at h; cases h
  · have := hvs t (List.mem_of_getElem? h1)
    rw [h] at this; cases this

theorem ARel.ge {ρ : Ren} {T : Tree AV} {a : Act} (h : ARel ρ nt T a) : ∀ t, nt ≤ t → VRel ρ ((T.get t).getD .top) undef := by
  intro t ht
  have := h.val t
  rw [Array.getD_eq_getD_getElem?, Array.getElem?_eq_none (by rw [h.size]; exact ht)] at this
  exact this

theorem rounds_mono {c : Code} {Q : Exit → Act → World → Prop} : ∀ {n m : Nat} {a : Act} {w : World}, n ≤ m → Code.rounds P c Q n a w → Code.rounds P c Q m a w
  | 0, _, _, _, _, h => h.elim
  | n + 1, m + 1, a, w, hle, h => by
    rw [rounds_succ] at h ⊢
    refine wp_mono h fun e a' w' hp => ?_
    cases e with
    | normal => exact rounds_mono (Nat.le_of_succ_le_succ hle) hp
    | exit id => exact hp
    | ret => exact hp
    | goto l => exact hp
    | panic c => exact hp
    | outgrown => exact hp

theorem asgOps_dst {t : Nat} : ∀ (l : List Oper), Nat.testBit (asgOps l) t = false → ∀ o ∈ l, o.dst ≠ some t
  | [], _, o, ho => by cases ho
  | x :: l, h, o, ho => by
    simp only [asgOps, Nat.testBit_or, Bool.or_eq_false_iff] at h
    rcases List.mem_cons.1 ho with rfl | ho
    · intro e
      rw [e] at h
      simp [dstBit, Nat.testBit_two_pow] at h
    · exact asgOps_dst l h.2 o ho

theorem condW_rel {ρ : Ren} {x : AV} {u : Value} {p q : Prop} (h : condW x p q) (hx : VRel ρ x u) : ∃ b, u = .bool b ∧ (b = true → p) ∧ (b = false → q) := by
  unfold condW at h
  split at h <;> first | (cases h; done) | skip
  rename_i b
  exact ⟨b, (sc_inv hx).1, h.1, h.2⟩

theorem wpC_sound (hP : POk P) : ∀ (f : Nat) (c : Code) (env : List (Nat × Nat)) (L : Nat) (T : Tree AV) (M : RM) (K : K3), wpC P nt ret f c env L T M K →
    ∀ (M0 : RM) (ρ0 : Ren) (w0 : World) (ρ : Ren) (a : Act) (w : World), After P M0 ρ0 w0 M ρ w → ARel ρ nt T a → c.wp P (PostR P nt M0 ρ0 w0 T (asgC f c) K) a w := by
  intro f
  induction f with
  | zero => intro c env L T M K h; exact h.elim
  | succ f ih =>
    intro c env L T M K h M0 ρ0 w0 ρ a w hM hA
    cases c with
    | skip => exact wp_skip ⟨.normal, T, M, ρ, rfl, hM, hA, fun _ _ => rfl, h⟩
    | region id ops d =>
      cases d with
      | false =>
        refine wp_region ?_
        have := opsW_sound (nt := nt) hP (ops := ops) (Q := PostR P nt M0 ρ0 w0 T (asgC (f + 1) (.region id ops false)) K) (K := fun T' M' => K .normal T' M') (M0 := M0) (ρ0 := ρ0) (w0 := w0) (T0 := T)
          (fun T' M' ρ' a' w' k1 k2 k3 k4 => ⟨.normal, T', M', ρ', rfl, k1, k2, fun t ht => k4 t (asgOps_dst _ ht), k3⟩) ops.toList 0 (by simp) hA hM (fun _ _ => rfl) h
        rw [Array.length_toList, ← List.range_eq_range'] at this
        exact this
      | true =>
        exact drawW_sound (nt := nt) (T := T) hP hM hA (fun T' M' ρ' a' w' k1 k2 k3 k4 => ⟨.normal, T', M', ρ', rfl, k1, k2, fun t ht => k4 t (asgOps_dst _ ht), k3⟩) h
    | seq c1 c2 =>
      simp only [wpC] at h
      refine wp_seq ?_
      split at h
      · refine wp_mono (ih c1 _ _ _ _ _ h M0 ρ0 w0 ρ a w hM hA) fun e a' w' hp => ?_
        obtain ⟨x, T1, M1, ρ1, rfl, k1, k2, k3, k4⟩ := hp
        cases x with
        | normal =>
          refine wp_mono (ih c2 _ _ _ _ _ k4 M0 ρ0 w0 ρ1 a' w' k1 k2) fun e a2 w2 hp => ?_
          obtain ⟨x, T2, M2, ρ2, he, q1, q2, q3, q4⟩ := hp
          exact ⟨x, T2, M2, ρ2, he, q1, q2, fun t ht => by
            simp only [asgC, Nat.testBit_or, Bool.or_eq_false_iff] at ht
            rw [q3 t ht.2, k3 t ht.1], q4⟩
        | exit i => exact ⟨.exit i, T1, M1, ρ1, rfl, k1, k2, fun t ht => by
            simp only [asgC, Nat.testBit_or, Bool.or_eq_false_iff] at ht
            exact k3 t ht.1, k4⟩
        | ret => exact ⟨.ret, T1, M1, ρ1, rfl, k1, k2, fun t ht => by
            simp only [asgC, Nat.testBit_or, Bool.or_eq_false_iff] at ht
            exact k3 t ht.1, k4⟩
      · unfold joinW at h
        refine wp_mono (ih c1 _ _ _ _ _ h M0 ρ0 w0 ρ a w hM hA) fun e a' w' hp => ?_
        obtain ⟨x, T1, M1, ρ1, rfl, k1, k2, k3, k4⟩ := hp
        have hge : ∀ t, nt ≤ t → VRel ρ1 ((T.get t).getD .top) undef := fun t ht => by
          have h1 := k2.ge t ht
          by_cases hb : Nat.testBit (asgC f c1) t = false
          · rw [k3 t hb] at h1; exact h1
          · have h0 := hA.ge t ht
            have hu : ∀ (ρ ρ' : Ren) (x : AV), VRel ρ x undef → VRel ρ' x undef := by
              intro ρ ρ' x hx
              unfold undef at hx ⊢
              cases hx with
              | top => exact .top _
              | sc v p => exact .sc _ p
              | tup xs vs a => cases a; exact .tup _ _ .nil
            exact hu _ _ _ h0
        cases x with
        | normal =>
          refine wp_mono (ih c2 _ _ _ _ _ k4 M0 ρ0 w0 ρ1 a' w' k1 (headT_rel k2 hge k3)) fun e a2 w2 hp => ?_
          obtain ⟨x, T2, M2, ρ2, he, q1, q2, q3, q4⟩ := hp
          refine ⟨x, T2, M2, ρ2, he, q1, q2, fun t ht => ?_, q4⟩
          simp only [asgC, Nat.testBit_or, Bool.or_eq_false_iff] at ht
          rw [q3 t ht.2]
          refine headT_keep (fun t' ht' => ?_) t ht.1
          have := (bitsOf_mem.1 ht').2
          rw [Nat.testBit_and, Bool.and_eq_true] at this
          exact this.1
        | exit i => exact ⟨.exit i, T1, M1, ρ1, rfl, k1, k2, fun t ht => by
            simp only [asgC, Nat.testBit_or, Bool.or_eq_false_iff] at ht
            exact k3 t ht.1, k4⟩
        | ret => exact ⟨.ret, T1, M1, ρ1, rfl, k1, k2, fun t ht => by
            simp only [asgC, Nat.testBit_or, Bool.or_eq_false_iff] at ht
            exact k3 t ht.1, k4⟩
    | cond cnd c1 c2 =>
      simp only [wpC] at h
      obtain ⟨b, hb, h1, h2⟩ := condW_rel h (evalT_rel hA cnd)
      cases b with
      | true =>
        refine wp_cond_true hb (wp_mono (ih c1 _ _ _ _ _ (h1 rfl) M0 ρ0 w0 ρ a w hM hA) fun e a' w' hp => ?_)
        obtain ⟨x, T1, M1, ρ1, he, k1, k2, k3, k4⟩ := hp
        exact ⟨x, T1, M1, ρ1, he, k1, k2, fun t ht => by
            simp only [asgC, Nat.testBit_or, Bool.or_eq_false_iff] at ht
            exact k3 t ht.1, k4⟩
      | false =>
        refine wp_cond_false hb (wp_mono (ih c2 _ _ _ _ _ (h2 rfl) M0 ρ0 w0 ρ a w hM hA) fun e a' w' hp => ?_)
        obtain ⟨x, T1, M1, ρ1, he, k1, k2, k3, k4⟩ := hp
        exact ⟨x, T1, M1, ρ1, he, k1, k2, fun t ht => by
            simp only [asgC, Nat.testBit_or, Bool.or_eq_false_iff] at ht
            exact k3 t ht.2, k4⟩
    | block id c1 =>
      simp only [wpC] at h
      refine wp_block (wp_mono (ih c1 _ _ _ _ _ h M0 ρ0 w0 ρ a w hM hA) fun e a' w' hp => ?_)
      obtain ⟨x, T1, M1, ρ1, rfl, k1, k2, k3, k4⟩ := hp
      cases x with
      | normal => exact ⟨.normal, T1, M1, ρ1, rfl, k1, k2, k3, k4⟩
      | ret => exact ⟨.ret, T1, M1, ρ1, rfl, k1, k2, k3, k4⟩
      | exit i =>
        simp only at k4
        split at k4
        · rename_i he
          have he := beq_t he
          subst he
          simp only [exOf, Exit.inBlock, if_true]
          exact ⟨.normal, T1, M1, ρ1, rfl, k1, k2, k3, k4⟩
        · rename_i he
          have he := beq_f he
          simp only [exOf, Exit.inBlock, if_neg he]
          exact ⟨.exit i, T1, M1, ρ1, rfl, k1, k2, k3, k4⟩
    | loop c1 =>
      simp only [wpC] at h
      obtain ⟨I, n, hI, hbody⟩ := h
      have hvs : ∀ t ∈ bitsOf (asgC f c1 &&& liveC ret f env c1 (liveC ret f env c1 0)) nt, Nat.testBit (asgC f c1) t = true := fun t' ht' => by
        have := (bitsOf_mem.1 ht').2
        rw [Nat.testBit_and, Bool.and_eq_true] at this
        exact this.1
      generalize hv : bitsOf (asgC f c1 &&& liveC ret f env c1 (liveC ret f env c1 0)) nt = vs at hI hbody hvs
      have hu : ∀ (ρ ρ' : Ren) (x : AV), VRel ρ x undef → VRel ρ' x undef := by
        intro ρ ρ' x hx
        unfold undef at hx ⊢
        cases hx with
        | top => exact .top _
        | sc v p => exact .sc _ p
        | tup xs vs a => cases a; exact .tup _ _ .nil
      have hge : ∀ (ρ1 : Ren) t, nt ≤ t → VRel ρ1 ((T.get t).getD .top) undef := fun ρ1 t ht => hu _ _ _ (hA.ge t ht)
      have key : ∀ (m : Nat) (ys : List AV) (M1 : RM) (ρ1 : Ren) (a1 : Act) (w1 : World), I m ys M1 → After P M0 ρ0 w0 M1 ρ1 w1 → ARel ρ1 nt (headT T (bitsOf (asgC f c1) nt) vs ys) a1 →
          Code.rounds P c1 (PostR P nt M0 ρ0 w0 T (asgC (f + 1) (.loop c1)) K) (m + 1) a1 w1 := by
        intro m
        induction m using Nat.strongRecOn with
        | _ m ihm =>
          intro ys M1 ρ1 a1 w1 hIm hM1 hA1
          rw [rounds_succ]
          refine wp_mono (ih c1 _ _ _ _ _ (hbody m ys M1 hIm) M0 ρ0 w0 ρ1 a1 w1 hM1 hA1) fun e a' w' hp => ?_
          obtain ⟨x, T2, M2, ρ2, rfl, k1, k2, k3, k4⟩ := hp
          have k3' : ∀ t, Nat.testBit (asgC f c1) t = false → T2.get t = T.get t := fun t ht => by rw [k3 t ht]; exact headT_keep hvs t ht
          cases x with
          | normal =>
            obtain ⟨m', hlt, hI'⟩ := k4
            exact rounds_mono (by omega) (ihm m' hlt _ M2 ρ2 a' w' hI' k1 (headT_rel k2 (hge ρ2) k3'))
          | exit i => exact ⟨.exit i, T2, M2, ρ2, rfl, k1, k2, k3', k4⟩
          | ret => exact ⟨.ret, T2, M2, ρ2, rfl, k1, k2, k3', k4⟩
      exact wp_loop_rounds _ (key n _ M ρ a w hI hM (headT_rel hA (hge ρ) fun _ _ => rfl))
    | exit id => exact wp_exit ⟨.exit id, T, M, ρ, rfl, hM, hA, fun _ _ => rfl, h⟩
    | ret => exact wp_ret ⟨.ret, T, M, ρ, rfl, hM, hA, fun _ _ => rfl, h⟩
    | rangeFunc => simp [wpC] at h
    | scope => simp [wpC] at h
    | label => simp [wpC] at h
    | goto => simp [wpC] at h
    | refuse => simp [wpC] at h

theorem resV_sound {ρ : Ren} {T : Tree AV} {M : RM} {a : Act} {w : World} (hA : ARel ρ nt T a) (hw : MRel P ρ M w) {r : ResultVar} {K : AV → Prop} (h : resV P T M r K) :
    ∃ v v', (resFn a.tmps r).run P w = .ok v' w ∧ VRel ρ v v' ∧ K v := by
  cases r with
  | tmp t => exact ⟨_, _, rfl, hA.val t, h⟩
  | cell x t =>
    simp only [resV] at h
    have hv := hA.val x
    split at h <;> first | (cases h; done) | skip
    · rename_i ha
      obtain ⟨b, p, v, hx, hl, hk⟩ := h
      rw [hx] at hv
      obtain ⟨i, hb, hc⟩ := ptr_inv hv
      obtain ⟨u, hu, hcell⟩ := loads_one hw hb hl
      refine ⟨v, u, ?_, hu, hk⟩
      simp only [resFn, hc, asAddr, Sem.run_bind, Sem.run_pure, Result.andThen_ok, loadVar, isAggT_run ha, Bool.false_eq_true, if_false, load, Sem.run, hcell]
    · rename_i ha
      split at h <;> first | (cases h; done) | skip
      rename_i n hs
      obtain ⟨b, p, xs, hx, hl, hk⟩ := h
      rw [hx] at hv
      obtain ⟨i, hb, hc⟩ := ptr_inv hv
      obtain ⟨vs, hr, hlen, _, hrun⟩ := RM.run_loads (P := P) hw hb hl
      exact ⟨.agg xs, .agg ⟨vs⟩, by simp only [resFn, hc, asAddr, Sem.run_bind, Sem.run_pure, Result.andThen_ok, loadVar, isAggT_run ha, if_true, sizeT_run hs, hrun], .agg _ _ hr, hk⟩

theorem resL_sound {ρ : Ren} {T : Tree AV} {M : RM} {a : Act} {w : World} (hA : ARel ρ nt T a) (hw : MRel P ρ M w) : ∀ (rs : List ResultVar) (K : List AV → Prop), resL P T M rs K →
    ∃ vs us, (rs.mapM (resFn a.tmps)).run P w = .ok us w ∧ LRel ρ vs us ∧ K vs
  | [], K, h => ⟨[], [], by simp, .nil, h⟩
  | r :: rs, K, h => by
    obtain ⟨v, v', h1, h2, h3⟩ := resV_sound hA hw h
    obtain ⟨vs, us, h4, h5, h6⟩ := resL_sound hA hw rs _ h3
    refine ⟨v :: vs, v' :: us, ?_, .cons _ _ _ _ h2 h5, h6⟩
    simp only [List.mapM_cons, Sem.run_bind, h1, Result.andThen_ok, h4, Sem.run_pure]

theorem callsR_of_body (hP : POk P) {f : FuncId} {fn : Func} {c : Code} {args : List AV} {M : RM} {Q : PostV} (hfn : P.funcs[f]? = some fn) (hbody : fn.body = some c) (h : wpBody P fn c args M Q) : CallsR P f args M Q := by
  refine ⟨⟨fn, c, hfn, hbody⟩, fun ρ w us hargs hw => ?_⟩
  have hlen := hargs.length
  have hA : ARel ρ (args.length + (fn.ntmps - args.length)) (Tree.ofList args 0 .leaf) { tmps := ⟨us⟩ ++ Array.replicate (fn.ntmps - (⟨us⟩ : Array Value).size) undef, defers := [] } := by
    refine ⟨by simp [hlen], fun t => ?_, rfl⟩
    rw [Tree.get_ofList]
    by_cases ht : t < args.length
    · rw [if_pos (by omega), Nat.sub_zero]
      obtain ⟨u, hu, hv⟩ := hargs.get (n := t) (x := args[t]) (by simp [ht])
      rw [List.getElem?_eq_getElem ht]
      simp only [Option.getD_some]
      have : ((⟨us⟩ : Array Value) ++ Array.replicate (fn.ntmps - (⟨us⟩ : Array Value).size) undef).getD t undef = u := by
        rw [Array.getD_eq_getD_getElem?, Array.getElem?_append_left (by simp; omega)]
        simp [hu]
      rw [this]; exact hv
    · rw [if_neg (by omega)]
      exact .top _
  refine calls_of_wp hfn hbody (wp_mono (wpC_sound hP 1000 c [] 0 _ M _ h M ρ w ρ _ w (After.refl hw) hA) fun e a w' hp => ?_)
  obtain ⟨x, T', M', ρ', rfl, k1, k2, k3, k4⟩ := hp
  have key : (∃ vs us, (fn.results.toList.mapM (resFn a.tmps)).run P w' = .ok us w' ∧ LRel ρ' vs us ∧ resK Q M' vs) →
      a.defers = [] ∧ ∃ v, (results fn a.tmps).run P w' = .ok v w' ∧ ∃ v' v_1 M'_1 ρ'_1, Ending.returned v = .returned v' ∧ After P M ρ w M'_1 ρ'_1 w' ∧ VRel ρ'_1 v_1 v' ∧ Q v_1 M'_1 := by
    rintro ⟨vs, us, h1, h2, h3⟩
    have hres : (results fn a.tmps).run P w' = .ok (if h : (⟨us⟩ : Array Value).size = 1 then (⟨us⟩ : Array Value)[0] else .tuple ⟨us⟩) w' := by
      have e : results fn a.tmps = (fn.results.mapM (resFn a.tmps) >>= fun vs => pure (if h : vs.size = 1 then vs[0] else .tuple vs)) := rfl
      rw [e, Array.mapM_eq_mapM_toList]
      simp only [Sem.run_bind, Sem.run_map, h1, Result.andThen_ok, Sem.run_pure]
    refine ⟨k2.defers, _, hres, ?_⟩
    cases h2 with
    | nil => exact ⟨_, _, M', ρ', rfl, k1, .tup _ _ .nil, h3⟩
    | cons x v xs vs2 hv htl =>
      cases htl with
      | nil => exact ⟨_, x, M', ρ', rfl, k1, hv, h3⟩
      | cons y u ys us2 hu htl2 => exact ⟨_, _, M', ρ', rfl, k1, .tup _ _ (.cons _ _ _ _ hv (.cons _ _ _ _ hu htl2)), h3⟩
  cases x with
  | normal => exact key (resL_sound k2 k1.rel _ _ k4)
  | ret => exact key (resL_sound k2 k1.rel _ _ k4)
  | exit id => exact k4.elim

abbrev CallT := List AV → RM → PostV → Prop

def wpBodyO (P : Program) (fn : Func) (args : List AV) (M : RM) (Q : PostV) : Prop :=
  match fn.body with
  | some c => wpBody P fn c args M Q
  | none => False

theorem callsR_of (hP : POk P) {f : FuncId} {fn : Func} {args : List AV} {M : RM} {Q : PostV} (hfn : P.funcs[f]? = some fn) (h : wpBodyO P fn args M Q) : CallsR P f args M Q := by
  unfold wpBodyO at h
  split at h
  · rename_i c hc; exact callsR_of_body hP hfn hc h
  · cases h
end
end Go.Ab
