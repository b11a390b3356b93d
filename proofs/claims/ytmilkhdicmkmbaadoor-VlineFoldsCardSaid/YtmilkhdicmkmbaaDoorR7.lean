/- A region that draws its order, over data that is not known. By an AI agent. -/
import Derived.Test.YtmilkhdicmkmbaaDoorR6
set_option linter.unusedVariables false
set_option linter.unusedSimpArgs false
namespace Go.Ab
open Go Go.RowKit

structure RSM where
  vals : Tree AV
  M : RM
  bids : Tree (Option Nat)

abbrev KR := AV → RM → Option Nat → Prop

def guardOf (ops : Array Oper) (wr : Tree Nat) (vals : Tree AV) (r : Row) : Option (Option (AV × Bool)) :=
  match r.o.guard with
  | none => some none
  | some (j, want) => match (ops[j]?).bind (·.dst) with
    | none => none
    | some d => match Nat.testBit r.m j, wr.get d with
      | true, some j' => match Nat.beq j' j with
        | true => some (some ((vals.get j).getD .top, want))
        | false => none
      | _, _ => none

abbrev guardM (x : AV) (want : Bool) (f g : PostV → Prop) (k : PostV) : Prop := guardW x want f g k
abbrev guardK (x : AV) (want : Bool) (f g : KR → Prop) (k : KR) : Prop := guardW x want f g k
abbrev guardP (x : AV) (want : Bool) (f g : Prop → Prop) (k : Prop) : Prop := guardW x want f g k

def guardS {α : Type} (g : Option (Option (AV × Bool))) (f skip : α → Prop) (k : α) : Prop :=
  match g with
  | none => False
  | some none => f k
  | some (some (x, want)) => guardW x want f skip k

def newR (x : RB) (mk : Nat → AV) (M : RM) (k : KR) : Prop := k (mk M.next) (M.push x) (some M.next)
/-- The block of a row that was done holds what it would hold now. -/
def sameB (b : Option Nat) (M : RM) (x : RB) (mk : Nat → AV) (v : AV) : Prop :=
  match b with
  | some b => M.heap b = some x ∧ mk b = v
  | none => False

def valR (P : Program) (r : Row) (e : Operand → AV) (M : RM) (k : KR) : Prop :=
  match r.kd with
  | .pure | .read => niceV P r.o e M (fun v => k v M none)
  | .alloc => niceN P r.o e (fun x mk => newR x mk M k)
  | .eff => False

def nonW (P : Program) (ops : Array Oper) (T0 : Tree AV) (wr : Tree Nat) (lev : Nat) : List Row → RSM → (RSM → Prop) → Prop
  | [], s, K => K s
  | r :: rest, s, K => match Nat.beq r.lev lev && !isEff r.kd with
    | false => nonW P ops T0 wr lev rest s K
    | true => guardS (guardOf ops wr s.vals r) (valR P r (envR T0 wr s.vals r.m) s.M) (fun k => k .undef s.M none) (fun v M' b => nonW P ops T0 wr lev rest { vals := s.vals.set r.i v, M := M', bids := s.bids.set r.i b } K)

/-- A row that was done, once more: is its value the same behind the effect? -/
def reRow (P : Program) (ops : Array Oper) (T0 : Tree AV) (wr : Tree Nat) (r : Row) (s : RSM) (K : Prop) : Prop :=
  match r.kd with
  | .read => guardS (guardOf ops wr s.vals r) (fun k => niceV P r.o (envR T0 wr s.vals r.m) s.M (fun v => v = (s.vals.get r.i).getD .top ∧ k)) (fun k => k) K
  | .alloc => guardS (guardOf ops wr s.vals r) (fun k => niceN P r.o (envR T0 wr s.vals r.m) (fun x mk => sameB ((s.bids.get r.i).getD none) s.M x mk ((s.vals.get r.i).getD .top) ∧ k)) (fun k => k) K
  | _ => K

def reW (P : Program) (ops : Array Oper) (T0 : Tree AV) (ri : RI) (lev : Nat) : List Row → RSM → Prop → Prop
  | [], _, K => K
  | r :: rest, s, K => match Nat.ble r.lev lev && !isEff r.kd && aliveAt ri.ms ri.es (lev + 1) r with
    | false => reW P ops T0 ri lev rest s K
    | true => reRow P ops T0 ri.wr r s (reW P ops T0 ri lev rest s K)

def stageW (P : Program) (ops : Array Oper) (T0 : Tree AV) (ri : RI) : Nat → List Nat → RSM → (RSM → Prop) → Prop
  | lev, [], s, K => nonW P ops T0 ri.wr lev ri.rows s K
  | lev, x :: rest, s, K => nonW P ops T0 ri.wr lev ri.rows s (fun s1 => match nth ri.rows x with
    | none => False
    | some r => guardS (guardOf ops ri.wr s1.vals r) (niceE P r.o (envR T0 ri.wr s1.vals r.m) s1.M) (fun k => k .undef s1.M)
        (fun v M' => reW P ops T0 ri lev ri.rows { vals := s1.vals.set x v, M := M', bids := s1.bids } (stageW P ops T0 ri (lev + 1) rest { vals := s1.vals.set x v, M := M', bids := s1.bids } K)))

def drawW (P : Program) (nt : Nat) (ops : Array Oper) (T : Tree AV) (M : RM) (K : Tree AV → RM → Prop) : Prop :=
  match regionInfo P nt ops with
  | none => False
  | some ri => match ri.rows.all (slotsOk ri) with
    | false => False
    | true => stageW P ops T ri 0 ri.es { vals := .leaf, M, bids := .leaf } (fun s => K (finT T s.vals ri.rows) s.M)

/-! ### it is sound -/
def GOn (g : Option (AV × Bool)) : Prop := match g with | none => True | some (x, want) => x = Bo want
def GOff (g : Option (AV × Bool)) : Prop := match g with | none => False | some (x, want) => x = .undef ∨ ∃ b, x = Bo b ∧ b ≠ want

theorem guardS_cases {α : Type} {g : Option (Option (AV × Bool))} {f skip : α → Prop} {k : α} (h : guardS g f skip k) : ∃ g', g = some g' ∧ ((GOn g' ∧ f k) ∨ (GOff g' ∧ skip k)) := by
  unfold guardS at h
  split at h <;> first | (cases h; done) | skip
  · exact ⟨none, rfl, .inl ⟨trivial, h⟩⟩
  · rename_i x want
    refine ⟨_, rfl, ?_⟩
    unfold guardW at h
    split at h <;> first | (cases h; done) | skip
    · split at h
      · rename_i e; subst e; exact .inl ⟨rfl, h⟩
      · rename_i b e; exact .inr ⟨.inr ⟨b, rfl, e⟩, h⟩
    · exact .inr ⟨.inl rfl, h⟩

section
variable {P : Program} {nt : Nat} {ops : Array Oper} {ri : RI} {T0 : Tree AV}

/-- What is known of a row that was done. -/
def RowOk (P : Program) (ops : Array Oper) (T0 : Tree AV) (wr : Tree Nat) (s : RSM) (r : Row) : Prop :=
  ∃ g, guardOf ops wr s.vals r = some g ∧ ((GOn g ∧ ∃ v, s.vals.get r.i = some v ∧ match r.kd with
    | .pure => ∀ M, GivesR P r.o (envR T0 wr s.vals r.m) M v
    | .read => GivesR P r.o (envR T0 wr s.vals r.m) s.M v
    | .alloc => ∃ x mk b, MakesR P r.o (envR T0 wr s.vals r.m) x mk ∧ s.bids.get r.i = some (some b) ∧ s.M.heap b = some x ∧ mk b = v
    | .eff => False) ∨ (GOff g ∧ s.vals.get r.i = some .undef))

theorem GivesR.sub {o : Oper} {e : Operand → AV} {M M' : RM} {v : AV} (h : GivesR P o e M v) (hs : M.Sub M') : GivesR P o e M' v :=
  fun ρ w c M2 h2 hw he => h ρ w c M2 (hs.trans h2) hw he

/-- The environment looks at what stands ahead alone. -/
theorem envR_same {vals vals' : Tree AV} {wr : Tree Nat} {m : Nat} (h : ∀ j, Nat.testBit m j = true → vals'.get j = vals.get j) : envR T0 wr vals' m = envR T0 wr vals m := by
  funext x
  cases x with
  | tmp t =>
    simp only [envR]
    cases hw : wr.get t with
    | none => rfl
    | some j =>
      simp only
      cases hb : Nat.testBit m j with
      | false => rfl
      | true => simp only [h j hb]
  | const v => rfl
  | global g => rfl
  | func f => rfl

theorem guardOf_same {vals vals' : Tree AV} {wr : Tree Nat} {r : Row} (h : ∀ j, Nat.testBit r.m j = true → vals'.get j = vals.get j) : guardOf ops wr vals' r = guardOf ops wr vals r := by
  unfold guardOf
  split
  · rfl
  · rename_i j want hg
    split
    · rfl
    · split
      · rename_i hb _
        simp only [h j hb]
      · rfl

/-- A row stays known, when nothing that it looks at changes. -/
theorem RowOk.keep {wr : Tree Nat} {s s' : RSM} {r : Row} (h : RowOk P ops T0 wr s r) (hv : ∀ j, Nat.testBit r.m j = true ∨ j = r.i → s'.vals.get j = s.vals.get j) (hb : s'.bids.get r.i = s.bids.get r.i) (hs : s.M.Sub s'.M) : RowOk P ops T0 wr s' r := by
  obtain ⟨g, hg, h⟩ := h
  have hi := hv r.i (.inr rfl)
  have he : envR T0 wr s'.vals r.m = envR T0 wr s.vals r.m := envR_same fun j hj => hv j (.inl hj)
  refine ⟨g, by rw [← hg]; exact guardOf_same fun j hj => hv j (.inl hj), ?_⟩
  rcases h with ⟨hon, v, hvi, hk⟩ | ⟨hoff, hvi⟩
  · refine .inl ⟨hon, v, by rw [hi]; exact hvi, ?_⟩
    rw [he]
    cases hkd : r.kd with
    | pure => rw [hkd] at hk; exact hk
    | read => rw [hkd] at hk; exact hk.sub hs
    | alloc =>
      rw [hkd] at hk
      obtain ⟨x, mk, b, h1, h2, h3, h4⟩ := hk
      exact ⟨x, mk, b, h1, by rw [hb]; exact h2, hs.2 _ _ h3, h4⟩
    | eff => rw [hkd] at hk; exact hk
  · exact .inr ⟨hoff, by rw [hi]; exact hvi⟩

/-- Nothing lies behind the next number. -/
def Fr (M : RM) : Prop := ∀ b, M.next ≤ b → M.heap b = none
theorem Fr.push {M : RM} (h : Fr M) (x : RB) : Fr (M.push x) := by
  intro b hb
  simp only [RM.push] at hb ⊢
  rw [if_neg (by omega)]
  exact h b (by omega)
theorem Fr.sub {M : RM} (h : Fr M) (x : RB) : M.Sub (M.push x) := by
  refine ⟨rfl, fun b y hy => ?_⟩
  simp only [RM.push]
  split
  · rename_i e; subst e; rw [h _ (Nat.le_refl _)] at hy; cases hy
  · exact hy
theorem MRel.fr {ρ : Ren} {M : RM} {w : World} (h : MRel P ρ M w) : Fr M := by
  intro b hb
  have hlo := h.lo_le
  obtain ⟨A, hA⟩ := h
  cases hx : M.heap b with
  | none => rfl
  | some x =>
    rcases hA.blk b x hx with ⟨y, hy, _⟩ | ⟨c, _, hlt, _⟩
    · have := hA.rel.top b y hy
      rw [hA.next] at this; omega
    · omega

theorem makesR_phantom {ρ : Ren} {M : RM} {w : World} {o : Oper} {e : Operand → AV} {x : RB} {mk : Nat → AV} (h : MRel P ρ M w) (hm : MakesR P o e x mk) : MRel P ρ (M.push x) w := by
  obtain ⟨y, _, hle⟩ := hm
  exact h.phantom x y hle

/-- What a pass over the rows of one level comes to. -/
structure Pass (P : Program) (ops : Array Oper) (T0 : Tree AV) (ri : RI) (lev : Nat) (i0 : Nat) (s s' : RSM) : Prop where
  keep : ∀ j, (∀ r, ri.rows[j]? = some r → i0 ≤ j → ¬ (r.lev = lev ∧ isEff r.kd = false)) → s'.vals.get j = s.vals.get j ∧ s'.bids.get j = s.bids.get j
  done : ∀ j r, ri.rows[j]? = some r → i0 ≤ j → r.lev = lev → isEff r.kd = false → RowOk P ops T0 ri.wr s' r
  sub : s.M.Sub s'.M
  fr : Fr s'.M
  rel : ∀ ρ w, MRel P ρ s.M w → MRel P ρ s'.M w
  next : s.M.next ≤ s'.M.next
  bids : ∀ j b, s'.bids.get j = some (some b) → s.bids.get j = some (some b) ∨ (s.M.next ≤ b ∧ b < s'.M.next ∧ i0 ≤ j ∧ ∃ r, ri.rows[j]? = some r)
  bidne : ∀ j1 j2 b, s'.bids.get j1 = some (some b) → s'.bids.get j2 = some (some b) → s.M.next ≤ b → j1 = j2

theorem nonW_spec (ht : Tab P nt ops ri) {lev : Nat} {K : RSM → Prop} : ∀ (rows : List Row) (i0 : Nat) (s : RSM), ri.rows.drop i0 = rows → Fr s.M → (∀ j b, s.bids.get j = some (some b) → b < s.M.next) → nonW P ops T0 ri.wr lev rows s K → ∃ s', K s' ∧ Pass P ops T0 ri lev i0 s s'
  | [], i0, s, hd, hf, hbd, h => by
    refine ⟨s, h, fun _ _ => ⟨rfl, rfl⟩, fun j r hr hj => ?_, RM.Sub.refl _, hf, fun _ _ h => h, Nat.le_refl _, fun j b hb => .inl hb, fun j1 j2 b h1 _ hb => absurd (hbd j1 b h1) (by omega)⟩
    have hlen : ri.rows.length ≤ i0 := List.drop_eq_nil_iff.1 hd
    have := (List.getElem?_eq_some_iff.1 hr).1
    omega
  | r :: rows, i0, s, hd, hf, hbd, h => by
    have hri : ri.rows[i0]? = some r := by
      have h0 : (ri.rows.drop i0)[0]? = some r := by rw [hd]; rfl
      rw [List.getElem?_drop] at h0; exact h0
    have hd' : ri.rows.drop (i0 + 1) = rows := by
      rw [← List.drop_drop (i := 1) (j := i0)] <;> rw [hd]; rfl
    obtain ⟨e1, e2, e3, e4, e5⟩ := ht.row hri
    simp only [nonW] at h
    split at h
    · rename_i hk
      obtain ⟨s', hK, hp⟩ := nonW_spec ht rows (i0 + 1) s hd' hf hbd h
      have hne : ¬ (r.lev = lev ∧ isEff r.kd = false) := by
        rintro ⟨a, b⟩
        rw [beq_tt a, b] at hk
        cases hk
      refine ⟨s', hK, fun j hj => hp.keep j fun r' hr' hj' => hj r' hr' (by omega), fun j r' hr' hj hl he => ?_, hp.sub, hp.fr, hp.rel, hp.next, fun j b hb => (hp.bids j b hb).imp id fun ⟨a, b, c, d⟩ => ⟨a, b, by omega, d⟩, hp.bidne⟩
      rcases Nat.lt_or_ge i0 j with hlt | hge
      · exact hp.done j r' hr' hlt hl he
      · have : j = i0 := by omega
        subst this
        rw [hri] at hr'; cases hr'
        exact absurd ⟨hl, he⟩ hne
    · rename_i hk
      simp only [Bool.and_eq_true, Bool.not_eq_true'] at hk
      have hlev := beq_t hk.1
      obtain ⟨g, hg, hcase⟩ := guardS_cases h
      -- whatever the row gives
      have fin : ∀ (v : AV) (M' : RM) (b : Option Nat), s.M.Sub M' → Fr M' → s.M.next ≤ M'.next → (∀ ρ w, MRel P ρ s.M w → MRel P ρ M' w) → (∀ b', b = some b' → s.M.next ≤ b' ∧ b' < M'.next) →
          (∀ s2 : RSM, (∀ j, Nat.testBit r.m j = true → s2.vals.get j = s.vals.get j) → s2.vals.get r.i = some v → s2.bids.get r.i = some b → M'.Sub s2.M → RowOk P ops T0 ri.wr s2 r) →
          nonW P ops T0 ri.wr lev rows { vals := s.vals.set r.i v, M := M', bids := s.bids.set r.i b } K → ∃ s', K s' ∧ Pass P ops T0 ri lev i0 s s' := by
        intro v M' b hsub hfr hnx hrel hb hok h
        obtain ⟨s', hK, hp⟩ := nonW_spec ht rows (i0 + 1) _ hd' hfr (fun j b' hj => by
          rw [Tree.get_set] at hj
          split at hj
          · cases hj; exact (hb b' rfl).2
          · exact Nat.lt_of_lt_of_le (hbd j b' hj) hnx) h
        have hkeepi := hp.keep r.i (fun r' hr' hj' => by omega)
        simp only [Tree.get_set, if_true] at hkeepi
        refine ⟨s', hK, fun j hj => ?_, fun j r' hr' hj hl he => ?_, hsub.trans hp.sub, hp.fr, fun ρ w h => hp.rel ρ w (hrel ρ w h), Nat.le_trans hnx hp.next, fun j b' hb' => ?_, fun j1 j2 b' h1 h2 hb' => ?_⟩
        · have hji : j ≠ r.i := fun e => hj r (by rw [e, e1]; exact hri) (by omega) ⟨hlev, hk.2⟩
          obtain ⟨k1, k2⟩ := hp.keep j fun r' hr' hj' => hj r' hr' (by omega)
          simp only [Tree.get_set, if_neg hji] at k1 k2
          exact ⟨k1, k2⟩
        · rcases Nat.lt_or_ge i0 j with hlt | hge
          · exact hp.done j r' hr' hlt hl he
          · have : j = i0 := by omega
            subst this
            rw [hri] at hr'; cases hr'
            refine hok s' (fun q hq => ?_) hkeepi.1 hkeepi.2 hp.sub
            have hqlt : q < j := by
              have hc : Closed ops.toList (fun i => i < j) := fun i o ho hi e he' hb' => by have := ht.edges i o ho e he' hb'; omega
              exact ht.ahead hc hri (fun e he' hb' => ht.edges j r.o e2 e he' hb') hq
            have hqi : q ≠ r.i := by omega
            have := (hp.keep q fun r' hr' hj' => by omega).1
            rw [this]
            simp only [Tree.get_set, if_neg hqi]
        · rcases hp.bids j b' hb' with k | ⟨k1, k2, k3, k4⟩
          · simp only [Tree.get_set] at k
            split at k
            · rename_i e
              cases k
              obtain ⟨q1, q2⟩ := hb b' rfl
              exact .inr ⟨q1, Nat.lt_of_lt_of_le q2 hp.next, by omega, r, by rw [e, e1]; exact hri⟩
            · exact .inl k
          · simp only at k1
            exact .inr ⟨by omega, k2, by omega, k4⟩
        · rcases Nat.lt_or_ge b' M'.next with hlt | hge
          · have q : ∀ j, s'.bids.get j = some (some b') → j = r.i := by
              intro j hj
              rcases hp.bids j b' hj with k | ⟨k1, _⟩
              · simp only [Tree.get_set] at k
                split at k
                · assumption
                · have := hbd j b' k; omega
              · simp only at k1; omega
            rw [q j1 h1, q j2 h2]
          · exact hp.bidne j1 j2 b' h1 h2 hge
      rcases hcase with ⟨hon, hv⟩ | ⟨hoff, hv⟩
      · unfold valR at hv
        have val : (r.kd = .pure ∨ r.kd = .read) → niceV P r.o (envR T0 ri.wr s.vals r.m) s.M (fun v => nonW P ops T0 ri.wr lev rows { vals := s.vals.set r.i v, M := s.M, bids := s.bids.set r.i none } K) → ∃ s', K s' ∧ Pass P ops T0 ri lev i0 s s' := by
          intro hkd hv
          obtain ⟨v, hgv, hk2⟩ := niceV_sound hv
          refine fin v s.M none (RM.Sub.refl _) hf (Nat.le_refl _) (fun _ _ h => h) (fun b' h => by cases h) (fun s2 q1 q2 q3 q4 => ?_) hk2
          refine ⟨g, by rw [← hg]; exact guardOf_same q1, .inl ⟨hon, v, q2, ?_⟩⟩
          rw [envR_same q1]
          rcases hkd with hkd | hkd
          · rw [hkd]
            rcases hgv with hgv | ⟨hrd, _⟩
            · exact hgv
            · rw [← e5, hkd] at hrd; cases hrd
          · rw [hkd]
            rcases hgv with hgv | ⟨_, hgv⟩
            · exact hgv _
            · exact hgv.sub q4
        split at hv
        · exact val (.inl ‹_›) hv
        · exact val (.inr ‹_›) hv
        · rename_i hkd
          obtain ⟨x, mk, hm, hk2⟩ := niceN_sound hv
          refine fin (mk s.M.next) (s.M.push x) (some s.M.next) (hf.sub x) (hf.push x) (by simp [RM.push]) (fun ρ w h => makesR_phantom h hm) (fun b' h => by cases h; simp [RM.push]) (fun s2 q1 q2 q3 q4 => ?_) hk2
          refine ⟨g, by rw [← hg]; exact guardOf_same q1, .inl ⟨hon, _, q2, ?_⟩⟩
          rw [envR_same q1, hkd]
          exact ⟨x, mk, s.M.next, hm, q3, q4.2 _ _ (by simp [RM.push]), rfl⟩
        · cases hv
      · refine fin .undef s.M none (RM.Sub.refl _) hf (Nat.le_refl _) (fun _ _ h => h) (fun b' h => by cases h) (fun s2 q1 q2 q3 q4 => ?_) hv
        exact ⟨g, by rw [← hg]; exact guardOf_same q1, .inr ⟨hoff, q2⟩⟩
end
end Go.Ab
