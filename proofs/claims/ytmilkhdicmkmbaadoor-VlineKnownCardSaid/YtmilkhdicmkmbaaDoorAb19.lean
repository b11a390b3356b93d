/- Calls that are reckoned once and looked up afterwards. By an AI agent. -/
import Derived.Test.YtmilkhdicmkmbaaDoorAb18
set_option linter.unusedVariables false
set_option linter.unusedSimpArgs false
namespace Go.Ab
open Go Go.RowKit

/-! ### the interpreter with a table -/
def tabA (tab run : CallF) : CallF := fun f args A => match tab f args A with
  | some r => some r
  | none => run f args A

def callT (P : Program) (X : Ext) (tab : CallF) (L : Nat) : Nat → CallF
  | 0, _, _, _ => none
  | n + 1, f, args, A => match has X.split f with
    | true => splitA (bodyA P X L (tabA tab (callT P X tab L n))) f args A
    | false => bodyA P X L (tabA tab (callT P X tab L n)) f args A

/-- The answer to a call: a value that names no block; or a value and the blocks made, from a block number on. -/
inductive Ans where
  | val (v : AV)
  | rows (n : Nat) (v : AV) (bs : List (Nat × Blk)) (n' : Nat)

structure Ent where
  args : List AV
  ans : Ans

def setAll : Tree Blk → List (Nat × Blk) → Tree Blk
  | t, [] => t
  | t, (b, x) :: r => setAll (t.set b x) r

def ansA (A : AW) : Ans → Option (AV × AW)
  | .val v => some (v, A)
  | .rows n v bs n' => match Nat.beq n A.next with
    | true => some (v, { next := n', heap := setAll A.heap bs })
    | false => none

def findE : List Ent → List AV → AW → Option (AV × AW)
  | [], _, _ => none
  | e :: es, args, A => match avsEq e.args args with
    | true => match ansA A e.ans with
      | some r => some r
      | none => findE es args A
    | false => findE es args A

abbrev Table := List (Nat × List Ent)

def tabOf : Table → CallF
  | [], _, _, _ => none
  | (g, es) :: T, f, args, A => match Nat.beq g f with
    | true => match findE es args A with
      | some r => some r
      | none => tabOf T f args A
    | false => tabOf T f args A

/-! ### values that name no block -/
mutual
def flat : AV → Bool
  | .sc _ | .top | .atl _ => true
  | .fn _ xs ys => flats xs && flats ys
  | .ifc _ x => flat x
  | .agg xs | .tup xs => flats xs
  | _ => false
def flats : List AV → Bool
  | [] => true
  | x :: xs => flat x && flats xs
end

mutual
theorem flat_rel {ρ ρ' : Ren} : ∀ (x : AV) {v : Value}, flat x = true → VRel ρ x v → VRel ρ' x v
  | .top, v, _, _ => .top v
  | .atl k, v, _, hr => by cases hr; exact .atl _ _ (by assumption)
  | .sc u, v, _, hr => by cases hr; exact .sc _ (by assumption)
  | .ptr _ _, v, h, _ => by simp [flat] at h
  | .slc _ _ _ _, v, h, _ => by simp [flat] at h
  | .emp _, v, h, _ => by simp [flat] at h
  | .map _, v, h, _ => by simp [flat] at h
  | .fn f xs ys, v, h, hr => by
    simp only [flat, Bool.and_eq_true] at h
    cases hr with
    | fn _ _ _ us vs p a b => exact .fn f xs ys us vs p (flats_rel xs h.1 a) (flats_rel ys h.2 b)
  | .ifc t x, v, h, hr => by
    simp only [flat] at h
    cases hr with
    | ifc _ _ v a => exact .ifc t x v (flat_rel x h a)
  | .agg xs, v, h, hr => by
    simp only [flat] at h
    cases hr with
    | agg _ vs a => exact .agg xs vs (flats_rel xs h a)
  | .tup xs, v, h, hr => by
    simp only [flat] at h
    cases hr with
    | tup _ vs a => exact .tup xs vs (flats_rel xs h a)
theorem flats_rel {ρ ρ' : Ren} : ∀ (xs : List AV) {vs : List Value}, flats xs = true → LRel ρ xs vs → LRel ρ' xs vs
  | [], vs, _, hr => by cases hr; exact .nil
  | x :: xs, vs, h, hr => by
    simp only [flats, Bool.and_eq_true] at h
    cases hr with
    | cons _ v _ vs a b => exact .cons x v xs vs (flat_rel x h.1 a) (flats_rel xs h.2 b)
end

section
variable {P : Program} {X : Ext}

theorem tabA_sound {base : Nat} {tab run : CallF} (ht : CallOk P base tab) (hr : CallOk P base run) : CallOk P base (tabA tab run) := by
  intro f args A v A' h
  unfold tabA at h
  split at h
  · rename_i r hr'
    cases h
    exact ht f args A v A' hr'
  · exact hr f args A v A' h

theorem callT_sound {base : Nat} (hng : XOk P X) (hm : P.follows .mixedOrders = true) {tab : CallF} (ht : CallOk P base tab) (L : Nat) : ∀ n, CallOk P base (callT P X tab L n)
  | 0 => by intro f args A v A' h; simp [callT] at h
  | n + 1 => by
    intro f args A v A' h
    simp only [callT] at h
    split at h
    · exact splitA_sound (bodyA_sound hng hm L (tabA_sound ht (callT_sound hng hm ht L n))) f args A v A' h
    · exact bodyA_sound hng hm L (tabA_sound ht (callT_sound hng hm ht L n)) f args A v A' h

/-- What an entry's answer must be worth. -/
def EntOk (P : Program) (f : Nat) (e : Ent) : Prop :=
  ∀ base A v A', ansA A e.ans = some (v, A') → ∀ (ρ : Ren) (w : World) (us : List Value), LRel ρ e.args us → WRel P base ρ A w → base ≤ w.heap.size →
    Calls P f ⟨us⟩ w fun r w' => ∃ ρ' v', r = .returned v' ∧ Step base A.next ρ w ρ' w' ∧ WRel P base ρ' A' w' ∧ A.next ≤ A'.next ∧ VRel ρ' v v'

def TabOk (P : Program) (T : Table) : Prop := ∀ g ∈ T, ∀ e ∈ g.2, EntOk P g.1 e

theorem findE_sound {base : Nat} {f : Nat} : ∀ (es : List Ent), (∀ e ∈ es, EntOk P f e) → ∀ {args A v A'}, findE es args A = some (v, A') → ∀ (ρ : Ren) (w : World) (us : List Value), LRel ρ args us → WRel P base ρ A w → base ≤ w.heap.size →
    Calls P f ⟨us⟩ w fun r w' => ∃ ρ' v', r = .returned v' ∧ Step base A.next ρ w ρ' w' ∧ WRel P base ρ' A' w' ∧ A.next ≤ A'.next ∧ VRel ρ' v v'
  | [], _, args, A, v, A', h => by simp [findE] at h
  | e :: es, hes, args, A, v, A', h => by
    simp only [findE] at h
    split at h
    · rename_i hq
      have hq := avsEq_eq _ _ hq
      subst hq
      split at h
      · rename_i r hr
        cases h
        exact hes e (List.mem_cons_self ..) base A v A' hr
      · exact findE_sound es (fun e he => hes e (List.mem_cons_of_mem _ he)) h
    · exact findE_sound es (fun e he => hes e (List.mem_cons_of_mem _ he)) h

theorem tabOf_sound {base : Nat} : ∀ (T : Table), TabOk P T → CallOk P base (tabOf T)
  | [], _ => by intro f args A v A' h; simp [tabOf] at h
  | (g, es) :: T, hT => by
    intro f args A v A' h
    have hrest := tabOf_sound (base := base) T (fun g hg => hT g (List.mem_cons_of_mem _ hg))
    simp only [tabOf] at h
    split at h
    · rename_i hq
      have hq := beq_t hq
      subst hq
      split at h
      · rename_i r hr
        cases h
        exact findE_sound es (hT (g, es) (List.mem_cons_self ..)) hr
      · exact hrest g args A v A' h
    · exact hrest f args A v A' h

theorem get_setAll : ∀ (bs : List (Nat × Blk)) (t : Tree Blk) {k : Nat} {x : Blk}, (setAll t bs).get k = some x → (k, x) ∈ bs ∨ t.get k = some x
  | [], t, k, x, h => .inr h
  | (b, y) :: r, t, k, x, h => by
    simp only [setAll] at h
    rcases get_setAll r _ h with h | h
    · exact .inl (List.mem_cons_of_mem _ h)
    · rw [Tree.get_set] at h
      split at h
      · rename_i e
        cases h
        subst e
        exact .inl (List.mem_cons_self ..)
      · exact .inr h

/-! ### the check of an entry -/
def rowsOk (n : Nat) (A : AW) : List (Nat × Blk) → Bool
  | [] => true
  | (b, x) :: r => Nat.ble n b && (match A.heap.get b with
    | some y => blkEq x y
    | none => false) && rowsOk n A r

def entCheck (P : Program) (X : Ext) (tab : CallF) (L n : Nat) (f : Nat) (e : Ent) : Bool :=
  match flats e.args with
  | false => false
  | true => match e.ans with
    | .val v => match flat v, callT P X tab L n f e.args { next := 0, heap := .leaf } with
      | true, some (v', _) => avEq v' v
      | _, _ => false
    | .rows m v bs m' => match callT P X tab L n f e.args { next := m, heap := .leaf } with
      | some (v', A') => avEq v' v && Nat.beq A'.next m' && rowsOk m A' bs
      | none => false

theorem rowsOk_spec {n : Nat} {A : AW} : ∀ (bs : List (Nat × Blk)), rowsOk n A bs = true → ∀ b x, (b, x) ∈ bs → n ≤ b ∧ A.heap.get b = some x
  | [], _, b, x, hm => by cases hm
  | (c, y) :: r, h, b, x, hm => by
    simp only [rowsOk, Bool.and_eq_true] at h
    obtain ⟨⟨h1, h2⟩, h3⟩ := h
    rcases List.mem_cons.1 hm with e | hm
    · cases e
      split at h2
      · rename_i z hz
        refine ⟨ble_t h1, ?_⟩
        rw [hz, blkEq_eq h2]
      · cases h2
    · exact rowsOk_spec r h3 b x hm

theorem WRel.none {P : Program} {base n : Nat} {w : World} : WRel P base (fun _ => none) { next := n, heap := .leaf } w :=
  ⟨fun _ _ h => (by cases h), fun _ _ _ h => (by cases h), fun _ _ _ _ _ _ h => (by cases h), fun _ _ h => (by simp [Tree.get] at h), fun _ _ _ h => (by cases h)⟩

theorem entCheck_sound (hng : XOk P X) (hm : P.follows .mixedOrders = true) {tab : CallF} (ht : ∀ base, CallOk P base tab) {L n f : Nat} {e : Ent} (h : entCheck P X tab L n f e = true) : EntOk P f e := by
  obtain ⟨args, ans⟩ := e
  unfold entCheck at h
  split at h <;> first | (cases h; done) | skip
  rename_i hfl
  dsimp only at hfl h
  intro base A v A' ha ρ w us hargs hw hb
  dsimp only at ha hargs
  have hargs0 : LRel (fun _ => none) args us := flats_rel args hfl hargs
  split at h
  · -- a value alone
    rename_i v0
    split at h <;> first | (cases h; done) | skip
    rename_i v1 A1 hfv hc
    have hv := avEq_eq _ _ h
    subst hv
    simp only [ansA] at ha
    cases ha
    refine (callT_sound hng hm (ht base) L n f _ _ _ _ hc (fun _ => none) w us hargs0 WRel.none hb).mono fun r w' hR => ?_
    obtain ⟨ρ', v', rfl, hst, hwr, hnx, hv⟩ := hR
    have hfr : ∀ c, c < w.heap.size → w'.heap[c]? = w.heap[c]? := fun c hc => hst.frame c hc fun b i hbi => by cases hbi
    refine ⟨ρ, v', rfl, ⟨hst.os, hst.tape, hst.output, hst.size, fun c hc _ => hfr c hc, fun _ _ => rfl, fun b i h => .inl ⟨b, i, h, rfl⟩, hst.low⟩, ⟨fun b i h => ?_, fun b i x h1 h2 => ?_, hw.sep, hw.top, hw.lo⟩, Nat.le_refl _, flat_rel _ hfv hv⟩
    · exact ⟨(hw.dom b i h).1, Nat.lt_of_lt_of_le (hw.dom b i h).2 hst.size⟩
    · rw [hfr _ (hw.dom b i h1).2]
      exact hw.blk b i x h1 h2
  · -- blocks as well
    rename_i m v0 bs m'
    split at h <;> first | (cases h; done) | skip
    rename_i v1 A1 hc
    simp only [Bool.and_eq_true] at h
    obtain ⟨⟨h1, h2⟩, h3⟩ := h
    have hv := avEq_eq _ _ h1
    have h2 := beq_t h2
    subst hv
    subst h2
    simp only [ansA] at ha
    split at ha <;> first | (cases ha; done) | skip
    rename_i hn
    have hn := beq_t hn
    subst hn
    cases ha
    have hrows := rowsOk_spec bs h3
    refine (callT_sound hng hm (ht base) L n f _ _ _ _ hc (fun _ => none) w us hargs0 WRel.none hb).mono fun r w' hR => ?_
    obtain ⟨ρ', v', rfl, hst, hwr, hnx, hv⟩ := hR
    dsimp only at hst hnx
    have hfr : ∀ c, c < w.heap.size → w'.heap[c]? = w.heap[c]? := fun c hc => hst.frame c hc fun b i hbi => by cases hbi
    have hnew : ∀ b i, ρ' b = some i → A.next ≤ b := by
      intro b i hbi
      rcases Nat.lt_or_ge b A.next with h | h
      · rw [hst.ext b h] at hbi; cases hbi
      · exact h
    have hfs : ∀ b i, ρ' b = some i → w.heap.size ≤ i.cb := by
      intro b i hbi
      rcases hst.fresh b i hbi with ⟨_, _, h, _⟩ | h
      · cases h
      · exact h
    let ρ2 : Ren := fun b => if b < A.next then ρ b else ρ' b
    have hlo : ∀ b, b < A.next → ρ2 b = ρ b := fun b h => by simp [ρ2, h]
    have hhi : ∀ b, A.next ≤ b → ρ2 b = ρ' b := fun b h => by simp only [ρ2]; rw [if_neg (by omega)]
    have hle1 : ρ.le ρ2 := fun b i h => by rw [hlo b (hw.dom b i h).1]; exact h
    have hle2 : ρ'.le ρ2 := fun b i h => by rw [hhi b (hnew b i h)]; exact h
    have hcase : ∀ b i, ρ2 b = some i → (b < A.next ∧ ρ b = some i) ∨ (A.next ≤ b ∧ ρ' b = some i) := by
      intro b i h
      rcases Nat.lt_or_ge b A.next with h' | h'
      · rw [hlo b h'] at h; exact .inl ⟨h', h⟩
      · rw [hhi b h'] at h; exact .inr ⟨h', h⟩
    have hget : ∀ b x, (setAll A.heap bs).get b = some x → (b < A.next ∧ A.heap.get b = some x) ∨ (A.next ≤ b ∧ A1.heap.get b = some x) := by
      intro b x h
      rcases get_setAll bs _ h with h | h
      · exact .inr (hrows b x h)
      · exact .inl ⟨hw.top b x h, h⟩
    refine ⟨ρ2, v', rfl, ⟨hst.os, hst.tape, hst.output, hst.size, fun c hc _ => hfr c hc, fun b h => hlo b h, fun b i h => ?_, hst.low⟩, ⟨fun b i h => ?_, fun b i x h1 h2 => ?_, fun b b' i i' x x' hb hb' hx hx' he => ?_, fun b x h => ?_, fun b i x h1 h2 => ?_⟩, hnx, hv.mono hle2⟩
    · rcases hcase b i h with ⟨_, h⟩ | ⟨_, h⟩
      · exact .inl ⟨b, i, h, rfl⟩
      · exact .inr (hfs b i h)
    · rcases hcase b i h with ⟨_, h⟩ | ⟨_, h⟩
      · exact ⟨Nat.lt_of_lt_of_le (hw.dom b i h).1 hnx, Nat.lt_of_lt_of_le (hw.dom b i h).2 hst.size⟩
      · exact hwr.dom b i h
    · rcases hcase b i h1 with ⟨k, h1⟩ | ⟨k, h1⟩ <;> rcases hget b x h2 with ⟨k', h2⟩ | ⟨k', h2⟩
      · rw [hfr _ (hw.dom b i h1).2]
        obtain ⟨o, ho, hrel⟩ := hw.blk b i x h1 h2
        exact ⟨o, ho, hrel.mono hle1⟩
      · omega
      · omega
      · obtain ⟨o, ho, hrel⟩ := hwr.blk b i x h1 h2
        exact ⟨o, ho, hrel.mono hle2⟩
    · rcases hcase b i hb with ⟨k, hb⟩ | ⟨k, hb⟩ <;> rcases hget b x hx with ⟨l, hx⟩ | ⟨l, hx⟩ <;> first | omega | skip
      · rcases hcase b' i' hb' with ⟨k', hb'⟩ | ⟨k', hb'⟩ <;> rcases hget b' x' hx' with ⟨l', hx'⟩ | ⟨l', hx'⟩ <;> first | omega | skip
        · exact hw.sep _ _ _ _ _ _ hb hb' hx hx' he
        · have := (hw.dom b i hb).2; have := hfs b' i' hb'; omega
      · rcases hcase b' i' hb' with ⟨k', hb'⟩ | ⟨k', hb'⟩ <;> rcases hget b' x' hx' with ⟨l', hx'⟩ | ⟨l', hx'⟩ <;> first | omega | skip
        · have := (hw.dom b' i' hb').2; have := hfs b i hb; omega
        · exact hwr.sep _ _ _ _ _ _ hb hb' hx hx' he
    · rcases hget b x h with ⟨k, _⟩ | ⟨_, h⟩
      · exact Nat.lt_of_lt_of_le k hnx
      · exact hwr.top b x h
    · rcases hcase b i h1 with ⟨k, h1⟩ | ⟨k, h1⟩ <;> rcases hget b x h2 with ⟨l, h2⟩ | ⟨l, h2⟩ <;> first | omega | skip
      · exact hw.lo b i x h1 h2
      · exact hwr.lo b i x h1 h2

def batchOk (P : Program) (X : Ext) (T : Table) (L n : Nat) (B : Table) : Bool := B.all fun g => g.2.all (entCheck P X (tabOf T) L n g.1)

theorem TabOk.nil : TabOk P [] := fun g hg => by cases hg
theorem TabOk.add (hng : XOk P X) (hm : P.follows .mixedOrders = true) {T B : Table} (hT : TabOk P T) {L n : Nat} (h : batchOk P X T L n B = true) : TabOk P (B ++ T) := by
  intro g hg e he
  rcases List.mem_append.1 hg with hg | hg
  · exact entCheck_sound hng hm (fun base => tabOf_sound T hT) (List.all_eq_true.1 (List.all_eq_true.1 h g hg) e he)
  · exact hT g hg e he

open Go.WideShapes Go.ChangeShapes in
theorem calls_trueT {P : Program} {X : Ext} (hng : XOk P X) (hm : P.follows .mixedOrders = true) {T : Table} (hT : TabOk P T) {L n f : Nat} (h : isTrue (callT P X (tabOf T) L n f [] { next := 0, heap := .leaf }) = true) (w : World) :
    Calls P f #[] w fun e w' => e = .returned (.bool true) ∧ Below w.heap.size w w' := by
  unfold isTrue at h
  split at h <;> first | (cases h; done) | skip
  rename_i b A' hc
  subst h
  have hw : WRel P w.heap.size (fun _ => none) { next := 0, heap := .leaf } w := WRel.none
  refine (callT_sound hng hm (tabOf_sound T hT) L n f [] _ _ _ hc (fun _ => none) w [] .nil hw (Nat.le_refl _)).mono fun e w' hR => ?_
  obtain ⟨ρ', v', rfl, hst, _, _, hv⟩ := hR
  obtain ⟨rfl, _⟩ := sc_inv hv
  exact ⟨rfl, hst.below hw (Nat.le_refl _)⟩

end
end Go.Ab
