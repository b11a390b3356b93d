/- Calls that are reckoned once and looked up afterwards. By an AI agent. -/
import Derived.Test.YtmilkhdicmkmbaaDoorAb18
set_option linter.unusedVariables false
set_option linter.unusedSimpArgs false
namespace Go.Ab
open Go Go.RowKit

/-! ### the interpreter with a table -/
def tabA (tab run : CallF) : CallF := fun f args A => match tab f args A with
  | some r => some r
  | none => run f args A

def callT (P : Program) (X : Ext) (tab : CallF) (L : Nat) : Nat → CallF
  | 0, _, _, _ => none
  | n + 1, f, args, A => match has X.split f with
    | true => splitA (bodyA P X L (tabA tab (callT P X tab L n))) f args A
    | false => bodyA P X L (tabA tab (callT P X tab L n)) f args A

/-- The answer to a call: a value that names no block; or a value and the blocks made, from a block number on. -/
inductive Ans where
  | val (v : AV)
  | rows (n : Nat) (v : AV) (bs : List (Nat × Blk)) (n' : Nat)

/-- 'fp': the blocks that the arguments lead to, as they are when the call is made; 'dead': those of them that are forgotten. -/
structure Ent where
  args : List AV
  fp : List (Nat × Blk) := []
  dead : List Nat := []
  nx : Nat := 0
  ans : Ans

def setAll : Tree Blk → List (Nat × Blk) → Tree Blk
  | t, [] => t
  | t, (b, x) :: r => setAll (t.set b x) r

def delAll : Tree Blk → List Nat → Tree Blk
  | t, [] => t
  | t, b :: r => delAll (t.del b) r

/-- Are these blocks there, just so? -/
def hasRows (A : AW) : List (Nat × Blk) → Bool
  | [] => true
  | (b, x) :: r => match A.heap.get b with
    | some y => blkEq x y && hasRows A r
    | none => false

def ansA (A : AW) (e : Ent) : Option (AV × AW) :=
  match hasRows A e.fp with
  | false => none
  | true => match e.ans with
    | .val v => some (v, A)
    | .rows n v bs n' => match Nat.beq n A.next with
      | true => some (v, { next := n', heap := setAll (delAll A.heap e.dead) bs })
      | false => none

def findE : List Ent → List AV → AW → Option (AV × AW)
  | [], _, _ => none
  | e :: es, args, A => match avsEq e.args args with
    | true => match ansA A e with
      | some r => some r
      | none => findE es args A
    | false => findE es args A

abbrev Table := List (Nat × List Ent)

def tabOf : Table → CallF
  | [], _, _, _ => none
  | (g, es) :: T, f, args, A => match Nat.beq g f with
    | true => match findE es args A with
      | some r => some r
      | none => tabOf T f args A
    | false => tabOf T f args A

/-! ### values that name none but these blocks -/
def inK : List Nat → Nat → Bool
  | [], _ => false
  | k :: ks, b => match Nat.beq k b with
    | true => true
    | false => inK ks b

mutual
def within (ks : List Nat) : AV → Bool
  | .sc _ | .top | .atl _ => true
  | .ptr b _ | .slc b _ _ _ | .emp b | .map b => inK ks b
  | .fn _ xs ys => withins ks xs && withins ks ys
  | .ifc _ x => within ks x
  | .agg xs | .tup xs => withins ks xs
def withins (ks : List Nat) : List AV → Bool
  | [] => true
  | x :: xs => within ks x && withins ks xs
end

theorem inK_iff {b : Nat} : ∀ {ks : List Nat}, inK ks b = true ↔ b ∈ ks
  | [] => by simp [inK]
  | k :: ks => by
    simp only [inK]
    split
    · rename_i h
      simp [beq_t h]
    · rename_i h
      rw [inK_iff, List.mem_cons]
      constructor
      · exact .inr
      · rintro (e | e)
        · exact absurd e.symm (beq_f h)
        · exact e

mutual
theorem within_rel {ρ ρ' : Ren} {ks : List Nat} (hk : ∀ b ∈ ks, ∀ i, ρ b = some i → ρ' b = some i) : ∀ (x : AV) {v : Value}, within ks x = true → VRel ρ x v → VRel ρ' x v
  | .top, v, _, _ => .top v
  | .atl k, v, _, hr => by cases hr; exact .atl _ _ (by assumption)
  | .sc u, v, _, hr => by cases hr; exact .sc _ (by assumption)
  | .ptr b o, v, h, hr => by
    simp only [within] at h
    cases hr with
    | ptr _ _ i e => exact .ptr _ _ i (hk b (inK_iff.1 h) i e)
  | .slc b o l c, v, h, hr => by
    simp only [within] at h
    cases hr with
    | slcS _ _ _ c i e => exact .slcS _ _ _ c i (hk b (inK_iff.1 h) i e)
    | slcO _ k _ i e q => exact .slcO _ k _ i (hk b (inK_iff.1 h) i e) q
  | .emp b, v, h, hr => by
    simp only [within] at h
    cases hr with
    | emp _ a c => exact .emp _ a c
  | .map b, v, h, hr => by
    simp only [within] at h
    cases hr with
    | map _ i e => exact .map _ i (hk b (inK_iff.1 h) i e)
  | .fn f xs ys, v, h, hr => by
    simp only [within, Bool.and_eq_true] at h
    cases hr with
    | fn _ _ _ us vs p a b => exact .fn f xs ys us vs p (withins_rel hk xs h.1 a) (withins_rel hk ys h.2 b)
  | .ifc t x, v, h, hr => by
    simp only [within] at h
    cases hr with
    | ifc _ _ v a => exact .ifc t x v (within_rel hk x h a)
  | .agg xs, v, h, hr => by
    simp only [within] at h
    cases hr with
    | agg _ vs a => exact .agg xs vs (withins_rel hk xs h a)
  | .tup xs, v, h, hr => by
    simp only [within] at h
    cases hr with
    | tup _ vs a => exact .tup xs vs (withins_rel hk xs h a)
theorem withins_rel {ρ ρ' : Ren} {ks : List Nat} (hk : ∀ b ∈ ks, ∀ i, ρ b = some i → ρ' b = some i) : ∀ (xs : List AV) {vs : List Value}, withins ks xs = true → LRel ρ xs vs → LRel ρ' xs vs
  | [], vs, _, hr => by cases hr; exact .nil
  | x :: xs, vs, h, hr => by
    simp only [withins, Bool.and_eq_true] at h
    cases hr with
    | cons _ v _ vs a b => exact .cons x v xs vs (within_rel hk x h.1 a) (withins_rel hk xs h.2 b)
end

def treeAll (p : AV → Bool) : Tree AV → Bool
  | .leaf => true
  | .node l v r => (match v with
    | some x => p x
    | none => true) && treeAll p l && treeAll p r

theorem treeAll_get {p : AV → Bool} : ∀ {t : Tree AV} {k : Nat} {x : AV}, treeAll p t = true → t.get k = some x → p x = true
  | .leaf, k, x, _, h => by simp [Tree.get] at h
  | .node l v r, k, x, ha, h => by
    simp only [treeAll, Bool.and_eq_true] at ha
    simp only [Tree.get] at h
    split at h
    · rw [h] at ha; exact ha.1.1
    · split at h
      · exact treeAll_get ha.1.2 h
      · exact treeAll_get ha.2 h

def entsIn (ks : List Nat) : List (AV × AV × Nat) → Bool
  | [] => true
  | (k, v, _) :: es => within ks k && within ks v && entsIn ks es

def blkIn (ks : List Nat) : Blk → Bool
  | .row _ t zs _ _ _ => treeAll (within ks) t && withins ks zs
  | .map es _ => entsIn ks es
  | .iter m _ _ _ => match m with
    | some b => inK ks b
    | none => true
  | .siter _ _ => true

theorem withins_mem {ks : List Nat} : ∀ {xs : List AV}, withins ks xs = true → ∀ x ∈ xs, within ks x = true
  | [], _, x, h => by cases h
  | y :: ys, h, x, hx => by
    simp only [withins, Bool.and_eq_true] at h
    rcases List.mem_cons.1 hx with e | hx
    · rw [e]; exact h.1
    · exact withins_mem h.2 x hx

theorem nth_mem {β : Type} : ∀ {l : List β} {n : Nat} {x : β}, nth l n = some x → x ∈ l
  | [], _, _, h => by simp [nth] at h
  | y :: ys, 0, x, h => by simp [nth] at h; simp [h]
  | y :: ys, n + 1, x, h => by
    simp only [nth] at h
    exact List.mem_cons_of_mem _ (nth_mem h)

theorem cellAt_in {tree : Tree AV} {zs : List AV} {n k : Nat} {x : AV} (h : cellAt tree zs n k = some x) : tree.get k = some x ∨ x ∈ zs := by
  unfold cellAt at h
  split at h
  · cases h
  · split at h
    · rename_i v hv
      cases h
      exact .inl hv
    · split at h
      · cases h
      · cases h
        exact .inr (List.mem_cons_self ..)
      · exact .inr (nth_mem h)

theorem EntRel.restrict {ρ ρ' : Ren} {ks : List Nat} (hk : ∀ b ∈ ks, ∀ i, ρ b = some i → ρ' b = some i) : ∀ {es : List (AV × AV × Nat)} {fs : List MapEntry}, entsIn ks es = true → EntRel ρ es fs → EntRel ρ' es fs
  | [], [], _, _ => trivial
  | [], _ :: _, _, h => h.elim
  | _ :: _, [], _, h => h.elim
  | (a, b, n) :: es, f :: fs, h, ⟨h1, h2, h3, h4⟩ => by
    simp only [entsIn, Bool.and_eq_true] at h
    exact ⟨within_rel hk a h.1.1 h1, within_rel hk b h.1.2 h2, h3, EntRel.restrict hk h.2 h4⟩

theorem BlkRel.restrict {P : Program} {ρ ρ' : Ren} {ks : List Nat} (hk : ∀ b ∈ ks, ∀ i, ρ b = some i → ρ' b = some i) {i : Info} : ∀ {x : Blk} {o : Obj}, blkIn ks x = true → BlkRel P ρ i x o → BlkRel P ρ' i x o
  | .row n t zs opn el fz, o, h, ⟨c, fr, e, k⟩ => by
    simp only [blkIn, Bool.and_eq_true] at h
    refine ⟨c, fr, e, k.size, fun j x hx => ?_, k.free, k.mark, k.opn, k.sh0⟩
    obtain ⟨v, h1, h2⟩ := k.val j x hx
    refine ⟨v, h1, within_rel hk x ?_ h2⟩
    rcases cellAt_in hx with hx | hx
    · exact treeAll_get h.1 hx
    · exact withins_mem h.2 x hx
  | .map es clock, o, h, ⟨fs, e, k⟩ => ⟨fs, e, EntRel.restrict hk h k⟩
  | .iter m since seen st, o, h, ⟨m', e, k⟩ => by
    refine ⟨m', e, ?_⟩
    cases m with
    | none => exact k
    | some b =>
      obtain ⟨j, h1, h2⟩ := k
      exact ⟨j, hk b (inK_iff.1 h) j h1, h2⟩
  | .siter s pos, o, h, k => k

section
variable {P : Program} {X : Ext}

theorem tabA_sound {base : Base} {tab run : CallF} (ht : CallOk P base tab) (hr : CallOk P base run) : CallOk P base (tabA tab run) := by
  intro f args A v A' h
  unfold tabA at h
  split at h
  · rename_i r hr'
    cases h
    exact ht f args A v A' hr'
  · exact hr f args A v A' h

theorem callT_sound {base : Base} (hng : XOk P X) (hm : P.follows .mixedOrders = true) {tab : CallF} (ht : CallOk P base tab) (L : Nat) : ∀ n, CallOk P base (callT P X tab L n)
  | 0 => by intro f args A v A' h; simp [callT] at h
  | n + 1 => by
    intro f args A v A' h
    simp only [callT] at h
    split at h
    · exact splitA_sound (bodyA_sound hng hm L (tabA_sound ht (callT_sound hng hm ht L n))) f args A v A' h
    · exact bodyA_sound hng hm L (tabA_sound ht (callT_sound hng hm ht L n)) f args A v A' h

/-- What an entry's answer must be worth. -/
def EntOk (P : Program) (I : World → Prop) (f : Nat) (e : Ent) : Prop :=
  ∀ (base : Base), (∀ w, base.inv w → I w) → ∀ A v A', ansA A e = some (v, A') → ∀ (ρ : Ren) (w : World) (us : List Value), LRel ρ e.args us → WRel P base ρ A w → base ≤ w.heap.size →
    Calls P f ⟨us⟩ w fun r w' => ∃ ρ' v', r = .returned v' ∧ Step base A.next ρ w ρ' w' ∧ WRel P base ρ' A' w' ∧ A.next ≤ A'.next ∧ VRel ρ' v v'

def TabOk (P : Program) (I : World → Prop) (T : Table) : Prop := ∀ g ∈ T, ∀ e ∈ g.2, EntOk P I g.1 e

theorem findE_sound {base : Base} {I : World → Prop} (hI : ∀ w, base.inv w → I w) {f : Nat} : ∀ (es : List Ent), (∀ e ∈ es, EntOk P I f e) → ∀ {args A v A'}, findE es args A = some (v, A') → ∀ (ρ : Ren) (w : World) (us : List Value), LRel ρ args us → WRel P base ρ A w → base ≤ w.heap.size →
    Calls P f ⟨us⟩ w fun r w' => ∃ ρ' v', r = .returned v' ∧ Step base A.next ρ w ρ' w' ∧ WRel P base ρ' A' w' ∧ A.next ≤ A'.next ∧ VRel ρ' v v'
  | [], _, args, A, v, A', h => by simp [findE] at h
  | e :: es, hes, args, A, v, A', h => by
    simp only [findE] at h
    split at h
    · rename_i hq
      have hq := avsEq_eq _ _ hq
      subst hq
      split at h
      · rename_i r hr
        cases h
        exact hes e (List.mem_cons_self ..) base hI A v A' hr
      · exact findE_sound hI es (fun e he => hes e (List.mem_cons_of_mem _ he)) h
    · exact findE_sound hI es (fun e he => hes e (List.mem_cons_of_mem _ he)) h

theorem tabOf_sound {base : Base} {I : World → Prop} (hI : ∀ w, base.inv w → I w) : ∀ (T : Table), TabOk P I T → CallOk P base (tabOf T)
  | [], _ => by intro f args A v A' h; simp [tabOf] at h
  | (g, es) :: T, hT => by
    intro f args A v A' h
    have hrest := tabOf_sound hI T (fun g hg => hT g (List.mem_cons_of_mem _ hg))
    simp only [tabOf] at h
    split at h
    · rename_i hq
      have hq := beq_t hq
      subst hq
      split at h
      · rename_i r hr
        cases h
        exact findE_sound hI es (hT (g, es) (List.mem_cons_self ..)) hr
      · exact hrest g args A v A' h
    · exact hrest f args A v A' h

theorem get_setAll : ∀ (bs : List (Nat × Blk)) (t : Tree Blk) {k : Nat} {x : Blk}, (setAll t bs).get k = some x → (k, x) ∈ bs ∨ (t.get k = some x ∧ ∀ y, (k, y) ∉ bs)
  | [], t, k, x, h => .inr ⟨h, fun y hy => by cases hy⟩
  | (b, y) :: r, t, k, x, h => by
    simp only [setAll] at h
    rcases get_setAll r _ h with h | ⟨h, hn⟩
    · exact .inl (List.mem_cons_of_mem _ h)
    · rw [Tree.get_set] at h
      split at h
      · rename_i e
        cases h
        subst e
        exact .inl (List.mem_cons_self ..)
      · rename_i hne
        refine .inr ⟨h, fun z hz => ?_⟩
        rcases List.mem_cons.1 hz with e | hz
        · cases e; exact hne rfl
        · exact hn z hz

theorem get_delAll : ∀ (ds : List Nat) (t : Tree Blk) {k : Nat} {x : Blk}, (delAll t ds).get k = some x → t.get k = some x ∧ k ∉ ds
  | [], t, k, x, h => ⟨h, by simp⟩
  | d :: r, t, k, x, h => by
    simp only [delAll] at h
    obtain ⟨h1, h2⟩ := get_delAll r _ h
    rw [Tree.get_del] at h1
    split at h1
    · cases h1
    · rename_i hne
      exact ⟨h1, by simp only [List.mem_cons, not_or]; exact ⟨hne, h2⟩⟩

theorem hasRows_spec {A : AW} : ∀ (l : List (Nat × Blk)), hasRows A l = true → ∀ b x, (b, x) ∈ l → A.heap.get b = some x
  | [], _, b, x, hm => by cases hm
  | (c, y) :: r, h, b, x, hm => by
    simp only [hasRows] at h
    split at h <;> first | (cases h; done) | skip
    rename_i z hz
    rw [Bool.and_eq_true] at h
    rcases List.mem_cons.1 hm with e | hm
    · cases e
      rw [hz, blkEq_eq h.1]
    · exact hasRows_spec r h.2 b x hm

/-! ### the check of an entry -/
def keysOf : List (Nat × Blk) → List Nat
  | [] => []
  | (b, _) :: r => b :: keysOf r

theorem keysOf_mem {b : Nat} : ∀ {l : List (Nat × Blk)}, b ∈ keysOf l ↔ ∃ x, (b, x) ∈ l
  | [] => by simp [keysOf]
  | (c, y) :: r => by
    simp only [keysOf, List.mem_cons, keysOf_mem (l := r)]
    constructor
    · rintro (e | ⟨x, h⟩)
      · subst e; exact ⟨y, .inl rfl⟩
      · exact ⟨x, .inr h⟩
    · rintro ⟨x, h | h⟩
      · cases h; exact .inl rfl
      · exact .inr ⟨x, h⟩

/-- The blocks lead to no others; each is below 'n'; no number stands twice. -/
def fpOk (ks : List Nat) (n : Nat) : List (Nat × Blk) → List Nat → Bool
  | [], _ => true
  | (b, x) :: r, seen => blkIn ks x && Nat.ble (b + 1) n && !inK seen b && fpOk ks n r (b :: seen)

theorem fpOk_spec {ks : List Nat} {n : Nat} : ∀ (l : List (Nat × Blk)) (seen : List Nat), fpOk ks n l seen = true → (∀ b x, (b, x) ∈ l → blkIn ks x = true ∧ b < n ∧ b ∉ seen) ∧ ∀ b x y, (b, x) ∈ l → (b, y) ∈ l → x = y
  | [], _, _ => ⟨fun b x h => (by cases h), fun b x y h => (by cases h)⟩
  | (c, z) :: r, seen, h => by
    simp only [fpOk, Bool.and_eq_true, Bool.not_eq_true'] at h
    obtain ⟨⟨⟨h1, h2⟩, h3⟩, h4⟩ := h
    obtain ⟨i1, i2⟩ := fpOk_spec r (c :: seen) h4
    have hc : c ∉ seen := fun hm => by rw [inK_iff.2 hm] at h3; cases h3
    refine ⟨fun b x hm => ?_, fun b x y hx hy => ?_⟩
    · rcases List.mem_cons.1 hm with e | hm
      · cases e; exact ⟨h1, ble_t h2, hc⟩
      · obtain ⟨a1, a2, a3⟩ := i1 b x hm
        exact ⟨a1, a2, fun h => a3 (List.mem_cons_of_mem _ h)⟩
    · rcases List.mem_cons.1 hx with e | hx <;> rcases List.mem_cons.1 hy with f | hy
      · cases e; cases f; rfl
      · cases e
        exact absurd (List.mem_cons_self ..) (i1 _ _ hy).2.2
      · cases f
        exact absurd (List.mem_cons_self ..) (i1 _ _ hx).2.2
      · exact i2 b x y hx hy

def rowsOk (ks : List Nat) (n : Nat) (A : AW) : List (Nat × Blk) → Bool
  | [] => true
  | (b, x) :: r => (Nat.ble n b || inK ks b) && (match A.heap.get b with
    | some y => blkEq x y
    | none => false) && rowsOk ks n A r

/-- What is not said to be changed or forgotten is as it was. -/
def keptOk (A : AW) (gone : List Nat) : List (Nat × Blk) → Bool
  | [] => true
  | (b, x) :: r => (inK gone b || (match A.heap.get b with
    | some y => blkEq x y
    | none => false)) && keptOk A gone r

/-- The next block's number when the call is made, as far as the check goes. -/
def nextOf (e : Ent) : Nat := match e.ans with
  | .val _ => e.nx
  | .rows m _ _ _ => m

def entCheck (P : Program) (X : Ext) (tab : CallF) (L n : Nat) (f : Nat) (e : Ent) : Bool :=
  match withins (keysOf e.fp) e.args && fpOk (keysOf e.fp) (nextOf e) e.fp [] with
  | false => false
  | true => match callT P X tab L n f e.args { next := nextOf e, heap := setAll .leaf e.fp } with
    | none => false
    | some (v', A') => match e.ans with
      | .val v => within [] v && avEq v' v && keptOk A' [] e.fp
      | .rows _ v bs m' => avEq v' v && Nat.beq A'.next m' && rowsOk (keysOf e.fp) (nextOf e) A' bs && keptOk A' (keysOf bs ++ e.dead) e.fp

theorem rowsOk_spec {ks : List Nat} {n : Nat} {A : AW} : ∀ (bs : List (Nat × Blk)), rowsOk ks n A bs = true → ∀ b x, (b, x) ∈ bs → (n ≤ b ∨ b ∈ ks) ∧ A.heap.get b = some x
  | [], _, b, x, hm => by cases hm
  | (c, y) :: r, h, b, x, hm => by
    simp only [rowsOk, Bool.and_eq_true] at h
    obtain ⟨⟨h1, h2⟩, h3⟩ := h
    rcases List.mem_cons.1 hm with e | hm
    · cases e
      split at h2
      · rename_i z hz
        rw [Bool.or_eq_true] at h1
        refine ⟨?_, ?_⟩
        · rcases h1 with h1 | h1
          · exact .inl (ble_t h1)
          · exact .inr (inK_iff.1 h1)
        · rw [hz, blkEq_eq h2]
      · cases h2
    · exact rowsOk_spec r h3 b x hm

theorem keptOk_spec {gone : List Nat} {A : AW} : ∀ (l : List (Nat × Blk)), keptOk A gone l = true → ∀ b x, (b, x) ∈ l → b ∈ gone ∨ A.heap.get b = some x
  | [], _, b, x, hm => by cases hm
  | (c, y) :: r, h, b, x, hm => by
    simp only [keptOk, Bool.and_eq_true] at h
    obtain ⟨h1, h3⟩ := h
    rcases List.mem_cons.1 hm with e | hm
    · cases e
      rw [Bool.or_eq_true] at h1
      rcases h1 with h1 | h1
      · exact .inl (inK_iff.1 h1)
      · split at h1
        · rename_i z hz
          rw [hz, blkEq_eq h1]
          exact .inr rfl
        · cases h1
    · exact keptOk_spec r h3 b x hm

theorem WRel.none {P : Program} {base : Base} {n : Nat} {w : World} (hi : base.inv w) : WRel P base (fun _ => none) { next := n, heap := .leaf } w :=
  ⟨fun _ _ h => (by cases h), fun _ _ _ h => (by cases h), fun _ _ _ _ _ _ h => (by cases h), fun _ _ h => (by simp [Tree.get] at h), fun _ _ _ h => (by cases h), hi⟩

/-- The blocks of a call alone. -/
def only (ρ : Ren) (ks : List Nat) : Ren := fun b => if b ∈ ks then ρ b else none
theorem only_in {ρ : Ren} {ks : List Nat} {b : Nat} {i : Info} (h : only ρ ks b = some i) : b ∈ ks ∧ ρ b = some i := by
  unfold only at h
  split at h
  · exact ⟨‹_›, h⟩
  · cases h
theorem only_mk {ρ : Ren} {ks : List Nat} {b : Nat} (h : b ∈ ks) : only ρ ks b = ρ b := by simp [only, h]

theorem entCheck_sound (hng : XOk P X) (hm : P.follows .mixedOrders = true) {I : World → Prop} {tab : CallF} (ht : ∀ base : Base, (∀ w, base.inv w → I w) → CallOk P base tab) {L n f : Nat} {e : Ent} (h : entCheck P X tab L n f e = true) : EntOk P I f e := by
  unfold entCheck at h
  split at h <;> first | (cases h; done) | skip
  rename_i hfl
  rw [Bool.and_eq_true] at hfl
  obtain ⟨hwi, hfp⟩ := hfl
  obtain ⟨hf1, hf2⟩ := fpOk_spec _ _ hfp
  split at h <;> first | (cases h; done) | skip
  rename_i v1 A1 hc
  intro base hI A v A' ha ρ w us hargs hw hb
  unfold ansA at ha
  split at ha <;> first | (cases ha; done) | skip
  rename_i hhas
  have hrow := hasRows_spec _ hhas
  -- the blocks alone
  let ks := keysOf e.fp
  have hks : ∀ {b}, b ∈ ks ↔ ∃ x, (b, x) ∈ e.fp := keysOf_mem
  have hto : ∀ b ∈ ks, ∀ i, ρ b = some i → only ρ ks b = some i := fun b hb i h => by rw [only_mk hb]; exact h
  have hargs0 : LRel (only ρ ks) e.args us := withins_rel hto _ hwi hargs
  have hget0 : ∀ b x, (setAll .leaf e.fp).get b = some x → (b, x) ∈ e.fp := fun b x h => by
    rcases get_setAll _ _ h with h | ⟨h, _⟩
    · exact h
    · simp [Tree.get] at h
  have hw0 : WRel P base (only ρ ks) { next := nextOf e, heap := setAll .leaf e.fp } w := by
    refine ⟨fun b i h => ?_, fun b i x h hx => ?_, fun b b' i i' x x' h h' hx hx' he => ?_, fun b x hx => ?_, fun b i x h hx => ?_, hw.inv⟩
    · obtain ⟨hbk, hbi⟩ := only_in h
      obtain ⟨x, hx⟩ := hks.1 hbk
      exact ⟨(hf1 b x hx).2.1, (hw.dom b i hbi).2⟩
    · obtain ⟨hbk, hbi⟩ := only_in h
      have hm := hget0 b x hx
      obtain ⟨o, ho, hrel⟩ := hw.blk b i x hbi (hrow b x hm)
      exact ⟨o, ho, hrel.restrict hto (hf1 b x hm).1⟩
    · exact hw.sep _ _ _ _ _ _ (only_in h).2 (only_in h').2 (hrow _ _ (hget0 _ _ hx)) (hrow _ _ (hget0 _ _ hx')) he
    · exact (hf1 b x (hget0 b x hx)).2.1
    · exact hw.lo b i x (only_in h).2 (hrow _ _ (hget0 _ _ hx))
  have hgone : ∀ b i, b ∉ ks → ρ b = some i → ∀ x, A.heap.get b = some x → ∀ b0 i0, only ρ ks b0 = some i0 → i0.cb ≠ i.cb := by
    intro b i hbk hbi x hx b0 i0 h0 he
    obtain ⟨h0k, h0i⟩ := only_in h0
    obtain ⟨x0, hx0⟩ := hks.1 h0k
    exact hbk (hw.sep _ _ _ _ _ _ h0i hbi (hrow _ _ hx0) hx he ▸ h0k)
  have main := callT_sound hng hm (ht base hI) L n f _ _ _ _ hc (only ρ ks) w us hargs0 hw0 hb
  split at ha
  · -- a value alone
    rename_i v0 hans
    cases ha
    rw [hans] at h
    dsimp only at h
    simp only [Bool.and_eq_true] at h
    obtain ⟨⟨h1, h2⟩, h3⟩ := h
    have hv1 := avEq_eq _ _ h2
    subst hv1
    have hkept := keptOk_spec _ h3
    refine main.mono fun r w' hR => ?_
    obtain ⟨ρ', v', rfl, hst, hwr, hnx, hv⟩ := hR
    have hback : ∀ b ∈ ks, ∀ i, ρ' b = some i → ρ b = some i := fun b hbk i h => by
      obtain ⟨x, hx⟩ := hks.1 hbk
      rw [hst.ext b (hf1 b x hx).2.1, only_mk hbk] at h
      exact h
    refine ⟨ρ, v', rfl, ⟨hst.os, hst.tape, hst.output, hst.size, fun c hc hun => hst.frame c hc fun b i hbi => hun b i (only_in hbi).2, fun _ _ => rfl, fun b i h => .inl ⟨b, i, h, rfl⟩, hst.low⟩, ⟨fun b i h => ?_, fun b i x hbi hx => ?_, hw.sep, hw.top, hw.lo, hwr.inv⟩, Nat.le_refl _, within_rel (ks := []) (fun b hb => by cases hb) _ h1 hv⟩
    · exact ⟨(hw.dom b i h).1, Nat.lt_of_lt_of_le (hw.dom b i h).2 hst.size⟩
    · by_cases hbk : b ∈ ks
      · obtain ⟨y, hy⟩ := hks.1 hbk
        have hxy : x = y := by have := hrow b y hy; rw [hx] at this; exact Option.some.inj this
        subst hxy
        rcases hkept b x hy with hg | hg
        · cases hg
        · have hρ' : ρ' b = some i := by rw [hst.ext b (hf1 b x hy).2.1, only_mk hbk]; exact hbi
          obtain ⟨o, ho, hrel⟩ := hwr.blk b i x hρ' hg
          exact ⟨o, ho, hrel.restrict hback (hf1 b x hy).1⟩
      · obtain ⟨o, ho, hrel⟩ := hw.blk b i x hbi hx
        exact ⟨o, by rw [hst.frame _ (hw.dom b i hbi).2 (hgone b i hbk hbi x hx)]; exact ho, hrel⟩
  · -- blocks as well
    rename_i m v0 bs m' hans
    have hnext : nextOf e = m := by unfold nextOf; rw [hans]
    rw [hans] at h
    dsimp only at h
    simp only [Bool.and_eq_true] at h
    obtain ⟨⟨⟨h1, h2⟩, h3⟩, h4⟩ := h
    have hv1 := avEq_eq _ _ h1
    have h2 := beq_t h2
    subst hv1
    subst h2
    split at ha <;> first | (cases ha; done) | skip
    rename_i hn
    have hn := beq_t hn
    rw [hnext, hn] at main hw0 hf1 h3
    cases ha
    have hrows := rowsOk_spec bs h3
    have hkept := keptOk_spec _ h4
    refine main.mono fun r w' hR => ?_
    obtain ⟨ρ', v', rfl, hst, hwr, hnx, hv⟩ := hR
    dsimp only at hst hnx
    let ρ2 : Ren := fun b => if b < A.next then ρ b else ρ' b
    have hlo : ∀ b, b < A.next → ρ2 b = ρ b := fun b h => by simp [ρ2, h]
    have hhi : ∀ b, A.next ≤ b → ρ2 b = ρ' b := fun b h => by simp only [ρ2]; rw [if_neg (by omega)]
    have hold : ∀ b i, b < A.next → ρ' b = some i → b ∈ ks ∧ ρ b = some i := fun b i h hbi => by
      rw [hst.ext b h] at hbi
      exact only_in hbi
    have hle1 : ρ.le ρ2 := fun b i h => by rw [hlo b (hw.dom b i h).1]; exact h
    have hle2 : ρ'.le ρ2 := fun b i h => by
      rcases Nat.lt_or_ge b A.next with h' | h'
      · rw [hlo b h']; exact (hold b i h' h).2
      · rw [hhi b h']; exact h
    -- a row of the outcome: changed or new; or as it was
    have hget : ∀ b i x, ρ2 b = some i → (setAll (delAll A.heap e.dead) bs).get b = some x → (ρ' b = some i ∧ A1.heap.get b = some x) ∨ (b ∉ ks ∧ b < A.next ∧ ρ b = some i ∧ A.heap.get b = some x) := by
      intro b i x hbi hx
      rcases get_setAll bs _ hx with hx | ⟨hx, hnb⟩
      · obtain ⟨hwh, hx⟩ := hrows b x hx
        refine .inl ⟨?_, hx⟩
        rcases Nat.lt_or_ge b A.next with h' | h'
        · rcases hwh with hwh | hwh
          · omega
          · rw [hst.ext b h', only_mk hwh, ← hlo b h']; exact hbi
        · rw [← hhi b h']; exact hbi
      · obtain ⟨hx, hnd⟩ := get_delAll _ _ hx
        have hbn := hw.top b x hx
        rw [hlo b hbn] at hbi
        by_cases hbk : b ∈ ks
        · obtain ⟨y, hy⟩ := hks.1 hbk
          have hxy : x = y := by have := hrow b y hy; rw [hx] at this; exact Option.some.inj this
          subst hxy
          rcases hkept b x hy with hg | hg
          · rcases List.mem_append.1 hg with hg | hg
            · obtain ⟨z, hz⟩ := keysOf_mem.1 hg
              exact absurd hz (hnb z)
            · exact absurd hg hnd
          · exact .inl ⟨by rw [hst.ext b hbn, only_mk hbk]; exact hbi, hg⟩
        · exact .inr ⟨hbk, hbn, hbi, hx⟩
    have hsepn : ∀ b i x b' i' x', b ∉ ks → ρ b = some i → A.heap.get b = some x → ρ' b' = some i' → A1.heap.get b' = some x' → i.cb ≠ i'.cb := by
      intro b i x b' i' x' hbk hbi hx hb' hx' he
      rcases hst.fresh b' i' hb' with ⟨b0, i0, h0, e0⟩ | hge
      · exact hgone b i hbk hbi x hx b0 i0 h0 (by rw [e0, he])
      · have := (hw.dom b i hbi).2; omega
    refine ⟨ρ2, v', rfl, ⟨hst.os, hst.tape, hst.output, hst.size, fun c hc hun => hst.frame c hc fun b i hbi => hun b i (only_in hbi).2, fun b h => hlo b h, fun b i h => ?_, hst.low⟩, ⟨fun b i h => ?_, fun b i x h1 h2 => ?_, fun b b' i i' x x' hb hb' hx hx' he => ?_, fun b x h => ?_, fun b i x h1 h2 => ?_, hwr.inv⟩, hnx, hv.mono hle2⟩
    · rcases Nat.lt_or_ge b A.next with h' | h'
      · rw [hlo b h'] at h; exact .inl ⟨b, i, h, rfl⟩
      · rw [hhi b h'] at h
        rcases hst.fresh b i h with ⟨b0, i0, h0, e0⟩ | hge
        · exact .inl ⟨b0, i0, (only_in h0).2, e0⟩
        · exact .inr hge
    · rcases Nat.lt_or_ge b A.next with h' | h'
      · rw [hlo b h'] at h
        exact ⟨Nat.lt_of_lt_of_le (hw.dom b i h).1 hnx, Nat.lt_of_lt_of_le (hw.dom b i h).2 hst.size⟩
      · rw [hhi b h'] at h
        exact hwr.dom b i h
    · rcases hget b i x h1 h2 with ⟨g1, g2⟩ | ⟨g1, g2, g3, g4⟩
      · obtain ⟨o, ho, hrel⟩ := hwr.blk b i x g1 g2
        exact ⟨o, ho, hrel.mono hle2⟩
      · obtain ⟨o, ho, hrel⟩ := hw.blk b i x g3 g4
        exact ⟨o, by rw [hst.frame _ (hw.dom b i g3).2 (hgone b i g1 g3 x g4)]; exact ho, hrel.mono hle1⟩
    · rcases hget b i x hb hx with ⟨g1, g2⟩ | ⟨g1, g2, g3, g4⟩ <;> rcases hget b' i' x' hb' hx' with ⟨k1, k2⟩ | ⟨k1, k2, k3, k4⟩
      · exact hwr.sep _ _ _ _ _ _ g1 k1 g2 k2 he
      · exact absurd he.symm (hsepn b' i' x' b i x k1 k3 k4 g1 g2)
      · exact absurd he (hsepn b i x b' i' x' g1 g3 g4 k1 k2)
      · exact hw.sep _ _ _ _ _ _ g3 k3 g4 k4 he
    · rcases get_setAll bs _ h with h | ⟨h, _⟩
      · exact hwr.top b x (hrows b x h).2
      · exact Nat.lt_of_lt_of_le (hw.top b x (get_delAll _ _ h).1) hnx
    · rcases hget b i x h1 h2 with ⟨g1, g2⟩ | ⟨g1, g2, g3, g4⟩
      · exact hwr.lo b i x g1 g2
      · exact hw.lo b i x g3 g4

def batchOk (P : Program) (X : Ext) (T : Table) (L n : Nat) (B : Table) : Bool := B.all fun g => g.2.all (entCheck P X (tabOf T) L n g.1)

theorem TabOk.nil {I : World → Prop} : TabOk P I [] := fun g hg => by cases hg
theorem TabOk.add (hng : XOk P X) (hm : P.follows .mixedOrders = true) {I : World → Prop} {T B : Table} (hT : TabOk P I T) {L n : Nat} (h : batchOk P X T L n B = true) : TabOk P I (B ++ T) := by
  intro g hg e he
  rcases List.mem_append.1 hg with hg | hg
  · exact entCheck_sound hng hm (fun base hI => tabOf_sound hI T hT) (List.all_eq_true.1 (List.all_eq_true.1 h g hg) e he)
  · exact hT g hg e he

open Go.WideShapes Go.ChangeShapes in
theorem calls_trueI {P : Program} {X : Ext} (hng : XOk P X) (hm : P.follows .mixedOrders = true) {I : World → Prop} {T : Table} (hT : TabOk P I T) {L n f : Nat} (h : isTrue (callT P X (tabOf T) L n f [] { next := 0, heap := .leaf }) = true) (w : World)
    (hI : I w) (hlow : ∀ w1 w2 : World, (∀ c, c < w.heap.size → w2.heap[c]? = w1.heap[c]?) → I w1 → I w2) :
    Calls P f #[] w fun e w' => e = .returned (.bool true) ∧ Below w.heap.size w w' := by
  unfold isTrue at h
  split at h <;> first | (cases h; done) | skip
  rename_i b A' hc
  subst h
  let base : Base := ⟨w.heap.size, I, hlow⟩
  have hw : WRel P base (fun _ => none) { next := 0, heap := .leaf } w := WRel.none hI
  refine (callT_sound hng hm (tabOf_sound (fun _ h => h) T hT) L n f [] _ _ _ hc (fun _ => none) w [] .nil hw (Nat.le_refl _)).mono fun e w' hR => ?_
  obtain ⟨ρ', v', rfl, hst, _, _, hv⟩ := hR
  obtain ⟨rfl, _⟩ := sc_inv hv
  exact ⟨rfl, hst.below hw (Nat.le_refl _)⟩

open Go.WideShapes Go.ChangeShapes in
theorem calls_trueT {P : Program} {X : Ext} (hng : XOk P X) (hm : P.follows .mixedOrders = true) {T : Table} (hT : TabOk P (fun _ => True) T) {L n f : Nat} (h : isTrue (callT P X (tabOf T) L n f [] { next := 0, heap := .leaf }) = true) (w : World) :
    Calls P f #[] w fun e w' => e = .returned (.bool true) ∧ Below w.heap.size w w' := calls_trueI hng hm hT h w trivial fun _ _ _ _ => trivial

/-- A contract of a call of plain values, as an entry. -/
theorem EntOk.val {P : Program} {I : World → Prop} {f : Nat} {args : List AV} {v : AV} (hv : within [] v = true)
    (h : ∀ w, I w → ∀ (ρ : Ren) us, LRel ρ args us → Calls P f ⟨us⟩ w fun e w' => (∃ u, e = .returned u ∧ ∀ ρ : Ren, VRel ρ v u) ∧ w' = w) : EntOk P I f { args, ans := .val v } := by
  intro base hI A v0 A' ha ρ w us hargs hw hb
  simp only [ansA, hasRows] at ha
  cases ha
  refine (h w (hI w hw.inv) ρ us hargs).mono fun e w' hR => ?_
  obtain ⟨⟨u, rfl, hu⟩, rfl⟩ := hR
  exact ⟨ρ, u, rfl, Step.refl _ _ _, hw, Nat.le_refl _, hu ρ⟩
end
end Go.Ab
