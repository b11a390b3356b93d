/- Part 5 of the ground of the proofs of this seat (texts R14 to D9). By an AI agent. -/
import Derived.Test.YtkmkfgepdlkdkaaK4
/- Memory in straight code: what a chain of new blocks holds. By an AI agent. -/
set_option linter.unusedVariables false
set_option linter.unusedSimpArgs false
namespace Go.Ab
open Go Go.RowKit

def RB.cells (lo : Nat) : RB → Option (List AV)
  | .row l _ _ _ => some l
  | .ro c => some (c.toList.map (absV lo))
  | _ => none
@[go_sem] theorem RB.cells_row (lo : Nat) (l : List AV) (p : Bool) (e f : Nat) : RB.cells lo (.row l p e f) = some l := rfl

theorem RM.cells_eq (M : RM) (b : Nat) : M.cells b = (M.heap b).bind (RB.cells M.lo) := by
  unfold RM.cells RB.cells
  cases M.heap b with
  | none => rfl
  | some x => cases x <;> rfl

def loadsL (l : Option (List AV)) (o k : Nat) : Option (List AV) :=
  match l with
  | some l => if o + k ≤ l.length then some ((l.drop o).take k) else none
  | none => none
@[go_sem] theorem loadsL_some (l : List AV) (o k : Nat) : loadsL (some l) o k = if o + k ≤ l.length then some ((l.drop o).take k) else none := rfl
theorem RM.loads_eq (M : RM) (b o k : Nat) : M.loads b o k = loadsL (M.cells b) o k := rfl

section
variable {M M' : RM}
@[go_sem] theorem RM.heap_push (x : RB) (c : Nat) : (M.push x).heap c = if c = M.next then some x else M.heap c := rfl
@[go_sem] theorem RM.heap_put (b : Nat) (x : RB) (c : Nat) : (M.put b x).heap c = if c = b then some x else M.heap c := rfl
@[go_sem] theorem RM.heap_del (b : Nat) (c : Nat) : (M.del b).heap c = if c = b then none else M.heap c := rfl
@[go_sem] theorem RM.push_base (x : RB) : (M.push x).base = M.base := rfl
@[go_sem] theorem RM.put_base (b : Nat) (x : RB) : (M.put b x).base = M.base := rfl
@[go_sem] theorem RM.del_base (b : Nat) : (M.del b).base = M.base := rfl
theorem RM.cells_push (x : RB) (c : Nat) : (M.push x).cells c = if c = M.next then x.cells M.lo else M.cells c := by
  simp only [RM.cells_eq, RM.heap_push]
  split <;> rfl
theorem RM.cells_put (b : Nat) (x : RB) (c : Nat) : (M.put b x).cells c = if c = b then x.cells M.lo else M.cells c := by
  simp only [RM.cells_eq, RM.heap_put]
  split <;> rfl
@[go_sem] theorem RM.cell_push (x : RB) (c o : Nat) : (M.push x).cell c o = if c = M.next then (x.cells M.lo).bind (·[o]?) else M.cell c o := by
  simp only [RM.cell, RM.cells_push]
  split <;> rfl
@[go_sem] theorem RM.cell_put (b : Nat) (x : RB) (c o : Nat) : (M.put b x).cell c o = if c = b then (x.cells M.lo).bind (·[o]?) else M.cell c o := by
  simp only [RM.cell, RM.cells_put]
  split <;> rfl
@[go_sem] theorem RM.loads_push (x : RB) (c o k : Nat) : (M.push x).loads c o k = if c = M.next then loadsL (x.cells M.lo) o k else M.loads c o k := by
  simp only [RM.loads_eq, RM.cells_push]
  split <;> rfl
@[go_sem] theorem RM.loads_put (b : Nat) (x : RB) (c o k : Nat) : (M.put b x).loads c o k = if c = b then loadsL (x.cells M.lo) o k else M.loads c o k := by
  simp only [RM.loads_eq, RM.cells_put]
  split <;> rfl

def storesL (l : List AV) (fz o : Nat) (vs : List AV) : Option (List AV) :=
  if o + vs.length ≤ l.length ∧ fz ≤ o ∧ vs.all oneCell = true then some (l.take o ++ vs ++ l.drop (o + vs.length)) else none
theorem storesL_some {l vs : List AV} {fz o : Nat} (h1 : o + vs.length ≤ l.length) (h2 : fz ≤ o) (h3 : vs.all oneCell = true) : storesL l fz o vs = some (l.take o ++ vs ++ l.drop (o + vs.length)) := if_pos ⟨h1, h2, h3⟩
@[go_sem] theorem storesL_whole {l vs : List AV} (h : vs.length = l.length) (h3 : vs.all oneCell = true) : storesL l 0 0 vs = some vs := by
  rw [storesL_some (by omega) (Nat.le_refl _) h3]
  simp [h]

theorem RM.stores_eq {b o : Nat} {vs l : List AV} {p : Bool} {e f : Nat} (h : M.heap b = some (.row l p e f)) : M.stores b o vs = (storesL l f o vs).map fun l' => M.put b (.row l' p e f) := by
  simp only [RM.stores, h, storesL]
  split <;> rfl
theorem RM.put_push {x y : RB} : (M.push x).put M.next y = M.push y := by
  simp only [RM.put, RM.push]
  congr 1
  funext c
  split <;> rfl
theorem RM.put_push_old {x y : RB} {b : Nat} (hb : b ≠ M.next) : (M.push x).put b y = (M.put b y).push x := by
  simp only [RM.put, RM.push]
  congr 1
  funext c
  by_cases h1 : c = b
  · subst h1; simp [hb]
  · simp [h1]
theorem RM.stores_push_new {l vs : List AV} {p : Bool} {e f o : Nat} : (M.push (.row l p e f)).stores M.next o vs = (storesL l f o vs).map fun l' => M.push (.row l' p e f) := by
  rw [RM.stores_eq (RM.push_new _)]
  congr 1
  funext l'
  exact RM.put_push
theorem RM.stores_put {M : RM} {b o : Nat} {vs : List AV} : M.stores b o vs = match M.heap b with
    | some (.row l p e f) => (storesL l f o vs).map fun l' => M.put b (.row l' p e f)
    | _ => none := by
  cases h : M.heap b with
  | none => simp [RM.stores, h]
  | some x =>
    cases x with
    | row l p e f => rw [RM.stores_eq h]
    | _ => simp [RM.stores, h]
@[go_sem] theorem RM.stores_push_old {x : RB} {vs : List AV} {c o : Nat} (hc : c ≠ M.next) : (M.push x).stores c o vs = (M.stores c o vs).map (·.push x) := by
  rw [RM.stores_put, RM.stores_put, RM.push_old hc]
  split
  · simp only [Option.map_map]
    congr 1
    funext l'
    exact RM.put_push_old hc
  · rfl
@[go_sem] theorem RM.stores_push {l vs : List AV} {p : Bool} {e f c o : Nat} : (M.push (.row l p e f)).stores c o vs =
    if c = M.next then (storesL l f o vs).map fun l' => M.push (.row l' p e f) else (M.stores c o vs).map (·.push (.row l p e f)) := by
  split
  · rename_i h; subst h; exact RM.stores_push_new
  · rename_i h; exact RM.stores_push_old h
@[go_sem] theorem RM.stores_put_same {b o : Nat} {l vs : List AV} {p : Bool} {e f : Nat} : (M.put b (.row l p e f)).stores b o vs = (storesL l f o vs).map fun l' => M.put b (.row l' p e f) := by
  rw [RM.stores_eq (RM.put_same _ _)]
  congr 1
  funext l'
  simp only [RM.put]
  congr 1
  funext c
  split <;> rfl
@[go_sem] theorem some_ex {α : Type} (a : α) (K : α → Prop) : (∃ x, some a = some x ∧ K x) = K a := by simp
@[go_sem] theorem optMap_some {α β : Type} (f : α → β) (x : α) : (some x).map f = some (f x) := rfl
theorem RM.put_next_eq (b : Nat) (x : RB) : (M.put b x).next = M.next := rfl

attribute [go_sem] Int.natCast_nonneg Int.toNat_natCast Nat.mul_one true_implies false_implies Bool.false_eq_true Bool.true_eq_false Bool.not_true Bool.not_false Bool.and_self Bool.and_true Bool.true_and Nat.le_refl List.append_nil List.nil_append if_true if_false Nat.lt_irrefl Nat.add_one_ne_zero true_and and_true Nat.zero_add Nat.add_zero List.drop_zero List.getElem?_cons_zero List.getElem?_cons_succ Option.bind_some List.take_succ_cons List.take_zero List.drop_succ_cons List.drop_nil List.take_nil
attribute [go_sem] boxW List.all_cons List.all_nil List.length_cons List.length_nil
@[go_sem] theorem cells_agg (cs : List AV) : (AV.agg cs).cells = cs := rfl
@[go_sem] theorem cells_sc (v : Value) : (AV.sc v).cells = [.sc v] := rfl
@[go_sem] theorem cells_ptr (b o : Nat) : (AV.ptr b o).cells = [.ptr b o] := rfl
@[go_sem] theorem cells_slc (b o n : Nat) (c : Cap) : (AV.slc b o n c).cells = [.slc b o n c] := rfl
@[go_sem] theorem cells_emp (b : Nat) : (AV.emp b).cells = [.emp b] := rfl
@[go_sem] theorem cells_map (b : Nat) : (AV.map b).cells = [.map b] := rfl
@[go_sem] theorem cells_fn (f : Fn) (xs ys : List AV) : (AV.fn f xs ys).cells = [.fn f xs ys] := rfl
@[go_sem] theorem one_sc (v : Value) : oneCell (.sc v) = true := rfl
@[go_sem] theorem one_ptr (b o : Nat) : oneCell (.ptr b o) = true := rfl
@[go_sem] theorem one_slc (b o n : Nat) (c : Cap) : oneCell (.slc b o n c) = true := rfl
@[go_sem] theorem one_emp (b : Nat) : oneCell (.emp b) = true := rfl
@[go_sem] theorem one_map (b : Nat) : oneCell (.map b) = true := rfl
@[go_sem] theorem one_fn (f : Fn) (xs ys : List AV) : oneCell (.fn f xs ys) = true := rfl

end
/-- What a block's row says, as rewriting rules. -/
theorem RM.loads_of {M : RM} {b : Nat} {l : List AV} {p : Bool} {e f : Nat} (h : M.heap b = some (.row l p e f)) (o k : Nat) : M.loads b o k = loadsL (some l) o k := by rw [RM.loads_eq, RM.cells_row h]
theorem RM.cell_of {M : RM} {b : Nat} {l : List AV} {p : Bool} {e f : Nat} (h : M.heap b = some (.row l p e f)) (o : Nat) : M.cell b o = l[o]? := RM.cell_row h
theorem RM.stores_of {M : RM} {b : Nat} {l : List AV} {p : Bool} {e f : Nat} (h : M.heap b = some (.row l p e f)) (o : Nat) (vs : List AV) : M.stores b o vs = (storesL l f o vs).map fun l' => M.put b (.row l' p e f) := RM.stores_eq h
theorem Keep.heap_of {bs : List Nat} {M M' : RM} (h : Keep bs M M') {b : Nat} {x : RB} (hh : M.heap b = some x) (hlt : b < M.next) (hb : b ∉ bs) : M'.heap b = some x := by rw [h.heap b hlt hb, hh]
end Go.Ab
/- Calls that are reckoned once and looked up afterwards. By an AI agent. -/
set_option linter.unusedVariables false
set_option linter.unusedSimpArgs false
namespace Go.Ab
open Go Go.RowKit

/-! ### the interpreter with a table -/
def tabA (tab run : CallF) : CallF := fun f args A => match tab f args A with
  | some r => some r
  | none => run f args A

def callT (P : Program) (X : Ext) (tab : CallF) (L : Nat) : Nat → CallF
  | 0, _, _, _ => none
  | n + 1, f, args, A => match has X.split f with
    | true => splitA (bodyA P X L (tabA tab (callT P X tab L n))) f args A
    | false => bodyA P X L (tabA tab (callT P X tab L n)) f args A

/-- The answer to a call: a value that names no block; or a value and the blocks made, from a block number on. -/
inductive Ans where
  | val (v : AV)
  | rows (n : Nat) (v : AV) (bs : List (Nat × Blk)) (n' : Nat)

/-- 'fp': the blocks that the arguments lead to, as they are when the call is made; 'dead': those of them that are forgotten. -/
structure Ent where
  args : List AV
  fp : List (Nat × Blk) := []
  dead : List Nat := []
  nx : Nat := 0
  ans : Ans

def setAll : Tree Blk → List (Nat × Blk) → Tree Blk
  | t, [] => t
  | t, (b, x) :: r => setAll (t.set b x) r

def delAll : Tree Blk → List Nat → Tree Blk
  | t, [] => t
  | t, b :: r => delAll (t.del b) r

/-- Are these blocks there, just so? -/
def hasRows (A : AW) : List (Nat × Blk) → Bool
  | [] => true
  | (b, x) :: r => match A.heap.get b with
    | some y => blkEq x y && hasRows A r
    | none => false

def ansA (A : AW) (e : Ent) : Option (AV × AW) :=
  match hasRows A e.fp with
  | false => none
  | true => match e.ans with
    | .val v => some (v, A)
    | .rows n v bs n' => match Nat.beq n A.next with
      | true => some (v, { next := n', heap := setAll (delAll A.heap e.dead) bs })
      | false => none

def findE : List Ent → List AV → AW → Option (AV × AW)
  | [], _, _ => none
  | e :: es, args, A => match avsEq e.args args with
    | true => match ansA A e with
      | some r => some r
      | none => findE es args A
    | false => findE es args A

abbrev Table := List (Nat × List Ent)

def tabOf : Table → CallF
  | [], _, _, _ => none
  | (g, es) :: T, f, args, A => match Nat.beq g f with
    | true => match findE es args A with
      | some r => some r
      | none => tabOf T f args A
    | false => tabOf T f args A

/-! ### values that name none but these blocks -/
def inK : List Nat → Nat → Bool
  | [], _ => false
  | k :: ks, b => match Nat.beq k b with
    | true => true
    | false => inK ks b

mutual
def within (ks : List Nat) : AV → Bool
  | .sc _ | .top | .atl _ => true
  | .ptr b _ | .slc b _ _ _ | .emp b | .map b => inK ks b
  | .fn _ xs ys => withins ks xs && withins ks ys
  | .ifc _ x => within ks x
  | .agg xs | .tup xs => withins ks xs
def withins (ks : List Nat) : List AV → Bool
  | [] => true
  | x :: xs => within ks x && withins ks xs
end

theorem inK_iff {b : Nat} : ∀ {ks : List Nat}, inK ks b = true ↔ b ∈ ks
  | [] => by simp [inK]
  | k :: ks => by
    simp only [inK]
    split
    · rename_i h
      simp [beq_t h]
    · rename_i h
      rw [inK_iff, List.mem_cons]
      constructor
      · exact .inr
      · rintro (e | e)
        · exact absurd e.symm (beq_f h)
        · exact e

mutual
theorem within_rel {ρ ρ' : Ren} {ks : List Nat} (hk : ∀ b ∈ ks, ∀ i, ρ b = some i → ρ' b = some i) : ∀ (x : AV) {v : Value}, within ks x = true → VRel ρ x v → VRel ρ' x v
  | .top, v, _, _ => .top v
  | .atl k, v, _, hr => by cases hr; exact .atl _ _ (by assumption)
  | .sc u, v, _, hr => by cases hr; exact .sc _ (by assumption)
  | .ptr b o, v, h, hr => by
    simp only [within] at h
    cases hr with
    | ptr _ _ i e => exact .ptr _ _ i (hk b (inK_iff.1 h) i e)
  | .slc b o l c, v, h, hr => by
    simp only [within] at h
    cases hr with
    | slcS _ _ _ c i e => exact .slcS _ _ _ c i (hk b (inK_iff.1 h) i e)
    | slcO _ k _ i e q => exact .slcO _ k _ i (hk b (inK_iff.1 h) i e) q
  | .emp b, v, h, hr => by
    simp only [within] at h
    cases hr with
    | emp _ a c => exact .emp _ a c
  | .map b, v, h, hr => by
    simp only [within] at h
    cases hr with
    | map _ i e => exact .map _ i (hk b (inK_iff.1 h) i e)
  | .fn f xs ys, v, h, hr => by
    simp only [within, Bool.and_eq_true] at h
    cases hr with
    | fn _ _ _ us vs p a b => exact .fn f xs ys us vs p (withins_rel hk xs h.1 a) (withins_rel hk ys h.2 b)
  | .ifc t x, v, h, hr => by
    simp only [within] at h
    cases hr with
    | ifc _ _ v a => exact .ifc t x v (within_rel hk x h a)
  | .agg xs, v, h, hr => by
    simp only [within] at h
    cases hr with
    | agg _ vs a => exact .agg xs vs (withins_rel hk xs h a)
  | .tup xs, v, h, hr => by
    simp only [within] at h
    cases hr with
    | tup _ vs a => exact .tup xs vs (withins_rel hk xs h a)
theorem withins_rel {ρ ρ' : Ren} {ks : List Nat} (hk : ∀ b ∈ ks, ∀ i, ρ b = some i → ρ' b = some i) : ∀ (xs : List AV) {vs : List Value}, withins ks xs = true → LRel ρ xs vs → LRel ρ' xs vs
  | [], vs, _, hr => by cases hr; exact .nil
  | x :: xs, vs, h, hr => by
    simp only [withins, Bool.and_eq_true] at h
    cases hr with
    | cons _ v _ vs a b => exact .cons x v xs vs (within_rel hk x h.1 a) (withins_rel hk xs h.2 b)
end

def treeAll (p : AV → Bool) : Tree AV → Bool
  | .leaf => true
  | .node l v r => (match v with
    | some x => p x
    | none => true) && treeAll p l && treeAll p r

theorem treeAll_get {p : AV → Bool} : ∀ {t : Tree AV} {k : Nat} {x : AV}, treeAll p t = true → t.get k = some x → p x = true
  | .leaf, k, x, _, h => by simp [Tree.get] at h
  | .node l v r, k, x, ha, h => by
    simp only [treeAll, Bool.and_eq_true] at ha
    simp only [Tree.get] at h
    split at h
    · rw [h] at ha; exact ha.1.1
    · split at h
      · exact treeAll_get ha.1.2 h
      · exact treeAll_get ha.2 h

def entsIn (ks : List Nat) : List (AV × AV × Nat) → Bool
  | [] => true
  | (k, v, _) :: es => within ks k && within ks v && entsIn ks es

def blkIn (ks : List Nat) : Blk → Bool
  | .row _ t zs _ _ _ => treeAll (within ks) t && withins ks zs
  | .map es _ => entsIn ks es
  | .iter m _ _ _ => match m with
    | some b => inK ks b
    | none => true
  | .siter _ _ => true

theorem withins_mem {ks : List Nat} : ∀ {xs : List AV}, withins ks xs = true → ∀ x ∈ xs, within ks x = true
  | [], _, x, h => by cases h
  | y :: ys, h, x, hx => by
    simp only [withins, Bool.and_eq_true] at h
    rcases List.mem_cons.1 hx with e | hx
    · rw [e]; exact h.1
    · exact withins_mem h.2 x hx

theorem nth_mem {β : Type} : ∀ {l : List β} {n : Nat} {x : β}, nth l n = some x → x ∈ l
  | [], _, _, h => by simp [nth] at h
  | y :: ys, 0, x, h => by simp [nth] at h; simp [h]
  | y :: ys, n + 1, x, h => by
    simp only [nth] at h
    exact List.mem_cons_of_mem _ (nth_mem h)

theorem cellAt_in {tree : Tree AV} {zs : List AV} {n k : Nat} {x : AV} (h : cellAt tree zs n k = some x) : tree.get k = some x ∨ x ∈ zs := by
  unfold cellAt at h
  split at h
  · cases h
  · split at h
    · rename_i v hv
      cases h
      exact .inl hv
    · split at h
      · cases h
      · cases h
        exact .inr (List.mem_cons_self ..)
      · exact .inr (nth_mem h)

theorem EntRel.restrict {ρ ρ' : Ren} {ks : List Nat} (hk : ∀ b ∈ ks, ∀ i, ρ b = some i → ρ' b = some i) : ∀ {es : List (AV × AV × Nat)} {fs : List MapEntry}, entsIn ks es = true → EntRel ρ es fs → EntRel ρ' es fs
  | [], [], _, _ => trivial
  | [], _ :: _, _, h => h.elim
  | _ :: _, [], _, h => h.elim
  | (a, b, n) :: es, f :: fs, h, ⟨h1, h2, h3, h4⟩ => by
    simp only [entsIn, Bool.and_eq_true] at h
    exact ⟨within_rel hk a h.1.1 h1, within_rel hk b h.1.2 h2, h3, EntRel.restrict hk h.2 h4⟩

theorem BlkRel.restrict {P : Program} {ρ ρ' : Ren} {ks : List Nat} (hk : ∀ b ∈ ks, ∀ i, ρ b = some i → ρ' b = some i) {i : Info} : ∀ {x : Blk} {o : Obj}, blkIn ks x = true → BlkRel P ρ i x o → BlkRel P ρ' i x o
  | .row n t zs opn el fz, o, h, ⟨c, fr, e, k⟩ => by
    simp only [blkIn, Bool.and_eq_true] at h
    refine ⟨c, fr, e, k.size, fun j x hx => ?_, k.free, k.mark, k.opn, k.sh0⟩
    obtain ⟨v, h1, h2⟩ := k.val j x hx
    refine ⟨v, h1, within_rel hk x ?_ h2⟩
    rcases cellAt_in hx with hx | hx
    · exact treeAll_get h.1 hx
    · exact withins_mem h.2 x hx
  | .map es clock, o, h, ⟨fs, e, k⟩ => ⟨fs, e, EntRel.restrict hk h k⟩
  | .iter m since seen st, o, h, ⟨m', e, k⟩ => by
    refine ⟨m', e, ?_⟩
    cases m with
    | none => exact k
    | some b =>
      obtain ⟨j, h1, h2⟩ := k
      exact ⟨j, hk b (inK_iff.1 h) j h1, h2⟩
  | .siter s pos, o, h, k => k

section
variable {P : Program} {X : Ext}

theorem tabA_sound {base : Base} {tab run : CallF} (ht : CallOk P base tab) (hr : CallOk P base run) : CallOk P base (tabA tab run) := by
  intro f args A v A' h
  unfold tabA at h
  split at h
  · rename_i r hr'
    cases h
    exact ht f args A v A' hr'
  · exact hr f args A v A' h

theorem callT_sound {base : Base} (hng : XOk P X) (hm : P.follows .mixedOrders = true) {tab : CallF} (ht : CallOk P base tab) (L : Nat) : ∀ n, CallOk P base (callT P X tab L n)
  | 0 => by intro f args A v A' h; simp [callT] at h
  | n + 1 => by
    intro f args A v A' h
    simp only [callT] at h
    split at h
    · exact splitA_sound (bodyA_sound hng hm L (tabA_sound ht (callT_sound hng hm ht L n))) f args A v A' h
    · exact bodyA_sound hng hm L (tabA_sound ht (callT_sound hng hm ht L n)) f args A v A' h

/-- What an entry's answer must be worth. -/
def EntOk (P : Program) (I : World → Prop) (f : Nat) (e : Ent) : Prop :=
  ∀ (base : Base), (∀ w, base.inv w → I w) → ∀ A v A', ansA A e = some (v, A') → ∀ (ρ : Ren) (w : World) (us : List Value), LRel ρ e.args us → WRel P base ρ A w → base ≤ w.heap.size →
    Calls P f ⟨us⟩ w fun r w' => ∃ ρ' v', r = .returned v' ∧ Step base A.next ρ w ρ' w' ∧ WRel P base ρ' A' w' ∧ A.next ≤ A'.next ∧ VRel ρ' v v'

def TabOk (P : Program) (I : World → Prop) (T : Table) : Prop := ∀ g ∈ T, ∀ e ∈ g.2, EntOk P I g.1 e

theorem findE_sound {base : Base} {I : World → Prop} (hI : ∀ w, base.inv w → I w) {f : Nat} : ∀ (es : List Ent), (∀ e ∈ es, EntOk P I f e) → ∀ {args A v A'}, findE es args A = some (v, A') → ∀ (ρ : Ren) (w : World) (us : List Value), LRel ρ args us → WRel P base ρ A w → base ≤ w.heap.size →
    Calls P f ⟨us⟩ w fun r w' => ∃ ρ' v', r = .returned v' ∧ Step base A.next ρ w ρ' w' ∧ WRel P base ρ' A' w' ∧ A.next ≤ A'.next ∧ VRel ρ' v v'
  | [], _, args, A, v, A', h => by simp [findE] at h
  | e :: es, hes, args, A, v, A', h => by
    simp only [findE] at h
    split at h
    · rename_i hq
      have hq := avsEq_eq _ _ hq
      subst hq
      split at h
      · rename_i r hr
        cases h
        exact hes e (List.mem_cons_self ..) base hI A v A' hr
      · exact findE_sound hI es (fun e he => hes e (List.mem_cons_of_mem _ he)) h
    · exact findE_sound hI es (fun e he => hes e (List.mem_cons_of_mem _ he)) h

theorem tabOf_sound {base : Base} {I : World → Prop} (hI : ∀ w, base.inv w → I w) : ∀ (T : Table), TabOk P I T → CallOk P base (tabOf T)
  | [], _ => by intro f args A v A' h; simp [tabOf] at h
  | (g, es) :: T, hT => by
    intro f args A v A' h
    have hrest := tabOf_sound hI T (fun g hg => hT g (List.mem_cons_of_mem _ hg))
    simp only [tabOf] at h
    split at h
    · rename_i hq
      have hq := beq_t hq
      subst hq
      split at h
      · rename_i r hr
        cases h
        exact findE_sound hI es (hT (g, es) (List.mem_cons_self ..)) hr
      · exact hrest g args A v A' h
    · exact hrest f args A v A' h

theorem get_setAll : ∀ (bs : List (Nat × Blk)) (t : Tree Blk) {k : Nat} {x : Blk}, (setAll t bs).get k = some x → (k, x) ∈ bs ∨ (t.get k = some x ∧ ∀ y, (k, y) ∉ bs)
  | [], t, k, x, h => .inr ⟨h, fun y hy => by cases hy⟩
  | (b, y) :: r, t, k, x, h => by
    simp only [setAll] at h
    rcases get_setAll r _ h with h | ⟨h, hn⟩
    · exact .inl (List.mem_cons_of_mem _ h)
    · rw [Tree.get_set] at h
      split at h
      · rename_i e
        cases h
        subst e
        exact .inl (List.mem_cons_self ..)
      · rename_i hne
        refine .inr ⟨h, fun z hz => ?_⟩
        rcases List.mem_cons.1 hz with e | hz
        · cases e; exact hne rfl
        · exact hn z hz

theorem get_delAll : ∀ (ds : List Nat) (t : Tree Blk) {k : Nat} {x : Blk}, (delAll t ds).get k = some x → t.get k = some x ∧ k ∉ ds
  | [], t, k, x, h => ⟨h, by simp⟩
  | d :: r, t, k, x, h => by
    simp only [delAll] at h
    obtain ⟨h1, h2⟩ := get_delAll r _ h
    rw [Tree.get_del] at h1
    split at h1
    · cases h1
    · rename_i hne
      exact ⟨h1, by simp only [List.mem_cons, not_or]; exact ⟨hne, h2⟩⟩

theorem hasRows_spec {A : AW} : ∀ (l : List (Nat × Blk)), hasRows A l = true → ∀ b x, (b, x) ∈ l → A.heap.get b = some x
  | [], _, b, x, hm => by cases hm
  | (c, y) :: r, h, b, x, hm => by
    simp only [hasRows] at h
    split at h <;> first | (cases h; done) | skip
    rename_i z hz
    rw [Bool.and_eq_true] at h
    rcases List.mem_cons.1 hm with e | hm
    · cases e
      rw [hz, blkEq_eq h.1]
    · exact hasRows_spec r h.2 b x hm

/-! ### the check of an entry -/
def keysOf : List (Nat × Blk) → List Nat
  | [] => []
  | (b, _) :: r => b :: keysOf r

theorem keysOf_mem {b : Nat} : ∀ {l : List (Nat × Blk)}, b ∈ keysOf l ↔ ∃ x, (b, x) ∈ l
  | [] => by simp [keysOf]
  | (c, y) :: r => by
    simp only [keysOf, List.mem_cons, keysOf_mem (l := r)]
    constructor
    · rintro (e | ⟨x, h⟩)
      · subst e; exact ⟨y, .inl rfl⟩
      · exact ⟨x, .inr h⟩
    · rintro ⟨x, h | h⟩
      · cases h; exact .inl rfl
      · exact .inr ⟨x, h⟩

/-- The blocks lead to no others; each is below 'n'; no number stands twice. -/
def fpOk (ks : List Nat) (n : Nat) : List (Nat × Blk) → List Nat → Bool
  | [], _ => true
  | (b, x) :: r, seen => blkIn ks x && Nat.ble (b + 1) n && !inK seen b && fpOk ks n r (b :: seen)

theorem fpOk_spec {ks : List Nat} {n : Nat} : ∀ (l : List (Nat × Blk)) (seen : List Nat), fpOk ks n l seen = true → (∀ b x, (b, x) ∈ l → blkIn ks x = true ∧ b < n ∧ b ∉ seen) ∧ ∀ b x y, (b, x) ∈ l → (b, y) ∈ l → x = y
  | [], _, _ => ⟨fun b x h => (by cases h), fun b x y h => (by cases h)⟩
  | (c, z) :: r, seen, h => by
    simp only [fpOk, Bool.and_eq_true, Bool.not_eq_true'] at h
    obtain ⟨⟨⟨h1, h2⟩, h3⟩, h4⟩ := h
    obtain ⟨i1, i2⟩ := fpOk_spec r (c :: seen) h4
    have hc : c ∉ seen := fun hm => by rw [inK_iff.2 hm] at h3; cases h3
    refine ⟨fun b x hm => ?_, fun b x y hx hy => ?_⟩
    · rcases List.mem_cons.1 hm with e | hm
      · cases e; exact ⟨h1, ble_t h2, hc⟩
      · obtain ⟨a1, a2, a3⟩ := i1 b x hm
        exact ⟨a1, a2, fun h => a3 (List.mem_cons_of_mem _ h)⟩
    · rcases List.mem_cons.1 hx with e | hx <;> rcases List.mem_cons.1 hy with f | hy
      · cases e; cases f; rfl
      · cases e
        exact absurd (List.mem_cons_self ..) (i1 _ _ hy).2.2
      · cases f
        exact absurd (List.mem_cons_self ..) (i1 _ _ hx).2.2
      · exact i2 b x y hx hy

def rowsOk (ks : List Nat) (n : Nat) (A : AW) : List (Nat × Blk) → Bool
  | [] => true
  | (b, x) :: r => (Nat.ble n b || inK ks b) && (match A.heap.get b with
    | some y => blkEq x y
    | none => false) && rowsOk ks n A r

/-- What is not said to be changed or forgotten is as it was. -/
def keptOk (A : AW) (gone : List Nat) : List (Nat × Blk) → Bool
  | [] => true
  | (b, x) :: r => (inK gone b || (match A.heap.get b with
    | some y => blkEq x y
    | none => false)) && keptOk A gone r

/-- The next block's number when the call is made, as far as the check goes. -/
def nextOf (e : Ent) : Nat := match e.ans with
  | .val _ => e.nx
  | .rows m _ _ _ => m

def entCheck (P : Program) (X : Ext) (tab : CallF) (L n : Nat) (f : Nat) (e : Ent) : Bool :=
  match withins (keysOf e.fp) e.args && fpOk (keysOf e.fp) (nextOf e) e.fp [] with
  | false => false
  | true => match callT P X tab L n f e.args { next := nextOf e, heap := setAll .leaf e.fp } with
    | none => false
    | some (v', A') => match e.ans with
      | .val v => within [] v && avEq v' v && keptOk A' [] e.fp
      | .rows _ v bs m' => avEq v' v && Nat.beq A'.next m' && rowsOk (keysOf e.fp) (nextOf e) A' bs && keptOk A' (keysOf bs ++ e.dead) e.fp

theorem rowsOk_spec {ks : List Nat} {n : Nat} {A : AW} : ∀ (bs : List (Nat × Blk)), rowsOk ks n A bs = true → ∀ b x, (b, x) ∈ bs → (n ≤ b ∨ b ∈ ks) ∧ A.heap.get b = some x
  | [], _, b, x, hm => by cases hm
  | (c, y) :: r, h, b, x, hm => by
    simp only [rowsOk, Bool.and_eq_true] at h
    obtain ⟨⟨h1, h2⟩, h3⟩ := h
    rcases List.mem_cons.1 hm with e | hm
    · cases e
      split at h2
      · rename_i z hz
        rw [Bool.or_eq_true] at h1
        refine ⟨?_, ?_⟩
        · rcases h1 with h1 | h1
          · exact .inl (ble_t h1)
          · exact .inr (inK_iff.1 h1)
        · rw [hz, blkEq_eq h2]
      · cases h2
    · exact rowsOk_spec r h3 b x hm

theorem keptOk_spec {gone : List Nat} {A : AW} : ∀ (l : List (Nat × Blk)), keptOk A gone l = true → ∀ b x, (b, x) ∈ l → b ∈ gone ∨ A.heap.get b = some x
  | [], _, b, x, hm => by cases hm
  | (c, y) :: r, h, b, x, hm => by
    simp only [keptOk, Bool.and_eq_true] at h
    obtain ⟨h1, h3⟩ := h
    rcases List.mem_cons.1 hm with e | hm
    · cases e
      rw [Bool.or_eq_true] at h1
      rcases h1 with h1 | h1
      · exact .inl (inK_iff.1 h1)
      · split at h1
        · rename_i z hz
          rw [hz, blkEq_eq h1]
          exact .inr rfl
        · cases h1
    · exact keptOk_spec r h3 b x hm

theorem WRel.none {P : Program} {base : Base} {n : Nat} {w : World} (hi : base.inv w) : WRel P base (fun _ => none) { next := n, heap := .leaf } w :=
  ⟨fun _ _ h => (by cases h), fun _ _ _ h => (by cases h), fun _ _ _ _ _ _ h => (by cases h), fun _ _ h => (by simp [Tree.get] at h), fun _ _ _ h => (by cases h), hi⟩

/-- The blocks of a call alone. -/
def only (ρ : Ren) (ks : List Nat) : Ren := fun b => if b ∈ ks then ρ b else none
theorem only_in {ρ : Ren} {ks : List Nat} {b : Nat} {i : Info} (h : only ρ ks b = some i) : b ∈ ks ∧ ρ b = some i := by
  unfold only at h
  split at h
  · exact ⟨‹_›, h⟩
  · cases h
theorem only_mk {ρ : Ren} {ks : List Nat} {b : Nat} (h : b ∈ ks) : only ρ ks b = ρ b := by simp [only, h]

theorem entCheck_sound (hng : XOk P X) (hm : P.follows .mixedOrders = true) {I : World → Prop} {tab : CallF} (ht : ∀ base : Base, (∀ w, base.inv w → I w) → CallOk P base tab) {L n f : Nat} {e : Ent} (h : entCheck P X tab L n f e = true) : EntOk P I f e := by
  unfold entCheck at h
  split at h <;> first | (cases h; done) | skip
  rename_i hfl
  rw [Bool.and_eq_true] at hfl
  obtain ⟨hwi, hfp⟩ := hfl
  obtain ⟨hf1, hf2⟩ := fpOk_spec _ _ hfp
  split at h <;> first | (cases h; done) | skip
  rename_i v1 A1 hc
  intro base hI A v A' ha ρ w us hargs hw hb
  unfold ansA at ha
  split at ha <;> first | (cases ha; done) | skip
  rename_i hhas
  have hrow := hasRows_spec _ hhas
  -- the blocks alone
  let ks := keysOf e.fp
  have hks : ∀ {b}, b ∈ ks ↔ ∃ x, (b, x) ∈ e.fp := keysOf_mem
  have hto : ∀ b ∈ ks, ∀ i, ρ b = some i → only ρ ks b = some i := fun b hb i h => by rw [only_mk hb]; exact h
  have hargs0 : LRel (only ρ ks) e.args us := withins_rel hto _ hwi hargs
  have hget0 : ∀ b x, (setAll .leaf e.fp).get b = some x → (b, x) ∈ e.fp := fun b x h => by
    rcases get_setAll _ _ h with h | ⟨h, _⟩
    · exact h
    · simp [Tree.get] at h
  have hw0 : WRel P base (only ρ ks) { next := nextOf e, heap := setAll .leaf e.fp } w := by
    refine ⟨fun b i h => ?_, fun b i x h hx => ?_, fun b b' i i' x x' h h' hx hx' he => ?_, fun b x hx => ?_, fun b i x h hx => ?_, hw.inv⟩
    · obtain ⟨hbk, hbi⟩ := only_in h
      obtain ⟨x, hx⟩ := hks.1 hbk
      exact ⟨(hf1 b x hx).2.1, (hw.dom b i hbi).2⟩
    · obtain ⟨hbk, hbi⟩ := only_in h
      have hm := hget0 b x hx
      obtain ⟨o, ho, hrel⟩ := hw.blk b i x hbi (hrow b x hm)
      exact ⟨o, ho, hrel.restrict hto (hf1 b x hm).1⟩
    · exact hw.sep _ _ _ _ _ _ (only_in h).2 (only_in h').2 (hrow _ _ (hget0 _ _ hx)) (hrow _ _ (hget0 _ _ hx')) he
    · exact (hf1 b x (hget0 b x hx)).2.1
    · exact hw.lo b i x (only_in h).2 (hrow _ _ (hget0 _ _ hx))
  have hgone : ∀ b i, b ∉ ks → ρ b = some i → ∀ x, A.heap.get b = some x → ∀ b0 i0, only ρ ks b0 = some i0 → i0.cb ≠ i.cb := by
    intro b i hbk hbi x hx b0 i0 h0 he
    obtain ⟨h0k, h0i⟩ := only_in h0
    obtain ⟨x0, hx0⟩ := hks.1 h0k
    exact hbk (hw.sep _ _ _ _ _ _ h0i hbi (hrow _ _ hx0) hx he ▸ h0k)
  have main := callT_sound hng hm (ht base hI) L n f _ _ _ _ hc (only ρ ks) w us hargs0 hw0 hb
  split at ha
  · -- a value alone
    rename_i v0 hans
    cases ha
    rw [hans] at h
    dsimp only at h
    simp only [Bool.and_eq_true] at h
    obtain ⟨⟨h1, h2⟩, h3⟩ := h
    have hv1 := avEq_eq _ _ h2
    subst hv1
    have hkept := keptOk_spec _ h3
    refine main.mono fun r w' hR => ?_
    obtain ⟨ρ', v', rfl, hst, hwr, hnx, hv⟩ := hR
    have hback : ∀ b ∈ ks, ∀ i, ρ' b = some i → ρ b = some i := fun b hbk i h => by
      obtain ⟨x, hx⟩ := hks.1 hbk
      rw [hst.ext b (hf1 b x hx).2.1, only_mk hbk] at h
      exact h
    refine ⟨ρ, v', rfl, ⟨hst.os, hst.tape, hst.output, hst.size, fun c hc hun => hst.frame c hc fun b i hbi => hun b i (only_in hbi).2, fun _ _ => rfl, fun b i h => .inl ⟨b, i, h, rfl⟩, hst.low⟩, ⟨fun b i h => ?_, fun b i x hbi hx => ?_, hw.sep, hw.top, hw.lo, hwr.inv⟩, Nat.le_refl _, within_rel (ks := []) (fun b hb => by cases hb) _ h1 hv⟩
    · exact ⟨(hw.dom b i h).1, Nat.lt_of_lt_of_le (hw.dom b i h).2 hst.size⟩
    · by_cases hbk : b ∈ ks
      · obtain ⟨y, hy⟩ := hks.1 hbk
        have hxy : x = y := by have := hrow b y hy; rw [hx] at this; exact Option.some.inj this
        subst hxy
        rcases hkept b x hy with hg | hg
        · cases hg
        · have hρ' : ρ' b = some i := by rw [hst.ext b (hf1 b x hy).2.1, only_mk hbk]; exact hbi
          obtain ⟨o, ho, hrel⟩ := hwr.blk b i x hρ' hg
          exact ⟨o, ho, hrel.restrict hback (hf1 b x hy).1⟩
      · obtain ⟨o, ho, hrel⟩ := hw.blk b i x hbi hx
        exact ⟨o, by rw [hst.frame _ (hw.dom b i hbi).2 (hgone b i hbk hbi x hx)]; exact ho, hrel⟩
  · -- blocks as well
    rename_i m v0 bs m' hans
    have hnext : nextOf e = m := by unfold nextOf; rw [hans]
    rw [hans] at h
    dsimp only at h
    simp only [Bool.and_eq_true] at h
    obtain ⟨⟨⟨h1, h2⟩, h3⟩, h4⟩ := h
    have hv1 := avEq_eq _ _ h1
    have h2 := beq_t h2
    subst hv1
    subst h2
    split at ha <;> first | (cases ha; done) | skip
    rename_i hn
    have hn := beq_t hn
    rw [hnext, hn] at main hw0 hf1 h3
    cases ha
    have hrows := rowsOk_spec bs h3
    have hkept := keptOk_spec _ h4
    refine main.mono fun r w' hR => ?_
    obtain ⟨ρ', v', rfl, hst, hwr, hnx, hv⟩ := hR
    dsimp only at hst hnx
    let ρ2 : Ren := fun b => if b < A.next then ρ b else ρ' b
    have hlo : ∀ b, b < A.next → ρ2 b = ρ b := fun b h => by simp [ρ2, h]
    have hhi : ∀ b, A.next ≤ b → ρ2 b = ρ' b := fun b h => by simp only [ρ2]; rw [if_neg (by omega)]
    have hold : ∀ b i, b < A.next → ρ' b = some i → b ∈ ks ∧ ρ b = some i := fun b i h hbi => by
      rw [hst.ext b h] at hbi
      exact only_in hbi
    have hle1 : ρ.le ρ2 := fun b i h => by rw [hlo b (hw.dom b i h).1]; exact h
    have hle2 : ρ'.le ρ2 := fun b i h => by
      rcases Nat.lt_or_ge b A.next with h' | h'
      · rw [hlo b h']; exact (hold b i h' h).2
      · rw [hhi b h']; exact h
    -- a row of the outcome: changed or new; or as it was
    have hget : ∀ b i x, ρ2 b = some i → (setAll (delAll A.heap e.dead) bs).get b = some x → (ρ' b = some i ∧ A1.heap.get b = some x) ∨ (b ∉ ks ∧ b < A.next ∧ ρ b = some i ∧ A.heap.get b = some x) := by
      intro b i x hbi hx
      rcases get_setAll bs _ hx with hx | ⟨hx, hnb⟩
      · obtain ⟨hwh, hx⟩ := hrows b x hx
        refine .inl ⟨?_, hx⟩
        rcases Nat.lt_or_ge b A.next with h' | h'
        · rcases hwh with hwh | hwh
          · omega
          · rw [hst.ext b h', only_mk hwh, ← hlo b h']; exact hbi
        · rw [← hhi b h']; exact hbi
      · obtain ⟨hx, hnd⟩ := get_delAll _ _ hx
        have hbn := hw.top b x hx
        rw [hlo b hbn] at hbi
        by_cases hbk : b ∈ ks
        · obtain ⟨y, hy⟩ := hks.1 hbk
          have hxy : x = y := by have := hrow b y hy; rw [hx] at this; exact Option.some.inj this
          subst hxy
          rcases hkept b x hy with hg | hg
          · rcases List.mem_append.1 hg with hg | hg
            · obtain ⟨z, hz⟩ := keysOf_mem.1 hg
              exact absurd hz (hnb z)
            · exact absurd hg hnd
          · exact .inl ⟨by rw [hst.ext b hbn, only_mk hbk]; exact hbi, hg⟩
        · exact .inr ⟨hbk, hbn, hbi, hx⟩
    have hsepn : ∀ b i x b' i' x', b ∉ ks → ρ b = some i → A.heap.get b = some x → ρ' b' = some i' → A1.heap.get b' = some x' → i.cb ≠ i'.cb := by
      intro b i x b' i' x' hbk hbi hx hb' hx' he
      rcases hst.fresh b' i' hb' with ⟨b0, i0, h0, e0⟩ | hge
      · exact hgone b i hbk hbi x hx b0 i0 h0 (by rw [e0, he])
      · have := (hw.dom b i hbi).2; omega
    refine ⟨ρ2, v', rfl, ⟨hst.os, hst.tape, hst.output, hst.size, fun c hc hun => hst.frame c hc fun b i hbi => hun b i (only_in hbi).2, fun b h => hlo b h, fun b i h => ?_, hst.low⟩, ⟨fun b i h => ?_, fun b i x h1 h2 => ?_, fun b b' i i' x x' hb hb' hx hx' he => ?_, fun b x h => ?_, fun b i x h1 h2 => ?_, hwr.inv⟩, hnx, hv.mono hle2⟩
    · rcases Nat.lt_or_ge b A.next with h' | h'
      · rw [hlo b h'] at h; exact .inl ⟨b, i, h, rfl⟩
      · rw [hhi b h'] at h
        rcases hst.fresh b i h with ⟨b0, i0, h0, e0⟩ | hge
        · exact .inl ⟨b0, i0, (only_in h0).2, e0⟩
        · exact .inr hge
    · rcases Nat.lt_or_ge b A.next with h' | h'
      · rw [hlo b h'] at h
        exact ⟨Nat.lt_of_lt_of_le (hw.dom b i h).1 hnx, Nat.lt_of_lt_of_le (hw.dom b i h).2 hst.size⟩
      · rw [hhi b h'] at h
        exact hwr.dom b i h
    · rcases hget b i x h1 h2 with ⟨g1, g2⟩ | ⟨g1, g2, g3, g4⟩
      · obtain ⟨o, ho, hrel⟩ := hwr.blk b i x g1 g2
        exact ⟨o, ho, hrel.mono hle2⟩
      · obtain ⟨o, ho, hrel⟩ := hw.blk b i x g3 g4
        exact ⟨o, by rw [hst.frame _ (hw.dom b i g3).2 (hgone b i g1 g3 x g4)]; exact ho, hrel.mono hle1⟩
    · rcases hget b i x hb hx with ⟨g1, g2⟩ | ⟨g1, g2, g3, g4⟩ <;> rcases hget b' i' x' hb' hx' with ⟨k1, k2⟩ | ⟨k1, k2, k3, k4⟩
      · exact hwr.sep _ _ _ _ _ _ g1 k1 g2 k2 he
      · exact absurd he.symm (hsepn b' i' x' b i x k1 k3 k4 g1 g2)
      · exact absurd he (hsepn b i x b' i' x' g1 g3 g4 k1 k2)
      · exact hw.sep _ _ _ _ _ _ g3 k3 g4 k4 he
    · rcases get_setAll bs _ h with h | ⟨h, _⟩
      · exact hwr.top b x (hrows b x h).2
      · exact Nat.lt_of_lt_of_le (hw.top b x (get_delAll _ _ h).1) hnx
    · rcases hget b i x h1 h2 with ⟨g1, g2⟩ | ⟨g1, g2, g3, g4⟩
      · exact hwr.lo b i x g1 g2
      · exact hw.lo b i x g3 g4

def batchOk (P : Program) (X : Ext) (T : Table) (L n : Nat) (B : Table) : Bool := B.all fun g => g.2.all (entCheck P X (tabOf T) L n g.1)

theorem TabOk.nil {I : World → Prop} : TabOk P I [] := fun g hg => by cases hg
theorem TabOk.add (hng : XOk P X) (hm : P.follows .mixedOrders = true) {I : World → Prop} {T B : Table} (hT : TabOk P I T) {L n : Nat} (h : batchOk P X T L n B = true) : TabOk P I (B ++ T) := by
  intro g hg e he
  rcases List.mem_append.1 hg with hg | hg
  · exact entCheck_sound hng hm (fun base hI => tabOf_sound hI T hT) (List.all_eq_true.1 (List.all_eq_true.1 h g hg) e he)
  · exact hT g hg e he

open Go.WideShapes Go.ChangeShapes in
theorem calls_trueI {P : Program} {X : Ext} (hng : XOk P X) (hm : P.follows .mixedOrders = true) {I : World → Prop} {T : Table} (hT : TabOk P I T) {L n f : Nat} (h : isTrue (callT P X (tabOf T) L n f [] { next := 0, heap := .leaf }) = true) (w : World)
    (hI : I w) (hlow : ∀ w1 w2 : World, (∀ c, c < w.heap.size → w2.heap[c]? = w1.heap[c]?) → I w1 → I w2) :
    Calls P f #[] w fun e w' => e = .returned (.bool true) ∧ Below w.heap.size w w' := by
  unfold isTrue at h
  split at h <;> first | (cases h; done) | skip
  rename_i b A' hc
  subst h
  let base : Base := ⟨w.heap.size, I, hlow⟩
  have hw : WRel P base (fun _ => none) { next := 0, heap := .leaf } w := WRel.none hI
  refine (callT_sound hng hm (tabOf_sound (fun _ h => h) T hT) L n f [] _ _ _ hc (fun _ => none) w [] .nil hw (Nat.le_refl _)).mono fun e w' hR => ?_
  obtain ⟨ρ', v', rfl, hst, _, _, hv⟩ := hR
  obtain ⟨rfl, _⟩ := sc_inv hv
  exact ⟨rfl, hst.below hw (Nat.le_refl _)⟩

open Go.WideShapes Go.ChangeShapes in
theorem calls_trueT {P : Program} {X : Ext} (hng : XOk P X) (hm : P.follows .mixedOrders = true) {T : Table} (hT : TabOk P (fun _ => True) T) {L n f : Nat} (h : isTrue (callT P X (tabOf T) L n f [] { next := 0, heap := .leaf }) = true) (w : World) :
    Calls P f #[] w fun e w' => e = .returned (.bool true) ∧ Below w.heap.size w w' := calls_trueI hng hm hT h w trivial fun _ _ _ _ => trivial

/-- A contract of a call of plain values, as an entry. -/
theorem EntOk.val {P : Program} {I : World → Prop} {f : Nat} {args : List AV} {v : AV} (hv : within [] v = true)
    (h : ∀ w, I w → ∀ (ρ : Ren) us, LRel ρ args us → Calls P f ⟨us⟩ w fun e w' => (∃ u, e = .returned u ∧ ∀ ρ : Ren, VRel ρ v u) ∧ w' = w) : EntOk P I f { args, ans := .val v } := by
  intro base hI A v0 A' ha ρ w us hargs hw hb
  simp only [ansA, hasRows] at ha
  cases ha
  refine (h w (hI w hw.inv) ρ us hargs).mono fun e w' hR => ?_
  obtain ⟨⟨u, rfl, hu⟩, rfl⟩ := hR
  exact ⟨ρ, u, rfl, Step.refl _ _ _, hw, Nat.le_refl _, hu ρ⟩
end
end Go.Ab
/- Slices of data; append of one's own; entries of a table as contracts. By an AI agent. -/
set_option linter.unusedVariables false
set_option linter.unusedSimpArgs false
namespace Go.Ab
open Go Go.RowKit

/-- A datum's cells. -/
structure Enc (α : Type) where
  size : Nat
  cells : α → List AV
  len : ∀ a, (cells a).length = size
  one : ∀ a, (cells a).all oneCell = true

section
variable {α : Type} (E : Enc α)
def Enc.row (xs : List α) : List AV := xs.flatMap E.cells
theorem Enc.row_nil : E.row [] = [] := rfl
theorem Enc.row_cons (x : α) (xs : List α) : E.row (x :: xs) = E.cells x ++ E.row xs := rfl
theorem Enc.row_append (xs ys : List α) : E.row (xs ++ ys) = E.row xs ++ E.row ys := by simp [Enc.row]
theorem Enc.row_one (x : α) : E.row [x] = E.cells x := by simp [Enc.row]
theorem Enc.row_len : ∀ (xs : List α), (E.row xs).length = xs.length * E.size
  | [] => by simp [Enc.row]
  | x :: xs => by rw [Enc.row_cons, List.length_append, E.len, Enc.row_len xs, List.length_cons, Nat.succ_mul, Nat.add_comm]
theorem Enc.row_all : ∀ (xs : List α), (E.row xs).all oneCell = true
  | [] => by simp [Enc.row]
  | x :: xs => by rw [Enc.row_cons, List.all_append, E.one, Enc.row_all xs]; rfl
theorem Enc.row_drop : ∀ (xs : List α) (i : Nat), (E.row xs).drop (i * E.size) = E.row (xs.drop i)
  | [], i => by simp [Enc.row]
  | x :: xs, 0 => by simp
  | x :: xs, i + 1 => by
    rw [Enc.row_cons, Nat.succ_mul, Nat.add_comm, ← List.drop_drop, List.drop_left' (E.len x), Enc.row_drop xs i]
    rfl
theorem Enc.row_take : ∀ (xs : List α) (i : Nat), (E.row xs).take (i * E.size) = E.row (xs.take i)
  | [], i => by simp [Enc.row]
  | x :: xs, 0 => by simp [Enc.row]
  | x :: xs, i + 1 => by
    rw [Enc.row_cons, Nat.succ_mul, Nat.add_comm, List.take_append, List.take_of_length_le (by rw [E.len]; omega), E.len, Nat.add_sub_cancel_left, Enc.row_take xs i]
    rfl
theorem Enc.row_get {xs : List α} {i : Nat} (hi : i < xs.length) : ((E.row xs).drop (i * E.size)).take E.size = E.cells xs[i] := by
  rw [Enc.row_drop, List.drop_eq_getElem_cons hi, Enc.row_cons]
  rw [List.take_append_of_le_length (by rw [E.len]; exact Nat.le_refl _), List.take_of_length_le (by rw [E.len]; exact Nat.le_refl _)]

/-- A slice that is read, of data. -/
abbrev Sl (M : RM) (v : AV) (xs : List α) : Prop := SlR M E.size v (E.row xs) xs.length
/-- A slice of one's own, of data. -/
abbrev Ow (M : RM) (base el : Nat) (v : AV) (xs : List α) : Prop := Own M base el E.size v (E.row xs) xs.length

variable {E} {M M' : RM} {v : AV} {xs : List α}
theorem Sl.elem (h : Sl E M v xs) {i : Nat} (hi : i < xs.length) : ∃ b o, b < M.next ∧ b ∈ blkOf v ∧ (∀ (kd : IntKind) (K : AV → Prop), idxS v (N kd (i : Int)) E.size K = K (.ptr b o)) ∧ M.loads b o E.size = some (E.cells xs[i]) := by
  obtain ⟨b, o, cap, rfl, hb, hl⟩ := h.pos (by omega)
  have hsum : i * E.size + E.size ≤ xs.length * E.size := by rw [← Nat.succ_mul]; exact Nat.mul_le_mul_right _ hi
  refine ⟨b, o + i * E.size, hb, by simp [blkOf], fun kd K => ?_, ?_⟩
  · rw [idxS_slc]
    simp only [Int.toNat_natCast]
    exact propext ⟨fun h => h.2.2, fun h => ⟨by omega, by omega, h⟩⟩
  · rw [loads_sub hl (i * E.size) E.size hsum, E.row_get hi]

theorem Sl.at (h : Sl E M v xs) {i : Nat} (sz : Nat) (j : Int) (hi : i < xs.length) (hsz : E.size = sz := by rfl) (hj : j = (i : Int) := by rfl) : ∃ b o, b < M.next ∧ b ∈ blkOf v ∧ (∀ (kd : IntKind) (K : AV → Prop), idxS v (N kd j) sz K = K (.ptr b o)) ∧ M.loads b o sz = some (E.cells xs[i]) := by
  subst hsz hj; exact h.elem hi

theorem cell_of_loads {b o k : Nat} {cs : List AV} (h : M.loads b o k = some cs) {j : Nat} {x : AV} (hj : cs[j]? = some x) : M.cell b (o + j) = some x := by
  have hlt : j < k := by rw [← loads_len h]; exact (List.getElem?_eq_some_iff.1 hj).1
  rw [loads_get h j hlt, hj]
theorem cell0_of_loads {b o k : Nat} {cs : List AV} (h : M.loads b o k = some cs) {x : AV} (hj : cs[0]? = some x) : M.cell b o = some x := cell_of_loads h hj
theorem loads_part {b o k : Nat} {cs : List AV} (h : M.loads b o k = some cs) (j m : Nat) (hm : j + m ≤ k) : M.loads b (o + j) m = some ((cs.drop j).take m) := loads_sub h j m hm

/-- A slice is appended to one's own. -/
theorem app_all {base T bytes : Nat} {zs : List AV} {u : AV} {ys : List α} {K : PostV} (ho : Ow E M base T v xs) (hb : base ≤ M.next) (hs : 1 ≤ E.size) (hu : Sl E M u ys)
    (hn : (xs.length + ys.length) * bytes ≤ 140737488355328) (hn2 : xs.length + ys.length ≤ 140737488355328)
    (hK : ∀ v' M', Ow E M' base T v' (xs ++ ys) → Keep (blkOf v) M M' → M.next ≤ M'.next → (v' = v ∨ ∀ b ∈ blkOf v', M.next ≤ b) → K v' M') :
    appW T E.size bytes zs false v u M K := by
  refine app_own ho hb hs (SlR.newL hu _) (E.row_len ys) (E.row_all ys) hn hn2 ?_
  intro v' M' h1 h2 h3 h4
  refine hK v' M' ?_ h2 h3 h4
  rw [← E.row_append] at h1
  simpa [Ow] using h1

theorem loads_head {b o k : Nat} {cs : List AV} (h : M.loads b o k = some cs) (m : Nat) (hm : m ≤ k) : M.loads b o m = some (cs.take m) := loads_sub h 0 m (by omega)

/-- A literal's row, read. -/
theorem Sl.new {T c : Nat} {p : Bool} (ys : List α) : Sl E (M.push (.row (E.row ys) p T 0)) (.slc M.next 0 ys.length (.ex c)) ys :=
  .slc _ _ _ _ _ (by simp [RM.push]) (by rw [RM.loads_row (RM.push_new _) (by rw [E.row_len]; omega), List.drop_zero, ← E.row_len, List.take_length])
/-- One element is appended to one's own. -/
theorem app_one {base T bytes : Nat} {zs : List AV} {a : α} {K : PostV} (ho : Ow E M base T v xs) (hb : base ≤ M.next) (hs : 1 ≤ E.size)
    (hn : (xs.length + 1) * bytes ≤ 140737488355328) (hn2 : xs.length + 1 ≤ 140737488355328)
    (hK : ∀ v' M', Ow E M' base T v' (xs ++ [a]) → Keep (blkOf v) M M' → M.next ≤ M'.next → (v' = v ∨ ∀ b ∈ blkOf v', M.next ≤ b) → K v' M') :
    appW T E.size bytes zs false v (.slc M.next 0 1 (.ex 1)) (M.push (.row (E.cells a) false T 0)) K := by
  have hk : Keep [] M (M.push (.row (E.cells a) false T 0)) := (Keep.refl _ _).push _
  refine app_all (ys := [a]) (Own.keep ho hk (by simp)) (Nat.le_trans hb hk.next) hs (by rw [← E.row_one]; exact Sl.new [a]) hn hn2 ?_
  intro v' M' h1 h2 h3 h4
  exact hK v' M' h1 ((hk.mono (by simp)).trans h2) (Nat.le_trans hk.next h3) (h4.imp id fun h b hb => Nat.le_trans hk.next (h b hb))
@[go_sem] theorem rows0 {T : Nat} {zs : List AV} {K : RB → (Nat → AV) → Prop} : rowsW T 0 zs [] K = K (.row [] false T 0) (fun b => .slc b 0 0 (.ex 0)) := by
  apply propext; unfold rowsW
  constructor
  · rintro ⟨l, h, hk⟩; cases h; exact hk
  · intro hk; exact ⟨_, rfl, hk⟩
theorem rows1 {T size : Nat} {zs : List AV} {x : AV} {K : RB → (Nat → AV) → Prop} (h : x.cells.length = size) (h1 : x.cells.all oneCell = true) (hz : zs.length = size) :
    rowsW T 1 zs [(0, size, x)] K = K (.row x.cells false T 0) (fun b => .slc b 0 1 (.ex 1)) := by
  have : fillO (repL zs 1) [(0, size, x)] = some x.cells := by
    simp only [fillO, repL, List.append_nil, h1, h, Nat.zero_add, hz, Nat.le_refl, and_self, if_true, List.take_zero, List.nil_append]
    rw [List.drop_of_length_le (by omega), List.append_nil]
  apply propext; unfold rowsW
  constructor
  · rintro ⟨l, h, hk⟩; rw [this] at h; cases h; exact hk
  · intro hk; exact ⟨_, this, hk⟩
/-- A new literal of no elements, for append. -/
theorem Ow.lit (E : Enc α) {T : Nat} (M : RM) : Ow E (M.push (.row [] false T 0)) M.next T (.slc M.next 0 0 (.ex 0)) [] := Own.lit M (Nat.le_refl _)

theorem i64_succ {i : Nat} (h : i < 9223372036854775807) : IntKind.wrap .i64 ((i : Int) + 1) = ((i + 1 : Nat) : Int) := by
  rw [wrap_i64_id (by omega) (by omega)]; rfl
end

@[go_sem] theorem flatEq_nil : flatEq [] [] [] = some true := rfl
@[go_sem] theorem flatEq_int (ks : List Nat) (k : IntKind) (a b : Int) (xs ys : List AV) : flatEq (1 :: ks) (N k a :: xs) (N k b :: ys) = if a = b then flatEq ks xs ys else some false := by
  simp only [flatEq, cellEq, if_true]
  by_cases h : a = b
  · simp [h]
  · have : (a == b) = false := by simp [h]
    simp [this, h]
@[go_sem] theorem flatEq_str (ks : List Nat) (a b : List UInt8) (xs ys : List AV) : flatEq (2 :: ks) (St a :: xs) (St b :: ys) = if a = b then flatEq ks xs ys else some false := by
  simp only [flatEq, cellEq]
  by_cases h : a = b
  · simp [h]
  · have : (a == b) = false := by simp [h]
    simp [this, h]
@[go_sem] theorem flatEq_bool (ks : List Nat) (a b : Bool) (xs ys : List AV) : flatEq (3 :: ks) (Bo a :: xs) (Bo b :: ys) = if a = b then flatEq ks xs ys else some false := by
  simp only [flatEq, cellEq]
  by_cases h : a = b
  · simp [h]
  · have : (a == b) = false := by simp [h]
    simp [this, h]
/-- Comparison of flat structs. -/
theorem aggEqW_of {neg : Bool} {ks : List Nat} {cs ds : List AV} {r : Bool} {K : AV → Prop} (h1 : cs.length = ks.length) (h2 : ds.length = ks.length) (h : flatEq ks cs ds = some r) : aggEqW neg ks (.agg cs) (.agg ds) K = K (Bo (r != neg)) := by
  rw [aggEqW_agg]
  apply propext
  constructor
  · rintro ⟨_, _, r', h', hk⟩; rw [h] at h'; cases h'; exact hk
  · intro hk; exact ⟨h1, h2, r, h, hk⟩

/-! ### operations behind one guard, joined -/
theorem fuseM (x : AV) (w : Bool) (f g : PostV → Prop) (F G : AV → RM → PostV → Prop) (k : PostV) :
    guardM x w f g (fun v M => guardM x w (F v M) (G v M) k) = guardM x w (fun k' => f fun v M => F v M k') (fun k' => g fun v M => G v M k') k := by
  unfold guardM guardW
  split
  · split <;> simp_all
  · rfl
  · rfl
theorem fuseK (x : AV) (w : Bool) (f g : KR → Prop) (F G : AV → RM → Option Nat → KR → Prop) (k : KR) :
    guardK x w f g (fun v M b => guardK x w (F v M b) (G v M b) k) = guardK x w (fun k' => f fun v M b => F v M b k') (fun k' => g fun v M b => G v M b k') k := by
  unfold guardK guardW
  split
  · split <;> simp_all
  · rfl
  · rfl

theorem fuseKM (x : AV) (w : Bool) (f g : KR → Prop) (F G : AV → RM → Option Nat → PostV → Prop) (k : PostV) :
    guardK x w f g (fun v M b => guardM x w (F v M b) (G v M b) k) = guardM x w (fun k' => f fun v M b => F v M b k') (fun k' => g fun v M b => G v M b k') k := by
  unfold guardK guardM guardW
  split
  · split <;> simp_all
  · rfl
  · rfl
theorem fuseMK (x : AV) (w : Bool) (f g : PostV → Prop) (F G : AV → RM → KR → Prop) (k : KR) :
    guardM x w f g (fun v M => guardK x w (F v M) (G v M) k) = guardK x w (fun k' => f fun v M => F v M k') (fun k' => g fun v M => G v M k') k := by
  unfold guardK guardM guardW
  split
  · split <;> simp_all
  · rfl
  · rfl

/-- A loop by an invariant and a measure; the next round is not looked into. -/
theorem loopW_ind {body : (List AV → RM → Prop) → List AV → RM → Prop} {xs : List AV} {M : RM} (I : Nat → List AV → RM → Prop) (n : Nat) (h0 : I n xs M)
    (hb : ∀ (next : List AV → RM → Prop) m ys M', (∀ m' zs M'', m' < m → I m' zs M'' → next zs M'') → I m ys M' → body next ys M') : loopW body xs M :=
  ⟨I, n, h0, fun m ys M' hI => hb _ m ys M' (fun m' zs M'' hlt h => ⟨m', hlt, h⟩) hI⟩

/-- A table's answer that is plain, as a contract. -/
theorem callsR_tab {P : Program} {I : World → Prop} {T : Table} (hT : TabOk P I T) {f : FuncId} {args : List AV} {v : AV} {M : RM} {Q : PostV} (hP : HasBody P f) (hl : ∀ A, tabOf T f args A = some (v, A))
    (hI : ∀ w, M.base.inv w → I w) (hQ : Q v M) : CallsR P f args M Q := by
  refine ⟨hP, fun ρ w us hargs hw => ?_⟩
  obtain ⟨A, hA⟩ := hw
  refine (tabOf_sound (base := M.base) hI T hT f args A v A (hl A) ρ w us hargs hA.rel hA.size).mono fun e w' hR => ?_
  obtain ⟨ρ', v', rfl, hst, hw', _, hv⟩ := hR
  refine ⟨v', v, M, ρ', rfl, after_of hA hst hw' rfl hA.next (Nat.le_refl _) (fun b x hx => ?_), hv, hQ⟩
  rcases hA.blk b x hx with h | ⟨c, rfl, _⟩
  · exact .inl h
  · exact .inr ⟨c, rfl, hx⟩
end Go.Ab
/- Bytes and texts. By an AI agent. -/
set_option linter.unusedVariables false
set_option linter.unusedSimpArgs false
namespace Go.Ab
open Go Go.RowKit

abbrev By (b : UInt8) : AV := N .u8 (b.toNat : Int)
def BY : Enc UInt8 := ⟨1, fun b => [By b], fun _ => rfl, fun _ => rfl⟩
theorem BY_row (s : List UInt8) : BY.row s = s.map By := by
  induction s with
  | nil => rfl
  | cons b s ih => rw [Enc.row_cons, ih]; rfl
def STR : Enc (List UInt8) := ⟨1, fun s => [St s], fun _ => rfl, fun _ => rfl⟩
theorem STR_row (s : List (List UInt8)) : STR.row s = s.map (fun s => St s) := by
  induction s with
  | nil => rfl
  | cons b s ih => rw [Enc.row_cons, ih]; rfl
def INT : Enc Int := ⟨1, fun n => [N .i64 n], fun _ => rfl, fun _ => rfl⟩
theorem INT_row (s : List Int) : INT.row s = s.map (fun s => N .i64 s) := by
  induction s with
  | nil => rfl
  | cons b s ih => rw [Enc.row_cons, ih]; rfl
def U64 : Enc Nat := ⟨1, fun n => [N .u64 (n : Int)], fun _ => rfl, fun _ => rfl⟩
theorem U64_row (s : List Nat) : U64.row s = s.map (fun (s : Nat) => N .u64 (s : Int)) := by
  induction s with
  | nil => rfl
  | cons b s ih => rw [Enc.row_cons, ih]; rfl

theorem mapO_bytes : ∀ (s : List UInt8), mapO byteOf (s.map By) = some s
  | [] => rfl
  | b :: s => by
    simp only [List.map_cons, mapO, byteOf, mapO_bytes s]
    simp

section
variable {α : Type} {E : Enc α} {M M' : RM} {v : AV} {xs : List α}

/-- A slice of bytes, as a text. -/
theorem Sl.str {s : List UInt8} (h : Sl BY M v s) {K : AV → Prop} : strOfW M v K = K (St s) :=
  strOfW_some (SlR.toStr h (by rw [BY_row]; exact mapO_bytes s))

/-- An element of one cell. -/
theorem Sl.at1 (h : Sl E M v xs) {i : Nat} (j : Int) (hi : i < xs.length) (hsz : E.size = 1 := by rfl) (hj : j = (i : Int) := by rfl) :
    ∃ b o, b < M.next ∧ b ∈ blkOf v ∧ (∀ (kd : IntKind) (K : AV → Prop), idxS v (N kd j) 1 K = K (.ptr b o)) ∧ ∀ x, E.cells xs[i] = [x] → M.cell b o = some x := by
  obtain ⟨b, o, h1, h2, h3, h4⟩ := Sl.at h 1 j hi hsz hj
  exact ⟨b, o, h1, h2, h3, fun x hx => cell0_of_loads h4 (by rw [hx]; rfl)⟩

/-! ### a row that is written: a whole block of data -/
/-- A slice that is a whole block, of data. -/
structure Rw (E : Enc α) (M : RM) (b : Nat) (opn : Bool) (el : Nat) (xs : List α) : Prop where
  heap : M.heap b = some (.row (E.row xs) opn el 0)
  lt : b < M.next

theorem Rw.sl {b el : Nat} {p : Bool} {cap : Cap} (h : Rw E M b p el xs) : Sl E M (.slc b 0 xs.length cap) xs := by
  refine .slc _ _ _ _ _ h.lt ?_
  rw [RM.loads_row h.heap (by rw [E.row_len]; omega), List.drop_zero, ← E.row_len, List.take_length]
theorem Rw.keep {b el : Nat} {p : Bool} {bs : List Nat} (h : Rw E M b p el xs) (hk : Keep bs M M') (hb : b ∉ bs) : Rw E M' b p el xs :=
  ⟨hk.heap_of h.heap h.lt hb, Nat.lt_of_lt_of_le h.lt hk.next⟩
theorem Rw.new {el : Nat} {p : Bool} (M : RM) (xs : List α) : Rw E (M.push (.row (E.row xs) p el 0)) M.next p el xs :=
  ⟨RM.push_new _, by simp [RM.push]⟩
theorem Rw.load {b el : Nat} {p : Bool} (h : Rw E M b p el xs) {i : Nat} (hi : i < xs.length) : M.loads b (i * E.size) E.size = some (E.cells xs[i]) := by
  have hsum : i * E.size + E.size ≤ xs.length * E.size := by rw [← Nat.succ_mul]; exact Nat.mul_le_mul_right _ hi
  rw [RM.loads_row h.heap (by rw [E.row_len]; exact hsum), E.row_get hi]
theorem Enc.row_set (E : Enc α) {xs : List α} {i : Nat} (hi : i < xs.length) (x : α) : E.row (xs.set i x) = (E.row xs).take (i * E.size) ++ E.cells x ++ (E.row xs).drop (i * E.size + E.size) := by
  rw [E.row_take, ← Nat.succ_mul, E.row_drop, List.set_eq_take_append_cons_drop, if_pos hi, E.row_append, E.row_cons, List.append_assoc]
theorem Rw.store {b el : Nat} {p : Bool} (h : Rw E M b p el xs) {i : Nat} (hi : i < xs.length) (x : α) :
    M.stores b (i * E.size) (E.cells x) = some (M.put b (.row (E.row (xs.set i x)) p el 0)) ∧ Rw E (M.put b (.row (E.row (xs.set i x)) p el 0)) b p el (xs.set i x) := by
  have hsum : i * E.size + E.size ≤ xs.length * E.size := by rw [← Nat.succ_mul]; exact Nat.mul_le_mul_right _ hi
  refine ⟨?_, RM.put_same _ _, h.lt⟩
  rw [RM.stores_row h.heap (by rw [E.len, E.row_len]; exact hsum) (Nat.zero_le _) (E.one x), E.row_set hi, E.len]
/-- The same for elements of one cell. -/
theorem Rw.load1 {b el : Nat} {p : Bool} (h : Rw E M b p el xs) {i : Nat} (hi : i < xs.length) (hsz : E.size = 1 := by rfl) {x : AV} (hx : E.cells xs[i] = [x] := by rfl) : M.cell b i = some x := by
  have := h.load hi
  rw [hsz, Nat.mul_one] at this
  exact cell0_of_loads this (by rw [hx]; rfl)
theorem Rw.store1 {b el : Nat} {p : Bool} (h : Rw E M b p el xs) {i : Nat} (hi : i < xs.length) (x : α) (hsz : E.size = 1 := by rfl) {u : AV} (hx : E.cells x = [u] := by rfl) :
    M.stores b i [u] = some (M.put b (.row (E.row (xs.set i x)) p el 0)) ∧ Rw E (M.put b (.row (E.row (xs.set i x)) p el 0)) b p el (xs.set i x) := by
  have := h.store hi x
  rw [hsz, Nat.mul_one, hx] at this
  exact this
end

@[go_sem] theorem bytesW_St (el : Nat) (s : List UInt8) (K : RB → (Nat → AV) → Prop) : bytesW el (St s) K = K (.row (BY.row s) true el 0) (fun b => .slc b 0 s.length (.op 1)) := by
  rw [BY_row]
  apply propext; unfold bytesW
  constructor
  · rintro ⟨s', h, hk⟩; cases h; exact hk
  · intro hk; exact ⟨s, rfl, hk⟩

/-! ### A to Z as a to z -/
def lowB (b : UInt8) : UInt8 := if 65 ≤ b.toNat ∧ b.toNat ≤ 90 then b + 32 else b
def low (s : List UInt8) : List UInt8 := s.map lowB
def LowC (c : CallT) : Prop := ∀ {M : RM} {s : List UInt8} {Q : PostV}, s.length < 9223372036854775807 → (∀ M', Keep [] M M' → Q (St (low s)) M') → c [St s] M Q

/-- As far as place i. -/
def upTo (f : UInt8 → UInt8) (i : Nat) (s : List UInt8) : List UInt8 := (s.take i).map f ++ s.drop i
theorem upTo_zero (f : UInt8 → UInt8) (s : List UInt8) : upTo f 0 s = s := by simp [upTo]
theorem upTo_all (f : UInt8 → UInt8) (s : List UInt8) : upTo f s.length s = s.map f := by simp [upTo]
theorem upTo_len (f : UInt8 → UInt8) (i : Nat) (s : List UInt8) : (upTo f i s).length = s.length := by
  simp [upTo]; omega
theorem upTo_get (f : UInt8 → UInt8) {i : Nat} {s : List UInt8} (hi : i < s.length) : (upTo f i s)[i]? = some s[i] := by
  simp only [upTo]
  rw [List.getElem?_append_right (by simp; omega)]
  simp
  rw [Nat.min_eq_left (by omega), Nat.sub_self, Nat.add_zero, List.getElem?_eq_getElem hi]
theorem upTo_set (f : UInt8 → UInt8) {i : Nat} {s : List UInt8} (hi : i < s.length) : (upTo f i s).set i (f s[i]) = upTo f (i + 1) s := by
  simp only [upTo]
  have hl : ((s.take i).map f).length = i := by simp; omega
  rw [List.set_append_right _ _ (by omega), hl, Nat.sub_self, List.drop_eq_getElem_cons hi, List.set_cons_zero, List.take_succ_eq_append_getElem hi, List.map_append, List.append_assoc]
  rfl
theorem upTo_same (f : UInt8 → UInt8) {i : Nat} {s : List UInt8} (hi : i < s.length) (h : f s[i] = s[i]) : upTo f (i + 1) s = upTo f i s := by
  rw [← upTo_set f hi, h]
  apply List.ext_getElem?
  intro j
  rw [List.getElem?_set]
  split
  · rename_i e; subst e
    rw [upTo_get f hi]; simp [upTo_len, hi]
  · rfl
theorem u8_lt (b : UInt8) : b.toNat < 256 := b.toNat_lt
end Go.Ab
/- Blocks below a number; one's own slices behind stores elsewhere. By an AI agent. -/
set_option linter.unusedVariables false
set_option linter.unusedSimpArgs false
namespace Go.Ab
open Go Go.RowKit

/-- Blocks below n but some are as they were. -/
structure KeepTo (n : Nat) (bs : List Nat) (M M' : RM) : Prop where
  base : M'.base = M.base
  next : M.next ≤ M'.next
  heap : ∀ c, c < n → c ∉ bs → M'.heap c = M.heap c
theorem KeepTo.refl (n : Nat) (bs : List Nat) (M : RM) : KeepTo n bs M M := ⟨rfl, Nat.le_refl _, fun _ _ _ => rfl⟩
theorem KeepTo.trans {n : Nat} {bs : List Nat} {M M1 M2 : RM} (h : KeepTo n bs M M1) (k : KeepTo n bs M1 M2) : KeepTo n bs M M2 :=
  ⟨k.base.trans h.base, Nat.le_trans h.next k.next, fun c h1 h2 => (k.heap c h1 h2).trans (h.heap c h1 h2)⟩
theorem Keep.to {bs cs : List Nat} {n : Nat} {M M' : RM} (h : Keep bs M M') (hn : n ≤ M.next) (hb : ∀ b ∈ bs, n ≤ b ∨ b ∈ cs) : KeepTo n cs M M' :=
  ⟨h.base, h.next, fun c h1 h2 => h.heap c (Nat.lt_of_lt_of_le h1 hn) (fun hm => by rcases hb c hm with h3 | h3; omega; exact h2 h3)⟩
/-- What happened since to blocks made since. -/
theorem Keep.then_to {bs cs : List Nat} {n : Nat} {M0 M M' : RM} (h : Keep bs M0 M) (k : KeepTo n cs M M') (hn : M0.next ≤ n) (hc : ∀ c ∈ cs, M0.next ≤ c ∨ c ∈ bs) : Keep bs M0 M' :=
  ⟨k.base.trans h.base, Nat.le_trans h.next k.next, fun c h1 h2 => by
    rw [k.heap c (Nat.lt_of_lt_of_le h1 hn) (fun hm => by rcases hc c hm with h3 | h3; omega; exact h2 h3), h.heap c h1 h2]⟩
theorem KeepTo.heap_of {n : Nat} {bs : List Nat} {M M' : RM} (h : KeepTo n bs M M') {b : Nat} {x : RB} (hh : M.heap b = some x) (hlt : b < n) (hb : b ∉ bs) : M'.heap b = some x := by rw [h.heap b hlt hb, hh]

theorem Own.same {M M' : RM} {n el size n0 : Nat} {v : AV} {cs : List AV} (h : Own M n0 el size v cs n) (hn : M'.next = M.next) (hb : ∀ c ∈ blkOf v, M'.heap c = M.heap c) (hbase : M'.base = M.base) : Own M' n0 el size v cs n := by
  cases h with
  | nil => exact .nil
  | ex0 b o h1 h2 h3 => exact .ex0 b o h1 (by omega) (by simpa [RM.cells_eq, hb b (by simp [blkOf]), RM.lo, hbase] using h3)
  | op b n cs h1 h2 h3 h4 => exact .op b n cs h1 (by omega) (by rw [hb b (by simp [blkOf]), h3]) h4
theorem Own.one {M : RM} {n el size n0 : Nat} {v : AV} {cs : List AV} (h : Own M n0 el size v cs n) : oneCell v = true := by
  cases h <;> rfl

/-- 'awake' answers true, and leaves memory as it is. -/
def AwakeC (B : Base) (c : CallT) : Prop := ∀ {M : RM} {Q : PostV}, M.base = B → Q (Bo true) M → c [] M Q

theorem Own.cells {M : RM} {n el size n0 : Nat} {v : AV} {cs : List AV} (h : Own M n0 el size v cs n) : v.cells = [v] := by
  cases h <;> rfl
end Go.Ab
/- Contracts of the kit's, at concrete worlds, as contracts over memory like M. By an AI agent. -/
set_option linter.unusedVariables false
set_option linter.unusedSimpArgs false
namespace Go.Ab
open Go Go.RowKit

section
variable {P : Program} {ρ : Ren} {M : RM} {w w' : World}

/-- New memory that nobody looks at. -/
theorem WRel.below {base : Base} {A : AW} (h : WRel P base ρ A w) (hb : Below w.heap.size w w') (hn : base.n ≤ w.heap.size) : WRel P base ρ A w' where
  dom b i hbi := ⟨(h.dom b i hbi).1, Nat.lt_of_lt_of_le (h.dom b i hbi).2 hb.size⟩
  blk b i x hbi hx := let ⟨o, ho, hr⟩ := h.blk b i x hbi hx; ⟨o, by rw [hb.block _ (h.dom b i hbi).2]; exact ho, hr⟩
  sep := h.sep
  top := h.top
  lo := h.lo
  inv := base.low w w' (fun c hc => hb.block c (Nat.lt_of_lt_of_le hc hn)) h.inv

theorem Step.of_below {base n : Nat} (hb : Below w.heap.size w w') (hn : base ≤ w.heap.size) : Step base n ρ w ρ w' where
  os := hb.os
  tape := hb.tape
  output := hb.output
  size := hb.size
  frame c hc _ := hb.block c hc
  ext _ _ := rfl
  fresh b i h := .inl ⟨b, i, h, rfl⟩
  low c hc := hb.block c (Nat.lt_of_lt_of_le hc hn)

theorem After.below (h : MRel P ρ M w) (hb : Below w.heap.size w w') : After P M ρ w M ρ w' := by
  obtain ⟨A, hA⟩ := h
  refine after_of hA (Step.of_below hb hA.size) (hA.rel.below hb hA.size) rfl hA.next (Nat.le_refl _) fun b x hx => ?_
  rcases hA.blk b x hx with h | ⟨c, rfl, _⟩
  · exact .inl h
  · exact .inr ⟨c, rfl, hx⟩

theorem MRel.inv (h : MRel P ρ M w) : M.base.inv w := by
  obtain ⟨A, hA⟩ := h
  exact hA.rel.inv

/-- A contract at concrete worlds that leaves memory as it was. -/
theorem CallsR.of_calls {f : FuncId} {args : List AV} {v : AV} {Q : PostV} (hP : HasBody P f)
    (h : ∀ (ρ : Ren) (w : World) (us : List Value), LRel ρ args us → MRel P ρ M w → Calls P f ⟨us⟩ w fun e w' => ∃ v', e = .returned v' ∧ Below w.heap.size w w' ∧ VRel ρ v v') (hQ : Q v M) : CallsR P f args M Q := by
  refine ⟨hP, fun ρ w us hargs hw => (h ρ w us hargs hw).mono fun e w' hR => ?_⟩
  obtain ⟨v', rfl, hb, hv⟩ := hR
  exact ⟨v', v, M, ρ, rfl, After.below hw hb, hv, hQ⟩
end
end Go.Ab
/- Data whose parts lie in other blocks: slices of structs that hold slices. By an AI agent. -/
set_option linter.unusedVariables false
set_option linter.unusedSimpArgs false
namespace Go.Ab
open Go Go.RowKit

/-- A datum that some cells hold, and what they reach, in blocks of a set. -/
structure Rep (α : Type) where
  size : Nat
  rel : RM → List AV → α → (Nat → Prop) → Prop
  len : ∀ {M cs a S}, rel M cs a S → cs.length = size
  one : ∀ {M cs a S}, rel M cs a S → cs.all oneCell = true
  mono : ∀ {M cs a S S'}, rel M cs a S → (∀ b, S b → S' b) → rel M cs a S'
  lt : ∀ {M cs a S}, rel M cs a S → rel M cs a (fun b => S b ∧ b < M.next)
  keep : ∀ {M M' cs a S bs}, rel M cs a S → Keep bs M M' → (∀ b ∈ bs, ¬ S b) → rel M' cs a S

def Enc.rep {α : Type} (E : Enc α) : Rep α where
  size := E.size
  rel _ cs a _ := cs = E.cells a
  len h := by subst h; exact E.len _
  one h := by subst h; exact E.one _
  mono h _ := h
  lt h := h
  keep h _ _ := h

/-- Rows, one behind the other. -/
inductive RepL {α : Type} (R : Rep α) (M : RM) (S : Nat → Prop) : List AV → List α → Prop
  | nil : RepL R M S [] []
  | cons {cs ds : List AV} {a : α} {xs : List α} : R.rel M cs a S → RepL R M S ds xs → RepL R M S (cs ++ ds) (a :: xs)

section
variable {α : Type} {R : Rep α} {M M' : RM} {S S' : Nat → Prop} {cs ds : List AV} {xs ys : List α} {a : α}
theorem RepL.len (h : RepL R M S cs xs) : cs.length = xs.length * R.size := by
  induction h with
  | nil => simp
  | cons h1 _ ih => rw [List.length_append, R.len h1, ih, List.length_cons, Nat.succ_mul, Nat.add_comm]
theorem RepL.one (h : RepL R M S cs xs) : cs.all oneCell = true := by
  induction h with
  | nil => rfl
  | cons h1 _ ih => rw [List.all_append, R.one h1, ih]; rfl
theorem RepL.mono (h : RepL R M S cs xs) (hs : ∀ b, S b → S' b) : RepL R M S' cs xs := by
  induction h with
  | nil => exact .nil
  | cons h1 _ ih => exact .cons (R.mono h1 hs) ih
theorem RepL.lt (h : RepL R M S cs xs) : RepL R M (fun b => S b ∧ b < M.next) cs xs := by
  induction h with
  | nil => exact .nil
  | cons h1 _ ih => exact .cons (R.lt h1) ih
theorem RepL.keep {bs : List Nat} (h : RepL R M S cs xs) (hk : Keep bs M M') (hb : ∀ b ∈ bs, ¬ S b) : RepL R M' S cs xs := by
  induction h with
  | nil => exact .nil
  | cons h1 _ ih => exact .cons (R.keep h1 hk hb) ih
theorem RepL.append (h : RepL R M S cs xs) (k : RepL R M S ds ys) : RepL R M S (cs ++ ds) (xs ++ ys) := by
  induction h with
  | nil => exact k
  | cons h1 _ ih => rw [List.append_assoc]; exact .cons h1 ih
theorem RepL.single (h : R.rel M cs a S) : RepL R M S cs [a] := by
  have := RepL.cons h .nil
  simpa using this
theorem RepL.get (h : RepL R M S cs xs) : ∀ {i : Nat} (hi : i < xs.length), R.rel M ((cs.drop (i * R.size)).take R.size) xs[i] S := by
  induction h with
  | nil => intro i hi; simp at hi
  | cons h1 h2 ih =>
    rename_i c1 d1 a1 x1
    intro i hi
    cases i with
    | zero =>
      rw [Nat.zero_mul, List.drop_zero, List.take_append_of_le_length (by rw [R.len h1]; exact Nat.le_refl _), List.take_of_length_le (by rw [R.len h1]; exact Nat.le_refl _)]
      exact h1
    | succ i =>
      rw [Nat.succ_mul, Nat.add_comm, ← List.drop_drop, List.drop_left' (R.len h1)]
      exact ih (by simpa using hi)
theorem RepL.take (h : RepL R M S cs xs) : ∀ (k : Nat), RepL R M S (cs.take (k * R.size)) (xs.take k) := by
  induction h with
  | nil => intro k; simp; exact .nil
  | cons h1 h2 ih =>
    intro k
    cases k with
    | zero => simp; exact .nil
    | succ k =>
      rw [Nat.succ_mul, Nat.add_comm, List.take_append, List.take_of_length_le (by rw [R.len h1]; omega), R.len h1, Nat.add_sub_cancel_left]
      exact .cons h1 (ih k)
theorem RepL.drop (h : RepL R M S cs xs) : ∀ (k : Nat), RepL R M S (cs.drop (k * R.size)) (xs.drop k) := by
  induction h with
  | nil => intro k; simp; exact .nil
  | cons h1 h2 ih =>
    intro k
    cases k with
    | zero => simp; exact .cons h1 h2
    | succ k =>
      rw [Nat.succ_mul, Nat.add_comm, ← List.drop_drop, List.drop_left' (R.len h1)]
      exact ih k
theorem RepL.cells {E : Enc α} : ∀ {cs : List AV} {xs : List α}, RepL E.rep M S cs xs → cs = E.row xs
  | _, _, .nil => rfl
  | _, _, .cons h1 h2 => by rw [Enc.row_cons, RepL.cells h2]; rw [show _ = _ from h1]
theorem RepL.of_cells {E : Enc α} : ∀ (xs : List α), RepL E.rep M S (E.row xs) xs
  | [] => .nil
  | x :: xs => by rw [Enc.row_cons]; exact .cons rfl (RepL.of_cells xs)

/-- A slice that is read, whose elements reach on. -/
def SlD (R : Rep α) (M : RM) (v : AV) (xs : List α) (S : Nat → Prop) : Prop :=
  ∃ cs, SlR M R.size v cs xs.length ∧ (∀ b ∈ blkOf v, S b) ∧ RepL R M S cs xs
theorem SlR.lt {size n : Nat} {v : AV} (h : SlR M size v cs n) : ∀ b ∈ blkOf v, b < M.next := by
  cases h with
  | nil => intro b hb; simp [blkOf] at hb
  | emp => intro b hb; simp [blkOf] at hb
  | slc b o n cap cs hb _ => intro c hc; simp [blkOf] at hc; omega
theorem SlR.one {size n : Nat} {v : AV} (h : SlR M size v cs n) : oneCell v = true := by
  cases h <;> rfl
theorem SlR.cells {size n : Nat} {v : AV} (h : SlR M size v cs n) : v.cells = [v] := by
  cases h <;> rfl
variable {v : AV}
theorem SlD.mono (h : SlD R M v xs S) (hs : ∀ b, S b → S' b) : SlD R M v xs S' := let ⟨cs, h1, h2, h3⟩ := h; ⟨cs, h1, fun b hb => hs b (h2 b hb), h3.mono hs⟩
theorem SlD.lt (h : SlD R M v xs S) : SlD R M v xs (fun b => S b ∧ b < M.next) := let ⟨cs, h1, h2, h3⟩ := h; ⟨cs, h1, fun b hb => ⟨h2 b hb, h1.lt b hb⟩, h3.lt⟩
theorem SlD.keep {bs : List Nat} (h : SlD R M v xs S) (hk : Keep bs M M') (hb : ∀ b ∈ bs, ¬ S b) : SlD R M' v xs S :=
  let ⟨cs, h1, h2, h3⟩ := h; ⟨cs, h1.keep hk (fun b hv hbs => hb b hbs (h2 b hv)), h2, h3.keep hk hb⟩
theorem SlD.len (h : SlD R M v xs S) {K : AV → Prop} : lenW v K = K (N .i64 xs.length) := let ⟨cs, h1, _, _⟩ := h; h1.len
theorem SlD.one (h : SlD R M v xs S) : oneCell v = true := let ⟨cs, h1, _, _⟩ := h; h1.one
theorem SlD.cells (h : SlD R M v xs S) : v.cells = [v] := let ⟨cs, h1, _, _⟩ := h; h1.cells
theorem SlD.nil : SlD R M nilS [] S := ⟨[], .nil, by simp [blkOf], .nil⟩
theorem SlD.sl {E : Enc α} (h : SlD E.rep M v xs S) : Sl E M v xs := by
  obtain ⟨cs, h1, h2, h3⟩ := h
  rw [h3.cells] at h1
  exact h1
theorem SlD.of_sl {E : Enc α} (h : Sl E M v xs) (hs : ∀ b ∈ blkOf v, S b) : SlD E.rep M v xs S := ⟨_, h, hs, RepL.of_cells xs⟩

theorem SlD.at (h : SlD R M v xs S) {i : Nat} (sz : Nat) (j : Int) (hi : i < xs.length) (hsz : R.size = sz := by rfl) (hj : j = (i : Int) := by rfl) :
    ∃ b o cs, b < M.next ∧ b ∈ blkOf v ∧ (∀ (kd : IntKind) (K : AV → Prop), idxS v (N kd j) sz K = K (.ptr b o)) ∧ M.loads b o sz = some cs ∧ R.rel M cs xs[i] S := by
  subst hsz hj
  obtain ⟨cs, h1, h2, h3⟩ := h
  obtain ⟨b, o, cap, rfl, hb, hl⟩ := h1.pos (by omega)
  have hsum : i * R.size + R.size ≤ xs.length * R.size := by rw [← Nat.succ_mul]; exact Nat.mul_le_mul_right _ hi
  refine ⟨b, o + i * R.size, (cs.drop (i * R.size)).take R.size, hb, by simp [blkOf], fun kd K => ?_, ?_, h3.get hi⟩
  · rw [idxS_slc]
    simp only [Int.toNat_natCast]
    exact propext ⟨fun h => h.2.2, fun h => ⟨by omega, by omega, h⟩⟩
  · rw [loads_sub hl (i * R.size) R.size hsum]

/-- Slices as data. -/
def Rep.slice (R : Rep α) : Rep (List α) where
  size := 1
  rel M cs xs S := ∃ v, cs = [v] ∧ SlD R M v xs S
  len h := by obtain ⟨v, rfl, _⟩ := h; rfl
  one h := by obtain ⟨v, rfl, h⟩ := h; simp [h.one]
  mono h hs := by obtain ⟨v, rfl, h⟩ := h; exact ⟨v, rfl, h.mono hs⟩
  lt h := by obtain ⟨v, rfl, h⟩ := h; exact ⟨v, rfl, h.lt⟩
  keep h hk hb := by obtain ⟨v, rfl, h⟩ := h; exact ⟨v, rfl, h.keep hk hb⟩

/-- A slice of one's own, whose elements reach on (elsewhere). -/
def OwD (R : Rep α) (M : RM) (base el : Nat) (v : AV) (xs : List α) (S : Nat → Prop) : Prop :=
  ∃ cs, Own M base el R.size v cs xs.length ∧ RepL R M S cs xs
theorem OwD.nil {base el : Nat} : OwD R M base el nilS [] S := ⟨[], .nil, .nil⟩
theorem OwD.mono {base el : Nat} (h : OwD R M base el v xs S) (hs : ∀ b, S b → S' b) : OwD R M base el v xs S' := let ⟨cs, h1, h2⟩ := h; ⟨cs, h1, h2.mono hs⟩
theorem OwD.lt {base el : Nat} (h : OwD R M base el v xs S) : OwD R M base el v xs (fun b => S b ∧ b < M.next) := let ⟨cs, h1, h2⟩ := h; ⟨cs, h1, h2.lt⟩
theorem OwD.keep {base el : Nat} {bs : List Nat} (h : OwD R M base el v xs S) (hk : Keep bs M M') (hb : ∀ b ∈ bs, ¬ S b) (hv : ∀ b ∈ blkOf v, b ∉ bs) : OwD R M' base el v xs S :=
  let ⟨cs, h1, h2⟩ := h; ⟨cs, h1.keep hk hv, h2.keep hk hb⟩
theorem OwD.len {base el : Nat} (h : OwD R M base el v xs S) {K : AV → Prop} : lenW v K = K (N .i64 xs.length) := let ⟨cs, h1, _⟩ := h; h1.slR.len
theorem OwD.blk {base el : Nat} (h : OwD R M base el v xs S) : ∀ b ∈ blkOf v, base ≤ b ∧ b < M.next := let ⟨cs, h1, _⟩ := h; h1.blk
theorem OwD.slD {base el : Nat} (h : OwD R M base el v xs S) (hs : ∀ b, base ≤ b → b < M.next → S b) : SlD R M v xs S :=
  let ⟨cs, h1, h2⟩ := h; ⟨cs, h1.slR, fun b hb => hs b (h1.blk b hb).1 (h1.blk b hb).2, h2⟩
theorem OwD.cells {base el : Nat} (h : OwD R M base el v xs S) : v.cells = [v] := let ⟨cs, h1, _⟩ := h; h1.cells
theorem OwD.one {base el : Nat} (h : OwD R M base el v xs S) : oneCell v = true := let ⟨cs, h1, _⟩ := h; h1.one

/-- An element is appended. -/
theorem OwD.app {base T bytes : Nat} {zs : List AV} {K : PostV} (ho : OwD R M base T v xs S) (ha : R.rel M cs a S) (hb : base ≤ M.next) (hs : 1 ≤ R.size)
    (hd : ∀ b ∈ blkOf v, ¬ S b) (hS : ∀ b, S b → b < M.next)
    (hn : (xs.length + 1) * bytes ≤ 140737488355328) (hn2 : xs.length + 1 ≤ 140737488355328)
    (hK : ∀ v' M', OwD R M' base T v' (xs ++ [a]) S → Keep (blkOf v) M M' → M.next ≤ M'.next → (v' = v ∨ ∀ b ∈ blkOf v', M.next ≤ b) → (∀ b ∈ blkOf v', ¬ S b) → K v' M') :
    appW T R.size bytes zs false v (.slc M.next 0 1 (.ex 1)) (M.push (.row cs false T 0)) K := by
  obtain ⟨ds, h1, h2⟩ := ho
  have hk : Keep [] M (M.push (.row cs false T 0)) := (Keep.refl _ _).push _
  have hl := R.len ha
  have hnl : newL (M.push (.row cs false T 0)) R.size zs false (.slc M.next 0 1 (.ex 1)) = some (1, cs) := by
    simp only [newL, Nat.one_mul]
    rw [RM.loads_row (RM.push_new _) (by omega), List.drop_zero, ← hl, List.take_length]
  refine app_own (h1.keep hk (by simp)) (Nat.le_trans hb hk.next) hs hnl (by rw [hl, Nat.one_mul]) (R.one ha) hn hn2 ?_
  intro v' M' q1 q2 q3 q4
  have kk : Keep (blkOf v) M M' := (hk.mono (by simp)).trans q2
  refine hK v' M' ⟨_, by simpa using q1, ?_⟩ kk (Nat.le_trans hk.next q3) (q4.imp id fun h b hb => Nat.le_trans hk.next (h b hb)) ?_
  · exact (h2.keep kk hd).append (RepL.single (R.keep ha kk hd))
  · rcases q4 with rfl | q4
    · exact hd
    · intro b hb hSb
      have := q4 b hb
      have := hS b hSb
      simp only [RM.push] at *
      omega
end
end Go.Ab
/- Steps on a block whose row is known; structs with data that reach on. By an AI agent. -/
set_option linter.unusedVariables false
set_option linter.unusedSimpArgs false
namespace Go.Ab
open Go Go.RowKit

section
variable {M M' : RM} {b i n e f : Nat} {l : List AV} {p : Bool} {x : AV}
theorem load1_at {K : AV → Prop} (h : M.heap b = some (.row l p e f)) (hx : l[i]? = some x) : load1 M (.ptr b i) K = K x := by
  rw [load1_ptr, RM.cell_of h, hx]; simp
theorem loadN_at {K : AV → Prop} (h : M.heap b = some (.row l p e f)) (hn : l.length = n) : loadN M (.ptr b 0) n K = K (.agg l) := by
  rw [loadN_ptr, RM.loads_of h]
  have : loadsL (some l) 0 n = some l := by simp [loadsL, ← hn]
  rw [this]; simp
theorem storeW_at {K : RM → Prop} (h : M.heap b = some (.row l p e 0)) (hi : i < l.length) (hc : x.cells = [x]) (h1 : oneCell x = true) : storeW M (.ptr b i) x 1 K = K (M.put b (.row (l.set i x) p e 0)) := by
  rw [storeW_ptr, hc, RM.stores_of h, storesL_some (by simp only [List.length_cons, List.length_nil]; omega) (Nat.zero_le _) (by simp [h1])]
  have : l.take i ++ [x] ++ l.drop (i + 1) = l.set i x := by
    rw [List.set_eq_take_append_cons_drop, if_pos hi]; simp
  simp [this]
theorem storeW_to {K : RM → Prop} (l' : List AV) (h : M.heap b = some (.row l p e 0)) (hi : i < l.length) (hc : x.cells = [x]) (h1 : oneCell x = true) (hl : l.set i x = l') : storeW M (.ptr b i) x 1 K = K (M.put b (.row l' p e 0)) := by
  rw [storeW_at h hi hc h1, hl]
theorem fld0 {K : AV → Prop} : fldW (.ptr b 0) n K = K (.ptr b n) := by rw [fldW_ptr, Nat.zero_add]
theorem storeW_all {K : RM → Prop} (h : M.heap b = some (.row l p e 0)) (hn : x.cells.length = n) (hl : l.length = n) (h1 : x.cells.all oneCell = true) : storeW M (.ptr b 0) x n K = K (M.put b (.row x.cells p e 0)) := by
  rw [storeW_ptr, RM.stores_of h, storesL_whole (by rw [hn, hl]) h1]
  simp [hn]
/-- What a block holds behind a store elsewhere, or there. -/
theorem heap_put_ne {c : Nat} {y z : RB} (h : M.heap b = some y) (hb : b ≠ c) : (M.put c z).heap b = some y := by
  simp only [RM.put]; rw [if_neg hb]; exact h
theorem heap_put_eq (y : RB) : (M.put b y).heap b = some y := RM.put_same _ _
theorem heap_push_lt {y z : RB} (h : M.heap b = some y) (hb : b < M.next) : (M.push z).heap b = some y := by
  simp only [RM.push]; rw [if_neg (by omega)]; exact h
theorem next_push (y : RB) : (M.push y).next = M.next + 1 := rfl
theorem next_put (c : Nat) (y : RB) : (M.put c y).next = M.next := rfl

theorem Keep.new {bs : List Nat} (h : Keep bs M M') {b : Nat} (y : RB) (hb : M.next ≤ b) : Keep bs M (M'.put b y) := h.put y (.inl hb)
/-- A later memory, kept but for blocks made since. -/
theorem Keep.since {bs : List Nat} {M1 M2 : RM} (h : Keep bs M M1) (k : Keep bs M1 M2) : Keep bs M M2 := h.trans k
end

variable {M : RM}
theorem extW0 {a : AV} {l : List AV} {K : AV → Prop} : extW (.tup (a :: l)) 0 K = K a := by rw [extW_tup]; simp
theorem extW1 {a b : AV} {l : List AV} {K : AV → Prop} : extW (.tup (a :: b :: l)) 1 K = K b := by rw [extW_tup]; simp
theorem extW2 {a b c : AV} {l : List AV} {K : AV → Prop} : extW (.tup (a :: b :: c :: l)) 2 K = K c := by rw [extW_tup]; simp
theorem extW3 {a b c d : AV} {l : List AV} {K : AV → Prop} : extW (.tup (a :: b :: c :: d :: l)) 3 K = K d := by rw [extW_tup]; simp
theorem condT {p q : Prop} : condW (Bo true) p q = p := by simp [condW_Bo]
theorem condF {p q : Prop} : condW (Bo false) p q = q := by simp [condW_Bo]
theorem condB {b : Bool} {p q : Prop} (h1 : b = true → p) (h2 : b = false → q) : condW (Bo b) p q := ⟨h1, h2⟩

theorem guardM_TT {f g : PostV → Prop} {k : PostV} : guardM (Bo true) true f g k = f k := rfl
theorem guardM_FF {f g : PostV → Prop} {k : PostV} : guardM (Bo false) false f g k = f k := rfl
theorem guardM_TF {f g : PostV → Prop} {k : PostV} : guardM (Bo true) false f g k = g k := rfl
theorem guardM_FT {f g : PostV → Prop} {k : PostV} : guardM (Bo false) true f g k = g k := rfl
theorem guardK_TT {f g : KR → Prop} {k : KR} : guardK (Bo true) true f g k = f k := rfl
theorem guardK_FF {f g : KR → Prop} {k : KR} : guardK (Bo false) false f g k = f k := rfl
theorem guardK_TF {f g : KR → Prop} {k : KR} : guardK (Bo true) false f g k = g k := rfl
theorem guardK_FT {f g : KR → Prop} {k : KR} : guardK (Bo false) true f g k = g k := rfl
theorem guardM_U {w : Bool} {f g : PostV → Prop} {k : PostV} : guardM .undef w f g k = g k := rfl
theorem guardK_U {w : Bool} {f g : KR → Prop} {k : KR} : guardK .undef w f g k = g k := rfl
theorem pickT {a b : AV} {K : AV → Prop} : pickW (Bo true) a b K = K a := by rw [pickW_Bo]; rfl
theorem pickF {a b : AV} {K : AV → Prop} : pickW (Bo false) a b K = K b := by rw [pickW_Bo]; rfl

theorem SlR.known {size : Nat} {v : AV} {cs : List AV} {n : Nat} (h : SlR M size v cs n) : known v = true := by
  cases h <;> rfl
theorem SlD.known {α : Type} {R : Rep α} {v : AV} {xs : List α} {S : Nat → Prop} (h : SlD R M v xs S) : known v = true := let ⟨_, h1, _, _⟩ := h; h1.known
theorem boxW_agg {t : TypeId} {cs : List AV} {K : RB → (Nat → AV) → Prop} (h1 : cs.all oneCell = true) (h2 : 1 ≤ cs.length) : boxW t (.agg cs) K = K (.row cs false t 0) (fun b => .ptr b 0) := by
  unfold boxW
  exact propext ⟨fun h => h.2.2, fun h => ⟨h1, h2, h⟩⟩

theorem build2 {x y a b : AV} (h1 : known x = true) (h2 : x.cells = [x]) (h3 : known y = true) (h4 : y.cells = [y]) : fillL [a, b] [(0, 1, x), (1, 1, y)] = some [x, y] := by
  simp [fillL, h1, h2, h3, h4]

/-- Plain cells, then a datum that reaches on. -/
def Rep.pre {α β : Type} (E : Enc α) (R : Rep β) : Rep (α × β) where
  size := E.size + R.size
  rel M cs a S := ∃ ds, cs = E.cells a.1 ++ ds ∧ R.rel M ds a.2 S
  len h := by obtain ⟨ds, rfl, h⟩ := h; rw [List.length_append, E.len, R.len h]
  one h := by obtain ⟨ds, rfl, h⟩ := h; rw [List.all_append, E.one, R.one h]; rfl
  mono h hs := by obtain ⟨ds, rfl, h⟩ := h; exact ⟨ds, rfl, R.mono h hs⟩
  lt h := by obtain ⟨ds, rfl, h⟩ := h; exact ⟨ds, rfl, R.lt h⟩
  keep h hk hb := by obtain ⟨ds, rfl, h⟩ := h; exact ⟨ds, rfl, R.keep h hk hb⟩
/-- A datum that reaches on, then plain cells. -/
def Rep.post {α β : Type} (R : Rep α) (E : Enc β) : Rep (α × β) where
  size := R.size + E.size
  rel M cs a S := ∃ ds, cs = ds ++ E.cells a.2 ∧ R.rel M ds a.1 S
  len h := by obtain ⟨ds, rfl, h⟩ := h; rw [List.length_append, E.len, R.len h]
  one h := by obtain ⟨ds, rfl, h⟩ := h; rw [List.all_append, E.one, R.one h]; rfl
  mono h hs := by obtain ⟨ds, rfl, h⟩ := h; exact ⟨ds, rfl, R.mono h hs⟩
  lt h := by obtain ⟨ds, rfl, h⟩ := h; exact ⟨ds, rfl, R.lt h⟩
  keep h hk hb := by obtain ⟨ds, rfl, h⟩ := h; exact ⟨ds, rfl, R.keep h hk hb⟩
def Rep.map {α β : Type} (R : Rep α) (g : β → α) : Rep β where
  size := R.size
  rel M cs a S := R.rel M cs (g a) S
  len h := R.len h
  one h := R.one h
  mono h hs := R.mono h hs
  lt h := R.lt h
  keep h hk hb := R.keep h hk hb
end Go.Ab
/- Numbers in order: comparison, binary search: the walks. By an AI agent. -/
set_option maxRecDepth 10000
set_option linter.unusedVariables false
set_option linter.unusedSimpArgs false
namespace Go.Ab.Dot
open Go Go.Ab

def LessC (c : CallT) : Prop := ∀ {M : RM} {x y : Nat} {Q : PostV}, Q (Bo (decide (x < y))) M → c [N .u64 (x : Int), N .u64 (y : Int)] M Q
theorem isNaN_spec {M : RM} {x : Nat} {Q : PostV} (h : Q (Bo false) M) : W_cmp_isNaN_uint64 (N .u64 (x : Int)) M Q := by
  unfold W_cmp_isNaN_uint64
  rw [intW_neq, bne_self_eq_false]; exact h
theorem isNaN2_spec {M : RM} {x : Nat} {Q : PostV} (h : Q (Bo false) M) : W_slices_isNaN_uint64 (N .u64 (x : Int)) M Q := by
  unfold W_slices_isNaN_uint64
  rw [intW_neq, bne_self_eq_false]; exact h
def NaNC (c : CallT) : Prop := ∀ {M : RM} {x : Nat} {Q : PostV}, Q (Bo false) M → c [N .u64 (x : Int)] M Q
theorem less_spec {cn : CallT} (hn : NaNC cn) : LessC fun args M Q => ∃ a0 a1, args = [a0, a1] ∧ W_cmp_Less_uint64 cn a0 a1 M Q := by
  intro M x y Q hQ
  refine ⟨_, _, rfl, ?_⟩
  unfold W_cmp_Less_uint64
  simp only [fuseM]
  refine hn ?_
  rw [guardM_FT]
  dsimp only
  rw [pickF, guardM_FF, intW_lss]
  dsimp only
  rw [pickF, show decide ((x : Int) < (y : Int)) = decide (x < y) by simp]
  exact hQ

/-- Rising, one by one. -/
def Asc (xs : List Nat) : Prop := xs.Pairwise (· < ·)
/-- How many are below. -/
def below (n : Nat) (xs : List Nat) : Nat := (xs.takeWhile (fun x => decide (x < n))).length
theorem below_le (n : Nat) (xs : List Nat) : below n xs ≤ xs.length := by
  unfold below
  induction xs with
  | nil => simp
  | cons x xs ih =>
    rw [List.takeWhile_cons]
    split <;> simp <;> omega
theorem Asc.lt {xs : List Nat} (h : Asc xs) {i j : Nat} (hij : i < j) (hj : j < xs.length) : xs[i]'(by omega) < xs[j] := List.pairwise_iff_getElem.1 h i j (by omega) hj hij
theorem below_char {n : Nat} : ∀ {xs : List Nat} {i : Nat}, i ≤ xs.length → (∀ k (hk : k < xs.length), k < i → xs[k] < n) → (∀ (hi : i < xs.length), n ≤ xs[i]) → below n xs = i
  | [], i, h, _, _ => by simp at h; subst h; rfl
  | x :: xs, 0, _, _, h2 => by
    have := h2 (by simp)
    simp at this
    unfold below
    rw [List.takeWhile_cons, if_neg (by simp; omega)]; rfl
  | x :: xs, i + 1, h, h1, h2 => by
    have hx := h1 0 (by simp) (by omega)
    have := below_char (n := n) (xs := xs) (i := i) (by simpa using h) (fun k hk hki => by have := h1 (k + 1) (by simp; omega) (by omega); simpa using this) (fun hi => by have := h2 (by simp; omega); simpa using this)
    unfold below at *
    rw [List.takeWhile_cons, if_pos (by simpa using hx), List.length_cons, this]
theorem below_mem {n : Nat} {xs : List Nat} (ha : Asc xs) : (n ∈ xs ↔ ∃ h : below n xs < xs.length, xs[below n xs] = n) := by
  constructor
  · intro hm
    obtain ⟨i, hi, he⟩ := List.getElem_of_mem hm
    have hb : below n xs = i := below_char (by omega) (fun k hk hki => by have := ha.lt hki hi; omega) (fun _ => by omega)
    exact ⟨by omega, by simp only [hb]; exact he⟩
  · rintro ⟨h, he⟩
    rw [← he]; exact List.getElem_mem h
theorem below_lt {n : Nat} : ∀ {xs : List Nat} {k : Nat} (hk : k < xs.length), k < below n xs → xs[k] < n
  | x :: xs, k, hk, h => by
    unfold below at h
    rw [List.takeWhile_cons] at h
    split at h
    · rename_i hx
      cases k with
      | zero => simpa using hx
      | succ k => exact below_lt (xs := xs) (k := k) (by simpa using hk) (by unfold below; simpa using h)
    · simp at h
theorem below_ge {n : Nat} : ∀ {xs : List Nat} (h : below n xs < xs.length), n ≤ xs[below n xs]
  | x :: xs, h => by
    unfold below at *
    rw [List.takeWhile_cons] at h
    simp only [List.takeWhile_cons]
    by_cases hx : x < n
    · simp only [hx, decide_true, if_true, List.length_cons] at h ⊢
      exact below_ge (xs := xs) (by unfold below; omega)
    · simp only [hx, decide_false, Bool.false_eq_true, if_false, List.length_nil, List.getElem_cons_zero]
      omega

def SearchC (c : CallT) : Prop := ∀ {M : RM} {v : AV} {xs : List Nat} {n : Nat} {Q : PostV}, Sl U64 M v xs → xs.length ≤ 1000000 → Asc xs → Q (.tup [N .i64 ((below n xs : Nat) : Int), Bo (decide (n ∈ xs))]) M → c [v, N .u64 (n : Int)] M Q
theorem half (i j : Nat) (h : i + j < 9223372036854775808) : N .i64 (IntKind.i64.wrap (shrI .u64 (IntKind.u64.wrap (IntKind.i64.wrap ((i : Int) + (j : Int)))) 1)) = N .i64 (((i + j) / 2 : Nat) : Int) := by
  rw [show IntKind.i64.wrap ((i : Int) + (j : Int)) = ((i + j : Nat) : Int) by rw [wrap_i64_id (by omega) (by omega)]; rfl]
  rw [show IntKind.u64.wrap (((i + j : Nat) : Int)) = ((i + j : Nat) : Int) by unfold IntKind.wrap; simp [IntKind.bits, IntKind.signed]; omega]
  rw [show (1 : Int) = ((1 : Nat) : Int) from rfl, shrI_nat _ _ _ (by decide)]
  rw [show ((i + j : Nat) / 2 ^ 1) = (i + j) / 2 by simp]
  rw [wrap_i64_id (by omega) (by omega)]
theorem search_spec {cl cn : CallT} (hl : LessC cl) (hn : NaNC cn) : SearchC fun args M Q => ∃ a0 a1, args = [a0, a1] ∧ W_slices_BinarySearch_uint64_uint64 cl cn a0 a1 M Q := by
  intro M v xs n Q hv hxl ha hQ
  refine ⟨_, _, rfl, ?_⟩
  unfold W_slices_BinarySearch_uint64_uint64
  simp only [fuseM]
  rw [SlR.len hv]
  refine loopW_ind (fun m ys M3 => M3 = M ∧ ∃ i j : Nat, m = j - i ∧ ys = [N .i64 (i : Int), N .i64 (j : Int)] ∧ i ≤ j ∧ j ≤ xs.length ∧ (∀ k (hk : k < xs.length), k < i → xs[k] < n) ∧ (∀ k (hk : k < xs.length), j ≤ k → n ≤ xs[k])) _
    ⟨rfl, 0, xs.length, rfl, rfl, Nat.zero_le _, Nat.le_refl _, by omega, by omega⟩ ?_
  rintro next m ys M3 hnext ⟨rfl, i, j, rfl, rfl, hij, hj, h1, h2⟩
  dsimp only [nthD]
  rw [intW_lss]
  refine condB (fun hlt => ?_) (fun hge => ?_)
  · have hlt : i < j := by simpa using hlt
    have hh : (i + j) / 2 < j := by omega
    have hh2 : i ≤ (i + j) / 2 := by omega
    rw [intW_add, cvtW_N, shW_shr]
    refine ⟨by omega, ?_⟩
    rw [cvtW_N, half i j (by omega)]
    have hm : (i + j) / 2 < xs.length := by omega
    obtain ⟨b, o, _, _, hidx, hc⟩ := Sl.at1 (E := U64) hv (((i + j) / 2 : Nat) : Int) hm
    have hc := hc _ rfl
    rw [hidx, load1_ptr]
    refine ⟨_, hc, ?_⟩
    refine hl ?_
    refine condB (fun h => ?_) (fun h => ?_)
    · have h : xs[(i + j) / 2] < n := by simpa using h
      rw [intW_add, i64_succ (by omega)]
      refine hnext _ _ _ (by omega) ⟨rfl, (i + j) / 2 + 1, j, rfl, rfl, by omega, hj, fun k hk hki => ?_, h2⟩
      rcases Nat.lt_or_ge k ((i + j) / 2) with h3 | h3
      · have := ha.lt h3 hm; omega
      · have : k = (i + j) / 2 := by omega
        subst this; exact h
    · have h : n ≤ xs[(i + j) / 2] := by simp at h; omega
      refine hnext _ _ _ (by omega) ⟨rfl, i, (i + j) / 2, rfl, rfl, by omega, by omega, h1, fun k hk hki => ?_⟩
      rcases Nat.lt_or_ge ((i + j) / 2) k with h3 | h3
      · have := ha.lt h3 hk; omega
      · have : k = (i + j) / 2 := by omega
        subst this; exact h
  · have hij : i = j := by simp at hge; omega
    subst hij
    have hb : below n xs = i := below_char hj h1 (fun hi => h2 i hi (Nat.le_refl _))
    rw [hb] at hQ
    rw [intW_lss]
    by_cases hi : i < xs.length
    · obtain ⟨b, o, _, _, hidx, hc⟩ := Sl.at1 (E := U64) hv (i : Int) hi
      have hc := hc _ rfl
      have hm : decide (n ∈ xs) = (xs[i] == n) := by
        have := below_mem (n := n) ha
        simp only [hb] at this
        by_cases h : xs[i] = n
        · rw [decide_eq_true (this.2 ⟨hi, h⟩)]; simp [h]
        · rw [decide_eq_false (fun hm => h (this.1 hm).2)]; simp [h]
      rw [hm] at hQ
      rw [show decide ((i : Int) < (xs.length : Int)) = true by simpa using hi, guardM_TT, hidx, load1_ptr]
      refine ⟨_, hc, ?_⟩
      rw [intW_eql, show (((xs[i] : Nat) : Int) == (n : Int)) = (xs[i] == n) by
        by_cases h : xs[i] = n
        · simp [h]
        · have : ((xs[i] : Int) == (n : Int)) = false := by simp; omega
          rw [this]; simp [h]]
      dsimp only
      cases he : xs[i] == n with
      | true =>
        rw [he] at hQ
        simp only [guardM_U, guardM_TT, guardM_TF, guardM_FT, guardM_FF, pickT, pickF]
        exact hQ
      | false =>
        rw [he] at hQ
        rw [guardM_FF, hidx, load1_ptr]
        refine ⟨_, hc, ?_⟩
        refine hn ?_
        simp only [guardM_U, guardM_TT, guardM_TF, guardM_FT, guardM_FF, pickT, pickF]
        exact hQ
    · have hm : decide (n ∈ xs) = false := by
        refine decide_eq_false fun h => ?_
        have := (below_mem (n := n) ha).1 h
        simp only [hb] at this
        exact hi this.1
      rw [hm] at hQ
      rw [show decide ((i : Int) < (xs.length : Int)) = false by simp; omega]
      simp only [guardM_U, guardM_TT, guardM_TF, guardM_FT, guardM_FF, pickT, pickF]
      exact hQ
end Go.Ab.Dot
/- slices.Insert of one number: the walk. By an AI agent. -/
set_option maxRecDepth 10000
set_option linter.unusedVariables false
set_option linter.unusedSimpArgs false
namespace Go.Ab.Dot
open Go Go.Ab

theorem copyW_rows {M : RM} {b bx o ox dn sn k e : Nat} {l vs : List AV} {p : Bool} {cap capx : Cap} {K : PostV} (hd : M.heap b = some (.row l p e 0)) (hk : Nat.min sn dn = k) (hk0 : k ≠ 0) (hl : M.loads bx ox k = some vs) (ho : o + k ≤ l.length) (hall : vs.all oneCell = true) :
    copyW 1 (.slc b o dn cap) (.slc bx ox sn capx) M K = K (N .i64 (k : Int)) (M.put b (.row (l.take o ++ vs ++ l.drop (o + k)) p e 0)) := by
  have hvs := loads_len hl
  have hst : M.stores b o vs = some (M.put b (.row (l.take o ++ vs ++ l.drop (o + k)) p e 0)) := by
    rw [RM.stores_of hd, storesL_some (by omega) (Nat.zero_le _) hall, hvs]; rfl
  have : copyM 1 (.slc b o dn cap) (.slc bx ox sn capx) M = some (N .i64 (k : Int), M.put b (.row (l.take o ++ vs ++ l.drop (o + k)) p e 0)) := by
    unfold copyM
    simp only [lenA, hk, if_neg hk0, firstM, Nat.mul_one, hl, hst]
  unfold copyW
  rw [this]
  apply propext
  constructor
  · rintro ⟨v, M', h, hK⟩; cases h; exact hK
  · intro hK; exact ⟨_, _, rfl, hK⟩
theorem subS_from_ex {size b o n c at' : Nat} (h : at' ≤ n) (hc : n ≤ c) (hne : at' ≠ c) : subS size (.slc b o n (.ex c)) (some (N .i64 (at' : Int))) none none = some (.slc b (o + at' * size) (n - at') (.ex (c - at'))) := by
  simp only [subS, bnd]
  simp [h, hc, Ne.symm hne]
theorem subS_to_ex {size b o n c at' : Nat} (h : at' ≤ c) (hc : c ≠ 0) : subS size (.slc b o n (.ex c)) none (some (N .i64 (at' : Int))) none = some (.slc b o at' (.ex c)) := by
  simp only [subS, bnd]
  simp [h, hc]
theorem subS_from_op {size b o n at' : Nat} (h : at' < n) : subS size (.slc b o n (.op size)) (some (N .i64 (at' : Int))) none none = some (.slc b (o + at' * size) (n - at') (.op size)) := by
  simp only [subS, bnd]
  simp [Nat.le_of_lt h]
  omega

theorem list3 {A B D : List AV} {X : AV} {k m : Nat} (hA : A.length = k) (hB : B.length = m) : (A ++ X :: B).take (k + 1) ++ D ++ (A ++ X :: B).drop (k + 1 + m) = A ++ X :: D := by
  subst hA; subst hB
  have e : A ++ X :: B = (A ++ [X]) ++ B := by simp
  rw [e, List.take_left' (by simp), List.drop_of_length_le (by simp; omega)]
  simp
/-- A slice that may be cut. -/
def capOk : AV → Prop
  | .slc _ _ n (.ex c) => n ≤ c
  | .slc _ _ _ (.op e) => e = 1
  | _ => True
def insL (k x : Nat) (xs : List Nat) : List Nat := xs.take k ++ x :: xs.drop k
theorem insL_len {k x : Nat} {xs : List Nat} (h : k ≤ xs.length) : (insL k x xs).length = xs.length + 1 := by
  simp [insL]; omega
def OverC (c : CallT) : Prop := ∀ {M : RM} {ba oa na bb ob nb ea eb : Nat} {ca cb : Cap} {la lb : List AV} {opb : Bool} {Q : PostV}, ba ≠ bb → M.heap ba = some (.row la false ea 0) → M.heap bb = some (.row lb opb eb 0) → oa + 1 ≤ la.length → 1 ≤ lb.length → Q (Bo false) M → c [.slc ba oa na ca, .slc bb ob nb cb] M Q

theorem i64_succ1 {i : Nat} (h : i < 9223372036854775807) : IntKind.wrap .i64 ((i : Int) + ((1 : Nat) : Int)) = ((i + 1 : Nat) : Int) := i64_succ h
theorem repL_one (k : Nat) : (repL [N .u64 0] k).length = k ∧ (repL [N .u64 0] k).all oneCell = true := by
  induction k with
  | zero => exact ⟨rfl, rfl⟩
  | succ k ih => exact ⟨by simp [repL, ih.1], by simp [repL, ih.2, one_sc]⟩
theorem insert_ex {M : RM} {b bx T n c k x ex : Nat} {xs : List Nat} {co cr : CallT} {Q : PostV} (hov : OverC co) (hn : n = xs.length) (hnl : n ≤ 1000000) (hc : n ≤ c) (hk : k < n)
    (hb : M.heap b = some (.row (U64.row xs ++ List.replicate (c - n) .top) true T 0)) (hbl : b < M.next) (hx : M.heap bx = some (.row [N .u64 (x : Int)] false ex 0)) (hxl : bx < M.next) (hne : bx ≠ b)
    (hQ : ∀ v' M', Sl U64 M' v' (insL k x xs) → capOk v' → (∀ c ∈ blkOf v', c = b ∨ M.next ≤ c) → Keep [b] M M' → Q v' M') : W_slices_Insert_uint64_uint64 T co cr (.slc b 0 n (.ex c)) (N .i64 (k : Int)) (.slc bx 0 1 (.ex 1)) M Q := by
  have hrow : (U64.row xs).length = n := by rw [Enc.row_len, hn]; simp [U64]
  have hlenb : (U64.row xs ++ List.replicate (c - n) AV.top).length = c := by simp [hrow]; omega
  unfold W_slices_Insert_uint64_uint64
  rw [subS_from_ex (by omega) hc (by omega), getW_some, lenW_slc, intW_eql, show ((((1 : Nat) : Int)) == 0) = false from rfl, condF, lenW_slc, intW_eql,
    show (((k : Int)) == (n : Int)) = false by simp; omega, condF, intW_add, i64_succ1 (by omega), capW_ex, intW_gtr]
  have hxo : M.loads bx 0 1 = some [N .u64 (x : Int)] := by rw [RM.loads_row hx (by simp)]; rfl
  have hold : M.loads b k (n - k) = some ((U64.row xs).drop k) := by
    rw [RM.loads_row hb (by omega), List.drop_append_of_le_length (by omega), List.take_append_of_le_length (by simp [hrow]), List.take_of_length_le (by simp [hrow])]
  have hall := U64.row_all xs
  have hins : U64.row (insL k x xs) = (U64.row xs).take k ++ N .u64 (x : Int) :: (U64.row xs).drop k := by
    have h1 := U64.row_take xs k
    have h2 := U64.row_drop xs k
    simp only [show U64.size = 1 from rfl, Nat.mul_one] at h1 h2
    rw [h1, h2, insL, Enc.row_append, Enc.row_cons]; rfl
  have hinl : (insL k x xs).length = n + 1 := by rw [insL_len (by omega), hn]
  have htl : ((U64.row xs).take k).length = k := by simp [hrow]; omega
  have hdl : ((U64.row xs).drop k).length = n - k := by simp [hrow]
  refine condB (fun hg => ?_) (fun hg => ?_)
  · have hcn : c = n := by simp at hg; omega
    subst hcn
    rw [Nat.sub_self, List.replicate_zero, List.append_nil] at hb
    rw [subS_to_ex (by omega) (by omega), getW_some, intW_add, i64_succ1 (by omega), intW_sub,
      show IntKind.wrap .i64 (((c + 1 : Nat) : Int) - (k : Int)) = ((c + 1 - k : Nat) : Int) by rw [wrap_i64_id (by omega) (by omega)]; omega]
    have hr0 := repL_one (c + 1 - k)
    refine ⟨c + 1 - k, repL [N .u64 0] (c + 1 - k), by simp [newL], by omega, by omega, .slc M.next 0 (c + 1) (.op 1), M.push (.row ((U64.row xs).take k ++ repL [N .u64 0] (c + 1 - k)) true T 0), ?_, ?_⟩
    · have hl0 : M.loads b 0 (k * 1) = some ((U64.row xs).take k) := by rw [RM.loads_row hb (by omega)]; simp
      simp only [appM, if_neg (show ¬ c + 1 - k = 0 by omega), if_neg (show ¬ k + (c + 1 - k) ≤ c by omega), hl0]
      have h1 : (((U64.row xs).take k) ++ repL [N .u64 0] (c + 1 - k)).all oneCell = true := by
        rw [List.all_append, hr0.2, Bool.and_true, List.all_eq_true]
        exact fun y hy => List.all_eq_true.1 hall y (List.mem_of_mem_take hy)
      rw [if_pos ⟨by omega, by omega, h1⟩, show k + (c + 1 - k) = c + 1 by omega]
    · have hnew : (M.push (.row ((U64.row xs).take k ++ repL [N .u64 0] (c + 1 - k)) true T 0)).heap M.next = some (.row ((U64.row xs).take k ++ repL [N .u64 0] (c + 1 - k)) true T 0) := RM.push_new _
      have kp : Keep [] M (M.push (.row ((U64.row xs).take k ++ repL [N .u64 0] (c + 1 - k)) true T 0)) := (Keep.refl _ _).push _
      have hb1 := kp.heap_of hb hbl (by simp)
      have hx1 := kp.loads hxl (by simp) (o := 0) (k := 1)
      rw [hxo] at hx1
      have hn1 : (M.push (.row ((U64.row xs).take k ++ repL [N .u64 0] (c + 1 - k)) true T 0)).next = M.next + 1 := rfl
      generalize M.push (.row ((U64.row xs).take k ++ repL [N .u64 0] (c + 1 - k)) true T 0) = M1 at *
      have hnl1 : ((U64.row xs).take k ++ repL [N .u64 0] (c + 1 - k)).length = c + 1 := by rw [List.length_append, htl, hr0.1]; omega
      dsimp only
      rw [subS_from_op (by omega), getW_some, copyW_rows (k := 1) hnew (by simp [Nat.min_def]; omega) (by omega) hx1 (by rw [hnl1]; omega) rfl, intW_add, i64_succ1 (by omega),
        subS_from_op (by omega), getW_some, getW_some]
      simp only [Nat.mul_one, Nat.zero_add]
      have hrowx : ((U64.row xs).take k ++ repL [N .u64 0] (c + 1 - k)).take k ++ [N .u64 (x : Int)] ++ ((U64.row xs).take k ++ repL [N .u64 0] (c + 1 - k)).drop (k + 1) = (U64.row xs).take k ++ N .u64 (x : Int) :: repL [N .u64 0] (c - k) := by
        rw [List.take_append_of_le_length (by omega), List.take_of_length_le (by omega), ← List.drop_drop, List.drop_left' htl, show c + 1 - k = (c - k) + 1 by omega, repL]
        simp
      rw [hrowx]
      have hnew2 : (M1.put M.next (.row ((U64.row xs).take k ++ N .u64 (x : Int) :: repL [N .u64 0] (c - k)) true T 0)).heap M.next = some (.row ((U64.row xs).take k ++ N .u64 (x : Int) :: repL [N .u64 0] (c - k)) true T 0) := heap_put_eq _
      have hb2 := heap_put_ne (z := .row ((U64.row xs).take k ++ N .u64 (x : Int) :: repL [N .u64 0] (c - k)) true T 0) hb1 (show b ≠ M.next by omega)
      have kp2 : Keep [] M (M1.put M.next (.row ((U64.row xs).take k ++ N .u64 (x : Int) :: repL [N .u64 0] (c - k)) true T 0)) := kp.new _ (Nat.le_refl _)
      have hn2 : (M1.put M.next (.row ((U64.row xs).take k ++ N .u64 (x : Int) :: repL [N .u64 0] (c - k)) true T 0)).next = M.next + 1 := hn1
      generalize M1.put M.next (.row ((U64.row xs).take k ++ N .u64 (x : Int) :: repL [N .u64 0] (c - k)) true T 0) = M2 at *
      have hr1 := repL_one (c - k)
      have hold2 : M2.loads b k (c - k) = some ((U64.row xs).drop k) := by
        rw [RM.loads_row hb2 (by omega), List.take_of_length_le (by simp [hrow])]
      have hnl2 : ((U64.row xs).take k ++ N .u64 (x : Int) :: repL [N .u64 0] (c - k)).length = c + 1 := by rw [List.length_append, htl, List.length_cons, hr1.1]; omega
      have hdall : ((U64.row xs).drop k).all oneCell = true := by
        rw [List.all_eq_true]; exact fun y hy => List.all_eq_true.1 hall y (List.mem_of_mem_drop hy)
      rw [copyW_rows (k := c - k) hnew2 (by simp [Nat.min_def]) (by omega) hold2 (by rw [hnl2]; omega) hdall]
      have hrow3 : ((U64.row xs).take k ++ N .u64 (x : Int) :: repL [N .u64 0] (c - k)).take (k + 1) ++ (U64.row xs).drop k ++ ((U64.row xs).take k ++ N .u64 (x : Int) :: repL [N .u64 0] (c - k)).drop (k + 1 + (c - k)) = U64.row (insL k x xs) := by
        rw [list3 htl hr1.1, hins]
      rw [hrow3]
      refine hQ _ _ ?_ rfl (fun d hd => .inr (by simp [blkOf] at hd; omega)) ((kp2.new _ (Nat.le_refl _)).mono (by simp))
      have : Rw U64 (M2.put M.next (.row (U64.row (insL k x xs)) true T 0)) M.next true T (insL k x xs) := ⟨heap_put_eq _, by rw [next_put]; omega⟩
      have h4 := this.sl (cap := .op 1)
      rw [hinl] at h4
      exact h4
  · have hcn : n + 1 ≤ c := by simp at hg; omega
    rw [intW_add, i64_succ1 (by omega), subS_to_ex (by omega) (by omega), getW_some, intW_add, i64_succ1 (by omega), subS_from_ex (by omega) (by omega) (by omega), getW_some]
    simp only [Nat.zero_add, Nat.mul_one]
    refine hov hne hx hb (by simp) (by rw [hlenb]; omega) ?_
    rw [notW_Bo, Bool.not_false, condT, intW_add, i64_succ1 (by omega), subS_from_ex (by omega) (by omega) (by omega), getW_some, subS_from_ex (by omega) (by omega) (by omega), getW_some]
    simp only [Nat.zero_add, Nat.mul_one]
    have hdall : ((U64.row xs).drop k).all oneCell = true := by
      rw [List.all_eq_true]; exact fun y hy => List.all_eq_true.1 hall y (List.mem_of_mem_drop hy)
    rw [copyW_rows (k := n - k) hb (by simp [Nat.min_def]; omega) (by omega) hold (by rw [hlenb]; omega) hdall]
    have hsplit : U64.row xs = (U64.row xs).take k ++ (U64.row xs).drop k := (List.take_append_drop _ _).symm
    obtain ⟨y, D, hD⟩ : ∃ y D, (U64.row xs).drop k = y :: D := by
      cases h : (U64.row xs).drop k with
      | nil => rw [h] at hdl; simp at hdl; omega
      | cons y D => exact ⟨y, D, rfl⟩
    obtain ⟨R, hR⟩ : ∃ R, List.replicate (c - n) AV.top = .top :: R ∧ R.length = c - n - 1 := ⟨List.replicate (c - n - 1) AV.top, by rw [show c - n = (c - n - 1) + 1 by omega, List.replicate_succ]; simp, by simp⟩
    generalize hA : (U64.row xs).take k = A at *
    have hDl : D.length + 1 = n - k := by rw [hD] at hdl; simpa using hdl
    have hrow1 : (U64.row xs ++ List.replicate (c - n) AV.top).take (k + 1) ++ (U64.row xs).drop k ++ (U64.row xs ++ List.replicate (c - n) AV.top).drop (k + 1 + (n - k)) = A ++ y :: (y :: D ++ R) := by
      have hX : U64.row xs = A ++ y :: D := by rw [hsplit, hD]
      rw [hD, hX, hR.1]
      have e1 : A ++ y :: D ++ AV.top :: R = (A ++ [y]) ++ (D ++ AV.top :: R) := by simp
      have e2 : A ++ y :: D ++ AV.top :: R = (A ++ y :: D ++ [AV.top]) ++ R := by simp
      have d1 : (A ++ y :: D ++ AV.top :: R).drop (k + 1 + (n - k)) = R := by rw [e2, List.drop_left' (by simp; omega)]
      have d2 : (A ++ y :: D ++ AV.top :: R).take (k + 1) = A ++ [y] := by rw [e1, List.take_left' (by simp [htl])]
      rw [d1, d2]
      simp
    rw [hrow1]
    have hb2 : (M.put b (.row (A ++ y :: (y :: D ++ R)) true T 0)).heap b = some (.row (A ++ y :: (y :: D ++ R)) true T 0) := heap_put_eq _
    have kp : Keep [b] M (M.put b (.row (A ++ y :: (y :: D ++ R)) true T 0)) := (Keep.refl _ _).put _ (.inr (by simp))
    have hx2 := kp.loads hxl (by simp [hne]) (o := 0) (k := 1)
    rw [hxo] at hx2
    have hn2 : (M.put b (.row (A ++ y :: (y :: D ++ R)) true T 0)).next = M.next := rfl
    generalize M.put b (.row (A ++ y :: (y :: D ++ R)) true T 0) = M2 at *
    have hl2 : (A ++ y :: (y :: D ++ R)).length = c := by simp [htl, hR.2]; omega
    rw [getW_some, copyW_rows (k := 1) hb2 (by simp [Nat.min_def]; omega) (by omega) hx2 (by rw [hl2]; omega) rfl]
    have hrow2 : (A ++ y :: (y :: D ++ R)).take k ++ [N .u64 (x : Int)] ++ (A ++ y :: (y :: D ++ R)).drop (k + 1) = U64.row (insL k x xs) ++ R := by
      rw [hins, hD, List.take_left' htl, show (A ++ y :: (y :: D ++ R)).drop (k + 1) = y :: D ++ R by
        rw [show A ++ y :: (y :: D ++ R) = (A ++ [y]) ++ (y :: D ++ R) by simp, List.drop_left' (by simp [htl])]]
      simp
    rw [hrow2]
    refine hQ _ _ ?_ (show n + 1 ≤ c from hcn) (fun d hd => .inl (by simpa [blkOf] using hd)) (kp.put _ (.inr (by simp)))
    rw [← hinl]
    refine .slc _ _ _ _ _ (by rw [next_put, hn2]; exact hbl) ?_
    have hil : (U64.row (insL k x xs)).length = n + 1 := by rw [Enc.row_len, hinl]; simp [U64]
    show RM.loads _ b 0 ((insL k x xs).length * 1) = _
    rw [Nat.mul_one, hinl, RM.loads_row (heap_put_eq _) (by rw [List.length_append, hil]; omega), List.drop_zero, List.take_append_of_le_length (by omega), List.take_of_length_le (by omega)]
end Go.Ab.Dot
/- One device's dots: settling, adding, asking: the walks. By an AI agent. -/
set_option maxRecDepth 10000
set_option linter.unusedVariables false
set_option linter.unusedSimpArgs false
namespace Go.Ab.Dot
open Go Go.Ab

theorem Own.capOk {M : RM} {n el n0 : Nat} {v : AV} {cs : List AV} (h : Own M n0 el 1 v cs n) : capOk v := by
  cases h with
  | nil => trivial
  | ex0 => exact Nat.le_refl _
  | op => rfl
theorem sub_from {M : RM} {v : AV} {xs : List Nat} {k : Nat} (h : Sl U64 M v xs) (hc : capOk v) (hk : k ≤ xs.length) :
    ∃ v', subS 1 v (some (N .i64 (k : Int))) none none = some v' ∧ Sl U64 M v' (xs.drop k) ∧ capOk v' ∧ ∀ b ∈ blkOf v', b ∈ blkOf v := by
  generalize hcs : U64.row xs = cs at *
  have h' : SlR M 1 v cs xs.length := by rw [← hcs]; exact h
  have hl : cs.length = xs.length := by rw [← hcs, Enc.row_len]; simp [U64]
  have hd : U64.row (xs.drop k) = cs.drop k := by rw [← hcs, ← U64.row_drop]; simp [U64]
  generalize hn : xs.length = n at *
  cases h' with
  | nil =>
    have : k = 0 := by omega
    subst this
    exact ⟨nilS, by simp [subS, bnd], by simp only [Sl]; rw [hd]; simp [hn]; exact .nil, trivial, by simp⟩
  | emp b =>
    have : k = 0 := by omega
    subst this
    exact ⟨.emp b, by simp [subS, bnd], by simp only [Sl]; rw [hd]; simp [hn]; exact .emp b, trivial, by simp⟩
  | slc b o n cap cs hb hload =>
    rw [Nat.mul_one] at hload
    have hpart : M.loads b (o + k) (n - k) = some (cs.drop k) := by
      have := loads_sub hload k (n - k) (by omega)
      rw [List.take_of_length_le (by simp; omega)] at this
      exact this
    cases cap with
    | ex c =>
      have hcn : n ≤ c := hc
      by_cases hck : c = k
      · have hkn : k = n := by omega
        refine ⟨.slc b o 0 (.ex 0), by simp only [subS, bnd]; simp [hk, hcn, hck]; omega, ?_, Nat.le_refl _, by simp [blkOf]⟩
        simp only [Sl]
        rw [hd, List.length_drop, hn, hkn, Nat.sub_self, List.drop_of_length_le (by omega)]
        refine .slc b o 0 _ _ hb ?_
        have := loads_sub hload 0 0 (by omega)
        simpa using this
      · refine ⟨.slc b (o + k * 1) (n - k) (.ex (c - k)), by simp only [subS, bnd]; simp [hk, hcn, hck], ?_, by simp only [capOk]; omega, by simp [blkOf]⟩
        simp only [Sl]
        rw [hd, List.length_drop, hn]
        refine .slc _ _ _ _ _ hb ?_
        show M.loads b (o + k * 1) ((n - k) * 1) = _
        rw [Nat.mul_one, Nat.mul_one]; exact hpart
    | op e =>
      have he : e = 1 := hc
      subst he
      by_cases hkn : n ≤ k
      · refine ⟨.emp b, by simp only [subS, bnd]; simp [hk, hkn], ?_, trivial, by simp [blkOf]⟩
        simp only [Sl]
        rw [hd, List.length_drop, hn, show n - k = 0 by omega, List.drop_of_length_le (by omega)]
        exact .emp b
      · refine ⟨.slc b (o + k * 1) (n - k) (.op 1), by simp only [subS, bnd]; simp [hk, hkn], ?_, rfl, by simp [blkOf]⟩
        simp only [Sl]
        rw [hd, List.length_drop, hn]
        refine .slc _ _ _ _ _ hb ?_
        show M.loads b (o + k * 1) ((n - k) * 1) = _
        rw [Nat.mul_one, Nat.mul_one]; exact hpart

/-- Settled: how far, and how many others went in. -/
def settleK : Nat → List Nat → Nat × Nat
  | u, [] => (u, 0)
  | u, x :: xs => if x ≤ u + 1 then ((settleK (max u x) xs).1, (settleK (max u x) xs).2 + 1) else (u, 0)
def settle (u : Nat) (xs : List Nat) : Nat × List Nat := ((settleK u xs).1, xs.drop (settleK u xs).2)
theorem settleK_le : ∀ (xs : List Nat) (u : Nat), (settleK u xs).2 ≤ xs.length
  | [], u => Nat.le_refl _
  | x :: xs, u => by
    rw [settleK]
    split
    · have := settleK_le xs (max u x); simp; omega
    · simp
/-- So far: i others are in. -/
theorem settleK_step {u : Nat} {xs : List Nat} {i u' : Nat} (hi : i < xs.length) (h : settleK u xs = ((settleK u' (xs.drop i)).1, (settleK u' (xs.drop i)).2 + i)) (hle : xs[i] ≤ u' + 1) :
    settleK u xs = ((settleK (max u' xs[i]) (xs.drop (i + 1))).1, (settleK (max u' xs[i]) (xs.drop (i + 1))).2 + (i + 1)) := by
  rw [h, List.drop_eq_getElem_cons hi, settleK, if_pos hle]
  ext <;> simp; omega
theorem settleK_stop {u : Nat} {xs : List Nat} {i u' : Nat} (h : settleK u xs = ((settleK u' (xs.drop i)).1, (settleK u' (xs.drop i)).2 + i)) (hs : i = xs.length ∨ ∃ hi : i < xs.length, ¬ xs[i] ≤ u' + 1) : settleK u xs = (u', i) := by
  rw [h]
  rcases hs with hs | ⟨hi, hs⟩
  · rw [List.drop_of_length_le (by omega)]; simp [settleK]
  · rw [List.drop_eq_getElem_cons hi, settleK, if_neg hs]; simp
theorem max_wrap (a b : Nat) : (if (b : Int) > (a : Int) then (b : Int) else (a : Int)) = ((max a b : Nat) : Int) := by
  split <;> omega

theorem set_same {l : List AV} {o : Nat} {x : AV} (h : l[o]? = some x) : l.set o x = l := by
  apply List.ext_getElem?
  intro j
  rw [List.getElem?_set]
  split
  · rename_i e; subst e
    obtain ⟨h1, h2⟩ := List.getElem?_eq_some_iff.1 h
    simp [h1, h2]
  · rfl
def SettledC (c : CallT) : Prop := ∀ {M : RM} {b o T u : Nat} {l : List AV} {v : AV} {xs : List Nat} {Q : PostV}, M.heap b = some (.row l false T 0) → l[o]? = some (N .u64 (u : Int)) → l[o + 1]? = some v → Sl U64 M v xs → b ∉ blkOf v → capOk v →
  xs.length ≤ 1000000 → u ≤ 4398046511104 → (∀ x ∈ xs, x ≤ 4398046511104) →
  (∀ v' M', M'.heap b = some (.row ((l.set o (N .u64 (((settle u xs).1 : Nat) : Int))).set (o + 1) v') false T 0) → Sl U64 M' v' (settle u xs).2 → capOk v' → (∀ d ∈ blkOf v', d ∈ blkOf v) → Keep [b] M M' → M'.next = M.next → Q (.tup []) M') → c [.ptr b o] M Q

theorem settled_spec : SettledC fun args M Q => ∃ a0, args = [a0] ∧ W_rolodex_dot_part_settled a0 M Q := by
  intro M b o T u l v xs Q hb ho hv hs hbv hcap hxl hu hx hQ
  refine ⟨_, rfl, ?_⟩
  unfold W_rolodex_dot_part_settled
  simp only [fuseK]
  have hol : o < l.length := (List.getElem?_eq_some_iff.1 ho).1
  have hol1 : o + 1 < l.length := (List.getElem?_eq_some_iff.1 hv).1
  refine loopW_ind (fun m ys M3 => ∃ (i u' : Nat), m = xs.length - i ∧ ys = [N .i64 (i : Int)] ∧ i ≤ xs.length ∧ u' ≤ 4398046511104 ∧ M3.heap b = some (.row (l.set o (N .u64 (u' : Int))) false T 0) ∧ Keep [b] M M3 ∧ M3.next = M.next ∧
      settleK u xs = ((settleK u' (xs.drop i)).1, (settleK u' (xs.drop i)).2 + i)) _
    ⟨0, u, rfl, rfl, Nat.zero_le _, hu, ?_, Keep.refl _ _, rfl, by simp⟩ ?_
  · rw [hb]
    rw [set_same ho]
  rintro next m ys M3 hnext ⟨i, u', rfl, rfl, hi, hu', h3, hK, hn3, hset⟩
  dsimp only [nthD]
  have g0 : (l.set o (N .u64 (u' : Int)))[o]? = some (N .u64 (u' : Int)) := by rw [List.getElem?_set_self hol]
  have g1 : (l.set o (N .u64 (u' : Int)))[o + 1]? = some v := by rw [List.getElem?_set_ne (by omega)]; exact hv
  have hs3 : Sl U64 M3 v xs := SlR.keep hs hK (fun d hd h => by simp at h; subst h; exact hbv hd)
  rw [ptrW_ptr, fldW_ptr, load1_at h3 g1, SlR.len hs3, intW_lss]
  have stop : (i = xs.length ∨ ∃ hi : i < xs.length, ¬ xs[i] ≤ u' + 1) → ptrW (.ptr b o) fun t44 => fldW t44 1 fun t45 => load1 M3 t45 fun t46 => getW (subS 1 t46 (some (N .i64 (i : Int))) none none) fun t48 => ptrW (.ptr b o) fun t49 => fldW t49 1 fun t50 => storeW M3 t50 t48 1 fun M_48 => Q (.tup []) M_48 := fun h => by
    have he := settleK_stop hset h
    rw [ptrW_ptr, fldW_ptr, load1_at h3 g1]
    obtain ⟨v', e1, e2, e3, e4⟩ := sub_from hs3 hcap hi
    rw [e1, getW_some, ptrW_ptr, fldW_ptr, storeW_at h3 (by simpa using hol1) (SlR.cells e2) (SlR.one e2)]
    have kk : Keep [b] M3 (M3.put b (.row ((l.set o (N .u64 (u' : Int))).set (o + 1) v') false T 0)) := (Keep.refl _ _).put _ (.inr (by simp))
    refine hQ v' _ ?_ ?_ e3 e4 (hK.trans kk) hn3
    · rw [heap_put_eq, settle, he]
    · rw [settle, he]
      exact SlR.keep e2 kk (fun d hd h => by simp at h; subst h; exact hbv (e4 _ hd))
  by_cases hlt : i < xs.length
  · have hxi := hx _ (List.getElem_mem hlt)
    obtain ⟨b1, o1, _, _, hidx, hc⟩ := Sl.at1 (E := U64) hs3 (i : Int) hlt
    have hc := hc _ rfl
    rw [show decide ((i : Int) < (xs.length : Int)) = true by simpa using hlt, guardK_TT, ptrW_ptr, fldW_ptr, load1_at h3 g1, hidx, load1_ptr]
    refine ⟨_, hc, ?_⟩
    rw [ptrW_ptr, fldW_ptr, Nat.add_zero, load1_at h3 g0, intW_add, intW_leq]
    rw [show IntKind.u64.wrap ((u' : Int) + 1) = ((u' + 1 : Nat) : Int) by unfold IntKind.wrap; simp [IntKind.bits, IntKind.signed]; omega]
    dsimp only
    rw [pickT]
    refine condB (fun h => ?_) (fun h => ?_)
    · have hle : xs[i] ≤ u' + 1 := by
        have h2 : ((xs[i] : Nat) : Int) ≤ ((u' + 1 : Nat) : Int) := of_decide_eq_true h
        omega
      rw [ptrW_ptr, fldW_ptr, Nat.add_zero, load1_at h3 g0, ptrW_ptr, fldW_ptr, load1_at h3 g1, hidx, load1_ptr]
      refine ⟨_, hc, ?_⟩
      rw [minW_N, if_pos rfl, max_wrap, ptrW_ptr, fldW_ptr, Nat.add_zero, storeW_to (l.set o (N .u64 ((max u' xs[i] : Nat) : Int))) h3 (by simpa using hol) rfl rfl (by rw [List.set_set]), intW_add, i64_succ (by omega)]
      exact hnext _ _ _ (by omega) ⟨i + 1, max u' xs[i], rfl, rfl, by omega, by omega, heap_put_eq _, hK.put _ (.inr (by simp)), hn3, settleK_step hlt hset hle⟩
    · have hle : ¬ xs[i] ≤ u' + 1 := by
        have h2 : ¬ ((xs[i] : Nat) : Int) ≤ ((u' + 1 : Nat) : Int) := of_decide_eq_false h
        omega
      exact stop (.inr ⟨hlt, hle⟩)
  · rw [show decide ((i : Int) < (xs.length : Int)) = false by simp; omega, guardK_FT]
    dsimp only
    rw [pickF, condF]
    exact stop (.inl (by omega))

abbrev Pt := Nat × List Nat
def addP (p : Pt) (n : Nat) : Bool × Pt :=
  if n ∈ p.2 ∨ n ≤ p.1 then (true, p)
  else if (settle p.1 (insL (below n p.2) n p.2)).2.length ≤ 4096 then (true, settle p.1 (insL (below n p.2) n p.2)) else (false, p)
def InsertC (T : Nat) (c : CallT) : Prop := ∀ {M : RM} {v : AV} {bx n0 k x ex : Nat} {xs : List Nat} {Q : PostV}, Ow U64 M n0 T v xs → n0 ≤ M.next → xs.length ≤ 100000 → k ≤ xs.length → M.heap bx = some (.row [N .u64 (x : Int)] false ex 0) → bx < M.next → bx ∉ blkOf v →
  (∀ v' M', Sl U64 M' v' (insL k x xs) → capOk v' → (∀ c ∈ blkOf v', n0 ≤ c) → Keep (blkOf v) M M' → Q v' M') → c [v, N .i64 (k : Int), .slc bx 0 1 (.ex 1)] M Q
theorem settle_len (u : Nat) (xs : List Nat) : (settle u xs).2.length ≤ xs.length := by simp [settle]
theorem insL_mem {k x : Nat} {xs : List Nat} {y : Nat} (h : y ∈ insL k x xs) : y = x ∨ y ∈ xs := by
  unfold insL at h
  rcases List.mem_append.1 h with h | h
  · exact .inr (List.mem_of_mem_take h)
  · rcases List.mem_cons.1 h with h | h
    · exact .inl h
    · exact .inr (List.mem_of_mem_drop h)

/-- Adding to a part. -/
def AddPC (c : CallT) : Prop := ∀ {M : RM} {b o T u n : Nat} {l : List AV} {v : AV} {xs : List Nat} {Q : PostV}, M.heap b = some (.row l false T 0) → b < M.next → l[o]? = some (N .u64 (u : Int)) → l[o + 1]? = some v → Sl U64 M v xs → b ∉ blkOf v → capOk v →
  Asc xs → xs.length ≤ 10000 → u ≤ 4398046511104 → (∀ x ∈ xs, x ≤ 4398046511104) → n ≤ 4398046511104 →
  (∀ M', addP (u, xs) n = ((addP (u, xs) n).1, (u, xs)) → Keep [] M M' → Q (Bo (addP (u, xs) n).1) M') →
  (∀ v' M', M'.heap b = some (.row (l.take o ++ [N .u64 (((addP (u, xs) n).2.1 : Nat) : Int), v'] ++ l.drop (o + 2)) false T 0) → Sl U64 M' v' (addP (u, xs) n).2.2 → capOk v' → (∀ d ∈ blkOf v', M.next ≤ d) → Keep [b] M M' → Q (Bo (addP (u, xs) n).1) M') →
  c [.ptr b o, N .u64 (n : Int)] M Q

theorem addP_spec {TU TP : Nat} {cb cc ci cs : CallT} (hsr : SearchC cb) (hcl : CloneC TU 1 8 cc) (hin : InsertC TU ci) (hst : SettledC cs) : AddPC fun args M Q => ∃ a0 a1, args = [a0, a1] ∧ W_rolodex_dot_part_add cb TU TP cc ci cs a0 a1 M Q := by
  intro M b o T u n l v xs Q hb hbl ho hv hs hbv hcap hasc hxl hu hx hn hsame hnew
  refine ⟨_, _, rfl, ?_⟩
  unfold W_rolodex_dot_part_add
  simp only [fuseM]
  have hol : o + 1 < l.length := (List.getElem?_eq_some_iff.1 hv).1
  rw [ptrW_ptr, fldW_ptr, load1_at hb hv]
  refine hsr hs (by omega) hasc ?_
  rw [extW0, extW1]
  have yes : n ∈ xs ∨ n ≤ u → Q (Bo true) M := fun h => by
    have e : addP (u, xs) n = (true, (u, xs)) := by unfold addP; rw [if_pos h]
    have := hsame M (by rw [e]) (Keep.refl _ _)
    rw [e] at this; exact this
  by_cases hm : n ∈ xs
  · rw [decide_eq_true hm, guardM_TF]
    dsimp only
    rw [pickT, condT]
    exact yes (.inl hm)
  rw [decide_eq_false hm, guardM_FF, ptrW_ptr, fldW_ptr, Nat.add_zero, load1_at hb ho, intW_leq]
  dsimp only
  rw [pickF]
  by_cases hnu : n ≤ u
  · rw [show decide ((n : Int) ≤ (u : Int)) = true by simpa using hnu, condT]
    exact yes (.inr hnu)
  rw [show decide ((n : Int) ≤ (u : Int)) = false by simp; omega, condF]
  have e0 : addP (u, xs) n = if (settle u (insL (below n xs) n xs)).2.length ≤ 4096 then (true, settle u (insL (below n xs) n xs)) else (false, (u, xs)) := by
    unfold addP; rw [if_neg (by simp [hm]; omega)]
  rw [ptrW_ptr, fldW_ptr, Nat.add_zero, load1_at hb ho, ptrW_ptr, fldW_ptr, load1_at hb hv, rows1 (x := N .u64 (n : Int)) (size := 1) rfl rfl rfl, newR_eq, newR_eq]
  have hx1 : ((M.push (.row [N .u64 (n : Int)] false TU 0)).push (.row [N .u64 0, nilS] false TP 0)).heap M.next = some (.row [N .u64 (n : Int)] false TU 0) := heap_push_lt (RM.push_new _) (by simp [RM.push])
  have h7 : ((M.push (.row [N .u64 (n : Int)] false TU 0)).push (.row [N .u64 0, nilS] false TP 0)).heap (M.next + 1) = some (.row [N .u64 0, nilS] false TP 0) := RM.push_new _
  have kk : Keep [] M ((M.push (.row [N .u64 (n : Int)] false TU 0)).push (.row [N .u64 0, nilS] false TP 0)) := ((Keep.refl _ _).push _).push _
  have nn : ((M.push (.row [N .u64 (n : Int)] false TU 0)).push (.row [N .u64 0, nilS] false TP 0)).next = M.next + 2 := rfl
  rw [next_push]
  change cc _ ((M.push (.row [N .u64 (n : Int)] false TU 0)).push (.row [N .u64 0, nilS] false TP 0)) _
  generalize (M.push (.row [N .u64 (n : Int)] false TU 0)).push (.row [N .u64 0, nilS] false TP 0) = M1 at *
  refine hcl (SlR.keep hs kk (by simp)) (U64.row_all xs) (by omega) (by omega) fun v1 M2 ow k2 => ?_
  have n2 := k2.next
  have hb2 := (kk.trans k2).heap_of hb hbl (by simp)
  have hx2 := k2.heap_of hx1 (by omega) (by simp)
  have h72 := k2.heap_of h7 (by omega) (by simp)
  have hbi := below_le n xs
  have hwb : ∀ d ∈ blkOf v1, M1.next ≤ d := fun d hd => (ow.blk d hd).1
  rw [load1_at hb2 ho]
  refine ⟨rfl, ?_⟩
  rw [rows1 (x := N .u64 (n : Int)) (size := 1) rfl rfl rfl]
  refine ⟨⟨hx2, rfl⟩, ⟨h72, rfl⟩, ?_⟩
  refine hin (n0 := M1.next) ow n2 (by omega) hbi hx2 (by omega) (fun h => by have := hwb _ h; omega) fun v2 M3 s3 c3 b3 k3 => ?_
  have n3 := k3.next
  have ke : Keep [] M M3 := (kk.trans k2).then_new k3 fun d hd => .inl (by have := hwb d hd; omega)
  have hb3 := ke.heap_of hb hbl (by simp)
  have h73 := k3.heap_of h72 (by omega) (fun h => by have := hwb _ h; omega)
  rw [load1_at hb3 ho]
  refine ⟨rfl, ⟨h73, rfl⟩, ?_⟩
  rw [buildW_eq]
  refine ⟨[N .u64 (u : Int), v2], build2 rfl rfl (SlR.known s3) (SlR.cells s3), ?_⟩
  rw [storeW_all (n := 2) (x := .agg [N .u64 (u : Int), v2]) (l := [N .u64 0, nilS]) h73 rfl rfl (by simp [AV.cells, one_sc, SlR.one s3])]
  change cs _ (M3.put (M.next + 1) (.row [N .u64 (u : Int), v2] false TP 0)) _
  have h74 : (M3.put (M.next + 1) (.row [N .u64 (u : Int), v2] false TP 0)).heap (M.next + 1) = _ := heap_put_eq _
  have ke4 : Keep [] M (M3.put (M.next + 1) (.row [N .u64 (u : Int), v2] false TP 0)) := ke.new _ (by omega)
  have n4 : (M3.put (M.next + 1) (.row [N .u64 (u : Int), v2] false TP 0)).next = M3.next := rfl
  have s4 : Sl U64 (M3.put (M.next + 1) (.row [N .u64 (u : Int), v2] false TP 0)) v2 (insL (below n xs) n xs) := SlR.keep (bs := [M.next + 1]) s3 ((Keep.refl _ _).put _ (.inr (by simp))) (fun d hd h => by have := b3 d hd; simp at h; omega)
  have hb4 := heap_put_ne (z := .row [N .u64 (u : Int), v2] false TP 0) hb3 (show b ≠ M.next + 1 by omega)
  generalize M3.put (M.next + 1) (.row [N .u64 (u : Int), v2] false TP 0) = M4 at *
  have hil := insL_len (x := n) hbi
  refine hst h74 rfl rfl s4 (fun h => by have := b3 _ h; omega) c3 (by omega) hu (fun y hy => by rcases insL_mem hy with rfl | hy; exact hn; exact hx y hy) ?_
  intro v5 M5 h75 s5 c5 b5 k5 n5
  have hb5 := k5.heap_of hb4 (by omega) (by simp; omega)
  have ke5 : Keep [] M M5 := ke4.then_new k5 fun d hd => .inl (by simp at hd; omega)
  simp only [List.set_cons_zero, List.set_cons_succ, Nat.zero_add] at h75
  rw [fld0, load1_at h75 rfl, SlR.len s5, intW_gtr]
  refine condB (fun hg => ?_) (fun hg => ?_)
  · have hg : ¬ (settle u (insL (below n xs) n xs)).2.length ≤ 4096 := by simp at hg; omega
    rw [if_neg hg] at e0
    have := hsame M5 (by rw [e0]) ke5
    rw [e0] at this; exact this
  · have hg : (settle u (insL (below n xs) n xs)).2.length ≤ 4096 := by simp at hg; omega
    rw [if_pos hg] at e0
    rw [loadN_at (n := 2) h75 rfl, ptrW_ptr, storeW_ptr]
    have hst : M5.stores b o [N .u64 (((settle u (insL (below n xs) n xs)).1 : Nat) : Int), v5] = some (M5.put b (.row (l.take o ++ [N .u64 (((settle u (insL (below n xs) n xs)).1 : Nat) : Int), v5] ++ l.drop (o + 2)) false T 0)) := by
      rw [RM.stores_of hb5, storesL_some (by simp only [List.length_cons, List.length_nil]; omega) (Nat.zero_le _) (by simp [one_sc, SlR.one s5])]; rfl
    refine ⟨rfl, _, hst, ?_⟩
    have kf : Keep [b] M5 (M5.put b (.row (l.take o ++ [N .u64 (((settle u (insL (below n xs) n xs)).1 : Nat) : Int), v5] ++ l.drop (o + 2)) false T 0)) := (Keep.refl _ _).put _ (.inr (by simp))
    have := hnew v5 _ (by rw [heap_put_eq, e0]) (by rw [e0]; exact SlR.keep s5 kf (fun d hd h => by have := b3 d (b5 d hd); simp at h; omega)) c5 (fun d hd => by have := b3 d (b5 d hd); omega) ((ke5.mono (by simp)).trans kf)
    rw [e0] at this; exact this
end Go.Ab.Dot
/- Sets of dots: new ones, adding, asking: the walks. By an AI agent. -/
set_option maxRecDepth 10000
set_option linter.unusedVariables false
set_option linter.unusedSimpArgs false
namespace Go.Ab.Dot
open Go Go.Ab

def hasP (p : Pt) (n : Nat) : Bool := (decide (1 ≤ n) && decide (n ≤ p.1)) || decide (n ∈ p.2)
def HasPC (c : CallT) : Prop := ∀ {M : RM} {b o T u n : Nat} {l : List AV} {v : AV} {xs : List Nat} {Q : PostV}, M.heap b = some (.row l false T 0) → l[o]? = some (N .u64 (u : Int)) → l[o + 1]? = some v → Sl U64 M v xs → Asc xs → xs.length ≤ 1000000 →
  Q (Bo (hasP (u, xs) n)) M → c [.ptr b o, N .u64 (n : Int)] M Q
theorem hasP_spec {cb : CallT} (hsr : SearchC cb) : HasPC fun args M Q => ∃ a0 a1, args = [a0, a1] ∧ W_rolodex_dot_part_has cb a0 a1 M Q := by
  intro M b o T u n l v xs Q hb ho hv hs hasc hxl hQ
  refine ⟨_, _, rfl, ?_⟩
  unfold W_rolodex_dot_part_has
  simp only [fuseM]
  unfold hasP at hQ
  rw [ptrW_ptr, fldW_ptr, load1_at hb hv]
  refine hsr hs hxl hasc ?_
  rw [extW0, extW1, intW_geq]
  by_cases h1 : 1 ≤ n
  · rw [show decide ((n : Int) ≥ 1) = true by simp; omega, guardM_TT, ptrW_ptr, fldW_ptr, Nat.add_zero, load1_at hb ho, intW_leq]
    dsimp only
    rw [pickT]
    by_cases h2 : n ≤ u
    · rw [show decide ((n : Int) ≤ (u : Int)) = true by simpa using h2, guardM_TF]
      dsimp only
      rw [pickT]
      simpa [h1, h2] using hQ
    · rw [show decide ((n : Int) ≤ (u : Int)) = false by simp; omega, guardM_FF]
      dsimp only
      rw [pickF]
      simpa [h1, h2] using hQ
  · rw [show decide ((n : Int) ≥ 1) = false by simp; omega, guardM_FT]
    dsimp only
    rw [pickF, guardM_FF]
    dsimp only
    rw [pickF]
    simpa [h1] using hQ

/-- A dot: its device, its number. -/
abbrev Dot := Int × Nat
abbrev dcells (d : Dot) : List AV := [N .i64 d.1, N .u64 (d.2 : Int)]
def DotE : Enc Dot := ⟨2, dcells, fun _ => rfl, fun _ => rfl⟩
def good (d : Dot) : Bool := decide (0 ≤ d.1) && decide (d.1 < 16) && decide (1 ≤ d.2) && decide (d.2 ≤ 1099511627776)
def GoodC (c : CallT) : Prop := ∀ {M : RM} {d : Dot} {Q : PostV}, (∀ M', Keep [] M M' → Q (Bo (good d)) M') → c [.agg (dcells d)] M Q
theorem good_tail {M1 : RM} {K : PostV} {d : Dot} {T : Nat} {b : Nat} (h : M1.heap b = some (.row (dcells d) false T 0)) (hQ : K (Bo (good d)) M1) :
    fldW (.ptr b 0) 0 fun t3 => load1 M1 t3 fun t4 => intW .geq t4 (N .i64 0) fun t5 =>
      guardM t5 true (fun k' => fldW (.ptr b 0) 0 fun t7 => load1 M1 t7 fun t8 => intW .lss t8 (N .i64 16) fun t9 => k' t9 M1) (fun k => k .undef M1) fun t9 M2 => pickW t5 t9 (Bo false) fun t10 =>
      guardM t10 true (fun k' => fldW (.ptr b 0) 1 fun t12 => load1 M2 t12 fun t13 => intW .geq t13 (N .u64 1) fun t14 => k' t14 M2) (fun k => k .undef M2) fun t14 M3 => pickW t10 t14 (Bo false) fun t15 =>
      guardM t15 true (fun k' => fldW (.ptr b 0) 1 fun t17 => load1 M3 t17 fun t18 => intW .leq t18 (N .u64 1099511627776) fun t19 => k' t19 M3) (fun k => k .undef M3) fun t19 M4 => pickW t15 t19 (Bo false) fun t20 => K t20 M4 := by
  unfold good at hQ
  obtain ⟨dv, n⟩ := d
  simp only at hQ
  rw [fld0, load1_at h rfl, intW_geq]
  by_cases h1 : 0 ≤ dv
  · rw [show decide (dv ≥ 0) = true by simpa using h1, guardM_TT, fld0, load1_at h rfl, intW_lss]
    dsimp only
    rw [pickT]
    by_cases h2 : dv < 16
    · rw [show decide (dv < 16) = true by simpa using h2, guardM_TT, fld0, load1_at h rfl, intW_geq]
      dsimp only
      rw [pickT]
      by_cases h3 : 1 ≤ n
      · rw [show decide ((n : Int) ≥ 1) = true by simp; omega, guardM_TT, fld0, load1_at h rfl, intW_leq]
        dsimp only
        rw [pickT, show decide ((n : Int) ≤ 1099511627776) = decide (n ≤ 1099511627776) by simp; omega]
        simpa [h1, h2, h3] using hQ
      · rw [show decide ((n : Int) ≥ 1) = false by simp; omega, guardM_FT]
        dsimp only
        rw [pickF]
        simpa [h1, h2, h3] using hQ
    · rw [show decide (dv < 16) = false by simpa using h2, guardM_FT]
      dsimp only
      rw [pickF, guardM_FT]
      dsimp only
      rw [pickF]
      simpa [h1, h2] using hQ
  · rw [show decide (dv ≥ 0) = false by simpa using h1, guardM_FT]
    dsimp only
    rw [pickF, guardM_FT]
    dsimp only
    rw [pickF, guardM_FT]
    dsimp only
    rw [pickF]
    simpa [h1] using hQ
theorem good_spec {T : Nat} : GoodC fun args M Q => ∃ a0, args = [a0] ∧ W_rolodex_dot_Good T a0 M Q := by
  intro M d Q hQ
  refine ⟨_, rfl, ?_⟩
  unfold W_rolodex_dot_Good
  simp only [fuseM]
  rw [boxW_agg rfl (by simp), newW_eq]
  exact good_tail (RM.push_new _) (hQ _ ((Keep.refl _ _).push _))
theorem refGood_spec {T : Nat} : GoodC fun args M Q => ∃ a0, args = [a0] ∧ W_rolodex_rolodexref13_Good T a0 M Q := by
  intro M d Q hQ
  refine ⟨_, rfl, ?_⟩
  unfold W_rolodex_rolodexref13_Good
  simp only [fuseM]
  rw [boxW_agg rfl (by simp), newW_eq]
  exact good_tail (RM.push_new _) (hQ _ ((Keep.refl _ _).push _))

/-- A part that is settled, in bounds. -/
def WfP (p : Pt) : Prop := Asc p.2 ∧ (∀ x ∈ p.2, p.1 + 1 < x) ∧ p.1 ≤ 1099511627776 ∧ (∀ x ∈ p.2, x ≤ 1099511627776) ∧ p.2.length ≤ 4096
theorem insL_asc {n : Nat} {xs : List Nat} (h : Asc xs) (hn : n ∉ xs) : Asc (insL (below n xs) n xs) := by
  unfold insL Asc
  rw [List.pairwise_append]
  have ht := List.Pairwise.sublist (List.take_sublist (below n xs) xs) h
  have hd := List.Pairwise.sublist (List.drop_sublist (below n xs) xs) h
  have lt1 : ∀ a ∈ xs.take (below n xs), a < n := fun a ha => by
    obtain ⟨i, hi, rfl⟩ := List.getElem_of_mem ha
    rw [List.getElem_take]
    exact below_lt (by simp at hi; omega) (by simp at hi; omega)
  have gt1 : ∀ a ∈ xs.drop (below n xs), n < a := fun a ha => by
    obtain ⟨i, hi, rfl⟩ := List.getElem_of_mem ha
    rw [List.getElem_drop]
    simp only [List.length_drop] at hi
    have h0 : below n xs < xs.length := by omega
    have h1 := below_ge (n := n) h0
    have h2 : xs[below n xs] ≠ n := fun e => hn (by rw [← e]; exact List.getElem_mem h0)
    rcases Nat.eq_zero_or_pos i with rfl | hi0
    · simp only [Nat.add_zero]; omega
    · have := h.lt (i := below n xs) (j := below n xs + i) (by omega) (by omega); omega
  refine ⟨ht, List.pairwise_cons.2 ⟨gt1, hd⟩, fun a ha b hb => ?_⟩
  rcases List.mem_cons.1 hb with rfl | hb
  · exact lt1 a ha
  · have := lt1 a ha; have := gt1 b hb; omega
theorem settle_props : ∀ (xs : List Nat) (u N : Nat), Asc xs → u ≤ N → (∀ x ∈ xs, x ≤ N) → Asc (settle u xs).2 ∧ (∀ x ∈ (settle u xs).2, (settle u xs).1 + 1 < x) ∧ (settle u xs).1 ≤ N ∧ u ≤ (settle u xs).1
  | [], u, N, _, hu, _ => ⟨by simp [settle, settleK, Asc], by simp [settle, settleK], hu, Nat.le_refl _⟩
  | x :: xs, u, N, ha, hu, hx => by
    have ha2 := (List.pairwise_cons.1 ha).2
    by_cases h : x ≤ u + 1
    · have e : settle u (x :: xs) = settle (max u x) xs := by
        unfold settle
        rw [settleK, if_pos h]; rfl
      rw [e]
      have := settle_props xs (max u x) N ha2 (by have := hx x (by simp); omega) (fun y hy => hx y (by simp [hy]))
      exact ⟨this.1, this.2.1, this.2.2.1, by have := this.2.2.2; omega⟩
    · have e : settle u (x :: xs) = (u, x :: xs) := by
        unfold settle
        rw [settleK, if_neg h]; rfl
      rw [e]
      refine ⟨ha, fun y hy => ?_, hu, Nat.le_refl _⟩
      simp only at hy ⊢
      rcases List.mem_cons.1 hy with rfl | hy
      · omega
      · have := (List.pairwise_cons.1 ha).1 y hy; omega
theorem settle_mem {u : Nat} {xs : List Nat} {y : Nat} (h : y ∈ (settle u xs).2) : y ∈ xs := List.mem_of_mem_drop h
theorem addP_wf {p : Pt} {n : Nat} (hp : WfP p) (hn : n ≤ 1099511627776) : WfP (addP p n).2 := by
  unfold addP
  split
  · exact hp
  · rename_i h
    split
    · rename_i h2
      have hm : n ∉ p.2 := fun hm => h (.inl hm)
      have := settle_props (insL (below n p.2) n p.2) p.1 1099511627776 (insL_asc hp.1 hm) hp.2.2.1 (fun x hx => by rcases insL_mem hx with rfl | hx; exact hn; exact hp.2.2.2.1 x hx)
      exact ⟨this.1, this.2.1, this.2.2.1, fun x hx => by rcases insL_mem (settle_mem hx) with rfl | hx; exact hn; exact hp.2.2.2.1 x hx, h2⟩
    · exact hp

/-- A set lies at a block. -/
structure SetH (T : Nat) (S : Nat → Prop) (M : RM) (b : Nat) (ps : List Pt) : Prop where
  lt : b < M.next
  len : ps.length = 16
  row : ∃ l, M.heap b = some (.row l false T 0) ∧ l.length = 32 ∧ ∀ (i : Nat) (hi : i < ps.length), ∃ v, l[2 * i]? = some (N .u64 (ps[i].1 : Int)) ∧ l[2 * i + 1]? = some v ∧ Sl U64 M v ps[i].2 ∧ capOk v ∧ ∀ d ∈ blkOf v, S d
  nb : ¬ S b
theorem SetH.mono {T : Nat} {S S' : Nat → Prop} {M : RM} {b : Nat} {ps : List Pt} (h : SetH T S M b ps) (hs : ∀ d, S d → S' d) (hb : ¬ S' b) : SetH T S' M b ps := by
  obtain ⟨l, h1, h2, h3⟩ := h.row
  exact ⟨h.lt, h.len, ⟨l, h1, h2, fun i hi => let ⟨v, a1, a2, a3, a4, a5⟩ := h3 i hi; ⟨v, a1, a2, a3, a4, fun d hd => hs d (a5 d hd)⟩⟩, hb⟩
theorem SetH.keep {T : Nat} {S : Nat → Prop} {M M' : RM} {b : Nat} {ps : List Pt} {bs : List Nat} (h : SetH T S M b ps) (hk : Keep bs M M') (hb : b ∉ bs) (hs : ∀ d ∈ bs, ¬ S d) : SetH T S M' b ps := by
  obtain ⟨l, h1, h2, h3⟩ := h.row
  exact ⟨Nat.lt_of_lt_of_le h.lt hk.next, h.len, ⟨l, hk.heap_of h1 h.lt hb, h2, fun i hi => let ⟨v, a1, a2, a3, a4, a5⟩ := h3 i hi; ⟨v, a1, a2, SlR.keep a3 hk (fun d hd hm => hs d hm (a5 d hd)), a4, a5⟩⟩, h.nb⟩
theorem SetH.below {T : Nat} {S : Nat → Prop} {M : RM} {b : Nat} {ps : List Pt} (h : SetH T S M b ps) : SetH T (fun d => S d ∧ d < M.next) M b ps := by
  obtain ⟨l, h1, h2, h3⟩ := h.row
  exact ⟨h.lt, h.len, ⟨l, h1, h2, fun i hi => let ⟨v, a1, a2, a3, a4, a5⟩ := h3 i hi; ⟨v, a1, a2, a3, a4, fun d hd => ⟨a5 d hd, SlR.lt a3 d hd⟩⟩⟩, fun hb => h.nb hb.1⟩

def addS (ps : List Pt) (d : Dot) : Int × List Pt :=
  if good d then (if (addP (ps.getD d.1.toNat (0, [])) d.2).1 then (0, ps.set d.1.toNat (addP (ps.getD d.1.toNat (0, [])) d.2).2) else (2, ps)) else (1, ps)
def AddSC (T : Nat) (c : CallT) : Prop := ∀ {M : RM} {b : Nat} {ps : List Pt} {d : Dot} {S : Nat → Prop} {Q : PostV}, SetH T S M b ps → (∀ p ∈ ps, WfP p) →
  (∀ M', SetH T (fun e => S e ∨ M.next ≤ e) M' b (addS ps d).2 → Keep [b] M M' → Q (N .i64 (addS ps d).1) M') → c [.ptr b 0, .agg (dcells d)] M Q
theorem addP_false {p : Pt} {n : Nat} (h : (addP p n).1 = false) : (addP p n).2 = p := by
  unfold addP at h ⊢
  split
  · rfl
  · split
    · rename_i h1 h2
      rw [if_neg h1, if_pos h2] at h; cases h
    · rfl

theorem addS_spec {T TD : Nat} {cg ca : CallT} (hg : GoodC cg) (ha : AddPC ca) : AddSC T fun args M Q => ∃ a0 a1, args = [a0, a1] ∧ W_rolodex_dot_Set_Add TD cg ca a0 a1 M Q := by
  intro M b ps d S Q hset hwf hQ
  refine ⟨_, _, rfl, ?_⟩
  unfold W_rolodex_dot_Set_Add
  rw [boxW_agg rfl (by simp), newW_eq, loadN_at (n := 2) (RM.push_new _) rfl]
  have k1 : Keep [] M (M.push (.row (dcells d) false TD 0)) := (Keep.refl _ _).push _
  have h3 : (M.push (.row (dcells d) false TD 0)).heap M.next = some (.row (dcells d) false TD 0) := RM.push_new _
  have n1 : (M.push (.row (dcells d) false TD 0)).next = M.next + 1 := rfl
  generalize M.push (.row (dcells d) false TD 0) = M1 at *
  refine hg fun M2 k2 => ?_
  have kk := k1.trans k2
  have h3 := k2.heap_of h3 (by omega) (by simp)
  have s2 := hset.keep kk (by simp) (by simp)
  have hbl := hset.lt
  rw [notW_Bo]
  unfold addS at hQ
  have n2 := k2.next
  cases hgd : good d with
  | false =>
    simp only [hgd, Bool.false_eq_true, if_false] at hQ
    rw [Bool.not_false, condT]
    exact hQ M2 (s2.mono (fun e h => .inl h) (fun h => by rcases h with h | h; exact hset.nb h; omega)) (kk.mono (by simp))
  | true =>
    simp only [hgd, if_true] at hQ
    have hgd' := hgd
    simp [good] at hgd'
    obtain ⟨i, hi⟩ : ∃ i : Nat, d.1 = (i : Int) := ⟨d.1.toNat, by omega⟩
    have hi16 : i < 16 := by omega
    have hil : i < ps.length := by rw [hset.len]; exact hi16
    have hgetD : ps.getD d.1.toNat (0, []) = ps[i] := by rw [hi, Int.toNat_natCast, List.getD_eq_getElem?_getD, List.getElem?_eq_getElem hil]; rfl
    rw [hgetD] at hQ
    rw [hi, Int.toNat_natCast] at hQ
    rw [Bool.not_true, condF, fld0, load1_at h3 rfl, ptrW_ptr, fld0, hi, idxA_ptr]
    refine ⟨by omega, by omega, ?_⟩
    rw [fld0, load1_at h3 rfl, Int.toNat_natCast, Nat.zero_add, Nat.mul_comm i 2]
    obtain ⟨l, hb, hl32, hrow⟩ := s2.row
    obtain ⟨v, a1, a2, a3, a4, a5⟩ := hrow i hil
    have hwp := hwf _ (List.getElem_mem hil)
    have hk0 : ∀ b' ∈ ([b] : List Nat), b' = b := by simp
    refine ha hb s2.lt a1 a2 a3 (fun h => hset.nb (a5 b h)) a4 hwp.1 (by have := hwp.2.2.2.2; omega) (by have := hwp.2.2.1; omega) (fun x hx => by have := hwp.2.2.2.1 x hx; omega) (by omega) ?_ ?_
    · intro M3 he k3
      have s3 := s2.keep k3 (by simp) (by simp)
      rw [notW_Bo]
      cases hr : (addP (ps[i].1, ps[i].2) d.2).1 with
      | false =>
        have hr' : (addP ps[i] d.2).1 = false := hr
        simp only [hr', Bool.false_eq_true, if_false] at hQ
        rw [Bool.not_false, condT]
        exact hQ M3 (s3.mono (fun e h => .inl h) (fun h => by rcases h with h | h; exact hset.nb h; omega)) ((kk.trans k3).mono (by simp))
      | true =>
        have hr' : (addP ps[i] d.2).1 = true := hr
        have he2 : (addP ps[i] d.2).2 = ps[i] := by
          have := congrArg Prod.snd he
          exact this
        simp only [hr', if_true, he2, List.set_getElem_self] at hQ
        rw [Bool.not_true, condF]
        exact hQ M3 (s3.mono (fun e h => .inl h) (fun h => by rcases h with h | h; exact hset.nb h; omega)) ((kk.trans k3).mono (by simp))
    · intro v' M3 hb3 hs3 hc3 hbk k3
      rw [notW_Bo]
      have hb2n : ∀ b' ∈ blkOf v', b' ≠ b := fun b' hb' e => by have := hbk b' hb'; omega
      have set3 : SetH T (fun e => S e ∨ M.next ≤ e) M3 b (ps.set i (addP ps[i] d.2).2) := by
        refine ⟨Nat.lt_of_lt_of_le s2.lt k3.next, by rw [List.length_set]; exact hset.len, ⟨_, hb3, by simp [hl32]; omega, fun j hj => ?_⟩, fun h => by rcases h with h | h; exact hset.nb h; omega⟩
        rw [List.length_set] at hj
        have htl : (l.take (2 * i)).length = 2 * i := by simp; omega
        by_cases hji : j = i
        · subst hji
          refine ⟨v', ?_, ?_, ?_, hc3, fun e he => .inr (by have := hbk e he; omega)⟩
          · rw [List.append_assoc, List.getElem?_append_right (by omega), htl, Nat.sub_self]; simp
          · rw [List.append_assoc, List.getElem?_append_right (by omega), htl, show 2 * j + 1 - 2 * j = 1 by omega]; simp
          · simp only [List.getElem_set_self]; exact hs3
        · obtain ⟨w, e1, e2, e3, e4, e5⟩ := hrow j hj
          have same : ∀ k, (k = 2 * j ∨ k = 2 * j + 1) → (l.take (2 * i) ++ [N .u64 (((addP (ps[i].1, ps[i].2) d.2).2.1 : Nat) : Int), v'] ++ l.drop (2 * i + 2))[k]? = l[k]? := fun k hk => by
            rcases Nat.lt_or_ge k (2 * i) with h | h
            · rw [List.append_assoc, List.getElem?_append_left (by omega), List.getElem?_take_of_lt h]
            · rw [List.getElem?_append_right (by simp; omega), List.getElem?_drop]
              congr 1
              simp; omega
          refine ⟨w, ?_, ?_, ?_, e4, fun e he => .inl (e5 e he)⟩
          · rw [same _ (.inl rfl), e1, List.getElem_set_ne (Ne.symm hji)]
          · rw [same _ (.inr rfl), e2]
          · rw [List.getElem_set_ne (Ne.symm hji)]
            exact SlR.keep e3 k3 (fun e he hm => by simp at hm; subst hm; exact hset.nb (e5 _ he))
      cases hr : (addP (ps[i].1, ps[i].2) d.2).1 with
      | false =>
        have hr' : (addP ps[i] d.2).1 = false := hr
        simp only [hr', Bool.false_eq_true, if_false] at hQ
        rw [Bool.not_false, condT]
        have e := addP_false hr'
        rw [e, List.set_getElem_self] at set3
        exact hQ M3 set3 ((kk.mono (by simp)).trans k3)
      | true =>
        have hr' : (addP ps[i] d.2).1 = true := hr
        simp only [hr', if_true] at hQ
        rw [Bool.not_true, condF]
        exact hQ M3 set3 ((kk.mono (by simp)).trans k3)

/-- The empty set. -/
def emptyS : List Pt := List.replicate 16 (0, [])
def NewC (T : Nat) (c : CallT) : Prop := ∀ {M : RM} {Q : PostV}, (∀ M', SetH T (fun _ => False) M' M.next emptyS → Keep [] M M' → M'.next = M.next + 1 → Q (.ptr M.next 0) M') → c [] M Q
theorem new_spec {T : Nat} : NewC T fun args M Q => args = [] ∧ W_rolodex_dot_New T M Q := by
  intro M Q hQ
  refine ⟨rfl, ?_⟩
  unfold W_rolodex_dot_New
  rw [buildW_eq]
  refine ⟨_, rfl, ?_⟩
  rw [boxW_agg rfl (by simp), newW_eq]
  refine hQ _ ⟨by simp [RM.push], rfl, ⟨_, RM.push_new _, rfl, fun i hi => ?_⟩, id⟩ ((Keep.refl _ _).push _) rfl
  have hi : i < 16 := hi
  refine ⟨nilS, ?_, ?_, ?_, trivial, by simp [blkOf]⟩
  · obtain rfl | rfl | rfl | rfl | rfl | rfl | rfl | rfl | rfl | rfl | rfl | rfl | rfl | rfl | rfl | rfl : i = 0 ∨ i = 1 ∨ i = 2 ∨ i = 3 ∨ i = 4 ∨ i = 5 ∨ i = 6 ∨ i = 7 ∨ i = 8 ∨ i = 9 ∨ i = 10 ∨ i = 11 ∨ i = 12 ∨ i = 13 ∨ i = 14 ∨ i = 15 := by omega
    all_goals rfl
  · obtain rfl | rfl | rfl | rfl | rfl | rfl | rfl | rfl | rfl | rfl | rfl | rfl | rfl | rfl | rfl | rfl : i = 0 ∨ i = 1 ∨ i = 2 ∨ i = 3 ∨ i = 4 ∨ i = 5 ∨ i = 6 ∨ i = 7 ∨ i = 8 ∨ i = 9 ∨ i = 10 ∨ i = 11 ∨ i = 12 ∨ i = 13 ∨ i = 14 ∨ i = 15 := by omega
    all_goals rfl
  · simp only [emptyS, List.getElem_replicate]; exact .nil
end Go.Ab.Dot
/- Reading numbers from bytes: the reader's walks. By an AI agent. -/
set_option maxRecDepth 10000
set_option linter.unusedVariables false
set_option linter.unusedSimpArgs false
namespace Go.Ab.Dot
open Go Go.Ab

section
variable {α : Type} {E : Enc α}
theorem cut_from {M : RM} {v : AV} {xs : List α} {k : Nat} (hE : E.size = 1) (h : Sl E M v xs) (hc : capOk v) (hk : k ≤ xs.length) :
    ∃ v', subS 1 v (some (N .i64 (k : Int))) none none = some v' ∧ Sl E M v' (xs.drop k) ∧ capOk v' ∧ ∀ b ∈ blkOf v', b ∈ blkOf v := by
  generalize hcs : E.row xs = cs at *
  have h' : SlR M 1 v cs xs.length := by rw [← hcs, ← hE]; exact h
  have hl : cs.length = xs.length := by rw [← hcs, Enc.row_len, hE, Nat.mul_one]
  have hd : E.row (xs.drop k) = cs.drop k := by rw [← hcs, ← E.row_drop, hE, Nat.mul_one]
  have goal : ∀ v', Sl E M v' (xs.drop k) ↔ SlR M 1 v' (cs.drop k) (xs.length - k) := fun v' => by simp only [Sl]; rw [hd, List.length_drop, hE]
  generalize hn : xs.length = n at *
  cases h' with
  | nil =>
    have : k = 0 := by omega
    subst this
    exact ⟨nilS, by simp [subS, bnd], (goal _).2 (by simp; exact .nil), trivial, by simp⟩
  | emp b =>
    have : k = 0 := by omega
    subst this
    exact ⟨.emp b, by simp [subS, bnd], (goal _).2 (by simp; exact .emp b), trivial, by simp⟩
  | slc b o n cap cs hb hload =>
    rw [Nat.mul_one] at hload
    have hpart : M.loads b (o + k) (n - k) = some (cs.drop k) := by
      have := loads_sub hload k (n - k) (by omega)
      rw [List.take_of_length_le (by simp; omega)] at this
      exact this
    cases cap with
    | ex c =>
      have hcn : n ≤ c := hc
      by_cases hck : c = k
      · have hkn : k = n := by omega
        refine ⟨.slc b o 0 (.ex 0), by simp only [subS, bnd]; simp [hk, hcn, hck]; omega, ?_, Nat.le_refl _, by simp [blkOf]⟩
        rw [goal, hkn, Nat.sub_self, List.drop_of_length_le (by omega)]
        refine .slc b o 0 _ _ hb ?_
        have := loads_sub hload 0 0 (by omega)
        simpa using this
      · refine ⟨.slc b (o + k * 1) (n - k) (.ex (c - k)), by simp only [subS, bnd]; simp [hk, hcn, hck], ?_, by simp only [capOk]; omega, by simp [blkOf]⟩
        rw [goal]
        refine .slc _ _ _ _ _ hb ?_
        show M.loads b (o + k * 1) ((n - k) * 1) = _
        rw [Nat.mul_one, Nat.mul_one]; exact hpart
    | op e =>
      have he : e = 1 := hc
      subst he
      by_cases hkn : n ≤ k
      · refine ⟨.emp b, by simp only [subS, bnd]; simp [hk, hkn], ?_, trivial, by simp [blkOf]⟩
        rw [goal, show n - k = 0 by omega, List.drop_of_length_le (by omega)]
        exact .emp b
      · refine ⟨.slc b (o + k * 1) (n - k) (.op 1), by simp only [subS, bnd]; simp [hk, hkn], ?_, rfl, by simp [blkOf]⟩
        rw [goal]
        refine .slc _ _ _ _ _ hb ?_
        show M.loads b (o + k * 1) ((n - k) * 1) = _
        rw [Nat.mul_one, Nat.mul_one]; exact hpart
theorem cut_to {M : RM} {v : AV} {xs : List α} {k : Nat} (hE : E.size = 1) (h : Sl E M v xs) (hc : capOk v) (hk : k ≤ xs.length) :
    ∃ v', subS 1 v none (some (N .i64 (k : Int))) none = some v' ∧ Sl E M v' (xs.take k) := by
  generalize hcs : E.row xs = cs at *
  have h' : SlR M 1 v cs xs.length := by rw [← hcs, ← hE]; exact h
  have hl : cs.length = xs.length := by rw [← hcs, Enc.row_len, hE, Nat.mul_one]
  have hd : E.row (xs.take k) = cs.take k := by rw [← hcs, ← E.row_take, hE, Nat.mul_one]
  have goal : ∀ v', Sl E M v' (xs.take k) ↔ SlR M 1 v' (cs.take k) k := fun v' => by simp only [Sl]; rw [hd, List.length_take, hE, Nat.min_eq_left hk]
  generalize hn : xs.length = n at *
  cases h' with
  | nil =>
    have : k = 0 := by omega
    subst this
    exact ⟨nilS, by simp [subS, bnd], (goal _).2 (by simp; exact .nil)⟩
  | emp b =>
    have : k = 0 := by omega
    subst this
    exact ⟨.emp b, by simp [subS, bnd], (goal _).2 (by simp; exact .emp b)⟩
  | slc b o n cap cs hb hload =>
    rw [Nat.mul_one] at hload
    have hpart : M.loads b o k = some (cs.take k) := by
      have := loads_sub hload 0 k (by omega)
      simpa using this
    cases cap with
    | ex c =>
      have hcn : n ≤ c := hc
      by_cases hc0 : c = 0
      · have hk0 : k = 0 := by omega
        subst hk0
        refine ⟨.slc b o 0 (.ex 0), by simp only [subS, bnd]; simp [hc0], ?_⟩
        rw [goal]
        refine .slc b o 0 _ _ hb ?_
        simpa using hpart
      · refine ⟨.slc b o k (.ex c), by simp only [subS, bnd]; simp [hc0]; omega, ?_⟩
        rw [goal]
        refine .slc _ _ _ _ _ hb ?_
        rw [Nat.mul_one]; exact hpart
    | op e =>
      have he : e = 1 := hc
      subst he
      by_cases hn0 : n = 0
      · have hk0 : k = 0 := by omega
        subst hk0
        refine ⟨.emp b, by simp only [subS, bnd]; simp [hn0], ?_⟩
        rw [goal]; simp; exact .emp b
      · refine ⟨.slc b o k (.op 1), by simp only [subS, bnd]; simp [hk, hn0], ?_⟩
        rw [goal]
        refine .slc _ _ _ _ _ hb ?_
        rw [Nat.mul_one]; exact hpart
end

/-- A number at the beginning of bytes, from its byte i on. -/
def numF : Nat → Nat → List UInt8 → Option (Nat × Nat)
  | _, _, [] => none
  | i, v, x :: xs =>
    if x.toNat ≥ 128 then numF (i + 1) ((v ||| (x.toNat % 128 * 2 ^ (7 * i) % 2 ^ 64)) % 2 ^ 64) xs
    else if x.toNat = 0 ∧ i > 0 ∨ i = 9 ∧ x.toNat > 1 then none else some ((v ||| (x.toNat % 128 * 2 ^ (7 * i) % 2 ^ 64)) % 2 ^ 64, i + 1)
def numB (bs : List UInt8) : Option (Nat × Nat) := numF 0 0 (bs.take 10)
theorem numF_bd : ∀ (bs : List UInt8) (i v : Nat) {w n : Nat}, numF i v bs = some (w, n) → w < 2 ^ 64 ∧ i < n ∧ n ≤ i + bs.length
  | [], _, _, _, _, h => by simp [numF] at h
  | x :: xs, i, v, w, n, h => by
    rw [numF] at h
    split at h
    · have := numF_bd xs _ _ h
      simp only [List.length_cons]; omega
    · split at h
      · cases h
      · simp only [Option.some.injEq, Prod.mk.injEq] at h
        obtain ⟨rfl, rfl⟩ := h
        refine ⟨Nat.mod_lt _ (by decide), by omega, by simp⟩
theorem numB_bd {bs : List UInt8} {w n : Nat} (h : numB bs = some (w, n)) : w < 2 ^ 64 ∧ 0 < n ∧ n ≤ bs.length ∧ n ≤ 10 := by
  have := numF_bd _ _ _ h
  rw [List.length_take] at this
  omega

/-- A reader lies at a block. -/
structure RdH (T : Nat) (S : Nat → Prop) (M : RM) (r : Nat) (bs : List UInt8) (f : Bool) : Prop where
  lt : r < M.next
  row : ∃ v, M.heap r = some (.row [v, Bo f] false T 0) ∧ Sl BY M v bs ∧ capOk v ∧ ∀ d ∈ blkOf v, S d
  nb : ¬ S r
theorem RdH.keep {T : Nat} {S : Nat → Prop} {M M' : RM} {r : Nat} {bs : List UInt8} {f : Bool} {ks : List Nat} (h : RdH T S M r bs f) (hk : Keep ks M M') (hr : r ∉ ks) (hs : ∀ d ∈ ks, ¬ S d) : RdH T S M' r bs f := by
  obtain ⟨v, h1, h2, h3, h4⟩ := h.row
  exact ⟨Nat.lt_of_lt_of_le h.lt hk.next, ⟨v, hk.heap_of h1 h.lt hr, SlR.keep h2 hk (fun d hd hm => hs d hm (h4 d hd)), h3, h4⟩, h.nb⟩

def numR (bs : List UInt8) : List AV := match numB bs with
  | some (v, n) => [N .u64 (v : Int), N .i64 (n : Int), Bo true]
  | none => [N .u64 0, N .i64 0, Bo false]
def NumC (T : Nat) (c : CallT) : Prop := ∀ {M : RM} {r : Nat} {S : Nat → Prop} {bs : List UInt8} {f : Bool} {Q : PostV}, RdH T S M r bs f → Q (.tup (numR bs)) M → c [.ptr r 0] M Q

theorem and127 (x : UInt8) : N .u8 (andI .u8 (x.toNat : Int) 127) = N .u8 ((x.toNat % 128 : Nat) : Int) := by
  rw [show (127 : Int) = ((127 : Nat) : Int) from rfl, andI_nat rfl]
  have : x.toNat &&& 127 = x.toNat % 128 := Nat.and_two_pow_sub_one_eq_mod x.toNat 7
  rw [this]
  simp only [ubits]
  congr 2
  have := u8_lt x
  omega
theorem min_nat (a b : Nat) : (if ((b : Nat) : Int) < (a : Int) then (b : Int) else (a : Int)) = ((min a b : Nat) : Int) := by
  split <;> omega

theorem num_spec {T : Nat} : NumC T fun args M Q => ∃ a0, args = [a0] ∧ W_rolodex_bin_Reader_number a0 M Q := by
  intro M r S bs f Q h hQ
  refine ⟨_, rfl, ?_⟩
  obtain ⟨v, hr, hs, hc, hS⟩ := h.row
  unfold W_rolodex_bin_Reader_number
  rw [joinW_eq, ptrW_ptr, fld0, load1_at hr rfl, ptrW_ptr, fld0, load1_at hr rfl, SlR.len hs, minW_N, if_neg (by decide), show (10 : Int) = ((10 : Nat) : Int) from rfl, min_nat]
  obtain ⟨c, e1, e2⟩ := cut_to (k := min bs.length 10) rfl hs hc (Nat.min_le_left _ _)
  rw [e1, getW_some, SlR.len e2]
  have hlen : (bs.take (min bs.length 10)).length = min bs.length 10 := by rw [List.length_take]; omega
  have htk : bs.take (min bs.length 10) = bs.take 10 := by
    rcases Nat.le_total bs.length 10 with hh | hh
    · rw [Nat.min_eq_left hh, List.take_length, List.take_of_length_le hh]
    · rw [Nat.min_eq_right hh]
  rw [htk] at e2 hlen ⊢
  have hll : (bs.take 10).length ≤ 10 := by omega
  unfold numR numB at hQ
  generalize bs.take 10 = ls at *
  refine loopW_ind (fun m ys M3 => ∃ (i u : Nat), m = ls.length - i ∧ ys = [N .u64 (u : Int), N .i64 (i : Int)] ∧ i ≤ ls.length ∧ M3 = M ∧ numF 0 0 ls = numF i u (ls.drop i)) _
    ⟨0, 0, rfl, rfl, Nat.zero_le _, rfl, rfl⟩ ?_
  rintro next m ys M3 hnext ⟨i, u, rfl, rfl, hi, rfl, hset⟩
  dsimp only [nthD]
  rw [intW_lss]
  refine condB (fun hlt => ?_) (fun hge => ?_)
  · have hlt : i < ls.length := by simpa using hlt
    obtain ⟨b1, o1, _, _, hidx, hcell⟩ := Sl.at1 (E := BY) e2 (i : Int) hlt
    rw [List.drop_eq_getElem_cons hlt, numF] at hset
    rw [hidx, load1_ptr]
    refine ⟨_, hcell _ rfl, ?_⟩
    generalize hx : ls[i] = x at *
    have hx256 := u8_lt x
    rw [intW_and, and127, cvtW_N, wrap_u64, Nat.mod_eq_of_lt (by omega : x.toNat % 128 < 18446744073709551616), intW_mul, show (7 : Int) * (i : Int) = ((7 * i : Nat) : Int) by omega, wrap_i64_id (by omega) (by omega), shW_shl]
    refine ⟨by omega, ?_⟩
    rw [shlI_nat rfl _ _ (by show 7 * i ≤ 64; omega), intW_or, orI_nat rfl, intW_geq]
    simp only [ubits]
    generalize hw : (u ||| (x.toNat % 128 * 2 ^ (7 * i) % 2 ^ 64)) % 2 ^ 64 = w at *
    refine condB (fun hbig => ?_) (fun hsm => ?_)
    · have hbig : x.toNat ≥ 128 := by
        have : (x.toNat : Int) ≥ 128 := of_decide_eq_true hbig
        omega
      rw [if_pos hbig] at hset
      rw [intW_add, i64_succ (by omega)]
      exact hnext _ _ _ (by omega) ⟨i + 1, w, rfl, rfl, by omega, rfl, hset⟩
    · have hsm : ¬ x.toNat ≥ 128 := by
        have : ¬ (x.toNat : Int) ≥ 128 := of_decide_eq_false hsm
        omega
      rw [if_neg hsm] at hset
      have bad : (x.toNat = 0 ∧ i > 0 ∨ i = 9 ∧ x.toNat > 1) → Q (.tup [N .u64 0, N .i64 0, Bo false]) M3 := fun h => by
        rw [if_pos h] at hset
        rw [hset] at hQ
        exact hQ
      have okk : ¬ (x.toNat = 0 ∧ i > 0 ∨ i = 9 ∧ x.toNat > 1) → Q (.tup [N .u64 (w : Int), N .i64 ((i + 1 : Nat) : Int), Bo true]) M3 := fun h => by
        rw [if_neg h] at hset
        rw [hset] at hQ
        exact hQ
      have okk' : ¬ (x.toNat = 0 ∧ i > 0 ∨ i = 9 ∧ x.toNat > 1) → intW .add (N .i64 (i : Int)) (N .i64 1) fun t50 => Q (.tup [N .u64 (w : Int), t50, Bo true]) M3 := fun h => by
        rw [intW_add, i64_succ (by omega)]
        exact okk h
      rw [intW_eql]
      -- the second half of the question
      have second : ¬ (x.toNat = 0 ∧ i > 0) → intW .eql (N .i64 (i : Int)) (N .i64 9) fun t42 =>
          guardM t42 true (fun k_11 => k_11 (N .u8 (x.toNat : Int)) M3) (fun k => k .undef M3) fun t44 M_12 =>
          guardM t42 true (fun k_13 => intW .gtr t44 (N .u8 1) fun t45 => k_13 t45 M_12) (fun k => k .undef M_12) fun t45_14 M_15 =>
          guardM (Bo false) false (fun k_16 => pickW t42 t45_14 (Bo false) fun t46 => k_16 t46 M_15) (fun k => k .undef M_15) fun t46_17 M_18 =>
          pickW (Bo false) (Bo true) t46_17 fun t47 => condW t47 (Q (.tup [N .u64 0, N .i64 0, Bo false]) M_18) (intW .add (N .i64 (i : Int)) (N .i64 1) fun t50 => Q (.tup [N .u64 (w : Int), t50, Bo true]) M_18) := fun hn => by
        rw [intW_eql]
        by_cases h9 : i = 9
        · rw [show ((i : Int) == 9) = true by simp; omega, guardM_TT]
          dsimp only
          rw [guardM_TT, intW_gtr]
          dsimp only
          rw [guardM_FF]
          dsimp only
          rw [pickT, pickF]
          refine condB (fun hg => bad (.inr ⟨h9, ?_⟩)) (fun hg => okk' ?_)
          · have : (x.toNat : Int) > 1 := of_decide_eq_true hg
            omega
          · have : ¬ (x.toNat : Int) > 1 := of_decide_eq_false hg
            rintro (h | h)
            · exact hn h
            · omega
        · rw [show ((i : Int) == 9) = false by simp; omega, guardM_FT]
          dsimp only
          rw [guardM_FT]
          dsimp only
          rw [guardM_FF]
          dsimp only
          rw [pickF, pickF, condF]
          refine okk' ?_
          rintro (h | h)
          · exact hn h
          · omega
      by_cases h0 : x.toNat = 0
      · rw [show ((x.toNat : Int) == 0) = true by simp [h0], guardM_TT]
        dsimp only
        rw [guardM_TT, intW_gtr]
        dsimp only
        rw [pickT]
        by_cases hi0 : i > 0
        · rw [show decide ((i : Int) > 0) = true by simpa using hi0, guardM_TF]
          dsimp only
          rw [guardM_TF]
          dsimp only
          rw [guardM_TF]
          dsimp only
          rw [guardM_U]
          dsimp only
          rw [guardM_U]
          dsimp only
          rw [guardM_TF]
          dsimp only
          rw [pickT, condT]
          exact bad (.inl ⟨h0, hi0⟩)
        · rw [show decide ((i : Int) > 0) = false by simp; omega, guardM_FF]
          have := second (fun h => hi0 h.2)
          dsimp only
          rw [guardM_FF]
          dsimp only at this ⊢
          rw [intW_eql] at this ⊢
          rw [guardM_FF]
          dsimp only
          exact this
      · rw [show ((x.toNat : Int) == 0) = false by simp; omega, guardM_FT]
        dsimp only
        rw [guardM_FT]
        dsimp only
        rw [pickF, guardM_FF]
        have := second (fun h => h0 h.1)
        dsimp only
        rw [guardM_FF]
        dsimp only at this ⊢
        rw [intW_eql] at this ⊢
        rw [guardM_FF]
        dsimp only
        exact this
  · have he : i = ls.length := by simp at hge; omega
    rw [he, List.drop_length, numF] at hset
    rw [hset] at hQ
    exact hQ

def readInt (most : Nat) (bs : List UInt8) (f : Bool) : Nat × List UInt8 × Bool :=
  match numB bs with
  | none => (0, bs, true)
  | some (v, n) => if f || decide (most < v) then (0, bs, true) else (v, bs.drop n, false)
theorem readInt_le {most : Nat} {bs : List UInt8} {f : Bool} : (readInt most bs f).1 ≤ most ∧ (readInt most bs f).2.1.length ≤ bs.length := by
  unfold readInt
  split
  · simp
  · split
    · simp
    · rename_i h
      simp at h ⊢
      omega
def IntC (T : Nat) (c : CallT) : Prop := ∀ {M : RM} {r most : Nat} {S : Nat → Prop} {bs : List UInt8} {f : Bool} {Q : PostV}, RdH T S M r bs f → most < 4294967296 →
  (∀ M', RdH T S M' r (readInt most bs f).2.1 (readInt most bs f).2.2 → Keep [r] M M' → M'.next = M.next → Q (N .i64 (((readInt most bs f).1 : Nat) : Int)) M') → c [.ptr r 0, N .i64 (most : Int)] M Q
def RUintC (T : Nat) (c : CallT) : Prop := ∀ {M : RM} {r : Nat} {S : Nat → Prop} {bs : List UInt8} {f : Bool} {Q : PostV}, RdH T S M r bs f →
  (∀ M', RdH T S M' r (readInt 18446744073709551615 bs f).2.1 (readInt 18446744073709551615 bs f).2.2 → Keep [r] M M' → M'.next = M.next → Q (N .u64 (((readInt 18446744073709551615 bs f).1 : Nat) : Int)) M') → c [.ptr r 0] M Q

theorem int_head {M : RM} {f ok : Bool} {v most : Nat} {K : PostV} (hm : most < 4294967296) (hQ : K (Bo (f || (!ok || decide (most < v)))) M) :
    guardM (Bo f) false (fun k' => notW (Bo ok) fun t21 => k' t21 M) (fun k => k .undef M) fun t21_2 M_3 =>
    pickW (Bo f) (Bo true) t21_2 fun t22 =>
    guardM t22 false (fun k' => intW .lss (N .i64 (most : Int)) (N .i64 0) fun t25 => k' t25 M_3) (fun k => k .undef M_3) fun t25_7 M_8 =>
    pickW t22 (Bo true) t25_7 fun t26 =>
    guardM t26 false (fun k' => cvtW .u64 (N .i64 (most : Int)) fun t30 => intW .gtr (N .u64 (v : Int)) t30 fun t31 => k' t31 M_8) (fun k => k .undef M_8) fun t31_17 M_18 =>
    pickW t26 (Bo true) t31_17 fun t32 => K t32 M_18 := by
  have tail : K (Bo true) M → guardM (Bo true) false (fun k' => intW .lss (N .i64 (most : Int)) (N .i64 0) fun t25 => k' t25 M) (fun k => k .undef M) fun t25_7 M_8 =>
      pickW (Bo true) (Bo true) t25_7 fun t26 =>
      guardM t26 false (fun k' => cvtW .u64 (N .i64 (most : Int)) fun t30 => intW .gtr (N .u64 (v : Int)) t30 fun t31 => k' t31 M_8) (fun k => k .undef M_8) fun t31_17 M_18 =>
      pickW t26 (Bo true) t31_17 fun t32 => K t32 M_18 := fun hK => by
    rw [guardM_TF]
    dsimp only
    rw [pickT, guardM_TF]
    dsimp only
    rw [pickT]
    exact hK
  cases f with
  | true =>
    rw [guardM_TF]
    dsimp only
    rw [pickT]
    exact tail hQ
  | false =>
    rw [guardM_FF]
    dsimp only
    rw [notW_Bo]
    cases ok with
    | false =>
      rw [pickF]
      exact tail hQ
    | true =>
      rw [pickF]
      simp only [Bool.not_true]
      rw [guardM_FF]
      dsimp only
      rw [intW_lss, show decide ((most : Int) < 0) = false by simp]
      rw [pickF, guardM_FF]
      dsimp only
      rw [cvtW_N, wrap_u64_id (by omega) (by omega), intW_gtr, pickF]
      have : decide ((v : Int) > (most : Int)) = decide (most < v) := by simp
      rw [this]
      exact hQ
theorem uint_head {M : RM} {f ok : Bool} {K : PostV} (hQ : K (Bo (f || !ok)) M) :
    guardM (Bo f) false (fun k' => notW (Bo ok) fun t21 => k' t21 M) (fun k => k .undef M) fun t21_2 M_3 =>
    pickW (Bo f) (Bo true) t21_2 fun t22 => K t22 M_3 := by
  cases f with
  | true =>
    rw [guardM_TF]
    dsimp only
    rw [pickT]
    exact hQ
  | false =>
    rw [guardM_FF]
    dsimp only
    rw [notW_Bo, pickF]
    exact hQ
/-- The reader fails, or goes on. -/
theorem read_tail {T : Nat} {M : RM} {r : Nat} {S : Nat → Prop} {bs : List UInt8} {f g : Bool} {n : Nat} {x : AV} {Z : PostV} {K : RM → Prop} (h : RdH T S M r bs f) (hn : n ≤ bs.length)
    (h1 : g = true → ∀ M', RdH T S M' r bs true → Keep [r] M M' → M'.next = M.next → Z x M')
    (h2 : g = false → ∀ M', RdH T S M' r (bs.drop n) false → Keep [r] M M' → M'.next = M.next → K M') :
    ptrW (.ptr r 0) fun t33 => fldW t33 1 fun t34 => storeW M t34 (Bo g) 1 fun M_19 => ptrW (.ptr r 0) fun t36 => fldW t36 1 fun t37 => load1 M_19 t37 fun t38 =>
      condW t38 (Z x M_19) (ptrW (.ptr r 0) fun t41 => fldW t41 0 fun t42 => load1 M_19 t42 fun t43 => getW (subS 1 t43 (some (N .i64 (n : Int))) none none) fun t45 =>
        ptrW (.ptr r 0) fun t46 => fldW t46 0 fun t47 => storeW M_19 t47 t45 1 fun M_20 => K M_20) := by
  obtain ⟨v, hr, hs, hc, hS⟩ := h.row
  have hrl := h.lt
  rw [ptrW_ptr, fld0, storeW_to [v, Bo g] hr (by simp) rfl rfl rfl, ptrW_ptr, fld0, load1_at (heap_put_eq _) rfl]
  have kk : Keep [r] M (M.put r (.row [v, Bo g] false T 0)) := (Keep.refl _ _).put _ (.inr (by simp))
  have hh : (M.put r (.row [v, Bo g] false T 0)).heap r = some (.row [v, Bo g] false T 0) := heap_put_eq _
  have nn : (M.put r (.row [v, Bo g] false T 0)).next = M.next := rfl
  generalize M.put r (.row [v, Bo g] false T 0) = M1 at *
  have s1 : Sl BY M1 v bs := SlR.keep hs kk (fun d hd hm => by simp at hm; subst hm; exact h.nb (hS d hd))
  refine condB (fun hg => ?_) (fun hg => ?_)
  · subst hg
    exact h1 rfl M1 ⟨by omega, ⟨v, hh, s1, hc, hS⟩, h.nb⟩ kk nn
  · subst hg
    rw [ptrW_ptr, fld0, load1_at hh rfl]
    obtain ⟨v', e1, e2, e3, e4⟩ := cut_from rfl s1 hc hn
    rw [e1, getW_some, ptrW_ptr, fld0, storeW_to [v', Bo false] hh (by simp) (SlR.cells e2) (SlR.one e2) rfl]
    have k2 : Keep [r] M1 (M1.put r (.row [v', Bo false] false T 0)) := (Keep.refl _ _).put _ (.inr (by simp))
    exact h2 rfl _ ⟨by rw [next_put]; omega, ⟨v', heap_put_eq _, SlR.keep e2 k2 (fun d hd hm => by simp at hm; subst hm; exact h.nb (hS d (e4 d hd))), e3, fun d hd => hS d (e4 d hd)⟩, h.nb⟩ (kk.trans k2) (by rw [next_put]; exact nn)

theorem int_spec {T : Nat} {cn : CallT} (hn : NumC T cn) : IntC T fun args M Q => ∃ a0 a1, args = [a0, a1] ∧ W_rolodex_bin_Reader_Int cn a0 a1 M Q := by
  intro M r most S bs f Q h hm hQ
  refine ⟨_, _, rfl, ?_⟩
  unfold W_rolodex_bin_Reader_Int
  simp only [fuseM]
  refine hn h ?_
  obtain ⟨v, hr, hs, hc, hS⟩ := h.row
  unfold readInt at hQ
  unfold numR
  cases hnb : numB bs with
  | none =>
    simp only [hnb] at hQ
    dsimp only
    rw [extW0, extW1, extW2, ptrW_ptr, fld0, load1_at hr rfl]
    refine int_head (v := 0) (ok := false) hm ?_
    refine read_tail (n := 0) (Z := Q) h (Nat.zero_le _) (fun _ M' q1 q2 q3 => hQ M' q1 q2 q3) (fun hg => by simp at hg)
  | some p =>
    obtain ⟨w, n⟩ := p
    simp only [hnb] at hQ
    dsimp only
    rw [extW0, extW1, extW2, ptrW_ptr, fld0, load1_at hr rfl]
    refine int_head (v := w) (ok := true) hm ?_
    refine read_tail (n := n) (Z := Q) h (numB_bd hnb).2.2.1 (fun hg M' q1 q2 q3 => ?_) (fun hg M' q1 q2 q3 => ?_)
    · have hg : (f || decide (most < w)) = true := by simpa using hg
      rw [if_pos hg] at hQ
      exact hQ M' q1 q2 q3
    · have hg : (f || decide (most < w)) = false := by simpa using hg
      rw [if_neg (by simp [hg])] at hQ
      have hw : w ≤ most := by simp at hg; omega
      rw [cvtW_N, wrap_i64_id (by omega) (by omega)]
      exact hQ M' q1 q2 q3
theorem ruint_spec {T : Nat} {cn : CallT} (hn : NumC T cn) : RUintC T fun args M Q => ∃ a0, args = [a0] ∧ W_rolodex_bin_Reader_Uint cn a0 M Q := by
  intro M r S bs f Q h hQ
  refine ⟨_, rfl, ?_⟩
  unfold W_rolodex_bin_Reader_Uint
  simp only [fuseM]
  refine hn h ?_
  obtain ⟨v, hr, hs, hc, hS⟩ := h.row
  unfold readInt at hQ
  unfold numR
  cases hnb : numB bs with
  | none =>
    simp only [hnb] at hQ
    dsimp only
    rw [extW0, extW1, extW2, ptrW_ptr, fld0, load1_at hr rfl]
    refine uint_head (ok := false) ?_
    refine read_tail (n := 0) (Z := Q) h (Nat.zero_le _) (fun _ M' q1 q2 q3 => hQ M' q1 q2 q3) (fun hg => by simp at hg)
  | some p =>
    obtain ⟨w, n⟩ := p
    simp only [hnb] at hQ
    dsimp only
    rw [extW0, extW1, extW2, ptrW_ptr, fld0, load1_at hr rfl]
    refine uint_head (ok := true) ?_
    have hw : decide (18446744073709551615 < w) = false := by
      have := (numB_bd hnb).1
      simp; omega
    rw [hw, Bool.or_false] at hQ
    refine read_tail (n := n) (Z := Q) h (numB_bd hnb).2.2.1 (fun hg M' q1 q2 q3 => ?_) (fun hg M' q1 q2 q3 => ?_)
    · have hg : f = true := by simpa using hg
      rw [if_pos hg] at hQ
      exact hQ M' q1 q2 q3
    · have hg : f = false := by simpa using hg
      rw [if_neg (by simp [hg])] at hQ
      exact hQ M' q1 q2 q3

def ReadC (T : Nat) (c : CallT) : Prop := ∀ {M : RM} {v : AV} {bs : List UInt8} {Q : PostV}, Sl BY M v bs → bs.length ≤ 140737488355328 →
  (∀ r M', RdH T (fun d => M.next ≤ d ∧ d < r) M' r bs false → M.next ≤ r → Keep [] M M' → Q (.ptr r 0) M') → c [v] M Q
theorem read_spec {T TB : Nat} {cc : CallT} (hcl : CloneC TB 1 1 cc) : ReadC T fun args M Q => ∃ a0, args = [a0] ∧ W_rolodex_bin_Read cc T a0 M Q := by
  intro M v bs Q h hl hQ
  refine ⟨_, rfl, ?_⟩
  unfold W_rolodex_bin_Read
  refine hcl h (Enc.row_all _ _) (by omega) (by omega) fun b0 M1 ho hk => ?_
  rw [buildW_eq]
  refine ⟨[b0, Bo false], ?_, ?_⟩
  · have := ho.cells
    have hkn := ho.slR.known
    simp [fillL, hkn, this]
  rw [boxW_agg (by simp [ho.one]; rfl) (by simp), newW_eq]
  have k2 : Keep [] M1 (M1.push (.row [b0, Bo false] false T 0)) := (Keep.refl _ _).push _
  refine hQ M1.next _ ⟨by rw [next_push]; omega, ⟨b0, RM.push_new _, SlR.keep ho.slR k2 (by simp), Own.capOk ho, fun d hd => ho.blk d hd⟩, fun h => by omega⟩ hk.next (hk.trans k2)

def ErrC (T : Nat) (c : CallT) : Prop := ∀ {M : RM} {r : Nat} {S : Nat → Prop} {bs : List UInt8} {f : Bool} {Q : PostV}, RdH T S M r bs f → Q (N .i64 (if f then 14 else 0)) M → c [.ptr r 0] M Q
theorem err_spec {T : Nat} : ErrC T fun args M Q => ∃ a0, args = [a0] ∧ W_rolodex_bin_Reader_Err a0 M Q := by
  intro M r S bs f Q h hQ
  refine ⟨_, rfl, ?_⟩
  unfold W_rolodex_bin_Reader_Err
  obtain ⟨v, hr, hs, hc, hS⟩ := h.row
  rw [ptrW_ptr, fld0, load1_at hr rfl]
  cases f with
  | true => rw [condT]; exact hQ
  | false => rw [condF]; exact hQ
def EndC (T : Nat) (c : CallT) : Prop := ∀ {M : RM} {r : Nat} {S : Nat → Prop} {bs : List UInt8} {f : Bool} {Q : PostV}, RdH T S M r bs f → Q (N .i64 (if f || !bs.isEmpty then 14 else 0)) M → c [.ptr r 0] M Q
theorem end_spec {T : Nat} : EndC T fun args M Q => ∃ a0, args = [a0] ∧ W_rolodex_bin_Reader_End a0 M Q := by
  intro M r S bs f Q h hQ
  refine ⟨_, rfl, ?_⟩
  unfold W_rolodex_bin_Reader_End
  simp only [fuseM]
  obtain ⟨v, hr, hs, hc, hS⟩ := h.row
  rw [ptrW_ptr, fld0, load1_at hr rfl]
  cases f with
  | true =>
    rw [guardM_TF]
    dsimp only
    rw [pickT, condT]; exact hQ
  | false =>
    rw [guardM_FF]
    dsimp only
    rw [ptrW_ptr, fld0, load1_at hr rfl, SlR.len hs, intW_gtr, pickF]
    cases bs with
    | nil =>
      rw [show decide (((([] : List UInt8).length : Nat) : Int) > 0) = false by simp, condF]; exact hQ
    | cons b bs =>
      rw [show decide ((((b :: bs).length : Nat) : Int) > 0) = true by simp, condT]; exact hQ
end Go.Ab.Dot
/- The form of a set, and its bytes: the walks. By an AI agent. -/
set_option maxRecDepth 10000
set_option linter.unusedVariables false
set_option linter.unusedSimpArgs false
namespace Go.Ab.Dot
open Go Go.Ab

/-- A join that is not opened. -/
def joinV (f : (List AV → RM → Prop) → Prop) (g : List AV → RM → Prop) : Prop := f g
theorem joinW_shut (f : (List AV → RM → Prop) → Prop) (g : List AV → RM → Prop) : joinW f g = joinV f g := rfl
theorem joinV_spec {H : (List AV → RM → Prop) → Prop} {G : List AV → RM → Prop} (P : List AV → RM → Prop) (hT : ∀ xs M, P xs M → G xs M)
    (hH : ∀ J : List AV → RM → Prop, (∀ xs M, P xs M → J xs M) → H J) : joinV H G := hH G hT

def PRE : Enc (Nat × Nat) := ⟨2, fun p => [N .i64 (p.1 : Int), N .u64 (p.2 : Int)], fun _ => rfl, fun _ => rfl⟩
abbrev PartT := (Nat × Nat) × List Nat
def PartR : Rep PartT := Rep.pre PRE (U64.rep.slice)
theorem PartR_rel {M : RM} {i u : Nat} {v : AV} {xs : List Nat} {S : Nat → Prop} (h : SlD U64.rep M v xs S) : PartR.rel M [N .i64 (i : Int), N .u64 (u : Int), v] ((i, u), xs) S := ⟨[v], rfl, ⟨v, rfl, h⟩⟩
theorem build3 {x y z a b c : AV} (h1 : known x = true) (h2 : x.cells = [x]) (h3 : known y = true) (h4 : y.cells = [y]) (h5 : known z = true) (h6 : z.cells = [z]) : fillL [a, b, c] [(0, 1, x), (1, 1, y), (2, 1, z)] = some [x, y, z] := by
  simp [fillL, h1, h2, h3, h4, h5, h6]

/-- The form, of the first i parts. -/
def partsT (ps : List Pt) : Nat → List PartT
  | 0 => []
  | i + 1 => partsT ps i ++ (if 0 < (ps.getD i (0, [])).1 ∨ 0 < (ps.getD i (0, [])).2.length then [((i, (ps.getD i (0, [])).1), (ps.getD i (0, [])).2)] else [])
def parts (ps : List Pt) : List PartT := partsT ps 16
theorem partsT_len (ps : List Pt) : ∀ i, (partsT ps i).length ≤ i
  | 0 => Nat.le_refl _
  | i + 1 => by
    have := partsT_len ps i
    rw [partsT, List.length_append]
    split <;> simp <;> omega
def PartsC (T TP : Nat) (c : CallT) : Prop := ∀ {M : RM} {b : Nat} {ps : List Pt} {S : Nat → Prop} {Q : PostV}, SetH T S M b ps → (∀ p ∈ ps, p.2.length ≤ 1000000) →
  (∀ v M', OwD PartR M' M.next TP v (parts ps) (fun d => M.next ≤ d ∧ d < M'.next ∧ d ∉ blkOf v) → Keep [] M M' → Q v M') → c [.ptr b 0] M Q

theorem parts_spec {TS T TP TU : Nat} {cc : CallT} (hcl : CloneC TU 1 8 cc) : PartsC TS TP fun args M Q => ∃ a0, args = [a0] ∧ W_rolodex_dot_Set_Parts T cc TP a0 M Q := by
  intro M b ps S Q h hlen hQ
  refine ⟨_, rfl, ?_⟩
  unfold W_rolodex_dot_Set_Parts
  simp only [fuseM, joinW_shut]
  obtain ⟨l, hb, hl32, hrow⟩ := h.row
  rw [ptrW_ptr, fld0, loadN_at (n := 32) hb hl32]
  refine loopW_ind (fun m ys M3 => ∃ (i : Nat) (v : AV), m = 16 - i ∧ ys = [v, N .i64 (i : Int)] ∧ i ≤ 16 ∧ Keep [] M M3 ∧ OwD PartR M3 M.next TP v (partsT ps i) (fun d => M.next ≤ d ∧ d < M3.next ∧ d ∉ blkOf v)) _
    ⟨0, nilS, rfl, rfl, Nat.zero_le _, Keep.refl _ _, .nil⟩ ?_
  rintro next m ys M3 hnext ⟨i, v, rfl, rfl, hi, hK, ho⟩
  dsimp only [nthD]
  rw [intW_lss]
  refine condB (fun hlt => ?_) (fun hge => ?_)
  · have hlt : i < 16 := by
      have : (i : Int) < 16 := of_decide_eq_true hlt
      omega
    refine joinV_spec (fun zs M' => ∃ w, zs = [w] ∧ Keep [] M M' ∧ OwD PartR M' M.next TP w (partsT ps (i + 1)) (fun d => M.next ≤ d ∧ d < M'.next ∧ d ∉ blkOf w)) ?_ ?_
    · rintro zs M' ⟨w, rfl, hk', ho'⟩
      dsimp only [nthD]
      rw [intW_add, i64_succ (by omega)]
      exact hnext _ _ _ (by omega) ⟨i + 1, w, rfl, rfl, by omega, hk', ho'⟩
    intro J hJ
    have hil : i < ps.length := by rw [h.len]; exact hlt
    obtain ⟨w, a1, a2, a3, a4, a5⟩ := hrow i hil
    have hpD : ps.getD i (0, []) = ps[i] := by rw [List.getD_eq_getElem?_getD, List.getElem?_eq_getElem hil]; rfl
    have hcut : (l.drop (2 * i)).take 2 = [N .u64 (ps[i].1 : Int), w] := by
      have h1 := (List.getElem?_eq_some_iff.1 a1)
      have h2 := (List.getElem?_eq_some_iff.1 a2)
      obtain ⟨q1, q2⟩ := h1
      obtain ⟨r1, r2⟩ := h2
      rw [List.drop_eq_getElem_cons q1, List.drop_eq_getElem_cons r1, q2, r2]; rfl
    rw [idxPN_agg]
    refine ⟨by omega, by omega, by simp only [Int.toNat_natCast]; omega, ?_⟩
    rw [Int.toNat_natCast, Nat.mul_comm i 2, hcut, newW_eq]
    have hw1 := SlR.one a3
    have hwc := SlR.cells a3
    rw [storeW_all (n := 2) (x := .agg [N .u64 (ps[i].1 : Int), w]) (l := [N .u64 0, .sc (.slice none 0 0)]) (RM.push_new _) rfl rfl (by simp [AV.cells, hw1]; rfl)]
    have kk : Keep [] M3 ((M3.push (.row [N .u64 0, .sc (.slice none 0 0)] false T 0)).put M3.next (.row (AV.agg [N .u64 (ps[i].1 : Int), w]).cells false T 0)) := ((Keep.refl _ _).push _).new _ (Nat.le_refl _)
    have hh : ((M3.push (.row [N .u64 0, .sc (.slice none 0 0)] false T 0)).put M3.next (.row (AV.agg [N .u64 (ps[i].1 : Int), w]).cells false T 0)).heap M3.next = some (.row [N .u64 (ps[i].1 : Int), w] false T 0) := heap_put_eq _
    have hnx : ((M3.push (.row [N .u64 0, .sc (.slice none 0 0)] false T 0)).put M3.next (.row (AV.agg [N .u64 (ps[i].1 : Int), w]).cells false T 0)).next = M3.next + 1 := rfl
    generalize (M3.push (.row [N .u64 0, .sc (.slice none 0 0)] false T 0)).put M3.next (.row (AV.agg [N .u64 (ps[i].1 : Int), w]).cells false T 0) = M4 at *
    have hvl := ho.blk
    have n3 := hK.next
    have ho4 := (ho.keep kk (by simp) (by simp)).mono (S' := fun d => M.next ≤ d ∧ d < M4.next ∧ d ∉ blkOf v) fun d hd => ⟨hd.1, by omega, hd.2.2⟩
    have s4 : Sl U64 M4 w ps[i].2 := SlR.keep (SlR.keep a3 hK (by simp)) kk (by simp)
    rw [fld0, load1_at hh rfl, intW_gtr]
    have skip : ¬ (0 < ps[i].1 ∨ 0 < ps[i].2.length) → J [v] M4 := fun hn => hJ _ _ ⟨v, rfl, hK.trans kk, by
      rw [partsT, hpD, if_neg hn, List.append_nil]; exact ho4⟩
    have take : (0 < ps[i].1 ∨ 0 < ps[i].2.length) → fldW (.ptr M3.next 0) 0 fun t25 => load1 M4 t25 fun t26 => fldW (.ptr M3.next 0) 1 fun t27 => load1 M4 t27 fun t28 => cc [t28] M4 fun t29 M_13 => load1 M_13 t25 fun t26_16 =>
        (t26_16 = t26 ∧ buildW [(N .i64 0), (N .u64 0), (.sc (.slice none 0 0))] [(0, 1, N .i64 (i : Int)), (1, 1, t26), (2, 1, t29)] fun t30 =>
        rowsW TP 1 [(N .i64 0), (N .u64 0), (.sc (.slice none 0 0))] [(0, 3, t30)] fun r f => newR r f M_13 fun t31 M_14 b => appW TP 3 40 [(N .i64 0), (N .u64 0), (.sc (.slice none 0 0))] false v t31 M_14 fun t32 M_15 => J [t32] M_15) := fun hy => by
      rw [fld0, load1_at hh rfl, fld0, load1_at hh rfl]
      have hm := hlen _ (List.getElem_mem hil)
      refine hcl s4 (Enc.row_all _ _) (by omega) (by omega) fun y M5 hy5 k5 => ?_
      have n5 := k5.next
      rw [load1_at (k5.heap_of hh (by omega) (by simp)) rfl]
      refine ⟨rfl, ?_⟩
      rw [buildW_eq]
      refine ⟨_, build3 rfl rfl rfl rfl hy5.slR.known hy5.cells, ?_⟩
      have hall : ([N .i64 (i : Int), N .u64 (ps[i].1 : Int), y] : List AV).all oneCell = true := by simp [hy5.one]; exact ⟨rfl, rfl⟩
      rw [rows1 (x := .agg [N .i64 (i : Int), N .u64 (ps[i].1 : Int), y]) (size := 3) rfl hall rfl, newR_eq]
      have hvl4 := ho4.blk
      let S' : Nat → Prop := fun d => M.next ≤ d ∧ d < M5.next ∧ d ∉ blkOf v
      have ho5 := (ho4.keep k5 (by simp) (by simp)).mono (S' := S') fun d hd => ⟨hd.1, by omega, hd.2.2⟩
      have hel : PartR.rel M5 [N .i64 (i : Int), N .u64 (ps[i].1 : Int), y] ((i, ps[i].1), ps[i].2) S' :=
        PartR_rel (SlD.of_sl hy5.slR fun d hd => ⟨by have := (hy5.blk d hd).1; omega, (hy5.blk d hd).2, fun hb => by have := (hvl4 d hb).2; have := (hy5.blk d hd).1; omega⟩)
      refine OwD.app (R := PartR) ho5 hel (by omega) (by decide) (fun b hb h => h.2.2 hb) (fun b h => h.2.1) (by have := partsT_len ps i; omega) (by have := partsT_len ps i; omega) ?_
      intro w' M6 o6 k6 n6 _ hd6
      refine hJ _ _ ⟨w', rfl, ?_, ?_⟩
      · exact ((hK.trans kk).trans k5).then_new k6 fun c hc => .inl (hvl c hc).1
      · rw [partsT, hpD, if_pos hy]
        exact o6.mono fun d hd => ⟨hd.1, by have := hd.2.1; omega, fun hb => hd6 d hb hd⟩
    by_cases hu : 0 < ps[i].1
    · rw [show decide ((ps[i].1 : Int) > 0) = true by simpa using hu, guardM_TF]
      dsimp only
      rw [pickT, condT]
      exact take (.inl hu)
    · rw [show decide ((ps[i].1 : Int) > 0) = false by simp; omega, guardM_FF]
      dsimp only
      rw [fld0, load1_at hh rfl, SlR.len s4, intW_gtr, pickF]
      refine condB (fun hg => take (.inr ?_)) (fun hg => ?_)
      · have : ((ps[i].2.length : Nat) : Int) > 0 := of_decide_eq_true hg
        omega
      · refine skip ?_
        have : ¬ ((ps[i].2.length : Nat) : Int) > 0 := of_decide_eq_false hg
        omega
  · have he : i = 16 := by
      have : ¬ (i : Int) < 16 := of_decide_eq_false hge
      omega
    subst he
    exact hQ v M3 ho hK

@[irreducible] def sub64 (x a : Nat) : Nat := (x + 18446744073709551616 - a) % 18446744073709551616
theorem sub_u64 {x a : Nat} (h : a < 18446744073709551616) : IntKind.wrap .u64 ((x : Int) - (a : Int)) = ((sub64 x a : Nat) : Int) := by
  simp only [IntKind.wrap, IntKind.bits, IntKind.signed, sub64]
  simp
  omega
theorem sub64_lt (x a : Nat) : sub64 x a < 2 ^ 64 := by unfold sub64; exact Nat.mod_lt _ (by decide)
def gapsB : Nat → List Nat → List UInt8
  | _, [] => []
  | a, x :: xs => uintB (sub64 x a) ++ gapsB x xs
def encP (p : PartT) : List UInt8 := uintB p.1.1 ++ uintB p.1.2 ++ uintB p.2.length ++ gapsB p.1.2 p.2
def encL (l : List PartT) : List UInt8 := uintB l.length ++ l.flatMap encP
def encS (ps : List Pt) : List UInt8 := encL (parts ps)
theorem uintB_10 {v : Nat} (h : v < 2 ^ 64) : (uintB v).length ≤ 10 := uintB_len 10 v (by omega) (by omega)
theorem gapsB_len : ∀ (xs : List Nat) (a : Nat), (gapsB a xs).length ≤ 10 * xs.length
  | [], _ => Nat.le_refl _
  | x :: xs, a => by
    rw [gapsB, List.length_append, List.length_cons]
    have := gapsB_len xs x
    have := uintB_10 (sub64_lt x a)
    omega
theorem partsT_mem {ps : List Pt} : ∀ {i : Nat} {x : PartT}, x ∈ partsT ps i → ∃ j, j < i ∧ x = ((j, (ps.getD j (0, [])).1), (ps.getD j (0, [])).2)
  | 0, x, h => by simp [partsT] at h
  | i + 1, x, h => by
    rw [partsT, List.mem_append] at h
    rcases h with h | h
    · obtain ⟨j, h1, h2⟩ := partsT_mem h
      exact ⟨j, by omega, h2⟩
    · split at h
      · simp only [List.mem_singleton] at h
        exact ⟨i, by omega, h⟩
      · simp at h

/-- Bounds of a part. -/
def Bd (p : Pt) : Prop := p.1 < 2 ^ 64 ∧ p.2.length ≤ 1000000 ∧ ∀ x ∈ p.2, x < 2 ^ 64
theorem parts_bd {ps : List Pt} (h : ∀ p ∈ ps, Bd p) {x : PartT} (hx : x ∈ parts ps) : x.1.1 < 16 ∧ Bd (x.1.2, x.2) := by
  obtain ⟨j, h1, rfl⟩ := partsT_mem hx
  refine ⟨h1, ?_⟩
  rw [List.getD_eq_getElem?_getD]
  by_cases hj : j < ps.length
  · rw [List.getElem?_eq_getElem hj]
    exact h _ (List.getElem_mem hj)
  · rw [List.getElem?_eq_none (by omega)]
    exact ⟨(by decide : 0 < 2 ^ 64), Nat.zero_le _, fun x hx => by simp at hx⟩
theorem WfP.bd {p : Pt} (h : WfP p) : Bd p := ⟨by have := h.2.2.1; omega, by have := h.2.2.2.2; omega, fun x hx => by have := h.2.2.2.1 x hx; omega⟩
theorem encP_len {p : PartT} (h1 : p.1.1 < 16) (h : Bd (p.1.2, p.2)) : (encP p).length ≤ 10000030 := by
  unfold encP
  simp only [List.length_append]
  have := uintB_10 (v := p.1.1) (by omega)
  have := uintB_10 (v := p.1.2) h.1
  have h2 : p.2.length ≤ 1000000 := h.2.1
  have := uintB_10 (v := p.2.length) (by omega)
  have := gapsB_len p.2 p.1.2
  omega

def EncodeC (TS T : Nat) (c : CallT) : Prop := ∀ {M : RM} {b : Nat} {ps : List Pt} {S : Nat → Prop} {Q : PostV}, SetH TS S M b ps → (∀ p ∈ ps, Bd p) →
  (∀ v M', Own M' M.next T 1 v (bytesC (encS ps)) (encS ps).length → (encS ps).length ≤ 200000000 → Keep [] M M' → Q v M') → c [.ptr b 0] M Q

/-- Some bytes, at the end of which more are laid. -/
theorem bytesC_append (a b : List UInt8) : bytesC (a ++ b) = bytesC a ++ bytesC b := List.map_append
theorem gaps_take : ∀ {xs : List Nat} {i a q : Nat} (hi : i < xs.length) (hq : (a :: xs)[i]? = some q), gapsB a (xs.take (i + 1)) = gapsB a (xs.take i) ++ uintB (sub64 xs[i] q)
  | x :: xs, 0, a, q, hi, hq => by
    simp only [List.getElem?_cons_zero, Option.some.injEq] at hq
    subst hq
    rw [List.take_succ_cons, List.take_zero, List.take_zero, gapsB, gapsB, gapsB, List.append_nil, List.nil_append]
    rfl
  | x :: xs, i + 1, a, q, hi, hq => by
    rw [List.getElem?_cons_succ] at hq
    have := gaps_take (a := x) (xs := xs) (i := i) (by simpa using hi) hq
    rw [List.take_succ_cons, List.take_succ_cons, gapsB, gapsB, this, List.append_assoc]
    rfl
end Go.Ab.Dot
/- A set's bytes: the walk. By an AI agent. -/
set_option maxRecDepth 10000
set_option linter.unusedVariables false
set_option linter.unusedSimpArgs false
namespace Go.Ab.Dot
open Go Go.Ab

theorem UintC.app {T : Nat} {c : CallT} (hc : UintC T c) {M : RM} {base v : Nat} {b : AV} {L : List UInt8} {Q : PostV} (ho : Own M base T 1 b (bytesC L) L.length) (hb : base ≤ M.next) (hL : L.length + 10 ≤ 140737488355328) (hv : v < 2 ^ 64)
    (hQ : ∀ r M', Own M' base T 1 r (bytesC (L ++ uintB v)) (L ++ uintB v).length → Keep [] M M' → Q r M') : c [b, N .u64 (v : Int)] M Q := by
  refine hc ho.slR (bytesC_one _) hL hv fun r M' h1 h2 => hQ r M' ?_ h2
  rw [bytesC_append, List.length_append]
  exact h1.mono hb

theorem encode_spec {TS TP T : Nat} {cp cu : CallT} (hp : PartsC TS TP cp) (hu : UintC T cu) : EncodeC TS T fun args M Q => ∃ a0, args = [a0] ∧ W_rolodex_dot_Set_Encode cp cu TP a0 M Q := by
  intro M b ps S Q h hbd hQ
  refine ⟨_, rfl, ?_⟩
  unfold W_rolodex_dot_Set_Encode
  refine hp h (fun p hp => (hbd p hp).2.1) fun v M1 ho k1 => ?_
  have hls : SlD PartR M1 v (parts ps) (fun d => M.next ≤ d) := (ho.mono (fun d h => h.1)).slD fun d h1 h2 => h1
  have hpl : (parts ps).length ≤ 16 := partsT_len ps 16
  have hpb : ∀ x ∈ parts ps, x.1.1 < 16 ∧ Bd (x.1.2, x.2) := fun x hx => parts_bd hbd hx
  unfold encS encL at hQ
  generalize parts ps = ls at *
  have u10 := uintB_10 (v := ls.length) (by omega)
  have n1 := k1.next
  rw [hls.len, cvtW_N, wrap_u64, Nat.mod_eq_of_lt (by omega)]
  refine hu.app (L := []) .nil n1 (by simp) (by omega) fun r0 M2 ho2 k2 => ?_
  rw [List.nil_append] at ho2
  rw [hls.len]
  refine loopW_ind (fun m ys M3 => ∃ (i : Nat) (v : AV), m = ls.length - i ∧ ys = [v, N .i64 (i : Int)] ∧ i ≤ ls.length ∧ Keep [] M1 M3 ∧ Own M3 M.next T 1 v (bytesC (uintB ls.length ++ (ls.take i).flatMap encP)) (uintB ls.length ++ (ls.take i).flatMap encP).length ∧ (uintB ls.length ++ (ls.take i).flatMap encP).length ≤ 10 + 10000030 * i) _
    ⟨0, r0, rfl, rfl, Nat.zero_le _, k2, by simpa using ho2, by simpa using u10⟩ ?_
  rintro next m ys M3 hnext ⟨i, w, rfl, rfl, hi, hK, ho3, hle3⟩
  dsimp only [nthD]
  rw [intW_lss]
  refine condB (fun hlt => ?_) (fun hge => ?_)
  · have hlt : i < ls.length := by simpa using hlt
    have hpb := hpb _ (List.getElem_mem hlt)
    have hL : (uintB ls.length ++ (ls.take (i + 1)).flatMap encP) = (uintB ls.length ++ (ls.take i).flatMap encP) ++ encP ls[i] := by
      rw [List.take_succ_eq_append_getElem hlt, List.flatMap_append, List.append_assoc]; simp
    have hLl : (uintB ls.length ++ (ls.take (i + 1)).flatMap encP).length ≤ 10 + 10000030 * (i + 1) := by
      rw [hL, List.length_append]
      have := encP_len hpb.1 hpb.2
      omega
    rw [hL] at hLl
    have hls3 := hls.keep hK (by simp)
    obtain ⟨b1, o1, cs, _, _, hidx, hld, hrel⟩ := hls3.at (i := i) 3 (i : Int) hlt rfl rfl
    have hstep : ∀ w M', Keep [] M1 M' → Own M' M.next T 1 w (bytesC ((uintB ls.length ++ (ls.take i).flatMap encP) ++ encP ls[i])) ((uintB ls.length ++ (ls.take i).flatMap encP) ++ encP ls[i]).length → next [w, N .i64 ((i + 1 : Nat) : Int)] M' := fun w M' k o => by
      refine hnext _ _ _ (by omega) ⟨i + 1, w, rfl, rfl, by omega, k, ?_, ?_⟩
      · rw [hL]; exact o
      · rw [hL]; exact hLl
    generalize uintB ls.length ++ (ls.take i).flatMap encP = L at *
    have hLb : L.length ≤ 10 + 10000030 * 16 := by omega
    generalize ls[i] = pt at *
    obtain ⟨⟨dv, u⟩, xs⟩ := pt
    obtain ⟨ds, rfl, w', rfl, hxs⟩ := hrel
    simp only [PRE] at *
    have hxl : xs.length ≤ 1000000 := hpb.2.2.1
    have hub : u < 2 ^ 64 := hpb.2.1
    have hxb : ∀ x ∈ xs, x < 2 ^ 64 := hpb.2.2.2
    have hdv : dv < 16 := hpb.1
    have n3 := hK.next
    rw [hidx, loadN_ptr]
    refine ⟨_, hld, ?_⟩
    have hw1 := hxs.one
    rw [newW_eq, storeW_all (n := 3) (x := .agg ([N .i64 (dv : Int), N .u64 (u : Int)] ++ [w'])) (l := [(N .i64 0), (N .u64 0), (.sc (.slice none 0 0))]) (RM.push_new _) rfl rfl (by simp [AV.cells, hw1]; exact ⟨rfl, rfl⟩)]
    have kk : Keep [] M3 ((M3.push (.row [(N .i64 0), (N .u64 0), (.sc (.slice none 0 0))] false TP 0)).put M3.next (.row (AV.agg ([N .i64 (dv : Int), N .u64 (u : Int)] ++ [w'])).cells false TP 0)) := ((Keep.refl _ _).push _).new _ (Nat.le_refl _)
    have hh : ((M3.push (.row [(N .i64 0), (N .u64 0), (.sc (.slice none 0 0))] false TP 0)).put M3.next (.row (AV.agg ([N .i64 (dv : Int), N .u64 (u : Int)] ++ [w'])).cells false TP 0)).heap M3.next = some (.row [N .i64 (dv : Int), N .u64 (u : Int), w'] false TP 0) := heap_put_eq _
    have hnx : ((M3.push (.row [(N .i64 0), (N .u64 0), (.sc (.slice none 0 0))] false TP 0)).put M3.next (.row (AV.agg ([N .i64 (dv : Int), N .u64 (u : Int)] ++ [w'])).cells false TP 0)).next = M3.next + 1 := rfl
    generalize (M3.push (.row [(N .i64 0), (N .u64 0), (.sc (.slice none 0 0))] false TP 0)).put M3.next (.row (AV.agg ([N .i64 (dv : Int), N .u64 (u : Int)] ++ [w'])).cells false TP 0) = M4 at *
    have hx4 := (hxs.keep kk (by simp)).sl
    have ho4 := ho3.keep kk (by simp)
    rw [fld0, load1_at hh rfl, cvtW_N, wrap_u64_id (by omega) (by omega), fld0, load1_at hh rfl, fld0, load1_at hh rfl, SlR.len hx4, cvtW_N, wrap_u64_id (by omega) (by omega)]
    refine hu.app ho4 (by omega) (by omega) (by omega) fun r5 M5 ho5 k5 => ?_
    have e5 := uintB_10 (v := dv) (by omega)
    rw [load1_at (k5.heap_of hh (by omega) (by simp)) rfl]
    refine ⟨rfl, ?_⟩
    rw [load1_at (k5.heap_of hh (by omega) (by simp)) rfl]
    refine ⟨rfl, ?_⟩
    have n5 := k5.next
    refine hu.app ho5 (by omega) (by rw [List.length_append]; omega) hub fun r6 M6 ho6 k6 => ?_
    have e6 := uintB_10 hub
    have n6 := k6.next
    have k46 := k5.trans k6
    rw [load1_at (k46.heap_of hh (by omega) (by simp)) rfl]
    refine ⟨rfl, ?_⟩
    refine hu.app ho6 (by omega) (by simp only [List.length_append]; omega) (by omega) fun r7 M7 ho7 k7 => ?_
    have e7 := uintB_10 (v := xs.length) (by omega)
    have n7 := k7.next
    have k47 := k46.trans k7
    have hh7 := k47.heap_of hh (by omega) (by simp)
    have hx7 : Sl U64 M7 w' xs := SlR.keep hx4 k47 (by simp)
    rw [fld0, load1_at hh7 rfl, fld0, load1_at hh7 rfl, SlR.len hx7]
    have hencP : L ++ encP ((dv, u), xs) = L ++ uintB dv ++ uintB u ++ uintB xs.length ++ gapsB u xs := by simp only [encP, List.append_assoc]
    rw [hencP] at hstep
    have k37 := hK.trans (kk.trans k47)
    have hL7 : (L ++ uintB dv ++ uintB u ++ uintB xs.length).length ≤ L.length + 30 := by simp only [List.length_append]; omega
    generalize L ++ uintB dv ++ uintB u ++ uintB xs.length = L7 at *
    refine loopW_ind (fun m ys M8 => ∃ (j q : Nat) (w : AV), m = xs.length - j ∧ ys = [w, N .u64 (q : Int), N .i64 (j : Int)] ∧ j ≤ xs.length ∧ (u :: xs)[j]? = some q ∧ Keep [] M7 M8 ∧ Own M8 M.next T 1 w (bytesC (L7 ++ gapsB u (xs.take j))) (L7 ++ gapsB u (xs.take j)).length) _
      ⟨0, u, r7, rfl, rfl, Nat.zero_le _, rfl, Keep.refl _ _, by simpa [gapsB] using ho7⟩ ?_
    rintro next2 m ys M8 hnext2 ⟨j, q, w8, rfl, rfl, hj, hq, hK8, ho8⟩
    dsimp only [nthD]
    rw [intW_lss]
    refine condB (fun hlt => ?_) (fun hge => ?_)
    · have hlt : j < xs.length := by simpa using hlt
      obtain ⟨b2, o2, _, _, hidx2, hc2⟩ := Sl.at1 (E := U64) (SlR.keep hx7 hK8 (by simp)) (j : Int) hlt
      have hxj := hxb _ (List.getElem_mem hlt)
      have hqb : q < 2 ^ 64 := by
        have := List.mem_of_getElem? hq
        rcases List.mem_cons.1 this with rfl | h
        · exact hub
        · exact hxb _ h
      rw [hidx2, load1_ptr]
      refine ⟨_, hc2 _ rfl, ?_⟩
      have n8 := hK8.next
      have hg := gapsB_len (xs.take j) u
      rw [List.length_take] at hg
      rw [intW_sub, sub_u64 (by omega)]
      refine hu.app ho8 (by omega) (by rw [List.length_append]; omega) (sub64_lt _ _) fun r9 M9 ho9 k9 => ?_
      rw [intW_add, i64_succ (by omega)]
      refine hnext2 _ _ _ (by omega) ⟨j + 1, xs[j], r9, rfl, rfl, by omega, by rw [List.getElem?_cons_succ, List.getElem?_eq_getElem hlt], hK8.trans k9, ?_⟩
      rw [gaps_take hlt hq, ← List.append_assoc]
      exact ho9
    · have he : j = xs.length := by simp at hge; omega
      subst he
      rw [intW_add, i64_succ (by omega)]
      refine hstep _ _ (k37.trans hK8) ?_
      rw [List.take_length] at ho8
      exact ho8
  · have he : i = ls.length := by simp at hge; omega
    subst he
    rw [List.take_length] at ho3 hle3
    exact hQ w M3 ho3 (by omega) (k1.trans hK)
end Go.Ab.Dot
/- Sets of one's own; formed; equal bytes: the walks. By an AI agent. -/
set_option maxRecDepth 10000
set_option linter.unusedVariables false
set_option linter.unusedSimpArgs false
namespace Go.Ab.Dot
open Go Go.Ab

/-- A set all of whose blocks are one's own. -/
structure SetO (T TU base : Nat) (M : RM) (b : Nat) (ps : List Pt) : Prop where
  lt : b < M.next
  len : ps.length = 16
  row : ∃ (l : List AV) (vs : Nat → AV), M.heap b = some (.row l false T 0) ∧ l.length = 32 ∧ (∀ (i : Nat) (hi : i < ps.length), l[2 * i]? = some (N .u64 (ps[i].1 : Int)) ∧ l[2 * i + 1]? = some (vs i) ∧ Ow U64 M base TU (vs i) ps[i].2) ∧
    ∀ i j, i < 16 → j < 16 → i ≠ j → ∀ d ∈ blkOf (vs i), d ∉ blkOf (vs j)
  nb : b < base
theorem SetO.setH {T TU base : Nat} {M : RM} {b : Nat} {ps : List Pt} (h : SetO T TU base M b ps) : SetH T (fun d => base ≤ d) M b ps := by
  obtain ⟨l, vs, h1, h2, h3, h4⟩ := h.row
  refine ⟨h.lt, h.len, ⟨l, h1, h2, fun i hi => ⟨vs i, (h3 i hi).1, (h3 i hi).2.1, (h3 i hi).2.2.slR, Own.capOk (h3 i hi).2.2, fun d hd => ((h3 i hi).2.2.blk d hd).1⟩⟩, by have := h.nb; omega⟩
def NewOC (T TU : Nat) (c : CallT) : Prop := ∀ {M : RM} {Q : PostV}, (∀ M', SetO T TU (M.next + 1) M' M.next emptyS → Keep [] M M' → M'.next = M.next + 1 → Q (.ptr M.next 0) M') → c [] M Q
theorem newO_spec {T TU : Nat} : NewOC T TU fun args M Q => args = [] ∧ W_rolodex_dot_New T M Q := by
  intro M Q hQ
  refine ⟨rfl, ?_⟩
  unfold W_rolodex_dot_New
  rw [buildW_eq]
  refine ⟨_, rfl, ?_⟩
  rw [boxW_agg rfl (by simp), newW_eq]
  refine hQ _ ⟨by simp [RM.push], rfl, ⟨_, fun _ => nilS, RM.push_new _, rfl, fun i hi => ?_, fun i j _ _ _ d hd => by simp [blkOf] at hd⟩, by omega⟩ ((Keep.refl _ _).push _) rfl
  have hi : i < 16 := hi
  refine ⟨?_, ?_, ?_⟩
  · obtain rfl | rfl | rfl | rfl | rfl | rfl | rfl | rfl | rfl | rfl | rfl | rfl | rfl | rfl | rfl | rfl : i = 0 ∨ i = 1 ∨ i = 2 ∨ i = 3 ∨ i = 4 ∨ i = 5 ∨ i = 6 ∨ i = 7 ∨ i = 8 ∨ i = 9 ∨ i = 10 ∨ i = 11 ∨ i = 12 ∨ i = 13 ∨ i = 14 ∨ i = 15 := by omega
    all_goals rfl
  · obtain rfl | rfl | rfl | rfl | rfl | rfl | rfl | rfl | rfl | rfl | rfl | rfl | rfl | rfl | rfl | rfl : i = 0 ∨ i = 1 ∨ i = 2 ∨ i = 3 ∨ i = 4 ∨ i = 5 ∨ i = 6 ∨ i = 7 ∨ i = 8 ∨ i = 9 ∨ i = 10 ∨ i = 11 ∨ i = 12 ∨ i = 13 ∨ i = 14 ∨ i = 15 := by omega
    all_goals rfl
  · simp only [emptyS, List.getElem_replicate]; exact .nil
theorem SetO.keep {T TU base : Nat} {M M' : RM} {b : Nat} {ps : List Pt} {bs : List Nat} (h : SetO T TU base M b ps) (hk : Keep bs M M') (hb : b ∉ bs) (hs : ∀ d ∈ bs, d < base) : SetO T TU base M' b ps := by
  obtain ⟨l, vs, h1, h2, h3, h4⟩ := h.row
  refine ⟨Nat.lt_of_lt_of_le h.lt hk.next, h.len, ⟨l, vs, hk.heap_of h1 h.lt hb, h2, fun i hi => ⟨(h3 i hi).1, (h3 i hi).2.1, (h3 i hi).2.2.keep hk fun d hd hm => ?_⟩, h4⟩, h.nb⟩
  have := ((h3 i hi).2.2.blk d hd).1
  have := hs d hm
  omega
/-- How far: stored. -/
theorem SetO.upto {T TU base : Nat} {M : RM} {b i u : Nat} {ps : List Pt} (h : SetO T TU base M b ps) (hi : i < 16) {K : RM → Prop}
    (hK : ∀ M', SetO T TU base M' b (ps.set i (u, (ps.getD i (0, [])).2)) → Keep [b] M M' → M'.next = M.next → (M'.heap b).isSome → K M') : storeW M (.ptr b (2 * i)) (N .u64 (u : Int)) 1 K := by
  obtain ⟨l, vs, h1, h2, h3, h4⟩ := h.row
  have hnb := h.nb
  rw [storeW_at h1 (by omega) rfl rfl]
  have kk : Keep [b] M (M.put b (.row (l.set (2 * i) (N .u64 (u : Int))) false T 0)) := (Keep.refl _ _).put _ (.inr (by simp))
  have hil : i < ps.length := by rw [h.len]; exact hi
  have hpD : ps.getD i (0, []) = ps[i] := by rw [List.getD_eq_getElem?_getD, List.getElem?_eq_getElem hil]; rfl
  refine hK _ ⟨h.lt, by rw [List.length_set]; exact h.len, ⟨_, vs, heap_put_eq _, by rw [List.length_set]; exact h2, fun j hj => ?_, h4⟩, h.nb⟩ kk rfl (by rw [heap_put_eq]; rfl)
  have hj' : j < ps.length := by rw [List.length_set] at hj; exact hj
  have ow := (h3 j hj').2.2.keep kk fun d hd hm => by
    have := ((h3 j hj').2.2.blk d hd).1
    simp at hm; omega
  by_cases hji : j = i
  · subst hji
    refine ⟨?_, ?_, ?_⟩
    · rw [List.getElem?_set_self (by omega), List.getElem_set_self]
    · rw [List.getElem?_set_ne (by omega)]; exact (h3 j hj').2.1
    · rw [List.getElem_set_self, hpD]; exact ow
  · refine ⟨?_, ?_, ?_⟩
    · rw [List.getElem?_set_ne (by omega), List.getElem_set_ne (Ne.symm hji)]; exact (h3 j hj').1
    · rw [List.getElem?_set_ne (by omega)]; exact (h3 j hj').2.1
    · rw [List.getElem_set_ne (Ne.symm hji)]; exact ow
/-- One more: appended. -/
theorem SetO.more {T TU base : Nat} {M : RM} {b i x : Nat} {ps : List Pt} (h : SetO T TU base M b ps) (hi : i < 16) (hlen : (ps.getD i (0, [])).2.length ≤ 1000000) (hbase : base ≤ M.next) {K : RM → Prop}
    (hK : ∀ M' ks, SetO T TU base M' b (ps.set i ((ps.getD i (0, [])).1, (ps.getD i (0, [])).2 ++ [x])) → Keep ks M M' → (∀ d ∈ ks, d = b ∨ base ≤ d) → K M') :
    load1 M (.ptr b (2 * i + 1)) fun t55 => rowsW TU 1 [(N .u64 0)] [(0, 1, N .u64 (x : Int))] fun r f => newW r f M fun t57 M_21 => appW TU 1 8 [(N .u64 0)] false t55 t57 M_21 fun t58 M_22 =>
      ptrW (.ptr b (2 * i)) fun t59 => fldW t59 1 fun t60 => storeW M_22 t60 t58 1 K := by
  obtain ⟨l, vs, h1, h2, h3, h4⟩ := h.row
  have hnb := h.nb
  have hblt := h.lt
  have hil : i < ps.length := by rw [h.len]; exact hi
  have hpD : ps.getD i (0, []) = ps[i] := by rw [List.getD_eq_getElem?_getD, List.getElem?_eq_getElem hil]; rfl
  rw [hpD] at hlen hK
  rw [load1_at h1 (h3 i hil).2.1, rows1 (x := N .u64 (x : Int)) (size := 1) rfl rfl rfl, newW_eq]
  refine app_one (E := U64) (a := x) (h3 i hil).2.2 hbase (Nat.le_refl _) (by omega) (by omega) ?_
  intro v' M' o1 k1 n1 hv
  have hbv : ∀ j, b ∉ blkOf (vs j) ∨ ¬ j < 16 := fun j => by
    by_cases hj : j < 16
    · refine .inl fun hm => ?_
      have := ((h3 j (by rw [h.len]; exact hj)).2.2.blk b hm).1
      omega
    · exact .inr hj
  have hh : M'.heap b = some (.row l false T 0) := k1.heap_of h1 hblt (by rcases hbv i with h | h; exact h; exact absurd hi h)
  rw [ptrW_ptr, fldW_ptr, storeW_at hh (by omega) o1.cells o1.one]
  have kk : Keep [b] M' (M'.put b (.row (l.set (2 * i + 1) v') false T 0)) := (Keep.refl _ _).put _ (.inr (by simp))
  have nbv : b ∉ blkOf v' := fun hm => by have := (o1.blk b hm).1; omega
  refine hK _ (b :: blkOf (vs i)) ⟨Nat.lt_of_lt_of_le hblt n1, by rw [List.length_set]; exact h.len, ⟨_, fun j => if j = i then v' else vs j, heap_put_eq _, by rw [List.length_set]; exact h2, fun j hj => ?_, fun j1 j2 q1 q2 hne d hd => ?_⟩, h.nb⟩ ?_ ?_
  · have hj' : j < ps.length := by rw [List.length_set] at hj; exact hj
    by_cases hji : j = i
    · subst hji
      refine ⟨?_, ?_, ?_⟩
      · rw [List.getElem?_set_ne (by omega), List.getElem_set_self]; exact (h3 j hj').1
      · rw [List.getElem?_set_self (by omega)]; simp
      · rw [List.getElem_set_self]; simp only [if_true]
        exact o1.keep kk fun d hd hm => by simp at hm; subst hm; exact nbv hd
    · have hj16 : j < 16 := by rw [← h.len]; exact hj'
      refine ⟨?_, ?_, ?_⟩
      · rw [List.getElem?_set_ne (by omega), List.getElem_set_ne (Ne.symm hji)]; exact (h3 j hj').1
      · rw [List.getElem?_set_ne (by omega)]; simp only [if_neg hji]; exact (h3 j hj').2.1
      · rw [List.getElem_set_ne (Ne.symm hji)]; simp only [if_neg hji]
        refine ((h3 j hj').2.2.keep k1 fun d hd hm => h4 j i hj16 hi hji d hd hm).keep kk fun d hd hm => ?_
        simp at hm; subst hm
        rcases hbv j with h | h
        · exact h hd
        · exact h hj16
  · simp only at hd ⊢
    by_cases e1 : j1 = i
    · rw [if_pos e1] at hd
      rw [if_neg (fun e => hne (e1.trans e.symm))]
      rcases hv with rfl | hv
      · exact h4 i j2 hi q2 (fun e => hne (e1.trans e)) d hd
      · intro hm
        have := hv d hd
        have := ((h3 j2 (by rw [h.len]; exact q2)).2.2.blk d hm).2
        omega
    · rw [if_neg e1] at hd
      by_cases e2 : j2 = i
      · rw [if_pos e2]
        rcases hv with rfl | hv
        · exact h4 j1 i q1 hi e1 d hd
        · intro hm
          have := hv d hm
          have := ((h3 j1 (by rw [h.len]; exact q1)).2.2.blk d hd).2
          omega
      · rw [if_neg e2]
        exact h4 j1 j2 q1 q2 hne d hd
  · exact (k1.mono (fun d hd => List.mem_cons_of_mem _ hd)).trans (kk.mono (by simp))
  · intro d hd
    rcases List.mem_cons.1 hd with rfl | hd
    · exact .inl rfl
    · exact .inr ((h3 i hil).2.2.blk d hd).1

/-! ### formed -/
def chain : Nat → List Nat → Bool
  | _, [] => true
  | a, x :: xs => decide (a < x) && chain x xs
def formP (p : Pt) : Bool := chain (p.1 + 1) p.2
def FormedC (T : Nat) (c : CallT) : Prop := ∀ {M : RM} {b : Nat} {ps : List Pt} {S : Nat → Prop} {Q : PostV}, SetH T S M b ps → (∀ p ∈ ps, p.2.length ≤ 1000000 ∧ p.1 ≤ 1099511627776) →
  (∀ M', Keep [] M M' → Q (Bo (ps.all formP)) M') → c [.ptr b 0] M Q
theorem formed_spec {TS T : Nat} : FormedC TS fun args M Q => ∃ a0, args = [a0] ∧ W_rolodex_dot_Set_formed T a0 M Q := by
  intro M b ps S Q h hbd hQ
  refine ⟨_, rfl, ?_⟩
  unfold W_rolodex_dot_Set_formed
  simp only [fuseM]
  obtain ⟨l, hb, hl32, hrow⟩ := h.row
  rw [ptrW_ptr, fld0, loadN_at (n := 32) hb hl32]
  refine loopW_ind (fun m ys M3 => ∃ (i : Nat), m = 16 - i ∧ ys = [N .i64 (i : Int)] ∧ i ≤ 16 ∧ Keep [] M M3 ∧ ps.all formP = (ps.drop i).all formP) _
    ⟨0, rfl, rfl, Nat.zero_le _, Keep.refl _ _, rfl⟩ ?_
  rintro next m ys M3 hnext ⟨i, rfl, rfl, hi, hK, hset⟩
  dsimp only [nthD]
  rw [intW_lss]
  refine condB (fun hlt => ?_) (fun hge => ?_)
  · have hlt : i < 16 := by
      have : (i : Int) < 16 := of_decide_eq_true hlt
      omega
    have hil : i < ps.length := by rw [h.len]; exact hlt
    obtain ⟨w, a1, a2, a3, a4, a5⟩ := hrow i hil
    have hcut : (l.drop (2 * i)).take 2 = [N .u64 (ps[i].1 : Int), w] := by
      have h1 := (List.getElem?_eq_some_iff.1 a1)
      have h2 := (List.getElem?_eq_some_iff.1 a2)
      obtain ⟨q1, q2⟩ := h1
      obtain ⟨r1, r2⟩ := h2
      rw [List.drop_eq_getElem_cons q1, List.drop_eq_getElem_cons r1, q2, r2]; rfl
    rw [idxPN_agg]
    refine ⟨by omega, by omega, by simp only [Int.toNat_natCast]; omega, ?_⟩
    rw [Int.toNat_natCast, Nat.mul_comm i 2, hcut, newW_eq]
    have hw1 := SlR.one a3
    have hwc := SlR.cells a3
    rw [storeW_all (n := 2) (x := .agg [N .u64 (ps[i].1 : Int), w]) (l := [N .u64 0, .sc (.slice none 0 0)]) (RM.push_new _) rfl rfl (by simp [AV.cells, hw1]; rfl)]
    have kk : Keep [] M3 ((M3.push (.row [N .u64 0, .sc (.slice none 0 0)] false T 0)).put M3.next (.row (AV.agg [N .u64 (ps[i].1 : Int), w]).cells false T 0)) := ((Keep.refl _ _).push _).new _ (Nat.le_refl _)
    have hh : ((M3.push (.row [N .u64 0, .sc (.slice none 0 0)] false T 0)).put M3.next (.row (AV.agg [N .u64 (ps[i].1 : Int), w]).cells false T 0)).heap M3.next = some (.row [N .u64 (ps[i].1 : Int), w] false T 0) := heap_put_eq _
    generalize (M3.push (.row [N .u64 0, .sc (.slice none 0 0)] false T 0)).put M3.next (.row (AV.agg [N .u64 (ps[i].1 : Int), w]).cells false T 0) = M4 at *
    have s4 : Sl U64 M4 w ps[i].2 := SlR.keep (SlR.keep a3 hK (by simp)) kk (by simp)
    obtain ⟨hxl, hub⟩ := hbd _ (List.getElem_mem hil)
    rw [List.drop_eq_getElem_cons hil, List.all_cons] at hset
    have hk4 := hK.trans kk
    unfold formP at hset
    change ps.all formP = (chain (ps[i].1 + 1) ps[i].2 && (ps.drop (i + 1)).all formP) at hset
    generalize hu : ps[i].1 = u at *
    generalize hxs : ps[i].2 = xs at *
    rw [fld0, load1_at hh rfl, SlR.len s4]
    refine loopW_ind (fun m ys M5 => ∃ (j q : Nat), m = xs.length - j ∧ ys = [N .i64 (j : Int)] ∧ j ≤ xs.length ∧ M5 = M4 ∧ ((u + 1) :: xs)[j]? = some q ∧ chain (u + 1) xs = chain q (xs.drop j)) _
      ⟨0, u + 1, rfl, rfl, Nat.zero_le _, rfl, rfl, rfl⟩ ?_
    rintro next2 m ys M5 hnext2 ⟨j, q, rfl, rfl, hj, rfl, hq, hch⟩
    dsimp only [nthD]
    rw [intW_lss]
    refine condB (fun hlt2 => ?_) (fun hge2 => ?_)
    · have hlt2 : j < xs.length := by simpa using hlt2
      obtain ⟨b2, o2, _, _, hidx2, hc2⟩ := Sl.at1 (E := U64) s4 (j : Int) hlt2
      rw [List.drop_eq_getElem_cons hlt2, chain] at hch
      rw [hidx2, load1_ptr]
      refine ⟨_, hc2 _ rfl, ?_⟩
      have bad : xs[j] ≤ q → Q (Bo false) M5 := fun hle => by
        have : chain (u + 1) xs = false := by rw [hch, show decide (q < xs[j]) = false by simp; omega, Bool.false_and]
        rw [hset, this, Bool.false_and] at hQ
        exact hQ M5 hk4
      have ok : ¬ xs[j] ≤ q → intW .add (N .i64 (j : Int)) (N .i64 1) fun t45 => next2 [t45] M5 := fun hle => by
        rw [intW_add, i64_succ (by omega)]
        refine hnext2 _ _ _ (by omega) ⟨j + 1, xs[j], rfl, rfl, by omega, rfl, by rw [List.getElem?_cons_succ, List.getElem?_eq_getElem hlt2], ?_⟩
        rw [hch, show decide (q < xs[j]) = true by simp; omega, Bool.true_and]
      rw [intW_eql]
      by_cases hj0 : j = 0
      · subst hj0
        simp only [List.getElem?_cons_zero, Option.some.injEq] at hq
        subst hq
        rw [show ((((0 : Nat) : Int)) == 0) = true from rfl, guardM_TT]
        dsimp only
        rw [fld0, load1_at hh rfl, intW_add, wrap_u64_id (by omega) (by omega), intW_leq, pickT]
        by_cases hle : xs[0] ≤ u + 1
        · rw [show decide (((xs[0] : Nat) : Int) ≤ (u : Int) + 1) = true by simp; omega, guardM_TF]
          dsimp only
          rw [guardM_U]
          dsimp only
          rw [guardM_TF]
          dsimp only
          rw [pickT, condT]
          exact bad hle
        · rw [show decide (((xs[0] : Nat) : Int) ≤ (u : Int) + 1) = false by simp; omega, guardM_FF]
          dsimp only
          rw [intW_gtr, show decide (((0 : Nat) : Int) > 0) = false from rfl, guardM_FT]
          dsimp only
          rw [guardM_FF]
          dsimp only
          rw [pickF, pickF, condF]
          exact ok hle
      · rw [show ((j : Int) == 0) = false by simp; omega, guardM_FT]
        dsimp only
        rw [pickF, guardM_FF]
        dsimp only
        rw [intW_gtr, show decide ((j : Int) > 0) = true by simp; omega, guardM_TT]
        dsimp only
        obtain ⟨b3, o3, _, _, hidx3, hc3⟩ := Sl.at1 (E := U64) (i := j - 1) s4 ((j - 1 : Nat) : Int) (by omega)
        rw [fld0, load1_at hh rfl, intW_sub, wrap_i64_id (by omega) (by omega), show (j : Int) - 1 = ((j - 1 : Nat) : Int) by omega, hidx3, load1_ptr]
        refine ⟨_, hc3 _ rfl, ?_⟩
        have hqe : xs[j - 1] = q := by
          have e : j = (j - 1) + 1 := by omega
          rw [e, List.getElem?_cons_succ, List.getElem?_eq_getElem (by omega)] at hq
          exact Option.some.inj hq
        rw [hqe, intW_leq, guardM_FF]
        dsimp only
        rw [pickT, pickF]
        refine condB (fun hg => bad ?_) (fun hg => ok ?_)
        · have : ((xs[j] : Nat) : Int) ≤ (q : Int) := of_decide_eq_true hg
          omega
        · have : ¬ ((xs[j] : Nat) : Int) ≤ (q : Int) := of_decide_eq_false hg
          omega
    · have he : j = xs.length := by simp at hge2; omega
      subst he
      rw [List.drop_length, chain] at hch
      rw [intW_add, i64_succ (by omega)]
      refine hnext _ _ _ (by omega) ⟨i + 1, rfl, rfl, by omega, hk4, ?_⟩
      rw [hset, hch, Bool.true_and]
  · have he : i = 16 := by
      have : ¬ (i : Int) < 16 := of_decide_eq_false hge
      omega
    subst he
    rw [List.drop_of_length_le (by rw [h.len]; exact Nat.le_refl _)] at hset
    rw [hset] at hQ
    exact hQ M3 hK

def EqualC (c : CallT) : Prop := ∀ {M : RM} {v w : AV} {x y : List UInt8} {Q : PostV}, Sl BY M v x → Sl BY M w y → Q (Bo (x == y)) M → c [v, w] M Q
theorem equal_spec : EqualC fun args M Q => ∃ a0 a1, args = [a0, a1] ∧ W_bytes_Equal a0 a1 M Q := by
  intro M v w x y Q h1 h2 hQ
  refine ⟨_, _, rfl, ?_⟩
  unfold W_bytes_Equal
  rw [Sl.str h1, Sl.str h2, strW_eql]
  exact hQ
theorem Own.sl {M : RM} {base T : Nat} {v : AV} {L : List UInt8} (h : Own M base T 1 v (bytesC L) L.length) : Sl BY M v L := by
  have := h.slR
  show SlR M 1 v (BY.row L) L.length
  rw [BY_row]; exact this
end Go.Ab.Dot
/- Reading a set: the walk. By an AI agent. -/
set_option maxRecDepth 10000
set_option linter.unusedVariables false
set_option linter.unusedSimpArgs false
namespace Go.Ab.Dot
open Go Go.Ab

@[irreducible] def readU (bs : List UInt8) (f : Bool) : Nat × List UInt8 × Bool := readInt 18446744073709551615 bs f
theorem readU_lt {bs : List UInt8} {f : Bool} : (readU bs f).1 < 2 ^ 64 := by
  unfold readU
  have := (readInt_le (most := 18446744073709551615) (bs := bs) (f := f)).1
  omega
/-- A part's others, read. -/
def decIn : Nat → Nat → List UInt8 → Bool → List Nat → Option (Nat × List UInt8 × Bool × List Nat)
  | 0, a, bs, f, acc => some (a, bs, f, acc)
  | k + 1, a, bs, f, acc =>
    if (readU bs f).2.2 = true ∨ 1099511627776 < (readU bs f).1 ∨ 1099511627776 < a then none
    else decIn k (a + (readU bs f).1) (readU bs f).2.1 (readU bs f).2.2 (acc ++ [a + (readU bs f).1])
def decOut : Nat → List UInt8 → Bool → List Pt → Option (List UInt8 × Bool × List Pt)
  | 0, bs, f, ps => some (bs, f, ps)
  | k + 1, bs, f, ps =>
    let d := readInt 15 bs f
    let u := readU d.2.1 d.2.2
    let n := readInt 4096 u.2.1 u.2.2
    match decIn n.1 u.1 n.2.1 n.2.2 (ps.getD d.1 (0, [])).2 with
    | none => none
    | some (a, bs', f', acc) => if 1099511627776 < u.1 ∨ 1099511627776 < a then none else decOut k bs' f' (ps.set d.1 (u.1, acc))
def decode (bs : List UInt8) : Option (List Pt) :=
  match decOut (readInt 16 bs false).1 (readInt 16 bs false).2.1 (readInt 16 bs false).2.2 emptyS with
  | none => none
  | some (bs', f, ps) => if f = true ∨ bs' ≠ [] ∨ ps.all formP = false ∨ encS ps ≠ bs then none else some ps

def RU (T : Nat) (c : CallT) : Prop := ∀ {M : RM} {r : Nat} {S : Nat → Prop} {bs : List UInt8} {f : Bool} {Q : PostV}, RdH T S M r bs f →
  (∀ M', RdH T S M' r (readU bs f).2.1 (readU bs f).2.2 → Keep [r] M M' → M'.next = M.next → Q (N .u64 (((readU bs f).1 : Nat) : Int)) M') → c [.ptr r 0] M Q
theorem RUintC.ru {T : Nat} {c : CallT} (h : RUintC T c) : RU T c := by
  intro M r S bs f Q hr hQ
  unfold readU at hQ
  exact h hr hQ

/-- Bounds of a part that is being read. -/
def Bi (k : Nat) (p : Pt) : Prop := p.1 ≤ 1099511627776 ∧ p.2.length ≤ k ∧ ∀ x ∈ p.2, x ≤ 4398046511104
theorem getD_Bi {k : Nat} {ps : List Pt} (h : ∀ p ∈ ps, Bi k p) (i : Nat) : Bi k (ps.getD i (0, [])) := by
  rw [List.getD_eq_getElem?_getD]
  by_cases hj : i < ps.length
  · rw [List.getElem?_eq_getElem hj]
    exact h _ (List.getElem_mem hj)
  · rw [List.getElem?_eq_none (by omega)]
    exact ⟨Nat.zero_le _, Nat.zero_le _, fun x hx => by simp at hx⟩
theorem getD_set_self {ps : List Pt} {i : Nat} (h : i < ps.length) (p : Pt) : (ps.set i p).getD i (0, []) = p := by
  rw [List.getD_eq_getElem?_getD, List.getElem?_set_self h]; rfl

def DecodeC (TS TU : Nat) (c : CallT) : Prop := ∀ {M : RM} {v : AV} {bs : List UInt8} {Q : PostV}, Sl BY M v bs → bs.length ≤ 140737488355328 →
  (decode bs = none → ∀ M', Keep [] M M' → Q (.tup [.sc (.pointer none), N .i64 14]) M') →
  (∀ ps, decode bs = some ps → (∀ p ∈ ps, Bi 65536 p) → ∀ s M', M.next ≤ s → SetO TS TU (s + 1) M' s ps → Keep [] M M' → Q (.tup [.ptr s 0, N .i64 0]) M') → c [v] M Q

theorem decode_spec {TR TS TU TB : Nat} {crd cn ci cu ce cE cf cen ceq : CallT} (hrd : ReadC TR crd) (hn : NewOC TS TU cn) (hi : IntC TR ci) (hu : RU TR cu) (he : ErrC TR ce) (hE : EndC TR cE) (hf : FormedC TS cf) (hen : EncodeC TS TB cen) (heq : EqualC ceq) :
    DecodeC TS TU fun args M Q => ∃ a0, args = [a0] ∧ W_rolodex_dot_Decode crd cn ci cu ce TU cE cf cen ceq a0 M Q := by
  intro M0 v bs Q hv hlen hN hS
  refine ⟨_, rfl, ?_⟩
  unfold W_rolodex_dot_Decode
  simp only [fuseM]
  refine hrd hv hlen fun r M1 hr1 hr0 k1 => ?_
  have hrl1 := hr1.lt
  refine hn fun M2 hs2 k2 n2 => ?_
  have k02 := k1.trans k2
  have hr2 := hr1.keep k2 (by simp) (by simp)
  generalize M1.next = s at *
  refine hi (most := 16) hr2 (by omega) fun M3 hr3 k3 n3 => ?_
  have hrs : r < s := hrl1
  have hs3 := hs2.keep k3 (by simp; omega) (by simp; omega)
  have hle := (readInt_le (most := 16) (bs := bs) (f := false)).1
  unfold decode at hN hS
  generalize (readInt 16 bs false).1 = n at *
  generalize (readInt 16 bs false).2.1 = bs1 at *
  generalize (readInt 16 bs false).2.2 = f1 at *
  have k03 : Keep [] M0 M3 := k02.then_new k3 (by simp; omega)
  refine loopW_ind (fun m ys M4 => ∃ (i : Nat) (bs' : List UInt8) (f : Bool) (ps : List Pt), m = n - i ∧ ys = [N .i64 (i : Int)] ∧ i ≤ n ∧ Keep [] M0 M4 ∧ s < M4.next ∧ RdH TR (fun d => M0.next ≤ d ∧ d < r) M4 r bs' f ∧ SetO TS TU (s + 1) M4 s ps ∧ (∀ p ∈ ps, Bi (4096 * i) p) ∧
      decOut n bs1 f1 emptyS = decOut (n - i) bs' f ps) _
    ⟨0, bs1, f1, emptyS, rfl, rfl, Nat.zero_le _, k03, by omega, hr3, hs3, fun p hp => by simp only [emptyS, List.mem_replicate] at hp; rw [hp.2]; exact ⟨Nat.zero_le _, Nat.zero_le _, fun x hx => by simp at hx⟩, rfl⟩ ?_
  rintro next m ys M4 hnext ⟨i, bs', f, ps, rfl, rfl, hi4, hk4, n4, hr4, hs4, hb4, hdec⟩
  dsimp only [nthD]
  rw [intW_lss]
  refine condB (fun hlt => ?_) (fun hge => ?_)
  · have hlt : i < n := by simpa using hlt
    rw [show n - i = (n - i - 1) + 1 by omega, decOut] at hdec
    rw [ptrW_ptr, fld0]
    refine hi (most := 15) hr4 (by omega) fun M5 hr5 k5 n5 => ?_
    have hd15 := (readInt_le (most := 15) (bs := bs') (f := f)).1
    generalize (readInt 15 bs' f).1 = dv at *
    generalize (readInt 15 bs' f).2.1 = bsA at *
    generalize (readInt 15 bs' f).2.2 = fA at *
    have hs5 := hs4.keep k5 (by simp; omega) (by simp; omega)
    have hk5 : Keep [] M0 M5 := hk4.then_new k5 (by simp; omega)
    rw [idxA_ptr]
    refine ⟨by omega, by omega, ?_⟩
    rw [Int.toNat_natCast, Nat.zero_add, Nat.mul_comm dv 2]
    refine hu hr5 fun M6 hr6 k6 n6 => ?_
    have hult := readU_lt (bs := bsA) (f := fA)
    generalize (readU bsA fA).1 = u at *
    generalize (readU bsA fA).2.1 = bsB at *
    generalize (readU bsA fA).2.2 = fB at *
    have hs6 := hs5.keep k6 (by simp; omega) (by simp; omega)
    have hk6 : Keep [] M0 M6 := hk5.then_new k6 (by simp; omega)
    rw [ptrW_ptr, fldW_ptr, Nat.add_zero]
    refine hs6.upto (by omega) fun M7 hs7 k7 n7 _ => ?_
    have hpB := getD_Bi hb4 dv
    have hdl : dv < ps.length := by rw [hs4.len]; omega
    have hk7 : Keep [] M0 M7 := hk6.then_new k7 (by simp; have := k1.next; omega)
    have hr7 := hr6.keep k7 (by simp; omega) (by simp; omega)
    obtain ⟨l7, vs7, hh7, _, hrow7, _⟩ := hs7.row
    have hu7 := (hrow7 dv (by rw [List.length_set]; exact hdl)).1
    rw [List.getElem_set_self] at hu7
    rw [ptrW_ptr, fldW_ptr, Nat.add_zero, load1_at hh7 hu7]
    refine hi (most := 4096) hr7 (by omega) fun M8 hr8 k8 n8 => ?_
    have hn4096 := (readInt_le (most := 4096) (bs := bsB) (f := fB)).1
    generalize (readInt 4096 bsB fB).1 = nn at *
    generalize (readInt 4096 bsB fB).2.1 = bsC at *
    generalize (readInt 4096 bsB fB).2.2 = fC at *
    have hs8 := hs7.keep k8 (by simp; omega) (by simp; omega)
    have hk8 : Keep [] M0 M8 := hk7.then_new k8 (by simp; omega)
    have refuse : decOut n bs1 f1 emptyS = none → ∀ M', Keep [] M0 M' → Q (.tup [.sc (.pointer none), N .i64 14]) M' := fun h => hN (by rw [h])
    refine loopW_ind (fun m ys M9 => ∃ (j a : Nat) (bs9 : List UInt8) (f9 : Bool) (acc : List Nat), m = nn - j ∧ ys = [N .u64 (a : Int), N .i64 (j : Int)] ∧ j ≤ nn ∧ Keep [] M0 M9 ∧ s < M9.next ∧ RdH TR (fun d => M0.next ≤ d ∧ d < r) M9 r bs9 f9 ∧ SetO TS TU (s + 1) M9 s (ps.set dv (u, acc)) ∧ (acc.length ≤ 4096 * i + j ∧ ∀ x ∈ acc, x ≤ 4398046511104) ∧
        decIn nn u bsC fC (ps.getD dv (0, [])).2 = decIn (nn - j) a bs9 f9 acc) _
      ⟨0, u, bsC, fC, _, rfl, rfl, Nat.zero_le _, hk8, by omega, hr8, hs8, ⟨by have := hpB.2.1; omega, hpB.2.2⟩, rfl⟩ ?_
    rintro next2 m ys M9 hnext2 ⟨j, a, bs9, f9, acc, rfl, rfl, hj, hk9, n9, hr9, hs9, hacc, hdi⟩
    dsimp only [nthD]
    rw [intW_lss]
    refine condB (fun hlt2 => ?_) (fun hge2 => ?_)
    · have hlt2 : j < nn := by simpa using hlt2
      rw [show nn - j = (nn - j - 1) + 1 by omega, decIn] at hdi
      refine hu hr9 fun M10 hr10 k10 n10 => ?_
      have hdlt := readU_lt (bs := bs9) (f := f9)
      generalize (readU bs9 f9).1 = d at *
      generalize (readU bs9 f9).2.1 = bsD at *
      generalize (readU bs9 f9).2.2 = fD at *
      have hs10 := hs9.keep k10 (by simp; omega) (by simp; omega)
      have hk10 : Keep [] M0 M10 := hk9.then_new k10 (by simp; omega)
      refine he hr10 ?_
      have stop : (fD = true ∨ 1099511627776 < d ∨ 1099511627776 < a) → Q (.tup [.sc (.pointer none), N .i64 14]) M10 := fun h => by
        rw [if_pos h] at hdi
        rw [hdi] at hdec
        exact refuse hdec M10 hk10
      rw [intW_neq]
      cases fD with
      | true =>
        simp only [if_true]
        rw [show ((14 : Int) != 0) = true from rfl, guardM_TF]
        dsimp only
        rw [pickT, guardM_TF]
        dsimp only
        rw [pickT, condT]
        exact stop (.inl rfl)
      | false =>
        simp only [Bool.false_eq_true, if_false]
        rw [show ((0 : Int) != 0) = false from rfl, guardM_FF]
        dsimp only
        rw [intW_gtr, pickF]
        by_cases hd : 1099511627776 < d
        · rw [show decide ((d : Int) > 1099511627776) = true by simp; omega, guardM_TF]
          dsimp only
          rw [pickT, condT]
          exact stop (.inr (.inl hd))
        · rw [show decide ((d : Int) > 1099511627776) = false by simp; omega, guardM_FF]
          dsimp only
          rw [intW_gtr, pickF]
          refine condB (fun hg => stop (.inr (.inr ?_))) (fun hg => ?_)
          · have : (a : Int) > 1099511627776 := of_decide_eq_true hg
            omega
          · have hal : ¬ 1099511627776 < a := by
              have : ¬ (a : Int) > 1099511627776 := of_decide_eq_false hg
              omega
            rw [if_neg (by simp; omega)] at hdi
            rw [intW_add, show (a : Int) + (d : Int) = ((a + d : Nat) : Int) by omega, wrap_u64_id (by omega) (by omega), ptrW_ptr, fldW_ptr]
            have hgs := getD_set_self hdl (u, acc)
            refine hs10.more (i := dv) (x := a + d) (by omega) (by rw [hgs]; have := hacc.1; simp only; omega) (by omega) fun M11 ks hs11 k11 hks => ?_
            rw [hgs, List.set_set] at hs11
            have n11 := k11.next
            have hr11 := hr10.keep k11 (fun h => by rcases hks _ h with h | h <;> omega) (fun d hd h => by rcases hks _ hd with h | h <;> omega)
            have hk11 : Keep [] M0 M11 := hk10.then_new k11 (fun d hd => .inl (by rcases hks _ hd with h | h <;> (have := k1.next; omega)))
            rw [intW_add, i64_succ (by omega)]
            refine hnext2 _ _ _ (by omega) ⟨j + 1, a + d, bsD, false, acc ++ [a + d], rfl, rfl, by omega, hk11, by omega, hr11, hs11, ⟨by simp; have := hacc.1; omega, fun x hx => ?_⟩, hdi⟩
            rcases List.mem_append.1 hx with hx | hx
            · exact hacc.2 x hx
            · simp at hx; omega
    · have he2 : j = nn := by simp at hge2; omega
      subst he2
      rw [Nat.sub_self, decIn] at hdi
      rw [hdi] at hdec
      simp only at hdec
      obtain ⟨l9, vs9, hh9, _, hrow9, _⟩ := hs9.row
      have hu9 := (hrow9 dv (by rw [List.length_set]; exact hdl)).1
      rw [List.getElem_set_self] at hu9
      rw [ptrW_ptr, fldW_ptr, Nat.add_zero, load1_at hh9 hu9, intW_gtr]
      have stop : (1099511627776 < u ∨ 1099511627776 < a) → Q (.tup [.sc (.pointer none), N .i64 14]) M9 := fun h => by
        rw [if_pos h] at hdec
        exact refuse hdec M9 hk9
      by_cases hub : 1099511627776 < u
      · rw [show decide ((u : Int) > 1099511627776) = true by simp; omega, guardM_TF]
        dsimp only
        rw [pickT, condT]
        exact stop (.inl hub)
      · rw [show decide ((u : Int) > 1099511627776) = false by simp; omega, guardM_FF]
        dsimp only
        rw [intW_gtr, pickF]
        refine condB (fun hg => stop (.inr ?_)) (fun hg => ?_)
        · have : (a : Int) > 1099511627776 := of_decide_eq_true hg
          omega
        · have hal : ¬ 1099511627776 < a := by
            have : ¬ (a : Int) > 1099511627776 := of_decide_eq_false hg
            omega
          rw [if_neg (by omega)] at hdec
          rw [intW_add, i64_succ (by omega)]
          refine hnext _ _ _ (by omega) ⟨i + 1, bs9, f9, ps.set dv (u, acc), rfl, rfl, by omega, hk9, n9, hr9, hs9, fun p hp => ?_, hdec⟩
          rcases List.mem_or_eq_of_mem_set hp with hp | rfl
          · have := hb4 p hp
            exact ⟨this.1, by have := this.2.1; omega, this.2.2⟩
          · exact ⟨by simp only; omega, by have := hacc.1; simp only; omega, hacc.2⟩
  · have he4 : i = n := by simp at hge; omega
    subst he4
    rw [Nat.sub_self, decOut] at hdec
    rw [hdec] at hN hS
    simp only at hN hS
    have hH := hs4.setH
    refine hE hr4 ?_
    have refuse : ∀ M', (f = true ∨ bs' ≠ [] ∨ ps.all formP = false ∨ encS ps ≠ bs) → Keep [] M0 M' → Q (.tup [.sc (.pointer none), N .i64 14]) M' := fun M' h k => hN (by rw [if_pos h]) M' k
    rw [intW_neq]
    by_cases hfb : f = true ∨ bs' ≠ []
    · have : (f || !bs'.isEmpty) = true := by
        rcases hfb with h | h
        · rw [h]; rfl
        · cases bs' with
          | nil => exact absurd rfl h
          | cons x y => simp
      rw [this]
      simp only [if_true]
      rw [show ((14 : Int) != 0) = true from rfl, guardM_TF]
      dsimp only
      rw [pickT, guardM_TF]
      dsimp only
      rw [pickT, condT]
      exact refuse M4 (hfb.elim .inl fun h => .inr (.inl h)) hk4
    · have hf0 : f = false := by cases f; rfl; exact absurd (.inl rfl) hfb
      have hb0 : bs' = [] := Classical.byContradiction fun h => hfb (.inr h)
      subst hf0 hb0
      simp only [List.isEmpty_nil, Bool.not_true, Bool.or_false, Bool.false_eq_true, if_false]
      rw [show ((0 : Int) != 0) = false from rfl, guardM_FF]
      dsimp only
      have hbi : ∀ p ∈ ps, Bi 65536 p := fun p hp => by
        have := hb4 p hp
        exact ⟨this.1, by have := this.2.1; omega, this.2.2⟩
      refine hf hH (fun p hp => ⟨by have := (hbi p hp).2.1; omega, (hbi p hp).1⟩) fun M5 k5 => ?_
      have hk5 := hk4.trans k5
      have hs5 := hs4.keep k5 (by simp) (by simp)
      rw [notW_Bo, pickF]
      cases hfo : ps.all formP with
      | false =>
        rw [Bool.not_false, guardM_TF]
        dsimp only
        rw [pickT, condT]
        exact refuse M5 (.inr (.inr (.inl hfo))) hk5
      | true =>
        rw [Bool.not_true, guardM_FF]
        dsimp only
        refine hen hs5.setH (fun p hp => ⟨by have := (hbi p hp).1; omega, by have := (hbi p hp).2.1; omega, fun x hx => by have := (hbi p hp).2.2 x hx; omega⟩) fun w M6 ho6 hl6 k6 => ?_
        have hk6 := hk5.trans k6
        have hv6 : Sl BY M6 v bs := SlR.keep hv hk6 (by simp)
        refine heq (Own.sl ho6) hv6 ?_
        rw [notW_Bo, pickF]
        by_cases hbe : encS ps = bs
        · rw [show (encS ps == bs) = true by simpa using hbe, Bool.not_true, condF]
          refine hS ps ?_ hbi s M6 (by omega) (hs5.keep k6 (by simp) (by simp)) hk6
          rw [if_neg]
          rintro (h | h | h | h)
          · cases h
          · exact h rfl
          · rw [hfo] at h; cases h
          · exact h hbe
        · rw [show (encS ps == bs) = false by simpa using hbe, Bool.not_false, condT]
          exact refuse M6 (.inr (.inr (.inr hbe))) hk6
end Go.Ab.Dot
