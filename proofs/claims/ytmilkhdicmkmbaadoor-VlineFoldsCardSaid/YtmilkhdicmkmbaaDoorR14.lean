/- Memory in straight code: what a chain of new blocks holds. By an AI agent. -/
import Derived.Test.YtmilkhdicmkmbaaDoorR13
set_option linter.unusedVariables false
set_option linter.unusedSimpArgs false
namespace Go.Ab
open Go Go.RowKit

def RB.cells (lo : Nat) : RB → Option (List AV)
  | .row l _ _ _ => some l
  | .ro c => some (c.toList.map (absV lo))
  | _ => none
@[go_sem] theorem RB.cells_row (lo : Nat) (l : List AV) (p : Bool) (e f : Nat) : RB.cells lo (.row l p e f) = some l := rfl

theorem RM.cells_eq (M : RM) (b : Nat) : M.cells b = (M.heap b).bind (RB.cells M.lo) := by
  unfold RM.cells RB.cells
  cases M.heap b with
  | none => rfl
  | some x => cases x <;> rfl

def loadsL (l : Option (List AV)) (o k : Nat) : Option (List AV) :=
  match l with
  | some l => if o + k ≤ l.length then some ((l.drop o).take k) else none
  | none => none
@[go_sem] theorem loadsL_some (l : List AV) (o k : Nat) : loadsL (some l) o k = if o + k ≤ l.length then some ((l.drop o).take k) else none := rfl
theorem RM.loads_eq (M : RM) (b o k : Nat) : M.loads b o k = loadsL (M.cells b) o k := rfl

section
variable {M M' : RM}
@[go_sem] theorem RM.heap_push (x : RB) (c : Nat) : (M.push x).heap c = if c = M.next then some x else M.heap c := rfl
@[go_sem] theorem RM.heap_put (b : Nat) (x : RB) (c : Nat) : (M.put b x).heap c = if c = b then some x else M.heap c := rfl
@[go_sem] theorem RM.heap_del (b : Nat) (c : Nat) : (M.del b).heap c = if c = b then none else M.heap c := rfl
@[go_sem] theorem RM.push_base (x : RB) : (M.push x).base = M.base := rfl
@[go_sem] theorem RM.put_base (b : Nat) (x : RB) : (M.put b x).base = M.base := rfl
@[go_sem] theorem RM.del_base (b : Nat) : (M.del b).base = M.base := rfl
theorem RM.cells_push (x : RB) (c : Nat) : (M.push x).cells c = if c = M.next then x.cells M.lo else M.cells c := by
  simp only [RM.cells_eq, RM.heap_push]
  split <;> rfl
theorem RM.cells_put (b : Nat) (x : RB) (c : Nat) : (M.put b x).cells c = if c = b then x.cells M.lo else M.cells c := by
  simp only [RM.cells_eq, RM.heap_put]
  split <;> rfl
@[go_sem] theorem RM.cell_push (x : RB) (c o : Nat) : (M.push x).cell c o = if c = M.next then (x.cells M.lo).bind (·[o]?) else M.cell c o := by
  simp only [RM.cell, RM.cells_push]
  split <;> rfl
@[go_sem] theorem RM.cell_put (b : Nat) (x : RB) (c o : Nat) : (M.put b x).cell c o = if c = b then (x.cells M.lo).bind (·[o]?) else M.cell c o := by
  simp only [RM.cell, RM.cells_put]
  split <;> rfl
@[go_sem] theorem RM.loads_push (x : RB) (c o k : Nat) : (M.push x).loads c o k = if c = M.next then loadsL (x.cells M.lo) o k else M.loads c o k := by
  simp only [RM.loads_eq, RM.cells_push]
  split <;> rfl
@[go_sem] theorem RM.loads_put (b : Nat) (x : RB) (c o k : Nat) : (M.put b x).loads c o k = if c = b then loadsL (x.cells M.lo) o k else M.loads c o k := by
  simp only [RM.loads_eq, RM.cells_put]
  split <;> rfl

def storesL (l : List AV) (fz o : Nat) (vs : List AV) : Option (List AV) :=
  if o + vs.length ≤ l.length ∧ fz ≤ o ∧ vs.all oneCell = true then some (l.take o ++ vs ++ l.drop (o + vs.length)) else none
theorem storesL_some {l vs : List AV} {fz o : Nat} (h1 : o + vs.length ≤ l.length) (h2 : fz ≤ o) (h3 : vs.all oneCell = true) : storesL l fz o vs = some (l.take o ++ vs ++ l.drop (o + vs.length)) := if_pos ⟨h1, h2, h3⟩
@[go_sem] theorem storesL_whole {l vs : List AV} (h : vs.length = l.length) (h3 : vs.all oneCell = true) : storesL l 0 0 vs = some vs := by
  rw [storesL_some (by omega) (Nat.le_refl _) h3]
  simp [h]

theorem RM.stores_eq {b o : Nat} {vs l : List AV} {p : Bool} {e f : Nat} (h : M.heap b = some (.row l p e f)) : M.stores b o vs = (storesL l f o vs).map fun l' => M.put b (.row l' p e f) := by
  simp only [RM.stores, h, storesL]
  split <;> rfl
theorem RM.put_push {x y : RB} : (M.push x).put M.next y = M.push y := by
  simp only [RM.put, RM.push]
  congr 1
  funext c
  split <;> rfl
theorem RM.put_push_old {x y : RB} {b : Nat} (hb : b ≠ M.next) : (M.push x).put b y = (M.put b y).push x := by
  simp only [RM.put, RM.push]
  congr 1
  funext c
  by_cases h1 : c = b
  · subst h1; simp [hb]
  · simp [h1]
theorem RM.stores_push_new {l vs : List AV} {p : Bool} {e f o : Nat} : (M.push (.row l p e f)).stores M.next o vs = (storesL l f o vs).map fun l' => M.push (.row l' p e f) := by
  rw [RM.stores_eq (RM.push_new _)]
  congr 1
  funext l'
  exact RM.put_push
theorem RM.stores_put {M : RM} {b o : Nat} {vs : List AV} : M.stores b o vs = match M.heap b with
    | some (.row l p e f) => (storesL l f o vs).map fun l' => M.put b (.row l' p e f)
    | _ => none := by
  cases h : M.heap b with
  | none => simp [RM.stores, h]
  | some x =>
    cases x with
    | row l p e f => rw [RM.stores_eq h]
    | _ => simp [RM.stores, h]
@[go_sem] theorem RM.stores_push_old {x : RB} {vs : List AV} {c o : Nat} (hc : c ≠ M.next) : (M.push x).stores c o vs = (M.stores c o vs).map (·.push x) := by
  rw [RM.stores_put, RM.stores_put, RM.push_old hc]
  split
  · simp only [Option.map_map]
    congr 1
    funext l'
    exact RM.put_push_old hc
  · rfl
@[go_sem] theorem RM.stores_push {l vs : List AV} {p : Bool} {e f c o : Nat} : (M.push (.row l p e f)).stores c o vs =
    if c = M.next then (storesL l f o vs).map fun l' => M.push (.row l' p e f) else (M.stores c o vs).map (·.push (.row l p e f)) := by
  split
  · rename_i h; subst h; exact RM.stores_push_new
  · rename_i h; exact RM.stores_push_old h
@[go_sem] theorem RM.stores_put_same {b o : Nat} {l vs : List AV} {p : Bool} {e f : Nat} : (M.put b (.row l p e f)).stores b o vs = (storesL l f o vs).map fun l' => M.put b (.row l' p e f) := by
  rw [RM.stores_eq (RM.put_same _ _)]
  congr 1
  funext l'
  simp only [RM.put]
  congr 1
  funext c
  split <;> rfl
@[go_sem] theorem some_ex {α : Type} (a : α) (K : α → Prop) : (∃ x, some a = some x ∧ K x) = K a := by simp
@[go_sem] theorem optMap_some {α β : Type} (f : α → β) (x : α) : (some x).map f = some (f x) := rfl
theorem RM.put_next_eq (b : Nat) (x : RB) : (M.put b x).next = M.next := rfl

attribute [go_sem] Int.natCast_nonneg Int.toNat_natCast Nat.mul_one true_implies false_implies Bool.false_eq_true Bool.true_eq_false Bool.not_true Bool.not_false Bool.and_self Bool.and_true Bool.true_and Nat.le_refl List.append_nil List.nil_append if_true if_false Nat.lt_irrefl Nat.add_one_ne_zero true_and and_true Nat.zero_add Nat.add_zero List.drop_zero List.getElem?_cons_zero List.getElem?_cons_succ Option.bind_some List.take_succ_cons List.take_zero List.drop_succ_cons List.drop_nil List.take_nil
attribute [go_sem] boxW List.all_cons List.all_nil List.length_cons List.length_nil
@[go_sem] theorem cells_agg (cs : List AV) : (AV.agg cs).cells = cs := rfl
@[go_sem] theorem cells_sc (v : Value) : (AV.sc v).cells = [.sc v] := rfl
@[go_sem] theorem cells_ptr (b o : Nat) : (AV.ptr b o).cells = [.ptr b o] := rfl
@[go_sem] theorem cells_slc (b o n : Nat) (c : Cap) : (AV.slc b o n c).cells = [.slc b o n c] := rfl
@[go_sem] theorem cells_emp (b : Nat) : (AV.emp b).cells = [.emp b] := rfl
@[go_sem] theorem cells_map (b : Nat) : (AV.map b).cells = [.map b] := rfl
@[go_sem] theorem cells_fn (f : Fn) (xs ys : List AV) : (AV.fn f xs ys).cells = [.fn f xs ys] := rfl
@[go_sem] theorem one_sc (v : Value) : oneCell (.sc v) = true := rfl
@[go_sem] theorem one_ptr (b o : Nat) : oneCell (.ptr b o) = true := rfl
@[go_sem] theorem one_slc (b o n : Nat) (c : Cap) : oneCell (.slc b o n c) = true := rfl
@[go_sem] theorem one_emp (b : Nat) : oneCell (.emp b) = true := rfl
@[go_sem] theorem one_map (b : Nat) : oneCell (.map b) = true := rfl
@[go_sem] theorem one_fn (f : Fn) (xs ys : List AV) : oneCell (.fn f xs ys) = true := rfl

end
/-- What a block's row says, as rewriting rules. -/
theorem RM.loads_of {M : RM} {b : Nat} {l : List AV} {p : Bool} {e f : Nat} (h : M.heap b = some (.row l p e f)) (o k : Nat) : M.loads b o k = loadsL (some l) o k := by rw [RM.loads_eq, RM.cells_row h]
theorem RM.cell_of {M : RM} {b : Nat} {l : List AV} {p : Bool} {e f : Nat} (h : M.heap b = some (.row l p e f)) (o : Nat) : M.cell b o = l[o]? := RM.cell_row h
theorem RM.stores_of {M : RM} {b : Nat} {l : List AV} {p : Bool} {e f : Nat} (h : M.heap b = some (.row l p e f)) (o : Nat) (vs : List AV) : M.stores b o vs = (storesL l f o vs).map fun l' => M.put b (.row l' p e f) := RM.stores_eq h
theorem Keep.heap_of {bs : List Nat} {M M' : RM} (h : Keep bs M M') {b : Nat} {x : RB} (hh : M.heap b = some x) (hlt : b < M.next) (hb : b ∉ bs) : M'.heap b = some x := by rw [h.heap b hlt hb, hh]
end Go.Ab
