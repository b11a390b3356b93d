/- Memory as lists, for contracts over data that is not known: what it says of concrete memory. By an AI agent. -/
import Derived.Test.YtmilkhdicmkmbaaDoorAb18
set_option linter.unusedVariables false
set_option linter.unusedSimpArgs false
namespace Go.Ab
open Go Go.RowKit

/-- 'row': cells, all of them known in the list. 'ro': a row of the memory that was there before the call: it is only read. -/
inductive RB where
  | row (l : List AV) (opn : Bool) (elem : TypeId) (fz : Nat)
  | ro (c : Array Value)
  | map (es : List (AV × AV × Nat)) (clock : Nat)
  | iter (m : Option Nat) (since : Nat) (seen : List Nat) (stepped : Nat)
  | siter (s : List UInt8) (pos : Nat)

/-- 'lo': the blocks below are those of the elder memory; they bear their own numbers. -/
structure RM where
  next : Nat
  heap : Nat → Option RB
  base : Base

abbrev RM.lo (M : RM) : Nat := M.base.n

def RM.push (M : RM) (x : RB) : RM := { M with next := M.next + 1, heap := fun c => if c = M.next then some x else M.heap c }
def RM.put (M : RM) (b : Nat) (x : RB) : RM := { M with heap := fun c => if c = b then some x else M.heap c }
def RM.del (M : RM) (b : Nat) : RM := { M with heap := fun c => if c = b then none else M.heap c }

def absV (lo : Nat) : Value → AV
  | .pointer (some ⟨b, o, none⟩) => if b < lo then .ptr b o else .top
  | .slice (some _) 0 0 => .emp 0
  | .slice (some ⟨b, o, none⟩) len cap => if b < lo then .slc b o len (.ex cap) else .top
  | v => (ofCell v).getD .top

def RM.cells (M : RM) (b : Nat) : Option (List AV) :=
  match M.heap b with
  | some (.row l _ _ _) => some l
  | some (.ro c) => some (c.toList.map (absV M.lo))
  | _ => none

/-- 'k' cells from place 'o' of block 'b' on. -/
def RM.loads (M : RM) (b o k : Nat) : Option (List AV) :=
  match M.cells b with
  | some l => if o + k ≤ l.length then some ((l.drop o).take k) else none
  | none => none

/-- Cells are written. -/
def RM.stores (M : RM) (b o : Nat) (vs : List AV) : Option RM :=
  match M.heap b with
  | some (.row l opn elem fz) => if o + vs.length ≤ l.length ∧ fz ≤ o ∧ vs.all oneCell = true then some (M.put b (.row (l.take o ++ vs ++ l.drop (o + vs.length)) opn elem fz)) else none
  | _ => none

def RLe : RB → Blk → Prop
  | .row l opn elem fz, .row n tree zs opn' elem' fz' => l.length = n ∧ opn' = opn ∧ elem' = elem ∧ fz' = fz ∧ ∀ (k : Nat) (v : AV), l[k]? = some v → cellAt tree zs n k = some v
  | .map es c, .map es' c' => es' = es ∧ c' = c
  | .iter a b c d, .iter a' b' c' d' => a' = a ∧ b' = b ∧ c' = c ∧ d' = d
  | .siter s p, .siter s' p' => s' = ⟨⟨s⟩⟩ ∧ p' = p
  | _, _ => False

structure MRelA (P : Program) (ρ : Ren) (M : RM) (w : World) (A : AW) : Prop where
  next : A.next = M.next
  rel : WRel P M.base ρ A w
  size : M.lo ≤ w.heap.size
  blk : ∀ b x, M.heap b = some x → (∃ y, A.heap.get b = some y ∧ RLe x y) ∨ ∃ c, x = .ro c ∧ b < M.lo ∧ ∃ elem fr, w.heap[b]? = some (.cells c elem fr)
  old : ∀ c, c < M.lo → ρ c = some ⟨c, 0, 0, 0⟩

def MRel (P : Program) (ρ : Ren) (M : RM) (w : World) : Prop := ∃ A, MRelA P ρ M w A

structure After (P : Program) (M : RM) (ρ : Ren) (w : World) (M' : RM) (ρ' : Ren) (w' : World) : Prop where
  step : Step M.lo M.next ρ w ρ' w'
  rel : MRel P ρ' M' w'
  base : M'.base = M.base
  next : M.next ≤ M'.next

theorem After.lo {P : Program} {M M' : RM} {ρ ρ' : Ren} {w w' : World} (h : After P M ρ w M' ρ' w') : M'.lo = M.lo := congrArg Base.n h.base

theorem Step.of_base {M M0 : RM} {n : Nat} {ρ ρ' : Ren} {w w' : World} (h : M.base = M0.base) (s : Step M.lo n ρ w ρ' w') : Step M0.lo n ρ w ρ' w' := by
  unfold RM.lo at *; rw [← h]; exact s

section
variable {P : Program} {ρ ρ' : Ren} {M M' : RM} {w w' : World} {A A' : AW}

theorem After.refl (h : MRel P ρ M w) : After P M ρ w M ρ w := ⟨Step.refl _ _ _, h, rfl, Nat.le_refl _⟩
theorem After.trans {M1 M2 : RM} {ρ1 ρ2 : Ren} {w1 w2 : World} (h : After P M ρ w M1 ρ1 w1) (k : After P M1 ρ1 w1 M2 ρ2 w2) : After P M ρ w M2 ρ2 w2 :=
  ⟨h.step.trans (h.lo ▸ k.step) h.next, k.rel, k.base.trans h.base, Nat.le_trans h.next k.next⟩
theorem After.le (h : After P M ρ w M' ρ' w') (hr : MRel P ρ M w) : ρ.le ρ' := by
  obtain ⟨A, hA⟩ := hr
  have := h.step
  rw [← hA.next] at this
  exact this.le hA.rel

theorem MRel.fresh (h : MRel P ρ M w) {b : Nat} (hb : M.next ≤ b) : ρ b = none := by
  obtain ⟨A, hA⟩ := h
  exact hA.rel.fresh (by rw [hA.next]; exact hb)
theorem MRel.lt (h : MRel P ρ M w) {b : Nat} {i : Info} (hb : ρ b = some i) : b < M.next ∧ i.cb < w.heap.size := by
  obtain ⟨A, hA⟩ := h
  have := hA.rel.dom b i hb
  rw [hA.next] at this; exact this
theorem MRel.lo_le (h : MRel P ρ M w) : M.lo ≤ M.next := by
  rcases Nat.eq_zero_or_pos M.lo with e | e
  · omega
  · obtain ⟨A, hA⟩ := h
    have := hA.rel.dom (M.lo - 1) _ (hA.old _ (by omega))
    rw [hA.next] at this; omega
theorem MRel.drew (h : MRel P ρ M w) : MRel P ρ M w.drew := by
  obtain ⟨A, hA⟩ := h
  exact ⟨A, hA.next, hA.rel.drew, hA.size, hA.blk, hA.old⟩

/-- From a step of the elder memory. -/
theorem after_of (h : MRelA P ρ M w A) (hst : Step M.lo A.next ρ w ρ' w') (hw : WRel P M.base ρ' A' w') (hbase : M'.base = M.base) (hn : A'.next = M'.next) (hle : A.next ≤ A'.next)
    (hb : ∀ b x, M'.heap b = some x → (∃ y, A'.heap.get b = some y ∧ RLe x y) ∨ ∃ c, x = .ro c ∧ M.heap b = some x) : After P M ρ w M' ρ' w' := by
  have hlo : M'.lo = M.lo := congrArg Base.n hbase
  refine ⟨h.next ▸ hst, ⟨A', hn, hbase ▸ hw, by rw [hlo]; exact Nat.le_trans h.size hst.size, fun b x hx => ?_, fun c hc => ?_⟩, hbase, by rw [← h.next, ← hn]; exact hle⟩
  · rcases hb b x hx with h1 | ⟨c, rfl, h1⟩
    · exact .inl h1
    · rcases h.blk b _ h1 with ⟨y, _, hy⟩ | ⟨c', e, hlt, elem, fr, hh⟩
      · cases y <;> exact hy.elim
      · cases e
        exact .inr ⟨c, rfl, by rw [hlo]; exact hlt, elem, fr, by rw [hst.low b hlt]; exact hh⟩
  · rw [hlo] at hc
    have := h.old c hc
    rw [hst.ext c (h.rel.dom c _ this).1]; exact this

theorem absV_rel {lo : Nat} (h : ∀ c, c < lo → ρ c = some ⟨c, 0, 0, 0⟩) (v : Value) : VRel ρ (absV lo v) v := by
  unfold absV
  split
  · split
    · rename_i b o hb
      have := VRel.ptr (ρ := ρ) b o ⟨b, 0, 0, 0⟩ (h b hb)
      simpa using this
    · exact .top _
  · exact .emp _ _ _
  · split
    · rename_i b o len cap _ hb
      have := VRel.slcS (ρ := ρ) b o len cap ⟨b, 0, 0, 0⟩ (h b hb)
      simpa using this
    · exact .top _
  · cases hv : ofCell v with
    | none => exact .top _
    | some u => exact ofCell_rel ρ hv

theorem cells_of {tree : Tree AV} {zs : List AV} {n : Nat} {l : List AV} (h : ∀ (k : Nat) (v : AV), l[k]? = some v → cellAt tree zs n k = some v) : ∀ (k o : Nat), o + k ≤ l.length → cells tree zs n o k = some ((l.drop o).take k)
  | 0, o, _ => by simp [cells]
  | k + 1, o, hk => by
    have ho : o < l.length := by omega
    simp only [cells]
    rw [h o l[o] (by simp [ho]), cells_of h k (o + 1) (by omega)]
    simp only
    congr 1
    rw [List.drop_eq_getElem_cons ho, List.take_succ_cons]

theorem RM.loads_rel (hw : MRel P ρ M w) {b o k : Nat} {i : Info} {xs : List AV} (hb : ρ b = some i) (h : M.loads b o k = some xs) :
    ∃ vs, LRel ρ xs vs ∧ vs.length = k ∧ ∀ j v, vs[j]? = some v → w.cell? ((⟨i.cb, i.sh + o, none⟩ : Addr).add j) = some v := by
  obtain ⟨A, hA⟩ := hw
  unfold RM.loads RM.cells at h
  split at h <;> first | (cases h; done) | skip
  rename_i l hl
  split at h <;> first | (cases h; done) | skip
  rename_i hok
  cases h
  split at hl <;> first | (cases hl; done) | skip
  · rename_i l0 opn elem fz hh
    cases hl
    rcases hA.blk b _ hh with ⟨y, hy, hle⟩ | ⟨c, e, _⟩
    · cases y <;> first | exact hle.elim | skip
      obtain ⟨h1, rfl, rfl, rfl, h5⟩ := hle
      refine Go.Ab.loads_rel hA.rel hb ?_
      unfold AW.loads
      rw [hy]
      exact cells_of h5 k o (by omega)
    · cases e
  · rename_i c hh
    cases hl
    rcases hA.blk b _ hh with ⟨y, hy, hle⟩ | ⟨c, e, hlt, elem, fr, hc⟩
    · cases y <;> exact hle.elim
    · cases e
      rw [hA.old b hlt] at hb
      cases hb
      simp only [List.length_map, Array.length_toList] at hok
      refine ⟨(c.toList.drop o).take k, ?_, by simp; omega, fun j v hj => ?_⟩
      · rw [← List.map_drop, ← List.map_take]
        generalize (c.toList.drop o).take k = vs
        induction vs with
        | nil => exact .nil
        | cons v vs ih => exact .cons _ _ _ _ (absV_rel hA.old v) ih
      · rw [add_off, World.cell?, hc]
        rw [List.getElem?_take] at hj
        split at hj
        · rw [List.getElem?_drop] at hj
          simp only [Nat.zero_add]
          simpa using hj
        · cases hj

theorem RM.run_loads (hw : MRel P ρ M w) {b o k : Nat} {i : Info} {xs : List AV} (hb : ρ b = some i) (h : M.loads b o k = some xs) :
    ∃ vs, LRel ρ xs vs ∧ vs.length = k ∧ (∀ j v, vs[j]? = some v → w.cell? ((⟨i.cb, i.sh + o, none⟩ : Addr).add j) = some v) ∧ (loadCells ⟨i.cb, i.sh + o, none⟩ k).run P w = .ok ⟨vs⟩ w := by
  obtain ⟨vs, h1, h2, h3⟩ := RM.loads_rel hw hb h
  exact ⟨vs, h1, h2, h3, by have := run_loadCells_list (P := P) w ⟨i.cb, i.sh + o, none⟩ vs h3; rw [h2] at this; exact this⟩

theorem putAll_all : ∀ (vs : List AV) (t : Tree AV) (o : Nat), vs.all oneCell = true → ∃ t', putAll t o vs = some t'
  | [], t, o, _ => ⟨t, rfl⟩
  | v :: vs, t, o, h => by
    simp only [List.all_cons, Bool.and_eq_true] at h
    obtain ⟨t', ht⟩ := putAll_all vs (t.set o v) (o + 1) h.2
    exact ⟨t', by simp only [putAll, h.1]; exact ht⟩

/-- Writing, at both levels. -/
theorem RM.stores_A (h : MRelA P ρ M w A) {b o : Nat} {vs : List AV} (hs : M.stores b o vs = some M') :
    ∃ A', A.stores b o vs = some A' ∧ M'.base = M.base ∧ A'.next = M'.next ∧ M'.next = M.next ∧
      ∀ c x, M'.heap c = some x → (∃ y, A'.heap.get c = some y ∧ RLe x y) ∨ ∃ d, x = .ro d ∧ M.heap c = some x := by
  unfold RM.stores at hs
  split at hs <;> first | (cases hs; done) | skip
  rename_i l opn elem fz hh
  split at hs <;> first | (cases hs; done) | skip
  rename_i hc
  obtain ⟨c1, c2, c3⟩ := hc
  cases hs
  rcases h.blk b _ hh with ⟨y, hy, hle⟩ | ⟨c, e, _⟩
  · cases y <;> first | exact hle.elim | skip
    rename_i n tree zs opn' elem' fz'
    obtain ⟨h1, rfl, rfl, rfl, h5⟩ := hle
    obtain ⟨t', ht⟩ := putAll_all vs tree o c3
    obtain ⟨_, hget⟩ := putAll_get _ _ _ ht
    refine ⟨{ A with heap := A.heap.set b (.row n t' zs opn' elem' fz') }, ?_, rfl, h.next, rfl, fun c x hx => ?_⟩
    · unfold AW.stores
      rw [hy]
      simp only
      rw [ble_iff.2 (by omega), ble_iff.2 c2, ht]
    · simp only [RM.put] at hx
      simp only [Tree.get_set]
      by_cases e : c = b
      · subst e
        rw [if_pos rfl] at hx ⊢
        cases hx
        refine .inl ⟨_, rfl, ?_, rfl, rfl, rfl, fun k v hk => ?_⟩
        · simp; omega
        · rw [cellAt_put hget]
          by_cases hin : o ≤ k ∧ k < o + vs.length
          · rw [if_pos hin, if_pos (by omega)]
            rw [List.append_assoc, List.getElem?_append_right (by simp; omega), List.getElem?_append_left (by simp; omega)] at hk
            rw [← hk]; congr 1; simp; omega
          · rw [if_neg hin]
            refine h5 k v ?_
            rw [← hk]
            by_cases hlt : k < o
            · rw [List.append_assoc, List.getElem?_append_left (by simp; omega), List.getElem?_take, if_pos hlt]
            · rw [List.getElem?_append_right (by simp; omega), List.getElem?_drop]
              congr 1; simp; omega
      · rw [if_neg e] at hx ⊢
        rcases h.blk c x hx with ⟨y, a, b⟩ | ⟨d, e', _⟩
        · exact .inl ⟨y, a, b⟩
        · exact .inr ⟨d, e', hx⟩
  · cases e

/-- A new block, at both levels. -/
theorem RM.push_A (h : MRelA P ρ M w A) {x : RB} {y : Blk} (hx : RLe x y) :
    (M.push x).base = M.base ∧ (A.push y).next = (M.push x).next ∧
      ∀ c z, (M.push x).heap c = some z → (∃ u, (A.push y).heap.get c = some u ∧ RLe z u) ∨ ∃ d, z = .ro d ∧ M.heap c = some z := by
  refine ⟨rfl, by simp [AW.push, RM.push, h.next], fun c z hz => ?_⟩
  simp only [RM.push] at hz
  simp only [AW.push, Tree.get_set, h.next]
  by_cases e : c = M.next
  · subst e
    rw [if_pos rfl] at hz ⊢
    cases hz
    exact .inl ⟨y, rfl, hx⟩
  · rw [if_neg e] at hz ⊢
    rcases h.blk c z hz with ⟨u, a, b⟩ | ⟨d, e', _⟩
    · exact .inl ⟨u, a, b⟩
    · exact .inr ⟨d, e', hz⟩

theorem MRel.phantom (h : MRel P ρ M w) (x : RB) (y : Blk) (hx : RLe x y) : MRel P ρ (M.push x) w := by
  obtain ⟨A, hA⟩ := h
  obtain ⟨h1, h2, h3⟩ := RM.push_A hA hx
  refine ⟨A.push y, h2, phantom_rel hA.rel y, hA.size, fun b z hz => ?_, hA.old⟩
  rcases h3 b z hz with k | ⟨d, rfl, k⟩
  · exact .inl k
  · rcases hA.blk b _ k with ⟨u, _, hu⟩ | k2
    · cases u <;> exact hu.elim
    · exact .inr k2

end
end Go.Ab
