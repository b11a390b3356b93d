/- Part 3 of the ground of the proofs of this seat (texts R4 to R9). By an AI agent. -/
import Derived.Test.YtkmkfgepdlkdkaaK2
import Derived.Lib.UnsafeStr
import Derived.Scope
/- New blocks, over data that is not known. By an AI agent. -/
set_option linter.unusedVariables false
set_option linter.unusedSimpArgs false
namespace Go.Ab
open Go Go.RowKit

def repL (zs : List AV) : Nat → List AV
  | 0 => []
  | n + 1 => zs ++ repL zs n

theorem repL_length (zs : List AV) : ∀ n, (repL zs n).length = n * zs.length
  | 0 => by simp [repL]
  | n + 1 => by simp [repL, repL_length zs n, Nat.add_mul, Nat.add_comm]
theorem repL_get (zs : List AV) (h : 0 < zs.length) : ∀ (n k : Nat), k < n * zs.length → (repL zs n)[k]? = zs[k % zs.length]?
  | 0, k, hk => by simp at hk
  | n + 1, k, hk => by
    simp only [repL]
    by_cases h1 : k < zs.length
    · rw [List.getElem?_append_left h1, Nat.mod_eq_of_lt h1]
    · rw [List.getElem?_append_right (by omega), repL_get zs h n _ (by rw [Nat.add_mul] at hk; omega)]
      congr 1
      have : k = (k - zs.length) + zs.length := by omega
      rw [this, Nat.add_mod_right]; simp
theorem repL_rep (zs : List AV) : ∀ n, newCells.rep zs n = repL zs n
  | 0 => rfl
  | n + 1 => by simp only [newCells.rep, repL, repL_rep zs n]

def fillO : List AV → List (Nat × Nat × AV) → Option (List AV)
  | cs, [] => some cs
  | cs, (off, size, v) :: rest => if v.cells.all oneCell = true ∧ v.cells.length = size ∧ off + size ≤ cs.length then fillO (cs.take off ++ v.cells ++ cs.drop (off + size)) rest else none

def boxW (t : TypeId) (x : AV) (K : RB → (Nat → AV) → Prop) : Prop := x.cells.all oneCell = true ∧ 1 ≤ x.cells.length ∧ K (.row x.cells false t 0) (fun b => .ptr b 0)
def rowsW (elem len : Nat) (zs : List AV) (parts : List (Nat × Nat × AV)) (K : RB → (Nat → AV) → Prop) : Prop :=
  ∃ l, fillO (repL zs len) parts = some l ∧ K (.row l false elem 0) (fun b => .slc b 0 len (.ex len))
def makeW (elem bytes : Nat) (zs : List AV) (x y : AV) (K : RB → (Nat → AV) → Prop) : Prop :=
  ∃ kl kc l c, x = N kl l ∧ y = N kc c ∧ 0 ≤ l ∧ l ≤ c ∧ c.toNat * bytes ≤ 140737488355328 ∧ c.toNat ≤ 140737488355328 ∧ K (.row (repL zs c.toNat) false elem 0) (fun b => .slc b 0 l.toNat (.ex c.toNat))
def bytesW (el : Nat) (x : AV) (K : RB → (Nat → AV) → Prop) : Prop :=
  ∃ s, x = St s ∧ K (.row (s.map fun b => N .u8 b.toNat) true el 0) (fun b => .slc b 0 s.length (.op 1))
def siterW (x : AV) (K : RB → (Nat → AV) → Prop) : Prop := ∃ s, x = St s ∧ K (.siter s 0) (fun b => .ptr b 0)

/-- What operations that make a block make. -/
def niceN (P : Program) (o : Oper) (e : Operand → AV) (K : RB → (Nat → AV) → Prop) : Prop :=
  match o.op with
  | .alloc t => match zerosOf P t with
    | some zs => match Nat.ble 1 zs.length with
      | true => K (.row zs false t 0) (fun b => .ptr b 0)
      | false => False
    | none => False
  | .box t x => boxW t (e x) K
  | .buildSlice t len parts => match P.underlying t with
    | some (.slice elem) => match sizeT P elem, zerosOf P elem with
      | some size, some zs => match Nat.ble 1 size, Nat.beq zs.length size, Nat.ble (len * size) 10000 with
        | true, true, true => rowsW elem len zs (parts.toList.map fun p => (p.1 * size, size, e p.2)) K
        | _, _, _ => False
      | _, _ => False
    | _ => False
  | .makeSlice t l c => match P.underlying t with
    | some (.slice elem) => match sizeT P elem, bytesT P elem, zerosOf P elem with
      | some size, some bytes, some zs => match Nat.ble 1 size, Nat.beq zs.length size with
        | true, true => makeW elem bytes zs (e l) (e c) K
        | _, _ => False
      | _, _, _ => False
    | _ => False
  | .makeMap t r => match r with
    | none => K (.map [] 0) (fun b => .map b)
    | some _ => False
  | .convert src dst x => match P.underlying src, P.underlying dst with
    | some .string, some (.slice el) => match P.underlying el, sizeT P el with
      | some (.int .u8), some 1 => bytesW el (e x) K
      | _, _ => False
    | _, _ => False
  | .range t x => match P.underlying t with
    | some .string => siterW (e x) K
    | _ => False
  | _ => False

section
variable {P : Program} {ρ : Ren} {o : Oper} {e : Operand → AV} {M : RM} {w : World}

/-- The operation makes a block like 'x'. -/
def MakesR (P : Program) (o : Oper) (e : Operand → AV) (x : RB) (mk : Nat → AV) : Prop := ∃ y, allocOp P o e = some (y, mk) ∧ RLe x y

theorem cellAt_tree {tree : Tree AV} {zs : List AV} {n k : Nat} {v : AV} (hk : k < n) (h : tree.get k = some v) : cellAt tree zs n k = some v := by
  unfold cellAt
  rw [ble_iff.2 (by omega), h]

theorem cellAt_zeros {tree : Tree AV} {zs : List AV} {n k : Nat} {v : AV} (hk : k < n) (h : tree.get k = none) (hz : zs[k % zs.length]? = some v) : cellAt tree zs n k = some v := by
  unfold cellAt
  rw [ble_iff.2 (by omega), h]
  simp only
  split
  · simp at hz
  · rename_i z
    simp [Nat.mod_one] at hz
    rw [hz]
  · rw [nth_getElem]; exact hz

theorem fillO_T {size n : Nat} {zs : List AV} : ∀ (parts : List (Nat × AV)) (t : Tree AV) (l : List AV) {l' : List AV}, l.length = n → (∀ (k : Nat) (v : AV), l[k]? = some v → cellAt t zs n k = some v) →
    fillO l (parts.map fun p => (p.1 * size, size, p.2)) = some l' → ∃ t', fillT size n t parts = some t' ∧ l'.length = n ∧ ∀ (k : Nat) (v : AV), l'[k]? = some v → cellAt t' zs n k = some v
  | [], t, l, l', hl, h, hf => by
    simp only [List.map_nil, fillO] at hf
    cases hf
    exact ⟨t, rfl, hl, h⟩
  | (i, v) :: parts, t, l, l', hl, h, hf => by
    simp only [List.map_cons, fillO] at hf
    split at hf <;> first | (cases hf; done) | skip
    rename_i hc
    obtain ⟨c1, c2, c3⟩ := hc
    obtain ⟨t1, ht1⟩ := putAll_all v.cells t (i * size) c1
    obtain ⟨_, hget⟩ := putAll_get _ _ _ ht1
    obtain ⟨t', k1, k2, k3⟩ := fillO_T (zs := zs) parts t1 _ (n := n) (by simp; omega) (fun k u hk => by
      rw [cellAt_put hget]
      by_cases hin : i * size ≤ k ∧ k < i * size + v.cells.length
      · rw [if_pos hin, if_pos (by omega)]
        rw [List.append_assoc, List.getElem?_append_right (by simp; omega), List.getElem?_append_left (by simp; omega)] at hk
        rw [← hk]; congr 1; simp; omega
      · rw [if_neg hin]
        refine h k u ?_
        rw [← hk]
        by_cases hlt : k < i * size
        · rw [List.append_assoc, List.getElem?_append_left (by simp; omega), List.getElem?_take, if_pos hlt]
        · rw [List.getElem?_append_right (by simp; omega), List.getElem?_drop]
          congr 1; simp; omega) hf
    refine ⟨t', ?_, k2, k3⟩
    simp only [fillT, beq_tt c2, ble_iff.2 (show i * size + size ≤ n by omega), ht1]
    exact k1

theorem mkN {K : RB → (Nat → AV) → Prop} {x : RB} {mk : Nat → AV} {y : Blk} (hk : K x mk) (ha : allocOp P o e = some (y, mk)) (hl : RLe x y) : ∃ x mk, MakesR P o e x mk ∧ K x mk := ⟨x, mk, ⟨y, ha, hl⟩, hk⟩

theorem niceN_sound {K : RB → (Nat → AV) → Prop} (h : niceN P o e K) : ∃ x mk, MakesR P o e x mk ∧ K x mk := by
  cases hop : o.op
  case alloc t =>
    simp only [niceN, hop] at h
    split at h <;> first | (cases h; done) | skip
    rename_i zs hz
    split at h <;> first | (cases h; done) | skip
    rename_i hb
    refine mkN h (y := .row zs.length .leaf zs false t 0) (by simp only [allocOp, hop, hz, hb]) ⟨rfl, rfl, rfl, rfl, fun k v hk => ?_⟩
    have hlt := (List.getElem?_eq_some_iff.1 hk).1
    exact cellAt_zeros hlt (by simp [Tree.get]) (by rw [Nat.mod_eq_of_lt hlt]; exact hk)
  case box t x =>
    simp only [niceN, hop] at h
    obtain ⟨h1, h2, hk⟩ := h
    obtain ⟨t', ht⟩ := putAll_all (e x).cells .leaf 0 h1
    obtain ⟨_, hget⟩ := putAll_get _ _ _ ht
    refine mkN hk (y := .row (e x).cells.length t' [] false t 0) (by simp only [allocOp, hop, ht, ble_iff.2 h2]) ⟨rfl, rfl, rfl, rfl, fun k v hk => ?_⟩
    have hlt := (List.getElem?_eq_some_iff.1 hk).1
    exact cellAt_tree hlt (by rw [hget, if_pos (by omega)]; simpa using hk)
  case buildSlice t len parts =>
    simp only [niceN, hop] at h
    split at h <;> first | (cases h; done) | skip
    rename_i elem hu
    split at h <;> first | (cases h; done) | skip
    rename_i size zs hs hz
    split at h <;> first | (cases h; done) | skip
    rename_i h1 h2 h3
    obtain ⟨l, hf, hk⟩ := h
    have h2' := beq_t h2
    have h1' := ble_t h1
    have e0 : (parts.toList.map fun p => (p.1 * size, size, e p.2)) = (parts.toList.map fun p => (p.1, e p.2)).map fun p => (p.1 * size, size, p.2) := by simp
    rw [e0] at hf
    obtain ⟨t', k1, k2, k3⟩ := fillO_T (zs := zs) (n := len * size) _ .leaf _ (by rw [repL_length, h2']) (fun k v hk => by
      have hlt := (List.getElem?_eq_some_iff.1 hk).1
      rw [repL_length] at hlt
      rw [repL_get zs (by omega) len k hlt] at hk
      exact cellAt_zeros (by rw [← h2']; exact hlt) (by simp [Tree.get]) hk) hf
    exact mkN hk (y := .row (len * size) t' zs false elem 0) (by simp only [allocOp, hop, hu, hs, hz, h1, h2, h3, k1]) ⟨k2, rfl, rfl, rfl, k3⟩
  case makeSlice t l c =>
    simp only [niceN, hop] at h
    split at h <;> first | (cases h; done) | skip
    rename_i elem hu
    split at h <;> first | (cases h; done) | skip
    rename_i size bytes zs hs hb hz
    split at h <;> first | (cases h; done) | skip
    rename_i h1 h2
    obtain ⟨kl, kc, nl, nc, hl, hc, h3, h4, h5, h6, hk⟩ := h
    have h2' := beq_t h2
    have h1' := ble_t h1
    refine mkN hk (y := .row (nc.toNat * size) .leaf zs false elem 0) ?_ ⟨by rw [repL_length, h2'], rfl, rfl, rfl, fun k v hk => ?_⟩
    · simp only [allocOp, hop, hu, hl, hc, natOf_N h3, natOf_N (show 0 ≤ nc by omega), hs, hb, hz, h1, h2, ble_iff.2 (show nl.toNat ≤ nc.toNat by omega), ble_iff.2 h5, ble_iff.2 h6]
    · have hlt := (List.getElem?_eq_some_iff.1 hk).1
      rw [repL_length] at hlt
      rw [repL_get zs (by omega) _ k hlt] at hk
      exact cellAt_zeros (by rw [← h2']; exact hlt) (by simp [Tree.get]) hk
  case makeMap t r =>
    simp only [niceN, hop] at h
    split at h <;> first | (cases h; done) | skip
    exact mkN h (y := .map [] 0) (by simp only [allocOp, hop]) ⟨rfl, rfl⟩
  case convert src dst x =>
    simp only [niceN, hop] at h
    split at h <;> first | (cases h; done) | skip
    rename_i el hs hd
    split at h <;> first | (cases h; done) | skip
    rename_i h1 h2
    obtain ⟨s, hx, hk⟩ := h
    refine mkN hk (y := .row s.length (Tree.ofList (s.map fun b => N .u8 b.toNat) 0 .leaf) [] true el 0) (by simp only [allocOp, hop, hs, hd, hx, h1, h2]) ⟨by simp, rfl, rfl, rfl, fun k v hk => ?_⟩
    have hlt := (List.getElem?_eq_some_iff.1 hk).1
    exact cellAt_tree (by simpa using hlt) (by rw [Tree.get_ofList, if_pos (by omega)]; simpa using hk)
  case range t x =>
    simp only [niceN, hop] at h
    split at h <;> first | (cases h; done) | skip
    rename_i hu
    obtain ⟨s, hx, hk⟩ := h
    exact mkN hk (y := .siter ⟨⟨s⟩⟩ 0) (by simp only [allocOp, hop, hu, hx]) ⟨rfl, rfl⟩
  all_goals (simp only [niceN, hop] at h)

theorem makes_after {c : Operand → Value} {x : RB} {mk : Nat → AV} (hw : MRel P ρ M w) (he : ∀ x ∈ o.op.operands, VRel ρ (e x) (c x)) (h : MakesR P o e x mk) :
    ∃ ρ' w' u, (execOp c o).run P w = .ok (.value u) w' ∧ After P M ρ w (M.push x) ρ' w' ∧ VRel ρ' (mk M.next) u := by
  obtain ⟨A, hA⟩ := hw
  obtain ⟨y, ha, hle⟩ := h
  obtain ⟨ρ', w', u, h1, h2, h3, h4⟩ := makes_rel hA.rel hA.size (allocOp_sound he ha w)
  obtain ⟨k1, k2, k3⟩ := RM.push_A hA hle
  exact ⟨ρ', w', u, h1, after_of hA h3 h2 k1 k2 (by simp [AW.push]) k3, by rw [← hA.next]; exact h4⟩
end
end Go.Ab
/- Effects and calls, over data that is not known. By an AI agent. -/
set_option linter.unusedVariables false
set_option linter.unusedSimpArgs false
namespace Go.Ab
open Go Go.RowKit

abbrev PostV := AV → RM → Prop

def HasBody (P : Program) (f : FuncId) : Prop := ∃ fn c, P.funcs[f]? = some fn ∧ fn.body = some c

/-- What a call does: called with such arguments, in memory like M, it returns, and so it is then. -/
def CallsR (P : Program) (f : FuncId) (args : List AV) (M : RM) (Q : PostV) : Prop :=
  HasBody P f ∧ ∀ (ρ : Ren) (w : World) (us : List Value), LRel ρ args us → MRel P ρ M w →
    Calls P f ⟨us⟩ w fun e w' => ∃ v' v M' ρ', e = .returned v' ∧ After P M ρ w M' ρ' w' ∧ VRel ρ' v v' ∧ Q v M'

theorem CallsR.mono {P : Program} {f : FuncId} {args : List AV} {M : RM} {Q Q' : PostV} (h : CallsR P f args M Q) (hq : ∀ v M', Q v M' → Q' v M') : CallsR P f args M Q' :=
  ⟨h.1, fun ρ w us a b => (h.2 ρ w us a b).mono fun e w' ⟨v', v, M', ρ', c, d, f, g⟩ => ⟨v', v, M', ρ', c, d, f, hq _ _ g⟩⟩

/-- What one operation does. -/
def DoesR (P : Program) (o : Oper) (e : Operand → AV) (M : RM) (K : PostV) : Prop :=
  ∀ (ρ : Ren) (w : World) (c : Operand → Value), MRel P ρ M w → (∀ x ∈ o.op.operands, VRel ρ (e x) (c x)) → ∃ M' ρ' w', After P M ρ w M' ρ' w' ∧
    ((∃ v' v, (execOp c o).run P w = .ok (.value v') w' ∧ VRel ρ' v v' ∧ K v M') ∨ ((execOp c o).run P w = .ok .skip w' ∧ K .undef M') ∨
      ∃ f args us, (execOp c o).run P w = .ok (.enter f ⟨us⟩) w' ∧ LRel ρ' args us ∧ CallsR P f args M' K)

/-! ### the effects -/
def storeW (M : RM) (a x : AV) (n : Nat) (K : RM → Prop) : Prop := ∃ b p M', a = .ptr b p ∧ x.cells.length = n ∧ M.stores b p x.cells = some M' ∧ K M'

def newL (M : RM) (size : Nat) (zs : List AV) (zeros : Bool) (x : AV) : Option (Nat × List AV) :=
  match zeros with
  | true => match x with
    | .sc (.int _ n) => if 0 ≤ n then some (n.toNat, repL zs n.toNat) else none
    | _ => none
  | false => match x with
    | .slc b o len _ => match M.loads b o (len * size) with
      | some vs => some (len, vs)
      | none => none
    | .emp _ => some (0, [])
    | .sc (.slice none 0 0) => some (0, [])
    | .sc (.string s) => if size = 1 then some (s.data.toList.length, s.data.toList.map fun b => N .u8 b.toNat) else none
    | _ => none

def appM (elem size bytes n : Nat) (new : List AV) (s : AV) (M : RM) : Option (AV × RM) :=
  match s with
  | .sc (.slice none 0 0) => if n = 0 then some (s, M) else if new.all oneCell = true then some (.slc M.next 0 n (.op size), M.push (.row new true elem 0)) else none
  | .emp _ => if n = 0 then some (s, M) else none
  | .slc b o len (.ex c) => if n = 0 then (if len ≤ c then some (s, M) else none) else if len + n ≤ c then (match M.stores b (o + len * size) new with
      | some M' => some (.slc b o (len + n) (.ex c), M')
      | none => none)
    else match M.loads b o (len * size) with
      | some old => if (len + n) * bytes ≤ 140737488355328 ∧ len + n ≤ 140737488355328 ∧ (old ++ new).all oneCell = true then some (.slc M.next 0 (len + n) (.op size), M.push (.row (old ++ new) true elem 0)) else none
      | none => none
  | .slc b o len (.op esz) => if n = 0 then some (s, M) else match M.heap b with
    | some (.row l opn el fz) => if opn = true ∧ esz = size then
        (if o + (len + n) * size ≤ l.length then (match M.stores b (o + len * size) new with
          | some M' => some (.slc b o (len + n) (.op esz), M')
          | none => none)
        else if el = elem ∧ (len + n) * bytes ≤ 140737488355328 ∧ len + n ≤ 140737488355328 ∧ o = 0 ∧ l.length = len * size ∧ fz ≤ len * size ∧ new.all oneCell = true then
          some (.slc M.next 0 (len + n) (.op size), (M.del b).push (.row (l ++ new) true elem fz)) else none) else none
    | _ => none
  | _ => none

def appW (elem size bytes : Nat) (zs : List AV) (zeros : Bool) (s x : AV) (M : RM) (K : PostV) : Prop :=
  ∃ n new, newL M size zs zeros x = some (n, new) ∧ n * bytes ≤ 140737488355328 ∧ n ≤ 140737488355328 ∧ ∃ v M', appM elem size bytes n new s M = some (v, M') ∧ K v M'

def firstM (M : RM) (size k : Nat) : AV → Option (List AV)
  | .slc b o _ _ => M.loads b o (k * size)
  | .sc (.string s) => if size = 1 then some ((s.data.toList.take k).map fun b => N .u8 b.toNat) else none
  | _ => none

def copyM (size : Nat) (d x : AV) (M : RM) : Option (AV × RM) :=
  match d with
  | .slc b o dn _ => match lenA x with
    | some sn => if Nat.min sn dn = 0 then some (N .i64 0, M) else match firstM M size (Nat.min sn dn) x with
      | some vs => match M.stores b o vs with
        | some M' => some (N .i64 (Nat.min sn dn : Nat), M')
        | none => none
      | none => none
    | none => none
  | .emp _ | .sc (.slice none 0 0) => match lenA x with
    | some _ => some (N .i64 0, M)
    | none => none
  | _ => none

def copyW (size : Nat) (d x : AV) (M : RM) (K : PostV) : Prop := ∃ v M', copyM size d x M = some (v, M') ∧ K v M'
def clearW (zs : List AV) (x : AV) (M : RM) (K : PostV) : Prop :=
  (∃ b p n cap M', x = .slc b p n cap ∧ M.stores b p (repL zs n) = some M' ∧ K .undef M') ∨ (∃ b, x = .emp b ∧ K .undef M) ∨ (x = .sc (.slice none 0 0) ∧ K .undef M)

def callV (C : FuncId → List AV → RM → PostV → Prop) (f : AV) (args : List AV) (M : RM) (K : PostV) : Prop := ∃ g first cap, f = .fn (.func g) first cap ∧ C g (first ++ args ++ cap) M K
/-- A function without a text that leaves memory as it is. -/
def nativeR (P : Program) (g : FuncId) (args : List AV) (M : RM) (v : AV) : Prop :=
  ∀ (ρ : Ren) (w : World) (us : List Value), LRel ρ args us → MRel P ρ M w → ∃ u, (callFunc g ⟨us⟩).run P w = .ok (.value u) w ∧ VRel ρ v u
/-- Functions without a text: those that reckon; slices.overlaps of two rows that are not one; abi.NoEscape. -/
def extnW (P : Program) (g : FuncId) (args : List AV) (M : RM) (K : PostV) : Prop :=
  (∃ v, enterA P g args = some (.value v) ∧ K v M) ∨
  ((∃ fn t elem size tr, P.funcs[g]? = some fn ∧ fn.body = none ∧ Extern.findNext fn = none ∧ Extern.find fn = some (Extern.SlicesOverlaps.overlaps #[t, t] #[tr]) ∧ P.underlying t = some (.slice elem) ∧ sizeT P elem = some size) ∧
    (∃ ba oa na ca bb ob nb cb la ea fa lb opb eb fb, args = [.slc ba oa na ca, .slc bb ob nb cb] ∧ ba ≠ bb ∧ M.heap ba = some (.row la false ea fa) ∧ M.heap bb = some (.row lb opb eb fb) ∧ fa = 0 ∧ oa + 1 ≤ la.length ∧ 1 ≤ lb.length) ∧ K (Bo false) M) ∨
  ((∃ fn, P.funcs[g]? = some fn ∧ fn.body = none ∧ Extern.findNext fn = none ∧ Extern.find fn = some Extern.AbiNoEscape.same) ∧ ∃ v, args = [v] ∧ K v M) ∨
  ∃ v, nativeR P g args M v ∧ K v M

def snextW (x : AV) (M : RM) (K : PostV) : Prop := ∃ b s pos, x = .ptr b 0 ∧ M.heap b = some (.siter s pos) ∧
  if pos < s.length then K (.tup [Bo true, N .i64 pos, N .i32 (Utf8.decode ⟨⟨s⟩⟩ pos).1]) (M.put b (.siter s (pos + (Utf8.decode ⟨⟨s⟩⟩ pos).2))) else K (.tup [Bo false]) M

/-- A constant's bytes: the row gets a mark behind its end. -/
def markW (x : AV) (M : RM) (K : PostV) : Prop := ∃ b p n c l el, x = .slc b p n (.ex c) ∧ M.heap b = some (.row l false el 0) ∧ K x (M.put b (.row l false el (l.length + 1)))

/-- A row of bytes becomes a text; the row is not looked at any more. -/
def ustrW (el : Nat) (x n : AV) (M : RM) (K : PostV) : Prop :=
  (∃ b k l opn fz s, x = .ptr b 0 ∧ n = N .i64 ((k + 1 : Nat) : Int) ∧ k ≤ 4611686018427387904 ∧ M.heap b = some (.row l opn el fz) ∧ k + 1 ≤ l.length ∧ mapO byteOf (l.take (k + 1)) = some s ∧ K (St s) (M.del b)) ∨
  (x = .sc (.pointer none) ∧ n = N .i64 0 ∧ K (St []) M)

def niceE (P : Program) (o : Oper) (e : Operand → AV) (M : RM) (K : PostV) : Prop :=
  match o.op with
  | .store t a x => match sizeT P t with
    | some n => storeW M (e a) (e x) n (K .undef)
    | none => False
  | .call { callee := .builtin .append, args, argTypes } => match argTypes[0]?, args with
    | some t, ⟨[s, x]⟩ => match P.underlying t, zerosArg P argTypes with
      | some (.slice elem), some zeros => match sizeT P elem, bytesT P elem, zerosOf P elem with
        | some size, some bytes, some zs => match Nat.ble 1 size, Nat.beq zs.length size with
          | true, true => appW elem size bytes zs zeros (e s) (e x) M K
          | _, _ => False
        | _, _, _ => False
      | _, _ => False
    | _, _ => False
  | .call { callee := .builtin .copy, args, argTypes } => match argTypes[0]?, args with
    | some t, ⟨[s, x]⟩ => match P.underlying t with
      | some (.slice elem) => match sizeT P elem with
        | some size => copyW size (e s) (e x) M K
        | none => False
      | _ => False
    | _, _ => False
  | .call { callee := .builtin .clear, args, argTypes } => match argTypes[0]?, args with
    | some t, ⟨[x]⟩ => match P.underlying t with
      | some (.slice elem) => match sizeT P elem, zerosOf P elem with
        | some size, some zs => match Nat.ble 1 size, Nat.beq zs.length size with
          | true, true => clearW zs (e x) M K
          | _, _ => False
        | _, _ => False
      | _ => False
    | _, _ => False
  | .call { callee := .builtin .unsafeString, args, argTypes } => match argTypes[0]?, args with
    | some t, ⟨[x, n]⟩ => match P.underlying t with
      | some (.pointer el) => match P.underlying el, Nat.beq (P.cellsOf el) 1 with
        | some (.int .u8), true => ustrW el (e x) (e n) M K
        | _, _ => False
      | _ => False
    | _, _ => False
  | .call { callee := .value (.func g), args, .. } => match P.funcs[g]? with
    | some fn => match fn.body with
      | some _ => CallsR P g (args.toList.map e) M K
      | none => extnW P g (args.toList.map e) M K
    | none => False
  | .call { callee := .value f, args, .. } => callV (CallsR P) (e f) (args.toList.map e) M K
  | .next it true => snextW (e it) M K
  | .convert src dst x => match Nat.beq src dst, P.underlying src with
    | true, some (.slice el) => match P.underlying el with
      | some (.int .u8) => markW (e x) M K
      | _ => False
    | _, _ => False
  | _ => False

/-! ### they are sound -/
section
variable {P : Program} {ρ : Ren} {o : Oper} {e : Operand → AV} {c : Operand → Value} {M : RM} {w : World} {K : PostV}

/-- What is owed for a program: no function counts goroutines; orders may be mixed. -/
structure POk (P : Program) : Prop where
  ng : ∀ (f : FuncId) (fn : Func), P.funcs[f]? = some fn → fn.name ≠ "runtime.NumGoroutine"
  mixed : P.follows .mixedOrders = true

theorem newL_rel (hw : MRel P ρ M w) {elem size : Nat} {zs : List AV} {zeros : Bool} {x : AV} {u : Value} {n : Nat} {new : List AV} (hx : VRel ρ x u) (hzs : zerosOf P elem = some zs) (h1 : 1 ≤ size) (h2 : zs.length = size)
    (h : newL M size zs zeros x = some (n, new)) : ∃ us, News P ρ w elem size zeros u n new us := by
  unfold newL at h
  split at h
  · split at h <;> first | (cases h; done) | skip
    rename_i k m
    split at h <;> first | (cases h; done) | skip
    rename_i hm
    cases h
    obtain ⟨it, z, hi, hz, hr⟩ := zerosOf_inv (ρ := ρ) hzs
    obtain ⟨rfl, _⟩ := sc_inv hx
    have hl := hr.length
    simp only [Array.length_toList] at hl
    refine ⟨(Builtin.zeroCells z.cells m.toNat).toList, by rw [← repL_rep]; exact rep_rel hr (by omega) _, by rw [Array.length_toList, size_zeroCells, ← hl, h2], (by simp only [if_true]; exact ⟨k, by congr 1; omega⟩), (fun e => by cases e), fun _ => ⟨it, z, hi, hz, rfl⟩⟩
  · split at h <;> first | (cases h; done) | skip
    · rename_i b o len cap
      split at h <;> first | (cases h; done) | skip
      rename_i xs hl
      cases h
      obtain ⟨i, cp, hb, rfl⟩ := slc_inv hx
      obtain ⟨vs, hr, hlen, hcell⟩ := RM.loads_rel hw hb hl
      refine ⟨vs, hr, hlen, by simp [Builtin.lenOf], fun _ w' hw' => ?_, fun e => by cases e⟩
      have := run_loadCells_list (P := P) w' ⟨i.cb, i.sh + o, none⟩ vs (fun j v hj => by rw [← hcell j v hj]; simp [World.cell?, hw'])
      rw [hlen] at this
      simp [Builtin.firstCells, this]
    · cases h
      cases hx with
      | emp b ad c =>
      exact ⟨[], .nil, by simp, by simp [Builtin.lenOf], fun _ _ _ => by simp [Builtin.firstCells, loadCells, loadCellsFrom], fun e => by cases e⟩
    · cases h
      obtain ⟨rfl, _⟩ := sc_inv hx
      exact ⟨[], .nil, by simp, by simp [Builtin.lenOf], fun _ _ _ => by simp [Builtin.firstCells], fun e => by cases e⟩
    · rename_i s
      split at h <;> first | (cases h; done) | skip
      rename_i hsz
      cases h
      subst hsz
      obtain ⟨rfl, _⟩ := sc_inv hx
      refine ⟨_, bytes_rel s, by simp, by simp [Builtin.lenOf], fun _ _ _ => ?_, fun e => by cases e⟩
      simp only [Builtin.firstCells, Sem.run_pure]
      congr 1
      have : (s.extract 0 s.data.toList.length) = s := by
        have h : s.data.toList.length = s.size := by rw [Array.length_toList]; rfl
        rw [h]; simp
      rw [this]
      apply Array.ext'
      simp

def DoesM (P : Program) (ρ : Ren) (M : RM) (w : World) (run : World → Result Value) (v : AV) (M' : RM) : Prop :=
  ∃ ρ' w' v', run w = .ok v' w' ∧ After P M ρ w M' ρ' w' ∧ VRel ρ' v v'

variable {A : AW} {M' : RM} {A' : AW}

theorem doesM_of (h : MRelA P ρ M w A) {run : World → Result Value} {v : AV} (hd : DoesV P M.base ρ A w run v A') (hlo : M'.base = M.base) (hn : A'.next = M'.next)
    (hb : ∀ b x, M'.heap b = some x → (∃ y, A'.heap.get b = some y ∧ RLe x y) ∨ ∃ c, x = .ro c ∧ M.heap b = some x) : DoesM P ρ M w run v M' := by
  obtain ⟨ρ', w', v', h1, h2, h3, h4, h5⟩ := hd
  exact ⟨ρ', w', v', h1, after_of h h2 h3 hlo hn h4 hb, h5⟩

theorem same_blk (h : MRelA P ρ M w A) : ∀ b x, M.heap b = some x → (∃ y, A.heap.get b = some y ∧ RLe x y) ∨ ∃ c, x = .ro c ∧ M.heap b = some x := by
  intro b x hx
  rcases h.blk b x hx with h1 | ⟨c, rfl, _⟩
  · exact .inl h1
  · exact .inr ⟨c, rfl, hx⟩

theorem putAll_list {l : List AV} {t : Tree AV} (h : putAll .leaf 0 l = some t) : RLe (.row l true 0 0) (.row l.length t [] true 0 0) ∧ ∀ (k : Nat) (v : AV), l[k]? = some v → cellAt t [] l.length k = some v := by
  obtain ⟨_, hget⟩ := putAll_get _ _ _ h
  have : ∀ (k : Nat) (v : AV), l[k]? = some v → cellAt t [] l.length k = some v := fun k v hk => by
    have hlt := (List.getElem?_eq_some_iff.1 hk).1
    exact cellAt_tree hlt (by rw [hget, if_pos (by omega)]; simpa using hk)
  exact ⟨⟨rfl, rfl, rfl, rfl, this⟩, this⟩

theorem appM_sound (h : MRelA P ρ M w A) {elem size bytes n : Nat} {zeros : Bool} {x : Value} {new : List AV} {us : List Value} (h1 : 1 ≤ size) {s v : AV} {u : Value} (hs : VRel ρ s u) (hn : News P ρ w elem size zeros x n new us)
    {t : TypeId} {ts : Array TypeId} {ty : TypeId} (ht : ts[0]? = some t) (hu : P.underlying t = some (.slice elem)) (hzs : zerosArg P ts = some zeros)
    {it : TypeInfo} {z : Value} (hi : P.info? elem = some it) (hz : it.zero = some z) (hsi : it.size = size) (hzc : z.cells.size = size) (hb : it.bytes = bytes) (hnb : n * bytes ≤ 140737488355328) (hnl : n ≤ 140737488355328)
    (ha : appM elem size bytes n new s M = some (v, M')) : DoesM P ρ M w (fun w => (Builtin.append_ ts ty #[u, x]).run P w) v M' := by
  have key : ∀ {A' : AW}, appendS elem size bytes n new s A = some (v, A') → M'.base = M.base → A'.next = M'.next →
      (∀ b x, M'.heap b = some x → (∃ y, A'.heap.get b = some y ∧ RLe x y) ∨ ∃ c, x = .ro c ∧ M.heap b = some x) → DoesM P ρ M w (fun w => (Builtin.append_ ts ty #[u, x]).run P w) v M' :=
    fun hA a b c => doesM_of h (appendS_sound h.rel h.size h1 hs hn ht hu hzs hi hz hsi hzc hb hnb hnl hA) a b c
  have hnw : new.length = n * size := by rw [hn.rel.length, hn.len]
  unfold appM at ha
  split at ha
  · split at ha
    · rename_i h0
      cases ha
      exact key (by simp only [appendS, h0]) rfl h.next (same_blk h)
    · rename_i h0
      split at ha <;> first | (cases ha; done) | skip
      rename_i hall
      cases ha
      obtain ⟨tr, htr⟩ := putAll_all new .leaf 0 hall
      obtain ⟨_, hcell⟩ := putAll_list htr
      cases n with
      | zero => exact absurd rfl h0
      | succ n =>
      obtain ⟨k1, k2, k3⟩ := RM.push_A h (x := .row new true elem 0) (y := .row ((n + 1) * size) tr [] true elem 0) ⟨hnw, rfl, rfl, rfl, fun k v hk => by rw [← hnw]; exact hcell k v hk⟩
      exact key (by simp only [appendS, htr, h.next]) k1 k2 k3
  · split at ha <;> first | (cases ha; done) | skip
    rename_i h0
    cases ha
    exact key (by simp only [appendS, h0]) rfl h.next (same_blk h)
  · rename_i b o len cc
    split at ha
    · rename_i h0
      split at ha <;> first | (cases ha; done) | skip
      rename_i hle
      cases ha
      subst h0
      cases hs with
      | slcS _ _ _ _ i hbi =>
      have hus : us = [] := List.eq_nil_of_length_eq_zero (by simpa using hn.len)
      refine ⟨ρ, w, _, run_room hn ht hu hzs hi hsi hb hnb hnl (by omega) (w1 := w) (by simp [hus, storeCells]), After.refl ⟨A, h⟩, ?_⟩
      exact .slcS _ _ _ _ i hbi
    rename_i hn0
    split at ha
    · rename_i hle
      split at ha <;> first | (cases ha; done) | skip
      rename_i M1 hst
      cases ha
      obtain ⟨A1, a1, a2, a3, a4, a5⟩ := RM.stores_A h hst
      exact key (by simp only [appendS, ble_iff.2 hle, a1]) a2 a3 a5
    · rename_i hle
      split at ha <;> first | (cases ha; done) | skip
      rename_i old hl
      split at ha <;> first | (cases ha; done) | skip
      rename_i hcond
      obtain ⟨c1, c2, c3⟩ := hcond
      cases ha
      cases hs with
      | slcS _ _ _ _ i hbi =>
      obtain ⟨vs, hr, hlen, hcell⟩ := RM.loads_rel ⟨A, h⟩ hbi hl
      obtain ⟨tr, htr⟩ := putAll_all (old ++ new) .leaf 0 c3
      obtain ⟨_, hget⟩ := putAll_get _ _ _ htr
      obtain ⟨_, hrow⟩ := putAll_list htr
      have hol : old.length = len * size := by rw [hr.length, hlen]
      have htot : (old ++ new).length = (len + n) * size := by rw [List.length_append, hol, hnw, ← Nat.add_mul]
      have hr2 := run_grow hn (ty := ty) ht hu hzs hi hz hsi hb hnb hnl hle c1 c2 (ad := some ⟨i.cb, i.sh + o, none⟩) (vs := vs) (fun w' hw' => by
        have := run_loadCells_list (P := P) w' ⟨i.cb, i.sh + o, none⟩ vs (fun j v hj => by rw [← hcell j v hj]; simp [World.cell?, hw'])
        rw [hlen] at this
        simp [Builtin.firstCells, this])
      have hge := grownCap_ge w (len + n) cc elem
      have hlen2 := hn.len
      obtain ⟨k1, k2, k3⟩ := RM.push_A h (x := .row (old ++ new) true elem 0) (y := .row ((len + n) * size) tr [] true elem 0) ⟨htot, rfl, rfl, rfl, fun k v hk => by rw [← htot]; exact hrow k v hk⟩
      have hsz : sizeT P elem = some size := by simp [sizeT, hi, hsi]
      have hd := grown_does h.rel h.size h1 hsz (cap := grownCap w (len + n) cc elem) (need := len + n) (tree := tr) (z := []) (fz := 0) (cs := ⟨vs⟩ ++ ⟨us⟩ ++ Builtin.zeroCells z.cells (grownCap w (len + n) cc elem - (len + n)))
        (run := fun w => (Builtin.append_ ts ty #[.slice (some ⟨i.cb, i.sh + o, none⟩) len cc, x]).run P w) (by
          simp only [Array.size_append, List.size_toArray, size_zeroCells, hzc, hlen, hlen2, ← Nat.add_mul]
          congr 1; omega) hge (fun k y hk => by
          obtain ⟨hk1, hk2⟩ := cellAt_nozeros hk
          rw [hget, if_pos (by omega), Nat.sub_zero] at hk2
          rw [getElem?_three]
          by_cases hlt : k < vs.length
          · rw [if_pos hlt]
            rw [List.getElem?_append_left (by omega)] at hk2
            exact hr.get hk2
          · rw [if_neg hlt, if_pos (by rw [hlen, hlen2, ← Nat.add_mul]; omega)]
            rw [List.getElem?_append_right (by omega), hr.length] at hk2
            exact hn.rel.get hk2) hr2
      rw [h.next] at hd
      exact doesM_of h hd k1 k2 k3
  · rename_i b o len esz
    split at ha
    · rename_i h0
      cases ha
      exact key (by simp only [appendS, h0]) rfl h.next (same_blk h)
    · rename_i h0
      cases n with
      | zero => exact absurd rfl h0
      | succ n =>
      split at ha <;> first | (cases ha; done) | skip
      rename_i l opn el fz hh
      split at ha <;> first | (cases ha; done) | skip
      rename_i hc
      obtain ⟨rfl, rfl⟩ := hc
      rcases h.blk b _ hh with ⟨y, hy, hle⟩ | ⟨c, e, _⟩
      · cases y <;> first | exact hle.elim | skip
        rename_i kn tree zs opn' elem' fz'
        obtain ⟨q1, rfl, rfl, rfl, q5⟩ := hle
        have hbo : (true && Nat.beq esz esz) = true := by simp
        split at ha
        · rename_i hroom
          split at ha <;> first | (cases ha; done) | skip
          rename_i M1 hst
          cases ha
          obtain ⟨A1, a1, a2, a3, a4, a5⟩ := RM.stores_A h hst
          exact key (by simp only [appendS, hy, hbo, ble_iff.2 (show o + (len + (n + 1)) * esz ≤ kn by omega), a1]) a2 a3 a5
        · rename_i hroom
          split at ha <;> first | (cases ha; done) | skip
          rename_i hcond
          obtain ⟨rfl, c2, c3, rfl, c5, c6, c8⟩ := hcond
          cases ha
          obtain ⟨tr, htr⟩ := putAll_all new tree (len * esz) c8
          obtain ⟨_, hget⟩ := putAll_get _ _ _ htr
          have hl : A.loads b 0 (len * esz) = some ((l.drop 0).take (len * esz)) := by
            unfold AW.loads; rw [hy]; exact cells_of q5 _ _ (by omega)
          refine key (A' := { next := A.next + 1, heap := (A.heap.del b).set A.next (.row ((len + (n + 1)) * esz) tr zs true elem' fz') }) ?_ rfl (by simp [RM.push, RM.del, h.next]) ?_
          · simp only [appendS, hy, hbo, ble_ff (show ¬ 0 + (len + (n + 1)) * esz ≤ kn by omega), hl, htr, h.next]
            rw [beq_tt rfl, ble_iff.2 c2, ble_iff.2 c3, beq_tt rfl, beq_tt (show kn = len * esz by omega), ble_iff.2 c6]
            rfl
          · intro d y hd
            change (if d = M.next then some (RB.row (l ++ new) true elem' fz') else if d = b then none else M.heap d) = some y at hd
            simp only [Tree.get_set, Tree.get_del, h.next]
            by_cases e1 : d = M.next
            · subst e1
              rw [if_pos rfl] at hd ⊢
              cases hd
              refine .inl ⟨_, rfl, by rw [List.length_append, c5, hnw, ← Nat.add_mul], rfl, rfl, rfl, fun k v hk => ?_⟩
              rw [cellAt_put hget]
              by_cases hin : len * esz ≤ k ∧ k < len * esz + new.length
              · rw [if_pos hin, if_pos (by rw [Nat.add_mul]; omega)]
                rw [List.getElem?_append_right (by omega), c5] at hk
                exact hk
              · rw [if_neg hin]
                have hkl : k < l.length := by
                  have := (List.getElem?_eq_some_iff.1 hk).1
                  rw [List.length_append] at this; omega
                rw [List.getElem?_append_left hkl] at hk
                rw [← q5 k v hk]
                exact cellAt_bound (by rw [Nat.add_mul]; omega) (by omega)
            · rw [if_neg e1] at hd ⊢
              by_cases e2 : d = b
              · subst e2; rw [if_pos rfl] at hd; cases hd
              · rw [if_neg e2] at hd ⊢
                exact same_blk h d y hd
      · cases e
  · cases ha

/-- An operation that gives a value and changes memory. -/
theorem doesM_does {run : World → Result Value} {v : AV} (h : DoesM P ρ M w run v M') (hr : ∀ v' w', run w = .ok v' w' → (execOp c o).run P w = .ok (.value v') w') (hk : K v M') :
    ∃ M' ρ' w', After P M ρ w M' ρ' w' ∧
    ((∃ v' v, (execOp c o).run P w = .ok (.value v') w' ∧ VRel ρ' v v' ∧ K v M') ∨ ((execOp c o).run P w = .ok .skip w' ∧ K .undef M') ∨
      ∃ f args us, (execOp c o).run P w = .ok (.enter f ⟨us⟩) w' ∧ LRel ρ' args us ∧ CallsR P f args M' K) := by
  obtain ⟨ρ', w', v', h1, h2, h3⟩ := h
  exact ⟨M', ρ', w', h2, .inl ⟨v', v, hr _ _ h1, h3, hk⟩⟩

theorem storesM (hw : MRel P ρ M w) {b p : Nat} {i : Info} {xs : List AV} {vs : List Value} (hb : ρ b = some i) (hv : LRel ρ xs vs) (h : M.stores b p xs = some M') :
    ∃ w', (∀ off, off = i.sh + p → (storeCells ⟨i.cb, off, none⟩ vs).run P w = .ok () w') ∧ After P M ρ w M' ρ w' := by
  obtain ⟨A, hA⟩ := hw
  obtain ⟨A1, a1, a2, a3, a4, a5⟩ := RM.stores_A hA h
  obtain ⟨w1, hrun, hw1, hstep, hnext⟩ := stores_rel hA.rel hb hv a1
  exact ⟨w1, hrun, after_of hA hstep hw1 a2 a3 (by omega) a5⟩

theorem known_cells {x : AV} {M' : RM} {b p : Nat} (h : M.stores b p x.cells = some M') : ∀ (_ : x = .top), False := by
  intro e0
  unfold RM.stores at h
  split at h <;> first | (cases h; done) | skip
  split at h <;> first | (cases h; done) | skip
  rename_i hc
  rw [e0] at hc
  simp [AV.cells, oneCell] at hc

theorem store_does {t : TypeId} {a x : Operand} (hop : o.op = .store t a x) {n : Nat} (hs : sizeT P t = some n) {K : RM → Prop} (h : storeW M (e a) (e x) n K) : DoesR P o e M (fun _ M' => K M') := by
  obtain ⟨b, p, M', hea, hn, hst, hk⟩ := h
  intro ρ w c hw he
  have ha : VRel ρ (e a) (c a) := he a (by rw [hop]; simp [Op.operands])
  have hx : VRel ρ (e x) (c x) := he x (by rw [hop]; simp [Op.operands])
  rw [hea] at ha
  obtain ⟨i, hb, hc⟩ := ptr_inv ha
  have hcl := hx.cells (known_cells hst)
  have hlen := hcl.length
  simp only [Array.length_toList] at hlen
  obtain ⟨w1, hrun, haft⟩ := storesM hw hb hcl hst
  refine ⟨M', ρ, w1, haft, .inr (.inl ⟨?_, hk⟩)⟩
  simp only [execOp, hop, Instr.storeAt, Instr.sureAddr, hc, Sem.run_bind, Sem.run_pure, Result.andThen_ok, storeVar, sizeT_run hs]
  rw [if_neg (by omega)]
  rw [hrun _ rfl]
  rfl

theorem DoesR.mono (h : DoesR P o e M K) {K' : PostV} (hk : ∀ v M', K v M' → K' v M') : DoesR P o e M K' := by
  intro ρ w c hw he
  obtain ⟨M', ρ', w', h1, h2⟩ := h ρ w c hw he
  refine ⟨M', ρ', w', h1, ?_⟩
  rcases h2 with ⟨v', v, a, b, d⟩ | ⟨a, b⟩ | ⟨f, args, us, a, b, d⟩
  · exact .inl ⟨v', v, a, b, hk _ _ d⟩
  · exact .inr (.inl ⟨a, hk _ _ b⟩)
  · exact .inr (.inr ⟨f, args, us, a, b, d.mono hk⟩)

theorem firstM_run (hw : MRel P ρ M w) {x : AV} {u : Value} {size k : Nat} {vs : List AV} (hx : VRel ρ x u) (h : firstM M size k x = some vs) : ∃ us, LRel ρ vs us ∧ (Builtin.firstCells size k u).run P w = .ok ⟨us⟩ w := by
  unfold firstM at h
  split at h <;> first | (cases h; done) | skip
  · obtain ⟨i, cp, hb, rfl⟩ := slc_inv hx
    obtain ⟨us, hr, hlen, _, hrun⟩ := RM.run_loads (P := P) hw hb h
    exact ⟨us, hr, by simp only [Builtin.firstCells]; exact hrun⟩
  · rename_i s
    split at h <;> first | (cases h; done) | skip
    cases h
    obtain ⟨rfl, _⟩ := sc_inv hx
    have hr : LRel ρ ((s.data.toList.take k).map fun b => AV.sc (.int .u8 b.toNat)) ((s.data.toList.take k).map fun b => Value.int .u8 b.toNat) := by
      generalize s.data.toList.take k = l
      induction l with
      | nil => exact .nil
      | cons b l ih => exact .cons _ _ _ _ (.sc _ rfl) ih
    refine ⟨_, hr, ?_⟩
    simp only [Builtin.firstCells, Sem.run_pure]
    congr 1
    apply Array.ext'
    simp [ByteArray.data_extract]

theorem copy_does {t elem : TypeId} {d x : Operand} {ts : Array TypeId} (hop : o.op = .call { callee := .builtin .copy, args := ⟨[d, x]⟩, argTypes := ts }) (ht : ts[0]? = some t) (hu : P.underlying t = some (.slice elem))
    {size : Nat} (hs : sizeT P elem = some size) {v : AV} (h : copyM size (e d) (e x) M = some (v, M')) (hk : K v M') : DoesR P o e M K := by
  intro ρ w c hw he
  have hd : VRel ρ (e d) (c d) := he d (by rw [hop]; simp [Op.operands, Call.operands])
  have hx : VRel ρ (e x) (c x) := he x (by rw [hop]; simp [Op.operands, Call.operands])
  have key : ∀ {dA : Option Addr} {dl dc sn : Nat} {us : List Value} {w1 : World}, c d = .slice dA dl dc → (Builtin.lenOf (c x)).run P w = .ok sn w → (Builtin.firstCells size (Nat.min sn dl) (c x)).run P w = .ok ⟨us⟩ w →
      (match dA with | some a => (storeCells a us).run P w = .ok () w1 | none => w1 = w) → (execOp c o).run P w = .ok (.value (.int .i64 (Nat.min sn dl : Nat))) w1 := by
    intro dA dl dc sn us w1 hcd hl hf hst
    have : (Builtin.copy_ ts o.type #[c d, c x]).run P w = .ok (.int .i64 (Nat.min sn dl : Nat)) w1 := by
      simp only [Builtin.copy_, ht, List.getElem?_toArray, List.getElem?_cons_zero, List.getElem?_cons_succ, Sem.run_bind, run_underlying hu, Result.andThen_ok, hcd, hl, sizeT_run hs, hf]
      cases dA with
      | none => simp only at hst; subst hst; rfl
      | some a => simp only at hst; simp only [Sem.run_bind, hst, Result.andThen_ok, Sem.run_pure, goInt]
    simp only [execOp, hop, resolve, invoke, builtin, Sem.run_bind, Sem.run_pure, Result.andThen_ok]
    rw [show (Array.map c ⟨[d, x]⟩) = #[c d, c x] by simp, this]
    rfl
  unfold copyM at h
  split at h <;> first | (cases h; done) | skip
  · rename_i b p dn cap hed
    rw [hed] at hd
    obtain ⟨i, cp, hb, hcd⟩ := slc_inv hd
    split at h <;> first | (cases h; done) | skip
    rename_i sn hsn
    have hl := lenA_run (P := P) hx hsn w
    split at h
    · rename_i hm
      cases h
      refine ⟨M, ρ, w, After.refl hw, .inl ⟨_, _, key hcd hl (by rw [hm]; exact firstCells_zero hx hsn w) (w1 := w) rfl, ?_, hk⟩⟩
      rw [hm]; exact .sc _ rfl
    · split at h <;> first | (cases h; done) | skip
      rename_i vs hvs
      split at h <;> first | (cases h; done) | skip
      rename_i M1 hst
      cases h
      obtain ⟨us, hr, hf⟩ := firstM_run hw hx hvs
      obtain ⟨w1, hrun, haft⟩ := storesM hw hb hr hst
      exact ⟨M', ρ, w1, haft, .inl ⟨_, _, key hcd hl hf (w1 := w1) (hrun _ rfl), .sc _ rfl, hk⟩⟩
  · rename_i b hed
    rw [hed] at hd
    generalize hcd : c d = cd at hd
    cases hd with
    | emp _ ad cp =>
    split at h <;> first | (cases h; done) | skip
    rename_i sn hsn
    cases h
    have hl := lenA_run (P := P) hx hsn w
    have hm : Nat.min sn 0 = 0 := Nat.min_zero _
    refine ⟨M, ρ, w, After.refl hw, .inl ⟨_, _, key hcd hl (by rw [hm]; exact firstCells_zero hx hsn w) (w1 := w) rfl, ?_, hk⟩⟩
    rw [hm]; exact .sc _ rfl
  · rename_i hed
    rw [hed] at hd
    have hcd := (sc_inv hd).1
    split at h <;> first | (cases h; done) | skip
    rename_i sn hsn
    cases h
    have hl := lenA_run (P := P) hx hsn w
    have hm : Nat.min sn 0 = 0 := Nat.min_zero _
    refine ⟨M, ρ, w, After.refl hw, .inl ⟨_, _, key hcd hl (by rw [hm]; exact firstCells_zero hx hsn w) (w1 := w) rfl, ?_, hk⟩⟩
    rw [hm]; exact .sc _ rfl

theorem clear_does {t elem : TypeId} {x : Operand} {ts : Array TypeId} (hop : o.op = .call { callee := .builtin .clear, args := ⟨[x]⟩, argTypes := ts }) (ht : ts[0]? = some t) (hu : P.underlying t = some (.slice elem))
    {size : Nat} {zs : List AV} (hs : sizeT P elem = some size) (hzs : zerosOf P elem = some zs) (c1 : 1 ≤ size) (c2 : zs.length = size) (h : clearW zs (e x) M K) : DoesR P o e M K := by
  intro ρ w c hw he
  have hx : VRel ρ (e x) (c x) := he x (by rw [hop]; simp [Op.operands, Call.operands])
  rcases h with ⟨b, p, n, cap, M', hex, hst, hk⟩ | ⟨b, hex, hk⟩ | ⟨hex, hk⟩
  · obtain ⟨it, z, hi, hz, hr⟩ := zerosOf_inv (ρ := ρ) hzs
    have hl := hr.length
    simp only [Array.length_toList] at hl
    rw [hex] at hx
    obtain ⟨i, cp, hb, hcx⟩ := slc_inv hx
    have hrel := rep_rel hr (by omega) n
    rw [repL_rep] at hrel
    obtain ⟨w1, hrun, haft⟩ := storesM hw hb hrel hst
    refine ⟨M', ρ, w1, haft, .inl ⟨.tuple #[], .undef, clear_run (t := t) hop ?_, .tup _ _ .nil, hk⟩⟩
    have hrun := hrun _ rfl
    cases n with
    | zero =>
      have he : (Builtin.zeroCells z.cells 0).toList = [] := by simp [Builtin.zeroCells]
      rw [he] at hrun
      simp only [storeCells, Sem.run_pure] at hrun
      cases hrun
      simp only [Builtin.clear_, ht, List.getElem?_toArray, List.getElem?_cons_zero, Sem.run_bind, run_underlying hu, Result.andThen_ok, hcx, Sem.run_pure]
    | succ n =>
      simp only [Builtin.clear_, ht, List.getElem?_toArray, List.getElem?_cons_zero, Sem.run_bind, run_underlying hu, Result.andThen_ok, hcx, zeroValue, typeInfo, run_program, hi, hz, Sem.run_pure, hrun]
  · rw [hex] at hx
    generalize hcx : c x = cx at hx
    cases hx with
    | emp _ ad cp =>
    refine ⟨M, ρ, w, After.refl hw, .inl ⟨.tuple #[], .undef, clear_run (t := t) hop ?_, .tup _ _ .nil, hk⟩⟩
    simp only [Builtin.clear_, ht, List.getElem?_toArray, List.getElem?_cons_zero, Sem.run_bind, run_underlying hu, Result.andThen_ok, hcx, Sem.run_pure]
  · rw [hex] at hx
    refine ⟨M, ρ, w, After.refl hw, .inl ⟨.tuple #[], .undef, clear_run (t := t) hop ?_, .tup _ _ .nil, hk⟩⟩
    simp only [Builtin.clear_, ht, List.getElem?_toArray, List.getElem?_cons_zero, Sem.run_bind, run_underlying hu, Result.andThen_ok, (sc_inv hx).1, Sem.run_pure]

theorem valsV : ∀ {xs : List AV} {us vs : List Value}, LRel ρ xs vs → mapO toVal xs = some us → vs = us
  | [], us, _, h, hu => by simp [mapO] at hu; subst hu; exact h.nil_inv
  | x :: xs, us, _, .cons _ v _ vs a b, hu => by
    simp only [mapO] at hu
    split at hu
    · rename_i y hy
      split at hu
      · rename_i ys hys
        cases hu
        rw [toVal_rel a hy, valsV b hys]
      · cases hu
    · cases hu

theorem niceE_sound (hP : POk P) (he0 : ∀ g, e (.func g) = .fn (.func g) [] []) (h : niceE P o e M K) : DoesR P o e M K := by
  cases hop : o.op
  case store t a x =>
    simp only [niceE, hop] at h
    split at h <;> first | (cases h; done) | skip
    rename_i n hs
    intro ρ w c hw he
    obtain ⟨M', ρ', w', h1, h2⟩ := store_does hop hs h ρ w c hw he
    obtain ⟨b, p, M1, hea, hn, hst, hk⟩ := h
    refine ⟨M', ρ', w', h1, ?_⟩
    rcases h2 with ⟨v', v, a1, b1, d1⟩ | ⟨a1, b1⟩ | ⟨f, args, us, a1, b1, d1⟩
    · exfalso
      have hz := a1
      simp only [execOp, hop, Sem.run_bind] at hz
      revert hz
      generalize (Instr.storeAt t (c a) (c x)).run P w = r
      cases r <;> simp [Result.andThen]
    · exact .inr (.inl ⟨a1, b1⟩)
    · exfalso
      have hz := a1
      simp only [execOp, hop, Sem.run_bind] at hz
      revert hz
      generalize (Instr.storeAt t (c a) (c x)).run P w = r
      cases r <;> simp [Result.andThen]
  case next it str =>
    cases str
    · simp only [niceE, hop] at h
    simp only [niceE, hop] at h
    obtain ⟨b, s, pos, hex, hg, hk⟩ := h
    intro ρ w c hw he
    have hx : VRel ρ (e it) (c it) := he it (by rw [hop]; simp [Op.operands])
    rw [hex] at hx
    obtain ⟨i, hb, hcx⟩ := ptr_inv hx
    obtain ⟨A, hA⟩ := hw
    rcases hA.blk b _ hg with ⟨y, hy, hle⟩ | ⟨_, e0, _⟩
    · cases y <;> first | exact hle.elim | skip
      obtain ⟨rfl, rfl⟩ := hle
      rename_i pos
      obtain ⟨ob, hob, hsh, rfl⟩ := hA.rel.blk b i _ hb hy
      have hget : (getObj i.cb).run P w = .ok (.stringIter ⟨⟨s⟩⟩ pos) w := by simp [getObj, Sem.run, hob]
      have hcx' : c it = .pointer (some ⟨i.cb, 0, none⟩) := by rw [hcx, hsh]
      by_cases hlt : pos < s.length
      · rw [if_pos hlt] at hk
        have hlt' : pos < (⟨⟨s⟩⟩ : ByteArray).size := hlt
        obtain ⟨q1, q2⟩ := setBlk_rel hA.rel (x := .siter ⟨⟨s⟩⟩ (pos + (Utf8.decode ⟨⟨s⟩⟩ pos).2)) hb hy (w' := { w with heap := w.heap.setIfInBounds i.cb (.stringIter ⟨⟨s⟩⟩ (pos + (Utf8.decode ⟨⟨s⟩⟩ pos).2)) }) rfl rfl rfl (by simp)
          (fun j hj => by simp [Array.getElem?_setIfInBounds, Ne.symm hj]) (by
            have := (Array.getElem?_eq_some_iff.1 hob).1
            simp [Array.getElem?_setIfInBounds, this]) ⟨hsh, rfl⟩
        refine ⟨M.put b (.siter s (pos + (Utf8.decode ⟨⟨s⟩⟩ pos).2)), ρ, _, after_of hA q2 q1 rfl hA.next (Nat.le_refl _) ?_, .inl ⟨.tuple #[.bool true, .int .i64 pos, .int .i32 (Utf8.decode ⟨⟨s⟩⟩ pos).1], _, ?_, .tup _ _ (.cons _ _ _ _ (.sc _ rfl) (.cons _ _ _ _ (.sc _ rfl) (.cons _ _ _ _ (.sc _ rfl) .nil))), hk⟩⟩
        · intro d y hd
          simp only [RM.put] at hd
          simp only [Tree.get_set]
          by_cases e2 : d = b
          · subst e2; rw [if_pos rfl] at hd ⊢; cases hd; exact .inl ⟨_, rfl, rfl, rfl⟩
          · rw [if_neg e2] at hd ⊢; exact same_blk hA d y hd
        · simp only [execOp, hop, Instr.next, hcx', Sem.run_bind, hget, Result.andThen_ok]
          rw [if_pos hlt']
          simp only [Sem.run_bind, setObj, Sem.run, hob, Result.andThen_ok, Sem.run_pure, goInt]
      · rw [if_neg hlt] at hk
        have hlt' : ¬ pos < (⟨⟨s⟩⟩ : ByteArray).size := hlt
        refine ⟨M, ρ, w, After.refl ⟨A, hA⟩, .inl ⟨.tuple #[.bool false], _, ?_, .tup _ _ (.cons _ _ _ _ (.sc _ rfl) .nil), hk⟩⟩
        simp only [execOp, hop, Instr.next, hcx', Sem.run_bind, hget, Result.andThen_ok]
        rw [if_neg hlt']
        rfl
    · cases e0
  case convert src dst x =>
    simp only [niceE, hop] at h
    split at h <;> first | (cases h; done) | skip
    rename_i el hsd hu
    split at h <;> first | (cases h; done) | skip
    rename_i hel
    obtain ⟨b, p, n, cp, l, elem, hex, hg, hk⟩ := h
    have hsd := beq_t hsd
    subst hsd
    intro ρ w c hw he
    have hx : VRel ρ (e x) (c x) := he x (by rw [hop]; simp [Op.operands])
    obtain ⟨A, hA⟩ := hw
    rcases hA.blk b _ hg with ⟨y, hy, hle⟩ | ⟨_, e0, _⟩
    · cases y <;> first | exact hle.elim | skip
      rename_i nn tree zs opn' elem' fz'
      obtain ⟨h1, rfl, rfl, rfl, h5⟩ := hle
      have hx' := hx
      rw [hex] at hx
      obtain ⟨i, cp', hb, hcx⟩ := slc_inv hx
      obtain ⟨ob, hob, cc, fr, rfl, hrow⟩ := hA.rel.blk b i _ hb hy
      obtain ⟨hf1, hf2⟩ := hrow.mark rfl rfl
      obtain ⟨hq1, _⟩ := markRow (P := P) hob hf1 (e := .slice (some ⟨i.cb, i.sh + p, none⟩) n cp') hu hel
      have hlt := (Array.getElem?_eq_some_iff.1 hob).1
      obtain ⟨q1, q2⟩ := setBlk_rel hA.rel (x := .row nn tree zs false elem' (nn + 1)) (ob := .cells cc elem' (cc.size, cc.size + 1)) hb hy (w' := { w with heap := w.heap.setIfInBounds i.cb (.cells cc elem' (cc.size, cc.size + 1)) }) rfl rfl rfl (by simp)
        (fun j hj => by simp [Array.getElem?_setIfInBounds, Ne.symm hj]) (by simp [Array.getElem?_setIfInBounds, hlt])
        ⟨cc, _, rfl, ⟨hrow.size, hrow.val, fun k _ hk h2 => by omega, fun _ h0 => by omega, hrow.opn, hrow.sh0⟩⟩
      refine ⟨M.put b (.row l false elem' (l.length + 1)), ρ, _, after_of hA q2 q1 rfl hA.next (Nat.le_refl _) ?_, .inl ⟨_, _, by simp only [execOp, hop, Sem.run_bind, hcx, hq1, Result.andThen_ok, Sem.run_pure], hcx ▸ hx', hk⟩⟩
      intro d y hd
      simp only [RM.put] at hd
      simp only [Tree.get_set]
      by_cases e2 : d = b
      · subst e2; rw [if_pos rfl] at hd ⊢; cases hd; exact .inl ⟨_, rfl, h1, rfl, rfl, by rw [h1], h5⟩
      · rw [if_neg e2] at hd ⊢; exact same_blk hA d y hd
    · cases e0
  case call cl =>
    obtain ⟨callee, args, ts⟩ := cl
    cases callee with
    | builtin b =>
      cases b
      case unsafeString =>
        simp only [niceE, hop] at h
        split at h <;> first | (cases h; done) | skip
        rename_i t x n ht
        split at h <;> first | (cases h; done) | skip
        rename_i el hu
        split at h <;> first | (cases h; done) | skip
        rename_i hel hc1
        have hc1 := beq_t hc1
        intro ρ w c hw he
        obtain ⟨A, hA⟩ := hw
        have hX : XOk P ⟨[], [], []⟩ := ⟨hP.ng, fun f h => (by cases h), fun f h => (by cases h)⟩
        rcases h with ⟨b, k, l, opn, fz, s, hex, hen, hk0, hg, hkl, hs, hk⟩ | ⟨hex, hen, hk⟩
        · rcases hA.blk b _ hg with ⟨y, hy, hle⟩ | ⟨_, e0, _⟩
          · cases y <;> first | exact hle.elim | skip
            rename_i nn tree zs opn' elem' fz'
            obtain ⟨h1, rfl, rfl, rfl, h5⟩ := hle
            have hl : A.loads b 0 (k + 1) = some (l.take (k + 1)) := by
              unfold AW.loads
              rw [hy]
              simpa using cells_of h5 (k + 1) 0 (by omega)
            have hlies : liesAt P P.depth elem' (nn / P.cellsOf elem') 0 elem' (k + 1) = true := Lib.liesAt_bytes hc1 _ _ (by rw [hc1, Nat.div_one]; omega)
            have heff : effOp P ⟨[], [], []⟩ o e A = some (.value (St s), { A with heap := A.heap.del b }) := by
              simp only [effOp, hop, ht, hu, hel, hex, hen, natOf, hy, hl, bytesOf, hs, hlies, ble_iff.2 hk0]
            obtain ⟨ρ', w', q1, q2, q3, v', hrun, hv⟩ := effOp_sound hX hA.rel hA.size he heff
            refine ⟨M.del b, ρ', w', after_of hA q1 q2 rfl hA.next q3 fun d z hd => ?_, .inl ⟨v', _, hrun, hv, hk⟩⟩
            simp only [RM.del] at hd
            simp only [Tree.get_del]
            by_cases e2 : d = b
            · rw [if_pos e2] at hd; cases hd
            · rw [if_neg e2] at hd ⊢; exact same_blk hA d z hd
          · cases e0
        · have heff : effOp P ⟨[], [], []⟩ o e A = some (.value (St []), A) := by
            simp only [effOp, hop, ht, hu, hel, hex, hen, natOf]
          obtain ⟨ρ', w', q1, q2, q3, v', hrun, hv⟩ := effOp_sound hX hA.rel hA.size he heff
          exact ⟨M, ρ', w', after_of hA q1 q2 rfl hA.next q3 fun d z hd => same_blk hA d z hd, .inl ⟨v', _, hrun, hv, hk⟩⟩
      case append =>
        simp only [niceE, hop] at h
        split at h <;> first | (cases h; done) | skip
        rename_i t s x ht
        split at h <;> first | (cases h; done) | skip
        rename_i elem zeros hu hz
        split at h <;> first | (cases h; done) | skip
        rename_i size bytes zs hs1 hb1 hz1
        split at h <;> first | (cases h; done) | skip
        rename_i c1 c2
        have c1 := ble_t c1; have c2 := beq_t c2
        obtain ⟨n, new, hnew, c3, c4, v, M', hM, hk⟩ := h
        intro ρ w c hw he
        have hs : VRel ρ (e s) (c s) := he s (by rw [hop]; simp [Op.operands, Call.operands])
        have hx : VRel ρ (e x) (c x) := he x (by rw [hop]; simp [Op.operands, Call.operands])
        obtain ⟨us, hn⟩ := newL_rel (P := P) hw hx hz1 c1 c2 hnew
        obtain ⟨it, z, hi, hzz, hr⟩ := zerosOf_inv (ρ := ρ) hz1
        have hl := hr.length
        simp only [Array.length_toList] at hl
        obtain ⟨A, hA⟩ := hw
        refine doesM_does (appM_sound hA c1 hs hn (ty := o.type) ht hu hz hi hzz (by simpa [sizeT, hi] using hs1) (by omega) (by simpa [bytesT, hi] using hb1) c3 c4 hM) (fun v' w' hr => ?_) hk
        simp only [execOp, hop, resolve, invoke, builtin, Sem.run_bind, Sem.run_pure, Result.andThen_ok]
        rw [show (Array.map c ⟨[s, x]⟩) = #[c s, c x] by simp, hr]
        rfl
      case copy =>
        simp only [niceE, hop] at h
        split at h <;> first | (cases h; done) | skip
        rename_i t s x ht
        split at h <;> first | (cases h; done) | skip
        rename_i elem hu
        split at h <;> first | (cases h; done) | skip
        rename_i size hsz
        obtain ⟨v, M', hM, hk⟩ := h
        exact copy_does hop ht hu hsz hM hk
      case clear =>
        simp only [niceE, hop] at h
        split at h <;> first | (cases h; done) | skip
        rename_i t x ht
        split at h <;> first | (cases h; done) | skip
        rename_i elem hu
        split at h <;> first | (cases h; done) | skip
        rename_i size zs hs hzs
        split at h <;> first | (cases h; done) | skip
        rename_i c1 c2
        exact clear_does hop ht hu hs hzs (ble_t c1) (beq_t c2) h
      all_goals (simp only [niceE, hop] at h)
    | value f =>
      have hrun : ∀ {c : Operand → Value} {w : World} {g : FuncId} {us vs : List Value}, c f = .func (.func g) ⟨us⟩ ⟨vs⟩ → (execOp c o).run P w = (callFunc g ⟨us ++ args.toList.map c ++ vs⟩).run P w := by
        intro c w g us vs hcf
        simp only [execOp, hop, resolve, hcf, Deferred.ofValue, invoke, Sem.run_bind, Sem.run_pure, Result.andThen_ok]
        congr 2
        apply Array.ext'
        simp
      have ha : ∀ {ρ : Ren} {c : Operand → Value}, (∀ x ∈ o.op.operands, VRel ρ (e x) (c x)) → ∀ x ∈ args.toList, VRel ρ (e x) (c x) := fun he x hx => he x (by rw [hop]; simp [Op.operands, Call.operands]; exact .inr (by simpa using hx))
      have gen : ∀ (g : FuncId) (first cap : List AV), e f = .fn (.func g) first cap → CallsR P g (first ++ args.toList.map e ++ cap) M K → DoesR P o e M K := by
        intro g first cap hef hcall ρ w c hw he
        have hf : VRel ρ (e f) (c f) := he f (by rw [hop]; simp [Op.operands, Call.operands])
        rw [hef] at hf
        generalize hcf : c f = cf at hf
        cases hf with
        | fn _ _ _ us vs hp hfi hca =>
        obtain ⟨⟨fn, cd, hfn, hcd⟩, hall⟩ := hcall
        refine ⟨M, ρ, w, After.refl hw, .inr (.inr ⟨g, _, us ++ args.toList.map c ++ vs, ?_, (hfi.append (LRel.ofAll _ (ha he))).append hca, ⟨⟨fn, cd, hfn, hcd⟩, hall⟩⟩)⟩
        rw [hrun hcf]
        exact body_run hfn (hP.ng _ _ hfn) hcd w
      cases f with
      | func g =>
        simp only [niceE, hop] at h
        split at h <;> first | (cases h; done) | skip
        rename_i fn hfn
        split at h
        · rename_i cd hcd
          exact gen g [] [] (he0 g) (by simpa using h)
        · rename_i hcd
          have start : ∀ {ρ : Ren} {w : World} {c : Operand → Value}, (∀ x ∈ o.op.operands, VRel ρ (e x) (c x)) → (execOp c o).run P w = (callFunc g ⟨args.toList.map c⟩).run P w := by
            intro ρ w c he
            have hf : VRel ρ (e (.func g)) (c (.func g)) := he _ (by rw [hop]; simp [Op.operands, Call.operands])
            rw [he0] at hf
            generalize hcf : c (.func g) = cf at hf
            cases hf with
            | fn _ _ _ us vs hp hfi hca =>
            cases hfi.nil_inv
            cases hca.nil_inv
            rw [hrun hcf]
            simp only [List.nil_append, List.append_nil]
          rcases h with ⟨v, hv, hk⟩ | ⟨⟨fn', t, elem, size, tr, g1, g2, g3, g4, g5, g6⟩, ⟨ba, oa, na, ca, bb, ob, nb, cb, la, ea, fa, lb, opb, eb, fb, hargs, hne, hla, hlb, q1, q2, q3⟩, hk⟩ | ⟨⟨fn', g1, g2, g3, g4⟩, v, hargs, hk⟩ | ⟨v, hnat, hk⟩
          · intro ρ w c hw he
            unfold enterA at hv
            rw [hfn] at hv
            simp only [hcd] at hv
            split at hv <;> first | (cases hv; done) | skip
            rename_i h1
            split at hv <;> first | (cases hv; done) | skip
            rename_i s ws h2 hws
            split at hv <;> first | (cases hv; done) | skip
            rename_i u hu
            split at hv <;> first | (cases hv; done) | skip
            rename_i y hy
            cases hv
            have hval := valsV (LRel.ofAll _ (ha he)) hws
            refine ⟨M, ρ, w, After.refl hw, .inl ⟨u, v, ?_, ofVal_rel hy, hk⟩⟩
            rw [start he, hval]
            exact noBody_run hfn (hP.ng _ _ hfn) hcd h1 h2 (fun w => pureRun_run hu w) w
          · intro ρ w c hw he
            have hl := LRel.ofAll _ (ha he)
            rw [hargs] at hl
            obtain ⟨A, hA⟩ := hw
            rcases hA.blk ba _ hla with ⟨ya, hya, hlea⟩ | ⟨_, e0, _⟩
            · rcases hA.blk bb _ hlb with ⟨yb, hyb, hleb⟩ | ⟨_, e0, _⟩
              · cases ya <;> first | exact hlea.elim | skip
                cases yb <;> first | exact hleb.elim | skip
                obtain ⟨r1, rfl, rfl, rfl, r5⟩ := hlea
                obtain ⟨s1, rfl, rfl, rfl, s5⟩ := hleb
                have hov : overlapsA A [.slc ba oa na ca, .slc bb ob nb cb] = some (.sc (.bool false)) := by
                  simp only [overlapsA, beq_ff hne, hya, hyb]
                  subst q1
                  rw [ble_iff.2 (by omega), ble_iff.2 (by omega)]
                  rfl
                obtain ⟨_, hr⟩ := overlaps_run (tr := tr) hA.rel hl hov g5 g6
                refine ⟨M, ρ, w, After.refl ⟨A, hA⟩, .inl ⟨.bool false, Bo false, ?_, .sc _ rfl, hk⟩⟩
                rw [start he]
                exact noBody_runIn g1 (hP.ng _ _ g1) g2 g3 g4 hr
              · cases e0
            · cases e0
          · intro ρ w c hw he
            have hl := LRel.ofAll _ (ha he)
            rw [hargs] at hl
            generalize hal : args.toList.map c = al at hl
            cases hl with
            | cons _ u _ us2 h1 hr =>
            cases hr
            refine ⟨M, ρ, w, After.refl hw, .inl ⟨u, v, ?_, h1, hk⟩⟩
            rw [start he, hal]
            exact noBody_runIn g1 (hP.ng _ _ g1) g2 g3 g4 rfl
          · intro ρ w c hw he
            obtain ⟨u, hrun, hv⟩ := hnat ρ w _ (LRel.ofAll _ (ha he)) hw
            exact ⟨M, ρ, w, After.refl hw, .inl ⟨u, v, by rw [start he]; exact hrun, hv, hk⟩⟩
      | tmp t => 
        simp only [niceE, hop] at h
        obtain ⟨g, first, cap, hef, hcall⟩ := h
        exact gen g first cap hef hcall
      | const v =>
        simp only [niceE, hop] at h
        obtain ⟨g, first, cap, hef, hcall⟩ := h
        exact gen g first cap hef hcall
      | global v =>
        simp only [niceE, hop] at h
        obtain ⟨g, first, cap, hef, hcall⟩ := h
        exact gen g first cap hef hcall
    | invoke r m => simp only [niceE, hop] at h
  all_goals (simp only [niceE, hop] at h)
end
end Go.Ab
/- Operations in the text's order, over data that is not known. By an AI agent. -/
set_option linter.unusedVariables false
set_option linter.unusedSimpArgs false
namespace Go.Ab
open Go Go.RowKit

def putK (nt : Nat) (T : Tree AV) (d : Option Tmp) (v : AV) (K : Tree AV → Prop) : Prop :=
  match d with
  | none => K T
  | some d => match Nat.ble (d + 1) nt with
    | true => K (T.set d v)
    | false => False

/-- A new block. -/
def newW (x : RB) (mk : Nat → AV) (M : RM) (K : PostV) : Prop := K (mk M.next) (M.push x)

def opW (P : Program) (o : Oper) (e : Operand → AV) (M : RM) (K : PostV) : Prop :=
  match kindOf P o with
  | .pure | .read => niceV P o e M (fun v => K v M)
  | .alloc => niceN P o e (fun x mk => newW x mk M K)
  | .eff => niceE P o e M K

def guardW {α : Type} (x : AV) (want : Bool) (f g : α → Prop) (k : α) : Prop :=
  match x with
  | .sc (.bool b) => if b = want then f k else g k
  | .tup [] => g k
  | _ => False

def opsW (P : Program) (nt : Nat) (ops : Array Oper) : List Oper → Tree AV → RM → (Tree AV → RM → Prop) → Prop
  | [], T, M, K => K T M
  | o :: rest, T, M, K => match o.guard with
    | none => opW P o (evalT T) M (fun v M' => putK nt T o.dst v (fun T' => opsW P nt ops rest T' M' K))
    | some (j, want) => match (ops[j]?).bind (·.dst) with
      | none => False
      | some d => guardW ((T.get d).getD .top) want (opW P o (evalT T) M) (fun k => k .undef M) (fun v M' => putK nt T o.dst v (fun T' => opsW P nt ops rest T' M' K))

section
variable {P : Program} {ρ : Ren} {M : RM} {w : World} {nt : Nat} {T : Tree AV} {a : Act}

theorem putK_rel (h : ARel ρ nt T a) {d : Option Tmp} {v : AV} {v' : Value} {K : Tree AV → Prop} (hv : VRel ρ v v') (hp : putK nt T d v K) : ∃ T', ARel ρ nt T' (a.put d v') ∧ K T' ∧ ∀ t, d ≠ some t → T'.get t = T.get t := by
  cases d with
  | none => exact ⟨T, put_rel h hv rfl, hp, fun _ _ => rfl⟩
  | some d =>
    simp only [putK] at hp
    split at hp
    · rename_i hb
      exact ⟨T.set d v, put_rel h hv (by simp only [putT, hb]), hp, fun t ht => by rw [Tree.get_set, if_neg (fun e => ht (by rw [e]))]⟩
    · cases hp

theorem opW_does (hP : POk P) {o : Oper} {e : Operand → AV} {K : PostV} (he0 : ∀ g, e (.func g) = .fn (.func g) [] []) (h : opW P o e M K) : DoesR P o e M K := by
  unfold opW at h
  have val : niceV P o e M (fun v => K v M) → DoesR P o e M K := by
    intro h ρ w c hw he
    obtain ⟨v, hg, hk⟩ := niceV_sound h
    have hg : GivesR P o e M v := by rcases hg with hg | ⟨_, hg⟩ <;> first | exact hg M | exact hg
    obtain ⟨v', h1, h2⟩ := hg ρ w c M (RM.Sub.refl M) hw he
    exact ⟨M, ρ, w, After.refl hw, .inl ⟨v', v, h1, h2, hk⟩⟩
  split at h
  · exact val h
  · exact val h
  · obtain ⟨x, mk, hm, hk⟩ := niceN_sound h
    intro ρ w c hw he
    obtain ⟨ρ', w', u, h1, h2, h3⟩ := makes_after hw he hm
    exact ⟨_, ρ', w', h2, .inl ⟨u, _, h1, h3, hk⟩⟩
  · exact niceE_sound hP he0 h

/-- One operation, and what comes behind it. -/
theorem does_wp {o : Oper} {e : Operand → AV} {K : PostV} (h : DoesR P o e M K) (hw : MRel P ρ M w) (he : ∀ x ∈ o.op.operands, VRel ρ (e x) (a.eval x)) {K' : Act → World → Prop} {Q : Exit → Act → World → Prop}
    (hK : ∀ v v' M' ρ' w', After P M ρ w M' ρ' w' → VRel ρ' v v' → K v M' → K' (a.put o.dst v') w') : o.wp P a w K' Q := by
  obtain ⟨M', ρ', w', haft, h2⟩ := h ρ w a.eval hw he
  rcases h2 with ⟨v', v, h1, h3, hk⟩ | ⟨h1, hk⟩ | ⟨f, args, us, h1, h3, hb, hc⟩
  · exact op_gives o h1 (hK _ _ _ _ _ haft h3 hk)
  · exact op_skips o h1 (hK _ _ _ _ _ haft (.tup _ _ .nil) hk)
  · refine op_enters o h1 (hc ρ' w' us h3 haft.rel) fun e w'' hR => ?_
    obtain ⟨v', v, M2, ρ2, rfl, k1, k2, k3⟩ := hR
    exact ⟨v', rfl, hK _ _ _ _ _ (haft.trans k1) k2 k3⟩

theorem guardW_rel {α : Type} {x : AV} {u : Value} {want : Bool} {f g : α → Prop} {k : α} (h : guardW x want f g k) (hx : VRel ρ x u) : (u = .bool want ∧ f k) ∨ ((∀ b, u = .bool b → b ≠ want) ∧ g k) := by
  unfold guardW at h
  split at h <;> first | (cases h; done) | skip
  · obtain ⟨rfl, _⟩ := sc_inv hx
    split at h
    · rename_i e; subst e; exact .inl ⟨rfl, h⟩
    · rename_i e; exact .inr ⟨fun b hb => by cases hb; exact e, h⟩
  · obtain ⟨vs, rfl, hr⟩ := tup_inv hx
    exact .inr ⟨fun b hb => (by cases hb), h⟩

theorem opsW_sound (hP : POk P) {ops : Array Oper} {Q : Exit → Act → World → Prop} {K : Tree AV → RM → Prop} {M0 : RM} {ρ0 : Ren} {w0 : World} {T0 : Tree AV}
    (hQ : ∀ T' M' ρ' a' w', After P M0 ρ0 w0 M' ρ' w' → ARel ρ' nt T' a' → K T' M' → (∀ t, (∀ o ∈ ops.toList, o.dst ≠ some t) → T'.get t = T0.get t) → Q .normal a' w') :
    ∀ (l : List Oper) (i : Nat) {ρ : Ren} {M : RM} {w : World} {T : Tree AV} {a : Act}, ops.toList.drop i = l → ARel ρ nt T a → After P M0 ρ0 w0 M ρ w → (∀ t, (∀ o ∈ ops.toList, o.dst ≠ some t) → T.get t = T0.get t) → opsW P nt ops l T M K →
      wpOps P ops Q (List.range' i l.length) a w
  | [], i, ρ, M, w, T, a, _, hA, hw, hkp, h => hQ T M ρ a w hw hA h hkp
  | o :: rest, i, ρ, M, w, T, a, hl, hA, hw, hkp, h => by
    have ho : ops[i]? = some o := by
      have : ops.toList[i]? = some o := by
        have h0 : (ops.toList.drop i)[0]? = some o := by rw [hl]; rfl
        rw [List.getElem?_drop] at h0; exact h0
      rw [← Array.getElem?_toList]; exact this
    have hom : o ∈ ops.toList := by
      have h1 : ops.toList[i]? = some o := by rw [Array.getElem?_toList]; exact ho
      exact List.mem_of_getElem? h1
    have hl' : ops.toList.drop (i + 1) = rest := by
      rw [← List.drop_drop (i := 1) (j := i)] <;> rw [hl]; rfl
    rw [List.length_cons, List.range'_succ, wpOps_cons]
    unfold wpOp
    simp only [ho]
    simp only [opsW] at h
    have he : ∀ x ∈ o.op.operands, VRel ρ (evalT T x) (a.eval x) := fun x _ => evalT_rel hA x
    have next : opW P o (evalT T) M (fun v M' => putK nt T o.dst v (fun T' => opsW P nt ops rest T' M' K)) → o.wp P a w (wpOps P ops Q (List.range' (i + 1) rest.length)) Q := by
      intro h
      refine does_wp (opW_does hP (fun _ => rfl) h) hw.rel he fun v v' M' ρ' w' haft hv hk => ?_
      obtain ⟨T', hT, hk, hkt⟩ := putK_rel (hA.mono (haft.le hw.rel)) hv hk
      exact opsW_sound hP hQ rest (i + 1) hl' hT (hw.trans haft) (fun t ht => by rw [hkt t (ht o hom), hkp t ht]) hk
    split at h
    · rename_i hg
      have : Region.wanted o (yielded ops a.tmps) = true := by simp [Region.wanted, hg]
      rw [this]
      exact .inl (next h)
    · rename_i j want hg
      split at h <;> first | (cases h; done) | skip
      rename_i d hd
      have hyv : yielded ops a.tmps j = match a.tmps[d]? with | some (.bool b) => some b | _ => none := by
        unfold yielded; rw [hd]; rfl
      have hget : ∀ t : Bool, a.tmps.getD d undef = .bool t ↔ a.tmps[d]? = some (.bool t) := by
        intro t
        rw [Array.getD_eq_getD_getElem?]
        cases hx : a.tmps[d]? with
        | none => simp [undef]
        | some y => simp
      rcases guardW_rel h (hA.val d) with ⟨hu, hf⟩ | ⟨hn, hk⟩
      · have : Region.wanted o (yielded ops a.tmps) = true := by
          simp only [Region.wanted, hg, hyv, (hget want).1 hu]; simp
        rw [this]
        exact .inl (next hf)
      · have : Region.wanted o (yielded ops a.tmps) = false := by
          simp only [Region.wanted, hg, hyv]
          cases hx : a.tmps[d]? with
          | none => rfl
          | some y =>
            cases y <;> try rfl
            rename_i b
            have := hn b ((hget b).2 hx)
            simpa using this
        rw [this]
        simp only [Bool.false_eq_true, if_false]
        obtain ⟨T', hT, hk, hkt⟩ := putK_rel (v' := undef) hA (.tup _ _ .nil) hk
        exact opsW_sound hP hQ rest (i + 1) hl' hT hw (fun t ht => by rw [hkt t (ht o hom), hkp t ht]) hk
end
end Go.Ab
/- A region that draws its order, over data that is not known. By an AI agent. -/
set_option linter.unusedVariables false
set_option linter.unusedSimpArgs false
namespace Go.Ab
open Go Go.RowKit

structure RSM where
  vals : Tree AV
  M : RM
  bids : Tree (Option Nat)

abbrev KR := AV → RM → Option Nat → Prop

def guardOf (ops : Array Oper) (wr : Tree Nat) (vals : Tree AV) (r : Row) : Option (Option (AV × Bool)) :=
  match r.o.guard with
  | none => some none
  | some (j, want) => match (ops[j]?).bind (·.dst) with
    | none => none
    | some d => match Nat.testBit r.m j, wr.get d with
      | true, some j' => match Nat.beq j' j with
        | true => some (some ((vals.get j).getD .top, want))
        | false => none
      | _, _ => none

abbrev guardM (x : AV) (want : Bool) (f g : PostV → Prop) (k : PostV) : Prop := guardW x want f g k
abbrev guardK (x : AV) (want : Bool) (f g : KR → Prop) (k : KR) : Prop := guardW x want f g k
abbrev guardP (x : AV) (want : Bool) (f g : Prop → Prop) (k : Prop) : Prop := guardW x want f g k

def guardS {α : Type} (g : Option (Option (AV × Bool))) (f skip : α → Prop) (k : α) : Prop :=
  match g with
  | none => False
  | some none => f k
  | some (some (x, want)) => guardW x want f skip k

def newR (x : RB) (mk : Nat → AV) (M : RM) (k : KR) : Prop := k (mk M.next) (M.push x) (some M.next)
/-- The block of a row that was done holds what it would hold now. -/
def sameB (b : Option Nat) (M : RM) (x : RB) (mk : Nat → AV) (v : AV) : Prop :=
  match b with
  | some b => M.heap b = some x ∧ mk b = v
  | none => False

def valR (P : Program) (r : Row) (e : Operand → AV) (M : RM) (k : KR) : Prop :=
  match r.kd with
  | .pure | .read => niceV P r.o e M (fun v => k v M none)
  | .alloc => niceN P r.o e (fun x mk => newR x mk M k)
  | .eff => False

def nonW (P : Program) (ops : Array Oper) (T0 : Tree AV) (wr : Tree Nat) (lev : Nat) : List Row → RSM → (RSM → Prop) → Prop
  | [], s, K => K s
  | r :: rest, s, K => match Nat.beq r.lev lev && !isEff r.kd with
    | false => nonW P ops T0 wr lev rest s K
    | true => guardS (guardOf ops wr s.vals r) (valR P r (envR T0 wr s.vals r.m) s.M) (fun k => k .undef s.M none) (fun v M' b => nonW P ops T0 wr lev rest { vals := s.vals.set r.i v, M := M', bids := s.bids.set r.i b } K)

/-- A row that was done, once more: is its value the same behind the effect? -/
def reRow (P : Program) (ops : Array Oper) (T0 : Tree AV) (wr : Tree Nat) (r : Row) (s : RSM) (K : Prop) : Prop :=
  match r.kd with
  | .read => guardS (guardOf ops wr s.vals r) (fun k => niceV P r.o (envR T0 wr s.vals r.m) s.M (fun v => v = (s.vals.get r.i).getD .top ∧ k)) (fun k => k) K
  | .alloc => guardS (guardOf ops wr s.vals r) (fun k => niceN P r.o (envR T0 wr s.vals r.m) (fun x mk => sameB ((s.bids.get r.i).getD none) s.M x mk ((s.vals.get r.i).getD .top) ∧ k)) (fun k => k) K
  | _ => K

def reW (P : Program) (ops : Array Oper) (T0 : Tree AV) (ri : RI) (lev : Nat) : List Row → RSM → Prop → Prop
  | [], _, K => K
  | r :: rest, s, K => match Nat.ble r.lev lev && !isEff r.kd && aliveAt ri.ms ri.es (lev + 1) r with
    | false => reW P ops T0 ri lev rest s K
    | true => reRow P ops T0 ri.wr r s (reW P ops T0 ri lev rest s K)

def stageW (P : Program) (ops : Array Oper) (T0 : Tree AV) (ri : RI) : Nat → List Nat → RSM → (RSM → Prop) → Prop
  | lev, [], s, K => nonW P ops T0 ri.wr lev ri.rows s K
  | lev, x :: rest, s, K => nonW P ops T0 ri.wr lev ri.rows s (fun s1 => match nth ri.rows x with
    | none => False
    | some r => guardS (guardOf ops ri.wr s1.vals r) (niceE P r.o (envR T0 ri.wr s1.vals r.m) s1.M) (fun k => k .undef s1.M)
        (fun v M' => reW P ops T0 ri lev ri.rows { vals := s1.vals.set x v, M := M', bids := s1.bids } (stageW P ops T0 ri (lev + 1) rest { vals := s1.vals.set x v, M := M', bids := s1.bids } K)))

def drawW (P : Program) (nt : Nat) (ops : Array Oper) (T : Tree AV) (M : RM) (K : Tree AV → RM → Prop) : Prop :=
  match regionInfo P nt ops with
  | none => False
  | some ri => match ri.rows.all (slotsOk ri) with
    | false => False
    | true => stageW P ops T ri 0 ri.es { vals := .leaf, M, bids := .leaf } (fun s => K (finT T s.vals ri.rows) s.M)

/-! ### it is sound -/
def GOn (g : Option (AV × Bool)) : Prop := match g with | none => True | some (x, want) => x = Bo want
def GOff (g : Option (AV × Bool)) : Prop := match g with | none => False | some (x, want) => x = .undef ∨ ∃ b, x = Bo b ∧ b ≠ want

theorem guardS_cases {α : Type} {g : Option (Option (AV × Bool))} {f skip : α → Prop} {k : α} (h : guardS g f skip k) : ∃ g', g = some g' ∧ ((GOn g' ∧ f k) ∨ (GOff g' ∧ skip k)) := by
  unfold guardS at h
  split at h <;> first | (cases h; done) | skip
  · exact ⟨none, rfl, .inl ⟨trivial, h⟩⟩
  · rename_i x want
    refine ⟨_, rfl, ?_⟩
    unfold guardW at h
    split at h <;> first | (cases h; done) | skip
    · split at h
      · rename_i e; subst e; exact .inl ⟨rfl, h⟩
      · rename_i b e; exact .inr ⟨.inr ⟨b, rfl, e⟩, h⟩
    · exact .inr ⟨.inl rfl, h⟩

section
variable {P : Program} {nt : Nat} {ops : Array Oper} {ri : RI} {T0 : Tree AV}

/-- What is known of a row that was done. -/
def RowOk (P : Program) (ops : Array Oper) (T0 : Tree AV) (wr : Tree Nat) (s : RSM) (r : Row) : Prop :=
  ∃ g, guardOf ops wr s.vals r = some g ∧ ((GOn g ∧ ∃ v, s.vals.get r.i = some v ∧ match r.kd with
    | .pure => ∀ M, GivesR P r.o (envR T0 wr s.vals r.m) M v
    | .read => GivesR P r.o (envR T0 wr s.vals r.m) s.M v
    | .alloc => ∃ x mk b, MakesR P r.o (envR T0 wr s.vals r.m) x mk ∧ s.bids.get r.i = some (some b) ∧ s.M.heap b = some x ∧ mk b = v
    | .eff => False) ∨ (GOff g ∧ s.vals.get r.i = some .undef))

theorem GivesR.sub {o : Oper} {e : Operand → AV} {M M' : RM} {v : AV} (h : GivesR P o e M v) (hs : M.Sub M') : GivesR P o e M' v :=
  fun ρ w c M2 h2 hw he => h ρ w c M2 (hs.trans h2) hw he

/-- The environment looks at what stands ahead alone. -/
theorem envR_same {vals vals' : Tree AV} {wr : Tree Nat} {m : Nat} (h : ∀ j, Nat.testBit m j = true → vals'.get j = vals.get j) : envR T0 wr vals' m = envR T0 wr vals m := by
  funext x
  cases x with
  | tmp t =>
    simp only [envR]
    cases hw : wr.get t with
    | none => rfl
    | some j =>
      simp only
      cases hb : Nat.testBit m j with
      | false => rfl
      | true => simp only [h j hb]
  | const v => rfl
  | global g => rfl
  | func f => rfl

theorem guardOf_same {vals vals' : Tree AV} {wr : Tree Nat} {r : Row} (h : ∀ j, Nat.testBit r.m j = true → vals'.get j = vals.get j) : guardOf ops wr vals' r = guardOf ops wr vals r := by
  unfold guardOf
  split
  · rfl
  · rename_i j want hg
    split
    · rfl
    · split
      · rename_i hb _
        simp only [h j hb]
      · rfl

/-- A row stays known, when nothing that it looks at changes. -/
theorem RowOk.keep {wr : Tree Nat} {s s' : RSM} {r : Row} (h : RowOk P ops T0 wr s r) (hv : ∀ j, Nat.testBit r.m j = true ∨ j = r.i → s'.vals.get j = s.vals.get j) (hb : s'.bids.get r.i = s.bids.get r.i) (hs : s.M.Sub s'.M) : RowOk P ops T0 wr s' r := by
  obtain ⟨g, hg, h⟩ := h
  have hi := hv r.i (.inr rfl)
  have he : envR T0 wr s'.vals r.m = envR T0 wr s.vals r.m := envR_same fun j hj => hv j (.inl hj)
  refine ⟨g, by rw [← hg]; exact guardOf_same fun j hj => hv j (.inl hj), ?_⟩
  rcases h with ⟨hon, v, hvi, hk⟩ | ⟨hoff, hvi⟩
  · refine .inl ⟨hon, v, by rw [hi]; exact hvi, ?_⟩
    rw [he]
    cases hkd : r.kd with
    | pure => rw [hkd] at hk; exact hk
    | read => rw [hkd] at hk; exact hk.sub hs
    | alloc =>
      rw [hkd] at hk
      obtain ⟨x, mk, b, h1, h2, h3, h4⟩ := hk
      exact ⟨x, mk, b, h1, by rw [hb]; exact h2, hs.2 _ _ h3, h4⟩
    | eff => rw [hkd] at hk; exact hk
  · exact .inr ⟨hoff, by rw [hi]; exact hvi⟩

/-- Nothing lies behind the next number. -/
def Fr (M : RM) : Prop := ∀ b, M.next ≤ b → M.heap b = none
theorem Fr.push {M : RM} (h : Fr M) (x : RB) : Fr (M.push x) := by
  intro b hb
  simp only [RM.push] at hb ⊢
  rw [if_neg (by omega)]
  exact h b (by omega)
theorem Fr.sub {M : RM} (h : Fr M) (x : RB) : M.Sub (M.push x) := by
  refine ⟨rfl, fun b y hy => ?_⟩
  simp only [RM.push]
  split
  · rename_i e; subst e; rw [h _ (Nat.le_refl _)] at hy; cases hy
  · exact hy
theorem MRel.fr {ρ : Ren} {M : RM} {w : World} (h : MRel P ρ M w) : Fr M := by
  intro b hb
  have hlo := h.lo_le
  obtain ⟨A, hA⟩ := h
  cases hx : M.heap b with
  | none => rfl
  | some x =>
    rcases hA.blk b x hx with ⟨y, hy, _⟩ | ⟨c, _, hlt, _⟩
    · have := hA.rel.top b y hy
      rw [hA.next] at this; omega
    · omega

theorem makesR_phantom {ρ : Ren} {M : RM} {w : World} {o : Oper} {e : Operand → AV} {x : RB} {mk : Nat → AV} (h : MRel P ρ M w) (hm : MakesR P o e x mk) : MRel P ρ (M.push x) w := by
  obtain ⟨y, _, hle⟩ := hm
  exact h.phantom x y hle

/-- What a pass over the rows of one level comes to. -/
structure Pass (P : Program) (ops : Array Oper) (T0 : Tree AV) (ri : RI) (lev : Nat) (i0 : Nat) (s s' : RSM) : Prop where
  keep : ∀ j, (∀ r, ri.rows[j]? = some r → i0 ≤ j → ¬ (r.lev = lev ∧ isEff r.kd = false)) → s'.vals.get j = s.vals.get j ∧ s'.bids.get j = s.bids.get j
  done : ∀ j r, ri.rows[j]? = some r → i0 ≤ j → r.lev = lev → isEff r.kd = false → RowOk P ops T0 ri.wr s' r
  sub : s.M.Sub s'.M
  fr : Fr s'.M
  rel : ∀ ρ w, MRel P ρ s.M w → MRel P ρ s'.M w
  next : s.M.next ≤ s'.M.next
  bids : ∀ j b, s'.bids.get j = some (some b) → s.bids.get j = some (some b) ∨ (s.M.next ≤ b ∧ b < s'.M.next ∧ i0 ≤ j ∧ ∃ r, ri.rows[j]? = some r)
  bidne : ∀ j1 j2 b, s'.bids.get j1 = some (some b) → s'.bids.get j2 = some (some b) → s.M.next ≤ b → j1 = j2

theorem nonW_spec (ht : Tab P nt ops ri) {lev : Nat} {K : RSM → Prop} : ∀ (rows : List Row) (i0 : Nat) (s : RSM), ri.rows.drop i0 = rows → Fr s.M → (∀ j b, s.bids.get j = some (some b) → b < s.M.next) → nonW P ops T0 ri.wr lev rows s K → ∃ s', K s' ∧ Pass P ops T0 ri lev i0 s s'
  | [], i0, s, hd, hf, hbd, h => by
    refine ⟨s, h, fun _ _ => ⟨rfl, rfl⟩, fun j r hr hj => ?_, RM.Sub.refl _, hf, fun _ _ h => h, Nat.le_refl _, fun j b hb => .inl hb, fun j1 j2 b h1 _ hb => absurd (hbd j1 b h1) (by omega)⟩
    have hlen : ri.rows.length ≤ i0 := List.drop_eq_nil_iff.1 hd
    have := (List.getElem?_eq_some_iff.1 hr).1
    omega
  | r :: rows, i0, s, hd, hf, hbd, h => by
    have hri : ri.rows[i0]? = some r := by
      have h0 : (ri.rows.drop i0)[0]? = some r := by rw [hd]; rfl
      rw [List.getElem?_drop] at h0; exact h0
    have hd' : ri.rows.drop (i0 + 1) = rows := by
      rw [← List.drop_drop (i := 1) (j := i0)] <;> rw [hd]; rfl
    obtain ⟨e1, e2, e3, e4, e5⟩ := ht.row hri
    simp only [nonW] at h
    split at h
    · rename_i hk
      obtain ⟨s', hK, hp⟩ := nonW_spec ht rows (i0 + 1) s hd' hf hbd h
      have hne : ¬ (r.lev = lev ∧ isEff r.kd = false) := by
        rintro ⟨a, b⟩
        rw [beq_tt a, b] at hk
        cases hk
      refine ⟨s', hK, fun j hj => hp.keep j fun r' hr' hj' => hj r' hr' (by omega), fun j r' hr' hj hl he => ?_, hp.sub, hp.fr, hp.rel, hp.next, fun j b hb => (hp.bids j b hb).imp id fun ⟨a, b, c, d⟩ => ⟨a, b, by omega, d⟩, hp.bidne⟩
      rcases Nat.lt_or_ge i0 j with hlt | hge
      · exact hp.done j r' hr' hlt hl he
      · have : j = i0 := by omega
        subst this
        rw [hri] at hr'; cases hr'
        exact absurd ⟨hl, he⟩ hne
    · rename_i hk
      simp only [Bool.and_eq_true, Bool.not_eq_true'] at hk
      have hlev := beq_t hk.1
      obtain ⟨g, hg, hcase⟩ := guardS_cases h
      -- whatever the row gives
      have fin : ∀ (v : AV) (M' : RM) (b : Option Nat), s.M.Sub M' → Fr M' → s.M.next ≤ M'.next → (∀ ρ w, MRel P ρ s.M w → MRel P ρ M' w) → (∀ b', b = some b' → s.M.next ≤ b' ∧ b' < M'.next) →
          (∀ s2 : RSM, (∀ j, Nat.testBit r.m j = true → s2.vals.get j = s.vals.get j) → s2.vals.get r.i = some v → s2.bids.get r.i = some b → M'.Sub s2.M → RowOk P ops T0 ri.wr s2 r) →
          nonW P ops T0 ri.wr lev rows { vals := s.vals.set r.i v, M := M', bids := s.bids.set r.i b } K → ∃ s', K s' ∧ Pass P ops T0 ri lev i0 s s' := by
        intro v M' b hsub hfr hnx hrel hb hok h
        obtain ⟨s', hK, hp⟩ := nonW_spec ht rows (i0 + 1) _ hd' hfr (fun j b' hj => by
          rw [Tree.get_set] at hj
          split at hj
          · cases hj; exact (hb b' rfl).2
          · exact Nat.lt_of_lt_of_le (hbd j b' hj) hnx) h
        have hkeepi := hp.keep r.i (fun r' hr' hj' => by omega)
        simp only [Tree.get_set, if_true] at hkeepi
        refine ⟨s', hK, fun j hj => ?_, fun j r' hr' hj hl he => ?_, hsub.trans hp.sub, hp.fr, fun ρ w h => hp.rel ρ w (hrel ρ w h), Nat.le_trans hnx hp.next, fun j b' hb' => ?_, fun j1 j2 b' h1 h2 hb' => ?_⟩
        · have hji : j ≠ r.i := fun e => hj r (by rw [e, e1]; exact hri) (by omega) ⟨hlev, hk.2⟩
          obtain ⟨k1, k2⟩ := hp.keep j fun r' hr' hj' => hj r' hr' (by omega)
          simp only [Tree.get_set, if_neg hji] at k1 k2
          exact ⟨k1, k2⟩
        · rcases Nat.lt_or_ge i0 j with hlt | hge
          · exact hp.done j r' hr' hlt hl he
          · have : j = i0 := by omega
            subst this
            rw [hri] at hr'; cases hr'
            refine hok s' (fun q hq => ?_) hkeepi.1 hkeepi.2 hp.sub
            have hqlt : q < j := by
              have hc : Closed ops.toList (fun i => i < j) := fun i o ho hi e he' hb' => by have := ht.edges i o ho e he' hb'; omega
              exact ht.ahead hc hri (fun e he' hb' => ht.edges j r.o e2 e he' hb') hq
            have hqi : q ≠ r.i := by omega
            have := (hp.keep q fun r' hr' hj' => by omega).1
            rw [this]
            simp only [Tree.get_set, if_neg hqi]
        · rcases hp.bids j b' hb' with k | ⟨k1, k2, k3, k4⟩
          · simp only [Tree.get_set] at k
            split at k
            · rename_i e
              cases k
              obtain ⟨q1, q2⟩ := hb b' rfl
              exact .inr ⟨q1, Nat.lt_of_lt_of_le q2 hp.next, by omega, r, by rw [e, e1]; exact hri⟩
            · exact .inl k
          · simp only at k1
            exact .inr ⟨by omega, k2, by omega, k4⟩
        · rcases Nat.lt_or_ge b' M'.next with hlt | hge
          · have q : ∀ j, s'.bids.get j = some (some b') → j = r.i := by
              intro j hj
              rcases hp.bids j b' hj with k | ⟨k1, _⟩
              · simp only [Tree.get_set] at k
                split at k
                · assumption
                · have := hbd j b' k; omega
              · simp only at k1; omega
            rw [q j1 h1, q j2 h2]
          · exact hp.bidne j1 j2 b' h1 h2 hge
      rcases hcase with ⟨hon, hv⟩ | ⟨hoff, hv⟩
      · unfold valR at hv
        have val : (r.kd = .pure ∨ r.kd = .read) → niceV P r.o (envR T0 ri.wr s.vals r.m) s.M (fun v => nonW P ops T0 ri.wr lev rows { vals := s.vals.set r.i v, M := s.M, bids := s.bids.set r.i none } K) → ∃ s', K s' ∧ Pass P ops T0 ri lev i0 s s' := by
          intro hkd hv
          obtain ⟨v, hgv, hk2⟩ := niceV_sound hv
          refine fin v s.M none (RM.Sub.refl _) hf (Nat.le_refl _) (fun _ _ h => h) (fun b' h => by cases h) (fun s2 q1 q2 q3 q4 => ?_) hk2
          refine ⟨g, by rw [← hg]; exact guardOf_same q1, .inl ⟨hon, v, q2, ?_⟩⟩
          rw [envR_same q1]
          rcases hkd with hkd | hkd
          · rw [hkd]
            rcases hgv with hgv | ⟨hrd, _⟩
            · exact hgv
            · rw [← e5, hkd] at hrd; cases hrd
          · rw [hkd]
            rcases hgv with hgv | ⟨_, hgv⟩
            · exact hgv _
            · exact hgv.sub q4
        split at hv
        · exact val (.inl ‹_›) hv
        · exact val (.inr ‹_›) hv
        · rename_i hkd
          obtain ⟨x, mk, hm, hk2⟩ := niceN_sound hv
          refine fin (mk s.M.next) (s.M.push x) (some s.M.next) (hf.sub x) (hf.push x) (by simp [RM.push]) (fun ρ w h => makesR_phantom h hm) (fun b' h => by cases h; simp [RM.push]) (fun s2 q1 q2 q3 q4 => ?_) hk2
          refine ⟨g, by rw [← hg]; exact guardOf_same q1, .inl ⟨hon, _, q2, ?_⟩⟩
          rw [envR_same q1, hkd]
          exact ⟨x, mk, s.M.next, hm, q3, q4.2 _ _ (by simp [RM.push]), rfl⟩
        · cases hv
      · refine fin .undef s.M none (RM.Sub.refl _) hf (Nat.le_refl _) (fun _ _ h => h) (fun b' h => by cases h) (fun s2 q1 q2 q3 q4 => ?_) hv
        exact ⟨g, by rw [← hg]; exact guardOf_same q1, .inr ⟨hoff, q2⟩⟩
end
end Go.Ab
/- A region that draws its order, over data that is not known: it is sound. By an AI agent. -/
set_option linter.unusedVariables false
set_option linter.unusedSimpArgs false
namespace Go.Ab
open Go Go.RowKit

section
variable {P : Program} {nt : Nat} {ops : Array Oper} {ri : RI} {T0 : Tree AV}

theorem reRow_spec {wr : Tree Nat} {r : Row} {s s0 : RSM} {K : Prop} (h : reRow P ops T0 wr r s K) (hold : RowOk P ops T0 wr s0 r) (hv : ∀ j, Nat.testBit r.m j = true ∨ j = r.i → s.vals.get j = s0.vals.get j) (hb : s.bids.get r.i = s0.bids.get r.i) :
    K ∧ RowOk P ops T0 wr s r := by
  obtain ⟨g, hg, hold⟩ := hold
  have hi := hv r.i (.inr rfl)
  have he : envR T0 wr s.vals r.m = envR T0 wr s0.vals r.m := envR_same fun j hj => hv j (.inl hj)
  have hg' : guardOf ops wr s.vals r = some g := by rw [← hg]; exact guardOf_same fun j hj => hv j (.inl hj)
  have offon : GOff g → GOn g → False := by
    intro h1 h2
    unfold GOff at h1
    unfold GOn at h2
    split at h1
    · exact h1
    · simp only at h2
      rcases h1 with h1 | ⟨b, h1, h3⟩
      · rw [h2] at h1; cases h1
      · rw [h2] at h1; cases h1; exact h3 rfl
  have hoffc : ∀ {K'}, K' → GOff g ∧ s0.vals.get r.i = some .undef → K' ∧ RowOk P ops T0 wr s r := fun k h => ⟨k, g, hg', .inr ⟨h.1, by rw [hi]; exact h.2⟩⟩
  unfold reRow at h
  cases hkd : r.kd with
  | pure =>
    rw [hkd] at h
    refine ⟨h, g, hg', ?_⟩
    rcases hold with ⟨hon, v, hvi, hk⟩ | ⟨hoff, hvi⟩
    · refine .inl ⟨hon, v, by rw [hi]; exact hvi, ?_⟩
      rw [hkd] at hk ⊢
      rw [he]; exact hk
    · exact .inr ⟨hoff, by rw [hi]; exact hvi⟩
  | eff =>
    rcases hold with ⟨hon, v, hvi, hk⟩ | ho
    · rw [hkd] at hk; exact hk.elim
    · rw [hkd] at h; exact hoffc h ho
  | read =>
    rw [hkd] at h
    obtain ⟨g2, hg2, hcase⟩ := guardS_cases h
    rw [hg'] at hg2; cases hg2
    rcases hold with ⟨hon, v, hvi, hk⟩ | ho
    · rcases hcase with ⟨_, hn⟩ | ⟨hoff, _⟩
      · obtain ⟨v', hgv, hv', hK⟩ := niceV_sound hn
        have hgv : GivesR P r.o (envR T0 wr s.vals r.m) s.M v' := by rcases hgv with hgv | ⟨_, hgv⟩ <;> first | exact hgv _ | exact hgv
        rw [hi, hvi] at hv'
        simp only [Option.getD_some] at hv'
        subst hv'
        refine ⟨hK, g, hg', .inl ⟨hon, v', by rw [hi]; exact hvi, ?_⟩⟩
        rw [hkd]; exact hgv
      · exact (offon hoff hon).elim
    · rcases hcase with ⟨hon, _⟩ | ⟨_, hK⟩
      · exact (offon ho.1 hon).elim
      · exact hoffc hK ho
  | alloc =>
    rw [hkd] at h
    obtain ⟨g2, hg2, hcase⟩ := guardS_cases h
    rw [hg'] at hg2; cases hg2
    rcases hold with ⟨hon, v, hvi, hk⟩ | ho
    · rcases hcase with ⟨_, hn⟩ | ⟨hoff, _⟩
      · obtain ⟨x, mk, hm, hx, hK⟩ := niceN_sound hn
        rw [hkd] at hk
        obtain ⟨x0, mk0, b, _, h2, _, _⟩ := hk
        rw [hb, h2] at hx
        simp only [Option.getD_some] at hx
        rw [hi, hvi] at hx
        simp only [Option.getD_some] at hx
        refine ⟨hK, g, hg', .inl ⟨hon, v, by rw [hi]; exact hvi, ?_⟩⟩
        rw [hkd]
        exact ⟨x, mk, b, hm, by rw [hb]; exact h2, hx.1, hx.2⟩
      · exact (offon hoff hon).elim
    · rcases hcase with ⟨hon, _⟩ | ⟨_, hK⟩
      · exact (offon ho.1 hon).elim
      · exact hoffc hK ho

theorem reW_spec {lev : Nat} {s s0 : RSM} {K : Prop} : ∀ (rows : List Row), reW P ops T0 ri lev rows s K →
    (∀ r ∈ rows, isEff r.kd = false → r.lev ≤ lev → aliveAt ri.ms ri.es (lev + 1) r = true → RowOk P ops T0 ri.wr s0 r ∧ (∀ j, Nat.testBit r.m j = true ∨ j = r.i → s.vals.get j = s0.vals.get j) ∧ s.bids.get r.i = s0.bids.get r.i) →
    K ∧ ∀ r ∈ rows, isEff r.kd = false → r.lev ≤ lev → aliveAt ri.ms ri.es (lev + 1) r = true → RowOk P ops T0 ri.wr s r
  | [], h, _ => ⟨h, fun r hr => by cases hr⟩
  | r :: rows, h, ho => by
    simp only [reW] at h
    split at h
    · rename_i hc
      obtain ⟨h1, h2⟩ := reW_spec rows h fun r' hr' => ho r' (.tail _ hr')
      refine ⟨h1, fun r' hr' e1 e2 e3 => ?_⟩
      rcases List.mem_cons.1 hr' with e | hr'
      · subst e
        rw [ble_iff.2 e2, e1, e3] at hc
        cases hc
      · exact h2 r' hr' e1 e2 e3
    · rename_i hc
      simp only [Bool.and_eq_true, Bool.not_eq_true'] at hc
      obtain ⟨⟨c1, c2⟩, c3⟩ := hc
      obtain ⟨o1, o2, o3⟩ := ho r (.head _) c2 (ble_t c1) c3
      obtain ⟨h1, h2⟩ := reRow_spec h o1 o2 o3
      obtain ⟨h3, h4⟩ := reW_spec rows h1 fun r' hr' => ho r' (.tail _ hr')
      refine ⟨h3, fun r' hr' e1 e2 e3 => ?_⟩
      rcases List.mem_cons.1 hr' with e | hr'
      · subst e; exact h2
      · exact h4 r' hr' e1 e2 e3

theorem RLe_blk {ρ : Ren} {i : Info} {x : RB} {y y' : Blk} {ob : Obj} (h : RLe x y) (h' : RLe x y') (hb : BlkRel P ρ i y ob) : BlkRel P ρ i y' ob := by
  cases x with
  | row l opn elem fz =>
    cases y <;> first | exact h.elim | skip
    cases y' <;> first | exact h'.elim | skip
    obtain ⟨rfl, rfl, rfl, rfl, h5⟩ := h
    obtain ⟨h1, rfl, rfl, rfl, h5'⟩ := h'
    subst h1
    obtain ⟨c, fr, rfl, hr⟩ := hb
    refine ⟨c, fr, rfl, hr.size, fun k u hk => ?_, hr.free, hr.mark, hr.opn, hr.sh0⟩
    have hlt := cellAt_lt hk
    have hv : l[k]? = some l[k] := by simp [hlt]
    have e1 := h5' k _ hv
    rw [hk] at e1; cases e1
    exact hr.val k _ (h5 k _ hv)
  | ro c => cases y <;> exact h.elim
  | map es c =>
    cases y <;> first | exact h.elim | skip
    cases y' <;> first | exact h'.elim | skip
    obtain ⟨rfl, rfl⟩ := h
    obtain ⟨rfl, rfl⟩ := h'
    exact hb
  | iter m a b c =>
    cases y <;> first | exact h.elim | skip
    cases y' <;> first | exact h'.elim | skip
    obtain ⟨rfl, rfl, rfl, rfl⟩ := h
    obtain ⟨rfl, rfl, rfl, rfl⟩ := h'
    exact hb
  | siter s p =>
    cases y <;> first | exact h.elim | skip
    cases y' <;> first | exact h'.elim | skip
    obtain ⟨rfl, rfl⟩ := h
    obtain ⟨rfl, rfl⟩ := h'
    exact hb

theorem push_relR {ρ : Ren} {M : RM} {w : World} {b : Nat} {x : RB} {y : Blk} {ob : Obj} {i : Info} (hw : MRel P ρ M w) (hi : i.cb = w.heap.size) (hb : ρ b = none) (hlt : b < M.next) (hx : M.heap b = some x) (hle : RLe x y)
    (hrel : BlkRel P ρ i y ob) : MRel P (ρ.add b i) M (w.alloc ob) ∧ Step M.lo b ρ w (ρ.add b i) (w.alloc ob) := by
  obtain ⟨A, hA⟩ := hw
  rcases hA.blk b x hx with ⟨y', hy', hle'⟩ | ⟨c, rfl, _⟩
  · obtain ⟨h1, h2⟩ := push_rel hA.rel hA.size hi hb (by rw [hA.next]; exact hlt) hy' ((RLe_blk hle hle' hrel).mono (Ren.le_add hb))
    have := hA.size
    refine ⟨⟨A, hA.next, h1, by simp; omega, fun c z hz => ?_, fun c hc => ?_⟩, h2⟩
    · rcases hA.blk c z hz with k | ⟨d, rfl, hlt, elem, fr, hh⟩
      · exact .inl k
      · exact .inr ⟨d, rfl, hlt, elem, fr, by rw [heap_alloc_old w ob c (by omega)]; exact hh⟩
    · unfold Ren.add
      rw [if_neg (fun e => by subst e; rw [hA.old _ hc] at hb; cases hb)]
      exact hA.old c hc
  · cases y <;> exact hle.elim

/-- How it stands while a region goes on. -/
structure InvR (P : Program) (nt : Nat) (ops : Array Oper) (ri : RI) (T0 : Tree AV) (M0 : RM) (ρ0 : Ren) (w0 : World) (k : Nat) (done rest : List Nat) (s : RSM) (S : Nat → Prop) (ρ : Ren) (a : Act) (w : World) : Prop where
  es : ri.es = done ++ rest
  len : done.length = k
  closed : Closed ops.toList S
  dn : ∀ x ∈ done, S x
  rs : ∀ x ∈ rest, ¬ S x
  lev : ∀ (j : Nat) (r : Row), ri.rows[j]? = some r → isEff r.kd = false → S j → r.lev ≤ k
  size : a.tmps.size = nt
  defers : a.defers = []
  slot : SlotRel ρ T0 ri.wr s.vals S a
  wrel : MRel P ρ s.M w
  step : Step M0.lo M0.next ρ0 w0 ρ w
  base : s.M.base = M0.base
  next : M0.next ≤ s.M.next
  bid : ∀ j b, s.bids.get j = some (some b) → M0.next ≤ b ∧ b < s.M.next ∧ (¬ S j → ρ b = none) ∧ j < ops.size
  bidne : ∀ j1 j2 b, s.bids.get j1 = some (some b) → s.bids.get j2 = some (some b) → j1 = j2

variable {M0 : RM} {ρ0 : Ren} {w0 : World} {k : Nat} {done rest : List Nat} {s : RSM} {S : Nat → Prop} {ρ : Ren} {a : Act} {w : World}

theorem envR_relR (ht : Tab P nt ops ri) (hI : InvR P nt ops ri T0 M0 ρ0 w0 k done rest s S ρ a w) {i : Nat} {r : Row} (hr : ri.rows[i]? = some r) (hns : ¬ S i) (hd : ∀ e ∈ r.o.after.toList, Region.binds .any e = true → S e.on)
    (hok : slotsOk ri r = true) : ∀ x ∈ r.o.op.operands, VRel ρ (envR T0 ri.wr s.vals r.m x) (a.eval x) := by
  intro x hx
  have hx' : slotOk ri r x = true := by
    unfold slotsOk at hok
    exact List.all_eq_true.1 hok x (by simpa using hx)
  cases x with
  | tmp t =>
    obtain ⟨h1, h2⟩ := hI.slot t
    simp only [envR, Act.eval]
    simp only [slotOk] at hx'
    cases hw : ri.wr.get t with
    | none =>
      simp only
      exact h2 fun j hj => by rw [hw] at hj; cases hj
    | some j =>
      rw [hw] at hx'
      simp only
      cases hb : Nat.testBit r.m j with
      | true =>
        simp only
        exact h1 j hw (ht.ahead hI.closed hr hd hb)
      | false =>
        simp only
        refine h2 fun j' hj' => ?_
        rw [hw] at hj'; cases hj'
        simp only [hb, Bool.false_or, Bool.or_eq_true] at hx'
        obtain ⟨e1, _⟩ := ht.row hr
        rcases hx' with hx' | hx'
        · rw [beq_t hx', e1]; exact hns
        · intro hS
          rw [nth_getElem, e1] at hx'
          obtain ⟨o, ho, _⟩ := ht.wrs t j hw
          exact hns (ht.aheadIn hI.closed hS ho hx')
  | const v =>
    simp only [envR, evalT, Act.eval]
    cases hv : ofVal v with
    | none => exact .top _
    | some u => exact ofVal_rel hv
  | global g => exact .top _
  | func f => exact .fn _ _ _ _ _ rfl .nil .nil

theorem guard_relR (ht : Tab P nt ops ri) (hI : InvR P nt ops ri T0 M0 ρ0 w0 k done rest s S ρ a w) {i : Nat} {r : Row} (hr : ri.rows[i]? = some r) (hd : ∀ e ∈ r.o.after.toList, Region.binds .any e = true → S e.on) {g : Option (AV × Bool)}
    (hg : guardOf ops ri.wr s.vals r = some g) : (GOn g → Region.wanted r.o (yielded ops a.tmps) = true) ∧ (GOff g → Region.wanted r.o (yielded ops a.tmps) = false) := by
  unfold guardOf at hg
  unfold Region.wanted
  split at hg
  · rename_i hgu; simp only [hgu]; cases hg
    exact ⟨fun _ => trivial, fun h => h.elim⟩
  · rename_i j want hgu
    simp only [hgu]
    split at hg <;> first | (cases hg; done) | skip
    rename_i d hdst
    split at hg <;> first | (cases hg; done) | skip
    rename_i j' hb hwr
    split at hg <;> first | (cases hg; done) | skip
    rename_i he
    cases hg
    have he := beq_t he
    subst he
    have hv := (hI.slot d).1 j' hwr (ht.ahead hI.closed hr hd hb)
    have hyv : yielded ops a.tmps j' = match a.tmps[d]? with | some (.bool b) => some b | _ => none := by
      unfold yielded; rw [hdst]; rfl
    have hget : ∀ t : Bool, a.tmps.getD d undef = .bool t ↔ a.tmps[d]? = some (.bool t) := by
      intro t
      rw [Array.getD_eq_getD_getElem?]
      cases hx : a.tmps[d]? with
      | none => simp [undef]
      | some y => simp
    have off : (∀ b, a.tmps.getD d undef = .bool b → b ≠ want) → (yielded ops a.tmps j' == some want) = false := by
      intro hn
      rw [hyv]
      cases hx : a.tmps[d]? with
      | none => rfl
      | some y =>
        cases y <;> try rfl
        rename_i b
        have := hn b ((hget b).2 hx)
        simpa using this
    constructor
    · intro hon
      simp only [GOn] at hon
      rw [hon] at hv
      have hc := (sc_inv hv).1
      rw [hyv, (hget want).1 hc]; simp
    · intro hoff
      simp only [GOff] at hoff
      refine off fun b hb' => ?_
      rcases hoff with hu | ⟨b', hu, hne⟩
      · rw [hu] at hv
        obtain ⟨vs, hc, hrl⟩ := tup_inv hv
        rw [hc] at hb'; cases hb'
      · rw [hu] at hv
        rw [(sc_inv hv).1] at hb'; cases hb'; exact hne

/-- What is still owed behind a stage. -/
def ContR (P : Program) (ops : Array Oper) (T0 : Tree AV) (ri : RI) (k : Nat) (s : RSM) (K : RSM → Prop) : List Nat → Prop
  | [] => K s
  | x :: rest => ∃ r, nth ri.rows x = some r ∧ guardS (guardOf ops ri.wr s.vals r) (niceE P r.o (envR T0 ri.wr s.vals r.m) s.M) (fun k => k .undef s.M)
        (fun v M' => reW P ops T0 ri k ri.rows { vals := s.vals.set x v, M := M', bids := s.bids } (stageW P ops T0 ri (k + 1) rest { vals := s.vals.set x v, M := M', bids := s.bids } K))

theorem stageW_step (ht : Tab P nt ops ri) {K : RSM → Prop} {es : List Nat} (hf : Fr s.M) (hbd : ∀ j b, s.bids.get j = some (some b) → b < s.M.next) (h : stageW P ops T0 ri k es s K) :
    ∃ s1, ContR P ops T0 ri k s1 K es ∧ Pass P ops T0 ri k 0 s s1 := by
  cases es with
  | nil =>
    rw [stageW] at h
    exact nonW_spec ht ri.rows 0 s rfl hf hbd h
  | cons x rest =>
    rw [stageW] at h
    obtain ⟨s1, hk, hp⟩ := nonW_spec ht ri.rows 0 s rfl hf hbd h
    refine ⟨s1, ?_, hp⟩
    split at hk
    · cases hk
    · rename_i r hr
      exact ⟨r, hr, hk⟩

/-- The rows that may still come are known. -/
def Chk (P : Program) (ops : Array Oper) (T0 : Tree AV) (ri : RI) (k : Nat) (s : RSM) : Prop := ∀ r ∈ ri.rows, isEff r.kd = false → aliveAt ri.ms ri.es k r = true → RowOk P ops T0 ri.wr s r

theorem maskOf_has {acc : List Nat} : ∀ (es : List Edge) (e : Edge), e ∈ es → Region.binds .any e = true → Nat.testBit (maskOf acc es) e.on = true ∧ ∀ j, Nat.testBit ((nth acc e.on).getD 0) j = true → Nat.testBit (maskOf acc es) j = true
  | [], e, h, _ => by cases h
  | x :: es, e, h, hb => by
    simp only [maskOf]
    rcases List.mem_cons.1 h with rfl | h
    · rw [hb]
      simp only
      refine ⟨?_, fun j hj => ?_⟩
      · rw [Nat.testBit_or, Nat.testBit_or, Nat.testBit_two_pow]; simp
      · rw [Nat.testBit_or, Nat.testBit_or, hj]; simp
    · obtain ⟨h1, h2⟩ := maskOf_has (acc := acc) es e h hb
      split
      · refine ⟨?_, fun j hj => ?_⟩
        · rw [Nat.testBit_or, h1]; simp
        · rw [Nat.testBit_or, h2 j hj]; simp
      · exact ⟨h1, h2⟩

theorem ahead_pre (ht : Tab P nt ops ri) {q : Nat} {r : Row} (hq : ri.rows[q]? = some r) : ∃ pre, (∀ i, i < q → nth pre i = ri.ms[i]?) ∧ r.m = maskOf pre r.o.after.toList := by
  obtain ⟨g1, g2, g3, g4, g5⟩ := ht.row hq
  obtain ⟨pre, h1, h2, h3⟩ := (masksGo_spec ops.toList []).2 q r.o g2
  simp only [List.length_nil, Nat.zero_add] at h1 h2 h3
  refine ⟨pre, fun i hi => by rw [nth_getElem, h2 i hi, ← ht.ms], ?_⟩
  rw [← ht.ms, g3] at h3
  exact Option.some.inj h3

theorem ahead_self (ht : Tab P nt ops ri) {q : Nat} {r : Row} (hq : ri.rows[q]? = some r) {e : Edge} (he : e ∈ r.o.after.toList) (hb : Region.binds .any e = true) : Nat.testBit r.m e.on = true := by
  obtain ⟨pre, _, h2⟩ := ahead_pre ht hq
  rw [h2]; exact (maskOf_has _ e he hb).1

theorem ahead_trans (ht : Tab P nt ops ri) : ∀ (q : Nat) {i : Nat} {r : Row} {o : Oper}, ri.rows[q]? = some r → Nat.testBit r.m i = true → ops.toList[i]? = some o → ∀ {e : Edge}, e ∈ o.after.toList → Region.binds .any e = true → Nat.testBit r.m e.on = true := by
  intro q
  induction q using Nat.strongRecOn with
  | _ q ih =>
    intro i r o hq hi ho e he hb
    obtain ⟨g1, g2, g3, g4, g5⟩ := ht.row hq
    obtain ⟨pre, h1, h2⟩ := ahead_pre ht hq
    have hi' := hi
    rw [h2] at hi'
    obtain ⟨e0, he0, hb0, hcase⟩ := maskOf_bit _ hi'
    have hlt := ht.edges q r.o g2 e0 he0 hb0
    obtain ⟨r0, hr0, _⟩ := ht.ex (j := e0.on) (o := ops.toList[e0.on]'(by have := (List.getElem?_eq_some_iff.1 g2).1; omega)) (by simp)
    obtain ⟨k1, k2, k3, k4, k5⟩ := ht.row hr0
    have hsub : ∀ j, Nat.testBit r0.m j = true → Nat.testBit r.m j = true := by
      intro j hj
      rw [h2]
      refine (maskOf_has _ e0 he0 hb0).2 j ?_
      rw [h1 e0.on hlt, k3]; exact hj
    rcases hcase with rfl | ⟨m, hm, hmi⟩
    · rw [k2] at ho; cases ho
      exact hsub _ (ahead_self ht hr0 he hb)
    · rw [← nth_getElem, h1 e0.on hlt, k3] at hm
      cases hm
      exact hsub _ (ih e0.on hlt hr0 hmi ho he hb)

theorem lev_mono {m m' : Nat} (h : ∀ x, Nat.testBit m x = true → Nat.testBit m' x = true) : ∀ (es : List Nat) (i0 b b' : Nat), b ≤ b' → b' ≤ i0 → levGo m es i0 b ≤ levGo m' es i0 b'
  | [], i0, b, b', hb, _ => by simpa [levGo] using hb
  | x :: es, i0, b, b', hb, hi => by
    simp only [levGo]
    cases hm : Nat.testBit m x with
    | true =>
      rw [h x hm]
      exact lev_mono h es (i0 + 1) _ _ (Nat.le_refl _) (Nat.le_refl _)
    | false =>
      cases hm' : Nat.testBit m' x with
      | true => exact lev_mono h es (i0 + 1) b (i0 + 1) (by omega) (Nat.le_refl _)
      | false => exact lev_mono h es (i0 + 1) b b' hb (by omega)

theorem inv_nonR (ht : Tab P nt ops ri) {listed : Array Bool} (hsz : listed.size = ops.size) (hI : InvR P nt ops ri T0 M0 ρ0 w0 k done rest s (Lst listed) ρ a w) {i : Nat} {r : Row} (hi : i < ops.size) (hr : ri.rows[i]? = some r)
    (hd : ∀ e ∈ r.o.after.toList, Region.binds .any e = true → Lst listed e.on) (hk : isEff r.kd = false) (hlev : r.lev ≤ k) {v : AV} {v' : Value} {ρ' : Ren} {w' : World} (hvi : s.vals.get i = some v) (hv : VRel ρ' v v') (hle : ρ.le ρ')
    (hw : MRel P ρ' s.M w') (hst : Step M0.lo M0.next ρ w ρ' w') (hbid : ∀ j b, s.bids.get j = some (some b) → ¬ Lst (listed.setIfInBounds i true) j → ρ' b = none) :
    InvR P nt ops ri T0 M0 ρ0 w0 k done rest s (Lst (listed.setIfInBounds i true)) ρ' (a.put r.o.dst v') w' := by
  have hS : ∀ j, Lst (listed.setIfInBounds i true) j ↔ Lst listed j ∨ j = i := lst_set (by omega)
  obtain ⟨e1, e2, _⟩ := ht.row hr
  refine ⟨hI.es, hI.len, ?_, fun x hx => (hS x).2 (.inl (hI.dn x hx)), ?_, ?_, ?_, ?_, ?_, hw, hI.step.trans hst (Nat.le_refl _), hI.base, hI.next, fun j b hb => ⟨(hI.bid j b hb).1, (hI.bid j b hb).2.1, hbid j b hb, (hI.bid j b hb).2.2.2⟩, hI.bidne⟩
  · intro j o ho hj e he hb
    rcases (hS j).1 hj with hj | rfl
    · exact (hS _).2 (.inl (hI.closed j o ho hj e he hb))
    · rw [e2] at ho; cases ho
      exact (hS _).2 (.inl (hd e he hb))
  · intro x hx hl
    rcases (hS x).1 hl with hl | rfl
    · exact hI.rs x hx hl
    · have : x ∈ ri.es := by rw [hI.es]; exact List.mem_append_right _ hx
      rw [ht.eff hr, hk] at this
      cases this
  · intro j r' hr' hk' hj
    rcases (hS j).1 hj with hj | rfl
    · exact hI.lev j r' hr' hk' hj
    · rw [hr] at hr'; cases hr'; exact hlev
  · cases hdst : r.o.dst <;> simp [Act.put, hI.size]
  · cases hdst : r.o.dst <;> simp [Act.put, hI.defers]
  · exact slot_put ht (fun t => ⟨fun j h1 h2 => ((hI.slot t).1 j h1 h2).mono hle, fun h => ((hI.slot t).2 h).mono hle⟩) hI.size hr hv hvi hS

/-- An operation with an effect is done: the next stage. -/
theorem inv_effR (ht : Tab P nt ops ri) {listed : Array Bool} (hsz : listed.size = ops.size) {i : Nat} {rest' : List Nat} (hI : InvR P nt ops ri T0 M0 ρ0 w0 k done (i :: rest') s (Lst listed) ρ a w) (hchk : Chk P ops T0 ri k s) {r : Row} (hi : i < ops.size) (hr : ri.rows[i]? = some r)
    (hd : ∀ e ∈ r.o.after.toList, Region.binds .any e = true → Lst listed e.on) (hnd : i ∉ rest') {v : AV} {v' : Value} {ρ' : Ren} {w' : World} {M' : RM} (hv : VRel ρ' v v') {K : RSM → Prop}
    (haft : After P s.M ρ w M' ρ' w') (hre : reW P ops T0 ri k ri.rows { vals := s.vals.set i v, M := M', bids := s.bids } (stageW P ops T0 ri (k + 1) rest' { vals := s.vals.set i v, M := M', bids := s.bids } K)) :
    ∃ s3, InvR P nt ops ri T0 M0 ρ0 w0 (k + 1) (done ++ [i]) rest' s3 (Lst (listed.setIfInBounds i true)) ρ' (a.put r.o.dst v') w' ∧ Chk P ops T0 ri (k + 1) s3 ∧ ContR P ops T0 ri (k + 1) s3 K rest' := by
  have hS : ∀ j, Lst (listed.setIfInBounds i true) j ↔ Lst listed j ∨ j = i := lst_set (by omega)
  obtain ⟨e1, e2, e3, e4, e5⟩ := ht.row hr
  have hmem : i ∈ ri.es := by rw [hI.es]; simp
  have hke := (ht.eff hr).1 hmem
  have hle := haft.le hI.wrel
  -- an alive row that was done does not look at the effect
  have hesk : ri.es[k]? = some i := by
    rw [hI.es, List.getElem?_append_right (by rw [hI.len]; omega), hI.len]; simp
  have notin : ∀ r' ∈ ri.rows, r'.lev ≤ k → Nat.testBit r'.m i = true → False := by
    intro r' hr' hl hb
    obtain ⟨q, hq⟩ := List.mem_iff_getElem?.1 hr'
    obtain ⟨g1, g2, g3, g4, g5⟩ := ht.row hq
    have key : ∀ (es : List Nat) (i0 best k : Nat), es[k]? = some i → i0 + k + 1 ≤ levGo r'.m es i0 best := by
      intro es
      induction es with
      | nil => intro i0 best k h; simp at h
      | cons x es ih =>
        intro i0 best k h
        simp only [levGo]
        cases k with
        | zero =>
          simp at h; subst h
          rw [hb]
          simp only
          have mono : ∀ (es : List Nat) (j best : Nat), best ≤ j → best ≤ levGo r'.m es j best := by
            intro es
            induction es with
            | nil => intro j best _; exact Nat.le_refl _
            | cons y es ih2 =>
              intro j best hbj
              simp only [levGo]
              split
              · exact Nat.le_trans (by omega) (ih2 (j + 1) (j + 1) (Nat.le_refl _))
              · exact ih2 (j + 1) best (by omega)
          exact mono es (i0 + 1) (i0 + 1) (Nat.le_refl _)
        | succ k =>
          split
          · have := ih (i0 + 1) (i0 + 1) k (by simpa using h); omega
          · have := ih (i0 + 1) best k (by simpa using h); omega
    have := key ri.es 0 0 k hesk
    rw [← g4] at this
    omega
  obtain ⟨hstage, hrows⟩ := reW_spec (s0 := s) ri.rows hre fun r' hr' f1 f2 f3 => by
    refine ⟨hchk r' hr' f1 ?_, fun j hj => ?_, rfl⟩
    · unfold aliveAt at f3 ⊢
      rw [Bool.and_eq_true] at f3 ⊢
      refine ⟨ble_iff.2 f2, ?_⟩
      have f4 := f3.2
      rw [List.all_eq_true] at f4 ⊢
      intro x hx
      refine f4 x ?_
      have := List.take_subset_take_left ri.es (Nat.le_succ k)
      exact this hx
    · simp only [Tree.get_set]
      rw [if_neg]
      rintro rfl
      rcases hj with hj | hj
      · exact notin r' hr' f2 hj
      · obtain ⟨q, hq⟩ := List.mem_iff_getElem?.1 hr'
        obtain ⟨g1, _⟩ := ht.row hq
        have : q = j := by omega
        subst this
        rw [hr] at hq; cases hq
        rw [f1] at hke; cases hke
  obtain ⟨s3, hcont, hp⟩ := stageW_step (s := { vals := s.vals.set i v, M := M', bids := s.bids }) ht (haft.rel.fr) (fun j b hb => Nat.lt_of_lt_of_le (hI.bid j b hb).2.1 haft.next) hstage
  have hkeep : ∀ j, Lst listed j ∨ j = i → s3.vals.get j = (s.vals.set i v).get j := by
    intro j hj
    refine (hp.keep j fun r' hr' _ => ?_).1
    rintro ⟨hl, hk'⟩
    rcases hj with hj | rfl
    · have := hI.lev j r' hr' hk' hj; omega
    · rw [hr] at hr'; cases hr'; rw [hke] at hk'; cases hk'
  have hvi : s3.vals.get i = some v := by rw [hkeep i (.inr rfl), Tree.get_set, if_pos rfl]
  refine ⟨s3, ⟨by rw [hI.es]; simp, by simp [hI.len], ?_, ?_, ?_, ?_, ?_, ?_, ?_, hp.rel _ _ haft.rel, hI.step.trans (haft.step.of_base hI.base) hI.next, ?_, ?_, ?_, ?_⟩, ?_, hcont⟩
  · intro j o ho hj e he hb
    rcases (hS j).1 hj with hj | rfl
    · exact (hS _).2 (.inl (hI.closed j o ho hj e he hb))
    · rw [e2] at ho; cases ho
      exact (hS _).2 (.inl (hd e he hb))
  · intro x hx
    rcases List.mem_append.1 hx with hx | hx
    · exact (hS x).2 (.inl (hI.dn x hx))
    · simp at hx; subst hx; exact (hS x).2 (.inr rfl)
  · intro x hx hl
    rcases (hS x).1 hl with hl | rfl
    · exact hI.rs x (.tail _ hx) hl
    · exact hnd hx
  · intro j r' hr' hk' hj
    rcases (hS j).1 hj with hj | rfl
    · have := hI.lev j r' hr' hk' hj; omega
    · rw [hr] at hr'; cases hr'; rw [hke] at hk'; cases hk'
  · cases hdst : r.o.dst <;> simp [Act.put, hI.size]
  · cases hdst : r.o.dst <;> simp [Act.put, hI.defers]
  · refine slot_put ht (v := v) (S := Lst listed) (fun t => ⟨fun j h1 h2 => ?_, fun h => ((hI.slot t).2 h).mono hle⟩) hI.size hr hv hvi hS
    rw [hkeep j (.inl h2), Tree.get_set]
    split
    · rename_i e
      subst e
      exact absurd h2 (hI.rs j (.head _))
    · exact ((hI.slot t).1 j h1 h2).mono hle
  · rw [hp.sub.1, ← hI.base]; exact haft.base
  · exact Nat.le_trans hI.next (Nat.le_trans haft.next hp.next)
  · intro j b hb
    rcases hp.bids j b hb with h | ⟨h, h', _, r', hr'⟩
    · obtain ⟨b1, b2, b3, b4⟩ := hI.bid j b h
      refine ⟨b1, Nat.lt_of_lt_of_le b2 (Nat.le_trans haft.next hp.next), fun hj => ?_, b4⟩
      rw [haft.step.ext b b2]
      exact b3 fun hl => hj ((hS j).2 (.inl hl))
    · refine ⟨Nat.le_trans hI.next (Nat.le_trans haft.next h), h', fun _ => haft.rel.fresh h, ?_⟩
      obtain ⟨g1, g2, _⟩ := ht.row hr'
      have := (List.getElem?_eq_some_iff.1 g2).1
      rw [Array.length_toList] at this
      exact this
  · intro j1 j2 b h1 h2
    rcases Nat.lt_or_ge b M'.next with hlt | hge
    · have q : ∀ j, s3.bids.get j = some (some b) → s.bids.get j = some (some b) := by
        intro j hj
        rcases hp.bids j b hj with k | ⟨k1, _⟩
        · exact k
        · simp only at k1; omega
      exact hI.bidne j1 j2 b (q j1 h1) (q j2 h2)
    · exact hp.bidne j1 j2 b h1 h2 hge
  · intro r' hr' f1 f3
    obtain ⟨q, hq⟩ := List.mem_iff_getElem?.1 hr'
    obtain ⟨g1, g2, g3, g4, g5⟩ := ht.row hq
    have f3' := f3
    unfold aliveAt at f3'
    rw [Bool.and_eq_true] at f3'
    have hl := ble_t f3'.1
    by_cases he : r'.lev = k + 1
    · exact hp.done q r' hq (Nat.zero_le _) he f1
    · have hl' : r'.lev ≤ k := by omega
      refine (hrows r' hr' f1 hl' f3).keep (fun j hj => ?_) ?_ hp.sub
      · refine (hp.keep j fun r2 hr2 _ => ?_).1
        rintro ⟨h1, h2⟩
        rcases hj with hj | hj
        · -- what stands ahead has no higher level
          have hjm : r2.lev ≤ r'.lev := by
            obtain ⟨q1, q2, q3, q4, q5⟩ := ht.row hr2
            have sub : ∀ x, Nat.testBit r2.m x = true → Nat.testBit r'.m x = true := by
              intro x hx
              have hcl : Closed ops.toList (fun i => Nat.testBit r'.m i = true ∨ i = q) := by
                intro i o ho hi e he' hb'
                rcases hi with hi | rfl
                · exact .inl (ahead_trans ht _ hq hi ho he' hb')
                · rw [g2] at ho; cases ho
                  exact .inl (ahead_self ht hq he' hb')
              rcases ht.aheadIn hcl (.inl hj) q2 (by rw [q3]; exact hx) with h | h
              · exact h
              · subst h
                exfalso
                have hlt : j < x := by
                  have hc : Closed ops.toList (fun i => i < x) := fun i o ho hi e he' hb' => by have := ht.edges i o ho e he' hb'; omega
                  exact ht.ahead hc hq (fun e he' hb' => ht.edges x r'.o g2 e he' hb') hj
                have hlt2 : x < j := by
                  have hc : Closed ops.toList (fun i => i < j) := fun i o ho hi e he' hb' => by have := ht.edges i o ho e he' hb'; omega
                  exact ht.ahead hc hr2 (fun e he' hb' => ht.edges j r2.o q2 e he' hb') hx
                omega
            rw [q4, g4]
            exact lev_mono sub ri.es 0 0 0 (Nat.le_refl _) (Nat.le_refl _)
          omega
        · have : q = j := by omega
          subst this
          rw [hq] at hr2; cases hr2; omega
      · refine (hp.keep r'.i fun r2 hr2 _ => ?_).2
        rw [g1, hq] at hr2; cases hr2
        rintro ⟨h1, _⟩; omega

theorem draw_anyR (hP : POk P) (ht : Tab P nt ops ri) (hslots : ∀ r ∈ ri.rows, slotsOk ri r = true) {Q : Exit → Act → World → Prop} {K : RSM → Prop}
    (hQ : ∀ s ρ' a' w', K s → Step M0.lo M0.next ρ0 w0 ρ' w' → ARel ρ' nt (finT T0 s.vals ri.rows) a' → MRel P ρ' s.M w' → s.M.base = M0.base → M0.next ≤ s.M.next → Q .normal a' w') :
    ∀ (fuel : Nat) (listed : Array Bool) (k : Nat) (done rest : List Nat) (s : RSM) (ρ : Ren) (a : Act) (w : World), listed.size = ops.size → listed.toList.count false ≤ fuel →
      InvR P nt ops ri T0 M0 ρ0 w0 k done rest s (Lst listed) ρ a w → Chk P ops T0 ri k s → ContR P ops T0 ri k s K rest → wpAny P .any ops Q fuel listed a w := by
  have fin : ∀ (listed : Array Bool) (k : Nat) (done rest : List Nat) (s : RSM) (ρ : Ren) (a : Act) (w : World), listed.size = ops.size → (∀ i, i < ops.size → Lst listed i) →
      InvR P nt ops ri T0 M0 ρ0 w0 k done rest s (Lst listed) ρ a w → ContR P ops T0 ri k s K rest → Q .normal a w := by
    intro listed k done rest s ρ a w hsz hall hI hcont
    have hrest : rest = [] := by
      cases rest with
      | nil => rfl
      | cons x rest =>
        have hx : x ∈ ri.es := by rw [hI.es]; simp
        rw [ht.es, effsGo_mem] at hx
        obtain ⟨j, o, hj, rfl, _⟩ := hx
        have := (List.getElem?_eq_some_iff.1 hj).1
        exact absurd (hall (0 + j) (by simpa using this)) (hI.rs _ (.head _))
    subst hrest
    have hcont : K s := hcont
    refine hQ s ρ a w hcont hI.step ⟨hI.size, fun t => ?_, hI.defers⟩ hI.wrel hI.base hI.next
    obtain ⟨g1, g2⟩ := hI.slot t
    refine finT_rel t _ ri.rows T0 (fun r hr hd => ?_) ?_
    · obtain ⟨q, hq⟩ := List.mem_iff_getElem?.1 hr
      obtain ⟨e1, e2, _⟩ := ht.row hq
      have hql := (List.getElem?_eq_some_iff.1 e2).1
      have := g1 r.i (ht.dst q r hq t hd).1 (by rw [e1]; exact hall q (by simpa using hql))
      exact this
    · by_cases hex : ∃ j, ri.wr.get t = some j
      · obtain ⟨j, hj⟩ := hex
        obtain ⟨o, ho, hdo⟩ := ht.wrs t j hj
        obtain ⟨r, hr, rfl⟩ := ht.ex ho
        exact .inl ⟨r, List.mem_of_getElem? hr, hdo⟩
      · exact .inr (g2 fun j hj => absurd ⟨j, hj⟩ hex)
  intro fuel
  induction fuel with
  | zero =>
    intro listed k done rest s ρ a w hsz hcnt hI hchk hcont
    have hall : ∀ i, i < ops.size → Lst listed i := fun i hi => all_listed (by omega) (by omega)
    refine ⟨?_, fin listed k done rest s ρ a w hsz hall hI hcont⟩
    rw [List.eq_nil_iff_forall_not_mem]
    intro i hi
    obtain ⟨h1, h2, _⟩ := ready_mem hsz hi
    exact h2 (hall i h1)
  | succ fuel ih =>
    intro listed k done rest s ρ a w hsz hcnt hI hchk hcont
    refine ⟨fun hr => fin listed k done rest s ρ a w hsz (nothing_ready ht hsz hr) hI hcont, fun i hi => ?_⟩
    obtain ⟨hilt, hnl, o, ho, hd⟩ := ready_mem hsz hi
    obtain ⟨r, hr, rfl⟩ := ht.ex (j := i) (o := o) (by rw [Array.getElem?_toList]; exact ho)
    obtain ⟨e1, e2, e3, e4, e5⟩ := ht.row hr
    have hrm := List.mem_of_getElem? hr
    have he := envR_relR ht hI hr hnl hd (hslots r hrm)
    unfold wpOp
    simp only [ho]
    cases hk : isEff r.kd with
    | false =>
      have hall : aliveAt ri.ms ri.es k r = true := by
        unfold aliveAt
        rw [Bool.and_eq_true, List.all_eq_true]
        constructor
        · rw [ble_iff, e4]
          rcases levGo_spec (m := r.m) ri.es 0 0 with h | ⟨q, x, a1, a2, a3⟩
          · omega
          · have hx := ht.ahead hI.closed hr hd a2
            rw [a3]
            rcases Nat.lt_or_ge q k with h | h
            · omega
            · rw [hI.es, List.getElem?_append_right (by rw [hI.len]; exact h)] at a1
              exact absurd hx (hI.rs x (List.mem_of_getElem? a1))
        · intro x hx
          rw [hI.es, List.take_left' hI.len] at hx
          rw [Bool.not_eq_true', ← Bool.not_eq_true, e1, nth_getElem]
          intro hb
          have hxe : x ∈ ri.es := by rw [hI.es]; exact List.mem_append_left _ hx
          rw [ht.es, effsGo_mem] at hxe
          obtain ⟨j, o', hj, hxj, _⟩ := hxe
          rw [Nat.zero_add] at hxj; subst hxj
          exact hnl (ht.aheadIn hI.closed (hI.dn x hx) hj hb)
      have hlev : r.lev ≤ k := by
        unfold aliveAt at hall
        rw [Bool.and_eq_true] at hall
        exact ble_t hall.1
      have hok := hchk r hrm hk hall
      have hnb : ∀ j b, s.bids.get j = some (some b) → ¬ Lst (listed.setIfInBounds i true) j → ρ b = none := fun j b hb hj =>
        (hI.bid j b hb).2.2.1 fun hl => hj ((lst_set (by omega) j).2 (.inl hl))
      have next : ∀ {v : AV} {v' : Value} {ρ' : Ren} {w' : World}, s.vals.get i = some v → VRel ρ' v v' → ρ.le ρ' → MRel P ρ' s.M w' → Step M0.lo M0.next ρ w ρ' w' →
          (∀ j b, s.bids.get j = some (some b) → ¬ Lst (listed.setIfInBounds i true) j → ρ' b = none) → wpAny P .any ops Q fuel (listed.setIfInBounds i true) (a.put r.o.dst v') w' := by
        intro v v' ρ' w' hvi hv hle hw hst hb
        exact ih _ k done rest s ρ' _ w' (by simpa using hsz) (count_set (by omega) hnl hcnt) (inv_nonR ht hsz hI hilt hr hd hk hlev hvi hv hle hw hst hb) hchk hcont
      have hrefl : ρ.le ρ := fun _ _ h => h
      obtain ⟨g, hg, hcase⟩ := hok
      obtain ⟨gon, goff⟩ := guard_relR ht hI hr hd hg
      rw [e1] at hcase
      rcases hcase with ⟨hon, v, hvi, hkd⟩ | ⟨hoff, hvi⟩
      · rw [gon hon]
        simp only [if_true]
        refine .inl ?_
        have val : GivesR P r.o (envR T0 ri.wr s.vals r.m) s.M v → r.o.wp P a w (wpAny P .any ops Q fuel (listed.setIfInBounds i true)) Q := by
          intro hgv
          obtain ⟨v', h1, h2⟩ := hgv ρ w a.eval s.M (RM.Sub.refl _) hI.wrel he
          exact op_gives r.o h1 (next hvi h2 hrefl hI.wrel (Step.refl _ _ _) hnb)
        cases hkk : r.kd with
        | pure => rw [hkk] at hkd; exact val (hkd _)
        | read => rw [hkk] at hkd; exact val hkd
        | eff => rw [hkk] at hkd; exact hkd.elim
        | alloc =>
          rw [hkk] at hkd
          obtain ⟨x, mk, b, ⟨y, hx, hle⟩, hbi, hy, hmk⟩ := hkd
          obtain ⟨d, ob, u, inf, hrun, hinf, hrel, hmkv⟩ := allocOp_sound he hx w
          obtain ⟨b1, b2, b3, b4⟩ := hI.bid i b hbi
          have hbn := b3 hnl
          have hd' : MRel P ρ s.M (if d = true then w.drew else w) := by cases d <;> simp [hI.wrel, hI.wrel.drew]
          have hsz' : (if d = true then w.drew else w).heap.size = w.heap.size := by cases d <;> simp
          have hst' : Step M0.lo M0.next ρ w ρ (if d = true then w.drew else w) := by cases d <;> simp [Step.refl, Step.drew]
          obtain ⟨h1, h2⟩ := push_relR hd' (by omega) hbn b2 hy hle hrel
          replace h2 := h2.of_base hI.base
          refine op_gives r.o hrun (next hvi (hmk ▸ hmkv _ b (by simp [Ren.add])) (Ren.le_add hbn) h1 (hst'.trans h2 b1) fun j b' hb' hj => ?_)
          have hne : b' ≠ b := by
            intro e
            subst e
            have hji : j ≠ i := fun e => hj ((lst_set (by omega) j).2 (.inr e))
            exact hji (hI.bidne j i b' hb' hbi)
          unfold Ren.add
          rw [if_neg hne]
          exact hnb j b' hb' hj
      · rw [goff hoff]
        simp only [Bool.false_eq_true, if_false]
        exact next hvi (.tup _ _ .nil) hrefl hI.wrel (Step.refl _ _ _) hnb
    | true =>
      have hie : i ∈ ri.es := (ht.eff hr).2 hk
      rw [hI.es] at hie
      have hir : i ∈ rest := by
        rcases List.mem_append.1 hie with h | h
        · exact absurd (hI.dn i h) hnl
        · exact h
      cases rest with
      | nil => cases hir
      | cons x rest' =>
        have hxi : x = i := by
          rcases List.mem_cons.1 hir with e | hm
          · exact e.symm
          · obtain ⟨l1, l2, hl⟩ := List.append_of_mem hm
            have := ht.chain (done ++ x :: l1) i l2 (by rw [hI.es, hl]; simp) x (by simp)
            rw [e3] at this
            exact absurd (ht.ahead hI.closed hr hd this) (hI.rs x (.head _))
        subst hxi
        have hnd : x ∉ rest' := by
          intro hm
          obtain ⟨l1, l2, hl⟩ := List.append_of_mem hm
          have := ht.chain (done ++ x :: l1) x l2 (by rw [hI.es, hl]; simp) x (by simp)
          rw [e3] at this
          exact hnl (ht.ahead hI.closed hr hd this)
        obtain ⟨r', hr', hgs⟩ := hcont
        rw [nth_getElem, hr] at hr'; cases hr'
        obtain ⟨g, hg, hcase⟩ := guardS_cases hgs
        obtain ⟨gon, goff⟩ := guard_relR ht hI hr hd hg
        have next : ∀ {v : AV} {v' : Value} {ρ' : Ren} {w' : World} {M' : RM}, VRel ρ' v v' → After P s.M ρ w M' ρ' w' →
            reW P ops T0 ri k ri.rows { vals := s.vals.set x v, M := M', bids := s.bids } (stageW P ops T0 ri (k + 1) rest' { vals := s.vals.set x v, M := M', bids := s.bids } K) →
            wpAny P .any ops Q fuel (listed.setIfInBounds x true) (a.put r.o.dst v') w' := by
          intro v v' ρ' w' M' hv haft hre
          obtain ⟨s3, h1, h2, h3⟩ := inv_effR ht hsz hI hchk hilt hr hd hnd hv haft hre
          exact ih _ (k + 1) _ rest' s3 ρ' _ w' (by simpa using hsz) (count_set (by omega) hnl hcnt) h1 h2 h3
        rcases hcase with ⟨hon, hn⟩ | ⟨hoff, hn⟩
        · rw [gon hon]
          simp only [if_true]
          exact .inl (does_wp (niceE_sound hP (fun _ => rfl) hn) hI.wrel he fun v v' M' ρ' w' haft hv hk => next hv haft hk)
        · rw [goff hoff]
          simp only [Bool.false_eq_true, if_false]
          exact next (.tup _ _ .nil) (After.refl hI.wrel) hn

theorem finT_get {vals : Tree AV} {t : Nat} : ∀ (rows : List Row) (T : Tree AV), (∀ r ∈ rows, r.o.dst ≠ some t) → (finT T vals rows).get t = T.get t
  | [], T, _ => rfl
  | r :: rows, T, h => by
    simp only [finT]
    cases hd : r.o.dst with
    | none => exact finT_get rows T fun r' hr' => h r' (.tail _ hr')
    | some d =>
      simp only
      rw [finT_get rows _ fun r' hr' => h r' (.tail _ hr'), Tree.get_set, if_neg]
      intro e; subst e
      exact h r (.head _) hd

theorem drawW_sound (hP : POk P) {id : Nat} {T : Tree AV} {M : RM} {K : Tree AV → RM → Prop} {Q : Exit → Act → World → Prop} (hM : After P M0 ρ0 w0 M ρ w) (hA : ARel ρ nt T a)
    (hQ : ∀ T' M' ρ' a' w', After P M0 ρ0 w0 M' ρ' w' → ARel ρ' nt T' a' → K T' M' → (∀ t, (∀ o ∈ ops.toList, o.dst ≠ some t) → T'.get t = T.get t) → Q .normal a' w') (h : drawW P nt ops T M K) : (Code.region id ops true).wp P Q a w := by
  unfold drawW at h
  split at h <;> first | (cases h; done) | skip
  rename_i ri hri
  split at h <;> first | (cases h; done) | skip
  rename_i hslots
  have ht := regionInfo_tab hri
  obtain ⟨s1, h1, hp⟩ := stageW_step ht hM.rel.fr (fun j b hb => by simp [Tree.get] at hb) h
  have hno : ∀ i, ¬ Lst (Array.replicate ops.size false) i := by
    intro i h
    unfold Lst at h
    simp only [Array.getD_eq_getD_getElem?, Array.getElem?_replicate] at h
    split at h <;> simp at h
  refine wp_region_any hP.mixed (draw_anyR (M0 := M0) (ρ0 := ρ0) (w0 := w0) (T0 := T) hP ht (fun r hr => List.all_eq_true.1 hslots r hr) (fun s ρ' a' w' k0 k1 k2 k3 k4 k5 => hQ _ _ ρ' a' w' ⟨k1, k3, k4, k5⟩ k2 k0 (fun t hnt => finT_get ri.rows T fun r hr => by
      obtain ⟨q, hq⟩ := List.mem_iff_getElem?.1 hr
      exact hnt r.o (List.mem_of_getElem? (ht.row hq).2.1))) ops.size _ 0 [] ri.es s1 ρ a _ (by simp) (by simp) ?_ ?_ h1)
  · refine ⟨rfl, rfl, fun i o _ hi => absurd hi (hno i), (fun x hx => by cases hx), fun x _ => hno x, fun j r _ _ hj => absurd hj (hno j), hA.size, hA.defers, fun t => ⟨fun j _ hj => absurd hj (hno j), fun _ => hA.val t⟩, hp.rel _ _ hM.rel.drew, hM.step.trans (Step.drew (n := M0.next)) (Nat.le_refl _), by rw [hp.sub.1]; exact hM.base, Nat.le_trans hM.next hp.next, fun j b hb' => ?_, fun j1 j2 b b1 b2 => ?_⟩
    · rcases hp.bids j b hb' with h | ⟨h, h', _, r, hr⟩
      · simp [Tree.get] at h
      · refine ⟨Nat.le_trans hM.next h, h', fun _ => hM.rel.fresh h, ?_⟩
        obtain ⟨g1, g2, _⟩ := ht.row hr
        have := (List.getElem?_eq_some_iff.1 g2).1
        rw [Array.length_toList] at this
        exact this
    · rcases hp.bids j1 b b1 with h | ⟨h, _⟩
      · simp [Tree.get] at h
      · exact hp.bidne j1 j2 b b1 b2 h
  · intro r hr hk hal
    obtain ⟨q, hq⟩ := List.mem_iff_getElem?.1 hr
    unfold aliveAt at hal
    rw [Bool.and_eq_true] at hal
    exact hp.done q r hq (Nat.zero_le _) (by have := ble_t hal.1; omega) hk
end
end Go.Ab
/- Code and bodies, over data that is not known. By an AI agent. -/
set_option linter.unusedVariables false
set_option linter.unusedSimpArgs false
namespace Go.Ab
open Go Go.RowKit

/-! ### which slots are written, which are looked at again (sets as bits) -/
def dstBit : Option Tmp → Nat
  | some d => 2 ^ d
  | none => 0
def useBit : Operand → Nat
  | .tmp t => 2 ^ t
  | _ => 0
def usesOf : List Operand → Nat
  | [] => 0
  | x :: xs => useBit x ||| usesOf xs
def dropBits (L m : Nat) : Nat := L ^^^ (L &&& m)

def asgOps : List Oper → Nat
  | [] => 0
  | o :: os => dstBit o.dst ||| asgOps os
def asgC : Nat → Code → Nat
  | 0, _ => 0
  | f + 1, c => match c with
    | .region _ ops _ => asgOps ops.toList
    | .seq a b => asgC f a ||| asgC f b
    | .cond _ a b => asgC f a ||| asgC f b
    | .block _ c => asgC f c
    | .loop c => asgC f c
    | .scope c => asgC f c
    | _ => 0

def liveOps : List Oper → Nat → Nat
  | [], L => L
  | o :: os, L => dropBits (liveOps os L) (dstBit o.dst) ||| usesOf o.op.operands.toList

def envGet : List (Nat × Nat) → Nat → Nat
  | [], _ => 0
  | (i, L) :: r, id => match Nat.beq i id with
    | true => L
    | false => envGet r id

def liveC (ret : Nat) : Nat → List (Nat × Nat) → Code → Nat → Nat
  | 0, _, _, _ => 0
  | f + 1, env, c, L => match c with
    | .skip => L
    | .region _ ops _ => liveOps ops.toList L
    | .seq a b => liveC ret f env a (liveC ret f env b L)
    | .cond c a b => useBit c ||| liveC ret f env a L ||| liveC ret f env b L
    | .block id c => liveC ret f ((id, L) :: env) c L
    | .loop c => liveC ret f env c (liveC ret f env c 0)
    | .exit id => envGet env id
    | .ret => ret
    | .scope c => liveC ret f env c L
    | .label _ => L
    | _ => 0

/-- How many ways lead out at the end (0, 1, or 2: more); 'id': out of the block of that number. -/
def cap2 (n : Nat) : Nat := match n with | 0 => 0 | 1 => 1 | _ => 2
def exitsTo (id : Nat) : Nat → Code → Nat
  | 0, _ => 2
  | f + 1, c => match c with
    | .seq a b => cap2 (exitsTo id f a + exitsTo id f b)
    | .cond _ a b => cap2 (exitsTo id f a + exitsTo id f b)
    | .block _ c => exitsTo id f c
    | .loop c => exitsTo id f c
    | .exit i => match Nat.beq i id with | true => 1 | false => 0
    | _ => 0
def pathsC : Nat → Code → Nat
  | 0, _ => 2
  | f + 1, c => match c with
    | .skip => 1
    | .region _ _ _ => 1
    | .seq a b => cap2 (pathsC f a * pathsC f b)
    | .cond _ a b => cap2 (pathsC f a + pathsC f b)
    | .block id c => cap2 (pathsC f c + exitsTo id f c)
    | .scope c => pathsC f c
    | .label _ => 1
    | _ => 0

def bitsGo (m : Nat) : Nat → Nat → List Nat
  | _, 0 => []
  | i, n + 1 => match Nat.testBit m i with
    | true => i :: bitsGo m (i + 1) n
    | false => bitsGo m (i + 1) n
def bitsOf (m nt : Nat) : List Nat := bitsGo m 0 nt

def getL (T : Tree AV) : List Nat → List AV
  | [] => []
  | t :: ts => (T.get t).getD .top :: getL T ts
def nthD : List AV → Nat → AV
  | [], _ => .top
  | x :: _, 0 => x
  | _ :: xs, n + 1 => nthD xs n
def killL (T : Tree AV) : List Nat → Tree AV
  | [] => T
  | t :: ts => killL (T.set t .top) ts
def setL (T : Tree AV) (xs : List AV) : Nat → List Nat → Tree AV
  | _, [] => T
  | i, t :: ts => setL (T.set t (nthD xs i)) xs (i + 1) ts
/-- The slots at a join: those that were written are forgotten, but for 'vs', which hold 'xs'. -/
def headT (T : Tree AV) (asg vs : List Nat) (xs : List AV) : Tree AV := setL (killL T asg) xs 0 vs

def condW (x : AV) (p q : Prop) : Prop :=
  match x with
  | .sc (.bool b) => (b = true → p) ∧ (b = false → q)
  | _ => False
def joinW (f : (List AV → RM → Prop) → Prop) (g : List AV → RM → Prop) : Prop := f g
def loopW (body : (List AV → RM → Prop) → List AV → RM → Prop) (xs : List AV) (M : RM) : Prop :=
  ∃ (I : Nat → List AV → RM → Prop) (n : Nat), I n xs M ∧ ∀ m ys M', I m ys M' → body (fun zs M'' => ∃ m', m' < m ∧ I m' zs M'') ys M'

abbrev K3 := Ex → Tree AV → RM → Prop

def wpC (P : Program) (nt ret : Nat) : Nat → Code → List (Nat × Nat) → Nat → Tree AV → RM → K3 → Prop
  | 0, _, _, _, _, _, _ => False
  | f + 1, c, env, L, T, M, K => match c with
    | .skip => K .normal T M
    | .region _ ops false => opsW P nt ops ops.toList T M (fun T' M' => K .normal T' M')
    | .region _ ops true => drawW P nt ops T M (fun T' M' => K .normal T' M')
    | .seq a b => match Nat.ble (pathsC f a) 1 with
      | true => wpC P nt ret f a env (liveC ret f env b L) T M (fun e T' M' => match e with
        | .normal => wpC P nt ret f b env L T' M' K
        | e => K e T' M')
      | false => joinW (fun J => wpC P nt ret f a env (liveC ret f env b L) T M (fun e T' M' => match e with
          | .normal => J (getL T' (bitsOf (asgC f a &&& liveC ret f env b L) nt)) M'
          | e => K e T' M'))
        (fun xs M' => wpC P nt ret f b env L (headT T (bitsOf (asgC f a) nt) (bitsOf (asgC f a &&& liveC ret f env b L) nt) xs) M' K)
    | .cond c a b => condW (evalT T c) (wpC P nt ret f a env L T M K) (wpC P nt ret f b env L T M K)
    | .block id c => wpC P nt ret f c ((id, L) :: env) L T M (fun e T' M' => match e with
      | .exit i => match Nat.beq i id with
        | true => K .normal T' M'
        | false => K (.exit i) T' M'
      | e => K e T' M')
    | .loop c => loopW (fun next xs M' => wpC P nt ret f c env (liveC ret f env c (liveC ret f env c 0)) (headT T (bitsOf (asgC f c) nt) (bitsOf (asgC f c &&& liveC ret f env c (liveC ret f env c 0)) nt) xs) M'
        (fun e T' M' => match e with
          | .normal => next (getL T' (bitsOf (asgC f c &&& liveC ret f env c (liveC ret f env c 0)) nt)) M'
          | e => K e T' M'))
      (getL T (bitsOf (asgC f c &&& liveC ret f env c (liveC ret f env c 0)) nt)) M
    | .exit id => K (.exit id) T M
    | .ret => K .ret T M
    | .scope c => wpC P nt ret f c env L T M K
    | .label _ => K .normal T M
    | _ => False

def resV (P : Program) (T : Tree AV) (M : RM) (r : ResultVar) (K : AV → Prop) : Prop :=
  match r with
  | .tmp t => K ((T.get t).getD .top)
  | .cell a t => match isAggT P t with
    | some false => load1 M ((T.get a).getD .top) K
    | some true => match sizeT P t with
      | some n => loadN M ((T.get a).getD .top) n K
      | none => False
    | none => False
def resL (P : Program) (T : Tree AV) (M : RM) : List ResultVar → (List AV → Prop) → Prop
  | [], K => K []
  | r :: rs, K => resV P T M r (fun v => resL P T M rs (fun vs => K (v :: vs)))
def resK (Q : PostV) (M : RM) : List AV → Prop
  | [v] => Q v M
  | vs => Q (.tup vs) M

def retBits : List ResultVar → Nat
  | [] => 0
  | .tmp t :: rs => 2 ^ t ||| retBits rs
  | .cell a _ :: rs => 2 ^ a ||| retBits rs

def wpBody (P : Program) (fn : Func) (c : Code) (args : List AV) (M : RM) (Q : PostV) : Prop :=
  wpC P (args.length + (fn.ntmps - args.length)) (retBits fn.results.toList) 1000 c [] 0 (Tree.ofList args 0 .leaf) M
    (fun e T M' => match e with
      | .exit _ => False
      | _ => resL P T M' fn.results.toList (resK Q M'))

/-! ### it is sound -/
section
variable {P : Program} {nt ret : Nat}

def PostR (P : Program) (nt : Nat) (M0 : RM) (ρ0 : Ren) (w0 : World) (T : Tree AV) (asg : Nat) (K : K3) (e : Exit) (a : Act) (w : World) : Prop :=
  ∃ x T' M' ρ', e = exOf x ∧ After P M0 ρ0 w0 M' ρ' w ∧ ARel ρ' nt T' a ∧ (∀ t, Nat.testBit asg t = false → T'.get t = T.get t) ∧ K x T' M'

theorem getL_get {T : Tree AV} : ∀ (vs : List Nat) (i : Nat), nthD (getL T vs) i = match vs[i]? with | some t => (T.get t).getD .top | none => .top
  | [], i => by simp [getL, nthD]
  | t :: vs, 0 => by simp [getL, nthD]
  | t :: vs, i + 1 => by simp [getL, nthD, getL_get vs i]

theorem killL_get : ∀ (asg : List Nat) (T : Tree AV) (t : Nat), (killL T asg).get t = if t ∈ asg then some .top else T.get t
  | [], T, t => by simp [killL]
  | d :: asg, T, t => by
    simp only [killL, killL_get asg, Tree.get_set, List.mem_cons]
    by_cases h1 : t ∈ asg
    · simp [h1]
    · by_cases h2 : t = d <;> simp [h1, h2]

theorem setL_get : ∀ (vs : List Nat) (T : Tree AV) (xs : List AV) (i t : Nat), (t ∉ vs ∧ (setL T xs i vs).get t = T.get t) ∨ ∃ j, vs[j]? = some t ∧ (setL T xs i vs).get t = some (nthD xs (i + j))
  | [], T, xs, i, t => .inl ⟨by simp, rfl⟩
  | d :: vs, T, xs, i, t => by
    simp only [setL]
    rcases setL_get vs (T.set d (nthD xs i)) xs (i + 1) t with ⟨h1, h2⟩ | ⟨j, h1, h2⟩
    · rw [Tree.get_set] at h2
      by_cases e : t = d
      · rw [if_pos e] at h2
        exact .inr ⟨0, by simp [e], h2⟩
      · rw [if_neg e] at h2
        exact .inl ⟨by simp [e, h1], h2⟩
    · exact .inr ⟨j + 1, by simpa using h1, by rw [h2]; congr 2; omega⟩

theorem bitsGo_mem {m : Nat} : ∀ (n i t : Nat), t ∈ bitsGo m i n ↔ i ≤ t ∧ t < i + n ∧ Nat.testBit m t = true
  | 0, i, t => by simp [bitsGo]; omega
  | n + 1, i, t => by
    simp only [bitsGo]
    split
    · rename_i h
      rw [List.mem_cons, bitsGo_mem n (i + 1) t]
      constructor
      · rintro (rfl | ⟨a, b, c⟩)
        · exact ⟨Nat.le_refl _, by omega, h⟩
        · exact ⟨by omega, by omega, c⟩
      · rintro ⟨a, b, c⟩
        by_cases e : t = i
        · exact .inl e
        · exact .inr ⟨by omega, by omega, c⟩
    · rename_i h
      rw [bitsGo_mem n (i + 1) t]
      constructor
      · rintro ⟨a, b, c⟩; exact ⟨by omega, by omega, c⟩
      · rintro ⟨a, b, c⟩
        have : t ≠ i := fun e => by subst e; rw [h] at c; cases c
        exact ⟨by omega, by omega, c⟩
theorem bitsOf_mem {m n t : Nat} : t ∈ bitsOf m n ↔ t < n ∧ Nat.testBit m t = true := by
  unfold bitsOf; rw [bitsGo_mem]; simp

/-- At a join. -/
theorem headT_rel {ρ : Ren} {T T' : Tree AV} {a : Act} {asg : Nat} {vs : List Nat} (h : ARel ρ nt T' a) (hge : ∀ t, nt ≤ t → VRel ρ ((T.get t).getD .top) undef) (hk : ∀ t, Nat.testBit asg t = false → T'.get t = T.get t) : ARel ρ nt (headT T (bitsOf asg nt) vs (getL T' vs)) a := by
  refine ⟨h.size, fun t => ?_, h.defers⟩
  unfold headT
  rcases setL_get vs (killL T (bitsOf asg nt)) (getL T' vs) 0 t with ⟨_, h2⟩ | ⟨j, h1, h2⟩
  · rw [h2, killL_get]
    split
    · exact .top _
    · rename_i hm
      by_cases hb : Nat.testBit asg t = true
      · have hge' : nt ≤ t := by
          rcases Nat.lt_or_ge t nt with hlt | hge
          · exact absurd (bitsOf_mem.2 ⟨hlt, hb⟩) hm
          · exact hge
        have hv : a.tmps.getD t undef = undef := by
          rw [Array.getD_eq_getD_getElem?, Array.getElem?_eq_none (by rw [h.size]; exact hge')]; rfl
        rw [hv]; exact hge t hge'
      · rw [← hk t (by simpa using hb)]
        exact h.val t
  · rw [h2, Nat.zero_add, getL_get, h1]
    exact h.val t

theorem headT_keep {T : Tree AV} {asg : Nat} {vs : List Nat} {xs : List AV} (hvs : ∀ t ∈ vs, Nat.testBit asg t = true) (t : Nat) (h : Nat.testBit asg t = false) : (headT T (bitsOf asg nt) vs xs).get t = T.get t := by
  unfold headT
  rcases setL_get vs (killL T (bitsOf asg nt)) xs 0 t with ⟨_, h2⟩ | ⟨j, h1, h2⟩
  · rw [h2, killL_get, if_neg]
    intro hm
    rw [(bitsOf_mem.1 hm).2] at h; cases h
  · have := hvs t (List.mem_of_getElem? h1)
    rw [h] at this; cases this

theorem ARel.ge {ρ : Ren} {T : Tree AV} {a : Act} (h : ARel ρ nt T a) : ∀ t, nt ≤ t → VRel ρ ((T.get t).getD .top) undef := by
  intro t ht
  have := h.val t
  rw [Array.getD_eq_getD_getElem?, Array.getElem?_eq_none (by rw [h.size]; exact ht)] at this
  exact this

theorem rounds_mono {c : Code} {Q : Exit → Act → World → Prop} : ∀ {n m : Nat} {a : Act} {w : World}, n ≤ m → Code.rounds P c Q n a w → Code.rounds P c Q m a w
  | 0, _, _, _, _, h => h.elim
  | n + 1, m + 1, a, w, hle, h => by
    rw [rounds_succ] at h ⊢
    refine wp_mono h fun e a' w' hp => ?_
    cases e with
    | normal => exact rounds_mono (Nat.le_of_succ_le_succ hle) hp
    | exit id => exact hp
    | ret => exact hp
    | goto l => exact hp
    | panic c => exact hp
    | outgrown => exact hp

theorem asgOps_dst {t : Nat} : ∀ (l : List Oper), Nat.testBit (asgOps l) t = false → ∀ o ∈ l, o.dst ≠ some t
  | [], _, o, ho => by cases ho
  | x :: l, h, o, ho => by
    simp only [asgOps, Nat.testBit_or, Bool.or_eq_false_iff] at h
    rcases List.mem_cons.1 ho with rfl | ho
    · intro e
      rw [e] at h
      simp [dstBit, Nat.testBit_two_pow] at h
    · exact asgOps_dst l h.2 o ho

theorem condW_rel {ρ : Ren} {x : AV} {u : Value} {p q : Prop} (h : condW x p q) (hx : VRel ρ x u) : ∃ b, u = .bool b ∧ (b = true → p) ∧ (b = false → q) := by
  unfold condW at h
  split at h <;> first | (cases h; done) | skip
  rename_i b
  exact ⟨b, (sc_inv hx).1, h.1, h.2⟩

theorem wpC_sound (hP : POk P) : ∀ (f : Nat) (c : Code) (env : List (Nat × Nat)) (L : Nat) (T : Tree AV) (M : RM) (K : K3), wpC P nt ret f c env L T M K →
    ∀ (M0 : RM) (ρ0 : Ren) (w0 : World) (ρ : Ren) (a : Act) (w : World), After P M0 ρ0 w0 M ρ w → ARel ρ nt T a → c.wp P (PostR P nt M0 ρ0 w0 T (asgC f c) K) a w := by
  intro f
  induction f with
  | zero => intro c env L T M K h; exact h.elim
  | succ f ih =>
    intro c env L T M K h M0 ρ0 w0 ρ a w hM hA
    cases c with
    | skip => exact wp_skip ⟨.normal, T, M, ρ, rfl, hM, hA, fun _ _ => rfl, h⟩
    | region id ops d =>
      cases d with
      | false =>
        refine wp_region ?_
        have := opsW_sound (nt := nt) hP (ops := ops) (Q := PostR P nt M0 ρ0 w0 T (asgC (f + 1) (.region id ops false)) K) (K := fun T' M' => K .normal T' M') (M0 := M0) (ρ0 := ρ0) (w0 := w0) (T0 := T)
          (fun T' M' ρ' a' w' k1 k2 k3 k4 => ⟨.normal, T', M', ρ', rfl, k1, k2, fun t ht => k4 t (asgOps_dst _ ht), k3⟩) ops.toList 0 (by simp) hA hM (fun _ _ => rfl) h
        rw [Array.length_toList, ← List.range_eq_range'] at this
        exact this
      | true =>
        exact drawW_sound (nt := nt) (T := T) hP hM hA (fun T' M' ρ' a' w' k1 k2 k3 k4 => ⟨.normal, T', M', ρ', rfl, k1, k2, fun t ht => k4 t (asgOps_dst _ ht), k3⟩) h
    | seq c1 c2 =>
      simp only [wpC] at h
      refine wp_seq ?_
      split at h
      · refine wp_mono (ih c1 _ _ _ _ _ h M0 ρ0 w0 ρ a w hM hA) fun e a' w' hp => ?_
        obtain ⟨x, T1, M1, ρ1, rfl, k1, k2, k3, k4⟩ := hp
        cases x with
        | normal =>
          refine wp_mono (ih c2 _ _ _ _ _ k4 M0 ρ0 w0 ρ1 a' w' k1 k2) fun e a2 w2 hp => ?_
          obtain ⟨x, T2, M2, ρ2, he, q1, q2, q3, q4⟩ := hp
          exact ⟨x, T2, M2, ρ2, he, q1, q2, fun t ht => by
            simp only [asgC, Nat.testBit_or, Bool.or_eq_false_iff] at ht
            rw [q3 t ht.2, k3 t ht.1], q4⟩
        | exit i => exact ⟨.exit i, T1, M1, ρ1, rfl, k1, k2, fun t ht => by
            simp only [asgC, Nat.testBit_or, Bool.or_eq_false_iff] at ht
            exact k3 t ht.1, k4⟩
        | ret => exact ⟨.ret, T1, M1, ρ1, rfl, k1, k2, fun t ht => by
            simp only [asgC, Nat.testBit_or, Bool.or_eq_false_iff] at ht
            exact k3 t ht.1, k4⟩
      · unfold joinW at h
        refine wp_mono (ih c1 _ _ _ _ _ h M0 ρ0 w0 ρ a w hM hA) fun e a' w' hp => ?_
        obtain ⟨x, T1, M1, ρ1, rfl, k1, k2, k3, k4⟩ := hp
        have hge : ∀ t, nt ≤ t → VRel ρ1 ((T.get t).getD .top) undef := fun t ht => by
          have h1 := k2.ge t ht
          by_cases hb : Nat.testBit (asgC f c1) t = false
          · rw [k3 t hb] at h1; exact h1
          · have h0 := hA.ge t ht
            have hu : ∀ (ρ ρ' : Ren) (x : AV), VRel ρ x undef → VRel ρ' x undef := by
              intro ρ ρ' x hx
              unfold undef at hx ⊢
              cases hx with
              | top => exact .top _
              | sc v p => exact .sc _ p
              | tup xs vs a => cases a; exact .tup _ _ .nil
            exact hu _ _ _ h0
        cases x with
        | normal =>
          refine wp_mono (ih c2 _ _ _ _ _ k4 M0 ρ0 w0 ρ1 a' w' k1 (headT_rel k2 hge k3)) fun e a2 w2 hp => ?_
          obtain ⟨x, T2, M2, ρ2, he, q1, q2, q3, q4⟩ := hp
          refine ⟨x, T2, M2, ρ2, he, q1, q2, fun t ht => ?_, q4⟩
          simp only [asgC, Nat.testBit_or, Bool.or_eq_false_iff] at ht
          rw [q3 t ht.2]
          refine headT_keep (fun t' ht' => ?_) t ht.1
          have := (bitsOf_mem.1 ht').2
          rw [Nat.testBit_and, Bool.and_eq_true] at this
          exact this.1
        | exit i => exact ⟨.exit i, T1, M1, ρ1, rfl, k1, k2, fun t ht => by
            simp only [asgC, Nat.testBit_or, Bool.or_eq_false_iff] at ht
            exact k3 t ht.1, k4⟩
        | ret => exact ⟨.ret, T1, M1, ρ1, rfl, k1, k2, fun t ht => by
            simp only [asgC, Nat.testBit_or, Bool.or_eq_false_iff] at ht
            exact k3 t ht.1, k4⟩
    | cond cnd c1 c2 =>
      simp only [wpC] at h
      obtain ⟨b, hb, h1, h2⟩ := condW_rel h (evalT_rel hA cnd)
      cases b with
      | true =>
        refine wp_cond_true hb (wp_mono (ih c1 _ _ _ _ _ (h1 rfl) M0 ρ0 w0 ρ a w hM hA) fun e a' w' hp => ?_)
        obtain ⟨x, T1, M1, ρ1, he, k1, k2, k3, k4⟩ := hp
        exact ⟨x, T1, M1, ρ1, he, k1, k2, fun t ht => by
            simp only [asgC, Nat.testBit_or, Bool.or_eq_false_iff] at ht
            exact k3 t ht.1, k4⟩
      | false =>
        refine wp_cond_false hb (wp_mono (ih c2 _ _ _ _ _ (h2 rfl) M0 ρ0 w0 ρ a w hM hA) fun e a' w' hp => ?_)
        obtain ⟨x, T1, M1, ρ1, he, k1, k2, k3, k4⟩ := hp
        exact ⟨x, T1, M1, ρ1, he, k1, k2, fun t ht => by
            simp only [asgC, Nat.testBit_or, Bool.or_eq_false_iff] at ht
            exact k3 t ht.2, k4⟩
    | block id c1 =>
      simp only [wpC] at h
      refine wp_block (wp_mono (ih c1 _ _ _ _ _ h M0 ρ0 w0 ρ a w hM hA) fun e a' w' hp => ?_)
      obtain ⟨x, T1, M1, ρ1, rfl, k1, k2, k3, k4⟩ := hp
      cases x with
      | normal => exact ⟨.normal, T1, M1, ρ1, rfl, k1, k2, k3, k4⟩
      | ret => exact ⟨.ret, T1, M1, ρ1, rfl, k1, k2, k3, k4⟩
      | exit i =>
        simp only at k4
        split at k4
        · rename_i he
          have he := beq_t he
          subst he
          simp only [exOf, Exit.inBlock, if_true]
          exact ⟨.normal, T1, M1, ρ1, rfl, k1, k2, k3, k4⟩
        · rename_i he
          have he := beq_f he
          simp only [exOf, Exit.inBlock, if_neg he]
          exact ⟨.exit i, T1, M1, ρ1, rfl, k1, k2, k3, k4⟩
    | loop c1 =>
      simp only [wpC] at h
      obtain ⟨I, n, hI, hbody⟩ := h
      have hvs : ∀ t ∈ bitsOf (asgC f c1 &&& liveC ret f env c1 (liveC ret f env c1 0)) nt, Nat.testBit (asgC f c1) t = true := fun t' ht' => by
        have := (bitsOf_mem.1 ht').2
        rw [Nat.testBit_and, Bool.and_eq_true] at this
        exact this.1
      generalize hv : bitsOf (asgC f c1 &&& liveC ret f env c1 (liveC ret f env c1 0)) nt = vs at hI hbody hvs
      have hu : ∀ (ρ ρ' : Ren) (x : AV), VRel ρ x undef → VRel ρ' x undef := by
        intro ρ ρ' x hx
        unfold undef at hx ⊢
        cases hx with
        | top => exact .top _
        | sc v p => exact .sc _ p
        | tup xs vs a => cases a; exact .tup _ _ .nil
      have hge : ∀ (ρ1 : Ren) t, nt ≤ t → VRel ρ1 ((T.get t).getD .top) undef := fun ρ1 t ht => hu _ _ _ (hA.ge t ht)
      have key : ∀ (m : Nat) (ys : List AV) (M1 : RM) (ρ1 : Ren) (a1 : Act) (w1 : World), I m ys M1 → After P M0 ρ0 w0 M1 ρ1 w1 → ARel ρ1 nt (headT T (bitsOf (asgC f c1) nt) vs ys) a1 →
          Code.rounds P c1 (PostR P nt M0 ρ0 w0 T (asgC (f + 1) (.loop c1)) K) (m + 1) a1 w1 := by
        intro m
        induction m using Nat.strongRecOn with
        | _ m ihm =>
          intro ys M1 ρ1 a1 w1 hIm hM1 hA1
          rw [rounds_succ]
          refine wp_mono (ih c1 _ _ _ _ _ (hbody m ys M1 hIm) M0 ρ0 w0 ρ1 a1 w1 hM1 hA1) fun e a' w' hp => ?_
          obtain ⟨x, T2, M2, ρ2, rfl, k1, k2, k3, k4⟩ := hp
          have k3' : ∀ t, Nat.testBit (asgC f c1) t = false → T2.get t = T.get t := fun t ht => by rw [k3 t ht]; exact headT_keep hvs t ht
          cases x with
          | normal =>
            obtain ⟨m', hlt, hI'⟩ := k4
            exact rounds_mono (by omega) (ihm m' hlt _ M2 ρ2 a' w' hI' k1 (headT_rel k2 (hge ρ2) k3'))
          | exit i => exact ⟨.exit i, T2, M2, ρ2, rfl, k1, k2, k3', k4⟩
          | ret => exact ⟨.ret, T2, M2, ρ2, rfl, k1, k2, k3', k4⟩
      exact wp_loop_rounds _ (key n _ M ρ a w hI hM (headT_rel hA (hge ρ) fun _ _ => rfl))
    | exit id => exact wp_exit ⟨.exit id, T, M, ρ, rfl, hM, hA, fun _ _ => rfl, h⟩
    | ret => exact wp_ret ⟨.ret, T, M, ρ, rfl, hM, hA, fun _ _ => rfl, h⟩
    | rangeFunc => simp [wpC] at h
    | scope c1 =>
      simp only [wpC] at h
      refine wp_scope_straight (wp_mono (ih c1 _ _ _ _ _ h M0 ρ0 w0 ρ a w hM hA) fun e a' w' hp => ?_)
      obtain ⟨x, T1, M1, ρ1, rfl, k1, k2, k3, k4⟩ := hp
      cases x with
      | normal => exact ⟨.normal, T1, M1, ρ1, rfl, k1, k2, k3, k4⟩
      | exit i => exact ⟨.exit i, T1, M1, ρ1, rfl, k1, k2, k3, k4⟩
      | ret => exact ⟨.ret, T1, M1, ρ1, rfl, k1, k2, k3, k4⟩
    | label l => exact wp_label ⟨.normal, T, M, ρ, rfl, hM, hA, fun _ _ => rfl, h⟩
    | goto => simp [wpC] at h
    | refuse => simp [wpC] at h

theorem resV_sound {ρ : Ren} {T : Tree AV} {M : RM} {a : Act} {w : World} (hA : ARel ρ nt T a) (hw : MRel P ρ M w) {r : ResultVar} {K : AV → Prop} (h : resV P T M r K) :
    ∃ v v', (resFn a.tmps r).run P w = .ok v' w ∧ VRel ρ v v' ∧ K v := by
  cases r with
  | tmp t => exact ⟨_, _, rfl, hA.val t, h⟩
  | cell x t =>
    simp only [resV] at h
    have hv := hA.val x
    split at h <;> first | (cases h; done) | skip
    · rename_i ha
      obtain ⟨b, p, v, hx, hl, hk⟩ := h
      rw [hx] at hv
      obtain ⟨i, hb, hc⟩ := ptr_inv hv
      obtain ⟨u, hu, hcell⟩ := loads_one hw hb hl
      refine ⟨v, u, ?_, hu, hk⟩
      simp only [resFn, hc, asAddr, Sem.run_bind, Sem.run_pure, Result.andThen_ok, loadVar, isAggT_run ha, Bool.false_eq_true, if_false, load, Sem.run, hcell]
    · rename_i ha
      split at h <;> first | (cases h; done) | skip
      rename_i n hs
      obtain ⟨b, p, xs, hx, hl, hk⟩ := h
      rw [hx] at hv
      obtain ⟨i, hb, hc⟩ := ptr_inv hv
      obtain ⟨vs, hr, hlen, _, hrun⟩ := RM.run_loads (P := P) hw hb hl
      exact ⟨.agg xs, .agg ⟨vs⟩, by simp only [resFn, hc, asAddr, Sem.run_bind, Sem.run_pure, Result.andThen_ok, loadVar, isAggT_run ha, if_true, sizeT_run hs, hrun], .agg _ _ hr, hk⟩

theorem resL_sound {ρ : Ren} {T : Tree AV} {M : RM} {a : Act} {w : World} (hA : ARel ρ nt T a) (hw : MRel P ρ M w) : ∀ (rs : List ResultVar) (K : List AV → Prop), resL P T M rs K →
    ∃ vs us, (rs.mapM (resFn a.tmps)).run P w = .ok us w ∧ LRel ρ vs us ∧ K vs
  | [], K, h => ⟨[], [], by simp, .nil, h⟩
  | r :: rs, K, h => by
    obtain ⟨v, v', h1, h2, h3⟩ := resV_sound hA hw h
    obtain ⟨vs, us, h4, h5, h6⟩ := resL_sound hA hw rs _ h3
    refine ⟨v :: vs, v' :: us, ?_, .cons _ _ _ _ h2 h5, h6⟩
    simp only [List.mapM_cons, Sem.run_bind, h1, Result.andThen_ok, h4, Sem.run_pure]

theorem callsR_of_body (hP : POk P) {f : FuncId} {fn : Func} {c : Code} {args : List AV} {M : RM} {Q : PostV} (hfn : P.funcs[f]? = some fn) (hbody : fn.body = some c) (h : wpBody P fn c args M Q) : CallsR P f args M Q := by
  refine ⟨⟨fn, c, hfn, hbody⟩, fun ρ w us hargs hw => ?_⟩
  have hlen := hargs.length
  have hA : ARel ρ (args.length + (fn.ntmps - args.length)) (Tree.ofList args 0 .leaf) { tmps := ⟨us⟩ ++ Array.replicate (fn.ntmps - (⟨us⟩ : Array Value).size) undef, defers := [] } := by
    refine ⟨by simp [hlen], fun t => ?_, rfl⟩
    rw [Tree.get_ofList]
    by_cases ht : t < args.length
    · rw [if_pos (by omega), Nat.sub_zero]
      obtain ⟨u, hu, hv⟩ := hargs.get (n := t) (x := args[t]) (by simp [ht])
      rw [List.getElem?_eq_getElem ht]
      simp only [Option.getD_some]
      have : ((⟨us⟩ : Array Value) ++ Array.replicate (fn.ntmps - (⟨us⟩ : Array Value).size) undef).getD t undef = u := by
        rw [Array.getD_eq_getD_getElem?, Array.getElem?_append_left (by simp; omega)]
        simp [hu]
      rw [this]; exact hv
    · rw [if_neg (by omega)]
      exact .top _
  refine calls_of_wp hfn hbody (wp_mono (wpC_sound hP 1000 c [] 0 _ M _ h M ρ w ρ _ w (After.refl hw) hA) fun e a w' hp => ?_)
  obtain ⟨x, T', M', ρ', rfl, k1, k2, k3, k4⟩ := hp
  have key : (∃ vs us, (fn.results.toList.mapM (resFn a.tmps)).run P w' = .ok us w' ∧ LRel ρ' vs us ∧ resK Q M' vs) →
      a.defers = [] ∧ ∃ v, (results fn a.tmps).run P w' = .ok v w' ∧ ∃ v' v_1 M'_1 ρ'_1, Ending.returned v = .returned v' ∧ After P M ρ w M'_1 ρ'_1 w' ∧ VRel ρ'_1 v_1 v' ∧ Q v_1 M'_1 := by
    rintro ⟨vs, us, h1, h2, h3⟩
    have hres : (results fn a.tmps).run P w' = .ok (if h : (⟨us⟩ : Array Value).size = 1 then (⟨us⟩ : Array Value)[0] else .tuple ⟨us⟩) w' := by
      have e : results fn a.tmps = (fn.results.mapM (resFn a.tmps) >>= fun vs => pure (if h : vs.size = 1 then vs[0] else .tuple vs)) := rfl
      rw [e, Array.mapM_eq_mapM_toList]
      simp only [Sem.run_bind, Sem.run_map, h1, Result.andThen_ok, Sem.run_pure]
    refine ⟨k2.defers, _, hres, ?_⟩
    cases h2 with
    | nil => exact ⟨_, _, M', ρ', rfl, k1, .tup _ _ .nil, h3⟩
    | cons x v xs vs2 hv htl =>
      cases htl with
      | nil => exact ⟨_, x, M', ρ', rfl, k1, hv, h3⟩
      | cons y u ys us2 hu htl2 => exact ⟨_, _, M', ρ', rfl, k1, .tup _ _ (.cons _ _ _ _ hv (.cons _ _ _ _ hu htl2)), h3⟩
  cases x with
  | normal => exact key (resL_sound k2 k1.rel _ _ k4)
  | ret => exact key (resL_sound k2 k1.rel _ _ k4)
  | exit id => exact k4.elim

abbrev CallT := List AV → RM → PostV → Prop

def wpBodyO (P : Program) (fn : Func) (args : List AV) (M : RM) (Q : PostV) : Prop :=
  match fn.body with
  | some c => wpBody P fn c args M Q
  | none => False

theorem callsR_of (hP : POk P) {f : FuncId} {fn : Func} {args : List AV} {M : RM} {Q : PostV} (hfn : P.funcs[f]? = some fn) (h : wpBodyO P fn args M Q) : CallsR P f args M Q := by
  unfold wpBodyO at h
  split at h
  · rename_i c hc; exact callsR_of_body hP hfn hc h
  · cases h
end
end Go.Ab
