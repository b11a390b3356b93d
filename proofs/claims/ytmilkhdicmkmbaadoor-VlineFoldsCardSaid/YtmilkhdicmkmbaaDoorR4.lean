/- New blocks, over data that is not known. By an AI agent. -/
import Derived.Test.YtmilkhdicmkmbaaDoorR3
set_option linter.unusedVariables false
set_option linter.unusedSimpArgs false
namespace Go.Ab
open Go Go.RowKit

def repL (zs : List AV) : Nat → List AV
  | 0 => []
  | n + 1 => zs ++ repL zs n

theorem repL_length (zs : List AV) : ∀ n, (repL zs n).length = n * zs.length
  | 0 => by simp [repL]
  | n + 1 => by simp [repL, repL_length zs n, Nat.add_mul, Nat.add_comm]
theorem repL_get (zs : List AV) (h : 0 < zs.length) : ∀ (n k : Nat), k < n * zs.length → (repL zs n)[k]? = zs[k % zs.length]?
  | 0, k, hk => by simp at hk
  | n + 1, k, hk => by
    simp only [repL]
    by_cases h1 : k < zs.length
    · rw [List.getElem?_append_left h1, Nat.mod_eq_of_lt h1]
    · rw [List.getElem?_append_right (by omega), repL_get zs h n _ (by rw [Nat.add_mul] at hk; omega)]
      congr 1
      have : k = (k - zs.length) + zs.length := by omega
      rw [this, Nat.add_mod_right]; simp
theorem repL_rep (zs : List AV) : ∀ n, newCells.rep zs n = repL zs n
  | 0 => rfl
  | n + 1 => by simp only [newCells.rep, repL, repL_rep zs n]

def fillO : List AV → List (Nat × Nat × AV) → Option (List AV)
  | cs, [] => some cs
  | cs, (off, size, v) :: rest => if v.cells.all oneCell = true ∧ v.cells.length = size ∧ off + size ≤ cs.length then fillO (cs.take off ++ v.cells ++ cs.drop (off + size)) rest else none

def boxW (t : TypeId) (x : AV) (K : RB → (Nat → AV) → Prop) : Prop := x.cells.all oneCell = true ∧ 1 ≤ x.cells.length ∧ K (.row x.cells false t 0) (fun b => .ptr b 0)
def rowsW (elem len : Nat) (zs : List AV) (parts : List (Nat × Nat × AV)) (K : RB → (Nat → AV) → Prop) : Prop :=
  ∃ l, fillO (repL zs len) parts = some l ∧ K (.row l false elem 0) (fun b => .slc b 0 len (.ex len))
def makeW (elem bytes : Nat) (zs : List AV) (x y : AV) (K : RB → (Nat → AV) → Prop) : Prop :=
  ∃ kl kc l c, x = N kl l ∧ y = N kc c ∧ 0 ≤ l ∧ l ≤ c ∧ c.toNat * bytes ≤ 140737488355328 ∧ c.toNat ≤ 140737488355328 ∧ K (.row (repL zs c.toNat) false elem 0) (fun b => .slc b 0 l.toNat (.ex c.toNat))
def bytesW (el : Nat) (x : AV) (K : RB → (Nat → AV) → Prop) : Prop :=
  ∃ s, x = St s ∧ K (.row (s.map fun b => N .u8 b.toNat) true el 0) (fun b => .slc b 0 s.length (.op 1))
def siterW (x : AV) (K : RB → (Nat → AV) → Prop) : Prop := ∃ s, x = St s ∧ K (.siter s 0) (fun b => .ptr b 0)

/-- What operations that make a block make. -/
def niceN (P : Program) (o : Oper) (e : Operand → AV) (K : RB → (Nat → AV) → Prop) : Prop :=
  match o.op with
  | .alloc t => match zerosOf P t with
    | some zs => match Nat.ble 1 zs.length with
      | true => K (.row zs false t 0) (fun b => .ptr b 0)
      | false => False
    | none => False
  | .box t x => boxW t (e x) K
  | .buildSlice t len parts => match P.underlying t with
    | some (.slice elem) => match sizeT P elem, zerosOf P elem with
      | some size, some zs => match Nat.ble 1 size, Nat.beq zs.length size, Nat.ble (len * size) 10000 with
        | true, true, true => rowsW elem len zs (parts.toList.map fun p => (p.1 * size, size, e p.2)) K
        | _, _, _ => False
      | _, _ => False
    | _ => False
  | .makeSlice t l c => match P.underlying t with
    | some (.slice elem) => match sizeT P elem, bytesT P elem, zerosOf P elem with
      | some size, some bytes, some zs => match Nat.ble 1 size, Nat.beq zs.length size with
        | true, true => makeW elem bytes zs (e l) (e c) K
        | _, _ => False
      | _, _, _ => False
    | _ => False
  | .makeMap t r => match r with
    | none => K (.map [] 0) (fun b => .map b)
    | some _ => False
  | .convert src dst x => match P.underlying src, P.underlying dst with
    | some .string, some (.slice el) => match P.underlying el, sizeT P el with
      | some (.int .u8), some 1 => bytesW el (e x) K
      | _, _ => False
    | _, _ => False
  | .range t x => match P.underlying t with
    | some .string => siterW (e x) K
    | _ => False
  | _ => False

section
variable {P : Program} {ρ : Ren} {o : Oper} {e : Operand → AV} {M : RM} {w : World}

/-- The operation makes a block like 'x'. -/
def MakesR (P : Program) (o : Oper) (e : Operand → AV) (x : RB) (mk : Nat → AV) : Prop := ∃ y, allocOp P o e = some (y, mk) ∧ RLe x y

theorem cellAt_tree {tree : Tree AV} {zs : List AV} {n k : Nat} {v : AV} (hk : k < n) (h : tree.get k = some v) : cellAt tree zs n k = some v := by
  unfold cellAt
  rw [ble_iff.2 (by omega), h]

theorem cellAt_zeros {tree : Tree AV} {zs : List AV} {n k : Nat} {v : AV} (hk : k < n) (h : tree.get k = none) (hz : zs[k % zs.length]? = some v) : cellAt tree zs n k = some v := by
  unfold cellAt
  rw [ble_iff.2 (by omega), h]
  simp only
  split
  · simp at hz
  · rename_i z
    simp [Nat.mod_one] at hz
    rw [hz]
  · rw [nth_getElem]; exact hz

theorem fillO_T {size n : Nat} {zs : List AV} : ∀ (parts : List (Nat × AV)) (t : Tree AV) (l : List AV) {l' : List AV}, l.length = n → (∀ (k : Nat) (v : AV), l[k]? = some v → cellAt t zs n k = some v) →
    fillO l (parts.map fun p => (p.1 * size, size, p.2)) = some l' → ∃ t', fillT size n t parts = some t' ∧ l'.length = n ∧ ∀ (k : Nat) (v : AV), l'[k]? = some v → cellAt t' zs n k = some v
  | [], t, l, l', hl, h, hf => by
    simp only [List.map_nil, fillO] at hf
    cases hf
    exact ⟨t, rfl, hl, h⟩
  | (i, v) :: parts, t, l, l', hl, h, hf => by
    simp only [List.map_cons, fillO] at hf
    split at hf <;> first | (cases hf; done) | skip
    rename_i hc
    obtain ⟨c1, c2, c3⟩ := hc
    obtain ⟨t1, ht1⟩ := putAll_all v.cells t (i * size) c1
    obtain ⟨_, hget⟩ := putAll_get _ _ _ ht1
    obtain ⟨t', k1, k2, k3⟩ := fillO_T (zs := zs) parts t1 _ (n := n) (by simp; omega) (fun k u hk => by
      rw [cellAt_put hget]
      by_cases hin : i * size ≤ k ∧ k < i * size + v.cells.length
      · rw [if_pos hin, if_pos (by omega)]
        rw [List.append_assoc, List.getElem?_append_right (by simp; omega), List.getElem?_append_left (by simp; omega)] at hk
        rw [← hk]; congr 1; simp; omega
      · rw [if_neg hin]
        refine h k u ?_
        rw [← hk]
        by_cases hlt : k < i * size
        · rw [List.append_assoc, List.getElem?_append_left (by simp; omega), List.getElem?_take, if_pos hlt]
        · rw [List.getElem?_append_right (by simp; omega), List.getElem?_drop]
          congr 1; simp; omega) hf
    refine ⟨t', ?_, k2, k3⟩
    simp only [fillT, beq_tt c2, ble_iff.2 (show i * size + size ≤ n by omega), ht1]
    exact k1

theorem mkN {K : RB → (Nat → AV) → Prop} {x : RB} {mk : Nat → AV} {y : Blk} (hk : K x mk) (ha : allocOp P o e = some (y, mk)) (hl : RLe x y) : ∃ x mk, MakesR P o e x mk ∧ K x mk := ⟨x, mk, ⟨y, ha, hl⟩, hk⟩

theorem niceN_sound {K : RB → (Nat → AV) → Prop} (h : niceN P o e K) : ∃ x mk, MakesR P o e x mk ∧ K x mk := by
  cases hop : o.op
  case alloc t =>
    simp only [niceN, hop] at h
    split at h <;> first | (cases h; done) | skip
    rename_i zs hz
    split at h <;> first | (cases h; done) | skip
    rename_i hb
    refine mkN h (y := .row zs.length .leaf zs false t 0) (by simp only [allocOp, hop, hz, hb]) ⟨rfl, rfl, rfl, rfl, fun k v hk => ?_⟩
    have hlt := (List.getElem?_eq_some_iff.1 hk).1
    exact cellAt_zeros hlt (by simp [Tree.get]) (by rw [Nat.mod_eq_of_lt hlt]; exact hk)
  case box t x =>
    simp only [niceN, hop] at h
    obtain ⟨h1, h2, hk⟩ := h
    obtain ⟨t', ht⟩ := putAll_all (e x).cells .leaf 0 h1
    obtain ⟨_, hget⟩ := putAll_get _ _ _ ht
    refine mkN hk (y := .row (e x).cells.length t' [] false t 0) (by simp only [allocOp, hop, ht, ble_iff.2 h2]) ⟨rfl, rfl, rfl, rfl, fun k v hk => ?_⟩
    have hlt := (List.getElem?_eq_some_iff.1 hk).1
    exact cellAt_tree hlt (by rw [hget, if_pos (by omega)]; simpa using hk)
  case buildSlice t len parts =>
    simp only [niceN, hop] at h
    split at h <;> first | (cases h; done) | skip
    rename_i elem hu
    split at h <;> first | (cases h; done) | skip
    rename_i size zs hs hz
    split at h <;> first | (cases h; done) | skip
    rename_i h1 h2 h3
    obtain ⟨l, hf, hk⟩ := h
    have h2' := beq_t h2
    have h1' := ble_t h1
    have e0 : (parts.toList.map fun p => (p.1 * size, size, e p.2)) = (parts.toList.map fun p => (p.1, e p.2)).map fun p => (p.1 * size, size, p.2) := by simp
    rw [e0] at hf
    obtain ⟨t', k1, k2, k3⟩ := fillO_T (zs := zs) (n := len * size) _ .leaf _ (by rw [repL_length, h2']) (fun k v hk => by
      have hlt := (List.getElem?_eq_some_iff.1 hk).1
      rw [repL_length] at hlt
      rw [repL_get zs (by omega) len k hlt] at hk
      exact cellAt_zeros (by rw [← h2']; exact hlt) (by simp [Tree.get]) hk) hf
    exact mkN hk (y := .row (len * size) t' zs false elem 0) (by simp only [allocOp, hop, hu, hs, hz, h1, h2, h3, k1]) ⟨k2, rfl, rfl, rfl, k3⟩
  case makeSlice t l c =>
    simp only [niceN, hop] at h
    split at h <;> first | (cases h; done) | skip
    rename_i elem hu
    split at h <;> first | (cases h; done) | skip
    rename_i size bytes zs hs hb hz
    split at h <;> first | (cases h; done) | skip
    rename_i h1 h2
    obtain ⟨kl, kc, nl, nc, hl, hc, h3, h4, h5, h6, hk⟩ := h
    have h2' := beq_t h2
    have h1' := ble_t h1
    refine mkN hk (y := .row (nc.toNat * size) .leaf zs false elem 0) ?_ ⟨by rw [repL_length, h2'], rfl, rfl, rfl, fun k v hk => ?_⟩
    · simp only [allocOp, hop, hu, hl, hc, natOf_N h3, natOf_N (show 0 ≤ nc by omega), hs, hb, hz, h1, h2, ble_iff.2 (show nl.toNat ≤ nc.toNat by omega), ble_iff.2 h5, ble_iff.2 h6]
    · have hlt := (List.getElem?_eq_some_iff.1 hk).1
      rw [repL_length] at hlt
      rw [repL_get zs (by omega) _ k hlt] at hk
      exact cellAt_zeros (by rw [← h2']; exact hlt) (by simp [Tree.get]) hk
  case makeMap t r =>
    simp only [niceN, hop] at h
    split at h <;> first | (cases h; done) | skip
    exact mkN h (y := .map [] 0) (by simp only [allocOp, hop]) ⟨rfl, rfl⟩
  case convert src dst x =>
    simp only [niceN, hop] at h
    split at h <;> first | (cases h; done) | skip
    rename_i el hs hd
    split at h <;> first | (cases h; done) | skip
    rename_i h1 h2
    obtain ⟨s, hx, hk⟩ := h
    refine mkN hk (y := .row s.length (Tree.ofList (s.map fun b => N .u8 b.toNat) 0 .leaf) [] true el 0) (by simp only [allocOp, hop, hs, hd, hx, h1, h2]) ⟨by simp, rfl, rfl, rfl, fun k v hk => ?_⟩
    have hlt := (List.getElem?_eq_some_iff.1 hk).1
    exact cellAt_tree (by simpa using hlt) (by rw [Tree.get_ofList, if_pos (by omega)]; simpa using hk)
  case range t x =>
    simp only [niceN, hop] at h
    split at h <;> first | (cases h; done) | skip
    rename_i hu
    obtain ⟨s, hx, hk⟩ := h
    exact mkN hk (y := .siter ⟨⟨s⟩⟩ 0) (by simp only [allocOp, hop, hu, hx]) ⟨rfl, rfl⟩
  all_goals (simp only [niceN, hop] at h)

theorem makes_after {c : Operand → Value} {x : RB} {mk : Nat → AV} (hw : MRel P ρ M w) (he : ∀ x ∈ o.op.operands, VRel ρ (e x) (c x)) (h : MakesR P o e x mk) :
    ∃ ρ' w' u, (execOp c o).run P w = .ok (.value u) w' ∧ After P M ρ w (M.push x) ρ' w' ∧ VRel ρ' (mk M.next) u := by
  obtain ⟨A, hA⟩ := hw
  obtain ⟨y, ha, hle⟩ := h
  obtain ⟨ρ', w', u, h1, h2, h3, h4⟩ := makes_rel hA.rel hA.size (allocOp_sound he ha w)
  obtain ⟨k1, k2, k3⟩ := RM.push_A hA hle
  exact ⟨ρ', w', u, h1, after_of hA h3 h2 k1 k2 (by simp [AW.push]) k3, by rw [← hA.next]; exact h4⟩
end
end Go.Ab
