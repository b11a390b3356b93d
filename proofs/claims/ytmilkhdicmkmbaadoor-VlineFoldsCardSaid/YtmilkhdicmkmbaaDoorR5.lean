/- Effects and calls, over data that is not known. By an AI agent. -/
import Derived.Test.YtmilkhdicmkmbaaDoorR4
import Derived.Lib.UnsafeStr
set_option linter.unusedVariables false
set_option linter.unusedSimpArgs false
namespace Go.Ab
open Go Go.RowKit

abbrev PostV := AV → RM → Prop

def HasBody (P : Program) (f : FuncId) : Prop := ∃ fn c, P.funcs[f]? = some fn ∧ fn.body = some c

/-- What a call does: called with such arguments, in memory like M, it returns, and so it is then. -/
def CallsR (P : Program) (f : FuncId) (args : List AV) (M : RM) (Q : PostV) : Prop :=
  HasBody P f ∧ ∀ (ρ : Ren) (w : World) (us : List Value), LRel ρ args us → MRel P ρ M w →
    Calls P f ⟨us⟩ w fun e w' => ∃ v' v M' ρ', e = .returned v' ∧ After P M ρ w M' ρ' w' ∧ VRel ρ' v v' ∧ Q v M'

theorem CallsR.mono {P : Program} {f : FuncId} {args : List AV} {M : RM} {Q Q' : PostV} (h : CallsR P f args M Q) (hq : ∀ v M', Q v M' → Q' v M') : CallsR P f args M Q' :=
  ⟨h.1, fun ρ w us a b => (h.2 ρ w us a b).mono fun e w' ⟨v', v, M', ρ', c, d, f, g⟩ => ⟨v', v, M', ρ', c, d, f, hq _ _ g⟩⟩

/-- What one operation does. -/
def DoesR (P : Program) (o : Oper) (e : Operand → AV) (M : RM) (K : PostV) : Prop :=
  ∀ (ρ : Ren) (w : World) (c : Operand → Value), MRel P ρ M w → (∀ x ∈ o.op.operands, VRel ρ (e x) (c x)) → ∃ M' ρ' w', After P M ρ w M' ρ' w' ∧
    ((∃ v' v, (execOp c o).run P w = .ok (.value v') w' ∧ VRel ρ' v v' ∧ K v M') ∨ ((execOp c o).run P w = .ok .skip w' ∧ K .undef M') ∨
      ∃ f args us, (execOp c o).run P w = .ok (.enter f ⟨us⟩) w' ∧ LRel ρ' args us ∧ CallsR P f args M' K)

/-! ### the effects -/
def storeW (M : RM) (a x : AV) (n : Nat) (K : RM → Prop) : Prop := ∃ b p M', a = .ptr b p ∧ x.cells.length = n ∧ M.stores b p x.cells = some M' ∧ K M'

def newL (M : RM) (size : Nat) (zs : List AV) (zeros : Bool) (x : AV) : Option (Nat × List AV) :=
  match zeros with
  | true => match x with
    | .sc (.int _ n) => if 0 ≤ n then some (n.toNat, repL zs n.toNat) else none
    | _ => none
  | false => match x with
    | .slc b o len _ => match M.loads b o (len * size) with
      | some vs => some (len, vs)
      | none => none
    | .emp _ => some (0, [])
    | .sc (.slice none 0 0) => some (0, [])
    | .sc (.string s) => if size = 1 then some (s.data.toList.length, s.data.toList.map fun b => N .u8 b.toNat) else none
    | _ => none

def appM (elem size bytes n : Nat) (new : List AV) (s : AV) (M : RM) : Option (AV × RM) :=
  match s with
  | .sc (.slice none 0 0) => if n = 0 then some (s, M) else if new.all oneCell = true then some (.slc M.next 0 n (.op size), M.push (.row new true elem 0)) else none
  | .emp _ => if n = 0 then some (s, M) else none
  | .slc b o len (.ex c) => if n = 0 then (if len ≤ c then some (s, M) else none) else if len + n ≤ c then (match M.stores b (o + len * size) new with
      | some M' => some (.slc b o (len + n) (.ex c), M')
      | none => none)
    else match M.loads b o (len * size) with
      | some old => if (len + n) * bytes ≤ 140737488355328 ∧ len + n ≤ 140737488355328 ∧ (old ++ new).all oneCell = true then some (.slc M.next 0 (len + n) (.op size), M.push (.row (old ++ new) true elem 0)) else none
      | none => none
  | .slc b o len (.op esz) => if n = 0 then some (s, M) else match M.heap b with
    | some (.row l opn el fz) => if opn = true ∧ esz = size then
        (if o + (len + n) * size ≤ l.length then (match M.stores b (o + len * size) new with
          | some M' => some (.slc b o (len + n) (.op esz), M')
          | none => none)
        else if el = elem ∧ (len + n) * bytes ≤ 140737488355328 ∧ len + n ≤ 140737488355328 ∧ o = 0 ∧ l.length = len * size ∧ fz ≤ len * size ∧ new.all oneCell = true then
          some (.slc M.next 0 (len + n) (.op size), (M.del b).push (.row (l ++ new) true elem fz)) else none) else none
    | _ => none
  | _ => none

def appW (elem size bytes : Nat) (zs : List AV) (zeros : Bool) (s x : AV) (M : RM) (K : PostV) : Prop :=
  ∃ n new, newL M size zs zeros x = some (n, new) ∧ n * bytes ≤ 140737488355328 ∧ n ≤ 140737488355328 ∧ ∃ v M', appM elem size bytes n new s M = some (v, M') ∧ K v M'

def firstM (M : RM) (size k : Nat) : AV → Option (List AV)
  | .slc b o _ _ => M.loads b o (k * size)
  | .sc (.string s) => if size = 1 then some ((s.data.toList.take k).map fun b => N .u8 b.toNat) else none
  | _ => none

def copyM (size : Nat) (d x : AV) (M : RM) : Option (AV × RM) :=
  match d with
  | .slc b o dn _ => match lenA x with
    | some sn => if Nat.min sn dn = 0 then some (N .i64 0, M) else match firstM M size (Nat.min sn dn) x with
      | some vs => match M.stores b o vs with
        | some M' => some (N .i64 (Nat.min sn dn : Nat), M')
        | none => none
      | none => none
    | none => none
  | .emp _ | .sc (.slice none 0 0) => match lenA x with
    | some _ => some (N .i64 0, M)
    | none => none
  | _ => none

def copyW (size : Nat) (d x : AV) (M : RM) (K : PostV) : Prop := ∃ v M', copyM size d x M = some (v, M') ∧ K v M'
def clearW (zs : List AV) (x : AV) (M : RM) (K : PostV) : Prop :=
  (∃ b p n cap M', x = .slc b p n cap ∧ M.stores b p (repL zs n) = some M' ∧ K .undef M') ∨ (∃ b, x = .emp b ∧ K .undef M) ∨ (x = .sc (.slice none 0 0) ∧ K .undef M)

def callV (C : FuncId → List AV → RM → PostV → Prop) (f : AV) (args : List AV) (M : RM) (K : PostV) : Prop := ∃ g first cap, f = .fn (.func g) first cap ∧ C g (first ++ args ++ cap) M K
/-- A function without a text that leaves memory as it is. -/
def nativeR (P : Program) (g : FuncId) (args : List AV) (M : RM) (v : AV) : Prop :=
  ∀ (ρ : Ren) (w : World) (us : List Value), LRel ρ args us → MRel P ρ M w → ∃ u, (callFunc g ⟨us⟩).run P w = .ok (.value u) w ∧ VRel ρ v u
/-- Functions without a text: those that reckon; slices.overlaps of two rows that are not one; abi.NoEscape. -/
def extnW (P : Program) (g : FuncId) (args : List AV) (M : RM) (K : PostV) : Prop :=
  (∃ v, enterA P g args = some (.value v) ∧ K v M) ∨
  ((∃ fn t elem size tr, P.funcs[g]? = some fn ∧ fn.body = none ∧ Extern.findNext fn = none ∧ Extern.find fn = some (Extern.SlicesOverlaps.overlaps #[t, t] #[tr]) ∧ P.underlying t = some (.slice elem) ∧ sizeT P elem = some size) ∧
    (∃ ba oa na ca bb ob nb cb la ea fa lb opb eb fb, args = [.slc ba oa na ca, .slc bb ob nb cb] ∧ ba ≠ bb ∧ M.heap ba = some (.row la false ea fa) ∧ M.heap bb = some (.row lb opb eb fb) ∧ fa = 0 ∧ oa + 1 ≤ la.length ∧ 1 ≤ lb.length) ∧ K (Bo false) M) ∨
  ((∃ fn, P.funcs[g]? = some fn ∧ fn.body = none ∧ Extern.findNext fn = none ∧ Extern.find fn = some Extern.AbiNoEscape.same) ∧ ∃ v, args = [v] ∧ K v M) ∨
  ∃ v, nativeR P g args M v ∧ K v M

def snextW (x : AV) (M : RM) (K : PostV) : Prop := ∃ b s pos, x = .ptr b 0 ∧ M.heap b = some (.siter s pos) ∧
  if pos < s.length then K (.tup [Bo true, N .i64 pos, N .i32 (Utf8.decode ⟨⟨s⟩⟩ pos).1]) (M.put b (.siter s (pos + (Utf8.decode ⟨⟨s⟩⟩ pos).2))) else K (.tup [Bo false]) M

/-- A constant's bytes: the row gets a mark behind its end. -/
def markW (x : AV) (M : RM) (K : PostV) : Prop := ∃ b p n c l el, x = .slc b p n (.ex c) ∧ M.heap b = some (.row l false el 0) ∧ K x (M.put b (.row l false el (l.length + 1)))

/-- A row of bytes becomes a text; the row is not looked at any more. -/
def ustrW (el : Nat) (x n : AV) (M : RM) (K : PostV) : Prop :=
  (∃ b k l opn fz s, x = .ptr b 0 ∧ n = N .i64 ((k + 1 : Nat) : Int) ∧ k ≤ 4611686018427387904 ∧ M.heap b = some (.row l opn el fz) ∧ k + 1 ≤ l.length ∧ mapO byteOf (l.take (k + 1)) = some s ∧ K (St s) (M.del b)) ∨
  (x = .sc (.pointer none) ∧ n = N .i64 0 ∧ K (St []) M)

def niceE (P : Program) (o : Oper) (e : Operand → AV) (M : RM) (K : PostV) : Prop :=
  match o.op with
  | .store t a x => match sizeT P t with
    | some n => storeW M (e a) (e x) n (K .undef)
    | none => False
  | .call { callee := .builtin .append, args, argTypes } => match argTypes[0]?, args with
    | some t, ⟨[s, x]⟩ => match P.underlying t, zerosArg P argTypes with
      | some (.slice elem), some zeros => match sizeT P elem, bytesT P elem, zerosOf P elem with
        | some size, some bytes, some zs => match Nat.ble 1 size, Nat.beq zs.length size with
          | true, true => appW elem size bytes zs zeros (e s) (e x) M K
          | _, _ => False
        | _, _, _ => False
      | _, _ => False
    | _, _ => False
  | .call { callee := .builtin .copy, args, argTypes } => match argTypes[0]?, args with
    | some t, ⟨[s, x]⟩ => match P.underlying t with
      | some (.slice elem) => match sizeT P elem with
        | some size => copyW size (e s) (e x) M K
        | none => False
      | _ => False
    | _, _ => False
  | .call { callee := .builtin .clear, args, argTypes } => match argTypes[0]?, args with
    | some t, ⟨[x]⟩ => match P.underlying t with
      | some (.slice elem) => match sizeT P elem, zerosOf P elem with
        | some size, some zs => match Nat.ble 1 size, Nat.beq zs.length size with
          | true, true => clearW zs (e x) M K
          | _, _ => False
        | _, _ => False
      | _ => False
    | _, _ => False
  | .call { callee := .builtin .unsafeString, args, argTypes } => match argTypes[0]?, args with
    | some t, ⟨[x, n]⟩ => match P.underlying t with
      | some (.pointer el) => match P.underlying el, Nat.beq (P.cellsOf el) 1 with
        | some (.int .u8), true => ustrW el (e x) (e n) M K
        | _, _ => False
      | _ => False
    | _, _ => False
  | .call { callee := .value (.func g), args, .. } => match P.funcs[g]? with
    | some fn => match fn.body with
      | some _ => CallsR P g (args.toList.map e) M K
      | none => extnW P g (args.toList.map e) M K
    | none => False
  | .call { callee := .value f, args, .. } => callV (CallsR P) (e f) (args.toList.map e) M K
  | .next it true => snextW (e it) M K
  | .convert src dst x => match Nat.beq src dst, P.underlying src with
    | true, some (.slice el) => match P.underlying el with
      | some (.int .u8) => markW (e x) M K
      | _ => False
    | _, _ => False
  | _ => False

/-! ### they are sound -/
section
variable {P : Program} {ρ : Ren} {o : Oper} {e : Operand → AV} {c : Operand → Value} {M : RM} {w : World} {K : PostV}

/-- What is owed for a program: no function counts goroutines; orders may be mixed. -/
structure POk (P : Program) : Prop where
  ng : ∀ (f : FuncId) (fn : Func), P.funcs[f]? = some fn → fn.name ≠ "runtime.NumGoroutine"
  mixed : P.follows .mixedOrders = true

theorem newL_rel (hw : MRel P ρ M w) {elem size : Nat} {zs : List AV} {zeros : Bool} {x : AV} {u : Value} {n : Nat} {new : List AV} (hx : VRel ρ x u) (hzs : zerosOf P elem = some zs) (h1 : 1 ≤ size) (h2 : zs.length = size)
    (h : newL M size zs zeros x = some (n, new)) : ∃ us, News P ρ w elem size zeros u n new us := by
  unfold newL at h
  split at h
  · split at h <;> first | (cases h; done) | skip
    rename_i k m
    split at h <;> first | (cases h; done) | skip
    rename_i hm
    cases h
    obtain ⟨it, z, hi, hz, hr⟩ := zerosOf_inv (ρ := ρ) hzs
    obtain ⟨rfl, _⟩ := sc_inv hx
    have hl := hr.length
    simp only [Array.length_toList] at hl
    refine ⟨(Builtin.zeroCells z.cells m.toNat).toList, by rw [← repL_rep]; exact rep_rel hr (by omega) _, by rw [Array.length_toList, size_zeroCells, ← hl, h2], (by simp only [if_true]; exact ⟨k, by congr 1; omega⟩), (fun e => by cases e), fun _ => ⟨it, z, hi, hz, rfl⟩⟩
  · split at h <;> first | (cases h; done) | skip
    · rename_i b o len cap
      split at h <;> first | (cases h; done) | skip
      rename_i xs hl
      cases h
      obtain ⟨i, cp, hb, rfl⟩ := slc_inv hx
      obtain ⟨vs, hr, hlen, hcell⟩ := RM.loads_rel hw hb hl
      refine ⟨vs, hr, hlen, by simp [Builtin.lenOf], fun _ w' hw' => ?_, fun e => by cases e⟩
      have := run_loadCells_list (P := P) w' ⟨i.cb, i.sh + o, none⟩ vs (fun j v hj => by rw [← hcell j v hj]; simp [World.cell?, hw'])
      rw [hlen] at this
      simp [Builtin.firstCells, this]
    · cases h
      cases hx with
      | emp b ad c =>
      exact ⟨[], .nil, by simp, by simp [Builtin.lenOf], fun _ _ _ => by simp [Builtin.firstCells, loadCells, loadCellsFrom], fun e => by cases e⟩
    · cases h
      obtain ⟨rfl, _⟩ := sc_inv hx
      exact ⟨[], .nil, by simp, by simp [Builtin.lenOf], fun _ _ _ => by simp [Builtin.firstCells], fun e => by cases e⟩
    · rename_i s
      split at h <;> first | (cases h; done) | skip
      rename_i hsz
      cases h
      subst hsz
      obtain ⟨rfl, _⟩ := sc_inv hx
      refine ⟨_, bytes_rel s, by simp, by simp [Builtin.lenOf], fun _ _ _ => ?_, fun e => by cases e⟩
      simp only [Builtin.firstCells, Sem.run_pure]
      congr 1
      have : (s.extract 0 s.data.toList.length) = s := by
        have h : s.data.toList.length = s.size := by rw [Array.length_toList]; rfl
        rw [h]; simp
      rw [this]
      apply Array.ext'
      simp

def DoesM (P : Program) (ρ : Ren) (M : RM) (w : World) (run : World → Result Value) (v : AV) (M' : RM) : Prop :=
  ∃ ρ' w' v', run w = .ok v' w' ∧ After P M ρ w M' ρ' w' ∧ VRel ρ' v v'

variable {A : AW} {M' : RM} {A' : AW}

theorem doesM_of (h : MRelA P ρ M w A) {run : World → Result Value} {v : AV} (hd : DoesV P M.base ρ A w run v A') (hlo : M'.base = M.base) (hn : A'.next = M'.next)
    (hb : ∀ b x, M'.heap b = some x → (∃ y, A'.heap.get b = some y ∧ RLe x y) ∨ ∃ c, x = .ro c ∧ M.heap b = some x) : DoesM P ρ M w run v M' := by
  obtain ⟨ρ', w', v', h1, h2, h3, h4, h5⟩ := hd
  exact ⟨ρ', w', v', h1, after_of h h2 h3 hlo hn h4 hb, h5⟩

theorem same_blk (h : MRelA P ρ M w A) : ∀ b x, M.heap b = some x → (∃ y, A.heap.get b = some y ∧ RLe x y) ∨ ∃ c, x = .ro c ∧ M.heap b = some x := by
  intro b x hx
  rcases h.blk b x hx with h1 | ⟨c, rfl, _⟩
  · exact .inl h1
  · exact .inr ⟨c, rfl, hx⟩

theorem putAll_list {l : List AV} {t : Tree AV} (h : putAll .leaf 0 l = some t) : RLe (.row l true 0 0) (.row l.length t [] true 0 0) ∧ ∀ (k : Nat) (v : AV), l[k]? = some v → cellAt t [] l.length k = some v := by
  obtain ⟨_, hget⟩ := putAll_get _ _ _ h
  have : ∀ (k : Nat) (v : AV), l[k]? = some v → cellAt t [] l.length k = some v := fun k v hk => by
    have hlt := (List.getElem?_eq_some_iff.1 hk).1
    exact cellAt_tree hlt (by rw [hget, if_pos (by omega)]; simpa using hk)
  exact ⟨⟨rfl, rfl, rfl, rfl, this⟩, this⟩

theorem appM_sound (h : MRelA P ρ M w A) {elem size bytes n : Nat} {zeros : Bool} {x : Value} {new : List AV} {us : List Value} (h1 : 1 ≤ size) {s v : AV} {u : Value} (hs : VRel ρ s u) (hn : News P ρ w elem size zeros x n new us)
    {t : TypeId} {ts : Array TypeId} {ty : TypeId} (ht : ts[0]? = some t) (hu : P.underlying t = some (.slice elem)) (hzs : zerosArg P ts = some zeros)
    {it : TypeInfo} {z : Value} (hi : P.info? elem = some it) (hz : it.zero = some z) (hsi : it.size = size) (hzc : z.cells.size = size) (hb : it.bytes = bytes) (hnb : n * bytes ≤ 140737488355328) (hnl : n ≤ 140737488355328)
    (ha : appM elem size bytes n new s M = some (v, M')) : DoesM P ρ M w (fun w => (Builtin.append_ ts ty #[u, x]).run P w) v M' := by
  have key : ∀ {A' : AW}, appendS elem size bytes n new s A = some (v, A') → M'.base = M.base → A'.next = M'.next →
      (∀ b x, M'.heap b = some x → (∃ y, A'.heap.get b = some y ∧ RLe x y) ∨ ∃ c, x = .ro c ∧ M.heap b = some x) → DoesM P ρ M w (fun w => (Builtin.append_ ts ty #[u, x]).run P w) v M' :=
    fun hA a b c => doesM_of h (appendS_sound h.rel h.size h1 hs hn ht hu hzs hi hz hsi hzc hb hnb hnl hA) a b c
  have hnw : new.length = n * size := by rw [hn.rel.length, hn.len]
  unfold appM at ha
  split at ha
  · split at ha
    · rename_i h0
      cases ha
      exact key (by simp only [appendS, h0]) rfl h.next (same_blk h)
    · rename_i h0
      split at ha <;> first | (cases ha; done) | skip
      rename_i hall
      cases ha
      obtain ⟨tr, htr⟩ := putAll_all new .leaf 0 hall
      obtain ⟨_, hcell⟩ := putAll_list htr
      cases n with
      | zero => exact absurd rfl h0
      | succ n =>
      obtain ⟨k1, k2, k3⟩ := RM.push_A h (x := .row new true elem 0) (y := .row ((n + 1) * size) tr [] true elem 0) ⟨hnw, rfl, rfl, rfl, fun k v hk => by rw [← hnw]; exact hcell k v hk⟩
      exact key (by simp only [appendS, htr, h.next]) k1 k2 k3
  · split at ha <;> first | (cases ha; done) | skip
    rename_i h0
    cases ha
    exact key (by simp only [appendS, h0]) rfl h.next (same_blk h)
  · rename_i b o len cc
    split at ha
    · rename_i h0
      split at ha <;> first | (cases ha; done) | skip
      rename_i hle
      cases ha
      subst h0
      cases hs with
      | slcS _ _ _ _ i hbi =>
      have hus : us = [] := List.eq_nil_of_length_eq_zero (by simpa using hn.len)
      refine ⟨ρ, w, _, run_room hn ht hu hzs hi hsi hb hnb hnl (by omega) (w1 := w) (by simp [hus, storeCells]), After.refl ⟨A, h⟩, ?_⟩
      exact .slcS _ _ _ _ i hbi
    rename_i hn0
    split at ha
    · rename_i hle
      split at ha <;> first | (cases ha; done) | skip
      rename_i M1 hst
      cases ha
      obtain ⟨A1, a1, a2, a3, a4, a5⟩ := RM.stores_A h hst
      exact key (by simp only [appendS, ble_iff.2 hle, a1]) a2 a3 a5
    · rename_i hle
      split at ha <;> first | (cases ha; done) | skip
      rename_i old hl
      split at ha <;> first | (cases ha; done) | skip
      rename_i hcond
      obtain ⟨c1, c2, c3⟩ := hcond
      cases ha
      cases hs with
      | slcS _ _ _ _ i hbi =>
      obtain ⟨vs, hr, hlen, hcell⟩ := RM.loads_rel ⟨A, h⟩ hbi hl
      obtain ⟨tr, htr⟩ := putAll_all (old ++ new) .leaf 0 c3
      obtain ⟨_, hget⟩ := putAll_get _ _ _ htr
      obtain ⟨_, hrow⟩ := putAll_list htr
      have hol : old.length = len * size := by rw [hr.length, hlen]
      have htot : (old ++ new).length = (len + n) * size := by rw [List.length_append, hol, hnw, ← Nat.add_mul]
      have hr2 := run_grow hn (ty := ty) ht hu hzs hi hz hsi hb hnb hnl hle c1 c2 (ad := some ⟨i.cb, i.sh + o, none⟩) (vs := vs) (fun w' hw' => by
        have := run_loadCells_list (P := P) w' ⟨i.cb, i.sh + o, none⟩ vs (fun j v hj => by rw [← hcell j v hj]; simp [World.cell?, hw'])
        rw [hlen] at this
        simp [Builtin.firstCells, this])
      have hge := grownCap_ge w (len + n) cc elem
      have hlen2 := hn.len
      obtain ⟨k1, k2, k3⟩ := RM.push_A h (x := .row (old ++ new) true elem 0) (y := .row ((len + n) * size) tr [] true elem 0) ⟨htot, rfl, rfl, rfl, fun k v hk => by rw [← htot]; exact hrow k v hk⟩
      have hsz : sizeT P elem = some size := by simp [sizeT, hi, hsi]
      have hd := grown_does h.rel h.size h1 hsz (cap := grownCap w (len + n) cc elem) (need := len + n) (tree := tr) (z := []) (fz := 0) (cs := ⟨vs⟩ ++ ⟨us⟩ ++ Builtin.zeroCells z.cells (grownCap w (len + n) cc elem - (len + n)))
        (run := fun w => (Builtin.append_ ts ty #[.slice (some ⟨i.cb, i.sh + o, none⟩) len cc, x]).run P w) (by
          simp only [Array.size_append, List.size_toArray, size_zeroCells, hzc, hlen, hlen2, ← Nat.add_mul]
          congr 1; omega) hge (fun k y hk => by
          obtain ⟨hk1, hk2⟩ := cellAt_nozeros hk
          rw [hget, if_pos (by omega), Nat.sub_zero] at hk2
          rw [getElem?_three]
          by_cases hlt : k < vs.length
          · rw [if_pos hlt]
            rw [List.getElem?_append_left (by omega)] at hk2
            exact hr.get hk2
          · rw [if_neg hlt, if_pos (by rw [hlen, hlen2, ← Nat.add_mul]; omega)]
            rw [List.getElem?_append_right (by omega), hr.length] at hk2
            exact hn.rel.get hk2) hr2
      rw [h.next] at hd
      exact doesM_of h hd k1 k2 k3
  · rename_i b o len esz
    split at ha
    · rename_i h0
      cases ha
      exact key (by simp only [appendS, h0]) rfl h.next (same_blk h)
    · rename_i h0
      cases n with
      | zero => exact absurd rfl h0
      | succ n =>
      split at ha <;> first | (cases ha; done) | skip
      rename_i l opn el fz hh
      split at ha <;> first | (cases ha; done) | skip
      rename_i hc
      obtain ⟨rfl, rfl⟩ := hc
      rcases h.blk b _ hh with ⟨y, hy, hle⟩ | ⟨c, e, _⟩
      · cases y <;> first | exact hle.elim | skip
        rename_i kn tree zs opn' elem' fz'
        obtain ⟨q1, rfl, rfl, rfl, q5⟩ := hle
        have hbo : (true && Nat.beq esz esz) = true := by simp
        split at ha
        · rename_i hroom
          split at ha <;> first | (cases ha; done) | skip
          rename_i M1 hst
          cases ha
          obtain ⟨A1, a1, a2, a3, a4, a5⟩ := RM.stores_A h hst
          exact key (by simp only [appendS, hy, hbo, ble_iff.2 (show o + (len + (n + 1)) * esz ≤ kn by omega), a1]) a2 a3 a5
        · rename_i hroom
          split at ha <;> first | (cases ha; done) | skip
          rename_i hcond
          obtain ⟨rfl, c2, c3, rfl, c5, c6, c8⟩ := hcond
          cases ha
          obtain ⟨tr, htr⟩ := putAll_all new tree (len * esz) c8
          obtain ⟨_, hget⟩ := putAll_get _ _ _ htr
          have hl : A.loads b 0 (len * esz) = some ((l.drop 0).take (len * esz)) := by
            unfold AW.loads; rw [hy]; exact cells_of q5 _ _ (by omega)
          refine key (A' := { next := A.next + 1, heap := (A.heap.del b).set A.next (.row ((len + (n + 1)) * esz) tr zs true elem' fz') }) ?_ rfl (by simp [RM.push, RM.del, h.next]) ?_
          · simp only [appendS, hy, hbo, ble_ff (show ¬ 0 + (len + (n + 1)) * esz ≤ kn by omega), hl, htr, h.next]
            rw [beq_tt rfl, ble_iff.2 c2, ble_iff.2 c3, beq_tt rfl, beq_tt (show kn = len * esz by omega), ble_iff.2 c6]
            rfl
          · intro d y hd
            change (if d = M.next then some (RB.row (l ++ new) true elem' fz') else if d = b then none else M.heap d) = some y at hd
            simp only [Tree.get_set, Tree.get_del, h.next]
            by_cases e1 : d = M.next
            · subst e1
              rw [if_pos rfl] at hd ⊢
              cases hd
              refine .inl ⟨_, rfl, by rw [List.length_append, c5, hnw, ← Nat.add_mul], rfl, rfl, rfl, fun k v hk => ?_⟩
              rw [cellAt_put hget]
              by_cases hin : len * esz ≤ k ∧ k < len * esz + new.length
              · rw [if_pos hin, if_pos (by rw [Nat.add_mul]; omega)]
                rw [List.getElem?_append_right (by omega), c5] at hk
                exact hk
              · rw [if_neg hin]
                have hkl : k < l.length := by
                  have := (List.getElem?_eq_some_iff.1 hk).1
                  rw [List.length_append] at this; omega
                rw [List.getElem?_append_left hkl] at hk
                rw [← q5 k v hk]
                exact cellAt_bound (by rw [Nat.add_mul]; omega) (by omega)
            · rw [if_neg e1] at hd ⊢
              by_cases e2 : d = b
              · subst e2; rw [if_pos rfl] at hd; cases hd
              · rw [if_neg e2] at hd ⊢
                exact same_blk h d y hd
      · cases e
  · cases ha

/-- An operation that gives a value and changes memory. -/
theorem doesM_does {run : World → Result Value} {v : AV} (h : DoesM P ρ M w run v M') (hr : ∀ v' w', run w = .ok v' w' → (execOp c o).run P w = .ok (.value v') w') (hk : K v M') :
    ∃ M' ρ' w', After P M ρ w M' ρ' w' ∧
    ((∃ v' v, (execOp c o).run P w = .ok (.value v') w' ∧ VRel ρ' v v' ∧ K v M') ∨ ((execOp c o).run P w = .ok .skip w' ∧ K .undef M') ∨
      ∃ f args us, (execOp c o).run P w = .ok (.enter f ⟨us⟩) w' ∧ LRel ρ' args us ∧ CallsR P f args M' K) := by
  obtain ⟨ρ', w', v', h1, h2, h3⟩ := h
  exact ⟨M', ρ', w', h2, .inl ⟨v', v, hr _ _ h1, h3, hk⟩⟩

theorem storesM (hw : MRel P ρ M w) {b p : Nat} {i : Info} {xs : List AV} {vs : List Value} (hb : ρ b = some i) (hv : LRel ρ xs vs) (h : M.stores b p xs = some M') :
    ∃ w', (∀ off, off = i.sh + p → (storeCells ⟨i.cb, off, none⟩ vs).run P w = .ok () w') ∧ After P M ρ w M' ρ w' := by
  obtain ⟨A, hA⟩ := hw
  obtain ⟨A1, a1, a2, a3, a4, a5⟩ := RM.stores_A hA h
  obtain ⟨w1, hrun, hw1, hstep, hnext⟩ := stores_rel hA.rel hb hv a1
  exact ⟨w1, hrun, after_of hA hstep hw1 a2 a3 (by omega) a5⟩

theorem known_cells {x : AV} {M' : RM} {b p : Nat} (h : M.stores b p x.cells = some M') : ∀ (_ : x = .top), False := by
  intro e0
  unfold RM.stores at h
  split at h <;> first | (cases h; done) | skip
  split at h <;> first | (cases h; done) | skip
  rename_i hc
  rw [e0] at hc
  simp [AV.cells, oneCell] at hc

theorem store_does {t : TypeId} {a x : Operand} (hop : o.op = .store t a x) {n : Nat} (hs : sizeT P t = some n) {K : RM → Prop} (h : storeW M (e a) (e x) n K) : DoesR P o e M (fun _ M' => K M') := by
  obtain ⟨b, p, M', hea, hn, hst, hk⟩ := h
  intro ρ w c hw he
  have ha : VRel ρ (e a) (c a) := he a (by rw [hop]; simp [Op.operands])
  have hx : VRel ρ (e x) (c x) := he x (by rw [hop]; simp [Op.operands])
  rw [hea] at ha
  obtain ⟨i, hb, hc⟩ := ptr_inv ha
  have hcl := hx.cells (known_cells hst)
  have hlen := hcl.length
  simp only [Array.length_toList] at hlen
  obtain ⟨w1, hrun, haft⟩ := storesM hw hb hcl hst
  refine ⟨M', ρ, w1, haft, .inr (.inl ⟨?_, hk⟩)⟩
  simp only [execOp, hop, Instr.storeAt, Instr.sureAddr, hc, Sem.run_bind, Sem.run_pure, Result.andThen_ok, storeVar, sizeT_run hs]
  rw [if_neg (by omega)]
  rw [hrun _ rfl]
  rfl

theorem DoesR.mono (h : DoesR P o e M K) {K' : PostV} (hk : ∀ v M', K v M' → K' v M') : DoesR P o e M K' := by
  intro ρ w c hw he
  obtain ⟨M', ρ', w', h1, h2⟩ := h ρ w c hw he
  refine ⟨M', ρ', w', h1, ?_⟩
  rcases h2 with ⟨v', v, a, b, d⟩ | ⟨a, b⟩ | ⟨f, args, us, a, b, d⟩
  · exact .inl ⟨v', v, a, b, hk _ _ d⟩
  · exact .inr (.inl ⟨a, hk _ _ b⟩)
  · exact .inr (.inr ⟨f, args, us, a, b, d.mono hk⟩)

theorem firstM_run (hw : MRel P ρ M w) {x : AV} {u : Value} {size k : Nat} {vs : List AV} (hx : VRel ρ x u) (h : firstM M size k x = some vs) : ∃ us, LRel ρ vs us ∧ (Builtin.firstCells size k u).run P w = .ok ⟨us⟩ w := by
  unfold firstM at h
  split at h <;> first | (cases h; done) | skip
  · obtain ⟨i, cp, hb, rfl⟩ := slc_inv hx
    obtain ⟨us, hr, hlen, _, hrun⟩ := RM.run_loads (P := P) hw hb h
    exact ⟨us, hr, by simp only [Builtin.firstCells]; exact hrun⟩
  · rename_i s
    split at h <;> first | (cases h; done) | skip
    cases h
    obtain ⟨rfl, _⟩ := sc_inv hx
    have hr : LRel ρ ((s.data.toList.take k).map fun b => AV.sc (.int .u8 b.toNat)) ((s.data.toList.take k).map fun b => Value.int .u8 b.toNat) := by
      generalize s.data.toList.take k = l
      induction l with
      | nil => exact .nil
      | cons b l ih => exact .cons _ _ _ _ (.sc _ rfl) ih
    refine ⟨_, hr, ?_⟩
    simp only [Builtin.firstCells, Sem.run_pure]
    congr 1
    apply Array.ext'
    simp [ByteArray.data_extract]

theorem copy_does {t elem : TypeId} {d x : Operand} {ts : Array TypeId} (hop : o.op = .call { callee := .builtin .copy, args := ⟨[d, x]⟩, argTypes := ts }) (ht : ts[0]? = some t) (hu : P.underlying t = some (.slice elem))
    {size : Nat} (hs : sizeT P elem = some size) {v : AV} (h : copyM size (e d) (e x) M = some (v, M')) (hk : K v M') : DoesR P o e M K := by
  intro ρ w c hw he
  have hd : VRel ρ (e d) (c d) := he d (by rw [hop]; simp [Op.operands, Call.operands])
  have hx : VRel ρ (e x) (c x) := he x (by rw [hop]; simp [Op.operands, Call.operands])
  have key : ∀ {dA : Option Addr} {dl dc sn : Nat} {us : List Value} {w1 : World}, c d = .slice dA dl dc → (Builtin.lenOf (c x)).run P w = .ok sn w → (Builtin.firstCells size (Nat.min sn dl) (c x)).run P w = .ok ⟨us⟩ w →
      (match dA with | some a => (storeCells a us).run P w = .ok () w1 | none => w1 = w) → (execOp c o).run P w = .ok (.value (.int .i64 (Nat.min sn dl : Nat))) w1 := by
    intro dA dl dc sn us w1 hcd hl hf hst
    have : (Builtin.copy_ ts o.type #[c d, c x]).run P w = .ok (.int .i64 (Nat.min sn dl : Nat)) w1 := by
      simp only [Builtin.copy_, ht, List.getElem?_toArray, List.getElem?_cons_zero, List.getElem?_cons_succ, Sem.run_bind, run_underlying hu, Result.andThen_ok, hcd, hl, sizeT_run hs, hf]
      cases dA with
      | none => simp only at hst; subst hst; rfl
      | some a => simp only at hst; simp only [Sem.run_bind, hst, Result.andThen_ok, Sem.run_pure, goInt]
    simp only [execOp, hop, resolve, invoke, builtin, Sem.run_bind, Sem.run_pure, Result.andThen_ok]
    rw [show (Array.map c ⟨[d, x]⟩) = #[c d, c x] by simp, this]
    rfl
  unfold copyM at h
  split at h <;> first | (cases h; done) | skip
  · rename_i b p dn cap hed
    rw [hed] at hd
    obtain ⟨i, cp, hb, hcd⟩ := slc_inv hd
    split at h <;> first | (cases h; done) | skip
    rename_i sn hsn
    have hl := lenA_run (P := P) hx hsn w
    split at h
    · rename_i hm
      cases h
      refine ⟨M, ρ, w, After.refl hw, .inl ⟨_, _, key hcd hl (by rw [hm]; exact firstCells_zero hx hsn w) (w1 := w) rfl, ?_, hk⟩⟩
      rw [hm]; exact .sc _ rfl
    · split at h <;> first | (cases h; done) | skip
      rename_i vs hvs
      split at h <;> first | (cases h; done) | skip
      rename_i M1 hst
      cases h
      obtain ⟨us, hr, hf⟩ := firstM_run hw hx hvs
      obtain ⟨w1, hrun, haft⟩ := storesM hw hb hr hst
      exact ⟨M', ρ, w1, haft, .inl ⟨_, _, key hcd hl hf (w1 := w1) (hrun _ rfl), .sc _ rfl, hk⟩⟩
  · rename_i b hed
    rw [hed] at hd
    generalize hcd : c d = cd at hd
    cases hd with
    | emp _ ad cp =>
    split at h <;> first | (cases h; done) | skip
    rename_i sn hsn
    cases h
    have hl := lenA_run (P := P) hx hsn w
    have hm : Nat.min sn 0 = 0 := Nat.min_zero _
    refine ⟨M, ρ, w, After.refl hw, .inl ⟨_, _, key hcd hl (by rw [hm]; exact firstCells_zero hx hsn w) (w1 := w) rfl, ?_, hk⟩⟩
    rw [hm]; exact .sc _ rfl
  · rename_i hed
    rw [hed] at hd
    have hcd := (sc_inv hd).1
    split at h <;> first | (cases h; done) | skip
    rename_i sn hsn
    cases h
    have hl := lenA_run (P := P) hx hsn w
    have hm : Nat.min sn 0 = 0 := Nat.min_zero _
    refine ⟨M, ρ, w, After.refl hw, .inl ⟨_, _, key hcd hl (by rw [hm]; exact firstCells_zero hx hsn w) (w1 := w) rfl, ?_, hk⟩⟩
    rw [hm]; exact .sc _ rfl

theorem clear_does {t elem : TypeId} {x : Operand} {ts : Array TypeId} (hop : o.op = .call { callee := .builtin .clear, args := ⟨[x]⟩, argTypes := ts }) (ht : ts[0]? = some t) (hu : P.underlying t = some (.slice elem))
    {size : Nat} {zs : List AV} (hs : sizeT P elem = some size) (hzs : zerosOf P elem = some zs) (c1 : 1 ≤ size) (c2 : zs.length = size) (h : clearW zs (e x) M K) : DoesR P o e M K := by
  intro ρ w c hw he
  have hx : VRel ρ (e x) (c x) := he x (by rw [hop]; simp [Op.operands, Call.operands])
  rcases h with ⟨b, p, n, cap, M', hex, hst, hk⟩ | ⟨b, hex, hk⟩ | ⟨hex, hk⟩
  · obtain ⟨it, z, hi, hz, hr⟩ := zerosOf_inv (ρ := ρ) hzs
    have hl := hr.length
    simp only [Array.length_toList] at hl
    rw [hex] at hx
    obtain ⟨i, cp, hb, hcx⟩ := slc_inv hx
    have hrel := rep_rel hr (by omega) n
    rw [repL_rep] at hrel
    obtain ⟨w1, hrun, haft⟩ := storesM hw hb hrel hst
    refine ⟨M', ρ, w1, haft, .inl ⟨.tuple #[], .undef, clear_run (t := t) hop ?_, .tup _ _ .nil, hk⟩⟩
    have hrun := hrun _ rfl
    cases n with
    | zero =>
      have he : (Builtin.zeroCells z.cells 0).toList = [] := by simp [Builtin.zeroCells]
      rw [he] at hrun
      simp only [storeCells, Sem.run_pure] at hrun
      cases hrun
      simp only [Builtin.clear_, ht, List.getElem?_toArray, List.getElem?_cons_zero, Sem.run_bind, run_underlying hu, Result.andThen_ok, hcx, Sem.run_pure]
    | succ n =>
      simp only [Builtin.clear_, ht, List.getElem?_toArray, List.getElem?_cons_zero, Sem.run_bind, run_underlying hu, Result.andThen_ok, hcx, zeroValue, typeInfo, run_program, hi, hz, Sem.run_pure, hrun]
  · rw [hex] at hx
    generalize hcx : c x = cx at hx
    cases hx with
    | emp _ ad cp =>
    refine ⟨M, ρ, w, After.refl hw, .inl ⟨.tuple #[], .undef, clear_run (t := t) hop ?_, .tup _ _ .nil, hk⟩⟩
    simp only [Builtin.clear_, ht, List.getElem?_toArray, List.getElem?_cons_zero, Sem.run_bind, run_underlying hu, Result.andThen_ok, hcx, Sem.run_pure]
  · rw [hex] at hx
    refine ⟨M, ρ, w, After.refl hw, .inl ⟨.tuple #[], .undef, clear_run (t := t) hop ?_, .tup _ _ .nil, hk⟩⟩
    simp only [Builtin.clear_, ht, List.getElem?_toArray, List.getElem?_cons_zero, Sem.run_bind, run_underlying hu, Result.andThen_ok, (sc_inv hx).1, Sem.run_pure]

theorem valsV : ∀ {xs : List AV} {us vs : List Value}, LRel ρ xs vs → mapO toVal xs = some us → vs = us
  | [], us, _, h, hu => by simp [mapO] at hu; subst hu; exact h.nil_inv
  | x :: xs, us, _, .cons _ v _ vs a b, hu => by
    simp only [mapO] at hu
    split at hu
    · rename_i y hy
      split at hu
      · rename_i ys hys
        cases hu
        rw [toVal_rel a hy, valsV b hys]
      · cases hu
    · cases hu

theorem niceE_sound (hP : POk P) (he0 : ∀ g, e (.func g) = .fn (.func g) [] []) (h : niceE P o e M K) : DoesR P o e M K := by
  cases hop : o.op
  case store t a x =>
    simp only [niceE, hop] at h
    split at h <;> first | (cases h; done) | skip
    rename_i n hs
    intro ρ w c hw he
    obtain ⟨M', ρ', w', h1, h2⟩ := store_does hop hs h ρ w c hw he
    obtain ⟨b, p, M1, hea, hn, hst, hk⟩ := h
    refine ⟨M', ρ', w', h1, ?_⟩
    rcases h2 with ⟨v', v, a1, b1, d1⟩ | ⟨a1, b1⟩ | ⟨f, args, us, a1, b1, d1⟩
    · exfalso
      have hz := a1
      simp only [execOp, hop, Sem.run_bind] at hz
      revert hz
      generalize (Instr.storeAt t (c a) (c x)).run P w = r
      cases r <;> simp [Result.andThen]
    · exact .inr (.inl ⟨a1, b1⟩)
    · exfalso
      have hz := a1
      simp only [execOp, hop, Sem.run_bind] at hz
      revert hz
      generalize (Instr.storeAt t (c a) (c x)).run P w = r
      cases r <;> simp [Result.andThen]
  case next it str =>
    cases str
    · simp only [niceE, hop] at h
    simp only [niceE, hop] at h
    obtain ⟨b, s, pos, hex, hg, hk⟩ := h
    intro ρ w c hw he
    have hx : VRel ρ (e it) (c it) := he it (by rw [hop]; simp [Op.operands])
    rw [hex] at hx
    obtain ⟨i, hb, hcx⟩ := ptr_inv hx
    obtain ⟨A, hA⟩ := hw
    rcases hA.blk b _ hg with ⟨y, hy, hle⟩ | ⟨_, e0, _⟩
    · cases y <;> first | exact hle.elim | skip
      obtain ⟨rfl, rfl⟩ := hle
      rename_i pos
      obtain ⟨ob, hob, hsh, rfl⟩ := hA.rel.blk b i _ hb hy
      have hget : (getObj i.cb).run P w = .ok (.stringIter ⟨⟨s⟩⟩ pos) w := by simp [getObj, Sem.run, hob]
      have hcx' : c it = .pointer (some ⟨i.cb, 0, none⟩) := by rw [hcx, hsh]
      by_cases hlt : pos < s.length
      · rw [if_pos hlt] at hk
        have hlt' : pos < (⟨⟨s⟩⟩ : ByteArray).size := hlt
        obtain ⟨q1, q2⟩ := setBlk_rel hA.rel (x := .siter ⟨⟨s⟩⟩ (pos + (Utf8.decode ⟨⟨s⟩⟩ pos).2)) hb hy (w' := { w with heap := w.heap.setIfInBounds i.cb (.stringIter ⟨⟨s⟩⟩ (pos + (Utf8.decode ⟨⟨s⟩⟩ pos).2)) }) rfl rfl rfl (by simp)
          (fun j hj => by simp [Array.getElem?_setIfInBounds, Ne.symm hj]) (by
            have := (Array.getElem?_eq_some_iff.1 hob).1
            simp [Array.getElem?_setIfInBounds, this]) ⟨hsh, rfl⟩
        refine ⟨M.put b (.siter s (pos + (Utf8.decode ⟨⟨s⟩⟩ pos).2)), ρ, _, after_of hA q2 q1 rfl hA.next (Nat.le_refl _) ?_, .inl ⟨.tuple #[.bool true, .int .i64 pos, .int .i32 (Utf8.decode ⟨⟨s⟩⟩ pos).1], _, ?_, .tup _ _ (.cons _ _ _ _ (.sc _ rfl) (.cons _ _ _ _ (.sc _ rfl) (.cons _ _ _ _ (.sc _ rfl) .nil))), hk⟩⟩
        · intro d y hd
          simp only [RM.put] at hd
          simp only [Tree.get_set]
          by_cases e2 : d = b
          · subst e2; rw [if_pos rfl] at hd ⊢; cases hd; exact .inl ⟨_, rfl, rfl, rfl⟩
          · rw [if_neg e2] at hd ⊢; exact same_blk hA d y hd
        · simp only [execOp, hop, Instr.next, hcx', Sem.run_bind, hget, Result.andThen_ok]
          rw [if_pos hlt']
          simp only [Sem.run_bind, setObj, Sem.run, hob, Result.andThen_ok, Sem.run_pure, goInt]
      · rw [if_neg hlt] at hk
        have hlt' : ¬ pos < (⟨⟨s⟩⟩ : ByteArray).size := hlt
        refine ⟨M, ρ, w, After.refl ⟨A, hA⟩, .inl ⟨.tuple #[.bool false], _, ?_, .tup _ _ (.cons _ _ _ _ (.sc _ rfl) .nil), hk⟩⟩
        simp only [execOp, hop, Instr.next, hcx', Sem.run_bind, hget, Result.andThen_ok]
        rw [if_neg hlt']
        rfl
    · cases e0
  case convert src dst x =>
    simp only [niceE, hop] at h
    split at h <;> first | (cases h; done) | skip
    rename_i el hsd hu
    split at h <;> first | (cases h; done) | skip
    rename_i hel
    obtain ⟨b, p, n, cp, l, elem, hex, hg, hk⟩ := h
    have hsd := beq_t hsd
    subst hsd
    intro ρ w c hw he
    have hx : VRel ρ (e x) (c x) := he x (by rw [hop]; simp [Op.operands])
    obtain ⟨A, hA⟩ := hw
    rcases hA.blk b _ hg with ⟨y, hy, hle⟩ | ⟨_, e0, _⟩
    · cases y <;> first | exact hle.elim | skip
      rename_i nn tree zs opn' elem' fz'
      obtain ⟨h1, rfl, rfl, rfl, h5⟩ := hle
      have hx' := hx
      rw [hex] at hx
      obtain ⟨i, cp', hb, hcx⟩ := slc_inv hx
      obtain ⟨ob, hob, cc, fr, rfl, hrow⟩ := hA.rel.blk b i _ hb hy
      obtain ⟨hf1, hf2⟩ := hrow.mark rfl rfl
      obtain ⟨hq1, _⟩ := markRow (P := P) hob hf1 (e := .slice (some ⟨i.cb, i.sh + p, none⟩) n cp') hu hel
      have hlt := (Array.getElem?_eq_some_iff.1 hob).1
      obtain ⟨q1, q2⟩ := setBlk_rel hA.rel (x := .row nn tree zs false elem' (nn + 1)) (ob := .cells cc elem' (cc.size, cc.size + 1)) hb hy (w' := { w with heap := w.heap.setIfInBounds i.cb (.cells cc elem' (cc.size, cc.size + 1)) }) rfl rfl rfl (by simp)
        (fun j hj => by simp [Array.getElem?_setIfInBounds, Ne.symm hj]) (by simp [Array.getElem?_setIfInBounds, hlt])
        ⟨cc, _, rfl, ⟨hrow.size, hrow.val, fun k _ hk h2 => by omega, fun _ h0 => by omega, hrow.opn, hrow.sh0⟩⟩
      refine ⟨M.put b (.row l false elem' (l.length + 1)), ρ, _, after_of hA q2 q1 rfl hA.next (Nat.le_refl _) ?_, .inl ⟨_, _, by simp only [execOp, hop, Sem.run_bind, hcx, hq1, Result.andThen_ok, Sem.run_pure], hcx ▸ hx', hk⟩⟩
      intro d y hd
      simp only [RM.put] at hd
      simp only [Tree.get_set]
      by_cases e2 : d = b
      · subst e2; rw [if_pos rfl] at hd ⊢; cases hd; exact .inl ⟨_, rfl, h1, rfl, rfl, by rw [h1], h5⟩
      · rw [if_neg e2] at hd ⊢; exact same_blk hA d y hd
    · cases e0
  case call cl =>
    obtain ⟨callee, args, ts⟩ := cl
    cases callee with
    | builtin b =>
      cases b
      case unsafeString =>
        simp only [niceE, hop] at h
        split at h <;> first | (cases h; done) | skip
        rename_i t x n ht
        split at h <;> first | (cases h; done) | skip
        rename_i el hu
        split at h <;> first | (cases h; done) | skip
        rename_i hel hc1
        have hc1 := beq_t hc1
        intro ρ w c hw he
        obtain ⟨A, hA⟩ := hw
        have hX : XOk P ⟨[], [], []⟩ := ⟨hP.ng, fun f h => (by cases h), fun f h => (by cases h)⟩
        rcases h with ⟨b, k, l, opn, fz, s, hex, hen, hk0, hg, hkl, hs, hk⟩ | ⟨hex, hen, hk⟩
        · rcases hA.blk b _ hg with ⟨y, hy, hle⟩ | ⟨_, e0, _⟩
          · cases y <;> first | exact hle.elim | skip
            rename_i nn tree zs opn' elem' fz'
            obtain ⟨h1, rfl, rfl, rfl, h5⟩ := hle
            have hl : A.loads b 0 (k + 1) = some (l.take (k + 1)) := by
              unfold AW.loads
              rw [hy]
              simpa using cells_of h5 (k + 1) 0 (by omega)
            have hlies : liesAt P P.depth elem' (nn / P.cellsOf elem') 0 elem' (k + 1) = true := Lib.liesAt_bytes hc1 _ _ (by rw [hc1, Nat.div_one]; omega)
            have heff : effOp P ⟨[], [], []⟩ o e A = some (.value (St s), { A with heap := A.heap.del b }) := by
              simp only [effOp, hop, ht, hu, hel, hex, hen, natOf, hy, hl, bytesOf, hs, hlies, ble_iff.2 hk0]
            obtain ⟨ρ', w', q1, q2, q3, v', hrun, hv⟩ := effOp_sound hX hA.rel hA.size he heff
            refine ⟨M.del b, ρ', w', after_of hA q1 q2 rfl hA.next q3 fun d z hd => ?_, .inl ⟨v', _, hrun, hv, hk⟩⟩
            simp only [RM.del] at hd
            simp only [Tree.get_del]
            by_cases e2 : d = b
            · rw [if_pos e2] at hd; cases hd
            · rw [if_neg e2] at hd ⊢; exact same_blk hA d z hd
          · cases e0
        · have heff : effOp P ⟨[], [], []⟩ o e A = some (.value (St []), A) := by
            simp only [effOp, hop, ht, hu, hel, hex, hen, natOf]
          obtain ⟨ρ', w', q1, q2, q3, v', hrun, hv⟩ := effOp_sound hX hA.rel hA.size he heff
          exact ⟨M, ρ', w', after_of hA q1 q2 rfl hA.next q3 fun d z hd => same_blk hA d z hd, .inl ⟨v', _, hrun, hv, hk⟩⟩
      case append =>
        simp only [niceE, hop] at h
        split at h <;> first | (cases h; done) | skip
        rename_i t s x ht
        split at h <;> first | (cases h; done) | skip
        rename_i elem zeros hu hz
        split at h <;> first | (cases h; done) | skip
        rename_i size bytes zs hs1 hb1 hz1
        split at h <;> first | (cases h; done) | skip
        rename_i c1 c2
        have c1 := ble_t c1; have c2 := beq_t c2
        obtain ⟨n, new, hnew, c3, c4, v, M', hM, hk⟩ := h
        intro ρ w c hw he
        have hs : VRel ρ (e s) (c s) := he s (by rw [hop]; simp [Op.operands, Call.operands])
        have hx : VRel ρ (e x) (c x) := he x (by rw [hop]; simp [Op.operands, Call.operands])
        obtain ⟨us, hn⟩ := newL_rel (P := P) hw hx hz1 c1 c2 hnew
        obtain ⟨it, z, hi, hzz, hr⟩ := zerosOf_inv (ρ := ρ) hz1
        have hl := hr.length
        simp only [Array.length_toList] at hl
        obtain ⟨A, hA⟩ := hw
        refine doesM_does (appM_sound hA c1 hs hn (ty := o.type) ht hu hz hi hzz (by simpa [sizeT, hi] using hs1) (by omega) (by simpa [bytesT, hi] using hb1) c3 c4 hM) (fun v' w' hr => ?_) hk
        simp only [execOp, hop, resolve, invoke, builtin, Sem.run_bind, Sem.run_pure, Result.andThen_ok]
        rw [show (Array.map c ⟨[s, x]⟩) = #[c s, c x] by simp, hr]
        rfl
      case copy =>
        simp only [niceE, hop] at h
        split at h <;> first | (cases h; done) | skip
        rename_i t s x ht
        split at h <;> first | (cases h; done) | skip
        rename_i elem hu
        split at h <;> first | (cases h; done) | skip
        rename_i size hsz
        obtain ⟨v, M', hM, hk⟩ := h
        exact copy_does hop ht hu hsz hM hk
      case clear =>
        simp only [niceE, hop] at h
        split at h <;> first | (cases h; done) | skip
        rename_i t x ht
        split at h <;> first | (cases h; done) | skip
        rename_i elem hu
        split at h <;> first | (cases h; done) | skip
        rename_i size zs hs hzs
        split at h <;> first | (cases h; done) | skip
        rename_i c1 c2
        exact clear_does hop ht hu hs hzs (ble_t c1) (beq_t c2) h
      all_goals (simp only [niceE, hop] at h)
    | value f =>
      have hrun : ∀ {c : Operand → Value} {w : World} {g : FuncId} {us vs : List Value}, c f = .func (.func g) ⟨us⟩ ⟨vs⟩ → (execOp c o).run P w = (callFunc g ⟨us ++ args.toList.map c ++ vs⟩).run P w := by
        intro c w g us vs hcf
        simp only [execOp, hop, resolve, hcf, Deferred.ofValue, invoke, Sem.run_bind, Sem.run_pure, Result.andThen_ok]
        congr 2
        apply Array.ext'
        simp
      have ha : ∀ {ρ : Ren} {c : Operand → Value}, (∀ x ∈ o.op.operands, VRel ρ (e x) (c x)) → ∀ x ∈ args.toList, VRel ρ (e x) (c x) := fun he x hx => he x (by rw [hop]; simp [Op.operands, Call.operands]; exact .inr (by simpa using hx))
      have gen : ∀ (g : FuncId) (first cap : List AV), e f = .fn (.func g) first cap → CallsR P g (first ++ args.toList.map e ++ cap) M K → DoesR P o e M K := by
        intro g first cap hef hcall ρ w c hw he
        have hf : VRel ρ (e f) (c f) := he f (by rw [hop]; simp [Op.operands, Call.operands])
        rw [hef] at hf
        generalize hcf : c f = cf at hf
        cases hf with
        | fn _ _ _ us vs hp hfi hca =>
        obtain ⟨⟨fn, cd, hfn, hcd⟩, hall⟩ := hcall
        refine ⟨M, ρ, w, After.refl hw, .inr (.inr ⟨g, _, us ++ args.toList.map c ++ vs, ?_, (hfi.append (LRel.ofAll _ (ha he))).append hca, ⟨⟨fn, cd, hfn, hcd⟩, hall⟩⟩)⟩
        rw [hrun hcf]
        exact body_run hfn (hP.ng _ _ hfn) hcd w
      cases f with
      | func g =>
        simp only [niceE, hop] at h
        split at h <;> first | (cases h; done) | skip
        rename_i fn hfn
        split at h
        · rename_i cd hcd
          exact gen g [] [] (he0 g) (by simpa using h)
        · rename_i hcd
          have start : ∀ {ρ : Ren} {w : World} {c : Operand → Value}, (∀ x ∈ o.op.operands, VRel ρ (e x) (c x)) → (execOp c o).run P w = (callFunc g ⟨args.toList.map c⟩).run P w := by
            intro ρ w c he
            have hf : VRel ρ (e (.func g)) (c (.func g)) := he _ (by rw [hop]; simp [Op.operands, Call.operands])
            rw [he0] at hf
            generalize hcf : c (.func g) = cf at hf
            cases hf with
            | fn _ _ _ us vs hp hfi hca =>
            cases hfi.nil_inv
            cases hca.nil_inv
            rw [hrun hcf]
            simp only [List.nil_append, List.append_nil]
          rcases h with ⟨v, hv, hk⟩ | ⟨⟨fn', t, elem, size, tr, g1, g2, g3, g4, g5, g6⟩, ⟨ba, oa, na, ca, bb, ob, nb, cb, la, ea, fa, lb, opb, eb, fb, hargs, hne, hla, hlb, q1, q2, q3⟩, hk⟩ | ⟨⟨fn', g1, g2, g3, g4⟩, v, hargs, hk⟩ | ⟨v, hnat, hk⟩
          · intro ρ w c hw he
            unfold enterA at hv
            rw [hfn] at hv
            simp only [hcd] at hv
            split at hv <;> first | (cases hv; done) | skip
            rename_i h1
            split at hv <;> first | (cases hv; done) | skip
            rename_i s ws h2 hws
            split at hv <;> first | (cases hv; done) | skip
            rename_i u hu
            split at hv <;> first | (cases hv; done) | skip
            rename_i y hy
            cases hv
            have hval := valsV (LRel.ofAll _ (ha he)) hws
            refine ⟨M, ρ, w, After.refl hw, .inl ⟨u, v, ?_, ofVal_rel hy, hk⟩⟩
            rw [start he, hval]
            exact noBody_run hfn (hP.ng _ _ hfn) hcd h1 h2 (fun w => pureRun_run hu w) w
          · intro ρ w c hw he
            have hl := LRel.ofAll _ (ha he)
            rw [hargs] at hl
            obtain ⟨A, hA⟩ := hw
            rcases hA.blk ba _ hla with ⟨ya, hya, hlea⟩ | ⟨_, e0, _⟩
            · rcases hA.blk bb _ hlb with ⟨yb, hyb, hleb⟩ | ⟨_, e0, _⟩
              · cases ya <;> first | exact hlea.elim | skip
                cases yb <;> first | exact hleb.elim | skip
                obtain ⟨r1, rfl, rfl, rfl, r5⟩ := hlea
                obtain ⟨s1, rfl, rfl, rfl, s5⟩ := hleb
                have hov : overlapsA A [.slc ba oa na ca, .slc bb ob nb cb] = some (.sc (.bool false)) := by
                  simp only [overlapsA, beq_ff hne, hya, hyb]
                  subst q1
                  rw [ble_iff.2 (by omega), ble_iff.2 (by omega)]
                  rfl
                obtain ⟨_, hr⟩ := overlaps_run (tr := tr) hA.rel hl hov g5 g6
                refine ⟨M, ρ, w, After.refl ⟨A, hA⟩, .inl ⟨.bool false, Bo false, ?_, .sc _ rfl, hk⟩⟩
                rw [start he]
                exact noBody_runIn g1 (hP.ng _ _ g1) g2 g3 g4 hr
              · cases e0
            · cases e0
          · intro ρ w c hw he
            have hl := LRel.ofAll _ (ha he)
            rw [hargs] at hl
            generalize hal : args.toList.map c = al at hl
            cases hl with
            | cons _ u _ us2 h1 hr =>
            cases hr
            refine ⟨M, ρ, w, After.refl hw, .inl ⟨u, v, ?_, h1, hk⟩⟩
            rw [start he, hal]
            exact noBody_runIn g1 (hP.ng _ _ g1) g2 g3 g4 rfl
          · intro ρ w c hw he
            obtain ⟨u, hrun, hv⟩ := hnat ρ w _ (LRel.ofAll _ (ha he)) hw
            exact ⟨M, ρ, w, After.refl hw, .inl ⟨u, v, by rw [start he]; exact hrun, hv, hk⟩⟩
      | tmp t => 
        simp only [niceE, hop] at h
        obtain ⟨g, first, cap, hef, hcall⟩ := h
        exact gen g first cap hef hcall
      | const v =>
        simp only [niceE, hop] at h
        obtain ⟨g, first, cap, hef, hcall⟩ := h
        exact gen g first cap hef hcall
      | global v =>
        simp only [niceE, hop] at h
        obtain ⟨g, first, cap, hef, hcall⟩ := h
        exact gen g first cap hef hcall
    | invoke r m => simp only [niceE, hop] at h
  all_goals (simp only [niceE, hop] at h)
end
end Go.Ab
