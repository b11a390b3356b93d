/- Part 3 of the ground of the proofs of this seat (texts R5 to WCrw). By an AI agent. -/
import Derived.Test.YtlhlnchhaminjaaGreatHold2
import Derived.Lib.UnsafeStr
import Derived.Scope
set_option linter.unusedVariables false
set_option linter.unusedSimpArgs false
namespace Go.Ab
open Go Go.RowKit
abbrev PostV := AV → RM → Prop
def HasBody (P : Program) (f : FuncId) : Prop := ∃ fn c, P.funcs[f]? = some fn ∧ fn.body = some c
def CallsR (P : Program) (f : FuncId) (args : List AV) (M : RM) (Q : PostV) : Prop :=
  HasBody P f ∧ ∀ (ρ : Ren) (w : World) (us : List Value), LRel ρ args us → MRel P ρ M w →
    Calls P f ⟨us⟩ w fun e w' => ∃ v' v M' ρ', e = .returned v' ∧ After P M ρ w M' ρ' w' ∧ VRel ρ' v v' ∧ Q v M'
theorem CallsR.mono {P : Program} {f : FuncId} {args : List AV} {M : RM} {Q Q' : PostV} (h : CallsR P f args M Q) (hq : ∀ v M', Q v M' → Q' v M') : CallsR P f args M Q' :=
  ⟨h.1, fun ρ w us a b => (h.2 ρ w us a b).mono fun e w' ⟨v', v, M', ρ', c, d, f, g⟩ => ⟨v', v, M', ρ', c, d, f, hq _ _ g⟩⟩
def DoesR (P : Program) (o : Oper) (e : Operand → AV) (M : RM) (K : PostV) : Prop :=
  ∀ (ρ : Ren) (w : World) (c : Operand → Value), MRel P ρ M w → (∀ x ∈ o.op.operands, VRel ρ (e x) (c x)) → ∃ M' ρ' w', After P M ρ w M' ρ' w' ∧
    ((∃ v' v, (execOp c o).run P w = .ok (.value v') w' ∧ VRel ρ' v v' ∧ K v M') ∨ ((execOp c o).run P w = .ok .skip w' ∧ K .undef M') ∨
      ∃ f args us, (execOp c o).run P w = .ok (.enter f ⟨us⟩) w' ∧ LRel ρ' args us ∧ CallsR P f args M' K)
def storeW (M : RM) (a x : AV) (n : Nat) (K : RM → Prop) : Prop := ∃ b p M', a = .ptr b p ∧ x.cells.length = n ∧ M.stores b p x.cells = some M' ∧ K M'
def newL (M : RM) (size : Nat) (zs : List AV) (zeros : Bool) (x : AV) : Option (Nat × List AV) :=
  match zeros with
  | true => match x with
    | .sc (.int _ n) => if 0 ≤ n then some (n.toNat, repL zs n.toNat) else none
    | _ => none
  | false => match x with
    | .slc b o len _ => match M.loads b o (len * size) with
      | some vs => some (len, vs)
      | none => none
    | .emp _ => some (0, [])
    | .sc (.slice none 0 0) => some (0, [])
    | .sc (.string s) => if size = 1 then some (s.data.toList.length, s.data.toList.map fun b => N .u8 b.toNat) else none
    | _ => none
def appM (elem size bytes n : Nat) (new : List AV) (s : AV) (M : RM) : Option (AV × RM) :=
  match s with
  | .sc (.slice none 0 0) => if n = 0 then some (s, M) else if new.all oneCell = true then some (.slc M.next 0 n (.op size), M.push (.row new true elem 0)) else none
  | .emp _ => if n = 0 then some (s, M) else none
  | .slc b o len (.ex c) => if n = 0 then (if len ≤ c then some (s, M) else none) else if len + n ≤ c then (match M.stores b (o + len * size) new with
      | some M' => some (.slc b o (len + n) (.ex c), M')
      | none => none)
    else match M.loads b o (len * size) with
      | some old => if (len + n) * bytes ≤ 140737488355328 ∧ len + n ≤ 140737488355328 ∧ (old ++ new).all oneCell = true then some (.slc M.next 0 (len + n) (.op size), M.push (.row (old ++ new) true elem 0)) else none
      | none => none
  | .slc b o len (.op esz) => if n = 0 then some (s, M) else match M.heap b with
    | some (.row l opn el fz) => if opn = true ∧ esz = size then
        (if o + (len + n) * size ≤ l.length then (match M.stores b (o + len * size) new with
          | some M' => some (.slc b o (len + n) (.op esz), M')
          | none => none)
        else if el = elem ∧ (len + n) * bytes ≤ 140737488355328 ∧ len + n ≤ 140737488355328 ∧ o = 0 ∧ l.length = len * size ∧ fz ≤ len * size ∧ new.all oneCell = true then
          some (.slc M.next 0 (len + n) (.op size), (M.del b).push (.row (l ++ new) true elem fz)) else none) else none
    | _ => none
  | _ => none
def appW (elem size bytes : Nat) (zs : List AV) (zeros : Bool) (s x : AV) (M : RM) (K : PostV) : Prop :=
  ∃ n new, newL M size zs zeros x = some (n, new) ∧ n * bytes ≤ 140737488355328 ∧ n ≤ 140737488355328 ∧ ∃ v M', appM elem size bytes n new s M = some (v, M') ∧ K v M'
def firstM (M : RM) (size k : Nat) : AV → Option (List AV)
  | .slc b o _ _ => M.loads b o (k * size)
  | .sc (.string s) => if size = 1 then some ((s.data.toList.take k).map fun b => N .u8 b.toNat) else none
  | _ => none
def copyM (size : Nat) (d x : AV) (M : RM) : Option (AV × RM) :=
  match d with
  | .slc b o dn _ => match lenA x with
    | some sn => if Nat.min sn dn = 0 then some (N .i64 0, M) else match firstM M size (Nat.min sn dn) x with
      | some vs => match M.stores b o vs with
        | some M' => some (N .i64 (Nat.min sn dn : Nat), M')
        | none => none
      | none => none
    | none => none
  | .emp _ | .sc (.slice none 0 0) => match lenA x with
    | some _ => some (N .i64 0, M)
    | none => none
  | _ => none
def copyW (size : Nat) (d x : AV) (M : RM) (K : PostV) : Prop := ∃ v M', copyM size d x M = some (v, M') ∧ K v M'
def clearW (zs : List AV) (x : AV) (M : RM) (K : PostV) : Prop :=
  (∃ b p n cap M', x = .slc b p n cap ∧ M.stores b p (repL zs n) = some M' ∧ K .undef M') ∨ (∃ b, x = .emp b ∧ K .undef M) ∨ (x = .sc (.slice none 0 0) ∧ K .undef M)
def callV (C : FuncId → List AV → RM → PostV → Prop) (f : AV) (args : List AV) (M : RM) (K : PostV) : Prop := ∃ g first cap, f = .fn (.func g) first cap ∧ C g (first ++ args ++ cap) M K
def nativeR (P : Program) (g : FuncId) (args : List AV) (M : RM) (v : AV) : Prop :=
  ∀ (ρ : Ren) (w : World) (us : List Value), LRel ρ args us → MRel P ρ M w → ∃ u, (callFunc g ⟨us⟩).run P w = .ok (.value u) w ∧ VRel ρ v u
def extnW (P : Program) (g : FuncId) (args : List AV) (M : RM) (K : PostV) : Prop :=
  (∃ v, enterA P g args = some (.value v) ∧ K v M) ∨
  ((∃ fn t elem size tr, P.funcs[g]? = some fn ∧ fn.body = none ∧ Extern.findNext fn = none ∧ Extern.find fn = some (Extern.SlicesOverlaps.overlaps #[t, t] #[tr]) ∧ P.underlying t = some (.slice elem) ∧ sizeT P elem = some size) ∧
    (∃ ba oa na ca bb ob nb cb la ea fa lb opb eb fb, args = [.slc ba oa na ca, .slc bb ob nb cb] ∧ ba ≠ bb ∧ M.heap ba = some (.row la false ea fa) ∧ M.heap bb = some (.row lb opb eb fb) ∧ fa = 0 ∧ oa + 1 ≤ la.length ∧ 1 ≤ lb.length) ∧ K (Bo false) M) ∨
  ((∃ fn, P.funcs[g]? = some fn ∧ fn.body = none ∧ Extern.findNext fn = none ∧ Extern.find fn = some Extern.AbiNoEscape.same) ∧ ∃ v, args = [v] ∧ K v M) ∨
  ∃ v, nativeR P g args M v ∧ K v M
def snextW (x : AV) (M : RM) (K : PostV) : Prop := ∃ b s pos, x = .ptr b 0 ∧ M.heap b = some (.siter s pos) ∧
  if pos < s.length then K (.tup [Bo true, N .i64 pos, N .i32 (Utf8.decode ⟨⟨s⟩⟩ pos).1]) (M.put b (.siter s (pos + (Utf8.decode ⟨⟨s⟩⟩ pos).2))) else K (.tup [Bo false]) M
def markW (x : AV) (M : RM) (K : PostV) : Prop := ∃ b p n c l el, x = .slc b p n (.ex c) ∧ M.heap b = some (.row l false el 0) ∧ K x (M.put b (.row l false el (l.length + 1)))
def ustrW (el : Nat) (x n : AV) (M : RM) (K : PostV) : Prop :=
  (∃ b k l opn fz s, x = .ptr b 0 ∧ n = N .i64 ((k + 1 : Nat) : Int) ∧ k ≤ 4611686018427387904 ∧ M.heap b = some (.row l opn el fz) ∧ k + 1 ≤ l.length ∧ mapO byteOf (l.take (k + 1)) = some s ∧ K (St s) (M.del b)) ∨
  (x = .sc (.pointer none) ∧ n = N .i64 0 ∧ K (St []) M)
def niceE (P : Program) (o : Oper) (e : Operand → AV) (M : RM) (K : PostV) : Prop :=
  match o.op with
  | .store t a x => match sizeT P t with
    | some n => storeW M (e a) (e x) n (K .undef)
    | none => False
  | .call { callee := .builtin .append, args, argTypes } => match argTypes[0]?, args with
    | some t, ⟨[s, x]⟩ => match P.underlying t, zerosArg P argTypes with
      | some (.slice elem), some zeros => match sizeT P elem, bytesT P elem, zerosOf P elem with
        | some size, some bytes, some zs => match Nat.ble 1 size, Nat.beq zs.length size with
          | true, true => appW elem size bytes zs zeros (e s) (e x) M K
          | _, _ => False
        | _, _, _ => False
      | _, _ => False
    | _, _ => False
  | .call { callee := .builtin .copy, args, argTypes } => match argTypes[0]?, args with
    | some t, ⟨[s, x]⟩ => match P.underlying t with
      | some (.slice elem) => match sizeT P elem with
        | some size => copyW size (e s) (e x) M K
        | none => False
      | _ => False
    | _, _ => False
  | .call { callee := .builtin .clear, args, argTypes } => match argTypes[0]?, args with
    | some t, ⟨[x]⟩ => match P.underlying t with
      | some (.slice elem) => match sizeT P elem, zerosOf P elem with
        | some size, some zs => match Nat.ble 1 size, Nat.beq zs.length size with
          | true, true => clearW zs (e x) M K
          | _, _ => False
        | _, _ => False
      | _ => False
    | _, _ => False
  | .call { callee := .builtin .unsafeString, args, argTypes } => match argTypes[0]?, args with
    | some t, ⟨[x, n]⟩ => match P.underlying t with
      | some (.pointer el) => match P.underlying el, Nat.beq (P.cellsOf el) 1 with
        | some (.int .u8), true => ustrW el (e x) (e n) M K
        | _, _ => False
      | _ => False
    | _, _ => False
  | .call { callee := .value (.func g), args, .. } => match P.funcs[g]? with
    | some fn => match fn.body with
      | some _ => CallsR P g (args.toList.map e) M K
      | none => extnW P g (args.toList.map e) M K
    | none => False
  | .call { callee := .value f, args, .. } => callV (CallsR P) (e f) (args.toList.map e) M K
  | .next it true => snextW (e it) M K
  | .convert src dst x => match Nat.beq src dst, P.underlying src with
    | true, some (.slice el) => match P.underlying el with
      | some (.int .u8) => markW (e x) M K
      | _ => False
    | _, _ => False
  | _ => False
section
variable {P : Program} {ρ : Ren} {o : Oper} {e : Operand → AV} {c : Operand → Value} {M : RM} {w : World} {K : PostV}
structure POk (P : Program) : Prop where
  ng : ∀ (f : FuncId) (fn : Func), P.funcs[f]? = some fn → fn.name ≠ "runtime.NumGoroutine"
  mixed : P.follows .mixedOrders = true
theorem newL_rel (hw : MRel P ρ M w) {elem size : Nat} {zs : List AV} {zeros : Bool} {x : AV} {u : Value} {n : Nat} {new : List AV} (hx : VRel ρ x u) (hzs : zerosOf P elem = some zs) (h1 : 1 ≤ size) (h2 : zs.length = size)
    (h : newL M size zs zeros x = some (n, new)) : ∃ us, News P ρ w elem size zeros u n new us := by
  unfold newL at h
  split at h
  · split at h <;> first | (cases h; done) | skip
    rename_i k m
    split at h <;> first | (cases h; done) | skip
    rename_i hm
    cases h
    obtain ⟨it, z, hi, hz, hr⟩ := zerosOf_inv (ρ := ρ) hzs
    obtain ⟨rfl, _⟩ := sc_inv hx
    have hl := hr.length
    simp only [Array.length_toList] at hl
    refine ⟨(Builtin.zeroCells z.cells m.toNat).toList, by rw [← repL_rep]; exact rep_rel hr (by omega) _, by rw [Array.length_toList, size_zeroCells, ← hl, h2], (by simp only [if_true]; exact ⟨k, by congr 1; omega⟩), (fun e => by cases e), fun _ => ⟨it, z, hi, hz, rfl⟩⟩
  · split at h <;> first | (cases h; done) | skip
    · rename_i b o len cap
      split at h <;> first | (cases h; done) | skip
      rename_i xs hl
      cases h
      obtain ⟨i, cp, hb, rfl⟩ := slc_inv hx
      obtain ⟨vs, hr, hlen, hcell⟩ := RM.loads_rel hw hb hl
      refine ⟨vs, hr, hlen, by simp [Builtin.lenOf], fun _ w' hw' => ?_, fun e => by cases e⟩
      have := run_loadCells_list (P := P) w' ⟨i.cb, i.sh + o, none⟩ vs (fun j v hj => by rw [← hcell j v hj]; simp [World.cell?, hw'])
      rw [hlen] at this
      simp [Builtin.firstCells, this]
    · cases h
      cases hx with
      | emp b ad c =>
      exact ⟨[], .nil, by simp, by simp [Builtin.lenOf], fun _ _ _ => by simp [Builtin.firstCells, loadCells, loadCellsFrom], fun e => by cases e⟩
    · cases h
      obtain ⟨rfl, _⟩ := sc_inv hx
      exact ⟨[], .nil, by simp, by simp [Builtin.lenOf], fun _ _ _ => by simp [Builtin.firstCells], fun e => by cases e⟩
    · rename_i s
      split at h <;> first | (cases h; done) | skip
      rename_i hsz
      cases h
      subst hsz
      obtain ⟨rfl, _⟩ := sc_inv hx
      refine ⟨_, bytes_rel s, by simp, by simp [Builtin.lenOf], fun _ _ _ => ?_, fun e => by cases e⟩
      simp only [Builtin.firstCells, Sem.run_pure]
      congr 1
      have : (s.extract 0 s.data.toList.length) = s := by
        have h : s.data.toList.length = s.size := by rw [Array.length_toList]; rfl
        rw [h]; simp
      rw [this]
      apply Array.ext'
      simp
def DoesM (P : Program) (ρ : Ren) (M : RM) (w : World) (run : World → Result Value) (v : AV) (M' : RM) : Prop :=
  ∃ ρ' w' v', run w = .ok v' w' ∧ After P M ρ w M' ρ' w' ∧ VRel ρ' v v'
variable {A : AW} {M' : RM} {A' : AW}
theorem doesM_of (h : MRelA P ρ M w A) {run : World → Result Value} {v : AV} (hd : DoesV P M.base ρ A w run v A') (hlo : M'.base = M.base) (hn : A'.next = M'.next)
    (hb : ∀ b x, M'.heap b = some x → (∃ y, A'.heap.get b = some y ∧ RLe x y) ∨ ∃ c, x = .ro c ∧ M.heap b = some x) : DoesM P ρ M w run v M' := by
  obtain ⟨ρ', w', v', h1, h2, h3, h4, h5⟩ := hd
  exact ⟨ρ', w', v', h1, after_of h h2 h3 hlo hn h4 hb, h5⟩
theorem same_blk (h : MRelA P ρ M w A) : ∀ b x, M.heap b = some x → (∃ y, A.heap.get b = some y ∧ RLe x y) ∨ ∃ c, x = .ro c ∧ M.heap b = some x := by
  intro b x hx
  rcases h.blk b x hx with h1 | ⟨c, rfl, _⟩
  · exact .inl h1
  · exact .inr ⟨c, rfl, hx⟩
theorem putAll_list {l : List AV} {t : Tree AV} (h : putAll .leaf 0 l = some t) : RLe (.row l true 0 0) (.row l.length t [] true 0 0) ∧ ∀ (k : Nat) (v : AV), l[k]? = some v → cellAt t [] l.length k = some v := by
  obtain ⟨_, hget⟩ := putAll_get _ _ _ h
  have : ∀ (k : Nat) (v : AV), l[k]? = some v → cellAt t [] l.length k = some v := fun k v hk => by
    have hlt := (List.getElem?_eq_some_iff.1 hk).1
    exact cellAt_tree hlt (by rw [hget, if_pos (by omega)]; simpa using hk)
  exact ⟨⟨rfl, rfl, rfl, rfl, this⟩, this⟩
theorem appM_sound (h : MRelA P ρ M w A) {elem size bytes n : Nat} {zeros : Bool} {x : Value} {new : List AV} {us : List Value} (h1 : 1 ≤ size) {s v : AV} {u : Value} (hs : VRel ρ s u) (hn : News P ρ w elem size zeros x n new us)
    {t : TypeId} {ts : Array TypeId} {ty : TypeId} (ht : ts[0]? = some t) (hu : P.underlying t = some (.slice elem)) (hzs : zerosArg P ts = some zeros)
    {it : TypeInfo} {z : Value} (hi : P.info? elem = some it) (hz : it.zero = some z) (hsi : it.size = size) (hzc : z.cells.size = size) (hb : it.bytes = bytes) (hnb : n * bytes ≤ 140737488355328) (hnl : n ≤ 140737488355328)
    (ha : appM elem size bytes n new s M = some (v, M')) : DoesM P ρ M w (fun w => (Builtin.append_ ts ty #[u, x]).run P w) v M' := by
  have key : ∀ {A' : AW}, appendS elem size bytes n new s A = some (v, A') → M'.base = M.base → A'.next = M'.next →
      (∀ b x, M'.heap b = some x → (∃ y, A'.heap.get b = some y ∧ RLe x y) ∨ ∃ c, x = .ro c ∧ M.heap b = some x) → DoesM P ρ M w (fun w => (Builtin.append_ ts ty #[u, x]).run P w) v M' :=
    fun hA a b c => doesM_of h (appendS_sound h.rel h.size h1 hs hn ht hu hzs hi hz hsi hzc hb hnb hnl hA) a b c
  have hnw : new.length = n * size := by rw [hn.rel.length, hn.len]
  unfold appM at ha
  split at ha
  · split at ha
    · rename_i h0
      cases ha
      exact key (by simp only [appendS, h0]) rfl h.next (same_blk h)
    · rename_i h0
      split at ha <;> first | (cases ha; done) | skip
      rename_i hall
      cases ha
      obtain ⟨tr, htr⟩ := putAll_all new .leaf 0 hall
      obtain ⟨_, hcell⟩ := putAll_list htr
      cases n with
      | zero => exact absurd rfl h0
      | succ n =>
      obtain ⟨k1, k2, k3⟩ := RM.push_A h (x := .row new true elem 0) (y := .row ((n + 1) * size) tr [] true elem 0) ⟨hnw, rfl, rfl, rfl, fun k v hk => by rw [← hnw]; exact hcell k v hk⟩
      exact key (by simp only [appendS, htr, h.next]) k1 k2 k3
  · split at ha <;> first | (cases ha; done) | skip
    rename_i h0
    cases ha
    exact key (by simp only [appendS, h0]) rfl h.next (same_blk h)
  · rename_i b o len cc
    split at ha
    · rename_i h0
      split at ha <;> first | (cases ha; done) | skip
      rename_i hle
      cases ha
      subst h0
      cases hs with
      | slcS _ _ _ _ i hbi =>
      have hus : us = [] := List.eq_nil_of_length_eq_zero (by simpa using hn.len)
      refine ⟨ρ, w, _, run_room hn ht hu hzs hi hsi hb hnb hnl (by omega) (w1 := w) (by simp [hus, storeCells]), After.refl ⟨A, h⟩, ?_⟩
      exact .slcS _ _ _ _ i hbi
    rename_i hn0
    split at ha
    · rename_i hle
      split at ha <;> first | (cases ha; done) | skip
      rename_i M1 hst
      cases ha
      obtain ⟨A1, a1, a2, a3, a4, a5⟩ := RM.stores_A h hst
      exact key (by simp only [appendS, ble_iff.2 hle, a1]) a2 a3 a5
    · rename_i hle
      split at ha <;> first | (cases ha; done) | skip
      rename_i old hl
      split at ha <;> first | (cases ha; done) | skip
      rename_i hcond
      obtain ⟨c1, c2, c3⟩ := hcond
      cases ha
      cases hs with
      | slcS _ _ _ _ i hbi =>
      obtain ⟨vs, hr, hlen, hcell⟩ := RM.loads_rel ⟨A, h⟩ hbi hl
      obtain ⟨tr, htr⟩ := putAll_all (old ++ new) .leaf 0 c3
      obtain ⟨_, hget⟩ := putAll_get _ _ _ htr
      obtain ⟨_, hrow⟩ := putAll_list htr
      have hol : old.length = len * size := by rw [hr.length, hlen]
      have htot : (old ++ new).length = (len + n) * size := by rw [List.length_append, hol, hnw, ← Nat.add_mul]
      have hr2 := run_grow hn (ty := ty) ht hu hzs hi hz hsi hb hnb hnl hle c1 c2 (ad := some ⟨i.cb, i.sh + o, none⟩) (vs := vs) (fun w' hw' => by
        have := run_loadCells_list (P := P) w' ⟨i.cb, i.sh + o, none⟩ vs (fun j v hj => by rw [← hcell j v hj]; simp [World.cell?, hw'])
        rw [hlen] at this
        simp [Builtin.firstCells, this])
      have hge := grownCap_ge w (len + n) cc elem
      have hlen2 := hn.len
      obtain ⟨k1, k2, k3⟩ := RM.push_A h (x := .row (old ++ new) true elem 0) (y := .row ((len + n) * size) tr [] true elem 0) ⟨htot, rfl, rfl, rfl, fun k v hk => by rw [← htot]; exact hrow k v hk⟩
      have hsz : sizeT P elem = some size := by simp [sizeT, hi, hsi]
      have hd := grown_does h.rel h.size h1 hsz (cap := grownCap w (len + n) cc elem) (need := len + n) (tree := tr) (z := []) (fz := 0) (cs := ⟨vs⟩ ++ ⟨us⟩ ++ Builtin.zeroCells z.cells (grownCap w (len + n) cc elem - (len + n)))
        (run := fun w => (Builtin.append_ ts ty #[.slice (some ⟨i.cb, i.sh + o, none⟩) len cc, x]).run P w) (by
          simp only [Array.size_append, List.size_toArray, size_zeroCells, hzc, hlen, hlen2, ← Nat.add_mul]
          congr 1; omega) hge (fun k y hk => by
          obtain ⟨hk1, hk2⟩ := cellAt_nozeros hk
          rw [hget, if_pos (by omega), Nat.sub_zero] at hk2
          rw [getElem?_three]
          by_cases hlt : k < vs.length
          · rw [if_pos hlt]
            rw [List.getElem?_append_left (by omega)] at hk2
            exact hr.get hk2
          · rw [if_neg hlt, if_pos (by rw [hlen, hlen2, ← Nat.add_mul]; omega)]
            rw [List.getElem?_append_right (by omega), hr.length] at hk2
            exact hn.rel.get hk2) hr2
      rw [h.next] at hd
      exact doesM_of h hd k1 k2 k3
  · rename_i b o len esz
    split at ha
    · rename_i h0
      cases ha
      exact key (by simp only [appendS, h0]) rfl h.next (same_blk h)
    · rename_i h0
      cases n with
      | zero => exact absurd rfl h0
      | succ n =>
      split at ha <;> first | (cases ha; done) | skip
      rename_i l opn el fz hh
      split at ha <;> first | (cases ha; done) | skip
      rename_i hc
      obtain ⟨rfl, rfl⟩ := hc
      rcases h.blk b _ hh with ⟨y, hy, hle⟩ | ⟨c, e, _⟩
      · cases y <;> first | exact hle.elim | skip
        rename_i kn tree zs opn' elem' fz'
        obtain ⟨q1, rfl, rfl, rfl, q5⟩ := hle
        have hbo : (true && Nat.beq esz esz) = true := by simp
        split at ha
        · rename_i hroom
          split at ha <;> first | (cases ha; done) | skip
          rename_i M1 hst
          cases ha
          obtain ⟨A1, a1, a2, a3, a4, a5⟩ := RM.stores_A h hst
          exact key (by simp only [appendS, hy, hbo, ble_iff.2 (show o + (len + (n + 1)) * esz ≤ kn by omega), a1]) a2 a3 a5
        · rename_i hroom
          split at ha <;> first | (cases ha; done) | skip
          rename_i hcond
          obtain ⟨rfl, c2, c3, rfl, c5, c6, c8⟩ := hcond
          cases ha
          obtain ⟨tr, htr⟩ := putAll_all new tree (len * esz) c8
          obtain ⟨_, hget⟩ := putAll_get _ _ _ htr
          have hl : A.loads b 0 (len * esz) = some ((l.drop 0).take (len * esz)) := by
            unfold AW.loads; rw [hy]; exact cells_of q5 _ _ (by omega)
          refine key (A' := { next := A.next + 1, heap := (A.heap.del b).set A.next (.row ((len + (n + 1)) * esz) tr zs true elem' fz') }) ?_ rfl (by simp [RM.push, RM.del, h.next]) ?_
          · simp only [appendS, hy, hbo, ble_ff (show ¬ 0 + (len + (n + 1)) * esz ≤ kn by omega), hl, htr, h.next]
            rw [beq_tt rfl, ble_iff.2 c2, ble_iff.2 c3, beq_tt rfl, beq_tt (show kn = len * esz by omega), ble_iff.2 c6]
            rfl
          · intro d y hd
            change (if d = M.next then some (RB.row (l ++ new) true elem' fz') else if d = b then none else M.heap d) = some y at hd
            simp only [Tree.get_set, Tree.get_del, h.next]
            by_cases e1 : d = M.next
            · subst e1
              rw [if_pos rfl] at hd ⊢
              cases hd
              refine .inl ⟨_, rfl, by rw [List.length_append, c5, hnw, ← Nat.add_mul], rfl, rfl, rfl, fun k v hk => ?_⟩
              rw [cellAt_put hget]
              by_cases hin : len * esz ≤ k ∧ k < len * esz + new.length
              · rw [if_pos hin, if_pos (by rw [Nat.add_mul]; omega)]
                rw [List.getElem?_append_right (by omega), c5] at hk
                exact hk
              · rw [if_neg hin]
                have hkl : k < l.length := by
                  have := (List.getElem?_eq_some_iff.1 hk).1
                  rw [List.length_append] at this; omega
                rw [List.getElem?_append_left hkl] at hk
                rw [← q5 k v hk]
                exact cellAt_bound (by rw [Nat.add_mul]; omega) (by omega)
            · rw [if_neg e1] at hd ⊢
              by_cases e2 : d = b
              · subst e2; rw [if_pos rfl] at hd; cases hd
              · rw [if_neg e2] at hd ⊢
                exact same_blk h d y hd
      · cases e
  · cases ha
theorem doesM_does {run : World → Result Value} {v : AV} (h : DoesM P ρ M w run v M') (hr : ∀ v' w', run w = .ok v' w' → (execOp c o).run P w = .ok (.value v') w') (hk : K v M') :
    ∃ M' ρ' w', After P M ρ w M' ρ' w' ∧
    ((∃ v' v, (execOp c o).run P w = .ok (.value v') w' ∧ VRel ρ' v v' ∧ K v M') ∨ ((execOp c o).run P w = .ok .skip w' ∧ K .undef M') ∨
      ∃ f args us, (execOp c o).run P w = .ok (.enter f ⟨us⟩) w' ∧ LRel ρ' args us ∧ CallsR P f args M' K) := by
  obtain ⟨ρ', w', v', h1, h2, h3⟩ := h
  exact ⟨M', ρ', w', h2, .inl ⟨v', v, hr _ _ h1, h3, hk⟩⟩
theorem storesM (hw : MRel P ρ M w) {b p : Nat} {i : Info} {xs : List AV} {vs : List Value} (hb : ρ b = some i) (hv : LRel ρ xs vs) (h : M.stores b p xs = some M') :
    ∃ w', (∀ off, off = i.sh + p → (storeCells ⟨i.cb, off, none⟩ vs).run P w = .ok () w') ∧ After P M ρ w M' ρ w' := by
  obtain ⟨A, hA⟩ := hw
  obtain ⟨A1, a1, a2, a3, a4, a5⟩ := RM.stores_A hA h
  obtain ⟨w1, hrun, hw1, hstep, hnext⟩ := stores_rel hA.rel hb hv a1
  exact ⟨w1, hrun, after_of hA hstep hw1 a2 a3 (by omega) a5⟩
theorem known_cells {x : AV} {M' : RM} {b p : Nat} (h : M.stores b p x.cells = some M') : ∀ (_ : x = .top), False := by
  intro e0
  unfold RM.stores at h
  split at h <;> first | (cases h; done) | skip
  split at h <;> first | (cases h; done) | skip
  rename_i hc
  rw [e0] at hc
  simp [AV.cells, oneCell] at hc
theorem store_does {t : TypeId} {a x : Operand} (hop : o.op = .store t a x) {n : Nat} (hs : sizeT P t = some n) {K : RM → Prop} (h : storeW M (e a) (e x) n K) : DoesR P o e M (fun _ M' => K M') := by
  obtain ⟨b, p, M', hea, hn, hst, hk⟩ := h
  intro ρ w c hw he
  have ha : VRel ρ (e a) (c a) := he a (by rw [hop]; simp [Op.operands])
  have hx : VRel ρ (e x) (c x) := he x (by rw [hop]; simp [Op.operands])
  rw [hea] at ha
  obtain ⟨i, hb, hc⟩ := ptr_inv ha
  have hcl := hx.cells (known_cells hst)
  have hlen := hcl.length
  simp only [Array.length_toList] at hlen
  obtain ⟨w1, hrun, haft⟩ := storesM hw hb hcl hst
  refine ⟨M', ρ, w1, haft, .inr (.inl ⟨?_, hk⟩)⟩
  simp only [execOp, hop, Instr.storeAt, Instr.sureAddr, hc, Sem.run_bind, Sem.run_pure, Result.andThen_ok, storeVar, sizeT_run hs]
  rw [if_neg (by omega)]
  rw [hrun _ rfl]
  rfl
theorem DoesR.mono (h : DoesR P o e M K) {K' : PostV} (hk : ∀ v M', K v M' → K' v M') : DoesR P o e M K' := by
  intro ρ w c hw he
  obtain ⟨M', ρ', w', h1, h2⟩ := h ρ w c hw he
  refine ⟨M', ρ', w', h1, ?_⟩
  rcases h2 with ⟨v', v, a, b, d⟩ | ⟨a, b⟩ | ⟨f, args, us, a, b, d⟩
  · exact .inl ⟨v', v, a, b, hk _ _ d⟩
  · exact .inr (.inl ⟨a, hk _ _ b⟩)
  · exact .inr (.inr ⟨f, args, us, a, b, d.mono hk⟩)
theorem firstM_run (hw : MRel P ρ M w) {x : AV} {u : Value} {size k : Nat} {vs : List AV} (hx : VRel ρ x u) (h : firstM M size k x = some vs) : ∃ us, LRel ρ vs us ∧ (Builtin.firstCells size k u).run P w = .ok ⟨us⟩ w := by
  unfold firstM at h
  split at h <;> first | (cases h; done) | skip
  · obtain ⟨i, cp, hb, rfl⟩ := slc_inv hx
    obtain ⟨us, hr, hlen, _, hrun⟩ := RM.run_loads (P := P) hw hb h
    exact ⟨us, hr, by simp only [Builtin.firstCells]; exact hrun⟩
  · rename_i s
    split at h <;> first | (cases h; done) | skip
    cases h
    obtain ⟨rfl, _⟩ := sc_inv hx
    have hr : LRel ρ ((s.data.toList.take k).map fun b => AV.sc (.int .u8 b.toNat)) ((s.data.toList.take k).map fun b => Value.int .u8 b.toNat) := by
      generalize s.data.toList.take k = l
      induction l with
      | nil => exact .nil
      | cons b l ih => exact .cons _ _ _ _ (.sc _ rfl) ih
    refine ⟨_, hr, ?_⟩
    simp only [Builtin.firstCells, Sem.run_pure]
    congr 1
    apply Array.ext'
    simp [ByteArray.data_extract]
theorem copy_does {t elem : TypeId} {d x : Operand} {ts : Array TypeId} (hop : o.op = .call { callee := .builtin .copy, args := ⟨[d, x]⟩, argTypes := ts }) (ht : ts[0]? = some t) (hu : P.underlying t = some (.slice elem))
    {size : Nat} (hs : sizeT P elem = some size) {v : AV} (h : copyM size (e d) (e x) M = some (v, M')) (hk : K v M') : DoesR P o e M K := by
  intro ρ w c hw he
  have hd : VRel ρ (e d) (c d) := he d (by rw [hop]; simp [Op.operands, Call.operands])
  have hx : VRel ρ (e x) (c x) := he x (by rw [hop]; simp [Op.operands, Call.operands])
  have key : ∀ {dA : Option Addr} {dl dc sn : Nat} {us : List Value} {w1 : World}, c d = .slice dA dl dc → (Builtin.lenOf (c x)).run P w = .ok sn w → (Builtin.firstCells size (Nat.min sn dl) (c x)).run P w = .ok ⟨us⟩ w →
      (match dA with | some a => (storeCells a us).run P w = .ok () w1 | none => w1 = w) → (execOp c o).run P w = .ok (.value (.int .i64 (Nat.min sn dl : Nat))) w1 := by
    intro dA dl dc sn us w1 hcd hl hf hst
    have : (Builtin.copy_ ts o.type #[c d, c x]).run P w = .ok (.int .i64 (Nat.min sn dl : Nat)) w1 := by
      simp only [Builtin.copy_, ht, List.getElem?_toArray, List.getElem?_cons_zero, List.getElem?_cons_succ, Sem.run_bind, run_underlying hu, Result.andThen_ok, hcd, hl, sizeT_run hs, hf]
      cases dA with
      | none => simp only at hst; subst hst; rfl
      | some a => simp only at hst; simp only [Sem.run_bind, hst, Result.andThen_ok, Sem.run_pure, goInt]
    simp only [execOp, hop, resolve, invoke, builtin, Sem.run_bind, Sem.run_pure, Result.andThen_ok]
    rw [show (Array.map c ⟨[d, x]⟩) = #[c d, c x] by simp, this]
    rfl
  unfold copyM at h
  split at h <;> first | (cases h; done) | skip
  · rename_i b p dn cap hed
    rw [hed] at hd
    obtain ⟨i, cp, hb, hcd⟩ := slc_inv hd
    split at h <;> first | (cases h; done) | skip
    rename_i sn hsn
    have hl := lenA_run (P := P) hx hsn w
    split at h
    · rename_i hm
      cases h
      refine ⟨M, ρ, w, After.refl hw, .inl ⟨_, _, key hcd hl (by rw [hm]; exact firstCells_zero hx hsn w) (w1 := w) rfl, ?_, hk⟩⟩
      rw [hm]; exact .sc _ rfl
    · split at h <;> first | (cases h; done) | skip
      rename_i vs hvs
      split at h <;> first | (cases h; done) | skip
      rename_i M1 hst
      cases h
      obtain ⟨us, hr, hf⟩ := firstM_run hw hx hvs
      obtain ⟨w1, hrun, haft⟩ := storesM hw hb hr hst
      exact ⟨M', ρ, w1, haft, .inl ⟨_, _, key hcd hl hf (w1 := w1) (hrun _ rfl), .sc _ rfl, hk⟩⟩
  · rename_i b hed
    rw [hed] at hd
    generalize hcd : c d = cd at hd
    cases hd with
    | emp _ ad cp =>
    split at h <;> first | (cases h; done) | skip
    rename_i sn hsn
    cases h
    have hl := lenA_run (P := P) hx hsn w
    have hm : Nat.min sn 0 = 0 := Nat.min_zero _
    refine ⟨M, ρ, w, After.refl hw, .inl ⟨_, _, key hcd hl (by rw [hm]; exact firstCells_zero hx hsn w) (w1 := w) rfl, ?_, hk⟩⟩
    rw [hm]; exact .sc _ rfl
  · rename_i hed
    rw [hed] at hd
    have hcd := (sc_inv hd).1
    split at h <;> first | (cases h; done) | skip
    rename_i sn hsn
    cases h
    have hl := lenA_run (P := P) hx hsn w
    have hm : Nat.min sn 0 = 0 := Nat.min_zero _
    refine ⟨M, ρ, w, After.refl hw, .inl ⟨_, _, key hcd hl (by rw [hm]; exact firstCells_zero hx hsn w) (w1 := w) rfl, ?_, hk⟩⟩
    rw [hm]; exact .sc _ rfl
theorem clear_does {t elem : TypeId} {x : Operand} {ts : Array TypeId} (hop : o.op = .call { callee := .builtin .clear, args := ⟨[x]⟩, argTypes := ts }) (ht : ts[0]? = some t) (hu : P.underlying t = some (.slice elem))
    {size : Nat} {zs : List AV} (hs : sizeT P elem = some size) (hzs : zerosOf P elem = some zs) (c1 : 1 ≤ size) (c2 : zs.length = size) (h : clearW zs (e x) M K) : DoesR P o e M K := by
  intro ρ w c hw he
  have hx : VRel ρ (e x) (c x) := he x (by rw [hop]; simp [Op.operands, Call.operands])
  rcases h with ⟨b, p, n, cap, M', hex, hst, hk⟩ | ⟨b, hex, hk⟩ | ⟨hex, hk⟩
  · obtain ⟨it, z, hi, hz, hr⟩ := zerosOf_inv (ρ := ρ) hzs
    have hl := hr.length
    simp only [Array.length_toList] at hl
    rw [hex] at hx
    obtain ⟨i, cp, hb, hcx⟩ := slc_inv hx
    have hrel := rep_rel hr (by omega) n
    rw [repL_rep] at hrel
    obtain ⟨w1, hrun, haft⟩ := storesM hw hb hrel hst
    refine ⟨M', ρ, w1, haft, .inl ⟨.tuple #[], .undef, clear_run (t := t) hop ?_, .tup _ _ .nil, hk⟩⟩
    have hrun := hrun _ rfl
    cases n with
    | zero =>
      have he : (Builtin.zeroCells z.cells 0).toList = [] := by simp [Builtin.zeroCells]
      rw [he] at hrun
      simp only [storeCells, Sem.run_pure] at hrun
      cases hrun
      simp only [Builtin.clear_, ht, List.getElem?_toArray, List.getElem?_cons_zero, Sem.run_bind, run_underlying hu, Result.andThen_ok, hcx, Sem.run_pure]
    | succ n =>
      simp only [Builtin.clear_, ht, List.getElem?_toArray, List.getElem?_cons_zero, Sem.run_bind, run_underlying hu, Result.andThen_ok, hcx, zeroValue, typeInfo, run_program, hi, hz, Sem.run_pure, hrun]
  · rw [hex] at hx
    generalize hcx : c x = cx at hx
    cases hx with
    | emp _ ad cp =>
    refine ⟨M, ρ, w, After.refl hw, .inl ⟨.tuple #[], .undef, clear_run (t := t) hop ?_, .tup _ _ .nil, hk⟩⟩
    simp only [Builtin.clear_, ht, List.getElem?_toArray, List.getElem?_cons_zero, Sem.run_bind, run_underlying hu, Result.andThen_ok, hcx, Sem.run_pure]
  · rw [hex] at hx
    refine ⟨M, ρ, w, After.refl hw, .inl ⟨.tuple #[], .undef, clear_run (t := t) hop ?_, .tup _ _ .nil, hk⟩⟩
    simp only [Builtin.clear_, ht, List.getElem?_toArray, List.getElem?_cons_zero, Sem.run_bind, run_underlying hu, Result.andThen_ok, (sc_inv hx).1, Sem.run_pure]
theorem valsV : ∀ {xs : List AV} {us vs : List Value}, LRel ρ xs vs → mapO toVal xs = some us → vs = us
  | [], us, _, h, hu => by simp [mapO] at hu; subst hu; exact h.nil_inv
  | x :: xs, us, _, .cons _ v _ vs a b, hu => by
    simp only [mapO] at hu
    split at hu
    · rename_i y hy
      split at hu
      · rename_i ys hys
        cases hu
        rw [toVal_rel a hy, valsV b hys]
      · cases hu
    · cases hu
theorem niceE_sound (hP : POk P) (he0 : ∀ g, e (.func g) = .fn (.func g) [] []) (h : niceE P o e M K) : DoesR P o e M K := by
  cases hop : o.op
  case store t a x =>
    simp only [niceE, hop] at h
    split at h <;> first | (cases h; done) | skip
    rename_i n hs
    intro ρ w c hw he
    obtain ⟨M', ρ', w', h1, h2⟩ := store_does hop hs h ρ w c hw he
    obtain ⟨b, p, M1, hea, hn, hst, hk⟩ := h
    refine ⟨M', ρ', w', h1, ?_⟩
    rcases h2 with ⟨v', v, a1, b1, d1⟩ | ⟨a1, b1⟩ | ⟨f, args, us, a1, b1, d1⟩
    · exfalso
      have hz := a1
      simp only [execOp, hop, Sem.run_bind] at hz
      revert hz
      generalize (Instr.storeAt t (c a) (c x)).run P w = r
      cases r <;> simp [Result.andThen]
    · exact .inr (.inl ⟨a1, b1⟩)
    · exfalso
      have hz := a1
      simp only [execOp, hop, Sem.run_bind] at hz
      revert hz
      generalize (Instr.storeAt t (c a) (c x)).run P w = r
      cases r <;> simp [Result.andThen]
  case next it str =>
    cases str
    · simp only [niceE, hop] at h
    simp only [niceE, hop] at h
    obtain ⟨b, s, pos, hex, hg, hk⟩ := h
    intro ρ w c hw he
    have hx : VRel ρ (e it) (c it) := he it (by rw [hop]; simp [Op.operands])
    rw [hex] at hx
    obtain ⟨i, hb, hcx⟩ := ptr_inv hx
    obtain ⟨A, hA⟩ := hw
    rcases hA.blk b _ hg with ⟨y, hy, hle⟩ | ⟨_, e0, _⟩
    · cases y <;> first | exact hle.elim | skip
      obtain ⟨rfl, rfl⟩ := hle
      rename_i pos
      obtain ⟨ob, hob, hsh, rfl⟩ := hA.rel.blk b i _ hb hy
      have hget : (getObj i.cb).run P w = .ok (.stringIter ⟨⟨s⟩⟩ pos) w := by simp [getObj, Sem.run, hob]
      have hcx' : c it = .pointer (some ⟨i.cb, 0, none⟩) := by rw [hcx, hsh]
      by_cases hlt : pos < s.length
      · rw [if_pos hlt] at hk
        have hlt' : pos < (⟨⟨s⟩⟩ : ByteArray).size := hlt
        obtain ⟨q1, q2⟩ := setBlk_rel hA.rel (x := .siter ⟨⟨s⟩⟩ (pos + (Utf8.decode ⟨⟨s⟩⟩ pos).2)) hb hy (w' := { w with heap := w.heap.setIfInBounds i.cb (.stringIter ⟨⟨s⟩⟩ (pos + (Utf8.decode ⟨⟨s⟩⟩ pos).2)) }) rfl rfl rfl (by simp)
          (fun j hj => by simp [Array.getElem?_setIfInBounds, Ne.symm hj]) (by
            have := (Array.getElem?_eq_some_iff.1 hob).1
            simp [Array.getElem?_setIfInBounds, this]) ⟨hsh, rfl⟩
        refine ⟨M.put b (.siter s (pos + (Utf8.decode ⟨⟨s⟩⟩ pos).2)), ρ, _, after_of hA q2 q1 rfl hA.next (Nat.le_refl _) ?_, .inl ⟨.tuple #[.bool true, .int .i64 pos, .int .i32 (Utf8.decode ⟨⟨s⟩⟩ pos).1], _, ?_, .tup _ _ (.cons _ _ _ _ (.sc _ rfl) (.cons _ _ _ _ (.sc _ rfl) (.cons _ _ _ _ (.sc _ rfl) .nil))), hk⟩⟩
        · intro d y hd
          simp only [RM.put] at hd
          simp only [Tree.get_set]
          by_cases e2 : d = b
          · subst e2; rw [if_pos rfl] at hd ⊢; cases hd; exact .inl ⟨_, rfl, rfl, rfl⟩
          · rw [if_neg e2] at hd ⊢; exact same_blk hA d y hd
        · simp only [execOp, hop, Instr.next, hcx', Sem.run_bind, hget, Result.andThen_ok]
          rw [if_pos hlt']
          simp only [Sem.run_bind, setObj, Sem.run, hob, Result.andThen_ok, Sem.run_pure, goInt]
      · rw [if_neg hlt] at hk
        have hlt' : ¬ pos < (⟨⟨s⟩⟩ : ByteArray).size := hlt
        refine ⟨M, ρ, w, After.refl ⟨A, hA⟩, .inl ⟨.tuple #[.bool false], _, ?_, .tup _ _ (.cons _ _ _ _ (.sc _ rfl) .nil), hk⟩⟩
        simp only [execOp, hop, Instr.next, hcx', Sem.run_bind, hget, Result.andThen_ok]
        rw [if_neg hlt']
        rfl
    · cases e0
  case convert src dst x =>
    simp only [niceE, hop] at h
    split at h <;> first | (cases h; done) | skip
    rename_i el hsd hu
    split at h <;> first | (cases h; done) | skip
    rename_i hel
    obtain ⟨b, p, n, cp, l, elem, hex, hg, hk⟩ := h
    have hsd := beq_t hsd
    subst hsd
    intro ρ w c hw he
    have hx : VRel ρ (e x) (c x) := he x (by rw [hop]; simp [Op.operands])
    obtain ⟨A, hA⟩ := hw
    rcases hA.blk b _ hg with ⟨y, hy, hle⟩ | ⟨_, e0, _⟩
    · cases y <;> first | exact hle.elim | skip
      rename_i nn tree zs opn' elem' fz'
      obtain ⟨h1, rfl, rfl, rfl, h5⟩ := hle
      have hx' := hx
      rw [hex] at hx
      obtain ⟨i, cp', hb, hcx⟩ := slc_inv hx
      obtain ⟨ob, hob, cc, fr, rfl, hrow⟩ := hA.rel.blk b i _ hb hy
      obtain ⟨hf1, hf2⟩ := hrow.mark rfl rfl
      obtain ⟨hq1, _⟩ := markRow (P := P) hob hf1 (e := .slice (some ⟨i.cb, i.sh + p, none⟩) n cp') hu hel
      have hlt := (Array.getElem?_eq_some_iff.1 hob).1
      obtain ⟨q1, q2⟩ := setBlk_rel hA.rel (x := .row nn tree zs false elem' (nn + 1)) (ob := .cells cc elem' (cc.size, cc.size + 1)) hb hy (w' := { w with heap := w.heap.setIfInBounds i.cb (.cells cc elem' (cc.size, cc.size + 1)) }) rfl rfl rfl (by simp)
        (fun j hj => by simp [Array.getElem?_setIfInBounds, Ne.symm hj]) (by simp [Array.getElem?_setIfInBounds, hlt])
        ⟨cc, _, rfl, ⟨hrow.size, hrow.val, fun k _ hk h2 => by omega, fun _ h0 => by omega, hrow.opn, hrow.sh0⟩⟩
      refine ⟨M.put b (.row l false elem' (l.length + 1)), ρ, _, after_of hA q2 q1 rfl hA.next (Nat.le_refl _) ?_, .inl ⟨_, _, by simp only [execOp, hop, Sem.run_bind, hcx, hq1, Result.andThen_ok, Sem.run_pure], hcx ▸ hx', hk⟩⟩
      intro d y hd
      simp only [RM.put] at hd
      simp only [Tree.get_set]
      by_cases e2 : d = b
      · subst e2; rw [if_pos rfl] at hd ⊢; cases hd; exact .inl ⟨_, rfl, h1, rfl, rfl, by rw [h1], h5⟩
      · rw [if_neg e2] at hd ⊢; exact same_blk hA d y hd
    · cases e0
  case call cl =>
    obtain ⟨callee, args, ts⟩ := cl
    cases callee with
    | builtin b =>
      cases b
      case unsafeString =>
        simp only [niceE, hop] at h
        split at h <;> first | (cases h; done) | skip
        rename_i t x n ht
        split at h <;> first | (cases h; done) | skip
        rename_i el hu
        split at h <;> first | (cases h; done) | skip
        rename_i hel hc1
        have hc1 := beq_t hc1
        intro ρ w c hw he
        obtain ⟨A, hA⟩ := hw
        have hX : XOk P ⟨[], [], []⟩ := ⟨hP.ng, fun f h => (by cases h), fun f h => (by cases h)⟩
        rcases h with ⟨b, k, l, opn, fz, s, hex, hen, hk0, hg, hkl, hs, hk⟩ | ⟨hex, hen, hk⟩
        · rcases hA.blk b _ hg with ⟨y, hy, hle⟩ | ⟨_, e0, _⟩
          · cases y <;> first | exact hle.elim | skip
            rename_i nn tree zs opn' elem' fz'
            obtain ⟨h1, rfl, rfl, rfl, h5⟩ := hle
            have hl : A.loads b 0 (k + 1) = some (l.take (k + 1)) := by
              unfold AW.loads
              rw [hy]
              simpa using cells_of h5 (k + 1) 0 (by omega)
            have hlies : liesAt P P.depth elem' (nn / P.cellsOf elem') 0 elem' (k + 1) = true := Lib.liesAt_bytes hc1 _ _ (by rw [hc1, Nat.div_one]; omega)
            have heff : effOp P ⟨[], [], []⟩ o e A = some (.value (St s), { A with heap := A.heap.del b }) := by
              simp only [effOp, hop, ht, hu, hel, hex, hen, natOf, hy, hl, bytesOf, hs, hlies, ble_iff.2 hk0]
            obtain ⟨ρ', w', q1, q2, q3, v', hrun, hv⟩ := effOp_sound hX hA.rel hA.size he heff
            refine ⟨M.del b, ρ', w', after_of hA q1 q2 rfl hA.next q3 fun d z hd => ?_, .inl ⟨v', _, hrun, hv, hk⟩⟩
            simp only [RM.del] at hd
            simp only [Tree.get_del]
            by_cases e2 : d = b
            · rw [if_pos e2] at hd; cases hd
            · rw [if_neg e2] at hd ⊢; exact same_blk hA d z hd
          · cases e0
        · have heff : effOp P ⟨[], [], []⟩ o e A = some (.value (St []), A) := by
            simp only [effOp, hop, ht, hu, hel, hex, hen, natOf]
          obtain ⟨ρ', w', q1, q2, q3, v', hrun, hv⟩ := effOp_sound hX hA.rel hA.size he heff
          exact ⟨M, ρ', w', after_of hA q1 q2 rfl hA.next q3 fun d z hd => same_blk hA d z hd, .inl ⟨v', _, hrun, hv, hk⟩⟩
      case append =>
        simp only [niceE, hop] at h
        split at h <;> first | (cases h; done) | skip
        rename_i t s x ht
        split at h <;> first | (cases h; done) | skip
        rename_i elem zeros hu hz
        split at h <;> first | (cases h; done) | skip
        rename_i size bytes zs hs1 hb1 hz1
        split at h <;> first | (cases h; done) | skip
        rename_i c1 c2
        have c1 := ble_t c1; have c2 := beq_t c2
        obtain ⟨n, new, hnew, c3, c4, v, M', hM, hk⟩ := h
        intro ρ w c hw he
        have hs : VRel ρ (e s) (c s) := he s (by rw [hop]; simp [Op.operands, Call.operands])
        have hx : VRel ρ (e x) (c x) := he x (by rw [hop]; simp [Op.operands, Call.operands])
        obtain ⟨us, hn⟩ := newL_rel (P := P) hw hx hz1 c1 c2 hnew
        obtain ⟨it, z, hi, hzz, hr⟩ := zerosOf_inv (ρ := ρ) hz1
        have hl := hr.length
        simp only [Array.length_toList] at hl
        obtain ⟨A, hA⟩ := hw
        refine doesM_does (appM_sound hA c1 hs hn (ty := o.type) ht hu hz hi hzz (by simpa [sizeT, hi] using hs1) (by omega) (by simpa [bytesT, hi] using hb1) c3 c4 hM) (fun v' w' hr => ?_) hk
        simp only [execOp, hop, resolve, invoke, builtin, Sem.run_bind, Sem.run_pure, Result.andThen_ok]
        rw [show (Array.map c ⟨[s, x]⟩) = #[c s, c x] by simp, hr]
        rfl
      case copy =>
        simp only [niceE, hop] at h
        split at h <;> first | (cases h; done) | skip
        rename_i t s x ht
        split at h <;> first | (cases h; done) | skip
        rename_i elem hu
        split at h <;> first | (cases h; done) | skip
        rename_i size hsz
        obtain ⟨v, M', hM, hk⟩ := h
        exact copy_does hop ht hu hsz hM hk
      case clear =>
        simp only [niceE, hop] at h
        split at h <;> first | (cases h; done) | skip
        rename_i t x ht
        split at h <;> first | (cases h; done) | skip
        rename_i elem hu
        split at h <;> first | (cases h; done) | skip
        rename_i size zs hs hzs
        split at h <;> first | (cases h; done) | skip
        rename_i c1 c2
        exact clear_does hop ht hu hs hzs (ble_t c1) (beq_t c2) h
      all_goals (simp only [niceE, hop] at h)
    | value f =>
      have hrun : ∀ {c : Operand → Value} {w : World} {g : FuncId} {us vs : List Value}, c f = .func (.func g) ⟨us⟩ ⟨vs⟩ → (execOp c o).run P w = (callFunc g ⟨us ++ args.toList.map c ++ vs⟩).run P w := by
        intro c w g us vs hcf
        simp only [execOp, hop, resolve, hcf, Deferred.ofValue, invoke, Sem.run_bind, Sem.run_pure, Result.andThen_ok]
        congr 2
        apply Array.ext'
        simp
      have ha : ∀ {ρ : Ren} {c : Operand → Value}, (∀ x ∈ o.op.operands, VRel ρ (e x) (c x)) → ∀ x ∈ args.toList, VRel ρ (e x) (c x) := fun he x hx => he x (by rw [hop]; simp [Op.operands, Call.operands]; exact .inr (by simpa using hx))
      have gen : ∀ (g : FuncId) (first cap : List AV), e f = .fn (.func g) first cap → CallsR P g (first ++ args.toList.map e ++ cap) M K → DoesR P o e M K := by
        intro g first cap hef hcall ρ w c hw he
        have hf : VRel ρ (e f) (c f) := he f (by rw [hop]; simp [Op.operands, Call.operands])
        rw [hef] at hf
        generalize hcf : c f = cf at hf
        cases hf with
        | fn _ _ _ us vs hp hfi hca =>
        obtain ⟨⟨fn, cd, hfn, hcd⟩, hall⟩ := hcall
        refine ⟨M, ρ, w, After.refl hw, .inr (.inr ⟨g, _, us ++ args.toList.map c ++ vs, ?_, (hfi.append (LRel.ofAll _ (ha he))).append hca, ⟨⟨fn, cd, hfn, hcd⟩, hall⟩⟩)⟩
        rw [hrun hcf]
        exact body_run hfn (hP.ng _ _ hfn) hcd w
      cases f with
      | func g =>
        simp only [niceE, hop] at h
        split at h <;> first | (cases h; done) | skip
        rename_i fn hfn
        split at h
        · rename_i cd hcd
          exact gen g [] [] (he0 g) (by simpa using h)
        · rename_i hcd
          have start : ∀ {ρ : Ren} {w : World} {c : Operand → Value}, (∀ x ∈ o.op.operands, VRel ρ (e x) (c x)) → (execOp c o).run P w = (callFunc g ⟨args.toList.map c⟩).run P w := by
            intro ρ w c he
            have hf : VRel ρ (e (.func g)) (c (.func g)) := he _ (by rw [hop]; simp [Op.operands, Call.operands])
            rw [he0] at hf
            generalize hcf : c (.func g) = cf at hf
            cases hf with
            | fn _ _ _ us vs hp hfi hca =>
            cases hfi.nil_inv
            cases hca.nil_inv
            rw [hrun hcf]
            simp only [List.nil_append, List.append_nil]
          rcases h with ⟨v, hv, hk⟩ | ⟨⟨fn', t, elem, size, tr, g1, g2, g3, g4, g5, g6⟩, ⟨ba, oa, na, ca, bb, ob, nb, cb, la, ea, fa, lb, opb, eb, fb, hargs, hne, hla, hlb, q1, q2, q3⟩, hk⟩ | ⟨⟨fn', g1, g2, g3, g4⟩, v, hargs, hk⟩ | ⟨v, hnat, hk⟩
          · intro ρ w c hw he
            unfold enterA at hv
            rw [hfn] at hv
            simp only [hcd] at hv
            split at hv <;> first | (cases hv; done) | skip
            rename_i h1
            split at hv <;> first | (cases hv; done) | skip
            rename_i s ws h2 hws
            split at hv <;> first | (cases hv; done) | skip
            rename_i u hu
            split at hv <;> first | (cases hv; done) | skip
            rename_i y hy
            cases hv
            have hval := valsV (LRel.ofAll _ (ha he)) hws
            refine ⟨M, ρ, w, After.refl hw, .inl ⟨u, v, ?_, ofVal_rel hy, hk⟩⟩
            rw [start he, hval]
            exact noBody_run hfn (hP.ng _ _ hfn) hcd h1 h2 (fun w => pureRun_run hu w) w
          · intro ρ w c hw he
            have hl := LRel.ofAll _ (ha he)
            rw [hargs] at hl
            obtain ⟨A, hA⟩ := hw
            rcases hA.blk ba _ hla with ⟨ya, hya, hlea⟩ | ⟨_, e0, _⟩
            · rcases hA.blk bb _ hlb with ⟨yb, hyb, hleb⟩ | ⟨_, e0, _⟩
              · cases ya <;> first | exact hlea.elim | skip
                cases yb <;> first | exact hleb.elim | skip
                obtain ⟨r1, rfl, rfl, rfl, r5⟩ := hlea
                obtain ⟨s1, rfl, rfl, rfl, s5⟩ := hleb
                have hov : overlapsA A [.slc ba oa na ca, .slc bb ob nb cb] = some (.sc (.bool false)) := by
                  simp only [overlapsA, beq_ff hne, hya, hyb]
                  subst q1
                  rw [ble_iff.2 (by omega), ble_iff.2 (by omega)]
                  rfl
                obtain ⟨_, hr⟩ := overlaps_run (tr := tr) hA.rel hl hov g5 g6
                refine ⟨M, ρ, w, After.refl ⟨A, hA⟩, .inl ⟨.bool false, Bo false, ?_, .sc _ rfl, hk⟩⟩
                rw [start he]
                exact noBody_runIn g1 (hP.ng _ _ g1) g2 g3 g4 hr
              · cases e0
            · cases e0
          · intro ρ w c hw he
            have hl := LRel.ofAll _ (ha he)
            rw [hargs] at hl
            generalize hal : args.toList.map c = al at hl
            cases hl with
            | cons _ u _ us2 h1 hr =>
            cases hr
            refine ⟨M, ρ, w, After.refl hw, .inl ⟨u, v, ?_, h1, hk⟩⟩
            rw [start he, hal]
            exact noBody_runIn g1 (hP.ng _ _ g1) g2 g3 g4 rfl
          · intro ρ w c hw he
            obtain ⟨u, hrun, hv⟩ := hnat ρ w _ (LRel.ofAll _ (ha he)) hw
            exact ⟨M, ρ, w, After.refl hw, .inl ⟨u, v, by rw [start he]; exact hrun, hv, hk⟩⟩
      | tmp t => 
        simp only [niceE, hop] at h
        obtain ⟨g, first, cap, hef, hcall⟩ := h
        exact gen g first cap hef hcall
      | const v =>
        simp only [niceE, hop] at h
        obtain ⟨g, first, cap, hef, hcall⟩ := h
        exact gen g first cap hef hcall
      | global v =>
        simp only [niceE, hop] at h
        obtain ⟨g, first, cap, hef, hcall⟩ := h
        exact gen g first cap hef hcall
    | invoke r m => simp only [niceE, hop] at h
  all_goals (simp only [niceE, hop] at h)
end
end Go.Ab
set_option linter.unusedVariables false
set_option linter.unusedSimpArgs false
namespace Go.Ab
open Go Go.RowKit
def putK (nt : Nat) (T : Tree AV) (d : Option Tmp) (v : AV) (K : Tree AV → Prop) : Prop :=
  match d with
  | none => K T
  | some d => match Nat.ble (d + 1) nt with
    | true => K (T.set d v)
    | false => False
def newW (x : RB) (mk : Nat → AV) (M : RM) (K : PostV) : Prop := K (mk M.next) (M.push x)
def opW (P : Program) (o : Oper) (e : Operand → AV) (M : RM) (K : PostV) : Prop :=
  match kindOf P o with
  | .pure | .read => niceV P o e M (fun v => K v M)
  | .alloc => niceN P o e (fun x mk => newW x mk M K)
  | .eff => niceE P o e M K
def guardW {α : Type} (x : AV) (want : Bool) (f g : α → Prop) (k : α) : Prop :=
  match x with
  | .sc (.bool b) => if b = want then f k else g k
  | .tup [] => g k
  | _ => False
def opsW (P : Program) (nt : Nat) (ops : Array Oper) : List Oper → Tree AV → RM → (Tree AV → RM → Prop) → Prop
  | [], T, M, K => K T M
  | o :: rest, T, M, K => match o.guard with
    | none => opW P o (evalT T) M (fun v M' => putK nt T o.dst v (fun T' => opsW P nt ops rest T' M' K))
    | some (j, want) => match (ops[j]?).bind (·.dst) with
      | none => False
      | some d => guardW ((T.get d).getD .top) want (opW P o (evalT T) M) (fun k => k .undef M) (fun v M' => putK nt T o.dst v (fun T' => opsW P nt ops rest T' M' K))
section
variable {P : Program} {ρ : Ren} {M : RM} {w : World} {nt : Nat} {T : Tree AV} {a : Act}
theorem putK_rel (h : ARel ρ nt T a) {d : Option Tmp} {v : AV} {v' : Value} {K : Tree AV → Prop} (hv : VRel ρ v v') (hp : putK nt T d v K) : ∃ T', ARel ρ nt T' (a.put d v') ∧ K T' ∧ ∀ t, d ≠ some t → T'.get t = T.get t := by
  cases d with
  | none => exact ⟨T, put_rel h hv rfl, hp, fun _ _ => rfl⟩
  | some d =>
    simp only [putK] at hp
    split at hp
    · rename_i hb
      exact ⟨T.set d v, put_rel h hv (by simp only [putT, hb]), hp, fun t ht => by rw [Tree.get_set, if_neg (fun e => ht (by rw [e]))]⟩
    · cases hp
theorem opW_does (hP : POk P) {o : Oper} {e : Operand → AV} {K : PostV} (he0 : ∀ g, e (.func g) = .fn (.func g) [] []) (h : opW P o e M K) : DoesR P o e M K := by
  unfold opW at h
  have val : niceV P o e M (fun v => K v M) → DoesR P o e M K := by
    intro h ρ w c hw he
    obtain ⟨v, hg, hk⟩ := niceV_sound h
    have hg : GivesR P o e M v := by rcases hg with hg | ⟨_, hg⟩ <;> first | exact hg M | exact hg
    obtain ⟨v', h1, h2⟩ := hg ρ w c M (RM.Sub.refl M) hw he
    exact ⟨M, ρ, w, After.refl hw, .inl ⟨v', v, h1, h2, hk⟩⟩
  split at h
  · exact val h
  · exact val h
  · obtain ⟨x, mk, hm, hk⟩ := niceN_sound h
    intro ρ w c hw he
    obtain ⟨ρ', w', u, h1, h2, h3⟩ := makes_after hw he hm
    exact ⟨_, ρ', w', h2, .inl ⟨u, _, h1, h3, hk⟩⟩
  · exact niceE_sound hP he0 h
theorem does_wp {o : Oper} {e : Operand → AV} {K : PostV} (h : DoesR P o e M K) (hw : MRel P ρ M w) (he : ∀ x ∈ o.op.operands, VRel ρ (e x) (a.eval x)) {K' : Act → World → Prop} {Q : Exit → Act → World → Prop}
    (hK : ∀ v v' M' ρ' w', After P M ρ w M' ρ' w' → VRel ρ' v v' → K v M' → K' (a.put o.dst v') w') : o.wp P a w K' Q := by
  obtain ⟨M', ρ', w', haft, h2⟩ := h ρ w a.eval hw he
  rcases h2 with ⟨v', v, h1, h3, hk⟩ | ⟨h1, hk⟩ | ⟨f, args, us, h1, h3, hb, hc⟩
  · exact op_gives o h1 (hK _ _ _ _ _ haft h3 hk)
  · exact op_skips o h1 (hK _ _ _ _ _ haft (.tup _ _ .nil) hk)
  · refine op_enters o h1 (hc ρ' w' us h3 haft.rel) fun e w'' hR => ?_
    obtain ⟨v', v, M2, ρ2, rfl, k1, k2, k3⟩ := hR
    exact ⟨v', rfl, hK _ _ _ _ _ (haft.trans k1) k2 k3⟩
theorem guardW_rel {α : Type} {x : AV} {u : Value} {want : Bool} {f g : α → Prop} {k : α} (h : guardW x want f g k) (hx : VRel ρ x u) : (u = .bool want ∧ f k) ∨ ((∀ b, u = .bool b → b ≠ want) ∧ g k) := by
  unfold guardW at h
  split at h <;> first | (cases h; done) | skip
  · obtain ⟨rfl, _⟩ := sc_inv hx
    split at h
    · rename_i e; subst e; exact .inl ⟨rfl, h⟩
    · rename_i e; exact .inr ⟨fun b hb => by cases hb; exact e, h⟩
  · obtain ⟨vs, rfl, hr⟩ := tup_inv hx
    exact .inr ⟨fun b hb => (by cases hb), h⟩
theorem opsW_sound (hP : POk P) {ops : Array Oper} {Q : Exit → Act → World → Prop} {K : Tree AV → RM → Prop} {M0 : RM} {ρ0 : Ren} {w0 : World} {T0 : Tree AV}
    (hQ : ∀ T' M' ρ' a' w', After P M0 ρ0 w0 M' ρ' w' → ARel ρ' nt T' a' → K T' M' → (∀ t, (∀ o ∈ ops.toList, o.dst ≠ some t) → T'.get t = T0.get t) → Q .normal a' w') :
    ∀ (l : List Oper) (i : Nat) {ρ : Ren} {M : RM} {w : World} {T : Tree AV} {a : Act}, ops.toList.drop i = l → ARel ρ nt T a → After P M0 ρ0 w0 M ρ w → (∀ t, (∀ o ∈ ops.toList, o.dst ≠ some t) → T.get t = T0.get t) → opsW P nt ops l T M K →
      wpOps P ops Q (List.range' i l.length) a w
  | [], i, ρ, M, w, T, a, _, hA, hw, hkp, h => hQ T M ρ a w hw hA h hkp
  | o :: rest, i, ρ, M, w, T, a, hl, hA, hw, hkp, h => by
    have ho : ops[i]? = some o := by
      have : ops.toList[i]? = some o := by
        have h0 : (ops.toList.drop i)[0]? = some o := by rw [hl]; rfl
        rw [List.getElem?_drop] at h0; exact h0
      rw [← Array.getElem?_toList]; exact this
    have hom : o ∈ ops.toList := by
      have h1 : ops.toList[i]? = some o := by rw [Array.getElem?_toList]; exact ho
      exact List.mem_of_getElem? h1
    have hl' : ops.toList.drop (i + 1) = rest := by
      rw [← List.drop_drop (i := 1) (j := i)] <;> rw [hl]; rfl
    rw [List.length_cons, List.range'_succ, wpOps_cons]
    unfold wpOp
    simp only [ho]
    simp only [opsW] at h
    have he : ∀ x ∈ o.op.operands, VRel ρ (evalT T x) (a.eval x) := fun x _ => evalT_rel hA x
    have next : opW P o (evalT T) M (fun v M' => putK nt T o.dst v (fun T' => opsW P nt ops rest T' M' K)) → o.wp P a w (wpOps P ops Q (List.range' (i + 1) rest.length)) Q := by
      intro h
      refine does_wp (opW_does hP (fun _ => rfl) h) hw.rel he fun v v' M' ρ' w' haft hv hk => ?_
      obtain ⟨T', hT, hk, hkt⟩ := putK_rel (hA.mono (haft.le hw.rel)) hv hk
      exact opsW_sound hP hQ rest (i + 1) hl' hT (hw.trans haft) (fun t ht => by rw [hkt t (ht o hom), hkp t ht]) hk
    split at h
    · rename_i hg
      have : Region.wanted o (yielded ops a.tmps) = true := by simp [Region.wanted, hg]
      rw [this]
      exact .inl (next h)
    · rename_i j want hg
      split at h <;> first | (cases h; done) | skip
      rename_i d hd
      have hyv : yielded ops a.tmps j = match a.tmps[d]? with | some (.bool b) => some b | _ => none := by
        unfold yielded; rw [hd]; rfl
      have hget : ∀ t : Bool, a.tmps.getD d undef = .bool t ↔ a.tmps[d]? = some (.bool t) := by
        intro t
        rw [Array.getD_eq_getD_getElem?]
        cases hx : a.tmps[d]? with
        | none => simp [undef]
        | some y => simp
      rcases guardW_rel h (hA.val d) with ⟨hu, hf⟩ | ⟨hn, hk⟩
      · have : Region.wanted o (yielded ops a.tmps) = true := by
          simp only [Region.wanted, hg, hyv, (hget want).1 hu]; simp
        rw [this]
        exact .inl (next hf)
      · have : Region.wanted o (yielded ops a.tmps) = false := by
          simp only [Region.wanted, hg, hyv]
          cases hx : a.tmps[d]? with
          | none => rfl
          | some y =>
            cases y <;> try rfl
            rename_i b
            have := hn b ((hget b).2 hx)
            simpa using this
        rw [this]
        simp only [Bool.false_eq_true, if_false]
        obtain ⟨T', hT, hk, hkt⟩ := putK_rel (v' := undef) hA (.tup _ _ .nil) hk
        exact opsW_sound hP hQ rest (i + 1) hl' hT hw (fun t ht => by rw [hkt t (ht o hom), hkp t ht]) hk
end
end Go.Ab
set_option linter.unusedVariables false
set_option linter.unusedSimpArgs false
namespace Go.Ab
open Go Go.RowKit
structure RSM where
  vals : Tree AV
  M : RM
  bids : Tree (Option Nat)
abbrev KR := AV → RM → Option Nat → Prop
def guardOf (ops : Array Oper) (wr : Tree Nat) (vals : Tree AV) (r : Row) : Option (Option (AV × Bool)) :=
  match r.o.guard with
  | none => some none
  | some (j, want) => match (ops[j]?).bind (·.dst) with
    | none => none
    | some d => match Nat.testBit r.m j, wr.get d with
      | true, some j' => match Nat.beq j' j with
        | true => some (some ((vals.get j).getD .top, want))
        | false => none
      | _, _ => none
abbrev guardM (x : AV) (want : Bool) (f g : PostV → Prop) (k : PostV) : Prop := guardW x want f g k
abbrev guardK (x : AV) (want : Bool) (f g : KR → Prop) (k : KR) : Prop := guardW x want f g k
def guardS {α : Type} (g : Option (Option (AV × Bool))) (f skip : α → Prop) (k : α) : Prop :=
  match g with
  | none => False
  | some none => f k
  | some (some (x, want)) => guardW x want f skip k
def newR (x : RB) (mk : Nat → AV) (M : RM) (k : KR) : Prop := k (mk M.next) (M.push x) (some M.next)
def sameB (b : Option Nat) (M : RM) (x : RB) (mk : Nat → AV) (v : AV) : Prop :=
  match b with
  | some b => M.heap b = some x ∧ mk b = v
  | none => False
def valR (P : Program) (r : Row) (e : Operand → AV) (M : RM) (k : KR) : Prop :=
  match r.kd with
  | .pure | .read => niceV P r.o e M (fun v => k v M none)
  | .alloc => niceN P r.o e (fun x mk => newR x mk M k)
  | .eff => False
def nonW (P : Program) (ops : Array Oper) (T0 : Tree AV) (wr : Tree Nat) (lev : Nat) : List Row → RSM → (RSM → Prop) → Prop
  | [], s, K => K s
  | r :: rest, s, K => match Nat.beq r.lev lev && !isEff r.kd with
    | false => nonW P ops T0 wr lev rest s K
    | true => guardS (guardOf ops wr s.vals r) (valR P r (envR T0 wr s.vals r.m) s.M) (fun k => k .undef s.M none) (fun v M' b => nonW P ops T0 wr lev rest { vals := s.vals.set r.i v, M := M', bids := s.bids.set r.i b } K)
def reRow (P : Program) (ops : Array Oper) (T0 : Tree AV) (wr : Tree Nat) (r : Row) (s : RSM) (K : Prop) : Prop :=
  match r.kd with
  | .read => guardS (guardOf ops wr s.vals r) (fun k => niceV P r.o (envR T0 wr s.vals r.m) s.M (fun v => v = (s.vals.get r.i).getD .top ∧ k)) (fun k => k) K
  | .alloc => guardS (guardOf ops wr s.vals r) (fun k => niceN P r.o (envR T0 wr s.vals r.m) (fun x mk => sameB ((s.bids.get r.i).getD none) s.M x mk ((s.vals.get r.i).getD .top) ∧ k)) (fun k => k) K
  | _ => K
def reW (P : Program) (ops : Array Oper) (T0 : Tree AV) (ri : RI) (lev : Nat) : List Row → RSM → Prop → Prop
  | [], _, K => K
  | r :: rest, s, K => match Nat.ble r.lev lev && !isEff r.kd && aliveAt ri.ms ri.es (lev + 1) r with
    | false => reW P ops T0 ri lev rest s K
    | true => reRow P ops T0 ri.wr r s (reW P ops T0 ri lev rest s K)
def stageW (P : Program) (ops : Array Oper) (T0 : Tree AV) (ri : RI) : Nat → List Nat → RSM → (RSM → Prop) → Prop
  | lev, [], s, K => nonW P ops T0 ri.wr lev ri.rows s K
  | lev, x :: rest, s, K => nonW P ops T0 ri.wr lev ri.rows s (fun s1 => match nth ri.rows x with
    | none => False
    | some r => guardS (guardOf ops ri.wr s1.vals r) (niceE P r.o (envR T0 ri.wr s1.vals r.m) s1.M) (fun k => k .undef s1.M)
        (fun v M' => reW P ops T0 ri lev ri.rows { vals := s1.vals.set x v, M := M', bids := s1.bids } (stageW P ops T0 ri (lev + 1) rest { vals := s1.vals.set x v, M := M', bids := s1.bids } K)))
def drawW (P : Program) (nt : Nat) (ops : Array Oper) (T : Tree AV) (M : RM) (K : Tree AV → RM → Prop) : Prop :=
  match regionInfo P nt ops with
  | none => False
  | some ri => match ri.rows.all (slotsOk ri) with
    | false => False
    | true => stageW P ops T ri 0 ri.es { vals := .leaf, M, bids := .leaf } (fun s => K (finT T s.vals ri.rows) s.M)
def GOn (g : Option (AV × Bool)) : Prop := match g with | none => True | some (x, want) => x = Bo want
def GOff (g : Option (AV × Bool)) : Prop := match g with | none => False | some (x, want) => x = .undef ∨ ∃ b, x = Bo b ∧ b ≠ want
theorem guardS_cases {α : Type} {g : Option (Option (AV × Bool))} {f skip : α → Prop} {k : α} (h : guardS g f skip k) : ∃ g', g = some g' ∧ ((GOn g' ∧ f k) ∨ (GOff g' ∧ skip k)) := by
  unfold guardS at h
  split at h <;> first | (cases h; done) | skip
  · exact ⟨none, rfl, .inl ⟨trivial, h⟩⟩
  · rename_i x want
    refine ⟨_, rfl, ?_⟩
    unfold guardW at h
    split at h <;> first | (cases h; done) | skip
    · split at h
      · rename_i e; subst e; exact .inl ⟨rfl, h⟩
      · rename_i b e; exact .inr ⟨.inr ⟨b, rfl, e⟩, h⟩
    · exact .inr ⟨.inl rfl, h⟩
section
variable {P : Program} {nt : Nat} {ops : Array Oper} {ri : RI} {T0 : Tree AV}
def RowOk (P : Program) (ops : Array Oper) (T0 : Tree AV) (wr : Tree Nat) (s : RSM) (r : Row) : Prop :=
  ∃ g, guardOf ops wr s.vals r = some g ∧ ((GOn g ∧ ∃ v, s.vals.get r.i = some v ∧ match r.kd with
    | .pure => ∀ M, GivesR P r.o (envR T0 wr s.vals r.m) M v
    | .read => GivesR P r.o (envR T0 wr s.vals r.m) s.M v
    | .alloc => ∃ x mk b, MakesR P r.o (envR T0 wr s.vals r.m) x mk ∧ s.bids.get r.i = some (some b) ∧ s.M.heap b = some x ∧ mk b = v
    | .eff => False) ∨ (GOff g ∧ s.vals.get r.i = some .undef))
theorem GivesR.sub {o : Oper} {e : Operand → AV} {M M' : RM} {v : AV} (h : GivesR P o e M v) (hs : M.Sub M') : GivesR P o e M' v :=
  fun ρ w c M2 h2 hw he => h ρ w c M2 (hs.trans h2) hw he
theorem envR_same {vals vals' : Tree AV} {wr : Tree Nat} {m : Nat} (h : ∀ j, Nat.testBit m j = true → vals'.get j = vals.get j) : envR T0 wr vals' m = envR T0 wr vals m := by
  funext x
  cases x with
  | tmp t =>
    simp only [envR]
    cases hw : wr.get t with
    | none => rfl
    | some j =>
      simp only
      cases hb : Nat.testBit m j with
      | false => rfl
      | true => simp only [h j hb]
  | const v => rfl
  | global g => rfl
  | func f => rfl
theorem guardOf_same {vals vals' : Tree AV} {wr : Tree Nat} {r : Row} (h : ∀ j, Nat.testBit r.m j = true → vals'.get j = vals.get j) : guardOf ops wr vals' r = guardOf ops wr vals r := by
  unfold guardOf
  split
  · rfl
  · rename_i j want hg
    split
    · rfl
    · split
      · rename_i hb _
        simp only [h j hb]
      · rfl
theorem RowOk.keep {wr : Tree Nat} {s s' : RSM} {r : Row} (h : RowOk P ops T0 wr s r) (hv : ∀ j, Nat.testBit r.m j = true ∨ j = r.i → s'.vals.get j = s.vals.get j) (hb : s'.bids.get r.i = s.bids.get r.i) (hs : s.M.Sub s'.M) : RowOk P ops T0 wr s' r := by
  obtain ⟨g, hg, h⟩ := h
  have hi := hv r.i (.inr rfl)
  have he : envR T0 wr s'.vals r.m = envR T0 wr s.vals r.m := envR_same fun j hj => hv j (.inl hj)
  refine ⟨g, by rw [← hg]; exact guardOf_same fun j hj => hv j (.inl hj), ?_⟩
  rcases h with ⟨hon, v, hvi, hk⟩ | ⟨hoff, hvi⟩
  · refine .inl ⟨hon, v, by rw [hi]; exact hvi, ?_⟩
    rw [he]
    cases hkd : r.kd with
    | pure => rw [hkd] at hk; exact hk
    | read => rw [hkd] at hk; exact hk.sub hs
    | alloc =>
      rw [hkd] at hk
      obtain ⟨x, mk, b, h1, h2, h3, h4⟩ := hk
      exact ⟨x, mk, b, h1, by rw [hb]; exact h2, hs.2 _ _ h3, h4⟩
    | eff => rw [hkd] at hk; exact hk
  · exact .inr ⟨hoff, by rw [hi]; exact hvi⟩
def Fr (M : RM) : Prop := ∀ b, M.next ≤ b → M.heap b = none
theorem Fr.push {M : RM} (h : Fr M) (x : RB) : Fr (M.push x) := by
  intro b hb
  simp only [RM.push] at hb ⊢
  rw [if_neg (by omega)]
  exact h b (by omega)
theorem Fr.sub {M : RM} (h : Fr M) (x : RB) : M.Sub (M.push x) := by
  refine ⟨rfl, fun b y hy => ?_⟩
  simp only [RM.push]
  split
  · rename_i e; subst e; rw [h _ (Nat.le_refl _)] at hy; cases hy
  · exact hy
theorem MRel.fr {ρ : Ren} {M : RM} {w : World} (h : MRel P ρ M w) : Fr M := by
  intro b hb
  have hlo := h.lo_le
  obtain ⟨A, hA⟩ := h
  cases hx : M.heap b with
  | none => rfl
  | some x =>
    rcases hA.blk b x hx with ⟨y, hy, _⟩ | ⟨c, _, hlt, _⟩
    · have := hA.rel.top b y hy
      rw [hA.next] at this; omega
    · omega
theorem makesR_phantom {ρ : Ren} {M : RM} {w : World} {o : Oper} {e : Operand → AV} {x : RB} {mk : Nat → AV} (h : MRel P ρ M w) (hm : MakesR P o e x mk) : MRel P ρ (M.push x) w := by
  obtain ⟨y, _, hle⟩ := hm
  exact h.phantom x y hle
structure Pass (P : Program) (ops : Array Oper) (T0 : Tree AV) (ri : RI) (lev : Nat) (i0 : Nat) (s s' : RSM) : Prop where
  keep : ∀ j, (∀ r, ri.rows[j]? = some r → i0 ≤ j → ¬ (r.lev = lev ∧ isEff r.kd = false)) → s'.vals.get j = s.vals.get j ∧ s'.bids.get j = s.bids.get j
  done : ∀ j r, ri.rows[j]? = some r → i0 ≤ j → r.lev = lev → isEff r.kd = false → RowOk P ops T0 ri.wr s' r
  sub : s.M.Sub s'.M
  fr : Fr s'.M
  rel : ∀ ρ w, MRel P ρ s.M w → MRel P ρ s'.M w
  next : s.M.next ≤ s'.M.next
  bids : ∀ j b, s'.bids.get j = some (some b) → s.bids.get j = some (some b) ∨ (s.M.next ≤ b ∧ b < s'.M.next ∧ i0 ≤ j ∧ ∃ r, ri.rows[j]? = some r)
  bidne : ∀ j1 j2 b, s'.bids.get j1 = some (some b) → s'.bids.get j2 = some (some b) → s.M.next ≤ b → j1 = j2
theorem nonW_spec (ht : Tab P nt ops ri) {lev : Nat} {K : RSM → Prop} : ∀ (rows : List Row) (i0 : Nat) (s : RSM), ri.rows.drop i0 = rows → Fr s.M → (∀ j b, s.bids.get j = some (some b) → b < s.M.next) → nonW P ops T0 ri.wr lev rows s K → ∃ s', K s' ∧ Pass P ops T0 ri lev i0 s s'
  | [], i0, s, hd, hf, hbd, h => by
    refine ⟨s, h, fun _ _ => ⟨rfl, rfl⟩, fun j r hr hj => ?_, RM.Sub.refl _, hf, fun _ _ h => h, Nat.le_refl _, fun j b hb => .inl hb, fun j1 j2 b h1 _ hb => absurd (hbd j1 b h1) (by omega)⟩
    have hlen : ri.rows.length ≤ i0 := List.drop_eq_nil_iff.1 hd
    have := (List.getElem?_eq_some_iff.1 hr).1
    omega
  | r :: rows, i0, s, hd, hf, hbd, h => by
    have hri : ri.rows[i0]? = some r := by
      have h0 : (ri.rows.drop i0)[0]? = some r := by rw [hd]; rfl
      rw [List.getElem?_drop] at h0; exact h0
    have hd' : ri.rows.drop (i0 + 1) = rows := by
      rw [← List.drop_drop (i := 1) (j := i0)] <;> rw [hd]; rfl
    obtain ⟨e1, e2, e3, e4, e5⟩ := ht.row hri
    simp only [nonW] at h
    split at h
    · rename_i hk
      obtain ⟨s', hK, hp⟩ := nonW_spec ht rows (i0 + 1) s hd' hf hbd h
      have hne : ¬ (r.lev = lev ∧ isEff r.kd = false) := by
        rintro ⟨a, b⟩
        rw [beq_tt a, b] at hk
        cases hk
      refine ⟨s', hK, fun j hj => hp.keep j fun r' hr' hj' => hj r' hr' (by omega), fun j r' hr' hj hl he => ?_, hp.sub, hp.fr, hp.rel, hp.next, fun j b hb => (hp.bids j b hb).imp id fun ⟨a, b, c, d⟩ => ⟨a, b, by omega, d⟩, hp.bidne⟩
      rcases Nat.lt_or_ge i0 j with hlt | hge
      · exact hp.done j r' hr' hlt hl he
      · have : j = i0 := by omega
        subst this
        rw [hri] at hr'; cases hr'
        exact absurd ⟨hl, he⟩ hne
    · rename_i hk
      simp only [Bool.and_eq_true, Bool.not_eq_true'] at hk
      have hlev := beq_t hk.1
      obtain ⟨g, hg, hcase⟩ := guardS_cases h
      -- whatever the row gives
      have fin : ∀ (v : AV) (M' : RM) (b : Option Nat), s.M.Sub M' → Fr M' → s.M.next ≤ M'.next → (∀ ρ w, MRel P ρ s.M w → MRel P ρ M' w) → (∀ b', b = some b' → s.M.next ≤ b' ∧ b' < M'.next) →
          (∀ s2 : RSM, (∀ j, Nat.testBit r.m j = true → s2.vals.get j = s.vals.get j) → s2.vals.get r.i = some v → s2.bids.get r.i = some b → M'.Sub s2.M → RowOk P ops T0 ri.wr s2 r) →
          nonW P ops T0 ri.wr lev rows { vals := s.vals.set r.i v, M := M', bids := s.bids.set r.i b } K → ∃ s', K s' ∧ Pass P ops T0 ri lev i0 s s' := by
        intro v M' b hsub hfr hnx hrel hb hok h
        obtain ⟨s', hK, hp⟩ := nonW_spec ht rows (i0 + 1) _ hd' hfr (fun j b' hj => by
          rw [Tree.get_set] at hj
          split at hj
          · cases hj; exact (hb b' rfl).2
          · exact Nat.lt_of_lt_of_le (hbd j b' hj) hnx) h
        have hkeepi := hp.keep r.i (fun r' hr' hj' => by omega)
        simp only [Tree.get_set, if_true] at hkeepi
        refine ⟨s', hK, fun j hj => ?_, fun j r' hr' hj hl he => ?_, hsub.trans hp.sub, hp.fr, fun ρ w h => hp.rel ρ w (hrel ρ w h), Nat.le_trans hnx hp.next, fun j b' hb' => ?_, fun j1 j2 b' h1 h2 hb' => ?_⟩
        · have hji : j ≠ r.i := fun e => hj r (by rw [e, e1]; exact hri) (by omega) ⟨hlev, hk.2⟩
          obtain ⟨k1, k2⟩ := hp.keep j fun r' hr' hj' => hj r' hr' (by omega)
          simp only [Tree.get_set, if_neg hji] at k1 k2
          exact ⟨k1, k2⟩
        · rcases Nat.lt_or_ge i0 j with hlt | hge
          · exact hp.done j r' hr' hlt hl he
          · have : j = i0 := by omega
            subst this
            rw [hri] at hr'; cases hr'
            refine hok s' (fun q hq => ?_) hkeepi.1 hkeepi.2 hp.sub
            have hqlt : q < j := by
              have hc : Closed ops.toList (fun i => i < j) := fun i o ho hi e he' hb' => by have := ht.edges i o ho e he' hb'; omega
              exact ht.ahead hc hri (fun e he' hb' => ht.edges j r.o e2 e he' hb') hq
            have hqi : q ≠ r.i := by omega
            have := (hp.keep q fun r' hr' hj' => by omega).1
            rw [this]
            simp only [Tree.get_set, if_neg hqi]
        · rcases hp.bids j b' hb' with k | ⟨k1, k2, k3, k4⟩
          · simp only [Tree.get_set] at k
            split at k
            · rename_i e
              cases k
              obtain ⟨q1, q2⟩ := hb b' rfl
              exact .inr ⟨q1, Nat.lt_of_lt_of_le q2 hp.next, by omega, r, by rw [e, e1]; exact hri⟩
            · exact .inl k
          · simp only at k1
            exact .inr ⟨by omega, k2, by omega, k4⟩
        · rcases Nat.lt_or_ge b' M'.next with hlt | hge
          · have q : ∀ j, s'.bids.get j = some (some b') → j = r.i := by
              intro j hj
              rcases hp.bids j b' hj with k | ⟨k1, _⟩
              · simp only [Tree.get_set] at k
                split at k
                · assumption
                · have := hbd j b' k; omega
              · simp only at k1; omega
            rw [q j1 h1, q j2 h2]
          · exact hp.bidne j1 j2 b' h1 h2 hge
      rcases hcase with ⟨hon, hv⟩ | ⟨hoff, hv⟩
      · unfold valR at hv
        have val : (r.kd = .pure ∨ r.kd = .read) → niceV P r.o (envR T0 ri.wr s.vals r.m) s.M (fun v => nonW P ops T0 ri.wr lev rows { vals := s.vals.set r.i v, M := s.M, bids := s.bids.set r.i none } K) → ∃ s', K s' ∧ Pass P ops T0 ri lev i0 s s' := by
          intro hkd hv
          obtain ⟨v, hgv, hk2⟩ := niceV_sound hv
          refine fin v s.M none (RM.Sub.refl _) hf (Nat.le_refl _) (fun _ _ h => h) (fun b' h => by cases h) (fun s2 q1 q2 q3 q4 => ?_) hk2
          refine ⟨g, by rw [← hg]; exact guardOf_same q1, .inl ⟨hon, v, q2, ?_⟩⟩
          rw [envR_same q1]
          rcases hkd with hkd | hkd
          · rw [hkd]
            rcases hgv with hgv | ⟨hrd, _⟩
            · exact hgv
            · rw [← e5, hkd] at hrd; cases hrd
          · rw [hkd]
            rcases hgv with hgv | ⟨_, hgv⟩
            · exact hgv _
            · exact hgv.sub q4
        split at hv
        · exact val (.inl ‹_›) hv
        · exact val (.inr ‹_›) hv
        · rename_i hkd
          obtain ⟨x, mk, hm, hk2⟩ := niceN_sound hv
          refine fin (mk s.M.next) (s.M.push x) (some s.M.next) (hf.sub x) (hf.push x) (by simp [RM.push]) (fun ρ w h => makesR_phantom h hm) (fun b' h => by cases h; simp [RM.push]) (fun s2 q1 q2 q3 q4 => ?_) hk2
          refine ⟨g, by rw [← hg]; exact guardOf_same q1, .inl ⟨hon, _, q2, ?_⟩⟩
          rw [envR_same q1, hkd]
          exact ⟨x, mk, s.M.next, hm, q3, q4.2 _ _ (by simp [RM.push]), rfl⟩
        · cases hv
      · refine fin .undef s.M none (RM.Sub.refl _) hf (Nat.le_refl _) (fun _ _ h => h) (fun b' h => by cases h) (fun s2 q1 q2 q3 q4 => ?_) hv
        exact ⟨g, by rw [← hg]; exact guardOf_same q1, .inr ⟨hoff, q2⟩⟩
end
end Go.Ab
set_option linter.unusedVariables false
set_option linter.unusedSimpArgs false
namespace Go.Ab
open Go Go.RowKit
section
variable {P : Program} {nt : Nat} {ops : Array Oper} {ri : RI} {T0 : Tree AV}
theorem reRow_spec {wr : Tree Nat} {r : Row} {s s0 : RSM} {K : Prop} (h : reRow P ops T0 wr r s K) (hold : RowOk P ops T0 wr s0 r) (hv : ∀ j, Nat.testBit r.m j = true ∨ j = r.i → s.vals.get j = s0.vals.get j) (hb : s.bids.get r.i = s0.bids.get r.i) :
    K ∧ RowOk P ops T0 wr s r := by
  obtain ⟨g, hg, hold⟩ := hold
  have hi := hv r.i (.inr rfl)
  have he : envR T0 wr s.vals r.m = envR T0 wr s0.vals r.m := envR_same fun j hj => hv j (.inl hj)
  have hg' : guardOf ops wr s.vals r = some g := by rw [← hg]; exact guardOf_same fun j hj => hv j (.inl hj)
  have offon : GOff g → GOn g → False := by
    intro h1 h2
    unfold GOff at h1
    unfold GOn at h2
    split at h1
    · exact h1
    · simp only at h2
      rcases h1 with h1 | ⟨b, h1, h3⟩
      · rw [h2] at h1; cases h1
      · rw [h2] at h1; cases h1; exact h3 rfl
  have hoffc : ∀ {K'}, K' → GOff g ∧ s0.vals.get r.i = some .undef → K' ∧ RowOk P ops T0 wr s r := fun k h => ⟨k, g, hg', .inr ⟨h.1, by rw [hi]; exact h.2⟩⟩
  unfold reRow at h
  cases hkd : r.kd with
  | pure =>
    rw [hkd] at h
    refine ⟨h, g, hg', ?_⟩
    rcases hold with ⟨hon, v, hvi, hk⟩ | ⟨hoff, hvi⟩
    · refine .inl ⟨hon, v, by rw [hi]; exact hvi, ?_⟩
      rw [hkd] at hk ⊢
      rw [he]; exact hk
    · exact .inr ⟨hoff, by rw [hi]; exact hvi⟩
  | eff =>
    rcases hold with ⟨hon, v, hvi, hk⟩ | ho
    · rw [hkd] at hk; exact hk.elim
    · rw [hkd] at h; exact hoffc h ho
  | read =>
    rw [hkd] at h
    obtain ⟨g2, hg2, hcase⟩ := guardS_cases h
    rw [hg'] at hg2; cases hg2
    rcases hold with ⟨hon, v, hvi, hk⟩ | ho
    · rcases hcase with ⟨_, hn⟩ | ⟨hoff, _⟩
      · obtain ⟨v', hgv, hv', hK⟩ := niceV_sound hn
        have hgv : GivesR P r.o (envR T0 wr s.vals r.m) s.M v' := by rcases hgv with hgv | ⟨_, hgv⟩ <;> first | exact hgv _ | exact hgv
        rw [hi, hvi] at hv'
        simp only [Option.getD_some] at hv'
        subst hv'
        refine ⟨hK, g, hg', .inl ⟨hon, v', by rw [hi]; exact hvi, ?_⟩⟩
        rw [hkd]; exact hgv
      · exact (offon hoff hon).elim
    · rcases hcase with ⟨hon, _⟩ | ⟨_, hK⟩
      · exact (offon ho.1 hon).elim
      · exact hoffc hK ho
  | alloc =>
    rw [hkd] at h
    obtain ⟨g2, hg2, hcase⟩ := guardS_cases h
    rw [hg'] at hg2; cases hg2
    rcases hold with ⟨hon, v, hvi, hk⟩ | ho
    · rcases hcase with ⟨_, hn⟩ | ⟨hoff, _⟩
      · obtain ⟨x, mk, hm, hx, hK⟩ := niceN_sound hn
        rw [hkd] at hk
        obtain ⟨x0, mk0, b, _, h2, _, _⟩ := hk
        rw [hb, h2] at hx
        simp only [Option.getD_some] at hx
        rw [hi, hvi] at hx
        simp only [Option.getD_some] at hx
        refine ⟨hK, g, hg', .inl ⟨hon, v, by rw [hi]; exact hvi, ?_⟩⟩
        rw [hkd]
        exact ⟨x, mk, b, hm, by rw [hb]; exact h2, hx.1, hx.2⟩
      · exact (offon hoff hon).elim
    · rcases hcase with ⟨hon, _⟩ | ⟨_, hK⟩
      · exact (offon ho.1 hon).elim
      · exact hoffc hK ho
theorem reW_spec {lev : Nat} {s s0 : RSM} {K : Prop} : ∀ (rows : List Row), reW P ops T0 ri lev rows s K →
    (∀ r ∈ rows, isEff r.kd = false → r.lev ≤ lev → aliveAt ri.ms ri.es (lev + 1) r = true → RowOk P ops T0 ri.wr s0 r ∧ (∀ j, Nat.testBit r.m j = true ∨ j = r.i → s.vals.get j = s0.vals.get j) ∧ s.bids.get r.i = s0.bids.get r.i) →
    K ∧ ∀ r ∈ rows, isEff r.kd = false → r.lev ≤ lev → aliveAt ri.ms ri.es (lev + 1) r = true → RowOk P ops T0 ri.wr s r
  | [], h, _ => ⟨h, fun r hr => by cases hr⟩
  | r :: rows, h, ho => by
    simp only [reW] at h
    split at h
    · rename_i hc
      obtain ⟨h1, h2⟩ := reW_spec rows h fun r' hr' => ho r' (.tail _ hr')
      refine ⟨h1, fun r' hr' e1 e2 e3 => ?_⟩
      rcases List.mem_cons.1 hr' with e | hr'
      · subst e
        rw [ble_iff.2 e2, e1, e3] at hc
        cases hc
      · exact h2 r' hr' e1 e2 e3
    · rename_i hc
      simp only [Bool.and_eq_true, Bool.not_eq_true'] at hc
      obtain ⟨⟨c1, c2⟩, c3⟩ := hc
      obtain ⟨o1, o2, o3⟩ := ho r (.head _) c2 (ble_t c1) c3
      obtain ⟨h1, h2⟩ := reRow_spec h o1 o2 o3
      obtain ⟨h3, h4⟩ := reW_spec rows h1 fun r' hr' => ho r' (.tail _ hr')
      refine ⟨h3, fun r' hr' e1 e2 e3 => ?_⟩
      rcases List.mem_cons.1 hr' with e | hr'
      · subst e; exact h2
      · exact h4 r' hr' e1 e2 e3
theorem RLe_blk {ρ : Ren} {i : Info} {x : RB} {y y' : Blk} {ob : Obj} (h : RLe x y) (h' : RLe x y') (hb : BlkRel P ρ i y ob) : BlkRel P ρ i y' ob := by
  cases x with
  | row l opn elem fz =>
    cases y <;> first | exact h.elim | skip
    cases y' <;> first | exact h'.elim | skip
    obtain ⟨rfl, rfl, rfl, rfl, h5⟩ := h
    obtain ⟨h1, rfl, rfl, rfl, h5'⟩ := h'
    subst h1
    obtain ⟨c, fr, rfl, hr⟩ := hb
    refine ⟨c, fr, rfl, hr.size, fun k u hk => ?_, hr.free, hr.mark, hr.opn, hr.sh0⟩
    have hlt := cellAt_lt hk
    have hv : l[k]? = some l[k] := by simp [hlt]
    have e1 := h5' k _ hv
    rw [hk] at e1; cases e1
    exact hr.val k _ (h5 k _ hv)
  | ro c => cases y <;> exact h.elim
  | map es c =>
    cases y <;> first | exact h.elim | skip
    cases y' <;> first | exact h'.elim | skip
    obtain ⟨rfl, rfl⟩ := h
    obtain ⟨rfl, rfl⟩ := h'
    exact hb
  | iter m a b c =>
    cases y <;> first | exact h.elim | skip
    cases y' <;> first | exact h'.elim | skip
    obtain ⟨rfl, rfl, rfl, rfl⟩ := h
    obtain ⟨rfl, rfl, rfl, rfl⟩ := h'
    exact hb
  | siter s p =>
    cases y <;> first | exact h.elim | skip
    cases y' <;> first | exact h'.elim | skip
    obtain ⟨rfl, rfl⟩ := h
    obtain ⟨rfl, rfl⟩ := h'
    exact hb
theorem push_relR {ρ : Ren} {M : RM} {w : World} {b : Nat} {x : RB} {y : Blk} {ob : Obj} {i : Info} (hw : MRel P ρ M w) (hi : i.cb = w.heap.size) (hb : ρ b = none) (hlt : b < M.next) (hx : M.heap b = some x) (hle : RLe x y)
    (hrel : BlkRel P ρ i y ob) : MRel P (ρ.add b i) M (w.alloc ob) ∧ Step M.lo b ρ w (ρ.add b i) (w.alloc ob) := by
  obtain ⟨A, hA⟩ := hw
  rcases hA.blk b x hx with ⟨y', hy', hle'⟩ | ⟨c, rfl, _⟩
  · obtain ⟨h1, h2⟩ := push_rel hA.rel hA.size hi hb (by rw [hA.next]; exact hlt) hy' ((RLe_blk hle hle' hrel).mono (Ren.le_add hb))
    have := hA.size
    refine ⟨⟨A, hA.next, h1, by simp; omega, fun c z hz => ?_, fun c hc => ?_⟩, h2⟩
    · rcases hA.blk c z hz with k | ⟨d, rfl, hlt, elem, fr, hh⟩
      · exact .inl k
      · exact .inr ⟨d, rfl, hlt, elem, fr, by rw [heap_alloc_old w ob c (by omega)]; exact hh⟩
    · unfold Ren.add
      rw [if_neg (fun e => by subst e; rw [hA.old _ hc] at hb; cases hb)]
      exact hA.old c hc
  · cases y <;> exact hle.elim
structure InvR (P : Program) (nt : Nat) (ops : Array Oper) (ri : RI) (T0 : Tree AV) (M0 : RM) (ρ0 : Ren) (w0 : World) (k : Nat) (done rest : List Nat) (s : RSM) (S : Nat → Prop) (ρ : Ren) (a : Act) (w : World) : Prop where
  es : ri.es = done ++ rest
  len : done.length = k
  closed : Closed ops.toList S
  dn : ∀ x ∈ done, S x
  rs : ∀ x ∈ rest, ¬ S x
  lev : ∀ (j : Nat) (r : Row), ri.rows[j]? = some r → isEff r.kd = false → S j → r.lev ≤ k
  size : a.tmps.size = nt
  defers : a.defers = []
  slot : SlotRel ρ T0 ri.wr s.vals S a
  wrel : MRel P ρ s.M w
  step : Step M0.lo M0.next ρ0 w0 ρ w
  base : s.M.base = M0.base
  next : M0.next ≤ s.M.next
  bid : ∀ j b, s.bids.get j = some (some b) → M0.next ≤ b ∧ b < s.M.next ∧ (¬ S j → ρ b = none) ∧ j < ops.size
  bidne : ∀ j1 j2 b, s.bids.get j1 = some (some b) → s.bids.get j2 = some (some b) → j1 = j2
variable {M0 : RM} {ρ0 : Ren} {w0 : World} {k : Nat} {done rest : List Nat} {s : RSM} {S : Nat → Prop} {ρ : Ren} {a : Act} {w : World}
theorem envR_relR (ht : Tab P nt ops ri) (hI : InvR P nt ops ri T0 M0 ρ0 w0 k done rest s S ρ a w) {i : Nat} {r : Row} (hr : ri.rows[i]? = some r) (hns : ¬ S i) (hd : ∀ e ∈ r.o.after.toList, Region.binds .any e = true → S e.on)
    (hok : slotsOk ri r = true) : ∀ x ∈ r.o.op.operands, VRel ρ (envR T0 ri.wr s.vals r.m x) (a.eval x) := by
  intro x hx
  have hx' : slotOk ri r x = true := by
    unfold slotsOk at hok
    exact List.all_eq_true.1 hok x (by simpa using hx)
  cases x with
  | tmp t =>
    obtain ⟨h1, h2⟩ := hI.slot t
    simp only [envR, Act.eval]
    simp only [slotOk] at hx'
    cases hw : ri.wr.get t with
    | none =>
      simp only
      exact h2 fun j hj => by rw [hw] at hj; cases hj
    | some j =>
      rw [hw] at hx'
      simp only
      cases hb : Nat.testBit r.m j with
      | true =>
        simp only
        exact h1 j hw (ht.ahead hI.closed hr hd hb)
      | false =>
        simp only
        refine h2 fun j' hj' => ?_
        rw [hw] at hj'; cases hj'
        simp only [hb, Bool.false_or, Bool.or_eq_true] at hx'
        obtain ⟨e1, _⟩ := ht.row hr
        rcases hx' with hx' | hx'
        · rw [beq_t hx', e1]; exact hns
        · intro hS
          rw [nth_getElem, e1] at hx'
          obtain ⟨o, ho, _⟩ := ht.wrs t j hw
          exact hns (ht.aheadIn hI.closed hS ho hx')
  | const v =>
    simp only [envR, evalT, Act.eval]
    cases hv : ofVal v with
    | none => exact .top _
    | some u => exact ofVal_rel hv
  | global g => exact .top _
  | func f => exact .fn _ _ _ _ _ rfl .nil .nil
theorem guard_relR (ht : Tab P nt ops ri) (hI : InvR P nt ops ri T0 M0 ρ0 w0 k done rest s S ρ a w) {i : Nat} {r : Row} (hr : ri.rows[i]? = some r) (hd : ∀ e ∈ r.o.after.toList, Region.binds .any e = true → S e.on) {g : Option (AV × Bool)}
    (hg : guardOf ops ri.wr s.vals r = some g) : (GOn g → Region.wanted r.o (yielded ops a.tmps) = true) ∧ (GOff g → Region.wanted r.o (yielded ops a.tmps) = false) := by
  unfold guardOf at hg
  unfold Region.wanted
  split at hg
  · rename_i hgu; simp only [hgu]; cases hg
    exact ⟨fun _ => trivial, fun h => h.elim⟩
  · rename_i j want hgu
    simp only [hgu]
    split at hg <;> first | (cases hg; done) | skip
    rename_i d hdst
    split at hg <;> first | (cases hg; done) | skip
    rename_i j' hb hwr
    split at hg <;> first | (cases hg; done) | skip
    rename_i he
    cases hg
    have he := beq_t he
    subst he
    have hv := (hI.slot d).1 j' hwr (ht.ahead hI.closed hr hd hb)
    have hyv : yielded ops a.tmps j' = match a.tmps[d]? with | some (.bool b) => some b | _ => none := by
      unfold yielded; rw [hdst]; rfl
    have hget : ∀ t : Bool, a.tmps.getD d undef = .bool t ↔ a.tmps[d]? = some (.bool t) := by
      intro t
      rw [Array.getD_eq_getD_getElem?]
      cases hx : a.tmps[d]? with
      | none => simp [undef]
      | some y => simp
    have off : (∀ b, a.tmps.getD d undef = .bool b → b ≠ want) → (yielded ops a.tmps j' == some want) = false := by
      intro hn
      rw [hyv]
      cases hx : a.tmps[d]? with
      | none => rfl
      | some y =>
        cases y <;> try rfl
        rename_i b
        have := hn b ((hget b).2 hx)
        simpa using this
    constructor
    · intro hon
      simp only [GOn] at hon
      rw [hon] at hv
      have hc := (sc_inv hv).1
      rw [hyv, (hget want).1 hc]; simp
    · intro hoff
      simp only [GOff] at hoff
      refine off fun b hb' => ?_
      rcases hoff with hu | ⟨b', hu, hne⟩
      · rw [hu] at hv
        obtain ⟨vs, hc, hrl⟩ := tup_inv hv
        rw [hc] at hb'; cases hb'
      · rw [hu] at hv
        rw [(sc_inv hv).1] at hb'; cases hb'; exact hne
def ContR (P : Program) (ops : Array Oper) (T0 : Tree AV) (ri : RI) (k : Nat) (s : RSM) (K : RSM → Prop) : List Nat → Prop
  | [] => K s
  | x :: rest => ∃ r, nth ri.rows x = some r ∧ guardS (guardOf ops ri.wr s.vals r) (niceE P r.o (envR T0 ri.wr s.vals r.m) s.M) (fun k => k .undef s.M)
        (fun v M' => reW P ops T0 ri k ri.rows { vals := s.vals.set x v, M := M', bids := s.bids } (stageW P ops T0 ri (k + 1) rest { vals := s.vals.set x v, M := M', bids := s.bids } K))
theorem stageW_step (ht : Tab P nt ops ri) {K : RSM → Prop} {es : List Nat} (hf : Fr s.M) (hbd : ∀ j b, s.bids.get j = some (some b) → b < s.M.next) (h : stageW P ops T0 ri k es s K) :
    ∃ s1, ContR P ops T0 ri k s1 K es ∧ Pass P ops T0 ri k 0 s s1 := by
  cases es with
  | nil =>
    rw [stageW] at h
    exact nonW_spec ht ri.rows 0 s rfl hf hbd h
  | cons x rest =>
    rw [stageW] at h
    obtain ⟨s1, hk, hp⟩ := nonW_spec ht ri.rows 0 s rfl hf hbd h
    refine ⟨s1, ?_, hp⟩
    split at hk
    · cases hk
    · rename_i r hr
      exact ⟨r, hr, hk⟩
def Chk (P : Program) (ops : Array Oper) (T0 : Tree AV) (ri : RI) (k : Nat) (s : RSM) : Prop := ∀ r ∈ ri.rows, isEff r.kd = false → aliveAt ri.ms ri.es k r = true → RowOk P ops T0 ri.wr s r
theorem maskOf_has {acc : List Nat} : ∀ (es : List Edge) (e : Edge), e ∈ es → Region.binds .any e = true → Nat.testBit (maskOf acc es) e.on = true ∧ ∀ j, Nat.testBit ((nth acc e.on).getD 0) j = true → Nat.testBit (maskOf acc es) j = true
  | [], e, h, _ => by cases h
  | x :: es, e, h, hb => by
    simp only [maskOf]
    rcases List.mem_cons.1 h with rfl | h
    · rw [hb]
      simp only
      refine ⟨?_, fun j hj => ?_⟩
      · rw [Nat.testBit_or, Nat.testBit_or, Nat.testBit_two_pow]; simp
      · rw [Nat.testBit_or, Nat.testBit_or, hj]; simp
    · obtain ⟨h1, h2⟩ := maskOf_has (acc := acc) es e h hb
      split
      · refine ⟨?_, fun j hj => ?_⟩
        · rw [Nat.testBit_or, h1]; simp
        · rw [Nat.testBit_or, h2 j hj]; simp
      · exact ⟨h1, h2⟩
theorem ahead_pre (ht : Tab P nt ops ri) {q : Nat} {r : Row} (hq : ri.rows[q]? = some r) : ∃ pre, (∀ i, i < q → nth pre i = ri.ms[i]?) ∧ r.m = maskOf pre r.o.after.toList := by
  obtain ⟨g1, g2, g3, g4, g5⟩ := ht.row hq
  obtain ⟨pre, h1, h2, h3⟩ := (masksGo_spec ops.toList []).2 q r.o g2
  simp only [List.length_nil, Nat.zero_add] at h1 h2 h3
  refine ⟨pre, fun i hi => by rw [nth_getElem, h2 i hi, ← ht.ms], ?_⟩
  rw [← ht.ms, g3] at h3
  exact Option.some.inj h3
theorem ahead_self (ht : Tab P nt ops ri) {q : Nat} {r : Row} (hq : ri.rows[q]? = some r) {e : Edge} (he : e ∈ r.o.after.toList) (hb : Region.binds .any e = true) : Nat.testBit r.m e.on = true := by
  obtain ⟨pre, _, h2⟩ := ahead_pre ht hq
  rw [h2]; exact (maskOf_has _ e he hb).1
theorem ahead_trans (ht : Tab P nt ops ri) : ∀ (q : Nat) {i : Nat} {r : Row} {o : Oper}, ri.rows[q]? = some r → Nat.testBit r.m i = true → ops.toList[i]? = some o → ∀ {e : Edge}, e ∈ o.after.toList → Region.binds .any e = true → Nat.testBit r.m e.on = true := by
  intro q
  induction q using Nat.strongRecOn with
  | _ q ih =>
    intro i r o hq hi ho e he hb
    obtain ⟨g1, g2, g3, g4, g5⟩ := ht.row hq
    obtain ⟨pre, h1, h2⟩ := ahead_pre ht hq
    have hi' := hi
    rw [h2] at hi'
    obtain ⟨e0, he0, hb0, hcase⟩ := maskOf_bit _ hi'
    have hlt := ht.edges q r.o g2 e0 he0 hb0
    obtain ⟨r0, hr0, _⟩ := ht.ex (j := e0.on) (o := ops.toList[e0.on]'(by have := (List.getElem?_eq_some_iff.1 g2).1; omega)) (by simp)
    obtain ⟨k1, k2, k3, k4, k5⟩ := ht.row hr0
    have hsub : ∀ j, Nat.testBit r0.m j = true → Nat.testBit r.m j = true := by
      intro j hj
      rw [h2]
      refine (maskOf_has _ e0 he0 hb0).2 j ?_
      rw [h1 e0.on hlt, k3]; exact hj
    rcases hcase with rfl | ⟨m, hm, hmi⟩
    · rw [k2] at ho; cases ho
      exact hsub _ (ahead_self ht hr0 he hb)
    · rw [← nth_getElem, h1 e0.on hlt, k3] at hm
      cases hm
      exact hsub _ (ih e0.on hlt hr0 hmi ho he hb)
theorem lev_mono {m m' : Nat} (h : ∀ x, Nat.testBit m x = true → Nat.testBit m' x = true) : ∀ (es : List Nat) (i0 b b' : Nat), b ≤ b' → b' ≤ i0 → levGo m es i0 b ≤ levGo m' es i0 b'
  | [], i0, b, b', hb, _ => by simpa [levGo] using hb
  | x :: es, i0, b, b', hb, hi => by
    simp only [levGo]
    cases hm : Nat.testBit m x with
    | true =>
      rw [h x hm]
      exact lev_mono h es (i0 + 1) _ _ (Nat.le_refl _) (Nat.le_refl _)
    | false =>
      cases hm' : Nat.testBit m' x with
      | true => exact lev_mono h es (i0 + 1) b (i0 + 1) (by omega) (Nat.le_refl _)
      | false => exact lev_mono h es (i0 + 1) b b' hb (by omega)
theorem inv_nonR (ht : Tab P nt ops ri) {listed : Array Bool} (hsz : listed.size = ops.size) (hI : InvR P nt ops ri T0 M0 ρ0 w0 k done rest s (Lst listed) ρ a w) {i : Nat} {r : Row} (hi : i < ops.size) (hr : ri.rows[i]? = some r)
    (hd : ∀ e ∈ r.o.after.toList, Region.binds .any e = true → Lst listed e.on) (hk : isEff r.kd = false) (hlev : r.lev ≤ k) {v : AV} {v' : Value} {ρ' : Ren} {w' : World} (hvi : s.vals.get i = some v) (hv : VRel ρ' v v') (hle : ρ.le ρ')
    (hw : MRel P ρ' s.M w') (hst : Step M0.lo M0.next ρ w ρ' w') (hbid : ∀ j b, s.bids.get j = some (some b) → ¬ Lst (listed.setIfInBounds i true) j → ρ' b = none) :
    InvR P nt ops ri T0 M0 ρ0 w0 k done rest s (Lst (listed.setIfInBounds i true)) ρ' (a.put r.o.dst v') w' := by
  have hS : ∀ j, Lst (listed.setIfInBounds i true) j ↔ Lst listed j ∨ j = i := lst_set (by omega)
  obtain ⟨e1, e2, _⟩ := ht.row hr
  refine ⟨hI.es, hI.len, ?_, fun x hx => (hS x).2 (.inl (hI.dn x hx)), ?_, ?_, ?_, ?_, ?_, hw, hI.step.trans hst (Nat.le_refl _), hI.base, hI.next, fun j b hb => ⟨(hI.bid j b hb).1, (hI.bid j b hb).2.1, hbid j b hb, (hI.bid j b hb).2.2.2⟩, hI.bidne⟩
  · intro j o ho hj e he hb
    rcases (hS j).1 hj with hj | rfl
    · exact (hS _).2 (.inl (hI.closed j o ho hj e he hb))
    · rw [e2] at ho; cases ho
      exact (hS _).2 (.inl (hd e he hb))
  · intro x hx hl
    rcases (hS x).1 hl with hl | rfl
    · exact hI.rs x hx hl
    · have : x ∈ ri.es := by rw [hI.es]; exact List.mem_append_right _ hx
      rw [ht.eff hr, hk] at this
      cases this
  · intro j r' hr' hk' hj
    rcases (hS j).1 hj with hj | rfl
    · exact hI.lev j r' hr' hk' hj
    · rw [hr] at hr'; cases hr'; exact hlev
  · cases hdst : r.o.dst <;> simp [Act.put, hI.size]
  · cases hdst : r.o.dst <;> simp [Act.put, hI.defers]
  · exact slot_put ht (fun t => ⟨fun j h1 h2 => ((hI.slot t).1 j h1 h2).mono hle, fun h => ((hI.slot t).2 h).mono hle⟩) hI.size hr hv hvi hS
theorem inv_effR (ht : Tab P nt ops ri) {listed : Array Bool} (hsz : listed.size = ops.size) {i : Nat} {rest' : List Nat} (hI : InvR P nt ops ri T0 M0 ρ0 w0 k done (i :: rest') s (Lst listed) ρ a w) (hchk : Chk P ops T0 ri k s) {r : Row} (hi : i < ops.size) (hr : ri.rows[i]? = some r)
    (hd : ∀ e ∈ r.o.after.toList, Region.binds .any e = true → Lst listed e.on) (hnd : i ∉ rest') {v : AV} {v' : Value} {ρ' : Ren} {w' : World} {M' : RM} (hv : VRel ρ' v v') {K : RSM → Prop}
    (haft : After P s.M ρ w M' ρ' w') (hre : reW P ops T0 ri k ri.rows { vals := s.vals.set i v, M := M', bids := s.bids } (stageW P ops T0 ri (k + 1) rest' { vals := s.vals.set i v, M := M', bids := s.bids } K)) :
    ∃ s3, InvR P nt ops ri T0 M0 ρ0 w0 (k + 1) (done ++ [i]) rest' s3 (Lst (listed.setIfInBounds i true)) ρ' (a.put r.o.dst v') w' ∧ Chk P ops T0 ri (k + 1) s3 ∧ ContR P ops T0 ri (k + 1) s3 K rest' := by
  have hS : ∀ j, Lst (listed.setIfInBounds i true) j ↔ Lst listed j ∨ j = i := lst_set (by omega)
  obtain ⟨e1, e2, e3, e4, e5⟩ := ht.row hr
  have hmem : i ∈ ri.es := by rw [hI.es]; simp
  have hke := (ht.eff hr).1 hmem
  have hle := haft.le hI.wrel
  -- an alive row that was done does not look at the effect
  have hesk : ri.es[k]? = some i := by
    rw [hI.es, List.getElem?_append_right (by rw [hI.len]; omega), hI.len]; simp
  have notin : ∀ r' ∈ ri.rows, r'.lev ≤ k → Nat.testBit r'.m i = true → False := by
    intro r' hr' hl hb
    obtain ⟨q, hq⟩ := List.mem_iff_getElem?.1 hr'
    obtain ⟨g1, g2, g3, g4, g5⟩ := ht.row hq
    have key : ∀ (es : List Nat) (i0 best k : Nat), es[k]? = some i → i0 + k + 1 ≤ levGo r'.m es i0 best := by
      intro es
      induction es with
      | nil => intro i0 best k h; simp at h
      | cons x es ih =>
        intro i0 best k h
        simp only [levGo]
        cases k with
        | zero =>
          simp at h; subst h
          rw [hb]
          simp only
          have mono : ∀ (es : List Nat) (j best : Nat), best ≤ j → best ≤ levGo r'.m es j best := by
            intro es
            induction es with
            | nil => intro j best _; exact Nat.le_refl _
            | cons y es ih2 =>
              intro j best hbj
              simp only [levGo]
              split
              · exact Nat.le_trans (by omega) (ih2 (j + 1) (j + 1) (Nat.le_refl _))
              · exact ih2 (j + 1) best (by omega)
          exact mono es (i0 + 1) (i0 + 1) (Nat.le_refl _)
        | succ k =>
          split
          · have := ih (i0 + 1) (i0 + 1) k (by simpa using h); omega
          · have := ih (i0 + 1) best k (by simpa using h); omega
    have := key ri.es 0 0 k hesk
    rw [← g4] at this
    omega
  obtain ⟨hstage, hrows⟩ := reW_spec (s0 := s) ri.rows hre fun r' hr' f1 f2 f3 => by
    refine ⟨hchk r' hr' f1 ?_, fun j hj => ?_, rfl⟩
    · unfold aliveAt at f3 ⊢
      rw [Bool.and_eq_true] at f3 ⊢
      refine ⟨ble_iff.2 f2, ?_⟩
      have f4 := f3.2
      rw [List.all_eq_true] at f4 ⊢
      intro x hx
      refine f4 x ?_
      have := List.take_subset_take_left ri.es (Nat.le_succ k)
      exact this hx
    · simp only [Tree.get_set]
      rw [if_neg]
      rintro rfl
      rcases hj with hj | hj
      · exact notin r' hr' f2 hj
      · obtain ⟨q, hq⟩ := List.mem_iff_getElem?.1 hr'
        obtain ⟨g1, _⟩ := ht.row hq
        have : q = j := by omega
        subst this
        rw [hr] at hq; cases hq
        rw [f1] at hke; cases hke
  obtain ⟨s3, hcont, hp⟩ := stageW_step (s := { vals := s.vals.set i v, M := M', bids := s.bids }) ht (haft.rel.fr) (fun j b hb => Nat.lt_of_lt_of_le (hI.bid j b hb).2.1 haft.next) hstage
  have hkeep : ∀ j, Lst listed j ∨ j = i → s3.vals.get j = (s.vals.set i v).get j := by
    intro j hj
    refine (hp.keep j fun r' hr' _ => ?_).1
    rintro ⟨hl, hk'⟩
    rcases hj with hj | rfl
    · have := hI.lev j r' hr' hk' hj; omega
    · rw [hr] at hr'; cases hr'; rw [hke] at hk'; cases hk'
  have hvi : s3.vals.get i = some v := by rw [hkeep i (.inr rfl), Tree.get_set, if_pos rfl]
  refine ⟨s3, ⟨by rw [hI.es]; simp, by simp [hI.len], ?_, ?_, ?_, ?_, ?_, ?_, ?_, hp.rel _ _ haft.rel, hI.step.trans (haft.step.of_base hI.base) hI.next, ?_, ?_, ?_, ?_⟩, ?_, hcont⟩
  · intro j o ho hj e he hb
    rcases (hS j).1 hj with hj | rfl
    · exact (hS _).2 (.inl (hI.closed j o ho hj e he hb))
    · rw [e2] at ho; cases ho
      exact (hS _).2 (.inl (hd e he hb))
  · intro x hx
    rcases List.mem_append.1 hx with hx | hx
    · exact (hS x).2 (.inl (hI.dn x hx))
    · simp at hx; subst hx; exact (hS x).2 (.inr rfl)
  · intro x hx hl
    rcases (hS x).1 hl with hl | rfl
    · exact hI.rs x (.tail _ hx) hl
    · exact hnd hx
  · intro j r' hr' hk' hj
    rcases (hS j).1 hj with hj | rfl
    · have := hI.lev j r' hr' hk' hj; omega
    · rw [hr] at hr'; cases hr'; rw [hke] at hk'; cases hk'
  · cases hdst : r.o.dst <;> simp [Act.put, hI.size]
  · cases hdst : r.o.dst <;> simp [Act.put, hI.defers]
  · refine slot_put ht (v := v) (S := Lst listed) (fun t => ⟨fun j h1 h2 => ?_, fun h => ((hI.slot t).2 h).mono hle⟩) hI.size hr hv hvi hS
    rw [hkeep j (.inl h2), Tree.get_set]
    split
    · rename_i e
      subst e
      exact absurd h2 (hI.rs j (.head _))
    · exact ((hI.slot t).1 j h1 h2).mono hle
  · rw [hp.sub.1, ← hI.base]; exact haft.base
  · exact Nat.le_trans hI.next (Nat.le_trans haft.next hp.next)
  · intro j b hb
    rcases hp.bids j b hb with h | ⟨h, h', _, r', hr'⟩
    · obtain ⟨b1, b2, b3, b4⟩ := hI.bid j b h
      refine ⟨b1, Nat.lt_of_lt_of_le b2 (Nat.le_trans haft.next hp.next), fun hj => ?_, b4⟩
      rw [haft.step.ext b b2]
      exact b3 fun hl => hj ((hS j).2 (.inl hl))
    · refine ⟨Nat.le_trans hI.next (Nat.le_trans haft.next h), h', fun _ => haft.rel.fresh h, ?_⟩
      obtain ⟨g1, g2, _⟩ := ht.row hr'
      have := (List.getElem?_eq_some_iff.1 g2).1
      rw [Array.length_toList] at this
      exact this
  · intro j1 j2 b h1 h2
    rcases Nat.lt_or_ge b M'.next with hlt | hge
    · have q : ∀ j, s3.bids.get j = some (some b) → s.bids.get j = some (some b) := by
        intro j hj
        rcases hp.bids j b hj with k | ⟨k1, _⟩
        · exact k
        · simp only at k1; omega
      exact hI.bidne j1 j2 b (q j1 h1) (q j2 h2)
    · exact hp.bidne j1 j2 b h1 h2 hge
  · intro r' hr' f1 f3
    obtain ⟨q, hq⟩ := List.mem_iff_getElem?.1 hr'
    obtain ⟨g1, g2, g3, g4, g5⟩ := ht.row hq
    have f3' := f3
    unfold aliveAt at f3'
    rw [Bool.and_eq_true] at f3'
    have hl := ble_t f3'.1
    by_cases he : r'.lev = k + 1
    · exact hp.done q r' hq (Nat.zero_le _) he f1
    · have hl' : r'.lev ≤ k := by omega
      refine (hrows r' hr' f1 hl' f3).keep (fun j hj => ?_) ?_ hp.sub
      · refine (hp.keep j fun r2 hr2 _ => ?_).1
        rintro ⟨h1, h2⟩
        rcases hj with hj | hj
        · -- what stands ahead has no higher level
          have hjm : r2.lev ≤ r'.lev := by
            obtain ⟨q1, q2, q3, q4, q5⟩ := ht.row hr2
            have sub : ∀ x, Nat.testBit r2.m x = true → Nat.testBit r'.m x = true := by
              intro x hx
              have hcl : Closed ops.toList (fun i => Nat.testBit r'.m i = true ∨ i = q) := by
                intro i o ho hi e he' hb'
                rcases hi with hi | rfl
                · exact .inl (ahead_trans ht _ hq hi ho he' hb')
                · rw [g2] at ho; cases ho
                  exact .inl (ahead_self ht hq he' hb')
              rcases ht.aheadIn hcl (.inl hj) q2 (by rw [q3]; exact hx) with h | h
              · exact h
              · subst h
                exfalso
                have hlt : j < x := by
                  have hc : Closed ops.toList (fun i => i < x) := fun i o ho hi e he' hb' => by have := ht.edges i o ho e he' hb'; omega
                  exact ht.ahead hc hq (fun e he' hb' => ht.edges x r'.o g2 e he' hb') hj
                have hlt2 : x < j := by
                  have hc : Closed ops.toList (fun i => i < j) := fun i o ho hi e he' hb' => by have := ht.edges i o ho e he' hb'; omega
                  exact ht.ahead hc hr2 (fun e he' hb' => ht.edges j r2.o q2 e he' hb') hx
                omega
            rw [q4, g4]
            exact lev_mono sub ri.es 0 0 0 (Nat.le_refl _) (Nat.le_refl _)
          omega
        · have : q = j := by omega
          subst this
          rw [hq] at hr2; cases hr2; omega
      · refine (hp.keep r'.i fun r2 hr2 _ => ?_).2
        rw [g1, hq] at hr2; cases hr2
        rintro ⟨h1, _⟩; omega
theorem draw_anyR (hP : POk P) (ht : Tab P nt ops ri) (hslots : ∀ r ∈ ri.rows, slotsOk ri r = true) {Q : Exit → Act → World → Prop} {K : RSM → Prop}
    (hQ : ∀ s ρ' a' w', K s → Step M0.lo M0.next ρ0 w0 ρ' w' → ARel ρ' nt (finT T0 s.vals ri.rows) a' → MRel P ρ' s.M w' → s.M.base = M0.base → M0.next ≤ s.M.next → Q .normal a' w') :
    ∀ (fuel : Nat) (listed : Array Bool) (k : Nat) (done rest : List Nat) (s : RSM) (ρ : Ren) (a : Act) (w : World), listed.size = ops.size → listed.toList.count false ≤ fuel →
      InvR P nt ops ri T0 M0 ρ0 w0 k done rest s (Lst listed) ρ a w → Chk P ops T0 ri k s → ContR P ops T0 ri k s K rest → wpAny P .any ops Q fuel listed a w := by
  have fin : ∀ (listed : Array Bool) (k : Nat) (done rest : List Nat) (s : RSM) (ρ : Ren) (a : Act) (w : World), listed.size = ops.size → (∀ i, i < ops.size → Lst listed i) →
      InvR P nt ops ri T0 M0 ρ0 w0 k done rest s (Lst listed) ρ a w → ContR P ops T0 ri k s K rest → Q .normal a w := by
    intro listed k done rest s ρ a w hsz hall hI hcont
    have hrest : rest = [] := by
      cases rest with
      | nil => rfl
      | cons x rest =>
        have hx : x ∈ ri.es := by rw [hI.es]; simp
        rw [ht.es, effsGo_mem] at hx
        obtain ⟨j, o, hj, rfl, _⟩ := hx
        have := (List.getElem?_eq_some_iff.1 hj).1
        exact absurd (hall (0 + j) (by simpa using this)) (hI.rs _ (.head _))
    subst hrest
    have hcont : K s := hcont
    refine hQ s ρ a w hcont hI.step ⟨hI.size, fun t => ?_, hI.defers⟩ hI.wrel hI.base hI.next
    obtain ⟨g1, g2⟩ := hI.slot t
    refine finT_rel t _ ri.rows T0 (fun r hr hd => ?_) ?_
    · obtain ⟨q, hq⟩ := List.mem_iff_getElem?.1 hr
      obtain ⟨e1, e2, _⟩ := ht.row hq
      have hql := (List.getElem?_eq_some_iff.1 e2).1
      have := g1 r.i (ht.dst q r hq t hd).1 (by rw [e1]; exact hall q (by simpa using hql))
      exact this
    · by_cases hex : ∃ j, ri.wr.get t = some j
      · obtain ⟨j, hj⟩ := hex
        obtain ⟨o, ho, hdo⟩ := ht.wrs t j hj
        obtain ⟨r, hr, rfl⟩ := ht.ex ho
        exact .inl ⟨r, List.mem_of_getElem? hr, hdo⟩
      · exact .inr (g2 fun j hj => absurd ⟨j, hj⟩ hex)
  intro fuel
  induction fuel with
  | zero =>
    intro listed k done rest s ρ a w hsz hcnt hI hchk hcont
    have hall : ∀ i, i < ops.size → Lst listed i := fun i hi => all_listed (by omega) (by omega)
    refine ⟨?_, fin listed k done rest s ρ a w hsz hall hI hcont⟩
    rw [List.eq_nil_iff_forall_not_mem]
    intro i hi
    obtain ⟨h1, h2, _⟩ := ready_mem hsz hi
    exact h2 (hall i h1)
  | succ fuel ih =>
    intro listed k done rest s ρ a w hsz hcnt hI hchk hcont
    refine ⟨fun hr => fin listed k done rest s ρ a w hsz (nothing_ready ht hsz hr) hI hcont, fun i hi => ?_⟩
    obtain ⟨hilt, hnl, o, ho, hd⟩ := ready_mem hsz hi
    obtain ⟨r, hr, rfl⟩ := ht.ex (j := i) (o := o) (by rw [Array.getElem?_toList]; exact ho)
    obtain ⟨e1, e2, e3, e4, e5⟩ := ht.row hr
    have hrm := List.mem_of_getElem? hr
    have he := envR_relR ht hI hr hnl hd (hslots r hrm)
    unfold wpOp
    simp only [ho]
    cases hk : isEff r.kd with
    | false =>
      have hall : aliveAt ri.ms ri.es k r = true := by
        unfold aliveAt
        rw [Bool.and_eq_true, List.all_eq_true]
        constructor
        · rw [ble_iff, e4]
          rcases levGo_spec (m := r.m) ri.es 0 0 with h | ⟨q, x, a1, a2, a3⟩
          · omega
          · have hx := ht.ahead hI.closed hr hd a2
            rw [a3]
            rcases Nat.lt_or_ge q k with h | h
            · omega
            · rw [hI.es, List.getElem?_append_right (by rw [hI.len]; exact h)] at a1
              exact absurd hx (hI.rs x (List.mem_of_getElem? a1))
        · intro x hx
          rw [hI.es, List.take_left' hI.len] at hx
          rw [Bool.not_eq_true', ← Bool.not_eq_true, e1, nth_getElem]
          intro hb
          have hxe : x ∈ ri.es := by rw [hI.es]; exact List.mem_append_left _ hx
          rw [ht.es, effsGo_mem] at hxe
          obtain ⟨j, o', hj, hxj, _⟩ := hxe
          rw [Nat.zero_add] at hxj; subst hxj
          exact hnl (ht.aheadIn hI.closed (hI.dn x hx) hj hb)
      have hlev : r.lev ≤ k := by
        unfold aliveAt at hall
        rw [Bool.and_eq_true] at hall
        exact ble_t hall.1
      have hok := hchk r hrm hk hall
      have hnb : ∀ j b, s.bids.get j = some (some b) → ¬ Lst (listed.setIfInBounds i true) j → ρ b = none := fun j b hb hj =>
        (hI.bid j b hb).2.2.1 fun hl => hj ((lst_set (by omega) j).2 (.inl hl))
      have next : ∀ {v : AV} {v' : Value} {ρ' : Ren} {w' : World}, s.vals.get i = some v → VRel ρ' v v' → ρ.le ρ' → MRel P ρ' s.M w' → Step M0.lo M0.next ρ w ρ' w' →
          (∀ j b, s.bids.get j = some (some b) → ¬ Lst (listed.setIfInBounds i true) j → ρ' b = none) → wpAny P .any ops Q fuel (listed.setIfInBounds i true) (a.put r.o.dst v') w' := by
        intro v v' ρ' w' hvi hv hle hw hst hb
        exact ih _ k done rest s ρ' _ w' (by simpa using hsz) (count_set (by omega) hnl hcnt) (inv_nonR ht hsz hI hilt hr hd hk hlev hvi hv hle hw hst hb) hchk hcont
      have hrefl : ρ.le ρ := fun _ _ h => h
      obtain ⟨g, hg, hcase⟩ := hok
      obtain ⟨gon, goff⟩ := guard_relR ht hI hr hd hg
      rw [e1] at hcase
      rcases hcase with ⟨hon, v, hvi, hkd⟩ | ⟨hoff, hvi⟩
      · rw [gon hon]
        simp only [if_true]
        refine .inl ?_
        have val : GivesR P r.o (envR T0 ri.wr s.vals r.m) s.M v → r.o.wp P a w (wpAny P .any ops Q fuel (listed.setIfInBounds i true)) Q := by
          intro hgv
          obtain ⟨v', h1, h2⟩ := hgv ρ w a.eval s.M (RM.Sub.refl _) hI.wrel he
          exact op_gives r.o h1 (next hvi h2 hrefl hI.wrel (Step.refl _ _ _) hnb)
        cases hkk : r.kd with
        | pure => rw [hkk] at hkd; exact val (hkd _)
        | read => rw [hkk] at hkd; exact val hkd
        | eff => rw [hkk] at hkd; exact hkd.elim
        | alloc =>
          rw [hkk] at hkd
          obtain ⟨x, mk, b, ⟨y, hx, hle⟩, hbi, hy, hmk⟩ := hkd
          obtain ⟨d, ob, u, inf, hrun, hinf, hrel, hmkv⟩ := allocOp_sound he hx w
          obtain ⟨b1, b2, b3, b4⟩ := hI.bid i b hbi
          have hbn := b3 hnl
          have hd' : MRel P ρ s.M (if d = true then w.drew else w) := by cases d <;> simp [hI.wrel, hI.wrel.drew]
          have hsz' : (if d = true then w.drew else w).heap.size = w.heap.size := by cases d <;> simp
          have hst' : Step M0.lo M0.next ρ w ρ (if d = true then w.drew else w) := by cases d <;> simp [Step.refl, Step.drew]
          obtain ⟨h1, h2⟩ := push_relR hd' (by omega) hbn b2 hy hle hrel
          replace h2 := h2.of_base hI.base
          refine op_gives r.o hrun (next hvi (hmk ▸ hmkv _ b (by simp [Ren.add])) (Ren.le_add hbn) h1 (hst'.trans h2 b1) fun j b' hb' hj => ?_)
          have hne : b' ≠ b := by
            intro e
            subst e
            have hji : j ≠ i := fun e => hj ((lst_set (by omega) j).2 (.inr e))
            exact hji (hI.bidne j i b' hb' hbi)
          unfold Ren.add
          rw [if_neg hne]
          exact hnb j b' hb' hj
      · rw [goff hoff]
        simp only [Bool.false_eq_true, if_false]
        exact next hvi (.tup _ _ .nil) hrefl hI.wrel (Step.refl _ _ _) hnb
    | true =>
      have hie : i ∈ ri.es := (ht.eff hr).2 hk
      rw [hI.es] at hie
      have hir : i ∈ rest := by
        rcases List.mem_append.1 hie with h | h
        · exact absurd (hI.dn i h) hnl
        · exact h
      cases rest with
      | nil => cases hir
      | cons x rest' =>
        have hxi : x = i := by
          rcases List.mem_cons.1 hir with e | hm
          · exact e.symm
          · obtain ⟨l1, l2, hl⟩ := List.append_of_mem hm
            have := ht.chain (done ++ x :: l1) i l2 (by rw [hI.es, hl]; simp) x (by simp)
            rw [e3] at this
            exact absurd (ht.ahead hI.closed hr hd this) (hI.rs x (.head _))
        subst hxi
        have hnd : x ∉ rest' := by
          intro hm
          obtain ⟨l1, l2, hl⟩ := List.append_of_mem hm
          have := ht.chain (done ++ x :: l1) x l2 (by rw [hI.es, hl]; simp) x (by simp)
          rw [e3] at this
          exact hnl (ht.ahead hI.closed hr hd this)
        obtain ⟨r', hr', hgs⟩ := hcont
        rw [nth_getElem, hr] at hr'; cases hr'
        obtain ⟨g, hg, hcase⟩ := guardS_cases hgs
        obtain ⟨gon, goff⟩ := guard_relR ht hI hr hd hg
        have next : ∀ {v : AV} {v' : Value} {ρ' : Ren} {w' : World} {M' : RM}, VRel ρ' v v' → After P s.M ρ w M' ρ' w' →
            reW P ops T0 ri k ri.rows { vals := s.vals.set x v, M := M', bids := s.bids } (stageW P ops T0 ri (k + 1) rest' { vals := s.vals.set x v, M := M', bids := s.bids } K) →
            wpAny P .any ops Q fuel (listed.setIfInBounds x true) (a.put r.o.dst v') w' := by
          intro v v' ρ' w' M' hv haft hre
          obtain ⟨s3, h1, h2, h3⟩ := inv_effR ht hsz hI hchk hilt hr hd hnd hv haft hre
          exact ih _ (k + 1) _ rest' s3 ρ' _ w' (by simpa using hsz) (count_set (by omega) hnl hcnt) h1 h2 h3
        rcases hcase with ⟨hon, hn⟩ | ⟨hoff, hn⟩
        · rw [gon hon]
          simp only [if_true]
          exact .inl (does_wp (niceE_sound hP (fun _ => rfl) hn) hI.wrel he fun v v' M' ρ' w' haft hv hk => next hv haft hk)
        · rw [goff hoff]
          simp only [Bool.false_eq_true, if_false]
          exact next (.tup _ _ .nil) (After.refl hI.wrel) hn
theorem finT_get {vals : Tree AV} {t : Nat} : ∀ (rows : List Row) (T : Tree AV), (∀ r ∈ rows, r.o.dst ≠ some t) → (finT T vals rows).get t = T.get t
  | [], T, _ => rfl
  | r :: rows, T, h => by
    simp only [finT]
    cases hd : r.o.dst with
    | none => exact finT_get rows T fun r' hr' => h r' (.tail _ hr')
    | some d =>
      simp only
      rw [finT_get rows _ fun r' hr' => h r' (.tail _ hr'), Tree.get_set, if_neg]
      intro e; subst e
      exact h r (.head _) hd
theorem drawW_sound (hP : POk P) {id : Nat} {T : Tree AV} {M : RM} {K : Tree AV → RM → Prop} {Q : Exit → Act → World → Prop} (hM : After P M0 ρ0 w0 M ρ w) (hA : ARel ρ nt T a)
    (hQ : ∀ T' M' ρ' a' w', After P M0 ρ0 w0 M' ρ' w' → ARel ρ' nt T' a' → K T' M' → (∀ t, (∀ o ∈ ops.toList, o.dst ≠ some t) → T'.get t = T.get t) → Q .normal a' w') (h : drawW P nt ops T M K) : (Code.region id ops true).wp P Q a w := by
  unfold drawW at h
  split at h <;> first | (cases h; done) | skip
  rename_i ri hri
  split at h <;> first | (cases h; done) | skip
  rename_i hslots
  have ht := regionInfo_tab hri
  obtain ⟨s1, h1, hp⟩ := stageW_step ht hM.rel.fr (fun j b hb => by simp [Tree.get] at hb) h
  have hno : ∀ i, ¬ Lst (Array.replicate ops.size false) i := by
    intro i h
    unfold Lst at h
    simp only [Array.getD_eq_getD_getElem?, Array.getElem?_replicate] at h
    split at h <;> simp at h
  refine wp_region_any hP.mixed (draw_anyR (M0 := M0) (ρ0 := ρ0) (w0 := w0) (T0 := T) hP ht (fun r hr => List.all_eq_true.1 hslots r hr) (fun s ρ' a' w' k0 k1 k2 k3 k4 k5 => hQ _ _ ρ' a' w' ⟨k1, k3, k4, k5⟩ k2 k0 (fun t hnt => finT_get ri.rows T fun r hr => by
      obtain ⟨q, hq⟩ := List.mem_iff_getElem?.1 hr
      exact hnt r.o (List.mem_of_getElem? (ht.row hq).2.1))) ops.size _ 0 [] ri.es s1 ρ a _ (by simp) (by simp) ?_ ?_ h1)
  · refine ⟨rfl, rfl, fun i o _ hi => absurd hi (hno i), (fun x hx => by cases hx), fun x _ => hno x, fun j r _ _ hj => absurd hj (hno j), hA.size, hA.defers, fun t => ⟨fun j _ hj => absurd hj (hno j), fun _ => hA.val t⟩, hp.rel _ _ hM.rel.drew, hM.step.trans (Step.drew (n := M0.next)) (Nat.le_refl _), by rw [hp.sub.1]; exact hM.base, Nat.le_trans hM.next hp.next, fun j b hb' => ?_, fun j1 j2 b b1 b2 => ?_⟩
    · rcases hp.bids j b hb' with h | ⟨h, h', _, r, hr⟩
      · simp [Tree.get] at h
      · refine ⟨Nat.le_trans hM.next h, h', fun _ => hM.rel.fresh h, ?_⟩
        obtain ⟨g1, g2, _⟩ := ht.row hr
        have := (List.getElem?_eq_some_iff.1 g2).1
        rw [Array.length_toList] at this
        exact this
    · rcases hp.bids j1 b b1 with h | ⟨h, _⟩
      · simp [Tree.get] at h
      · exact hp.bidne j1 j2 b b1 b2 h
  · intro r hr hk hal
    obtain ⟨q, hq⟩ := List.mem_iff_getElem?.1 hr
    unfold aliveAt at hal
    rw [Bool.and_eq_true] at hal
    exact hp.done q r hq (Nat.zero_le _) (by have := ble_t hal.1; omega) hk
end
end Go.Ab
set_option linter.unusedVariables false
set_option linter.unusedSimpArgs false
namespace Go.Ab
open Go Go.RowKit
def dstBit : Option Tmp → Nat
  | some d => 2 ^ d
  | none => 0
def useBit : Operand → Nat
  | .tmp t => 2 ^ t
  | _ => 0
def usesOf : List Operand → Nat
  | [] => 0
  | x :: xs => useBit x ||| usesOf xs
def dropBits (L m : Nat) : Nat := L ^^^ (L &&& m)
def asgOps : List Oper → Nat
  | [] => 0
  | o :: os => dstBit o.dst ||| asgOps os
def asgC : Nat → Code → Nat
  | 0, _ => 0
  | f + 1, c => match c with
    | .region _ ops _ => asgOps ops.toList
    | .seq a b => asgC f a ||| asgC f b
    | .cond _ a b => asgC f a ||| asgC f b
    | .block _ c => asgC f c
    | .loop c => asgC f c
    | .scope c => asgC f c
    | _ => 0
def liveOps : List Oper → Nat → Nat
  | [], L => L
  | o :: os, L => dropBits (liveOps os L) (dstBit o.dst) ||| usesOf o.op.operands.toList
def envGet : List (Nat × Nat) → Nat → Nat
  | [], _ => 0
  | (i, L) :: r, id => match Nat.beq i id with
    | true => L
    | false => envGet r id
def liveC (ret : Nat) : Nat → List (Nat × Nat) → Code → Nat → Nat
  | 0, _, _, _ => 0
  | f + 1, env, c, L => match c with
    | .skip => L
    | .region _ ops _ => liveOps ops.toList L
    | .seq a b => liveC ret f env a (liveC ret f env b L)
    | .cond c a b => useBit c ||| liveC ret f env a L ||| liveC ret f env b L
    | .block id c => liveC ret f ((id, L) :: env) c L
    | .loop c => liveC ret f env c (liveC ret f env c 0)
    | .exit id => envGet env id
    | .ret => ret
    | .scope c => liveC ret f env c L
    | .label _ => L
    | _ => 0
def cap2 (n : Nat) : Nat := match n with | 0 => 0 | 1 => 1 | _ => 2
def exitsTo (id : Nat) : Nat → Code → Nat
  | 0, _ => 2
  | f + 1, c => match c with
    | .seq a b => cap2 (exitsTo id f a + exitsTo id f b)
    | .cond _ a b => cap2 (exitsTo id f a + exitsTo id f b)
    | .block _ c => exitsTo id f c
    | .loop c => exitsTo id f c
    | .exit i => match Nat.beq i id with | true => 1 | false => 0
    | _ => 0
def pathsC : Nat → Code → Nat
  | 0, _ => 2
  | f + 1, c => match c with
    | .skip => 1
    | .region _ _ _ => 1
    | .seq a b => cap2 (pathsC f a * pathsC f b)
    | .cond _ a b => cap2 (pathsC f a + pathsC f b)
    | .block id c => cap2 (pathsC f c + exitsTo id f c)
    | .scope c => pathsC f c
    | .label _ => 1
    | _ => 0
def bitsGo (m : Nat) : Nat → Nat → List Nat
  | _, 0 => []
  | i, n + 1 => match Nat.testBit m i with
    | true => i :: bitsGo m (i + 1) n
    | false => bitsGo m (i + 1) n
def bitsOf (m nt : Nat) : List Nat := bitsGo m 0 nt
def getL (T : Tree AV) : List Nat → List AV
  | [] => []
  | t :: ts => (T.get t).getD .top :: getL T ts
def nthD : List AV → Nat → AV
  | [], _ => .top
  | x :: _, 0 => x
  | _ :: xs, n + 1 => nthD xs n
def killL (T : Tree AV) : List Nat → Tree AV
  | [] => T
  | t :: ts => killL (T.set t .top) ts
def setL (T : Tree AV) (xs : List AV) : Nat → List Nat → Tree AV
  | _, [] => T
  | i, t :: ts => setL (T.set t (nthD xs i)) xs (i + 1) ts
def headT (T : Tree AV) (asg vs : List Nat) (xs : List AV) : Tree AV := setL (killL T asg) xs 0 vs
def condW (x : AV) (p q : Prop) : Prop :=
  match x with
  | .sc (.bool b) => (b = true → p) ∧ (b = false → q)
  | _ => False
def joinW (f : (List AV → RM → Prop) → Prop) (g : List AV → RM → Prop) : Prop := f g
def loopW (body : (List AV → RM → Prop) → List AV → RM → Prop) (xs : List AV) (M : RM) : Prop :=
  ∃ (I : Nat → List AV → RM → Prop) (n : Nat), I n xs M ∧ ∀ m ys M', I m ys M' → body (fun zs M'' => ∃ m', m' < m ∧ I m' zs M'') ys M'
abbrev K3 := Ex → Tree AV → RM → Prop
def wpC (P : Program) (nt ret : Nat) : Nat → Code → List (Nat × Nat) → Nat → Tree AV → RM → K3 → Prop
  | 0, _, _, _, _, _, _ => False
  | f + 1, c, env, L, T, M, K => match c with
    | .skip => K .normal T M
    | .region _ ops false => opsW P nt ops ops.toList T M (fun T' M' => K .normal T' M')
    | .region _ ops true => drawW P nt ops T M (fun T' M' => K .normal T' M')
    | .seq a b => match Nat.ble (pathsC f a) 1 with
      | true => wpC P nt ret f a env (liveC ret f env b L) T M (fun e T' M' => match e with
        | .normal => wpC P nt ret f b env L T' M' K
        | e => K e T' M')
      | false => joinW (fun J => wpC P nt ret f a env (liveC ret f env b L) T M (fun e T' M' => match e with
          | .normal => J (getL T' (bitsOf (asgC f a &&& liveC ret f env b L) nt)) M'
          | e => K e T' M'))
        (fun xs M' => wpC P nt ret f b env L (headT T (bitsOf (asgC f a) nt) (bitsOf (asgC f a &&& liveC ret f env b L) nt) xs) M' K)
    | .cond c a b => condW (evalT T c) (wpC P nt ret f a env L T M K) (wpC P nt ret f b env L T M K)
    | .block id c => wpC P nt ret f c ((id, L) :: env) L T M (fun e T' M' => match e with
      | .exit i => match Nat.beq i id with
        | true => K .normal T' M'
        | false => K (.exit i) T' M'
      | e => K e T' M')
    | .loop c => loopW (fun next xs M' => wpC P nt ret f c env (liveC ret f env c (liveC ret f env c 0)) (headT T (bitsOf (asgC f c) nt) (bitsOf (asgC f c &&& liveC ret f env c (liveC ret f env c 0)) nt) xs) M'
        (fun e T' M' => match e with
          | .normal => next (getL T' (bitsOf (asgC f c &&& liveC ret f env c (liveC ret f env c 0)) nt)) M'
          | e => K e T' M'))
      (getL T (bitsOf (asgC f c &&& liveC ret f env c (liveC ret f env c 0)) nt)) M
    | .exit id => K (.exit id) T M
    | .ret => K .ret T M
    | .scope c => wpC P nt ret f c env L T M K
    | .label _ => K .normal T M
    | _ => False
def resV (P : Program) (T : Tree AV) (M : RM) (r : ResultVar) (K : AV → Prop) : Prop :=
  match r with
  | .tmp t => K ((T.get t).getD .top)
  | .cell a t => match isAggT P t with
    | some false => load1 M ((T.get a).getD .top) K
    | some true => match sizeT P t with
      | some n => loadN M ((T.get a).getD .top) n K
      | none => False
    | none => False
def resL (P : Program) (T : Tree AV) (M : RM) : List ResultVar → (List AV → Prop) → Prop
  | [], K => K []
  | r :: rs, K => resV P T M r (fun v => resL P T M rs (fun vs => K (v :: vs)))
def resK (Q : PostV) (M : RM) : List AV → Prop
  | [v] => Q v M
  | vs => Q (.tup vs) M
def retBits : List ResultVar → Nat
  | [] => 0
  | .tmp t :: rs => 2 ^ t ||| retBits rs
  | .cell a _ :: rs => 2 ^ a ||| retBits rs
def wpBody (P : Program) (fn : Func) (c : Code) (args : List AV) (M : RM) (Q : PostV) : Prop :=
  wpC P (args.length + (fn.ntmps - args.length)) (retBits fn.results.toList) 1000 c [] 0 (Tree.ofList args 0 .leaf) M
    (fun e T M' => match e with
      | .exit _ => False
      | _ => resL P T M' fn.results.toList (resK Q M'))
section
variable {P : Program} {nt ret : Nat}
def PostR (P : Program) (nt : Nat) (M0 : RM) (ρ0 : Ren) (w0 : World) (T : Tree AV) (asg : Nat) (K : K3) (e : Exit) (a : Act) (w : World) : Prop :=
  ∃ x T' M' ρ', e = exOf x ∧ After P M0 ρ0 w0 M' ρ' w ∧ ARel ρ' nt T' a ∧ (∀ t, Nat.testBit asg t = false → T'.get t = T.get t) ∧ K x T' M'
theorem getL_get {T : Tree AV} : ∀ (vs : List Nat) (i : Nat), nthD (getL T vs) i = match vs[i]? with | some t => (T.get t).getD .top | none => .top
  | [], i => by simp [getL, nthD]
  | t :: vs, 0 => by simp [getL, nthD]
  | t :: vs, i + 1 => by simp [getL, nthD, getL_get vs i]
theorem killL_get : ∀ (asg : List Nat) (T : Tree AV) (t : Nat), (killL T asg).get t = if t ∈ asg then some .top else T.get t
  | [], T, t => by simp [killL]
  | d :: asg, T, t => by
    simp only [killL, killL_get asg, Tree.get_set, List.mem_cons]
    by_cases h1 : t ∈ asg
    · simp [h1]
    · by_cases h2 : t = d <;> simp [h1, h2]
theorem setL_get : ∀ (vs : List Nat) (T : Tree AV) (xs : List AV) (i t : Nat), (t ∉ vs ∧ (setL T xs i vs).get t = T.get t) ∨ ∃ j, vs[j]? = some t ∧ (setL T xs i vs).get t = some (nthD xs (i + j))
  | [], T, xs, i, t => .inl ⟨by simp, rfl⟩
  | d :: vs, T, xs, i, t => by
    simp only [setL]
    rcases setL_get vs (T.set d (nthD xs i)) xs (i + 1) t with ⟨h1, h2⟩ | ⟨j, h1, h2⟩
    · rw [Tree.get_set] at h2
      by_cases e : t = d
      · rw [if_pos e] at h2
        exact .inr ⟨0, by simp [e], h2⟩
      · rw [if_neg e] at h2
        exact .inl ⟨by simp [e, h1], h2⟩
    · exact .inr ⟨j + 1, by simpa using h1, by rw [h2]; congr 2; omega⟩
theorem bitsGo_mem {m : Nat} : ∀ (n i t : Nat), t ∈ bitsGo m i n ↔ i ≤ t ∧ t < i + n ∧ Nat.testBit m t = true
  | 0, i, t => by simp [bitsGo]; omega
  | n + 1, i, t => by
    simp only [bitsGo]
    split
    · rename_i h
      rw [List.mem_cons, bitsGo_mem n (i + 1) t]
      constructor
      · rintro (rfl | ⟨a, b, c⟩)
        · exact ⟨Nat.le_refl _, by omega, h⟩
        · exact ⟨by omega, by omega, c⟩
      · rintro ⟨a, b, c⟩
        by_cases e : t = i
        · exact .inl e
        · exact .inr ⟨by omega, by omega, c⟩
    · rename_i h
      rw [bitsGo_mem n (i + 1) t]
      constructor
      · rintro ⟨a, b, c⟩; exact ⟨by omega, by omega, c⟩
      · rintro ⟨a, b, c⟩
        have : t ≠ i := fun e => by subst e; rw [h] at c; cases c
        exact ⟨by omega, by omega, c⟩
theorem bitsOf_mem {m n t : Nat} : t ∈ bitsOf m n ↔ t < n ∧ Nat.testBit m t = true := by
  unfold bitsOf; rw [bitsGo_mem]; simp
theorem headT_rel {ρ : Ren} {T T' : Tree AV} {a : Act} {asg : Nat} {vs : List Nat} (h : ARel ρ nt T' a) (hge : ∀ t, nt ≤ t → VRel ρ ((T.get t).getD .top) undef) (hk : ∀ t, Nat.testBit asg t = false → T'.get t = T.get t) : ARel ρ nt (headT T (bitsOf asg nt) vs (getL T' vs)) a := by
  refine ⟨h.size, fun t => ?_, h.defers⟩
  unfold headT
  rcases setL_get vs (killL T (bitsOf asg nt)) (getL T' vs) 0 t with ⟨_, h2⟩ | ⟨j, h1, h2⟩
  · rw [h2, killL_get]
    split
    · exact .top _
    · rename_i hm
      by_cases hb : Nat.testBit asg t = true
      · have hge' : nt ≤ t := by
          rcases Nat.lt_or_ge t nt with hlt | hge
          · exact absurd (bitsOf_mem.2 ⟨hlt, hb⟩) hm
          · exact hge
        have hv : a.tmps.getD t undef = undef := by
          rw [Array.getD_eq_getD_getElem?, Array.getElem?_eq_none (by rw [h.size]; exact hge')]; rfl
        rw [hv]; exact hge t hge'
      · rw [← hk t (by simpa using hb)]
        exact h.val t
  · rw [h2, Nat.zero_add, getL_get, h1]
    exact h.val t
theorem headT_keep {T : Tree AV} {asg : Nat} {vs : List Nat} {xs : List AV} (hvs : ∀ t ∈ vs, Nat.testBit asg t = true) (t : Nat) (h : Nat.testBit asg t = false) : (headT T (bitsOf asg nt) vs xs).get t = T.get t := by
  unfold headT
  rcases setL_get vs (killL T (bitsOf asg nt)) xs 0 t with ⟨_, h2⟩ | ⟨j, h1, h2⟩
  · rw [h2, killL_get, if_neg]
    intro hm
    rw [(bitsOf_mem.1 hm).2] at h; cases h
  · have := hvs t (List.mem_of_getElem? h1)
    rw [h] at this; cases this
theorem ARel.ge {ρ : Ren} {T : Tree AV} {a : Act} (h : ARel ρ nt T a) : ∀ t, nt ≤ t → VRel ρ ((T.get t).getD .top) undef := by
  intro t ht
  have := h.val t
  rw [Array.getD_eq_getD_getElem?, Array.getElem?_eq_none (by rw [h.size]; exact ht)] at this
  exact this
theorem rounds_mono {c : Code} {Q : Exit → Act → World → Prop} : ∀ {n m : Nat} {a : Act} {w : World}, n ≤ m → Code.rounds P c Q n a w → Code.rounds P c Q m a w
  | 0, _, _, _, _, h => h.elim
  | n + 1, m + 1, a, w, hle, h => by
    rw [rounds_succ] at h ⊢
    refine wp_mono h fun e a' w' hp => ?_
    cases e with
    | normal => exact rounds_mono (Nat.le_of_succ_le_succ hle) hp
    | exit id => exact hp
    | ret => exact hp
    | goto l => exact hp
    | panic c => exact hp
    | outgrown => exact hp
theorem asgOps_dst {t : Nat} : ∀ (l : List Oper), Nat.testBit (asgOps l) t = false → ∀ o ∈ l, o.dst ≠ some t
  | [], _, o, ho => by cases ho
  | x :: l, h, o, ho => by
    simp only [asgOps, Nat.testBit_or, Bool.or_eq_false_iff] at h
    rcases List.mem_cons.1 ho with rfl | ho
    · intro e
      rw [e] at h
      simp [dstBit, Nat.testBit_two_pow] at h
    · exact asgOps_dst l h.2 o ho
theorem condW_rel {ρ : Ren} {x : AV} {u : Value} {p q : Prop} (h : condW x p q) (hx : VRel ρ x u) : ∃ b, u = .bool b ∧ (b = true → p) ∧ (b = false → q) := by
  unfold condW at h
  split at h <;> first | (cases h; done) | skip
  rename_i b
  exact ⟨b, (sc_inv hx).1, h.1, h.2⟩
theorem wpC_sound (hP : POk P) : ∀ (f : Nat) (c : Code) (env : List (Nat × Nat)) (L : Nat) (T : Tree AV) (M : RM) (K : K3), wpC P nt ret f c env L T M K →
    ∀ (M0 : RM) (ρ0 : Ren) (w0 : World) (ρ : Ren) (a : Act) (w : World), After P M0 ρ0 w0 M ρ w → ARel ρ nt T a → c.wp P (PostR P nt M0 ρ0 w0 T (asgC f c) K) a w := by
  intro f
  induction f with
  | zero => intro c env L T M K h; exact h.elim
  | succ f ih =>
    intro c env L T M K h M0 ρ0 w0 ρ a w hM hA
    cases c with
    | skip => exact wp_skip ⟨.normal, T, M, ρ, rfl, hM, hA, fun _ _ => rfl, h⟩
    | region id ops d =>
      cases d with
      | false =>
        refine wp_region ?_
        have := opsW_sound (nt := nt) hP (ops := ops) (Q := PostR P nt M0 ρ0 w0 T (asgC (f + 1) (.region id ops false)) K) (K := fun T' M' => K .normal T' M') (M0 := M0) (ρ0 := ρ0) (w0 := w0) (T0 := T)
          (fun T' M' ρ' a' w' k1 k2 k3 k4 => ⟨.normal, T', M', ρ', rfl, k1, k2, fun t ht => k4 t (asgOps_dst _ ht), k3⟩) ops.toList 0 (by simp) hA hM (fun _ _ => rfl) h
        rw [Array.length_toList, ← List.range_eq_range'] at this
        exact this
      | true =>
        exact drawW_sound (nt := nt) (T := T) hP hM hA (fun T' M' ρ' a' w' k1 k2 k3 k4 => ⟨.normal, T', M', ρ', rfl, k1, k2, fun t ht => k4 t (asgOps_dst _ ht), k3⟩) h
    | seq c1 c2 =>
      simp only [wpC] at h
      refine wp_seq ?_
      split at h
      · refine wp_mono (ih c1 _ _ _ _ _ h M0 ρ0 w0 ρ a w hM hA) fun e a' w' hp => ?_
        obtain ⟨x, T1, M1, ρ1, rfl, k1, k2, k3, k4⟩ := hp
        cases x with
        | normal =>
          refine wp_mono (ih c2 _ _ _ _ _ k4 M0 ρ0 w0 ρ1 a' w' k1 k2) fun e a2 w2 hp => ?_
          obtain ⟨x, T2, M2, ρ2, he, q1, q2, q3, q4⟩ := hp
          exact ⟨x, T2, M2, ρ2, he, q1, q2, fun t ht => by
            simp only [asgC, Nat.testBit_or, Bool.or_eq_false_iff] at ht
            rw [q3 t ht.2, k3 t ht.1], q4⟩
        | exit i => exact ⟨.exit i, T1, M1, ρ1, rfl, k1, k2, fun t ht => by
            simp only [asgC, Nat.testBit_or, Bool.or_eq_false_iff] at ht
            exact k3 t ht.1, k4⟩
        | ret => exact ⟨.ret, T1, M1, ρ1, rfl, k1, k2, fun t ht => by
            simp only [asgC, Nat.testBit_or, Bool.or_eq_false_iff] at ht
            exact k3 t ht.1, k4⟩
      · unfold joinW at h
        refine wp_mono (ih c1 _ _ _ _ _ h M0 ρ0 w0 ρ a w hM hA) fun e a' w' hp => ?_
        obtain ⟨x, T1, M1, ρ1, rfl, k1, k2, k3, k4⟩ := hp
        have hge : ∀ t, nt ≤ t → VRel ρ1 ((T.get t).getD .top) undef := fun t ht => by
          have h1 := k2.ge t ht
          by_cases hb : Nat.testBit (asgC f c1) t = false
          · rw [k3 t hb] at h1; exact h1
          · have h0 := hA.ge t ht
            have hu : ∀ (ρ ρ' : Ren) (x : AV), VRel ρ x undef → VRel ρ' x undef := by
              intro ρ ρ' x hx
              unfold undef at hx ⊢
              cases hx with
              | top => exact .top _
              | sc v p => exact .sc _ p
              | tup xs vs a => cases a; exact .tup _ _ .nil
            exact hu _ _ _ h0
        cases x with
        | normal =>
          refine wp_mono (ih c2 _ _ _ _ _ k4 M0 ρ0 w0 ρ1 a' w' k1 (headT_rel k2 hge k3)) fun e a2 w2 hp => ?_
          obtain ⟨x, T2, M2, ρ2, he, q1, q2, q3, q4⟩ := hp
          refine ⟨x, T2, M2, ρ2, he, q1, q2, fun t ht => ?_, q4⟩
          simp only [asgC, Nat.testBit_or, Bool.or_eq_false_iff] at ht
          rw [q3 t ht.2]
          refine headT_keep (fun t' ht' => ?_) t ht.1
          have := (bitsOf_mem.1 ht').2
          rw [Nat.testBit_and, Bool.and_eq_true] at this
          exact this.1
        | exit i => exact ⟨.exit i, T1, M1, ρ1, rfl, k1, k2, fun t ht => by
            simp only [asgC, Nat.testBit_or, Bool.or_eq_false_iff] at ht
            exact k3 t ht.1, k4⟩
        | ret => exact ⟨.ret, T1, M1, ρ1, rfl, k1, k2, fun t ht => by
            simp only [asgC, Nat.testBit_or, Bool.or_eq_false_iff] at ht
            exact k3 t ht.1, k4⟩
    | cond cnd c1 c2 =>
      simp only [wpC] at h
      obtain ⟨b, hb, h1, h2⟩ := condW_rel h (evalT_rel hA cnd)
      cases b with
      | true =>
        refine wp_cond_true hb (wp_mono (ih c1 _ _ _ _ _ (h1 rfl) M0 ρ0 w0 ρ a w hM hA) fun e a' w' hp => ?_)
        obtain ⟨x, T1, M1, ρ1, he, k1, k2, k3, k4⟩ := hp
        exact ⟨x, T1, M1, ρ1, he, k1, k2, fun t ht => by
            simp only [asgC, Nat.testBit_or, Bool.or_eq_false_iff] at ht
            exact k3 t ht.1, k4⟩
      | false =>
        refine wp_cond_false hb (wp_mono (ih c2 _ _ _ _ _ (h2 rfl) M0 ρ0 w0 ρ a w hM hA) fun e a' w' hp => ?_)
        obtain ⟨x, T1, M1, ρ1, he, k1, k2, k3, k4⟩ := hp
        exact ⟨x, T1, M1, ρ1, he, k1, k2, fun t ht => by
            simp only [asgC, Nat.testBit_or, Bool.or_eq_false_iff] at ht
            exact k3 t ht.2, k4⟩
    | block id c1 =>
      simp only [wpC] at h
      refine wp_block (wp_mono (ih c1 _ _ _ _ _ h M0 ρ0 w0 ρ a w hM hA) fun e a' w' hp => ?_)
      obtain ⟨x, T1, M1, ρ1, rfl, k1, k2, k3, k4⟩ := hp
      cases x with
      | normal => exact ⟨.normal, T1, M1, ρ1, rfl, k1, k2, k3, k4⟩
      | ret => exact ⟨.ret, T1, M1, ρ1, rfl, k1, k2, k3, k4⟩
      | exit i =>
        simp only at k4
        split at k4
        · rename_i he
          have he := beq_t he
          subst he
          simp only [exOf, Exit.inBlock, if_true]
          exact ⟨.normal, T1, M1, ρ1, rfl, k1, k2, k3, k4⟩
        · rename_i he
          have he := beq_f he
          simp only [exOf, Exit.inBlock, if_neg he]
          exact ⟨.exit i, T1, M1, ρ1, rfl, k1, k2, k3, k4⟩
    | loop c1 =>
      simp only [wpC] at h
      obtain ⟨I, n, hI, hbody⟩ := h
      have hvs : ∀ t ∈ bitsOf (asgC f c1 &&& liveC ret f env c1 (liveC ret f env c1 0)) nt, Nat.testBit (asgC f c1) t = true := fun t' ht' => by
        have := (bitsOf_mem.1 ht').2
        rw [Nat.testBit_and, Bool.and_eq_true] at this
        exact this.1
      generalize hv : bitsOf (asgC f c1 &&& liveC ret f env c1 (liveC ret f env c1 0)) nt = vs at hI hbody hvs
      have hu : ∀ (ρ ρ' : Ren) (x : AV), VRel ρ x undef → VRel ρ' x undef := by
        intro ρ ρ' x hx
        unfold undef at hx ⊢
        cases hx with
        | top => exact .top _
        | sc v p => exact .sc _ p
        | tup xs vs a => cases a; exact .tup _ _ .nil
      have hge : ∀ (ρ1 : Ren) t, nt ≤ t → VRel ρ1 ((T.get t).getD .top) undef := fun ρ1 t ht => hu _ _ _ (hA.ge t ht)
      have key : ∀ (m : Nat) (ys : List AV) (M1 : RM) (ρ1 : Ren) (a1 : Act) (w1 : World), I m ys M1 → After P M0 ρ0 w0 M1 ρ1 w1 → ARel ρ1 nt (headT T (bitsOf (asgC f c1) nt) vs ys) a1 →
          Code.rounds P c1 (PostR P nt M0 ρ0 w0 T (asgC (f + 1) (.loop c1)) K) (m + 1) a1 w1 := by
        intro m
        induction m using Nat.strongRecOn with
        | _ m ihm =>
          intro ys M1 ρ1 a1 w1 hIm hM1 hA1
          rw [rounds_succ]
          refine wp_mono (ih c1 _ _ _ _ _ (hbody m ys M1 hIm) M0 ρ0 w0 ρ1 a1 w1 hM1 hA1) fun e a' w' hp => ?_
          obtain ⟨x, T2, M2, ρ2, rfl, k1, k2, k3, k4⟩ := hp
          have k3' : ∀ t, Nat.testBit (asgC f c1) t = false → T2.get t = T.get t := fun t ht => by rw [k3 t ht]; exact headT_keep hvs t ht
          cases x with
          | normal =>
            obtain ⟨m', hlt, hI'⟩ := k4
            exact rounds_mono (by omega) (ihm m' hlt _ M2 ρ2 a' w' hI' k1 (headT_rel k2 (hge ρ2) k3'))
          | exit i => exact ⟨.exit i, T2, M2, ρ2, rfl, k1, k2, k3', k4⟩
          | ret => exact ⟨.ret, T2, M2, ρ2, rfl, k1, k2, k3', k4⟩
      exact wp_loop_rounds _ (key n _ M ρ a w hI hM (headT_rel hA (hge ρ) fun _ _ => rfl))
    | exit id => exact wp_exit ⟨.exit id, T, M, ρ, rfl, hM, hA, fun _ _ => rfl, h⟩
    | ret => exact wp_ret ⟨.ret, T, M, ρ, rfl, hM, hA, fun _ _ => rfl, h⟩
    | rangeFunc => simp [wpC] at h
    | scope c1 =>
      simp only [wpC] at h
      refine wp_scope_straight (wp_mono (ih c1 _ _ _ _ _ h M0 ρ0 w0 ρ a w hM hA) fun e a' w' hp => ?_)
      obtain ⟨x, T1, M1, ρ1, rfl, k1, k2, k3, k4⟩ := hp
      cases x with
      | normal => exact ⟨.normal, T1, M1, ρ1, rfl, k1, k2, k3, k4⟩
      | exit i => exact ⟨.exit i, T1, M1, ρ1, rfl, k1, k2, k3, k4⟩
      | ret => exact ⟨.ret, T1, M1, ρ1, rfl, k1, k2, k3, k4⟩
    | label l => exact wp_label ⟨.normal, T, M, ρ, rfl, hM, hA, fun _ _ => rfl, h⟩
    | goto => simp [wpC] at h
    | refuse => simp [wpC] at h
theorem resV_sound {ρ : Ren} {T : Tree AV} {M : RM} {a : Act} {w : World} (hA : ARel ρ nt T a) (hw : MRel P ρ M w) {r : ResultVar} {K : AV → Prop} (h : resV P T M r K) :
    ∃ v v', (resFn a.tmps r).run P w = .ok v' w ∧ VRel ρ v v' ∧ K v := by
  cases r with
  | tmp t => exact ⟨_, _, rfl, hA.val t, h⟩
  | cell x t =>
    simp only [resV] at h
    have hv := hA.val x
    split at h <;> first | (cases h; done) | skip
    · rename_i ha
      obtain ⟨b, p, v, hx, hl, hk⟩ := h
      rw [hx] at hv
      obtain ⟨i, hb, hc⟩ := ptr_inv hv
      obtain ⟨u, hu, hcell⟩ := loads_one hw hb hl
      refine ⟨v, u, ?_, hu, hk⟩
      simp only [resFn, hc, asAddr, Sem.run_bind, Sem.run_pure, Result.andThen_ok, loadVar, isAggT_run ha, Bool.false_eq_true, if_false, load, Sem.run, hcell]
    · rename_i ha
      split at h <;> first | (cases h; done) | skip
      rename_i n hs
      obtain ⟨b, p, xs, hx, hl, hk⟩ := h
      rw [hx] at hv
      obtain ⟨i, hb, hc⟩ := ptr_inv hv
      obtain ⟨vs, hr, hlen, _, hrun⟩ := RM.run_loads (P := P) hw hb hl
      exact ⟨.agg xs, .agg ⟨vs⟩, by simp only [resFn, hc, asAddr, Sem.run_bind, Sem.run_pure, Result.andThen_ok, loadVar, isAggT_run ha, if_true, sizeT_run hs, hrun], .agg _ _ hr, hk⟩
theorem resL_sound {ρ : Ren} {T : Tree AV} {M : RM} {a : Act} {w : World} (hA : ARel ρ nt T a) (hw : MRel P ρ M w) : ∀ (rs : List ResultVar) (K : List AV → Prop), resL P T M rs K →
    ∃ vs us, (rs.mapM (resFn a.tmps)).run P w = .ok us w ∧ LRel ρ vs us ∧ K vs
  | [], K, h => ⟨[], [], by simp, .nil, h⟩
  | r :: rs, K, h => by
    obtain ⟨v, v', h1, h2, h3⟩ := resV_sound hA hw h
    obtain ⟨vs, us, h4, h5, h6⟩ := resL_sound hA hw rs _ h3
    refine ⟨v :: vs, v' :: us, ?_, .cons _ _ _ _ h2 h5, h6⟩
    simp only [List.mapM_cons, Sem.run_bind, h1, Result.andThen_ok, h4, Sem.run_pure]
theorem callsR_of_body (hP : POk P) {f : FuncId} {fn : Func} {c : Code} {args : List AV} {M : RM} {Q : PostV} (hfn : P.funcs[f]? = some fn) (hbody : fn.body = some c) (h : wpBody P fn c args M Q) : CallsR P f args M Q := by
  refine ⟨⟨fn, c, hfn, hbody⟩, fun ρ w us hargs hw => ?_⟩
  have hlen := hargs.length
  have hA : ARel ρ (args.length + (fn.ntmps - args.length)) (Tree.ofList args 0 .leaf) { tmps := ⟨us⟩ ++ Array.replicate (fn.ntmps - (⟨us⟩ : Array Value).size) undef, defers := [] } := by
    refine ⟨by simp [hlen], fun t => ?_, rfl⟩
    rw [Tree.get_ofList]
    by_cases ht : t < args.length
    · rw [if_pos (by omega), Nat.sub_zero]
      obtain ⟨u, hu, hv⟩ := hargs.get (n := t) (x := args[t]) (by simp [ht])
      rw [List.getElem?_eq_getElem ht]
      simp only [Option.getD_some]
      have : ((⟨us⟩ : Array Value) ++ Array.replicate (fn.ntmps - (⟨us⟩ : Array Value).size) undef).getD t undef = u := by
        rw [Array.getD_eq_getD_getElem?, Array.getElem?_append_left (by simp; omega)]
        simp [hu]
      rw [this]; exact hv
    · rw [if_neg (by omega)]
      exact .top _
  refine calls_of_wp hfn hbody (wp_mono (wpC_sound hP 1000 c [] 0 _ M _ h M ρ w ρ _ w (After.refl hw) hA) fun e a w' hp => ?_)
  obtain ⟨x, T', M', ρ', rfl, k1, k2, k3, k4⟩ := hp
  have key : (∃ vs us, (fn.results.toList.mapM (resFn a.tmps)).run P w' = .ok us w' ∧ LRel ρ' vs us ∧ resK Q M' vs) →
      a.defers = [] ∧ ∃ v, (results fn a.tmps).run P w' = .ok v w' ∧ ∃ v' v_1 M'_1 ρ'_1, Ending.returned v = .returned v' ∧ After P M ρ w M'_1 ρ'_1 w' ∧ VRel ρ'_1 v_1 v' ∧ Q v_1 M'_1 := by
    rintro ⟨vs, us, h1, h2, h3⟩
    have hres : (results fn a.tmps).run P w' = .ok (if h : (⟨us⟩ : Array Value).size = 1 then (⟨us⟩ : Array Value)[0] else .tuple ⟨us⟩) w' := by
      have e : results fn a.tmps = (fn.results.mapM (resFn a.tmps) >>= fun vs => pure (if h : vs.size = 1 then vs[0] else .tuple vs)) := rfl
      rw [e, Array.mapM_eq_mapM_toList]
      simp only [Sem.run_bind, Sem.run_map, h1, Result.andThen_ok, Sem.run_pure]
    refine ⟨k2.defers, _, hres, ?_⟩
    cases h2 with
    | nil => exact ⟨_, _, M', ρ', rfl, k1, .tup _ _ .nil, h3⟩
    | cons x v xs vs2 hv htl =>
      cases htl with
      | nil => exact ⟨_, x, M', ρ', rfl, k1, hv, h3⟩
      | cons y u ys us2 hu htl2 => exact ⟨_, _, M', ρ', rfl, k1, .tup _ _ (.cons _ _ _ _ hv (.cons _ _ _ _ hu htl2)), h3⟩
  cases x with
  | normal => exact key (resL_sound k2 k1.rel _ _ k4)
  | ret => exact key (resL_sound k2 k1.rel _ _ k4)
  | exit id => exact k4.elim
abbrev CallT := List AV → RM → PostV → Prop
def wpBodyO (P : Program) (fn : Func) (args : List AV) (M : RM) (Q : PostV) : Prop :=
  match fn.body with
  | some c => wpBody P fn c args M Q
  | none => False
theorem callsR_of (hP : POk P) {f : FuncId} {fn : Func} {args : List AV} {M : RM} {Q : PostV} (hfn : P.funcs[f]? = some fn) (h : wpBodyO P fn args M Q) : CallsR P f args M Q := by
  unfold wpBodyO at h
  split at h
  · rename_i c hc; exact callsR_of_body hP hfn hc h
  · cases h
end
end Go.Ab
set_option maxRecDepth 100000
set_option linter.unusedVariables false
set_option linter.unusedSimpArgs false
namespace Go.Ab.Crw
open Go Go.Ab
def W_rolodex_rolodexlaw14_CrdtHolds (c_rolodex_rolodexlaw14_awake : CallT) (c_rolodex_rolodexlaw14_own : CallT) (c_rolodex_crdt_New : CallT) (T_api_Event : Nat) (c_rolodex_crdt_State_Apply : CallT) (T_api_Dot : Nat) (c_rolodex_crdt_State_Entries : CallT) (c_rolodex_rolodexref13_Has : CallT) (a0 a1 : AV) (M0 : RM) (Q : PostV) : Prop :=
 c_rolodex_rolodexlaw14_awake [] M0 fun t12 M =>
 notW t12 fun t13 =>
 condW t13 (
 Q (Bo false) M) (
 lenW a0 fun t15 =>
 intW .gtr t15 (N .i64 60) fun t16 =>
 condW t16 (
 Q (Bo true) M) (
 c_rolodex_rolodexlaw14_own [a0] M fun t18 M_0 =>
 c_rolodex_crdt_New [] M_0 fun t19 M_1 =>
 loopW (fun next xs M_2 => -- [7, 8]
 lenW t18 fun t22 =>
 intW .lss (nthD xs 1) t22 fun t23 =>
 condW t23 (
 intW .and a1 (N .i64 1023) fun t29 =>
 intW .add (nthD xs 1) t29 fun t30 =>
 lenW t18 fun t32 =>
 intW .rem t30 t32 fun t33 =>
 idxS t18 t33 7 fun t34 =>
 loadN M_2 t34 7 fun t35 =>
 newW (.row [(N .i64 0), (N .u64 0), (N .i64 0), (St []), (St []), (St []), (.sc (.slice none 0 0))] false T_api_Event 0) (fun b => .ptr b 0) M_2 fun t9 M_3 =>
 storeW M_3 t9 t35 7 fun M_4 =>
 loadN M_4 t9 7 fun t37 =>
 c_rolodex_crdt_State_Apply [t19, t37] M_4 fun t38 M_5 =>
 fldW t9 6 fun t40 =>
 load1 M_5 t40 fun t41 =>
 appW T_api_Dot 2 16 [(N .i64 0), (N .u64 0)] false (nthD xs 0) t41 M_5 fun t42 M_6 =>
 c_rolodex_crdt_State_Entries [t19] M_6 fun t44 M_7 =>
 loopW (fun next_8 xs_9 M_10 => -- [11]
 lenW t44 fun t47 =>
 intW .lss (nthD xs_9 0) t47 fun t48 =>
 condW t48 (
 idxS t44 (nthD xs_9 0) 5 fun t54 =>
 fldW t54 0 fun t55 =>
 loadN M_10 t55 2 fun t56 =>
 c_rolodex_rolodexref13_Has [t42, t56] M_10 fun t57 M_11 =>
 condW t57 (
 Q (Bo false) M_11) (
 intW .add (nthD xs_9 0) (N .i64 1) fun t50 =>
 next_8 [t50] M_11)) (
 intW .add (nthD xs 1) (N .i64 1) fun t25 =>
 next [t42, t25] M_10)) [(N .i64 0)] M_7) (
 Q (Bo true) M_2)) [(.sc (.slice none 0 0)), (N .i64 0)] M_1))
def W_rolodex_crdt_New (c_rolodex_dot_New : CallT) (T_crdt_State : Nat) (M0 : RM) (Q : PostV) : Prop :=
 c_rolodex_dot_New [] M0 fun t1 M =>
 buildW [(.sc (.pointer none)), (.sc (.slice none 0 0))] [(0, 1, t1)] fun t2 =>
 boxW T_crdt_State t2 fun r f =>
 newW r f M fun t3 M_0 =>
 Q t3 M_0
def W_rolodex_crdt_State_Apply (T_api_Event : Nat) (c_rolodex_crdt_Good : CallT) (c_rolodex_dot_Set_Copy : CallT) (T_api_Dot : Nat) (c_rolodex_dot_Set_Add : CallT) (c_rolodex_dot_Set_Has : CallT) (T_api_Entry : Nat) (c_slices_Clone_rolodex_api_Entry_rolodex_api_Entry : CallT) (c_slices_SortFunc_rolodex_api_Entry_rolodex_api_Entry : CallT) (n_rolodex_crdt_compare : Nat) (n_rolodex_crdt_State_Apply_1 : Nat) (c_slices_DeleteFunc_rolodex_api_Entry_rolodex_api_Entry : CallT) (c_rolodex_dot_Set_Within : CallT) (c_slices_Equal_rolodex_api_Entry_rolodex_api_Entry : CallT) (a0 a1 : AV) (M0 : RM) (Q : PostV) : Prop :=
 boxW T_api_Event a1 fun r f =>
 newW r f M0 fun t3 M =>
 loadN M t3 7 fun t12 =>
 c_rolodex_crdt_Good [t12] M fun t13 M_0 =>
 notW t13 fun t14 =>
 condW t14 (
 Q (.tup [(Bo false), (N .i64 1)]) M_0) (
 ptrW a0 fun t16 =>
 fldW t16 0 fun t17 =>
 load1 M_0 t17 fun t18 =>
 c_rolodex_dot_Set_Copy [t18] M_0 fun t19 M_1 =>
 fldW t3 0 fun t20 =>
 loadN M_1 t20 2 fun t21 =>
 rowsW T_api_Dot 1 [(N .i64 0), (N .u64 0)] [(0, 2, t21)] fun r_2 f_3 =>
 newW r_2 f_3 M_1 fun t22 M_4 =>
 fldW t3 6 fun t23 =>
 load1 M_4 t23 fun t24 =>
 appW T_api_Dot 2 16 [(N .i64 0), (N .u64 0)] false t22 t24 M_4 fun t25 M_5 =>
 lenW t25 fun t26 =>
 loopW (fun next xs M_6 => -- [27]
 intW .lss (nthD xs 0) t26 fun t28 =>
 condW t28 (
 idxS t25 (nthD xs 0) 2 fun t29 =>
 loadN M_6 t29 2 fun t30 =>
 newW (.row [(N .i64 0), (N .u64 0)] false T_api_Dot 0) (fun b => .ptr b 0) M_6 fun t8 M_7 =>
 storeW M_7 t8 t30 2 fun M_8 =>
 loadN M_8 t8 2 fun t32 =>
 c_rolodex_dot_Set_Add [t19, t32] M_8 fun t33 M_9 =>
 intW .neq t33 (N .i64 0) fun t35 =>
 condW t35 (
 Q (.tup [(Bo false), t33]) M_9) (
 intW .add (nthD xs 0) (N .i64 1) fun t37 =>
 next [t37] M_9)) (
 ptrW a0 fun t39 =>
 fldW t39 1 fun t40 =>
 load1 M_6 t40 fun t41 =>
 joinW (fun J =>
 fldW t3 2 fun t42 =>
 load1 M_6 t42 fun t43 =>
 intW .eql t43 (N .i64 1) fun t44 =>
 guardK t44 true (fun k => k a0 M_6 none) (fun k => k .undef M_6 none) fun t46 M_10 b =>
 guardK t44 true (fun k_11 => ptrW t46 fun t47 =>
 k_11 t47 M_10 none) (fun k => k .undef M_10 none) fun t47_12 M_13 b_14 =>
 guardK t44 true (fun k_15 => fldW t47_12 0 fun t48 =>
 k_15 t48 M_13 none) (fun k => k .undef M_13 none) fun t48_16 M_17 b_18 =>
 guardK t44 true (fun k_19 => load1 M_17 t48_16 fun t49 =>
 k_19 t49 M_17 none) (fun k => k .undef M_17 none) fun t49_20 M_21 b_22 =>
 guardK t44 true (fun k_23 => fldW t3 0 fun t50 =>
 k_23 t50 M_21 none) (fun k => k .undef M_21 none) fun t50_24 M_25 b_26 =>
 guardK t44 true (fun k_27 => loadN M_25 t50_24 2 fun t51 =>
 k_27 t51 M_25 none) (fun k => k .undef M_25 none) fun t51_28 M_29 b_30 =>
 guardM t44 true (fun k_31 => c_rolodex_dot_Set_Has [t49_20, t51_28] M_29 fun t52 M_32 =>
 k_31 t52 M_32) (fun k => k .undef M_29) fun t52_33 M_34 =>
 guardK t44 true (fun k_35 => notW t52_33 fun t53 =>
 k_35 t53 M_34 none) (fun k => k .undef M_34 none) fun t53_36 M_37 b_38 =>
 pickW t44 t53_36 (Bo false) fun t54 =>
 condW t54 (
 fldW t3 0 fun t57 =>
 loadN M_37 t57 2 fun t58 =>
 fldW t3 3 fun t59 =>
 load1 M_37 t59 fun t60 =>
 fldW t3 4 fun t61 =>
 load1 M_37 t61 fun t62 =>
 fldW t3 5 fun t63 =>
 load1 M_37 t63 fun t64 =>
 buildW [(N .i64 0), (N .u64 0), (St []), (St []), (St [])] [(0, 2, t58), (2, 1, t60), (3, 1, t62), (4, 1, t64)] fun t65 =>
 rowsW T_api_Entry 1 [(N .i64 0), (N .u64 0), (St []), (St []), (St [])] [(0, 5, t65)] fun r_39 f_40 =>
 newR r_39 f_40 M_37 fun t66 M_41 b_42 =>
 c_slices_Clone_rolodex_api_Entry_rolodex_api_Entry [t41] M_41 fun t56 M_43 =>
 loadN M_43 t57 2 fun t58_51 =>
 (t58_51 = t58 ∧ load1 M_43 t59 fun t60_50 =>
 (t60_50 = t60 ∧ load1 M_43 t61 fun t62_49 =>
 (t62_49 = t62 ∧ load1 M_43 t63 fun t64_48 =>
 (t64_48 = t64 ∧ rowsW T_api_Entry 1 [(N .i64 0), (N .u64 0), (St []), (St []), (St [])] [(0, 5, t65)] fun r_46 f_47 =>
 (sameB b_42 M_43 r_46 f_47 t66 ∧ appW T_api_Entry 5 64 [(N .i64 0), (N .u64 0), (St []), (St []), (St [])] false t56 t66 M_43 fun t67 M_44 =>
 c_slices_SortFunc_rolodex_api_Entry_rolodex_api_Entry [t67, (.fn (.func n_rolodex_crdt_compare) [] [])] M_44 fun t69 M_45 =>
 J [t67] M_45)))))) (
 J [t41] M_37)) (fun xs_52 M_53 => -- [10]
 c_slices_Clone_rolodex_api_Entry_rolodex_api_Entry [(nthD xs_52 0)] M_53 fun t71 M_54 =>
 c_slices_DeleteFunc_rolodex_api_Entry_rolodex_api_Entry [t71, (.fn (.func n_rolodex_crdt_State_Apply_1) [] [t3])] M_54 fun t73 M_55 =>
 ptrW a0 fun t76 =>
 fldW t76 0 fun t77 =>
 load1 M_55 t77 fun t78 =>
 c_rolodex_dot_Set_Within [t19, t78] M_55 fun t79 M_56 =>
 notW t79 fun t80 =>
 guardM t80 false (fun k_57 => k_57 t73 M_56) (fun k => k .undef M_56) fun t82 M_58 =>
 guardM t80 false (fun k_59 => k_59 a0 M_58) (fun k => k .undef M_58) fun t83 M_60 =>
 guardM t80 false (fun k_61 => ptrW t83 fun t84 =>
 k_61 t84 M_60) (fun k => k .undef M_60) fun t84_62 M_63 =>
 guardM t80 false (fun k_64 => fldW t84_62 1 fun t85 =>
 k_64 t85 M_63) (fun k => k .undef M_63) fun t85_65 M_66 =>
 guardM t80 false (fun k_67 => load1 M_66 t85_65 fun t86 =>
 k_67 t86 M_66) (fun k => k .undef M_66) fun t86_68 M_69 =>
 guardM t80 false (fun k_70 => c_slices_Equal_rolodex_api_Entry_rolodex_api_Entry [t82, t86_68] M_69 fun t87 M_71 =>
 k_70 t87 M_71) (fun k => k .undef M_69) fun t87_72 M_73 =>
 guardM t80 false (fun k_74 => notW t87_72 fun t88 =>
 k_74 t88 M_73) (fun k => k .undef M_73) fun t88_75 M_76 =>
 pickW t80 (Bo true) t88_75 fun t89 =>
 ptrW a0 fun t94 =>
 fldW t94 0 fun t95 =>
 storeW M_76 t95 t19 1 fun M_77 =>
 ptrW a0 fun t96 =>
 fldW t96 1 fun t97 =>
 storeW M_77 t97 t73 1 fun M_78 =>
 Q (.tup [t89, (N .i64 0)]) M_78))) [(N .i64 0)] M_5)
def W_rolodex_crdt_Good (T_api_Event : Nat) (c_rolodex_dot_Good : CallT) (c_rolodex_crdt_goodNames : CallT) (T_api_Dot : Nat) (c_rolodex_dot_Less : CallT) (a0 : AV) (M0 : RM) (Q : PostV) : Prop :=
 boxW T_api_Event a0 fun r f =>
 newW r f M0 fun t1 M =>
 fldW t1 0 fun t5 =>
 loadN M t5 2 fun t6 =>
 c_rolodex_dot_Good [t6] M fun t7 M_0 =>
 notW t7 fun t8 =>
 guardM t8 false (fun k => fldW t1 3 fun t10 =>
 k t10 M_0) (fun k => k .undef M_0) fun t10_1 M_2 =>
 guardM t8 false (fun k_3 => load1 M_2 t10_1 fun t11 =>
 k_3 t11 M_2) (fun k => k .undef M_2) fun t11_4 M_5 =>
 guardM t8 false (fun k_6 => fldW t1 4 fun t12 =>
 k_6 t12 M_5) (fun k => k .undef M_5) fun t12_7 M_8 =>
 guardM t8 false (fun k_9 => load1 M_8 t12_7 fun t13 =>
 k_9 t13 M_8) (fun k => k .undef M_8) fun t13_10 M_11 =>
 guardM t8 false (fun k_12 => fldW t1 5 fun t14 =>
 k_12 t14 M_11) (fun k => k .undef M_11) fun t14_13 M_14 =>
 guardM t8 false (fun k_15 => load1 M_14 t14_13 fun t15 =>
 k_15 t15 M_14) (fun k => k .undef M_14) fun t15_16 M_17 =>
 guardM t8 false (fun k_18 => c_rolodex_crdt_goodNames [t11_4, t13_10, t15_16] M_17 fun t16 M_19 =>
 k_18 t16 M_19) (fun k => k .undef M_17) fun t16_20 M_21 =>
 guardM t8 false (fun k_22 => notW t16_20 fun t17 =>
 k_22 t17 M_21) (fun k => k .undef M_21) fun t17_23 M_24 =>
 pickW t8 (Bo true) t17_23 fun t18 =>
 guardM t18 false (fun k_25 => fldW t1 6 fun t20 =>
 k_25 t20 M_24) (fun k => k .undef M_24) fun t20_26 M_27 =>
 guardM t18 false (fun k_28 => load1 M_27 t20_26 fun t21 =>
 k_28 t21 M_27) (fun k => k .undef M_27) fun t21_29 M_30 =>
 guardM t18 false (fun k_31 => lenW t21_29 fun t22 =>
 k_31 t22 M_30) (fun k => k .undef M_30) fun t22_32 M_33 =>
 guardM t18 false (fun k_34 => intW .gtr t22_32 (N .i64 64) fun t23 =>
 k_34 t23 M_33) (fun k => k .undef M_33) fun t23_35 M_36 =>
 pickW t18 (Bo true) t23_35 fun t24 =>
 condW t24 (
 Q (Bo false) M_36) (
 fldW t1 6 fun t25 =>
 load1 M_36 t25 fun t26 =>
 lenW t26 fun t27 =>
 loopW (fun next xs M_37 => -- [28]
 intW .lss (nthD xs 0) t27 fun t29 =>
 condW t29 (
 idxS t26 (nthD xs 0) 2 fun t31 =>
 loadN M_37 t31 2 fun t32 =>
 newW (.row [(N .i64 0), (N .u64 0)] false T_api_Dot 0) (fun b => .ptr b 0) M_37 fun t4 M_38 =>
 storeW M_38 t4 t32 2 fun M_39 =>
 loadN M_39 t4 2 fun t33 =>
 c_rolodex_dot_Good [t33] M_39 fun t34 M_40 =>
 notW t34 fun t35 =>
 guardK t35 false (fun k_41 => loadN M_40 t4 2 fun t37 =>
 k_41 t37 M_40 none) (fun k => k .undef M_40 none) fun t37_42 M_43 b =>
 guardK t35 false (fun k_44 => fldW t1 0 fun t38 =>
 k_44 t38 M_43 none) (fun k => k .undef M_43 none) fun t38_45 M_46 b_47 =>
 guardK t35 false (fun k_48 => loadN M_46 t38_45 2 fun t39 =>
 k_48 t39 M_46 none) (fun k => k .undef M_46 none) fun t39_49 M_50 b_51 =>
 guardK t35 false (fun k_52 => aggEqW false [1, 1] t37_42 t39_49 fun t40 =>
 k_52 t40 M_50 none) (fun k => k .undef M_50 none) fun t40_53 M_54 b_55 =>
 pickW t35 (Bo true) t40_53 fun t41 =>
 guardK t41 false (fun k_56 => k_56 (nthD xs 0) M_54 none) (fun k => k .undef M_54 none) fun t43 M_57 b_58 =>
 guardK t41 false (fun k_59 => intW .gtr t43 (N .i64 0) fun t44 =>
 k_59 t44 M_57 none) (fun k => k .undef M_57 none) fun t44_60 M_61 b_62 =>
 guardK t41 false (fun k_63 => k_63 t44_60 M_61 none) (fun k => k .undef M_61 none) fun t45 M_64 b_65 =>
 guardK t45 true (fun k_66 => fldW t1 6 fun t46 =>
 k_66 t46 M_64 none) (fun k => k .undef M_64 none) fun t46_67 M_68 b_69 =>
 guardK t45 true (fun k_70 => load1 M_68 t46_67 fun t47 =>
 k_70 t47 M_68 none) (fun k => k .undef M_68 none) fun t47_71 M_72 b_73 =>
 guardK t45 true (fun k_74 => k_74 (nthD xs 0) M_72 none) (fun k => k .undef M_72 none) fun t48 M_75 b_76 =>
 guardK t45 true (fun k_77 => intW .sub t48 (N .i64 1) fun t49 =>
 k_77 t49 M_75 none) (fun k => k .undef M_75 none) fun t49_78 M_79 b_80 =>
 guardK t45 true (fun k_81 => idxS t47_71 t49_78 2 fun t50 =>
 k_81 t50 M_79 none) (fun k => k .undef M_79 none) fun t50_82 M_83 b_84 =>
 guardK t45 true (fun k_85 => loadN M_83 t50_82 2 fun t51 =>
 k_85 t51 M_83 none) (fun k => k .undef M_83 none) fun t51_86 M_87 b_88 =>
 guardK t45 true (fun k_89 => loadN M_87 t4 2 fun t52 =>
 k_89 t52 M_87 none) (fun k => k .undef M_87 none) fun t52_90 M_91 b_92 =>
 guardM t45 true (fun k_93 => c_rolodex_dot_Less [t51_86, t52_90] M_91 fun t53 M_94 =>
 k_93 t53 M_94) (fun k => k .undef M_91) fun t53_95 M_96 =>
 guardK t45 true (fun k_97 => notW t53_95 fun t54 =>
 k_97 t54 M_96 none) (fun k => k .undef M_96 none) fun t54_98 M_99 b_100 =>
 guardK t41 false (fun k_101 => pickW t45 t54_98 (Bo false) fun t55 =>
 k_101 t55 M_99 none) (fun k => k .undef M_99 none) fun t55_102 M_103 b_104 =>
 pickW t41 (Bo true) t55_102 fun t56 =>
 condW t56 (
 Q (Bo false) M_103) (
 intW .add (nthD xs 0) (N .i64 1) fun t57 =>
 next [t57] M_103)) (
 fldW t1 2 fun t58 =>
 load1 M_37 t58 fun t59 =>
 intW .eql t59 (N .i64 1) fun t60 =>
 guardM t60 true (fun k_105 => fldW t1 4 fun t62 =>
 k_105 t62 M_37) (fun k => k .undef M_37) fun t62_106 M_107 =>
 guardM t60 true (fun k_108 => load1 M_107 t62_106 fun t63 =>
 k_108 t63 M_107) (fun k => k .undef M_107) fun t63_109 M_110 =>
 guardM t60 true (fun k_111 => strW .neq t63_109 (St []) fun t64 =>
 k_111 t64 M_110) (fun k => k .undef M_110) fun t64_112 M_113 =>
 pickW t60 t64_112 (Bo false) fun t65 =>
 guardM t65 false (fun k_114 => fldW t1 2 fun t67 =>
 k_114 t67 M_113) (fun k => k .undef M_113) fun t67_115 M_116 =>
 guardM t65 false (fun k_117 => load1 M_116 t67_115 fun t68 =>
 k_117 t68 M_116) (fun k => k .undef M_116) fun t68_118 M_119 =>
 guardM t65 false (fun k_120 => intW .eql t68_118 (N .i64 2) fun t69 =>
 k_120 t69 M_119) (fun k => k .undef M_119) fun t69_121 M_122 =>
 guardM t65 false (fun k_123 => k_123 t69_121 M_122) (fun k => k .undef M_122) fun t70 M_124 =>
 guardM t70 true (fun k_125 => fldW t1 5 fun t71 =>
 k_125 t71 M_124) (fun k => k .undef M_124) fun t71_126 M_127 =>
 guardM t70 true (fun k_128 => load1 M_127 t71_126 fun t72 =>
 k_128 t72 M_127) (fun k => k .undef M_127) fun t72_129 M_130 =>
 guardM t70 true (fun k_131 => strW .eql t72_129 (St []) fun t73 =>
 k_131 t73 M_130) (fun k => k .undef M_130) fun t73_132 M_133 =>
 guardM t65 false (fun k_134 => pickW t70 t73_132 (Bo false) fun t74 =>
 k_134 t74 M_133) (fun k => k .undef M_133) fun t74_135 M_136 =>
 pickW t65 (Bo true) t74_135 fun t75 =>
 Q t75 M_136)) [(N .i64 0)] M_36)
def W_rolodex_crdt_State_Entries (c_slices_Clone_rolodex_api_Entry_rolodex_api_Entry : CallT) (a0 : AV) (M0 : RM) (Q : PostV) : Prop :=
 ptrW a0 fun t4 =>
 fldW t4 1 fun t5 =>
 load1 M0 t5 fun t6 =>
 c_slices_Clone_rolodex_api_Entry_rolodex_api_Entry [t6] M0 fun t7 M =>
 Q t7 M
def W_rolodex_rolodexlaw14_own (T_api_Event : Nat) (c_rolodex_rolodexref13_GoodEvent : CallT) (a0 : AV) (M0 : RM) (Q : PostV) : Prop :=
 makeW T_api_Event 96 [(N .i64 0), (N .u64 0), (N .i64 0), (St []), (St []), (St []), (.sc (.slice none 0 0))] (N .i64 0) (N .i64 0) fun r f =>
 newW r f M0 fun t7 M =>
 loopW (fun next xs M_0 => -- [3, 4]
 lenW a0 fun t10 =>
 intW .lss (nthD xs 1) t10 fun t11 =>
 condW t11 (
 joinW (fun J =>
 idxS a0 (nthD xs 1) 7 fun t16 =>
 loadN M_0 t16 7 fun t17 =>
 c_rolodex_rolodexref13_GoodEvent [t17] M_0 fun t18 M_1 =>
 notW t18 fun t19 =>
 loopW (fun next_2 xs_3 M_4 => -- [5, 6]
 lenW (nthD xs 0) fun t22 =>
 intW .lss (nthD xs_3 1) t22 fun t23 =>
 condW t23 (
 guardK (nthD xs_3 0) false (fun k => k (nthD xs 0) M_4 none) (fun k => k .undef M_4 none) fun t28 M_5 b =>
 guardK (nthD xs_3 0) false (fun k_6 => k_6 (nthD xs_3 1) M_5 none) (fun k => k .undef M_5 none) fun t29 M_7 b_8 =>
 guardK (nthD xs_3 0) false (fun k_9 => idxS t28 t29 7 fun t30 =>
 k_9 t30 M_7 none) (fun k => k .undef M_7 none) fun t30_10 M_11 b_12 =>
 guardK (nthD xs_3 0) false (fun k_13 => fldW t30_10 0 fun t31 =>
 k_13 t31 M_11 none) (fun k => k .undef M_11 none) fun t31_14 M_15 b_16 =>
 guardK (nthD xs_3 0) false (fun k_17 => loadN M_15 t31_14 2 fun t32 =>
 k_17 t32 M_15 none) (fun k => k .undef M_15 none) fun t32_18 M_19 b_20 =>
 guardK (nthD xs_3 0) false (fun k_21 => k_21 a0 M_19 none) (fun k => k .undef M_19 none) fun t33 M_22 b_23 =>
 guardK (nthD xs_3 0) false (fun k_24 => k_24 (nthD xs 1) M_22 none) (fun k => k .undef M_22 none) fun t34 M_25 b_26 =>
 guardK (nthD xs_3 0) false (fun k_27 => idxS t33 t34 7 fun t35 =>
 k_27 t35 M_25 none) (fun k => k .undef M_25 none) fun t35_28 M_29 b_30 =>
 guardK (nthD xs_3 0) false (fun k_31 => fldW t35_28 0 fun t36 =>
 k_31 t36 M_29 none) (fun k => k .undef M_29 none) fun t36_32 M_33 b_34 =>
 guardK (nthD xs_3 0) false (fun k_35 => loadN M_33 t36_32 2 fun t37 =>
 k_35 t37 M_33 none) (fun k => k .undef M_33 none) fun t37_36 M_37 b_38 =>
 guardK (nthD xs_3 0) false (fun k_39 => aggEqW false [1, 1] t32_18 t37_36 fun t38 =>
 k_39 t38 M_37 none) (fun k => k .undef M_37 none) fun t38_40 M_41 b_42 =>
 pickW (nthD xs_3 0) (Bo true) t38_40 fun t39 =>
 intW .add (nthD xs_3 1) (N .i64 1) fun t25 =>
 next_2 [t39, t25] M_41) (
 notW (nthD xs_3 0) fun t41 =>
 condW t41 (
 idxS a0 (nthD xs 1) 7 fun t45 =>
 loadN M_4 t45 7 fun t46 =>
 rowsW T_api_Event 1 [(N .i64 0), (N .u64 0), (N .i64 0), (St []), (St []), (St []), (.sc (.slice none 0 0))] [(0, 7, t46)] fun r_43 f_44 =>
 newW r_43 f_44 M_4 fun t47 M_45 =>
 appW T_api_Event 7 96 [(N .i64 0), (N .u64 0), (N .i64 0), (St []), (St []), (St []), (.sc (.slice none 0 0))] false (nthD xs 0) t47 M_45 fun t48 M_46 =>
 J [t48] M_46) (
 J [(nthD xs 0)] M_4))) [t19, (N .i64 0)] M_1) (fun xs_47 M_48 => -- [3]
 intW .add (nthD xs 1) (N .i64 1) fun t13 =>
 next [(nthD xs_47 0), t13] M_48)) (
 Q (nthD xs 0) M_0)) [t7, (N .i64 0)] M
def W_rolodex_rolodexref13_GoodEvent (T_api_Event : Nat) (c_rolodex_rolodexref13_Good : CallT) (c_rolodex_rolodexref13_Less : CallT) (a0 : AV) (M0 : RM) (Q : PostV) : Prop :=
 boxW T_api_Event a0 fun r f =>
 newW r f M0 fun t1 M =>
 fldW t1 0 fun t4 =>
 loadN M t4 2 fun t5 =>
 c_rolodex_rolodexref13_Good [t5] M fun t6 M_0 =>
 notW t6 fun t7 =>
 guardM t7 false (fun k => fldW t1 2 fun t9 =>
 k t9 M_0) (fun k => k .undef M_0) fun t9_1 M_2 =>
 guardM t7 false (fun k_3 => load1 M_2 t9_1 fun t10 =>
 k_3 t10 M_2) (fun k => k .undef M_2) fun t10_4 M_5 =>
 guardM t7 false (fun k_6 => intW .neq t10_4 (N .i64 1) fun t11 =>
 k_6 t11 M_5) (fun k => k .undef M_5) fun t11_7 M_8 =>
 guardM t7 false (fun k_9 => k_9 t11_7 M_8) (fun k => k .undef M_8) fun t12 M_10 =>
 guardM t12 true (fun k_11 => fldW t1 2 fun t13 =>
 k_11 t13 M_10) (fun k => k .undef M_10) fun t13_12 M_13 =>
 guardM t12 true (fun k_14 => load1 M_13 t13_12 fun t14 =>
 k_14 t14 M_13) (fun k => k .undef M_13) fun t14_15 M_16 =>
 guardM t12 true (fun k_17 => intW .neq t14_15 (N .i64 2) fun t15 =>
 k_17 t15 M_16) (fun k => k .undef M_16) fun t15_18 M_19 =>
 guardM t7 false (fun k_20 => pickW t12 t15_18 (Bo false) fun t16 =>
 k_20 t16 M_19) (fun k => k .undef M_19) fun t16_21 M_22 =>
 pickW t7 (Bo true) t16_21 fun t17 =>
 guardM t17 false (fun k_23 => fldW t1 3 fun t19 =>
 k_23 t19 M_22) (fun k => k .undef M_22) fun t19_24 M_25 =>
 guardM t17 false (fun k_26 => load1 M_25 t19_24 fun t20 =>
 k_26 t20 M_25) (fun k => k .undef M_25) fun t20_27 M_28 =>
 guardM t17 false (fun k_29 => lenStr t20_27 fun t21 =>
 k_29 t21 M_28) (fun k => k .undef M_28) fun t21_30 M_31 =>
 guardM t17 false (fun k_32 => intW .lss t21_30 (N .i64 1) fun t22 =>
 k_32 t22 M_31) (fun k => k .undef M_31) fun t22_33 M_34 =>
 pickW t17 (Bo true) t22_33 fun t23 =>
 guardM t23 false (fun k_35 => fldW t1 3 fun t25 =>
 k_35 t25 M_34) (fun k => k .undef M_34) fun t25_36 M_37 =>
 guardM t23 false (fun k_38 => load1 M_37 t25_36 fun t26 =>
 k_38 t26 M_37) (fun k => k .undef M_37) fun t26_39 M_40 =>
 guardM t23 false (fun k_41 => lenStr t26_39 fun t27 =>
 k_41 t27 M_40) (fun k => k .undef M_40) fun t27_42 M_43 =>
 guardM t23 false (fun k_44 => intW .gtr t27_42 (N .i64 64) fun t28 =>
 k_44 t28 M_43) (fun k => k .undef M_43) fun t28_45 M_46 =>
 pickW t23 (Bo true) t28_45 fun t29 =>
 guardM t29 false (fun k_47 => fldW t1 4 fun t31 =>
 k_47 t31 M_46) (fun k => k .undef M_46) fun t31_48 M_49 =>
 guardM t29 false (fun k_50 => load1 M_49 t31_48 fun t32 =>
 k_50 t32 M_49) (fun k => k .undef M_49) fun t32_51 M_52 =>
 guardM t29 false (fun k_53 => lenStr t32_51 fun t33 =>
 k_53 t33 M_52) (fun k => k .undef M_52) fun t33_54 M_55 =>
 guardM t29 false (fun k_56 => intW .gtr t33_54 (N .i64 64) fun t34 =>
 k_56 t34 M_55) (fun k => k .undef M_55) fun t34_57 M_58 =>
 pickW t29 (Bo true) t34_57 fun t35 =>
 guardM t35 false (fun k_59 => fldW t1 5 fun t37 =>
 k_59 t37 M_58) (fun k => k .undef M_58) fun t37_60 M_61 =>
 guardM t35 false (fun k_62 => load1 M_61 t37_60 fun t38 =>
 k_62 t38 M_61) (fun k => k .undef M_61) fun t38_63 M_64 =>
 guardM t35 false (fun k_65 => lenStr t38_63 fun t39 =>
 k_65 t39 M_64) (fun k => k .undef M_64) fun t39_66 M_67 =>
 guardM t35 false (fun k_68 => intW .gtr t39_66 (N .i64 512) fun t40 =>
 k_68 t40 M_67) (fun k => k .undef M_67) fun t40_69 M_70 =>
 pickW t35 (Bo true) t40_69 fun t41 =>
 guardM t41 false (fun k_71 => fldW t1 6 fun t43 =>
 k_71 t43 M_70) (fun k => k .undef M_70) fun t43_72 M_73 =>
 guardM t41 false (fun k_74 => load1 M_73 t43_72 fun t44 =>
 k_74 t44 M_73) (fun k => k .undef M_73) fun t44_75 M_76 =>
 guardM t41 false (fun k_77 => lenW t44_75 fun t45 =>
 k_77 t45 M_76) (fun k => k .undef M_76) fun t45_78 M_79 =>
 guardM t41 false (fun k_80 => intW .gtr t45_78 (N .i64 64) fun t46 =>
 k_80 t46 M_79) (fun k => k .undef M_79) fun t46_81 M_82 =>
 pickW t41 (Bo true) t46_81 fun t47 =>
 condW t47 (
 Q (Bo false) M_82) (
 fldW t1 2 fun t48 =>
 load1 M_82 t48 fun t49 =>
 intW .eql t49 (N .i64 1) fun t50 =>
 guardM t50 true (fun k_83 => fldW t1 4 fun t52 =>
 k_83 t52 M_82) (fun k => k .undef M_82) fun t52_84 M_85 =>
 guardM t50 true (fun k_86 => load1 M_85 t52_84 fun t53 =>
 k_86 t53 M_85) (fun k => k .undef M_85) fun t53_87 M_88 =>
 guardM t50 true (fun k_89 => strW .eql t53_87 (St []) fun t54 =>
 k_89 t54 M_88) (fun k => k .undef M_88) fun t54_90 M_91 =>
 pickW t50 t54_90 (Bo false) fun t55 =>
 guardM t55 false (fun k_92 => fldW t1 2 fun t57 =>
 k_92 t57 M_91) (fun k => k .undef M_91) fun t57_93 M_94 =>
 guardM t55 false (fun k_95 => load1 M_94 t57_93 fun t58 =>
 k_95 t58 M_94) (fun k => k .undef M_94) fun t58_96 M_97 =>
 guardM t55 false (fun k_98 => intW .eql t58_96 (N .i64 2) fun t59 =>
 k_98 t59 M_97) (fun k => k .undef M_97) fun t59_99 M_100 =>
 guardM t55 false (fun k_101 => k_101 t59_99 M_100) (fun k => k .undef M_100) fun t60 M_102 =>
 guardM t60 true (fun k_103 => fldW t1 5 fun t61 =>
 k_103 t61 M_102) (fun k => k .undef M_102) fun t61_104 M_105 =>
 guardM t60 true (fun k_106 => load1 M_105 t61_104 fun t62 =>
 k_106 t62 M_105) (fun k => k .undef M_105) fun t62_107 M_108 =>
 guardM t60 true (fun k_109 => strW .neq t62_107 (St []) fun t63 =>
 k_109 t63 M_108) (fun k => k .undef M_108) fun t63_110 M_111 =>
 guardM t55 false (fun k_112 => pickW t60 t63_110 (Bo false) fun t64 =>
 k_112 t64 M_111) (fun k => k .undef M_111) fun t64_113 M_114 =>
 pickW t55 (Bo true) t64_113 fun t65 =>
 condW t65 (
 Q (Bo false) M_114) (
 loopW (fun next xs M_115 => -- [3]
 fldW t1 6 fun t67 =>
 load1 M_115 t67 fun t68 =>
 lenW t68 fun t69 =>
 intW .lss (nthD xs 0) t69 fun t70 =>
 condW t70 (
 fldW t1 6 fun t73 =>
 load1 M_115 t73 fun t74 =>
 idxS t74 (nthD xs 0) 2 fun t76 =>
 loadN M_115 t76 2 fun t77 =>
 c_rolodex_rolodexref13_Good [t77] M_115 fun t78 M_116 =>
 notW t78 fun t79 =>
 guardK t79 false (fun k_117 => fldW t1 6 fun t81 =>
 k_117 t81 M_116 none) (fun k => k .undef M_116 none) fun t81_118 M_119 b =>
 guardK t79 false (fun k_120 => load1 M_119 t81_118 fun t82 =>
 k_120 t82 M_119 none) (fun k => k .undef M_119 none) fun t82_121 M_122 b_123 =>
 guardK t79 false (fun k_124 => k_124 (nthD xs 0) M_122 none) (fun k => k .undef M_122 none) fun t83 M_125 b_126 =>
 guardK t79 false (fun k_127 => idxS t82_121 t83 2 fun t84 =>
 k_127 t84 M_125 none) (fun k => k .undef M_125 none) fun t84_128 M_129 b_130 =>
 guardK t79 false (fun k_131 => loadN M_129 t84_128 2 fun t85 =>
 k_131 t85 M_129 none) (fun k => k .undef M_129 none) fun t85_132 M_133 b_134 =>
 guardK t79 false (fun k_135 => fldW t1 0 fun t86 =>
 k_135 t86 M_133 none) (fun k => k .undef M_133 none) fun t86_136 M_137 b_138 =>
 guardK t79 false (fun k_139 => loadN M_137 t86_136 2 fun t87 =>
 k_139 t87 M_137 none) (fun k => k .undef M_137 none) fun t87_140 M_141 b_142 =>
 guardK t79 false (fun k_143 => aggEqW false [1, 1] t85_132 t87_140 fun t88 =>
 k_143 t88 M_141 none) (fun k => k .undef M_141 none) fun t88_144 M_145 b_146 =>
 pickW t79 (Bo true) t88_144 fun t89 =>
 guardK t89 false (fun k_147 => k_147 (nthD xs 0) M_145 none) (fun k => k .undef M_145 none) fun t91 M_148 b_149 =>
 guardK t89 false (fun k_150 => intW .gtr t91 (N .i64 0) fun t92 =>
 k_150 t92 M_148 none) (fun k => k .undef M_148 none) fun t92_151 M_152 b_153 =>
 guardK t89 false (fun k_154 => k_154 t92_151 M_152 none) (fun k => k .undef M_152 none) fun t93 M_155 b_156 =>
 guardK t93 true (fun k_157 => fldW t1 6 fun t94 =>
 k_157 t94 M_155 none) (fun k => k .undef M_155 none) fun t94_158 M_159 b_160 =>
 guardK t93 true (fun k_161 => load1 M_159 t94_158 fun t95 =>
 k_161 t95 M_159 none) (fun k => k .undef M_159 none) fun t95_162 M_163 b_164 =>
 guardK t93 true (fun k_165 => k_165 (nthD xs 0) M_163 none) (fun k => k .undef M_163 none) fun t96 M_166 b_167 =>
 guardK t93 true (fun k_168 => intW .sub t96 (N .i64 1) fun t97 =>
 k_168 t97 M_166 none) (fun k => k .undef M_166 none) fun t97_169 M_170 b_171 =>
 guardK t93 true (fun k_172 => idxS t95_162 t97_169 2 fun t98 =>
 k_172 t98 M_170 none) (fun k => k .undef M_170 none) fun t98_173 M_174 b_175 =>
 guardK t93 true (fun k_176 => loadN M_174 t98_173 2 fun t99 =>
 k_176 t99 M_174 none) (fun k => k .undef M_174 none) fun t99_177 M_178 b_179 =>
 guardK t93 true (fun k_180 => fldW t1 6 fun t100 =>
 k_180 t100 M_178 none) (fun k => k .undef M_178 none) fun t100_181 M_182 b_183 =>
 guardK t93 true (fun k_184 => load1 M_182 t100_181 fun t101 =>
 k_184 t101 M_182 none) (fun k => k .undef M_182 none) fun t101_185 M_186 b_187 =>
 guardK t93 true (fun k_188 => k_188 (nthD xs 0) M_186 none) (fun k => k .undef M_186 none) fun t102 M_189 b_190 =>
 guardK t93 true (fun k_191 => idxS t101_185 t102 2 fun t103 =>
 k_191 t103 M_189 none) (fun k => k .undef M_189 none) fun t103_192 M_193 b_194 =>
 guardK t93 true (fun k_195 => loadN M_193 t103_192 2 fun t104 =>
 k_195 t104 M_193 none) (fun k => k .undef M_193 none) fun t104_196 M_197 b_198 =>
 guardM t93 true (fun k_199 => c_rolodex_rolodexref13_Less [t99_177, t104_196] M_197 fun t105 M_200 =>
 k_199 t105 M_200) (fun k => k .undef M_197) fun t105_201 M_202 =>
 guardK t93 true (fun k_203 => notW t105_201 fun t106 =>
 k_203 t106 M_202 none) (fun k => k .undef M_202 none) fun t106_204 M_205 b_206 =>
 guardK t89 false (fun k_207 => pickW t93 t106_204 (Bo false) fun t107 =>
 k_207 t107 M_205 none) (fun k => k .undef M_205 none) fun t107_208 M_209 b_210 =>
 pickW t89 (Bo true) t107_208 fun t108 =>
 condW t108 (
 Q (Bo false) M_209) (
 intW .add (nthD xs 0) (N .i64 1) fun t72 =>
 next [t72] M_209)) (
 Q (Bo true) M_115)) [(N .i64 0)] M_114))
def W_slices_Clone_rolodex_api_Entry_rolodex_api_Entry (T_api_Entry : Nat) (a0 : AV) (M0 : RM) (Q : PostV) : Prop :=
 refEqW false 2 a0 (.sc (.slice none 0 0)) fun t4 =>
 condW t4 (
 Q (.sc (.slice none 0 0)) M0) (
 rowsW T_api_Entry 0 [(N .i64 0), (N .u64 0), (St []), (St []), (St [])] [] fun r f =>
 newW r f M0 fun t5 M =>
 appW T_api_Entry 5 64 [(N .i64 0), (N .u64 0), (St []), (St []), (St [])] false t5 a0 M fun t7 M_0 =>
 Q t7 M_0)
def W_slices_SortFunc_rolodex_api_Entry_rolodex_api_Entry (c_math_bits_Len : CallT) (c_slices_pdqsortCmpFunc_rolodex_api_Entry : CallT) (a0 a1 : AV) (M0 : RM) (Q : PostV) : Prop :=
 lenW a0 fun t6 =>
 cvtW .u64 t6 fun t10 =>
 c_math_bits_Len [t10] M0 fun t11 M =>
 c_slices_pdqsortCmpFunc_rolodex_api_Entry [a0, (N .i64 0), t6, t11, a1] M fun t13 M_0 =>
 Q (.tup []) M_0
def W_rolodex_crdt_compare (T_api_Entry : Nat) (c_cmp_Compare_string : CallT) (c_rolodex_crdt_byDot : CallT) (T_int : Nat) (c_cmp_Or_int : CallT) (a0 a1 : AV) (M0 : RM) (Q : PostV) : Prop :=
 boxW T_api_Entry a0 fun r f =>
 newW r f M0 fun t2 M =>
 boxW T_api_Entry a1 fun r_0 f_1 =>
 newW r_0 f_1 M fun t3 M_2 =>
 fldW t2 2 fun t5 =>
 load1 M_2 t5 fun t6 =>
 fldW t3 2 fun t7 =>
 load1 M_2 t7 fun t8 =>
 fldW t2 3 fun t10 =>
 load1 M_2 t10 fun t11 =>
 fldW t3 3 fun t12 =>
 load1 M_2 t12 fun t13 =>
 fldW t2 0 fun t15 =>
 loadN M_2 t15 2 fun t16 =>
 fldW t3 0 fun t17 =>
 loadN M_2 t17 2 fun t18 =>
 c_cmp_Compare_string [t6, t8] M_2 fun t9 M_3 =>
 load1 M_3 t10 fun t11_15 =>
 (t11_15 = t11 ∧ load1 M_3 t12 fun t13_14 =>
 (t13_14 = t13 ∧ loadN M_3 t15 2 fun t16_13 =>
 (t16_13 = t16 ∧ loadN M_3 t17 2 fun t18_12 =>
 (t18_12 = t18 ∧ c_cmp_Compare_string [t11, t13] M_3 fun t14 M_4 =>
 loadN M_4 t15 2 fun t16_11 =>
 (t16_11 = t16 ∧ loadN M_4 t17 2 fun t18_10 =>
 (t18_10 = t18 ∧ c_rolodex_crdt_byDot [t16, t18] M_4 fun t19 M_5 =>
 rowsW T_int 3 [(N .i64 0)] [(0, 1, t9), (1, 1, t14), (2, 1, t19)] fun r_6 f_7 =>
 newR r_6 f_7 M_5 fun t20 M_8 b =>
 c_cmp_Or_int [t20] M_8 fun t21 M_9 =>
 Q t21 M_9))))))
def W_slices_DeleteFunc_rolodex_api_Entry_rolodex_api_Entry (c_slices_IndexFunc_rolodex_api_Entry_rolodex_api_Entry : CallT) (T_api_Entry : Nat) (cv : (FuncId → CallT)) (a0 a1 : AV) (M0 : RM) (Q : PostV) : Prop :=
 c_slices_IndexFunc_rolodex_api_Entry_rolodex_api_Entry [a0, a1] M0 fun t10 M =>
 intW .eql t10 (N .i64 (-1)) fun t12 =>
 condW t12 (
 Q a0 M) (
 intW .add t10 (N .i64 1) fun t15 =>
 loopW (fun next xs M_0 => -- [5, 6]
 lenW a0 fun t18 =>
 intW .lss (nthD xs 1) t18 fun t19 =>
 condW t19 (
 joinW (fun J =>
 idxS a0 (nthD xs 1) 5 fun t24 =>
 loadN M_0 t24 5 fun t25 =>
 newW (.row [(N .i64 0), (N .u64 0), (St []), (St []), (St [])] false T_api_Entry 0) (fun b => .ptr b 0) M_0 fun t7 M_1 =>
 storeW M_1 t7 t25 5 fun M_2 =>
 loadN M_2 t7 5 fun t27 =>
 callV cv a1 [t27] M_2 fun t28 M_3 =>
 notW t28 fun t29 =>
 condW t29 (
 loadN M_3 t7 5 fun t32 =>
 idxS a0 (nthD xs 0) 5 fun t33 =>
 storeW M_3 t33 t32 5 fun M_4 =>
 intW .add (nthD xs 0) (N .i64 1) fun t35 =>
 J [t35] M_4) (
 J [(nthD xs 0)] M_3)) (fun xs_5 M_6 => -- [5]
 intW .add (nthD xs 1) (N .i64 1) fun t21 =>
 next [(nthD xs_5 0), t21] M_6)) (
 getW (subS 5 a0 (some (nthD xs 0)) none none) fun t38 =>
 clearW [(N .i64 0), (N .u64 0), (St []), (St []), (St [])] t38 M_0 fun u M_7 =>
 getW (subS 5 a0 none (some (nthD xs 0)) none) fun t41 =>
 Q t41 M_7)) [t10, t15] M)
def W_rolodex_crdt_State_Apply_1 (T_api_Entry : Nat) (c_slices_Contains_rolodex_api_Dot_rolodex_api_Dot : CallT) (a0 a1 : AV) (M0 : RM) (Q : PostV) : Prop :=
 boxW T_api_Entry a0 fun r f =>
 newW r f M0 fun t2 M =>
 fldW a1 6 fun t4 =>
 load1 M t4 fun t5 =>
 fldW t2 0 fun t6 =>
 loadN M t6 2 fun t7 =>
 c_slices_Contains_rolodex_api_Dot_rolodex_api_Dot [t5, t7] M fun t8 M_0 =>
 Q t8 M_0
def W_slices_Contains_rolodex_api_Dot_rolodex_api_Dot (T_api_Dot : Nat) (c_slices_Index_rolodex_api_Dot_rolodex_api_Dot : CallT) (a0 a1 : AV) (M0 : RM) (Q : PostV) : Prop :=
 boxW T_api_Dot a1 fun r f =>
 newW r f M0 fun t3 M =>
 loadN M t3 2 fun t6 =>
 c_slices_Index_rolodex_api_Dot_rolodex_api_Dot [a0, t6] M fun t7 M_0 =>
 intW .geq t7 (N .i64 0) fun t8 =>
 Q t8 M_0
def W_slices_Equal_rolodex_api_Entry_rolodex_api_Entry (a0 a1 : AV) (M0 : RM) (Q : PostV) : Prop :=
 lenW a0 fun t7 =>
 lenW a1 fun t9 =>
 intW .neq t7 t9 fun t10 =>
 condW t10 (
 Q (Bo false) M0) (
 lenW a0 fun t12 =>
 loopW (fun next xs M => -- [13]
 intW .lss (nthD xs 0) t12 fun t14 =>
 condW t14 (
 idxS a0 (nthD xs 0) 5 fun t18 =>
 loadN M t18 5 fun t19 =>
 idxS a1 (nthD xs 0) 5 fun t22 =>
 loadN M t22 5 fun t23 =>
 aggEqW true [1, 1, 2, 2, 2] t19 t23 fun t24 =>
 condW t24 (
 Q (Bo false) M) (
 intW .add (nthD xs 0) (N .i64 1) fun t25 =>
 next [t25] M)) (
 Q (Bo true) M)) [(N .i64 0)] M0)
def W_rolodex_crdt_goodNames (a0 a1 a2 : AV) (M0 : RM) (Q : PostV) : Prop :=
 lenStr a0 fun t8 =>
 intW .geq t8 (N .i64 1) fun t9 =>
 guardM t9 true (fun k => k a0 M0) (fun k => k .undef M0) fun t11 M =>
 guardM t9 true (fun k_0 => lenStr t11 fun t12 =>
 k_0 t12 M) (fun k => k .undef M) fun t12_1 M_2 =>
 guardM t9 true (fun k_3 => intW .leq t12_1 (N .i64 64) fun t13 =>
 k_3 t13 M_2) (fun k => k .undef M_2) fun t13_4 M_5 =>
 pickW t9 t13_4 (Bo false) fun t14 =>
 guardM t14 true (fun k_6 => k_6 a1 M_5) (fun k => k .undef M_5) fun t16 M_7 =>
 guardM t14 true (fun k_8 => lenStr t16 fun t17 =>
 k_8 t17 M_7) (fun k => k .undef M_7) fun t17_9 M_10 =>
 guardM t14 true (fun k_11 => intW .leq t17_9 (N .i64 64) fun t18 =>
 k_11 t18 M_10) (fun k => k .undef M_10) fun t18_12 M_13 =>
 pickW t14 t18_12 (Bo false) fun t19 =>
 guardM t19 true (fun k_14 => k_14 a2 M_13) (fun k => k .undef M_13) fun t21 M_15 =>
 guardM t19 true (fun k_16 => lenStr t21 fun t22 =>
 k_16 t22 M_15) (fun k => k .undef M_15) fun t22_17 M_18 =>
 guardM t19 true (fun k_19 => intW .leq t22_17 (N .i64 512) fun t23 =>
 k_19 t23 M_18) (fun k => k .undef M_18) fun t23_20 M_21 =>
 pickW t19 t23_20 (Bo false) fun t24 =>
 Q t24 M_21
def W_rolodex_crdt_byDot (T_api_Dot : Nat) (c_cmp_Compare_uint64 : CallT) (c_cmp_Compare_int : CallT) (T_int : Nat) (c_cmp_Or_int : CallT) (a0 a1 : AV) (M0 : RM) (Q : PostV) : Prop :=
 boxW T_api_Dot a0 fun r f =>
 newW r f M0 fun t2 M =>
 boxW T_api_Dot a1 fun r_0 f_1 =>
 newW r_0 f_1 M fun t3 M_2 =>
 fldW t2 1 fun t5 =>
 load1 M_2 t5 fun t6 =>
 fldW t3 1 fun t7 =>
 load1 M_2 t7 fun t8 =>
 fldW t2 0 fun t10 =>
 load1 M_2 t10 fun t11 =>
 fldW t3 0 fun t12 =>
 load1 M_2 t12 fun t13 =>
 c_cmp_Compare_uint64 [t6, t8] M_2 fun t9 M_3 =>
 load1 M_3 t10 fun t11_10 =>
 (t11_10 = t11 ∧ load1 M_3 t12 fun t13_9 =>
 (t13_9 = t13 ∧ c_cmp_Compare_int [t11, t13] M_3 fun t14 M_4 =>
 rowsW T_int 2 [(N .i64 0)] [(0, 1, t9), (1, 1, t14)] fun r_5 f_6 =>
 newR r_5 f_6 M_4 fun t15 M_7 b =>
 c_cmp_Or_int [t15] M_7 fun t16 M_8 =>
 Q t16 M_8))
def W_slices_pdqsortCmpFunc_rolodex_api_Entry (c_slices_insertionSortCmpFunc_rolodex_api_Entry : CallT) (c_slices_heapSortCmpFunc_rolodex_api_Entry : CallT) (c_slices_breakPatternsCmpFunc_rolodex_api_Entry : CallT) (c_slices_choosePivotCmpFunc_rolodex_api_Entry : CallT) (c_slices_reverseRangeCmpFunc_rolodex_api_Entry : CallT) (c_slices_partialInsertionSortCmpFunc_rolodex_api_Entry : CallT) (cv : (FuncId → CallT)) (c_slices_partitionEqualCmpFunc_rolodex_api_Entry : CallT) (c_slices_partitionCmpFunc_rolodex_api_Entry : CallT) (c_slices_pdqsortCmpFunc_rolodex_api_Entry : CallT) (a0 a1 a2 a3 a4 : AV) (M0 : RM) (Q : PostV) : Prop :=
 loopW (fun next xs M => -- [1, 2, 3, 10, 11]
 intW .sub (nthD xs 1) (nthD xs 0) fun t23 =>
 intW .leq t23 (N .i64 12) fun t25 =>
 condW t25 (
 c_slices_insertionSortCmpFunc_rolodex_api_Entry [a0, (nthD xs 0), (nthD xs 1), a4] M fun t30 M_0 =>
 Q (.tup []) M_0) (
 intW .eql (nthD xs 2) (N .i64 0) fun t32 =>
 condW t32 (
 c_slices_heapSortCmpFunc_rolodex_api_Entry [a0, (nthD xs 0), (nthD xs 1), a4] M fun t37 M_1 =>
 Q (.tup []) M_1) (
 joinW (fun J =>
 notW (nthD xs 3) fun t39 =>
 condW t39 (
 c_slices_breakPatternsCmpFunc_rolodex_api_Entry [a0, (nthD xs 0), (nthD xs 1), a4] M fun t44 M_2 =>
 intW .sub (nthD xs 2) (N .i64 1) fun t46 =>
 J [t46] M_2) (
 J [(nthD xs 2)] M)) (fun xs_3 M_4 => -- [3]
 c_slices_choosePivotCmpFunc_rolodex_api_Entry [a0, (nthD xs 0), (nthD xs 1), a4] M_4 fun t52 M_5 =>
 extW t52 0 fun t53 =>
 extW t52 1 fun t54 =>
 joinW (fun J_6 =>
 intW .eql t54 (N .i64 2) fun t56 =>
 condW t56 (
 c_slices_reverseRangeCmpFunc_rolodex_api_Entry [a0, (nthD xs 0), (nthD xs 1), a4] M_5 fun t61 M_7 =>
 intW .sub (nthD xs 1) (N .i64 1) fun t63 =>
 intW .sub t53 (nthD xs 0) fun t66 =>
 intW .sub t63 t66 fun t67 =>
 J_6 [t67, (N .i64 1)] M_7) (
 J_6 [t53, t54] M_5)) (fun xs_8 M_9 => -- [13, 14]
 joinW (fun J_10 =>
 guardM (nthD xs 3) true (fun k => k (nthD xs 4) M_9) (fun k => k .undef M_9) fun t70 M_11 =>
 pickW (nthD xs 3) t70 (Bo false) fun t71 =>
 guardM t71 true (fun k_12 => k_12 (nthD xs_8 1) M_11) (fun k => k .undef M_11) fun t73 M_13 =>
 guardM t71 true (fun k_14 => intW .eql t73 (N .i64 1) fun t74 =>
 k_14 t74 M_13) (fun k => k .undef M_13) fun t74_15 M_16 =>
 pickW t71 t74_15 (Bo false) fun t75 =>
 condW t75 (
 c_slices_partialInsertionSortCmpFunc_rolodex_api_Entry [a0, (nthD xs 0), (nthD xs 1), a4] M_16 fun t80 M_17 =>
 condW t80 (
 Q (.tup []) M_17) (
 J_10 [] M_17)) (
 J_10 [] M_16)) (fun xs_18 M_19 => -- []
 intW .gtr (nthD xs 0) (N .i64 0) fun t82 =>
 guardK t82 true (fun k_20 => k_20 a4 M_19 none) (fun k => k .undef M_19 none) fun t84 M_21 b =>
 guardK t82 true (fun k_22 => k_22 a0 M_21 none) (fun k => k .undef M_21 none) fun t85 M_23 b_24 =>
 guardK t82 true (fun k_25 => k_25 (nthD xs 0) M_23 none) (fun k => k .undef M_23 none) fun t86 M_26 b_27 =>
 guardK t82 true (fun k_28 => intW .sub t86 (N .i64 1) fun t87 =>
 k_28 t87 M_26 none) (fun k => k .undef M_26 none) fun t87_29 M_30 b_31 =>
 guardK t82 true (fun k_32 => idxS t85 t87_29 5 fun t88 =>
 k_32 t88 M_30 none) (fun k => k .undef M_30 none) fun t88_33 M_34 b_35 =>
 guardK t82 true (fun k_36 => loadN M_34 t88_33 5 fun t89 =>
 k_36 t89 M_34 none) (fun k => k .undef M_34 none) fun t89_37 M_38 b_39 =>
 guardK t82 true (fun k_40 => k_40 a0 M_38 none) (fun k => k .undef M_38 none) fun t90 M_41 b_42 =>
 guardK t82 true (fun k_43 => k_43 (nthD xs_8 0) M_41 none) (fun k => k .undef M_41 none) fun t91 M_44 b_45 =>
 guardK t82 true (fun k_46 => idxS t90 t91 5 fun t92 =>
 k_46 t92 M_44 none) (fun k => k .undef M_44 none) fun t92_47 M_48 b_49 =>
 guardK t82 true (fun k_50 => loadN M_48 t92_47 5 fun t93 =>
 k_50 t93 M_48 none) (fun k => k .undef M_48 none) fun t93_51 M_52 b_53 =>
 guardM t82 true (fun k_54 => callV cv t84 [t89_37, t93_51] M_52 fun t94 M_55 =>
 k_54 t94 M_55) (fun k => k .undef M_52) fun t94_56 M_57 =>
 guardK t82 true (fun k_58 => intW .lss t94_56 (N .i64 0) fun t95 =>
 k_58 t95 M_57 none) (fun k => k .undef M_57 none) fun t95_59 M_60 b_61 =>
 guardK t82 true (fun k_62 => notW t95_59 fun t96 =>
 k_62 t96 M_60 none) (fun k => k .undef M_60 none) fun t96_63 M_64 b_65 =>
 pickW t82 t96_63 (Bo false) fun t97 =>
 condW t97 (
 c_slices_partitionEqualCmpFunc_rolodex_api_Entry [a0, (nthD xs 0), (nthD xs 1), (nthD xs_8 0), a4] M_64 fun t103 M_66 =>
 next [t103, (nthD xs 1), (nthD xs_3 0), (nthD xs 3), (nthD xs 4)] M_66) (
 c_slices_partitionCmpFunc_rolodex_api_Entry [a0, (nthD xs 0), (nthD xs 1), (nthD xs_8 0), a4] M_64 fun t111 M_67 =>
 extW t111 0 fun t112 =>
 extW t111 1 fun t113 =>
 intW .sub t112 (nthD xs 0) fun t117 =>
 intW .sub (nthD xs 1) t112 fun t120 =>
 intW .quo t23 (N .i64 8) fun t122 =>
 intW .lss t117 t120 fun t125 =>
 condW t125 (
 intW .geq t117 t122 fun t128 =>
 c_slices_pdqsortCmpFunc_rolodex_api_Entry [a0, (nthD xs 0), t112, (nthD xs_3 0), a4] M_67 fun t134 M_68 =>
 intW .add t112 (N .i64 1) fun t136 =>
 next [t136, (nthD xs 1), (nthD xs_3 0), t128, t113] M_68) (
 intW .geq t120 t122 fun t139 =>
 intW .add t112 (N .i64 1) fun t142 =>
 c_slices_pdqsortCmpFunc_rolodex_api_Entry [a0, t142, (nthD xs 1), (nthD xs_3 0), a4] M_67 fun t146 M_69 =>
 next [(nthD xs 0), t112, (nthD xs_3 0), t139, t113] M_69)))))))) [a1, a2, a3, (Bo true), (Bo true)] M0
def W_cmp_Or_int (a0 : AV) (M0 : RM) (Q : PostV) : Prop :=
 lenW a0 fun t7 =>
 loopW (fun next xs M => -- [8]
 intW .lss (nthD xs 0) t7 fun t9 =>
 condW t9 (
 idxS a0 (nthD xs 0) 1 fun t10 =>
 load1 M t10 fun t11 =>
 intW .neq t11 (N .i64 0) fun t14 =>
 condW t14 (
 Q t11 M) (
 intW .add (nthD xs 0) (N .i64 1) fun t16 =>
 next [t16] M)) (
 Q (N .i64 0) M)) [(N .i64 0)] M0
def W_cmp_Compare_string (c_cmp_isNaN_string : CallT) (a0 a1 : AV) (M0 : RM) (Q : PostV) : Prop :=
 c_cmp_isNaN_string [a0] M0 fun t8 M =>
 c_cmp_isNaN_string [a1] M fun t10 M_0 =>
 condW t8 (
 condW t10 (
 Q (N .i64 0) M_0) (
 Q (N .i64 (-1)) M_0)) (
 condW t10 (
 Q (N .i64 1) M_0) (
 strW .lss a0 a1 fun t16 =>
 condW t16 (
 Q (N .i64 (-1)) M_0) (
 strW .gtr a0 a1 fun t19 =>
 condW t19 (
 Q (N .i64 1) M_0) (
 Q (N .i64 0) M_0))))
def W_slices_IndexFunc_rolodex_api_Entry_rolodex_api_Entry (cv : (FuncId → CallT)) (a0 a1 : AV) (M0 : RM) (Q : PostV) : Prop :=
 lenW a0 fun t7 =>
 loopW (fun next xs M => -- [8]
 intW .lss (nthD xs 0) t7 fun t9 =>
 condW t9 (
 idxS a0 (nthD xs 0) 5 fun t14 =>
 loadN M t14 5 fun t15 =>
 callV cv a1 [t15] M fun t16 M_0 =>
 condW t16 (
 Q (nthD xs 0) M_0) (
 intW .add (nthD xs 0) (N .i64 1) fun t18 =>
 next [t18] M_0)) (
 Q (N .i64 (-1)) M)) [(N .i64 0)] M0
def W_slices_Index_rolodex_api_Dot_rolodex_api_Dot (T_api_Dot : Nat) (a0 a1 : AV) (M0 : RM) (Q : PostV) : Prop :=
 boxW T_api_Dot a1 fun r f =>
 newW r f M0 fun t3 M =>
 lenW a0 fun t7 =>
 loopW (fun next xs M_0 => -- [8]
 intW .lss (nthD xs 0) t7 fun t9 =>
 condW t9 (
 loadN M_0 t3 2 fun t11 =>
 idxS a0 (nthD xs 0) 2 fun t14 =>
 loadN M_0 t14 2 fun t15 =>
 aggEqW false [1, 1] t11 t15 fun t16 =>
 condW t16 (
 Q (nthD xs 0) M_0) (
 intW .add (nthD xs 0) (N .i64 1) fun t18 =>
 next [t18] M_0)) (
 Q (N .i64 (-1)) M_0)) [(N .i64 0)] M
def W_cmp_Compare_uint64 (c_cmp_isNaN_uint64 : CallT) (a0 a1 : AV) (M0 : RM) (Q : PostV) : Prop :=
 c_cmp_isNaN_uint64 [a0] M0 fun t8 M =>
 c_cmp_isNaN_uint64 [a1] M fun t10 M_0 =>
 condW t8 (
 condW t10 (
 Q (N .i64 0) M_0) (
 Q (N .i64 (-1)) M_0)) (
 condW t10 (
 Q (N .i64 1) M_0) (
 intW .lss a0 a1 fun t16 =>
 condW t16 (
 Q (N .i64 (-1)) M_0) (
 intW .gtr a0 a1 fun t19 =>
 condW t19 (
 Q (N .i64 1) M_0) (
 Q (N .i64 0) M_0))))
def W_cmp_Compare_int (c_cmp_isNaN_int : CallT) (a0 a1 : AV) (M0 : RM) (Q : PostV) : Prop :=
 c_cmp_isNaN_int [a0] M0 fun t8 M =>
 c_cmp_isNaN_int [a1] M fun t10 M_0 =>
 condW t8 (
 condW t10 (
 Q (N .i64 0) M_0) (
 Q (N .i64 (-1)) M_0)) (
 condW t10 (
 Q (N .i64 1) M_0) (
 intW .lss a0 a1 fun t16 =>
 condW t16 (
 Q (N .i64 (-1)) M_0) (
 intW .gtr a0 a1 fun t19 =>
 condW t19 (
 Q (N .i64 1) M_0) (
 Q (N .i64 0) M_0))))
def W_slices_insertionSortCmpFunc_rolodex_api_Entry (cv : (FuncId → CallT)) (a0 a1 a2 a3 : AV) (M0 : RM) (Q : PostV) : Prop :=
 intW .add a1 (N .i64 1) fun t11 =>
 loopW (fun next xs M => -- [8]
 intW .lss (nthD xs 0) a2 fun t14 =>
 condW t14 (
 loopW (fun next_0 xs_1 M_2 => -- [9]
 intW .gtr (nthD xs_1 0) a1 fun t20 =>
 guardK t20 true (fun k => k a3 M_2 none) (fun k => k .undef M_2 none) fun t22 M_3 b =>
 guardK t20 true (fun k_4 => k_4 a0 M_3 none) (fun k => k .undef M_3 none) fun t23 M_5 b_6 =>
 guardK t20 true (fun k_7 => k_7 (nthD xs_1 0) M_5 none) (fun k => k .undef M_5 none) fun t24 M_8 b_9 =>
 guardK t20 true (fun k_10 => idxS t23 t24 5 fun t25 =>
 k_10 t25 M_8 none) (fun k => k .undef M_8 none) fun t25_11 M_12 b_13 =>
 guardK t20 true (fun k_14 => loadN M_12 t25_11 5 fun t26 =>
 k_14 t26 M_12 none) (fun k => k .undef M_12 none) fun t26_15 M_16 b_17 =>
 guardK t20 true (fun k_18 => k_18 a0 M_16 none) (fun k => k .undef M_16 none) fun t27 M_19 b_20 =>
 guardK t20 true (fun k_21 => k_21 (nthD xs_1 0) M_19 none) (fun k => k .undef M_19 none) fun t28 M_22 b_23 =>
 guardK t20 true (fun k_24 => intW .sub t28 (N .i64 1) fun t29 =>
 k_24 t29 M_22 none) (fun k => k .undef M_22 none) fun t29_25 M_26 b_27 =>
 guardK t20 true (fun k_28 => idxS t27 t29_25 5 fun t30 =>
 k_28 t30 M_26 none) (fun k => k .undef M_26 none) fun t30_29 M_30 b_31 =>
 guardK t20 true (fun k_32 => loadN M_30 t30_29 5 fun t31 =>
 k_32 t31 M_30 none) (fun k => k .undef M_30 none) fun t31_33 M_34 b_35 =>
 guardM t20 true (fun k_36 => callV cv t22 [t26_15, t31_33] M_34 fun t32 M_37 =>
 k_36 t32 M_37) (fun k => k .undef M_34) fun t32_38 M_39 =>
 guardK t20 true (fun k_40 => intW .lss t32_38 (N .i64 0) fun t33 =>
 k_40 t33 M_39 none) (fun k => k .undef M_39 none) fun t33_41 M_42 b_43 =>
 pickW t20 t33_41 (Bo false) fun t34 =>
 condW t34 (
 intW .sub (nthD xs_1 0) (N .i64 1) fun t41 =>
 intW .sub (nthD xs_1 0) (N .i64 1) fun t44 =>
 idxS a0 t44 5 fun t45 =>
 loadN M_42 t45 5 fun t46 =>
 idxS a0 (nthD xs_1 0) 5 fun t49 =>
 loadN M_42 t49 5 fun t50 =>
 idxS a0 (nthD xs_1 0) 5 fun t51 =>
 storeW M_42 t51 t46 5 fun M_44 =>
 idxS a0 t41 5 fun t52 =>
 storeW M_44 t52 t50 5 fun M_45 =>
 intW .sub (nthD xs_1 0) (N .i64 1) fun t36 =>
 next_0 [t36] M_45) (
 intW .add (nthD xs 0) (N .i64 1) fun t16 =>
 next [t16] M_42)) [(nthD xs 0)] M) (
 Q (.tup []) M)) [t11] M0
def W_slices_heapSortCmpFunc_rolodex_api_Entry (c_slices_siftDownCmpFunc_rolodex_api_Entry : CallT) (a0 a1 a2 a3 : AV) (M0 : RM) (Q : PostV) : Prop :=
 intW .sub a2 a1 fun t16 =>
 intW .sub t16 (N .i64 1) fun t18 =>
 intW .quo t18 (N .i64 2) fun t19 =>
 loopW (fun next xs M => -- [11]
 intW .geq (nthD xs 0) (N .i64 0) fun t21 =>
 condW t21 (
 c_slices_siftDownCmpFunc_rolodex_api_Entry [a0, (nthD xs 0), t16, a1, a3] M fun t29 M_0 =>
 intW .sub (nthD xs 0) (N .i64 1) fun t23 =>
 next [t23] M_0) (
 intW .sub t16 (N .i64 1) fun t31 =>
 loopW (fun next_1 xs_2 M_3 => -- [12]
 intW .geq (nthD xs_2 0) (N .i64 0) fun t33 =>
 condW t33 (
 intW .add a1 (nthD xs_2 0) fun t41 =>
 intW .add a1 (nthD xs_2 0) fun t45 =>
 idxS a0 t45 5 fun t46 =>
 loadN M_3 t46 5 fun t47 =>
 idxS a0 a1 5 fun t50 =>
 loadN M_3 t50 5 fun t51 =>
 idxS a0 a1 5 fun t52 =>
 storeW M_3 t52 t47 5 fun M_4 =>
 idxS a0 t41 5 fun t53 =>
 storeW M_4 t53 t51 5 fun M_5 =>
 c_slices_siftDownCmpFunc_rolodex_api_Entry [a0, (N .i64 0), (nthD xs_2 0), a1, a3] M_5 fun t59 M_6 =>
 intW .sub (nthD xs_2 0) (N .i64 1) fun t35 =>
 next_1 [t35] M_6) (
 Q (.tup []) M_3)) [t31] M)) [t19] M0
def W_slices_breakPatternsCmpFunc_rolodex_api_Entry (T_slices_xorshift : Nat) (c_slices_nextPowerOfTwo : CallT) (c_slices_xorshift_Next : CallT) (a0 a1 a2 a3 : AV) (M0 : RM) (Q : PostV) : Prop :=
 intW .sub a2 a1 fun t15 =>
 intW .geq t15 (N .i64 8) fun t17 =>
 condW t17 (
 cvtW .u64 t15 fun t19 =>
 newW (.row [(N .u64 0)] false T_slices_xorshift 0) (fun b => .ptr b 0) M0 fun t9 M =>
 storeW M t9 t19 1 fun M_0 =>
 c_slices_nextPowerOfTwo [t15] M_0 fun t21 M_1 =>
 intW .quo t15 (N .i64 4) fun t24 =>
 intW .mul t24 (N .i64 2) fun t25 =>
 intW .add a1 t25 fun t26 =>
 intW .sub t26 (N .i64 1) fun t27 =>
 loopW (fun next xs M_2 => -- [11]
 intW .quo t15 (N .i64 4) fun t31 =>
 intW .mul t31 (N .i64 2) fun t32 =>
 intW .add a1 t32 fun t33 =>
 intW .add t33 (N .i64 1) fun t34 =>
 intW .leq (nthD xs 0) t34 fun t35 =>
 condW t35 (
 joinW (fun J =>
 c_slices_xorshift_Next [t9] M_2 fun t38 M_3 =>
 intW .sub t21 (N .u64 1) fun t40 =>
 intW .and t38 t40 fun t41 =>
 cvtW .i64 t41 fun t42 =>
 joinW (fun J_4 =>
 intW .geq t42 t15 fun t45 =>
 condW t45 (
 intW .sub t42 t15 fun t48 =>
 J_4 [t48] M_3) (
 J_4 [t42] M_3)) (fun xs_5 M_6 => -- [12]
 intW .add a1 (nthD xs_5 0) fun t54 =>
 intW .add a1 (nthD xs_5 0) fun t58 =>
 idxS a0 t58 5 fun t59 =>
 loadN M_6 t59 5 fun t60 =>
 idxS a0 (nthD xs 0) 5 fun t63 =>
 loadN M_6 t63 5 fun t64 =>
 idxS a0 (nthD xs 0) 5 fun t65 =>
 storeW M_6 t65 t60 5 fun M_7 =>
 idxS a0 t54 5 fun t66 =>
 storeW M_7 t66 t64 5 fun M_8 =>
 J [] M_8)) (fun xs_9 M_10 => -- []
 intW .add (nthD xs 0) (N .i64 1) fun t37 =>
 next [t37] M_10)) (
 Q (.tup []) M_2)) [t27] M_1) (
 Q (.tup []) M0)
def W_slices_choosePivotCmpFunc_rolodex_api_Entry (T_int : Nat) (c_slices_medianAdjacentCmpFunc_rolodex_api_Entry : CallT) (c_slices_medianCmpFunc_rolodex_api_Entry : CallT) (a0 a1 a2 a3 : AV) (M0 : RM) (Q : PostV) : Prop :=
 intW .sub a2 a1 fun t17 =>
 newW (.row [(N .i64 0)] false T_int 0) (fun b => .ptr b 0) M0 fun t11 M =>
 intW .quo t17 (N .i64 4) fun t20 =>
 intW .mul t20 (N .i64 1) fun t21 =>
 intW .add a1 t21 fun t22 =>
 intW .quo t17 (N .i64 4) fun t25 =>
 intW .mul t25 (N .i64 2) fun t26 =>
 intW .add a1 t26 fun t27 =>
 intW .quo t17 (N .i64 4) fun t30 =>
 intW .mul t30 (N .i64 3) fun t31 =>
 intW .add a1 t31 fun t32 =>
 joinW (fun J =>
 intW .geq t17 (N .i64 8) fun t34 =>
 condW t34 (
 joinW (fun J_0 =>
 intW .geq t17 (N .i64 50) fun t36 =>
 condW t36 (
 c_slices_medianAdjacentCmpFunc_rolodex_api_Entry [a0, t22, t11, a3] M fun t40 M_1 =>
 c_slices_medianAdjacentCmpFunc_rolodex_api_Entry [a0, t27, t11, a3] M_1 fun t44 M_2 =>
 c_slices_medianAdjacentCmpFunc_rolodex_api_Entry [a0, t32, t11, a3] M_2 fun t48 M_3 =>
 J_0 [t40, t44, t48] M_3) (
 J_0 [t22, t27, t32] M)) (fun xs M_4 => -- [12, 13, 14]
 c_slices_medianCmpFunc_rolodex_api_Entry [a0, (nthD xs 0), (nthD xs 1), (nthD xs 2), t11, a3] M_4 fun t54 M_5 =>
 J [t54] M_5)) (
 J [t27] M)) (fun xs_6 M_7 => -- [13]
 load1 M_7 t11 fun t55 =>
 intW .eql t55 (N .i64 0) fun t58 =>
 condW t58 (
 Q (.tup [(nthD xs_6 0), (N .i64 1)]) M_7) (
 intW .eql t55 (N .i64 12) fun t61 =>
 condW t61 (
 Q (.tup [(nthD xs_6 0), (N .i64 2)]) M_7) (
 Q (.tup [(nthD xs_6 0), (N .i64 0)]) M_7)))
def W_slices_reverseRangeCmpFunc_rolodex_api_Entry (a0 a1 a2 a3 : AV) (M0 : RM) (Q : PostV) : Prop :=
 intW .sub a2 (N .i64 1) fun t12 =>
 loopW (fun next xs M => -- [8, 9]
 intW .lss (nthD xs 0) (nthD xs 1) fun t15 =>
 condW t15 (
 idxS a0 (nthD xs 1) 5 fun t22 =>
 loadN M t22 5 fun t23 =>
 idxS a0 (nthD xs 0) 5 fun t26 =>
 loadN M t26 5 fun t27 =>
 idxS a0 (nthD xs 0) 5 fun t28 =>
 storeW M t28 t23 5 fun M_0 =>
 idxS a0 (nthD xs 1) 5 fun t29 =>
 storeW M_0 t29 t27 5 fun M_1 =>
 intW .add (nthD xs 0) (N .i64 1) fun t31 =>
 intW .sub (nthD xs 1) (N .i64 1) fun t33 =>
 next [t31, t33] M_1) (
 Q (.tup []) M)) [a1, t12] M0
def W_slices_partialInsertionSortCmpFunc_rolodex_api_Entry (cv : (FuncId → CallT)) (a0 a1 a2 a3 : AV) (M0 : RM) (Q : PostV) : Prop :=
 intW .add a1 (N .i64 1) fun t14 =>
 loopW (fun next xs M => -- [9, 10]
 intW .lss (nthD xs 1) (N .i64 5) fun t16 =>
 condW t16 (
 joinW (fun J =>
 loopW (fun next_0 xs_1 M_2 => -- [9]
 intW .lss (nthD xs_1 0) a2 fun t21 =>
 guardK t21 true (fun k => k a3 M_2 none) (fun k => k .undef M_2 none) fun t23 M_3 b =>
 guardK t21 true (fun k_4 => k_4 a0 M_3 none) (fun k => k .undef M_3 none) fun t24 M_5 b_6 =>
 guardK t21 true (fun k_7 => k_7 (nthD xs_1 0) M_5 none) (fun k => k .undef M_5 none) fun t25 M_8 b_9 =>
 guardK t21 true (fun k_10 => idxS t24 t25 5 fun t26 =>
 k_10 t26 M_8 none) (fun k => k .undef M_8 none) fun t26_11 M_12 b_13 =>
 guardK t21 true (fun k_14 => loadN M_12 t26_11 5 fun t27 =>
 k_14 t27 M_12 none) (fun k => k .undef M_12 none) fun t27_15 M_16 b_17 =>
 guardK t21 true (fun k_18 => k_18 a0 M_16 none) (fun k => k .undef M_16 none) fun t28 M_19 b_20 =>
 guardK t21 true (fun k_21 => k_21 (nthD xs_1 0) M_19 none) (fun k => k .undef M_19 none) fun t29 M_22 b_23 =>
 guardK t21 true (fun k_24 => intW .sub t29 (N .i64 1) fun t30 =>
 k_24 t30 M_22 none) (fun k => k .undef M_22 none) fun t30_25 M_26 b_27 =>
 guardK t21 true (fun k_28 => idxS t28 t30_25 5 fun t31 =>
 k_28 t31 M_26 none) (fun k => k .undef M_26 none) fun t31_29 M_30 b_31 =>
 guardK t21 true (fun k_32 => loadN M_30 t31_29 5 fun t32 =>
 k_32 t32 M_30 none) (fun k => k .undef M_30 none) fun t32_33 M_34 b_35 =>
 guardM t21 true (fun k_36 => callV cv t23 [t27_15, t32_33] M_34 fun t33 M_37 =>
 k_36 t33 M_37) (fun k => k .undef M_34) fun t33_38 M_39 =>
 guardK t21 true (fun k_40 => intW .lss t33_38 (N .i64 0) fun t34 =>
 k_40 t34 M_39 none) (fun k => k .undef M_39 none) fun t34_41 M_42 b_43 =>
 guardK t21 true (fun k_44 => notW t34_41 fun t35 =>
 k_44 t35 M_42 none) (fun k => k .undef M_42 none) fun t35_45 M_46 b_47 =>
 pickW t21 t35_45 (Bo false) fun t36 =>
 condW t36 (
 intW .add (nthD xs_1 0) (N .i64 1) fun t38 =>
 next_0 [t38] M_46) (
 intW .eql (nthD xs_1 0) a2 fun t41 =>
 condW t41 (
 Q (Bo true) M_46) (
 intW .sub a2 a1 fun t44 =>
 intW .lss t44 (N .i64 50) fun t45 =>
 condW t45 (
 Q (Bo false) M_46) (
 intW .sub (nthD xs_1 0) (N .i64 1) fun t50 =>
 intW .sub (nthD xs_1 0) (N .i64 1) fun t53 =>
 idxS a0 t53 5 fun t54 =>
 loadN M_46 t54 5 fun t55 =>
 idxS a0 (nthD xs_1 0) 5 fun t58 =>
 loadN M_46 t58 5 fun t59 =>
 idxS a0 (nthD xs_1 0) 5 fun t60 =>
 storeW M_46 t60 t55 5 fun M_48 =>
 idxS a0 t50 5 fun t61 =>
 storeW M_48 t61 t59 5 fun M_49 =>
 joinW (fun J_50 =>
 intW .sub (nthD xs_1 0) a1 fun t64 =>
 intW .geq t64 (N .i64 2) fun t65 =>
 condW t65 (
 intW .sub (nthD xs_1 0) (N .i64 1) fun t67 =>
 loopW (fun next_51 xs_52 M_53 => -- [11]
 intW .geq (nthD xs_52 0) (N .i64 1) fun t69 =>
 condW t69 (
 idxS a0 (nthD xs_52 0) 5 fun t75 =>
 loadN M_53 t75 5 fun t76 =>
 intW .sub (nthD xs_52 0) (N .i64 1) fun t79 =>
 idxS a0 t79 5 fun t80 =>
 loadN M_53 t80 5 fun t81 =>
 callV cv a3 [t76, t81] M_53 fun t82 M_54 =>
 intW .lss t82 (N .i64 0) fun t83 =>
 notW t83 fun t84 =>
 condW t84 (
 J_50 [] M_54) (
 intW .sub (nthD xs_52 0) (N .i64 1) fun t89 =>
 intW .sub (nthD xs_52 0) (N .i64 1) fun t92 =>
 idxS a0 t92 5 fun t93 =>
 loadN M_54 t93 5 fun t94 =>
 idxS a0 (nthD xs_52 0) 5 fun t97 =>
 loadN M_54 t97 5 fun t98 =>
 idxS a0 (nthD xs_52 0) 5 fun t99 =>
 storeW M_54 t99 t94 5 fun M_55 =>
 idxS a0 t89 5 fun t100 =>
 storeW M_55 t100 t98 5 fun M_56 =>
 intW .sub (nthD xs_52 0) (N .i64 1) fun t71 =>
 next_51 [t71] M_56)) (
 J_50 [] M_53)) [t67] M_49) (
 J_50 [] M_49)) (fun xs_57 M_58 => -- []
 intW .sub a2 (nthD xs_1 0) fun t103 =>
 intW .geq t103 (N .i64 2) fun t104 =>
 condW t104 (
 intW .add (nthD xs_1 0) (N .i64 1) fun t106 =>
 loopW (fun next_59 xs_60 M_61 => -- [12]
 intW .lss (nthD xs_60 0) a2 fun t109 =>
 condW t109 (
 idxS a0 (nthD xs_60 0) 5 fun t115 =>
 loadN M_61 t115 5 fun t116 =>
 intW .sub (nthD xs_60 0) (N .i64 1) fun t119 =>
 idxS a0 t119 5 fun t120 =>
 loadN M_61 t120 5 fun t121 =>
 callV cv a3 [t116, t121] M_61 fun t122 M_62 =>
 intW .lss t122 (N .i64 0) fun t123 =>
 notW t123 fun t124 =>
 condW t124 (
 J [(nthD xs_1 0)] M_62) (
 intW .sub (nthD xs_60 0) (N .i64 1) fun t129 =>
 intW .sub (nthD xs_60 0) (N .i64 1) fun t132 =>
 idxS a0 t132 5 fun t133 =>
 loadN M_62 t133 5 fun t134 =>
 idxS a0 (nthD xs_60 0) 5 fun t137 =>
 loadN M_62 t137 5 fun t138 =>
 idxS a0 (nthD xs_60 0) 5 fun t139 =>
 storeW M_62 t139 t134 5 fun M_63 =>
 idxS a0 t129 5 fun t140 =>
 storeW M_63 t140 t138 5 fun M_64 =>
 intW .add (nthD xs_60 0) (N .i64 1) fun t111 =>
 next_59 [t111] M_64)) (
 J [(nthD xs_1 0)] M_61)) [t106] M_58) (
 J [(nthD xs_1 0)] M_58)))))) [(nthD xs 0)] M) (fun xs_65 M_66 => -- [9]
 intW .add (nthD xs 1) (N .i64 1) fun t18 =>
 next [(nthD xs_65 0), t18] M_66)) (
 Q (Bo false) M)) [t14, (N .i64 0)] M0
def W_slices_partitionEqualCmpFunc_rolodex_api_Entry (cv : (FuncId → CallT)) (a0 a1 a2 a3 a4 : AV) (M0 : RM) (Q : PostV) : Prop :=
 idxS a0 a3 5 fun t19 =>
 loadN M0 t19 5 fun t20 =>
 idxS a0 a1 5 fun t23 =>
 loadN M0 t23 5 fun t24 =>
 idxS a0 a1 5 fun t25 =>
 storeW M0 t25 t20 5 fun M =>
 idxS a0 a3 5 fun t26 =>
 storeW M t26 t24 5 fun M_0 =>
 intW .add a1 (N .i64 1) fun t28 =>
 intW .sub a2 (N .i64 1) fun t30 =>
 loopW (fun next xs M_1 => -- [11, 12]
 loopW (fun next_2 xs_3 M_4 => -- [11]
 intW .leq (nthD xs_3 0) (nthD xs 1) fun t33 =>
 guardK t33 true (fun k => k a4 M_4 none) (fun k => k .undef M_4 none) fun t35 M_5 b =>
 guardK t33 true (fun k_6 => k_6 a0 M_5 none) (fun k => k .undef M_5 none) fun t36 M_7 b_8 =>
 guardK t33 true (fun k_9 => k_9 a1 M_7 none) (fun k => k .undef M_7 none) fun t37 M_10 b_11 =>
 guardK t33 true (fun k_12 => idxS t36 t37 5 fun t38 =>
 k_12 t38 M_10 none) (fun k => k .undef M_10 none) fun t38_13 M_14 b_15 =>
 guardK t33 true (fun k_16 => loadN M_14 t38_13 5 fun t39 =>
 k_16 t39 M_14 none) (fun k => k .undef M_14 none) fun t39_17 M_18 b_19 =>
 guardK t33 true (fun k_20 => k_20 a0 M_18 none) (fun k => k .undef M_18 none) fun t40 M_21 b_22 =>
 guardK t33 true (fun k_23 => k_23 (nthD xs_3 0) M_21 none) (fun k => k .undef M_21 none) fun t41 M_24 b_25 =>
 guardK t33 true (fun k_26 => idxS t40 t41 5 fun t42 =>
 k_26 t42 M_24 none) (fun k => k .undef M_24 none) fun t42_27 M_28 b_29 =>
 guardK t33 true (fun k_30 => loadN M_28 t42_27 5 fun t43 =>
 k_30 t43 M_28 none) (fun k => k .undef M_28 none) fun t43_31 M_32 b_33 =>
 guardM t33 true (fun k_34 => callV cv t35 [t39_17, t43_31] M_32 fun t44 M_35 =>
 k_34 t44 M_35) (fun k => k .undef M_32) fun t44_36 M_37 =>
 guardK t33 true (fun k_38 => intW .lss t44_36 (N .i64 0) fun t45 =>
 k_38 t45 M_37 none) (fun k => k .undef M_37 none) fun t45_39 M_40 b_41 =>
 guardK t33 true (fun k_42 => notW t45_39 fun t46 =>
 k_42 t46 M_40 none) (fun k => k .undef M_40 none) fun t46_43 M_44 b_45 =>
 pickW t33 t46_43 (Bo false) fun t47 =>
 condW t47 (
 intW .add (nthD xs_3 0) (N .i64 1) fun t49 =>
 next_2 [t49] M_44) (
 loopW (fun next_46 xs_47 M_48 => -- [12]
 intW .leq (nthD xs_3 0) (nthD xs_47 0) fun t52 =>
 guardK t52 true (fun k_49 => k_49 a4 M_48 none) (fun k => k .undef M_48 none) fun t54 M_50 b_51 =>
 guardK t52 true (fun k_52 => k_52 a0 M_50 none) (fun k => k .undef M_50 none) fun t55 M_53 b_54 =>
 guardK t52 true (fun k_55 => k_55 a1 M_53 none) (fun k => k .undef M_53 none) fun t56 M_56 b_57 =>
 guardK t52 true (fun k_58 => idxS t55 t56 5 fun t57 =>
 k_58 t57 M_56 none) (fun k => k .undef M_56 none) fun t57_59 M_60 b_61 =>
 guardK t52 true (fun k_62 => loadN M_60 t57_59 5 fun t58 =>
 k_62 t58 M_60 none) (fun k => k .undef M_60 none) fun t58_63 M_64 b_65 =>
 guardK t52 true (fun k_66 => k_66 a0 M_64 none) (fun k => k .undef M_64 none) fun t59 M_67 b_68 =>
 guardK t52 true (fun k_69 => k_69 (nthD xs_47 0) M_67 none) (fun k => k .undef M_67 none) fun t60 M_70 b_71 =>
 guardK t52 true (fun k_72 => idxS t59 t60 5 fun t61 =>
 k_72 t61 M_70 none) (fun k => k .undef M_70 none) fun t61_73 M_74 b_75 =>
 guardK t52 true (fun k_76 => loadN M_74 t61_73 5 fun t62 =>
 k_76 t62 M_74 none) (fun k => k .undef M_74 none) fun t62_77 M_78 b_79 =>
 guardM t52 true (fun k_80 => callV cv t54 [t58_63, t62_77] M_78 fun t63 M_81 =>
 k_80 t63 M_81) (fun k => k .undef M_78) fun t63_82 M_83 =>
 guardK t52 true (fun k_84 => intW .lss t63_82 (N .i64 0) fun t64 =>
 k_84 t64 M_83 none) (fun k => k .undef M_83 none) fun t64_85 M_86 b_87 =>
 pickW t52 t64_85 (Bo false) fun t65 =>
 condW t65 (
 intW .sub (nthD xs_47 0) (N .i64 1) fun t67 =>
 next_46 [t67] M_86) (
 intW .gtr (nthD xs_3 0) (nthD xs_47 0) fun t70 =>
 condW t70 (
 Q (nthD xs_3 0) M_86) (
 idxS a0 (nthD xs_47 0) 5 fun t77 =>
 loadN M_86 t77 5 fun t78 =>
 idxS a0 (nthD xs_3 0) 5 fun t81 =>
 loadN M_86 t81 5 fun t82 =>
 idxS a0 (nthD xs_3 0) 5 fun t83 =>
 storeW M_86 t83 t78 5 fun M_88 =>
 idxS a0 (nthD xs_47 0) 5 fun t84 =>
 storeW M_88 t84 t82 5 fun M_89 =>
 intW .add (nthD xs_3 0) (N .i64 1) fun t86 =>
 intW .sub (nthD xs_47 0) (N .i64 1) fun t88 =>
 next [t86, t88] M_89))) [(nthD xs 1)] M_44)) [(nthD xs 0)] M_1) [t28, t30] M_0
def W_slices_partitionCmpFunc_rolodex_api_Entry (cv : (FuncId → CallT)) (a0 a1 a2 a3 a4 : AV) (M0 : RM) (Q : PostV) : Prop :=
 idxS a0 a3 5 fun t20 =>
 loadN M0 t20 5 fun t21 =>
 idxS a0 a1 5 fun t24 =>
 loadN M0 t24 5 fun t25 =>
 idxS a0 a1 5 fun t26 =>
 storeW M0 t26 t21 5 fun M =>
 idxS a0 a3 5 fun t27 =>
 storeW M t27 t25 5 fun M_0 =>
 intW .add a1 (N .i64 1) fun t29 =>
 intW .sub a2 (N .i64 1) fun t31 =>
 loopW (fun next xs M_1 => -- [12]
 intW .leq (nthD xs 0) t31 fun t34 =>
 guardK t34 true (fun k => k a4 M_1 none) (fun k => k .undef M_1 none) fun t36 M_2 b =>
 guardK t34 true (fun k_3 => k_3 a0 M_2 none) (fun k => k .undef M_2 none) fun t37 M_4 b_5 =>
 guardK t34 true (fun k_6 => k_6 (nthD xs 0) M_4 none) (fun k => k .undef M_4 none) fun t38 M_7 b_8 =>
 guardK t34 true (fun k_9 => idxS t37 t38 5 fun t39 =>
 k_9 t39 M_7 none) (fun k => k .undef M_7 none) fun t39_10 M_11 b_12 =>
 guardK t34 true (fun k_13 => loadN M_11 t39_10 5 fun t40 =>
 k_13 t40 M_11 none) (fun k => k .undef M_11 none) fun t40_14 M_15 b_16 =>
 guardK t34 true (fun k_17 => k_17 a0 M_15 none) (fun k => k .undef M_15 none) fun t41 M_18 b_19 =>
 guardK t34 true (fun k_20 => k_20 a1 M_18 none) (fun k => k .undef M_18 none) fun t42 M_21 b_22 =>
 guardK t34 true (fun k_23 => idxS t41 t42 5 fun t43 =>
 k_23 t43 M_21 none) (fun k => k .undef M_21 none) fun t43_24 M_25 b_26 =>
 guardK t34 true (fun k_27 => loadN M_25 t43_24 5 fun t44 =>
 k_27 t44 M_25 none) (fun k => k .undef M_25 none) fun t44_28 M_29 b_30 =>
 guardM t34 true (fun k_31 => callV cv t36 [t40_14, t44_28] M_29 fun t45 M_32 =>
 k_31 t45 M_32) (fun k => k .undef M_29) fun t45_33 M_34 =>
 guardK t34 true (fun k_35 => intW .lss t45_33 (N .i64 0) fun t46 =>
 k_35 t46 M_34 none) (fun k => k .undef M_34 none) fun t46_36 M_37 b_38 =>
 pickW t34 t46_36 (Bo false) fun t47 =>
 condW t47 (
 intW .add (nthD xs 0) (N .i64 1) fun t49 =>
 next [t49] M_37) (
 loopW (fun next_39 xs_40 M_41 => -- [13]
 intW .leq (nthD xs 0) (nthD xs_40 0) fun t52 =>
 guardK t52 true (fun k_42 => k_42 a4 M_41 none) (fun k => k .undef M_41 none) fun t54 M_43 b_44 =>
 guardK t52 true (fun k_45 => k_45 a0 M_43 none) (fun k => k .undef M_43 none) fun t55 M_46 b_47 =>
 guardK t52 true (fun k_48 => k_48 (nthD xs_40 0) M_46 none) (fun k => k .undef M_46 none) fun t56 M_49 b_50 =>
 guardK t52 true (fun k_51 => idxS t55 t56 5 fun t57 =>
 k_51 t57 M_49 none) (fun k => k .undef M_49 none) fun t57_52 M_53 b_54 =>
 guardK t52 true (fun k_55 => loadN M_53 t57_52 5 fun t58 =>
 k_55 t58 M_53 none) (fun k => k .undef M_53 none) fun t58_56 M_57 b_58 =>
 guardK t52 true (fun k_59 => k_59 a0 M_57 none) (fun k => k .undef M_57 none) fun t59 M_60 b_61 =>
 guardK t52 true (fun k_62 => k_62 a1 M_60 none) (fun k => k .undef M_60 none) fun t60 M_63 b_64 =>
 guardK t52 true (fun k_65 => idxS t59 t60 5 fun t61 =>
 k_65 t61 M_63 none) (fun k => k .undef M_63 none) fun t61_66 M_67 b_68 =>
 guardK t52 true (fun k_69 => loadN M_67 t61_66 5 fun t62 =>
 k_69 t62 M_67 none) (fun k => k .undef M_67 none) fun t62_70 M_71 b_72 =>
 guardM t52 true (fun k_73 => callV cv t54 [t58_56, t62_70] M_71 fun t63 M_74 =>
 k_73 t63 M_74) (fun k => k .undef M_71) fun t63_75 M_76 =>
 guardK t52 true (fun k_77 => intW .lss t63_75 (N .i64 0) fun t64 =>
 k_77 t64 M_76 none) (fun k => k .undef M_76 none) fun t64_78 M_79 b_80 =>
 guardK t52 true (fun k_81 => notW t64_78 fun t65 =>
 k_81 t65 M_79 none) (fun k => k .undef M_79 none) fun t65_82 M_83 b_84 =>
 pickW t52 t65_82 (Bo false) fun t66 =>
 condW t66 (
 intW .sub (nthD xs_40 0) (N .i64 1) fun t68 =>
 next_39 [t68] M_83) (
 intW .gtr (nthD xs 0) (nthD xs_40 0) fun t71 =>
 condW t71 (
 idxS a0 a1 5 fun t78 =>
 loadN M_83 t78 5 fun t79 =>
 idxS a0 (nthD xs_40 0) 5 fun t82 =>
 loadN M_83 t82 5 fun t83 =>
 idxS a0 (nthD xs_40 0) 5 fun t84 =>
 storeW M_83 t84 t79 5 fun M_85 =>
 idxS a0 a1 5 fun t85 =>
 storeW M_85 t85 t83 5 fun M_86 =>
 Q (.tup [(nthD xs_40 0), (Bo true)]) M_86) (
 idxS a0 (nthD xs_40 0) 5 fun t93 =>
 loadN M_83 t93 5 fun t94 =>
 idxS a0 (nthD xs 0) 5 fun t97 =>
 loadN M_83 t97 5 fun t98 =>
 idxS a0 (nthD xs 0) 5 fun t99 =>
 storeW M_83 t99 t94 5 fun M_87 =>
 idxS a0 (nthD xs_40 0) 5 fun t100 =>
 storeW M_87 t100 t98 5 fun M_88 =>
 intW .add (nthD xs 0) (N .i64 1) fun t102 =>
 intW .sub (nthD xs_40 0) (N .i64 1) fun t104 =>
 loopW (fun next_89 xs_90 M_91 => -- [12, 13]
 loopW (fun next_92 xs_93 M_94 => -- [12]
 intW .leq (nthD xs_93 0) (nthD xs_90 1) fun t107 =>
 guardK t107 true (fun k_95 => k_95 a4 M_94 none) (fun k => k .undef M_94 none) fun t109 M_96 b_97 =>
 guardK t107 true (fun k_98 => k_98 a0 M_96 none) (fun k => k .undef M_96 none) fun t110 M_99 b_100 =>
 guardK t107 true (fun k_101 => k_101 (nthD xs_93 0) M_99 none) (fun k => k .undef M_99 none) fun t111 M_102 b_103 =>
 guardK t107 true (fun k_104 => idxS t110 t111 5 fun t112 =>
 k_104 t112 M_102 none) (fun k => k .undef M_102 none) fun t112_105 M_106 b_107 =>
 guardK t107 true (fun k_108 => loadN M_106 t112_105 5 fun t113 =>
 k_108 t113 M_106 none) (fun k => k .undef M_106 none) fun t113_109 M_110 b_111 =>
 guardK t107 true (fun k_112 => k_112 a0 M_110 none) (fun k => k .undef M_110 none) fun t114 M_113 b_114 =>
 guardK t107 true (fun k_115 => k_115 a1 M_113 none) (fun k => k .undef M_113 none) fun t115 M_116 b_117 =>
 guardK t107 true (fun k_118 => idxS t114 t115 5 fun t116 =>
 k_118 t116 M_116 none) (fun k => k .undef M_116 none) fun t116_119 M_120 b_121 =>
 guardK t107 true (fun k_122 => loadN M_120 t116_119 5 fun t117 =>
 k_122 t117 M_120 none) (fun k => k .undef M_120 none) fun t117_123 M_124 b_125 =>
 guardM t107 true (fun k_126 => callV cv t109 [t113_109, t117_123] M_124 fun t118 M_127 =>
 k_126 t118 M_127) (fun k => k .undef M_124) fun t118_128 M_129 =>
 guardK t107 true (fun k_130 => intW .lss t118_128 (N .i64 0) fun t119 =>
 k_130 t119 M_129 none) (fun k => k .undef M_129 none) fun t119_131 M_132 b_133 =>
 pickW t107 t119_131 (Bo false) fun t120 =>
 condW t120 (
 intW .add (nthD xs_93 0) (N .i64 1) fun t122 =>
 next_92 [t122] M_132) (
 loopW (fun next_134 xs_135 M_136 => -- [13]
 intW .leq (nthD xs_93 0) (nthD xs_135 0) fun t125 =>
 guardK t125 true (fun k_137 => k_137 a4 M_136 none) (fun k => k .undef M_136 none) fun t127 M_138 b_139 =>
 guardK t125 true (fun k_140 => k_140 a0 M_138 none) (fun k => k .undef M_138 none) fun t128 M_141 b_142 =>
 guardK t125 true (fun k_143 => k_143 (nthD xs_135 0) M_141 none) (fun k => k .undef M_141 none) fun t129 M_144 b_145 =>
 guardK t125 true (fun k_146 => idxS t128 t129 5 fun t130 =>
 k_146 t130 M_144 none) (fun k => k .undef M_144 none) fun t130_147 M_148 b_149 =>
 guardK t125 true (fun k_150 => loadN M_148 t130_147 5 fun t131 =>
 k_150 t131 M_148 none) (fun k => k .undef M_148 none) fun t131_151 M_152 b_153 =>
 guardK t125 true (fun k_154 => k_154 a0 M_152 none) (fun k => k .undef M_152 none) fun t132 M_155 b_156 =>
 guardK t125 true (fun k_157 => k_157 a1 M_155 none) (fun k => k .undef M_155 none) fun t133 M_158 b_159 =>
 guardK t125 true (fun k_160 => idxS t132 t133 5 fun t134 =>
 k_160 t134 M_158 none) (fun k => k .undef M_158 none) fun t134_161 M_162 b_163 =>
 guardK t125 true (fun k_164 => loadN M_162 t134_161 5 fun t135 =>
 k_164 t135 M_162 none) (fun k => k .undef M_162 none) fun t135_165 M_166 b_167 =>
 guardM t125 true (fun k_168 => callV cv t127 [t131_151, t135_165] M_166 fun t136 M_169 =>
 k_168 t136 M_169) (fun k => k .undef M_166) fun t136_170 M_171 =>
 guardK t125 true (fun k_172 => intW .lss t136_170 (N .i64 0) fun t137 =>
 k_172 t137 M_171 none) (fun k => k .undef M_171 none) fun t137_173 M_174 b_175 =>
 guardK t125 true (fun k_176 => notW t137_173 fun t138 =>
 k_176 t138 M_174 none) (fun k => k .undef M_174 none) fun t138_177 M_178 b_179 =>
 pickW t125 t138_177 (Bo false) fun t139 =>
 condW t139 (
 intW .sub (nthD xs_135 0) (N .i64 1) fun t141 =>
 next_134 [t141] M_178) (
 intW .gtr (nthD xs_93 0) (nthD xs_135 0) fun t144 =>
 condW t144 (
 idxS a0 a1 5 fun t169 =>
 loadN M_178 t169 5 fun t170 =>
 idxS a0 (nthD xs_135 0) 5 fun t173 =>
 loadN M_178 t173 5 fun t174 =>
 idxS a0 (nthD xs_135 0) 5 fun t175 =>
 storeW M_178 t175 t170 5 fun M_180 =>
 idxS a0 a1 5 fun t176 =>
 storeW M_180 t176 t174 5 fun M_181 =>
 Q (.tup [(nthD xs_135 0), (Bo false)]) M_181) (
 idxS a0 (nthD xs_135 0) 5 fun t151 =>
 loadN M_178 t151 5 fun t152 =>
 idxS a0 (nthD xs_93 0) 5 fun t155 =>
 loadN M_178 t155 5 fun t156 =>
 idxS a0 (nthD xs_93 0) 5 fun t157 =>
 storeW M_178 t157 t152 5 fun M_182 =>
 idxS a0 (nthD xs_135 0) 5 fun t158 =>
 storeW M_182 t158 t156 5 fun M_183 =>
 intW .add (nthD xs_93 0) (N .i64 1) fun t160 =>
 intW .sub (nthD xs_135 0) (N .i64 1) fun t162 =>
 next_89 [t160, t162] M_183))) [(nthD xs_90 1)] M_132)) [(nthD xs_90 0)] M_91) [t102, t104] M_88))) [t31] M_37)) [t29] M_0
def W_cmp_isNaN_string (a0 : AV) (M0 : RM) (Q : PostV) : Prop :=
 strW .neq a0 a0 fun t5 =>
 Q t5 M0
def W_cmp_isNaN_int (a0 : AV) (M0 : RM) (Q : PostV) : Prop :=
 intW .neq a0 a0 fun t5 =>
 Q t5 M0
def W_slices_siftDownCmpFunc_rolodex_api_Entry (cv : (FuncId → CallT)) (a0 a1 a2 a3 a4 : AV) (M0 : RM) (Q : PostV) : Prop :=
 loopW (fun next xs M => -- [10]
 intW .mul (N .i64 2) (nthD xs 0) fun t14 =>
 intW .add t14 (N .i64 1) fun t15 =>
 intW .geq t15 a2 fun t18 =>
 condW t18 (
 Q (.tup []) M) (
 joinW (fun J =>
 intW .add t15 (N .i64 1) fun t20 =>
 intW .lss t20 a2 fun t22 =>
 guardK t22 true (fun k => k a4 M none) (fun k => k .undef M none) fun t24 M_0 b =>
 guardK t22 true (fun k_1 => k_1 a0 M_0 none) (fun k => k .undef M_0 none) fun t25 M_2 b_3 =>
 guardK t22 true (fun k_4 => k_4 a3 M_2 none) (fun k => k .undef M_2 none) fun t26 M_5 b_6 =>
 guardK t22 true (fun k_7 => k_7 t15 M_5 none) (fun k => k .undef M_5 none) fun t27 M_8 b_9 =>
 guardK t22 true (fun k_10 => intW .add t26 t27 fun t28 =>
 k_10 t28 M_8 none) (fun k => k .undef M_8 none) fun t28_11 M_12 b_13 =>
 guardK t22 true (fun k_14 => idxS t25 t28_11 5 fun t29 =>
 k_14 t29 M_12 none) (fun k => k .undef M_12 none) fun t29_15 M_16 b_17 =>
 guardK t22 true (fun k_18 => loadN M_16 t29_15 5 fun t30 =>
 k_18 t30 M_16 none) (fun k => k .undef M_16 none) fun t30_19 M_20 b_21 =>
 guardK t22 true (fun k_22 => k_22 a0 M_20 none) (fun k => k .undef M_20 none) fun t31 M_23 b_24 =>
 guardK t22 true (fun k_25 => k_25 a3 M_23 none) (fun k => k .undef M_23 none) fun t32 M_26 b_27 =>
 guardK t22 true (fun k_28 => k_28 t15 M_26 none) (fun k => k .undef M_26 none) fun t33 M_29 b_30 =>
 guardK t22 true (fun k_31 => intW .add t32 t33 fun t34 =>
 k_31 t34 M_29 none) (fun k => k .undef M_29 none) fun t34_32 M_33 b_34 =>
 guardK t22 true (fun k_35 => intW .add t34_32 (N .i64 1) fun t35 =>
 k_35 t35 M_33 none) (fun k => k .undef M_33 none) fun t35_36 M_37 b_38 =>
 guardK t22 true (fun k_39 => idxS t31 t35_36 5 fun t36 =>
 k_39 t36 M_37 none) (fun k => k .undef M_37 none) fun t36_40 M_41 b_42 =>
 guardK t22 true (fun k_43 => loadN M_41 t36_40 5 fun t37 =>
 k_43 t37 M_41 none) (fun k => k .undef M_41 none) fun t37_44 M_45 b_46 =>
 guardM t22 true (fun k_47 => callV cv t24 [t30_19, t37_44] M_45 fun t38 M_48 =>
 k_47 t38 M_48) (fun k => k .undef M_45) fun t38_49 M_50 =>
 guardK t22 true (fun k_51 => intW .lss t38_49 (N .i64 0) fun t39 =>
 k_51 t39 M_50 none) (fun k => k .undef M_50 none) fun t39_52 M_53 b_54 =>
 pickW t22 t39_52 (Bo false) fun t40 =>
 condW t40 (
 intW .add t15 (N .i64 1) fun t42 =>
 J [t42] M_53) (
 J [t15] M_53)) (fun xs_55 M_56 => -- [11]
 intW .add a3 (nthD xs 0) fun t47 =>
 idxS a0 t47 5 fun t48 =>
 loadN M_56 t48 5 fun t49 =>
 intW .add a3 (nthD xs_55 0) fun t53 =>
 idxS a0 t53 5 fun t54 =>
 loadN M_56 t54 5 fun t55 =>
 callV cv a4 [t49, t55] M_56 fun t56 M_57 =>
 intW .lss t56 (N .i64 0) fun t57 =>
 notW t57 fun t58 =>
 condW t58 (
 Q (.tup []) M_57) (
 intW .add a3 (nthD xs 0) fun t62 =>
 intW .add a3 (nthD xs_55 0) fun t66 =>
 intW .add a3 (nthD xs_55 0) fun t70 =>
 idxS a0 t70 5 fun t71 =>
 loadN M_57 t71 5 fun t72 =>
 intW .add a3 (nthD xs 0) fun t76 =>
 idxS a0 t76 5 fun t77 =>
 loadN M_57 t77 5 fun t78 =>
 idxS a0 t62 5 fun t79 =>
 storeW M_57 t79 t72 5 fun M_58 =>
 idxS a0 t66 5 fun t80 =>
 storeW M_58 t80 t78 5 fun M_59 =>
 next [(nthD xs_55 0)] M_59)))) [a1] M0
def W_slices_medianAdjacentCmpFunc_rolodex_api_Entry (c_slices_medianCmpFunc_rolodex_api_Entry : CallT) (a0 a1 a2 a3 : AV) (M0 : RM) (Q : PostV) : Prop :=
 intW .sub a1 (N .i64 1) fun t11 =>
 intW .add a1 (N .i64 1) fun t14 =>
 c_slices_medianCmpFunc_rolodex_api_Entry [a0, t11, a1, t14, a2, a3] M0 fun t17 M =>
 Q t17 M
def W_slices_medianCmpFunc_rolodex_api_Entry (c_slices_order2CmpFunc_rolodex_api_Entry : CallT) (a0 a1 a2 a3 a4 a5 : AV) (M0 : RM) (Q : PostV) : Prop :=
 c_slices_order2CmpFunc_rolodex_api_Entry [a0, a1, a2, a4, a5] M0 fun t19 M =>
 extW t19 0 fun t20 =>
 extW t19 1 fun t21 =>
 c_slices_order2CmpFunc_rolodex_api_Entry [a0, t21, a3, a4, a5] M fun t28 M_0 =>
 extW t28 0 fun t29 =>
 extW t28 1 fun t30 =>
 c_slices_order2CmpFunc_rolodex_api_Entry [a0, t20, t29, a4, a5] M_0 fun t37 M_1 =>
 extW t37 0 fun t38 =>
 extW t37 1 fun t39 =>
 Q t39 M_1
def W_slices_order2CmpFunc_rolodex_api_Entry (cv : (FuncId → CallT)) (a0 a1 a2 a3 a4 : AV) (M0 : RM) (Q : PostV) : Prop :=
 idxS a0 a2 5 fun t15 =>
 loadN M0 t15 5 fun t16 =>
 idxS a0 a1 5 fun t19 =>
 loadN M0 t19 5 fun t20 =>
 callV cv a4 [t16, t20] M0 fun t21 M =>
 intW .lss t21 (N .i64 0) fun t22 =>
 condW t22 (
 ptrW a3 fun t24 =>
 load1 M t24 fun t25 =>
 intW .add t25 (N .i64 1) fun t26 =>
 ptrW a3 fun t27 =>
 storeW M t27 t26 1 fun M_0 =>
 Q (.tup [a2, a1]) M_0) (
 Q (.tup [a1, a2]) M)
end Go.Ab.Crw
