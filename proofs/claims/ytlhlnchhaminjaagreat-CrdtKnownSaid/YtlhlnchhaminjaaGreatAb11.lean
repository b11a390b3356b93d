/- Operations with effects are sound. By an AI agent. -/
import Derived.Test.YtlhlnchhaminjaaGreatAb10
import Derived.Lib.Overlaps
set_option linter.unusedVariables false
set_option linter.unusedSimpArgs false
namespace Go.Ab
open Go Go.RowKit

section
variable {P : Program} {X : Ext} {base : Nat} {ρ : Ren} {A : AW} {w : World} {o : Oper} {e : Operand → AV} {c : Operand → Value}

/-- What comes behind an operation with an effect. -/
def Does (P : Program) (base : Nat) (ρ : Ren) (A : AW) (w : World) (o : Oper) (c : Operand → Value) (r : ONext) (A' : AW) : Prop :=
  ∃ ρ' w', Step base A.next ρ w ρ' w' ∧ WRel P base ρ' A' w' ∧ A.next ≤ A'.next ∧
    match r with
    | .value v => ∃ v', (execOp c o).run P w = .ok (.value v') w' ∧ VRel ρ' v v'
    | .skip => (execOp c o).run P w = .ok .skip w'
    | .enter f args => ∃ us : List Value, (execOp c o).run P w = .ok (.enter f ⟨us⟩) w' ∧ LRel ρ' args us

theorem DoesV.does {run : World → Result Value} {v : AV} {A' : AW} (h : DoesV P base ρ A w run v A') (hr : ∀ v' w', run w = .ok v' w' → (execOp c o).run P w = .ok (.value v') w') : Does P base ρ A w o c (.value v) A' :=
  let ⟨ρ', w', v', a, b, d, f, g⟩ := h; ⟨ρ', w', b, d, f, v', hr v' w' a, g⟩

theorem appendA_sound (hw : WRel P base ρ A w) (hbase : base ≤ w.heap.size) {elem : Nat} {zeros : Bool} {s x v : AV} {u y : Value} {A' : AW} (hs : VRel ρ s u) (hx : VRel ρ x y)
    {t : TypeId} {ts : Array TypeId} {ty : TypeId} (ht : ts[0]? = some t) (hu : P.underlying t = some (.slice elem)) (hzs : zerosArg P ts = some zeros)
    (h : appendA P elem zeros s x A = some (v, A')) : DoesV P base ρ A w (fun w => (Builtin.append_ ts ty #[u, y]).run P w) v A' := by
  unfold appendA at h
  split at h <;> first | cases h | skip
  rename_i size bytes zs hs1 hb1 hz1
  split at h <;> first | cases h | skip
  rename_i n new hnew
  split at h <;> first | cases h | skip
  rename_i hc
  simp only [Bool.and_eq_true] at hc
  obtain ⟨⟨⟨c1, c2⟩, c3⟩, c4⟩ := hc
  have c1 := ble_t c1; have c2 := beq_t c2; have c3 := ble_t c3; have c4 := ble_t c4
  obtain ⟨us, hn⟩ := newCells_rel (P := P) hw hx hz1 c1 c2 hnew
  obtain ⟨it, z, hi, hz, hr⟩ := zerosOf_inv (ρ := ρ) hz1
  have hl := hr.length
  simp only [Array.length_toList] at hl
  exact appendS_sound hw hbase c1 hs hn ht hu hzs hi hz (by simpa [sizeT, hi] using hs1) (by omega) (by simpa [bytesT, hi] using hb1) c3 c4 h

theorem store_sound (hw : WRel P base ρ A w) {t : TypeId} {a x : Operand} (hop : o.op = .store t a x) (ha : VRel ρ (e a) (c a)) (hx : VRel ρ (e x) (c x)) {b p n : Nat} (hea : e a = .ptr b p) (hs : sizeT P t = some n)
    (hn : (e x).cells.length = n) {A' : AW} (hst : A.stores b p (e x).cells = some A') : Does P base ρ A w o c .skip A' := by
  rw [hea] at ha
  obtain ⟨i, hb, hc⟩ := ptr_inv ha
  have hcl := hx.cells (fun e0 => by
    unfold AW.stores at hst
    split at hst
    · split at hst
      · split at hst
        · rename_i htree
          have := (putAll_get _ _ _ htree).1 .top (by simp [e0, AV.cells])
          simp [oneCell] at this
        · cases hst
      · cases hst
    · cases hst)
  have hlen := hcl.length
  simp only [Array.length_toList] at hlen
  obtain ⟨w1, hrun, hw1, hstep, hnext⟩ := stores_rel hw hb hcl hst
  refine ⟨ρ, w1, hstep, hw1, by omega, ?_⟩
  simp only [execOp, hop, Instr.storeAt, Instr.sureAddr, hc, Sem.run_bind, Sem.run_pure, Result.andThen_ok, storeVar, sizeT_run hs]
  rw [if_neg (by omega)]
  rw [hrun _ rfl]
  rfl

theorem lenA_run {x : AV} {u : Value} {n : Nat} (hx : VRel ρ x u) (h : lenA x = some n) (w : World) : (Builtin.lenOf u).run P w = .ok n w := by
  unfold lenA at h
  split at h <;> first | cases h | skip
  · obtain ⟨i, cp, _, rfl⟩ := slc_inv hx; rfl
  · cases hx; rfl
  · obtain ⟨rfl, _⟩ := sc_inv hx; rfl
  · obtain ⟨rfl, _⟩ := sc_inv hx
    simp only [Builtin.lenOf, Sem.run_pure, Array.length_toList]; rfl

theorem firstCells_zero {x : AV} {u : Value} {n size : Nat} (hx : VRel ρ x u) (h : lenA x = some n) (w : World) : (Builtin.firstCells size 0 u).run P w = .ok ⟨[]⟩ w := by
  unfold lenA at h
  split at h <;> first | cases h | skip
  · obtain ⟨i, cp, _, rfl⟩ := slc_inv hx
    simp [Builtin.firstCells, loadCells, loadCellsFrom]
  · cases hx
    simp [Builtin.firstCells, loadCells, loadCellsFrom]
  · obtain ⟨rfl, _⟩ := sc_inv hx
    simp [Builtin.firstCells]
  · obtain ⟨rfl, _⟩ := sc_inv hx
    simp only [Builtin.firstCells, Sem.run_pure]
    congr 1
    apply Array.ext'
    simp

theorem firstA_run (hw : WRel P base ρ A w) {x : AV} {u : Value} {size k : Nat} {vs : List AV} (hx : VRel ρ x u) (h : firstA A size k x = some vs) : ∃ us, LRel ρ vs us ∧ (Builtin.firstCells size k u).run P w = .ok ⟨us⟩ w := by
  unfold firstA at h
  split at h <;> first | cases h | skip
  · obtain ⟨i, cp, hb, rfl⟩ := slc_inv hx
    obtain ⟨us, hr, hlen, _, hrun⟩ := run_loads (P := P) hw hb h
    exact ⟨us, hr, by simp only [Builtin.firstCells]; exact hrun⟩
  · rename_i s
    split at h <;> first | cases h | skip
    obtain ⟨rfl, _⟩ := sc_inv hx
    have hr : LRel ρ ((s.data.toList.take k).map fun b => AV.sc (.int .u8 b.toNat)) ((s.data.toList.take k).map fun b => Value.int .u8 b.toNat) := by
      generalize s.data.toList.take k = l
      induction l with
      | nil => exact .nil
      | cons b l ih => exact .cons _ _ _ _ (.sc _ rfl) ih
    refine ⟨_, hr, ?_⟩
    simp only [Builtin.firstCells, Sem.run_pure]
    congr 1
    apply Array.ext'
    simp [ByteArray.data_extract]

theorem copy_sound (hw : WRel P base ρ A w) {t elem : TypeId} {d x : Operand} {ts : Array TypeId} (hop : o.op = .call { callee := .builtin .copy, args := ⟨[d, x]⟩, argTypes := ts }) (ht : ts[0]? = some t) (hu : P.underlying t = some (.slice elem))
    {size : Nat} (hs : sizeT P elem = some size) (hd : VRel ρ (e d) (c d)) (hx : VRel ρ (e x) (c x)) {v : AV} {A' : AW} (h : copyA size (e d) (e x) A = some (v, A')) : Does P base ρ A w o c (.value v) A' := by
  have key : ∀ {dA : Option Addr} {dl dc sn : Nat} {us : List Value} {w1 : World}, c d = .slice dA dl dc → (Builtin.lenOf (c x)).run P w = .ok sn w → (Builtin.firstCells size (Nat.min sn dl) (c x)).run P w = .ok ⟨us⟩ w →
      (match dA with | some a => (storeCells a us).run P w = .ok () w1 | none => w1 = w) → (execOp c o).run P w = .ok (.value (.int .i64 (Nat.min sn dl : Nat))) w1 := by
    intro dA dl dc sn us w1 hcd hl hf hst
    have : (Builtin.copy_ ts o.type #[c d, c x]).run P w = .ok (.int .i64 (Nat.min sn dl : Nat)) w1 := by
      simp only [Builtin.copy_, ht, List.getElem?_toArray, List.getElem?_cons_zero, List.getElem?_cons_succ, Sem.run_bind, run_underlying hu, Result.andThen_ok, hcd, hl, sizeT_run hs, hf]
      cases dA with
      | none => simp only at hst; subst hst; rfl
      | some a => simp only at hst; simp only [Sem.run_bind, hst, Result.andThen_ok, Sem.run_pure, goInt]
    simp only [execOp, hop, resolve, invoke, builtin, Sem.run_bind, Sem.run_pure, Result.andThen_ok]
    rw [show (Array.map c ⟨[d, x]⟩) = #[c d, c x] by simp, this]
    rfl
  unfold copyA at h
  split at h <;> first | cases h | skip
  · rename_i b p dn cap hed
    rw [hed] at hd
    obtain ⟨i, cp, hb, hcd⟩ := slc_inv hd
    split at h <;> first | cases h | skip
    rename_i sn hsn
    have hl := lenA_run (P := P) hx hsn w
    split at h <;> first | cases h | skip
    · rename_i hm
      refine ⟨ρ, w, Step.refl _ _ _, hw, Nat.le_refl _, _, key hcd hl (by rw [hm]; exact firstCells_zero hx hsn w) (w1 := w) rfl, ?_⟩
      rw [hm]; exact .sc _ rfl
    · rename_i k hm
      split at h <;> first | cases h | skip
      rename_i vs hvs
      split at h <;> first | cases h | skip
      rename_i A1 hst
      obtain ⟨us, hr, hf⟩ := firstA_run hw hx hvs
      obtain ⟨w1, hrun, hw1, hstep, hnext⟩ := stores_rel hw hb hr hst
      refine ⟨ρ, w1, hstep, hw1, by omega, _, key hcd hl (by rw [hm]; exact hf) (w1 := w1) (hrun _ rfl), ?_⟩
      rw [hm]; exact .sc _ rfl
  · rename_i b hed
    rw [hed] at hd
    generalize hcd : c d = cd at hd
    cases hd with
    | emp _ off cp i hb =>
    split at h <;> first | cases h | skip
    rename_i sn hsn
    have hl := lenA_run (P := P) hx hsn w
    have hm : Nat.min sn 0 = 0 := Nat.min_zero _
    refine ⟨ρ, w, Step.refl _ _ _, hw, Nat.le_refl _, _, key hcd hl (by rw [hm]; exact firstCells_zero hx hsn w) (w1 := w) rfl, ?_⟩
    rw [hm]; exact .sc _ rfl
  · rename_i hed
    rw [hed] at hd
    have hcd := (sc_inv hd).1
    split at h <;> first | cases h | skip
    rename_i sn hsn
    have hl := lenA_run (P := P) hx hsn w
    have hm : Nat.min sn 0 = 0 := Nat.min_zero _
    refine ⟨ρ, w, Step.refl _ _ _, hw, Nat.le_refl _, _, key hcd hl (by rw [hm]; exact firstCells_zero hx hsn w) (w1 := w) rfl, ?_⟩
    rw [hm]; exact .sc _ rfl

theorem clear_run {t : TypeId} {x : Operand} {ts : Array TypeId} (hop : o.op = .call { callee := .builtin .clear, args := ⟨[x]⟩, argTypes := ts }) {w1 : World} (h : (Builtin.clear_ ts o.type #[c x]).run P w = .ok (.tuple #[]) w1) :
    (execOp c o).run P w = .ok (.value (.tuple #[])) w1 := by
  simp only [execOp, hop, resolve, invoke, builtin, Sem.run_bind, Sem.run_pure, Result.andThen_ok]
  rw [show (Array.map c ⟨[x]⟩) = #[c x] by simp, h]
  rfl

theorem noBody_run {P : Program} {f : FuncId} {fn : Func} {args : Array Value} {s : Array Value → Sem Value} {v : Value} (hf : P.funcs[f]? = some fn) (hng : fn.name ≠ "runtime.NumGoroutine") (hb : fn.body = none)
    (h1 : Extern.findNext fn = none) (h2 : Extern.find fn = some s) (h3 : ∀ w, (s args).run P w = .ok v w) (w : World) : (callFunc f args).run P w = .ok (.value v) w := by
  have hng' : (fn.name == "runtime.NumGoroutine") = false := by simpa using hng
  simp only [callFunc, Sem.run_bind, run_program, Result.andThen_ok, hf, hng', Bool.false_eq_true, if_false, hb, Option.isNone_none, if_true, mark, Sem.run, h1, h2, h3, Sem.run_pure]

theorem body_run {P : Program} {f : FuncId} {fn : Func} {args : Array Value} {cd : Code} (hf : P.funcs[f]? = some fn) (hng : fn.name ≠ "runtime.NumGoroutine") (hb : fn.body = some cd) (w : World) :
    (callFunc f args).run P w = .ok (.enter f args) w := by
  have hng' : (fn.name == "runtime.NumGoroutine") = false := by simpa using hng
  simp only [callFunc, Sem.run_bind, run_program, Result.andThen_ok, hf, hng', Bool.false_eq_true, if_false, hb, Option.isNone_some, Sem.run_pure]

/-- What is owed for the functions that are met otherwise. -/
structure XOk (P : Program) (X : Ext) : Prop where
  ng : ∀ (f : FuncId) (fn : Func), P.funcs[f]? = some fn → fn.name ≠ "runtime.NumGoroutine"
  overl : ∀ f, has X.overl f = true → ∃ fn t elem size tr, P.funcs[f]? = some fn ∧ fn.body = none ∧ Extern.findNext fn = none ∧ Extern.find fn = some (Extern.SlicesOverlaps.overlaps #[t, t] #[tr]) ∧ P.underlying t = some (.slice elem) ∧ sizeT P elem = some size
  noesc : ∀ f, has X.noesc f = true → ∃ fn, P.funcs[f]? = some fn ∧ fn.body = none ∧ Extern.findNext fn = none ∧ Extern.find fn = some Extern.AbiNoEscape.same

theorem noBody_runIn {f : FuncId} {fn : Func} {args : Array Value} {s : Array Value → Sem Value} {v : Value} (hf : P.funcs[f]? = some fn) (hng : fn.name ≠ "runtime.NumGoroutine") (hb : fn.body = none)
    (h1 : Extern.findNext fn = none) (h2 : Extern.find fn = some s) (h3 : (s args).run P w = .ok v w) : (callFunc f args).run P w = .ok (.value v) w := by
  have hng' : (fn.name == "runtime.NumGoroutine") = false := by simpa using hng
  simp only [callFunc, Sem.run_bind, run_program, Result.andThen_ok, hf, hng', Bool.false_eq_true, if_false, hb, Option.isNone_none, if_true, mark, Sem.run, h1, h2, h3, Sem.run_pure]

theorem overlaps_run (hw : WRel P base ρ A w) {xs : List AV} {us : List Value} {v : AV} (hr : LRel ρ xs us) (h : overlapsA A xs = some v) {t elem size tr : Nat} (hu : P.underlying t = some (.slice elem)) (hs : sizeT P elem = some size) :
    v = .sc (.bool false) ∧ (Extern.SlicesOverlaps.overlaps #[t, t] #[tr] ⟨us⟩).run P w = .ok (.bool false) w := by
  unfold overlapsA at h
  split at h <;> first | (cases h; done) | skip
  rename_i ba oa la ca bb ob lb cb
  split at h <;> first | (cases h; done) | skip
  rename_i na ta za ea fa nb tb zb opb eb fb hne hga hgb
  split at h <;> first | (cases h; done) | skip
  rename_i hc
  cases h
  refine ⟨rfl, ?_⟩
  simp only [Bool.and_eq_true] at hc
  obtain ⟨⟨c1, c2⟩, c3⟩ := hc
  have c1 := ble_t c1; have c2 := ble_t c2; have c3 := ble_t c3
  have hne := beq_f hne
  cases hr with
  | cons _ u1 _ us1 h1 hr =>
  cases hr with
  | cons _ u2 _ us2 h2 hr =>
  cases hr
  obtain ⟨ia, cpa, hba, rfl⟩ := slc_inv h1
  obtain ⟨ib, cpb, hbb, rfl⟩ := slc_inv h2
  obtain ⟨oba, hoa, cca, fra, rfl, hra⟩ := hw.blk ba ia _ hba hga
  obtain ⟨obb, hob', ccb, frb, rfl, hrb⟩ := hw.blk bb ib _ hbb hgb
  have hcb : ia.cb ≠ ib.cb := fun e => hne (hw.sep _ _ _ _ _ _ hba hbb hga hgb e)
  have hsa := hra.size
  have hsb := hrb.size
  refine Lib.run_overlaps_apart w t tr elem hu size (sizeT_run hs) _ _ _ _ _ _ hcb ea eb cca.size ccb.size (by simp [World.shape?, hoa]) (by simp [World.shape?, hob']) (by omega) ?_ ?_
  · have := hra.free oa c1 (by omega)
    simp only [World.frozen?, hoa]
    rw [← Bool.not_eq_true]
    simpa using this
  · have := hra.mark rfl
    simp only [World.frozen?, hoa]
    rw [← Bool.not_eq_true]
    simp
    omega

/-! ### blocks that are changed whole -/
theorem setBlk_rel (hw : WRel P base ρ A w) {b : Nat} {i : Info} {x0 x : Blk} {ob : Obj} {w' : World} (hb : ρ b = some i) (hg : A.heap.get b = some x0)
    (h1 : w'.os = w.os) (h2 : w'.tape = w.tape) (h3 : w'.output = w.output) (h4 : w'.heap.size = w.heap.size) (h5 : ∀ k, k ≠ i.cb → w'.heap[k]? = w.heap[k]?)
    (h6 : w'.heap[i.cb]? = some ob) (h7 : BlkRel P ρ i x ob) : WRel P base ρ { A with heap := A.heap.set b x } w' ∧ Step base A.next ρ w ρ w' := by
  have hget : ∀ {b' x'}, (A.heap.set b x).get b' = some x' → ∃ y, A.heap.get b' = some y := by
    intro b' x' h
    rw [Tree.get_set] at h
    by_cases e : b' = b
    · subst e; exact ⟨_, hg⟩
    · rw [if_neg e] at h; exact ⟨_, h⟩
  refine ⟨⟨fun b' i' hb' => by rw [h4]; exact hw.dom b' i' hb', ?_, ?_, ?_, fun b' i' x' hb' hx => let ⟨y, e⟩ := hget hx; hw.lo b' i' y hb' e⟩, ⟨h1, h2, h3, by omega, fun k _ hu => h5 k (fun e => hu b i hb e.symm), fun _ _ => rfl, fun b i h => .inl ⟨b, i, h, rfl⟩, fun k hk => h5 k (fun e => by have := hw.lo b i _ hb hg; omega)⟩⟩
  · intro b' i' x' hb' hx
    simp only [Tree.get_set] at hx
    by_cases e : b' = b
    · subst e
      rw [if_pos rfl] at hx
      cases hx
      rw [hb] at hb'; cases hb'
      exact ⟨ob, h6, h7⟩
    · rw [if_neg e] at hx
      obtain ⟨o', ho', hrel⟩ := hw.blk b' i' x' hb' hx
      exact ⟨o', by rw [h5 _ fun he => e (hw.sep _ _ _ _ _ _ hb' hb hx hg he)]; exact ho', hrel⟩
  · intro b1 b2 i1 i2 x1 x2 q1 q2 g1 g2 he
    obtain ⟨y1, e1⟩ := hget g1
    obtain ⟨y2, e2⟩ := hget g2
    exact hw.sep _ _ _ _ _ _ q1 q2 e1 e2 he
  · intro b' x' hx
    obtain ⟨y, e⟩ := hget hx
    exact hw.top _ _ e

theorem killBlk_rel (hw : WRel P base ρ A w) {b : Nat} {i : Info} {x0 : Blk} {w' : World} (hb : ρ b = some i) (hg : A.heap.get b = some x0)
    (h1 : w'.os = w.os) (h2 : w'.tape = w.tape) (h3 : w'.output = w.output) (h4 : w'.heap.size = w.heap.size) (h5 : ∀ k, k ≠ i.cb → w'.heap[k]? = w.heap[k]?) :
    WRel P base ρ { A with heap := A.heap.del b } w' ∧ Step base A.next ρ w ρ w' := by
  have hk := kill_rel hw b
  refine ⟨⟨fun b' i' hb' => by rw [h4]; exact hw.dom b' i' hb', ?_, hk.sep, hk.top, hk.lo⟩, ⟨h1, h2, h3, by omega, fun k _ hu => h5 k (fun e => hu b i hb e.symm), fun _ _ => rfl, fun b i h => .inl ⟨b, i, h, rfl⟩, fun k hk => h5 k (fun e => by have := hw.lo b i _ hb hg; omega)⟩⟩
  intro b' i' x' hb' hx
  obtain ⟨o', ho', hrel⟩ := hk.blk b' i' x' hb' hx
  refine ⟨o', ?_, hrel⟩
  have hx' := hx
  rw [Tree.get_del] at hx'
  split at hx'
  · cases hx'
  · rename_i hne
    rw [h5 _ fun he => hne (hw.sep _ _ _ _ _ _ hb' hb hx' hg he)]; exact ho'

theorem loadBytes_run {w : World} : ∀ (ns : List Int) (a : Addr) (acc : ByteArray), (∀ j v, (ns.map fun n => Value.int .u8 n)[j]? = some v → w.cell? (a.add j) = some v) →
    (loadBytes a acc ns.length).run P w = .ok ⟨acc.data ++ (ns.map fun n => UInt8.ofNat n.toNat).toArray⟩ w
  | [], a, acc, _ => by simp [loadBytes]
  | x :: l, a, acc, h => by
    have h0 : w.cell? a = some (.int .u8 x) := by
      have := h 0 (.int .u8 x) rfl
      simpa [Addr.add] using this
    have ih := loadBytes_run l (a.add 1) (acc.push (UInt8.ofNat x.toNat)) (fun j y hy => by
      have := h (j + 1) y (by simpa using hy)
      have e : (a.add 1).add j = a.add (j + 1) := by
        unfold Addr.add
        by_cases hj : j = 0
        · subst hj; simp
        · simp [hj]; omega
      rw [e]; exact this)
    have hl : (load a).run P w = .ok (.int .u8 x) w := by simp [load, Sem.run, h0]
    simp only [List.length_cons, loadBytes, Sem.run_bind, hl, Result.andThen_ok]
    refine Eq.trans ih ?_
    congr 1
    apply ByteArray.ext
    simp [ByteArray.push]

theorem ent_nth {ρ : Ren} : ∀ {es : List (AV × AV × Nat)} {fs : List MapEntry} {i : Nat} {x : AV × AV × Nat}, EntRel ρ es fs → nth es i = some x → ∃ f, fs[i]? = some f ∧ VRel ρ x.1 f.key ∧ VRel ρ x.2.1 f.val ∧ f.born = x.2.2
  | [], _, _, _, _, h => by simp [nth] at h
  | _ :: _, [], _, _, h, _ => h.elim
  | (a, b, n) :: es, f :: fs, 0, x, h, hx => by
    simp [nth] at hx; subst hx
    exact ⟨f, rfl, h.1, h.2.1, h.2.2.1⟩
  | (a, b, n) :: es, f :: fs, i + 1, x, h, hx => by
    simp only [nth] at hx
    obtain ⟨g, h1, h2⟩ := ent_nth h.2.2.2 hx
    exact ⟨g, by simpa using h1, h2⟩

theorem ent_set {ρ : Ren} {k v : AV} {kv vv : Value} {born : Nat} (hk : VRel ρ k kv) (hv : VRel ρ v vv) : ∀ {es : List (AV × AV × Nat)} {fs : List MapEntry} {i : Nat} {f : MapEntry}, EntRel ρ es fs → fs[i]? = some f → f.born = born →
    EntRel ρ (setNth (k, v, born) es i) (fs.modify i fun e => { e with key := kv, val := vv })
  | [], [], _, _, _, h, _ => by simp at h
  | [], _ :: _, _, _, h, _, _ => h.elim
  | _ :: _, [], _, _, h, _, _ => h.elim
  | (a, b, n) :: es, g :: fs, 0, f, h, hf, hb => by
    simp at hf; subst hf
    exact ⟨hk, hv, hb, h.2.2.2⟩
  | (a, b, n) :: es, g :: fs, i + 1, f, h, hf, hb => by
    refine ⟨h.1, h.2.1, h.2.2.1, ?_⟩
    exact ent_set hk hv h.2.2.2 (by simpa using hf) hb

theorem ent_push {ρ : Ren} {k v : AV} {f : MapEntry} (hk : VRel ρ k f.key) (hv : VRel ρ v f.val) : ∀ {es : List (AV × AV × Nat)} {fs : List MapEntry}, EntRel ρ es fs → EntRel ρ (es ++ [(k, v, f.born)]) (fs ++ [f])
  | [], [], _ => ⟨hk, hv, rfl, trivial⟩
  | [], _ :: _, h => h.elim
  | _ :: _, [], h => h.elim
  | (a, b, n) :: es, g :: fs, h => ⟨h.1, h.2.1, h.2.2.1, ent_push hk hv h.2.2.2⟩

theorem updateA_run {kt et t : TypeId} {k v : AV} {kv vv : Value} {es : List (AV × AV × Nat)} {clock : Nat} {y : Blk} {r : Nat} {fs : Array MapEntry} (hu : P.underlying t = some (.map kt et)) (hk : VRel ρ k kv) (hv : VRel ρ v vv)
    (hob : w.heap[r]? = some (.map fs clock)) (hrel : EntRel ρ es fs.toList) (h : updateA P kt k v kv es clock = some y) :
    ∃ ob, (Instr.mapUpdate t (.map (some r)) kv vv).run P w = .ok () { w with heap := w.heap.setIfInBounds r ob } ∧ ∀ i, BlkRel P ρ i y ob := by
  have hg : (getObj r).run P w = .ok (.map fs clock) w := by simp [getObj, Sem.run, hob]
  have hs : ∀ ob, (setObj r ob).run P w = .ok () { w with heap := w.heap.setIfInBounds r ob } := fun ob => by
    simp only [setObj, Sem.run, hob]
  unfold updateA at h
  split at h <;> first | (cases h; done) | skip
  · rename_i j va hc hf
    split at h <;> first | (cases h; done) | skip
    rename_i ka va' born hn
    split at h <;> first | (cases h; done) | skip
    rename_i kold hko
    split at h <;> first | (cases h; done) | skip
    rename_i hsame
    cases h
    obtain ⟨r', hr, hfr⟩ := findKeyA_sound (w := w) hrel hf
    cases r' with
    | none => exact hfr.elim
    | some q =>
      obtain ⟨j', vq⟩ := q
      obtain ⟨rfl, _⟩ := hfr
      obtain ⟨f, hf1, hf2, hf3, hf4⟩ := ent_nth hrel hn
      have hkey := toVal_rel hf2 hko
      have hfj : fs[j']? = some f := by rw [← Array.getElem?_toList]; exact hf1
      refine ⟨.map (fs.modify j' fun e => { e with key := kv, val := vv }) clock, ?_, fun i => ⟨_, rfl, ?_⟩⟩
      · simp only [Instr.mapUpdate, Sem.run_bind, run_underlying hu, Result.andThen_ok, hg, pureRun_run hc w, hr, hfj, Option.map_some, Option.getD_some, hkey, Instr.keyThatStays, hsame, if_true, Sem.run_pure, hs]
      · rw [Array.toList_modify]
        exact ent_set hk hv hrel hf1 hf4
  · rename_i hc hf
    cases h
    obtain ⟨r', hr, hfr⟩ := findKeyA_sound (w := w) hrel hf
    cases r' with
    | some q => exact hfr.elim
    | none =>
      refine ⟨.map (fs.push { key := kv, val := vv, born := clock }) (clock + 1), ?_, fun i => ⟨_, rfl, ?_⟩⟩
      · simp only [Instr.mapUpdate, Sem.run_bind, run_underlying hu, Result.andThen_ok, hg, pureRun_run hc w, hr, hs]
      · rw [Array.toList_push]
        exact ent_push (f := { key := kv, val := vv, born := clock }) hk hv hrel

theorem effOp_sound (hng : XOk P X) (hw : WRel P base ρ A w) (hbase : base ≤ w.heap.size) (he : ∀ x ∈ o.op.operands, VRel ρ (e x) (c x)) {r : ONext} {A' : AW}
    (h : effOp P X o e A = some (r, A')) : Does P base ρ A w o c r A' := by
  cases hop : o.op
  case store t a x =>
    have ha : VRel ρ (e a) (c a) := he a (by rw [hop]; simp [Op.operands])
    have hx : VRel ρ (e x) (c x) := he x (by rw [hop]; simp [Op.operands])
    simp only [effOp, hop] at h
    split at h <;> first | cases h | skip
    rename_i b p n hea hs
    split at h <;> first | cases h | skip
    rename_i hn hst
    exact store_sound hw hop ha hx hea hs (beq_t hn) hst
  case call cl =>
    obtain ⟨callee, args, ts⟩ := cl
    cases callee with
    | builtin b =>
      cases b
      case append =>
        simp only [effOp, hop] at h
        split at h <;> first | cases h | skip
        rename_i t s x ht
        have hs : VRel ρ (e s) (c s) := he s (by rw [hop]; simp [Op.operands, Call.operands])
        have hx : VRel ρ (e x) (c x) := he x (by rw [hop]; simp [Op.operands, Call.operands])
        split at h <;> first | cases h | skip
        rename_i elem hu
        split at h <;> first | cases h | skip
        rename_i zeros hz
        split at h <;> first | cases h | skip
        rename_i v A1 hA
        refine (appendA_sound hw hbase hs hx (ty := o.type) ht hu hz hA).does fun v' w' hr => ?_
        simp only [execOp, hop, resolve, invoke, builtin, Sem.run_bind, Sem.run_pure, Result.andThen_ok]
        rw [show (Array.map c ⟨[s, x]⟩) = #[c s, c x] by simp, hr]
        rfl
      case copy =>
        simp only [effOp, hop] at h
        split at h <;> first | cases h | skip
        rename_i t s x ht
        have hs : VRel ρ (e s) (c s) := he s (by rw [hop]; simp [Op.operands, Call.operands])
        have hx : VRel ρ (e x) (c x) := he x (by rw [hop]; simp [Op.operands, Call.operands])
        split at h <;> first | cases h | skip
        rename_i elem hu
        split at h <;> first | cases h | skip
        rename_i size hsz
        split at h <;> first | cases h | skip
        rename_i v A1 hA
        exact copy_sound hw hop ht hu hsz hs hx hA
      case clear =>
        simp only [effOp, hop] at h
        split at h <;> first | cases h | skip
        rename_i t x ht
        have hx : VRel ρ (e x) (c x) := he x (by rw [hop]; simp [Op.operands, Call.operands])
        split at h <;> first | cases h | skip
        · rename_i elem b p n cap hu hex
          split at h <;> first | cases h | skip
          rename_i size zs hs hzs
          split at h <;> first | cases h | skip
          rename_i A1 hc hst
          simp only [Bool.and_eq_true] at hc
          have c1 := ble_t hc.1; have c2 := beq_t hc.2
          obtain ⟨it, z, hi, hz, hr⟩ := zerosOf_inv (ρ := ρ) hzs
          have hl := hr.length
          simp only [Array.length_toList] at hl
          rw [hex] at hx
          obtain ⟨i, cp, hb, hcx⟩ := slc_inv hx
          have hrel := rep_rel hr (by omega) n
          obtain ⟨w1, hrun, hw1, hstep, hnext⟩ := stores_rel hw hb hrel hst
          refine ⟨ρ, w1, hstep, hw1, by omega, .tuple #[], clear_run (t := t) hop ?_, .tup _ _ .nil⟩
          have hrun := hrun _ rfl
          cases n with
          | zero =>
            have he : (Builtin.zeroCells z.cells 0).toList = [] := by simp [Builtin.zeroCells]
            rw [he] at hrun
            simp only [storeCells, Sem.run_pure] at hrun
            cases hrun
            simp only [Builtin.clear_, ht, List.getElem?_toArray, List.getElem?_cons_zero, Sem.run_bind, run_underlying hu, Result.andThen_ok, hcx, Sem.run_pure]
          | succ n =>
            simp only [Builtin.clear_, ht, List.getElem?_toArray, List.getElem?_cons_zero, Sem.run_bind, run_underlying hu, Result.andThen_ok, hcx, zeroValue, typeInfo, run_program, hi, hz, Sem.run_pure, hrun]
        · rename_i elem b hu hex
          rw [hex] at hx
          generalize hcx : c x = cx at hx
          cases hx with
          | emp _ off cp i hb =>
          refine ⟨ρ, w, Step.refl _ _ _, hw, Nat.le_refl _, .tuple #[], clear_run (t := t) hop ?_, .tup _ _ .nil⟩
          simp only [Builtin.clear_, ht, List.getElem?_toArray, List.getElem?_cons_zero, Sem.run_bind, run_underlying hu, Result.andThen_ok, hcx, Sem.run_pure]
      case unsafeString =>
        simp only [effOp, hop] at h
        split at h <;> first | (cases h; done) | skip
        rename_i t x n ht
        have hx : VRel ρ (e x) (c x) := he x (by rw [hop]; simp [Op.operands, Call.operands])
        have hn : VRel ρ (e n) (c n) := he n (by rw [hop]; simp [Op.operands, Call.operands])
        have run : ∀ {u w'}, (Builtin.unsafeString_ ts o.type #[c x, c n]).run P w = .ok u w' → (execOp c o).run P w = .ok (.value u) w' := by
          intro u w' hu
          simp only [execOp, hop, resolve, invoke, builtin, Sem.run_bind, Sem.run_pure, Result.andThen_ok]
          rw [show (Array.map c ⟨[x, n]⟩) = #[c x, c n] by simp, hu]
          rfl
        split at h <;> first | (cases h; done) | skip
        rename_i el hu
        split at h <;> first | (cases h; done) | skip
        · rename_i b p k hel hex hen
          split at h <;> first | (cases h; done) | skip
          rename_i kn tree zs opn elem fz xs hg hl
          split at h <;> first | (cases h; done) | skip
          rename_i s hs hlies hk
          cases h
          have hk := ble_t hk
          rw [hex] at hx
          obtain ⟨i, hb, hcx⟩ := ptr_inv hx
          obtain ⟨ob, hob, cc, fr, rfl, hrow⟩ := hw.blk b i _ hb hg
          have hsize := hrow.size
          have hsh := hrow.sh0
          obtain ⟨vs, hr, hlen, hcell⟩ := loads_rel hw hb hl
          unfold bytesOf at hs
          split at hs <;> first | (cases hs; done) | skip
          rename_i l hl2
          obtain ⟨ns, rfl, rfl⟩ := bytesOf_rel hr hl2
          cases hs
          obtain ⟨kd, hcn⟩ : ∃ kd, c n = .int kd (k + 1 : Nat) := by
            unfold natOf at hen
            split at hen
            · rename_i kd m hm
              cases hen
              rw [hm] at hn
              exact ⟨kd, (sc_inv hn).1⟩
            · cases hen
          obtain ⟨q1, q2⟩ := killBlk_rel hw hb hg (w' := w.freeze ⟨i.cb, i.sh + p, none⟩ (k + 1)) (by simp [World.freeze]) (by simp [World.freeze]) (by simp [World.freeze]) (by simp [World.freeze]) (fun j hj => by
            simp only [World.freeze, Nat.add_eq_zero_iff, Nat.one_ne_zero, and_false, if_false, Array.getElem?_modify]
            rw [if_neg (fun e => hj e.symm)])
          refine ⟨ρ, _, q2, q1, Nat.le_refl _, .string _, run ?_, .sc _ rfl⟩
          have h0 : (variablesAt ⟨i.cb, i.sh + p, none⟩ el (k + 1)).run P w = .ok true w :=
            variablesAt_run (count := kn / P.cellsOf elem) hob (Nat.div_le_div_right (by omega)) (by show liesAt P P.depth elem _ (i.sh + p) el (k + 1) = true; rw [show i.sh + p = p by omega]; exact hlies)
          have h1 : (loadBytes ⟨i.cb, i.sh + p, none⟩ .empty (k + 1)).run P w = .ok ⟨⟨ns.map fun n => UInt8.ofNat n.toNat⟩⟩ w := by
            have := loadBytes_run (P := P) ns ⟨i.cb, i.sh + p, none⟩ .empty hcell
            rw [List.length_map] at hlen
            rw [hlen] at this
            rw [this]
            have he0 : ByteArray.empty.data = #[] := rfl
            simp [he0]
          have hmax : ¬ (((k + 1 : Nat) : Int) > IntKind.i64.max) := by
            have : IntKind.i64.max = 9223372036854775807 := by decide
            omega
          have hel2 : (elemOf t).run P w = .ok el w := by simp [elemOf, run_underlying hu]
          rw [hcx, hcn]
          obtain ⟨e1, e2, e3, e4, hdef⟩ : ∃ e1 e2 e3 e4 : String, Builtin.unsafeString_ ts o.type #[.pointer (some ⟨i.cb, i.sh + p, none⟩), .int kd (k + 1 : Nat)] =
              (do
                let n ← asInt (.int kd (k + 1 : Nat))
                let some pt := ts[0]? | stuck e1
                if n < 0 then runtimePanic (.error e2)
                if n > IntKind.i64.max then unsupported (.unsafePointer e3)
                if n = 0 then pure (.string .empty)
                else if ← variablesAt ⟨i.cb, i.sh + p, none⟩ (← elemOf pt) n.toNat then do
                  let s ← loadBytes ⟨i.cb, i.sh + p, none⟩ .empty n.toNat
                  freeze ⟨i.cb, i.sh + p, none⟩ n.toNat
                  pure (.string s)
                else unsupported (.unsafePointer e4)):= ⟨_, _, _, _, rfl⟩
          have hneg : ¬ ((k + 1 : Nat) : Int) < 0 := by omega
          have hnz : ¬ ((k + 1 : Nat) : Int) = 0 := by omega
          have has : asInt (.int kd (k + 1 : Nat)) = pure ((k + 1 : Nat) : Int) := rfl
          rw [hdef, has]
          simp only [ht, Sem.run_bind, Sem.run_pure, Result.andThen_ok, if_neg hneg, if_neg hmax, if_neg hnz, hel2, Int.toNat_natCast, h0, if_true, h1, freeze, Sem.run]
        · rename_i hel hex hen
          cases h
          rw [hex] at hx
          have hcx := (sc_inv hx).1
          obtain ⟨kd, hcn⟩ : ∃ kd, c n = .int kd (0 : Nat) := by
            unfold natOf at hen
            split at hen
            · rename_i kd m hm
              cases hen
              rw [hm] at hn
              exact ⟨kd, (sc_inv hn).1⟩
            · cases hen
          refine ⟨ρ, w, Step.refl _ _ _, hw, Nat.le_refl _, .string ⟨⟨[]⟩⟩, run ?_, .sc _ rfl⟩
          have hmax : ¬ (((0 : Nat) : Int) > IntKind.i64.max) := by
            have : IntKind.i64.max = 9223372036854775807 := by decide
            omega
          rw [hcx, hcn]
          obtain ⟨e1, e2, e3, e4, hdef⟩ : ∃ e1 e2 e3 e4 : String, Builtin.unsafeString_ ts o.type #[.pointer none, .int kd (0 : Nat)] =
              (do
                let n ← asInt (.int kd (0 : Nat))
                let some pt := ts[0]? | stuck e1
                if n < 0 then runtimePanic (.error e2)
                if n > IntKind.i64.max then unsupported (.unsafePointer e3)
                if n = 0 then pure (.string .empty)
                else runtimePanic (.error e4)):= ⟨_, _, _, _, rfl⟩
          have hneg : ¬ ((0 : Nat) : Int) < 0 := by omega
          have hnz : ((0 : Nat) : Int) = 0 := rfl
          have has : asInt (.int kd (0 : Nat)) = pure ((0 : Nat) : Int) := rfl
          rw [hdef, has]
          simp only [ht, Sem.run_bind, Sem.run_pure, Result.andThen_ok, if_neg hneg, if_neg hmax, if_pos hnz]
          rfl
      all_goals (simp only [effOp, hop] at h; cases h)
    | value f =>
      simp only [effOp, hop] at h
      have hf : VRel ρ (e f) (c f) := he f (by rw [hop]; simp [Op.operands, Call.operands])
      have ha : ∀ x ∈ args.toList, VRel ρ (e x) (c x) := fun x hx => he x (by rw [hop]; simp [Op.operands, Call.operands]; exact .inr (by simpa using hx))
      split at h <;> first | cases h | skip
      rename_i g first captured hef
      rw [hef] at hf
      generalize hcf : c f = cf at hf
      cases hf with
      | fn _ _ _ us vs hp hfi hca =>
      have hargs : LRel ρ (first ++ args.toList.map e ++ captured) (us ++ args.toList.map c ++ vs) := (hfi.append (LRel.ofAll _ ha)).append hca
      have hrun : (execOp c o).run P w = (callFunc g ⟨us ++ args.toList.map c ++ vs⟩).run P w := by
        simp only [execOp, hop, resolve, hcf, Deferred.ofValue, invoke, Sem.run_bind, Sem.run_pure, Result.andThen_ok]
        congr 2
        apply Array.ext'
        simp
      split at h
      · rename_i hov
        split at h <;> first | (cases h; done) | skip
        rename_i v hv
        cases h
        obtain ⟨fn, t, elem, size, tr, g1, g2, g3, g4, g5, g6⟩ := hng.overl g hov
        obtain ⟨rfl, hrun2⟩ := overlaps_run hw hargs hv g5 g6 (tr := tr)
        exact ⟨ρ, w, Step.refl _ _ _, hw, Nat.le_refl _, .bool false, by rw [hrun]; exact noBody_runIn g1 (hng.ng _ _ g1) g2 g3 g4 hrun2, .sc _ rfl⟩
      · rename_i hno
        split at h <;> first | (cases h; done) | skip
        rename_i v hv
        cases h
        rw [hv] at hargs
        obtain ⟨fn, g1, g2, g3, g4⟩ := hng.noesc g hno
        generalize us ++ args.toList.map c ++ vs = al at hargs hrun
        cases hargs with
        | cons _ u _ us2 h1 hr =>
        cases hr
        exact ⟨ρ, w, Step.refl _ _ _, hw, Nat.le_refl _, u, by rw [hrun]; exact noBody_runIn g1 (hng.ng _ _ g1) g2 g3 g4 rfl, h1⟩
      split at h <;> first | cases h | skip
      rename_i r' hr'
      unfold enterA at hr'
      split at hr' <;> first | cases hr' | skip
      rename_i fn hfn
      split at hr'
      · rename_i cd hcd
        cases hr'
        exact ⟨ρ, w, Step.refl _ _ _, hw, Nat.le_refl _, _, by rw [hrun]; exact body_run hfn (hng.ng _ _ hfn) hcd w, hargs⟩
      · rename_i hcd
        split at hr' <;> first | cases hr' | skip
        rename_i h1
        split at hr' <;> first | cases hr' | skip
        rename_i s ws h2 hws
        split at hr' <;> first | cases hr' | skip
        rename_i v hv
        split at hr' <;> first | cases hr' | skip
        rename_i x hx
        have hval := toCellsV hargs hws
        refine ⟨ρ, w, Step.refl _ _ _, hw, Nat.le_refl _, v, ?_, ofVal_rel hx⟩
        rw [hrun, hval]
        exact noBody_run hfn (hng.ng _ _ hfn) hcd h1 h2 (fun w => pureRun_run hv w) w
    | invoke r m => simp only [effOp, hop] at h; cases h
  case next it str =>
    have hx : VRel ρ (e it) (c it) := he it (by rw [hop]; simp [Op.operands])
    cases str
    · simp only [effOp, hop] at h; cases h
    simp only [effOp, hop] at h
    split at h <;> first | (cases h; done) | skip
    rename_i b hex
    split at h <;> first | (cases h; done) | skip
    rename_i s pos hg
    rw [hex] at hx
    obtain ⟨i, hb, hcx⟩ := ptr_inv hx
    obtain ⟨ob, hob, hsh, rfl⟩ := hw.blk b i _ hb hg
    have hget : (getObj i.cb).run P w = .ok (.stringIter s pos) w := by simp [getObj, Sem.run, hob]
    have hcx' : c it = .pointer (some ⟨i.cb, 0, none⟩) := by rw [hcx, hsh]
    split at h
    · rename_i hlt
      cases h
      have hlt : pos < s.size := by
        have := ble_t hlt
        rw [Array.length_toList] at this
        exact this
      obtain ⟨q1, q2⟩ := setBlk_rel hw (x := .siter s (pos + (Utf8.decode s pos).2)) hb hg (w' := { w with heap := w.heap.setIfInBounds i.cb (.stringIter s (pos + (Utf8.decode s pos).2)) }) rfl rfl rfl (by simp)
        (fun j hj => by simp [Array.getElem?_setIfInBounds, Ne.symm hj]) (by
          have := (Array.getElem?_eq_some_iff.1 hob).1
          simp [Array.getElem?_setIfInBounds, this]) ⟨hsh, rfl⟩
      refine ⟨ρ, _, q2, q1, Nat.le_refl _, .tuple #[.bool true, .int .i64 pos, .int .i32 (Utf8.decode s pos).1], ?_, .tup _ _ (.cons _ _ _ _ (.sc _ rfl) (.cons _ _ _ _ (.sc _ rfl) (.cons _ _ _ _ (.sc _ rfl) .nil)))⟩
      simp only [execOp, hop, Instr.next, hcx', Sem.run_bind, hget, Result.andThen_ok]
      rw [if_pos hlt]
      simp only [Sem.run_bind, setObj, Sem.run, hob, Result.andThen_ok, Sem.run_pure, goInt]
    · rename_i hlt
      cases h
      have hlt : ¬ pos < s.size := by
        have := ble_f hlt
        rw [Array.length_toList] at this
        intro h
        exact this h
      refine ⟨ρ, w, Step.refl _ _ _, hw, Nat.le_refl _, .tuple #[.bool false], ?_, .tup _ _ (.cons _ _ _ _ (.sc _ rfl) .nil)⟩
      simp only [execOp, hop, Instr.next, hcx', Sem.run_bind, hget, Result.andThen_ok]
      rw [if_neg hlt]
      rfl
  case mapUpdate t m k x =>
    have hm : VRel ρ (e m) (c m) := he m (by rw [hop]; simp [Op.operands])
    have hk : VRel ρ (e k) (c k) := he k (by rw [hop]; simp [Op.operands])
    have hx : VRel ρ (e x) (c x) := he x (by rw [hop]; simp [Op.operands])
    simp only [effOp, hop] at h
    split at h <;> first | (cases h; done) | skip
    rename_i kt et b kv hu hem hkv
    rw [hem] at hm
    have hck := toVal_rel hk hkv
    rw [hck] at hk
    split at h <;> first | (cases h; done) | skip
    rename_i es clock hg
    split at h <;> first | (cases h; done) | skip
    rename_i y hy
    cases h
    generalize hcm : c m = um at hm
    cases hm with
    | map _ i hb =>
      obtain ⟨ob, hob, fs, rfl, hrel⟩ := hw.blk b i _ hb hg
      obtain ⟨ob', hrun, hblk⟩ := updateA_run hu hk hx hob hrel hy
      obtain ⟨q1, q2⟩ := setBlk_rel hw (x := y) hb hg (w' := { w with heap := w.heap.setIfInBounds i.cb ob' }) rfl rfl rfl (by simp)
        (fun j hj => by simp [Array.getElem?_setIfInBounds, Ne.symm hj]) (by
          have := (Array.getElem?_eq_some_iff.1 hob).1
          simp [Array.getElem?_setIfInBounds, this]) (hblk i)
      refine ⟨ρ, _, q2, q1, Nat.le_refl _, ?_⟩
      simp only [execOp, hop, hck, hcm, Sem.run_bind, hrun, Result.andThen_ok]
      rfl
  all_goals (simp only [effOp, hop] at h; cases h)
 where
  toCellsV {ρ : Ren} : ∀ {xs : List AV} {us vs : List Value}, LRel ρ xs vs → mapO toVal xs = some us → vs = us
  | [], us, _, h, hu => by simp [mapO] at hu; subst hu; exact h.nil_inv
  | x :: xs, us, _, .cons _ v _ vs a b, hu => by
    simp only [mapO] at hu
    split at hu
    · rename_i y hy
      split at hu
      · rename_i ys hys
        cases hu
        rw [toVal_rel a hy, toCellsV b hys]
      · cases hu
    · cases hu
end
end Go.Ab
