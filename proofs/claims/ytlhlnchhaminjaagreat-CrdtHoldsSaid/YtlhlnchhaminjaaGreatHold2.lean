/- Part 2 of the ground of the proofs of this seat (texts Ab11 to R4). By an AI agent. -/
import Derived.Test.YtlhlnchhaminjaaGreatHold1
import Derived.Lib.Overlaps
import Derived.LoopN
import Derived.Below
import Derived.ChangeSame
import Derived.Laws.StructEq
set_option linter.unusedVariables false
set_option linter.unusedSimpArgs false
namespace Go.Ab
open Go Go.RowKit
section
variable {P : Program} {X : Ext} {base : Base} {ρ : Ren} {A : AW} {w : World} {o : Oper} {e : Operand → AV} {c : Operand → Value}
def Does (P : Program) (base : Base) (ρ : Ren) (A : AW) (w : World) (o : Oper) (c : Operand → Value) (r : ONext) (A' : AW) : Prop :=
  ∃ ρ' w', Step base A.next ρ w ρ' w' ∧ WRel P base ρ' A' w' ∧ A.next ≤ A'.next ∧
    match r with
    | .value v => ∃ v', (execOp c o).run P w = .ok (.value v') w' ∧ VRel ρ' v v'
    | .skip => (execOp c o).run P w = .ok .skip w'
    | .enter f args => ∃ us : List Value, (execOp c o).run P w = .ok (.enter f ⟨us⟩) w' ∧ LRel ρ' args us
theorem DoesV.does {run : World → Result Value} {v : AV} {A' : AW} (h : DoesV P base ρ A w run v A') (hr : ∀ v' w', run w = .ok v' w' → (execOp c o).run P w = .ok (.value v') w') : Does P base ρ A w o c (.value v) A' :=
  let ⟨ρ', w', v', a, b, d, f, g⟩ := h; ⟨ρ', w', b, d, f, v', hr v' w' a, g⟩
theorem appendA_sound (hw : WRel P base ρ A w) (hbase : base ≤ w.heap.size) {elem : Nat} {zeros : Bool} {s x v : AV} {u y : Value} {A' : AW} (hs : VRel ρ s u) (hx : VRel ρ x y)
    {t : TypeId} {ts : Array TypeId} {ty : TypeId} (ht : ts[0]? = some t) (hu : P.underlying t = some (.slice elem)) (hzs : zerosArg P ts = some zeros)
    (h : appendA P elem zeros s x A = some (v, A')) : DoesV P base ρ A w (fun w => (Builtin.append_ ts ty #[u, y]).run P w) v A' := by
  unfold appendA at h
  split at h <;> first | cases h | skip
  rename_i size bytes zs hs1 hb1 hz1
  split at h <;> first | cases h | skip
  rename_i n new hnew
  split at h <;> first | cases h | skip
  rename_i hc
  simp only [Bool.and_eq_true] at hc
  obtain ⟨⟨⟨c1, c2⟩, c3⟩, c4⟩ := hc
  have c1 := ble_t c1; have c2 := beq_t c2; have c3 := ble_t c3; have c4 := ble_t c4
  obtain ⟨us, hn⟩ := newCells_rel (P := P) hw hx hz1 c1 c2 hnew
  obtain ⟨it, z, hi, hz, hr⟩ := zerosOf_inv (ρ := ρ) hz1
  have hl := hr.length
  simp only [Array.length_toList] at hl
  exact appendS_sound hw hbase c1 hs hn ht hu hzs hi hz (by simpa [sizeT, hi] using hs1) (by omega) (by simpa [bytesT, hi] using hb1) c3 c4 h
theorem store_sound (hw : WRel P base ρ A w) {t : TypeId} {a x : Operand} (hop : o.op = .store t a x) (ha : VRel ρ (e a) (c a)) (hx : VRel ρ (e x) (c x)) {b p n : Nat} (hea : e a = .ptr b p) (hs : sizeT P t = some n)
    (hn : (e x).cells.length = n) {A' : AW} (hst : A.stores b p (e x).cells = some A') : Does P base ρ A w o c .skip A' := by
  rw [hea] at ha
  obtain ⟨i, hb, hc⟩ := ptr_inv ha
  have hcl := hx.cells (fun e0 => by
    unfold AW.stores at hst
    split at hst
    · split at hst
      · split at hst
        · rename_i htree
          have := (putAll_get _ _ _ htree).1 .top (by simp [e0, AV.cells])
          simp [oneCell] at this
        · cases hst
      · cases hst
    · cases hst)
  have hlen := hcl.length
  simp only [Array.length_toList] at hlen
  obtain ⟨w1, hrun, hw1, hstep, hnext⟩ := stores_rel hw hb hcl hst
  refine ⟨ρ, w1, hstep, hw1, by omega, ?_⟩
  simp only [execOp, hop, Instr.storeAt, Instr.sureAddr, hc, Sem.run_bind, Sem.run_pure, Result.andThen_ok, storeVar, sizeT_run hs]
  rw [if_neg (by omega)]
  rw [hrun _ rfl]
  rfl
theorem lenA_run {x : AV} {u : Value} {n : Nat} (hx : VRel ρ x u) (h : lenA x = some n) (w : World) : (Builtin.lenOf u).run P w = .ok n w := by
  unfold lenA at h
  split at h <;> first | cases h | skip
  · obtain ⟨i, cp, _, rfl⟩ := slc_inv hx; rfl
  · cases hx; rfl
  · obtain ⟨rfl, _⟩ := sc_inv hx; rfl
  · obtain ⟨rfl, _⟩ := sc_inv hx
    simp only [Builtin.lenOf, Sem.run_pure, Array.length_toList]; rfl
theorem firstCells_zero {x : AV} {u : Value} {n size : Nat} (hx : VRel ρ x u) (h : lenA x = some n) (w : World) : (Builtin.firstCells size 0 u).run P w = .ok ⟨[]⟩ w := by
  unfold lenA at h
  split at h <;> first | cases h | skip
  · obtain ⟨i, cp, _, rfl⟩ := slc_inv hx
    simp [Builtin.firstCells, loadCells, loadCellsFrom]
  · cases hx
    simp [Builtin.firstCells, loadCells, loadCellsFrom]
  · obtain ⟨rfl, _⟩ := sc_inv hx
    simp [Builtin.firstCells]
  · obtain ⟨rfl, _⟩ := sc_inv hx
    simp only [Builtin.firstCells, Sem.run_pure]
    congr 1
    apply Array.ext'
    simp
theorem firstA_run (hw : WRel P base ρ A w) {x : AV} {u : Value} {size k : Nat} {vs : List AV} (hx : VRel ρ x u) (h : firstA A size k x = some vs) : ∃ us, LRel ρ vs us ∧ (Builtin.firstCells size k u).run P w = .ok ⟨us⟩ w := by
  unfold firstA at h
  split at h <;> first | cases h | skip
  · obtain ⟨i, cp, hb, rfl⟩ := slc_inv hx
    obtain ⟨us, hr, hlen, _, hrun⟩ := run_loads (P := P) hw hb h
    exact ⟨us, hr, by simp only [Builtin.firstCells]; exact hrun⟩
  · rename_i s
    split at h <;> first | cases h | skip
    obtain ⟨rfl, _⟩ := sc_inv hx
    have hr : LRel ρ ((s.data.toList.take k).map fun b => AV.sc (.int .u8 b.toNat)) ((s.data.toList.take k).map fun b => Value.int .u8 b.toNat) := by
      generalize s.data.toList.take k = l
      induction l with
      | nil => exact .nil
      | cons b l ih => exact .cons _ _ _ _ (.sc _ rfl) ih
    refine ⟨_, hr, ?_⟩
    simp only [Builtin.firstCells, Sem.run_pure]
    congr 1
    apply Array.ext'
    simp [ByteArray.data_extract]
theorem copy_sound (hw : WRel P base ρ A w) {t elem : TypeId} {d x : Operand} {ts : Array TypeId} (hop : o.op = .call { callee := .builtin .copy, args := ⟨[d, x]⟩, argTypes := ts }) (ht : ts[0]? = some t) (hu : P.underlying t = some (.slice elem))
    {size : Nat} (hs : sizeT P elem = some size) (hd : VRel ρ (e d) (c d)) (hx : VRel ρ (e x) (c x)) {v : AV} {A' : AW} (h : copyA size (e d) (e x) A = some (v, A')) : Does P base ρ A w o c (.value v) A' := by
  have key : ∀ {dA : Option Addr} {dl dc sn : Nat} {us : List Value} {w1 : World}, c d = .slice dA dl dc → (Builtin.lenOf (c x)).run P w = .ok sn w → (Builtin.firstCells size (Nat.min sn dl) (c x)).run P w = .ok ⟨us⟩ w →
      (match dA with | some a => (storeCells a us).run P w = .ok () w1 | none => w1 = w) → (execOp c o).run P w = .ok (.value (.int .i64 (Nat.min sn dl : Nat))) w1 := by
    intro dA dl dc sn us w1 hcd hl hf hst
    have : (Builtin.copy_ ts o.type #[c d, c x]).run P w = .ok (.int .i64 (Nat.min sn dl : Nat)) w1 := by
      simp only [Builtin.copy_, ht, List.getElem?_toArray, List.getElem?_cons_zero, List.getElem?_cons_succ, Sem.run_bind, run_underlying hu, Result.andThen_ok, hcd, hl, sizeT_run hs, hf]
      cases dA with
      | none => simp only at hst; subst hst; rfl
      | some a => simp only at hst; simp only [Sem.run_bind, hst, Result.andThen_ok, Sem.run_pure, goInt]
    simp only [execOp, hop, resolve, invoke, builtin, Sem.run_bind, Sem.run_pure, Result.andThen_ok]
    rw [show (Array.map c ⟨[d, x]⟩) = #[c d, c x] by simp, this]
    rfl
  unfold copyA at h
  split at h <;> first | cases h | skip
  · rename_i b p dn cap hed
    rw [hed] at hd
    obtain ⟨i, cp, hb, hcd⟩ := slc_inv hd
    split at h <;> first | cases h | skip
    rename_i sn hsn
    have hl := lenA_run (P := P) hx hsn w
    split at h <;> first | cases h | skip
    · rename_i hm
      refine ⟨ρ, w, Step.refl _ _ _, hw, Nat.le_refl _, _, key hcd hl (by rw [hm]; exact firstCells_zero hx hsn w) (w1 := w) rfl, ?_⟩
      rw [hm]; exact .sc _ rfl
    · rename_i k hm
      split at h <;> first | cases h | skip
      rename_i vs hvs
      split at h <;> first | cases h | skip
      rename_i A1 hst
      obtain ⟨us, hr, hf⟩ := firstA_run hw hx hvs
      obtain ⟨w1, hrun, hw1, hstep, hnext⟩ := stores_rel hw hb hr hst
      refine ⟨ρ, w1, hstep, hw1, by omega, _, key hcd hl (by rw [hm]; exact hf) (w1 := w1) (hrun _ rfl), ?_⟩
      rw [hm]; exact .sc _ rfl
  · rename_i b hed
    rw [hed] at hd
    generalize hcd : c d = cd at hd
    cases hd with
    | emp _ ad cp =>
    split at h <;> first | cases h | skip
    rename_i sn hsn
    have hl := lenA_run (P := P) hx hsn w
    have hm : Nat.min sn 0 = 0 := Nat.min_zero _
    refine ⟨ρ, w, Step.refl _ _ _, hw, Nat.le_refl _, _, key hcd hl (by rw [hm]; exact firstCells_zero hx hsn w) (w1 := w) rfl, ?_⟩
    rw [hm]; exact .sc _ rfl
  · rename_i hed
    rw [hed] at hd
    have hcd := (sc_inv hd).1
    split at h <;> first | cases h | skip
    rename_i sn hsn
    have hl := lenA_run (P := P) hx hsn w
    have hm : Nat.min sn 0 = 0 := Nat.min_zero _
    refine ⟨ρ, w, Step.refl _ _ _, hw, Nat.le_refl _, _, key hcd hl (by rw [hm]; exact firstCells_zero hx hsn w) (w1 := w) rfl, ?_⟩
    rw [hm]; exact .sc _ rfl
theorem clear_run {t : TypeId} {x : Operand} {ts : Array TypeId} (hop : o.op = .call { callee := .builtin .clear, args := ⟨[x]⟩, argTypes := ts }) {w1 : World} (h : (Builtin.clear_ ts o.type #[c x]).run P w = .ok (.tuple #[]) w1) :
    (execOp c o).run P w = .ok (.value (.tuple #[])) w1 := by
  simp only [execOp, hop, resolve, invoke, builtin, Sem.run_bind, Sem.run_pure, Result.andThen_ok]
  rw [show (Array.map c ⟨[x]⟩) = #[c x] by simp, h]
  rfl
theorem noBody_run {P : Program} {f : FuncId} {fn : Func} {args : Array Value} {s : Array Value → Sem Value} {v : Value} (hf : P.funcs[f]? = some fn) (hng : fn.name ≠ "runtime.NumGoroutine") (hb : fn.body = none)
    (h1 : Extern.findNext fn = none) (h2 : Extern.find fn = some s) (h3 : ∀ w, (s args).run P w = .ok v w) (w : World) : (callFunc f args).run P w = .ok (.value v) w := by
  have hng' : (fn.name == "runtime.NumGoroutine") = false := by simpa using hng
  simp only [callFunc, Sem.run_bind, run_program, Result.andThen_ok, hf, hng', Bool.false_eq_true, if_false, hb, Option.isNone_none, if_true, mark, Sem.run, h1, h2, h3, Sem.run_pure]
theorem body_run {P : Program} {f : FuncId} {fn : Func} {args : Array Value} {cd : Code} (hf : P.funcs[f]? = some fn) (hng : fn.name ≠ "runtime.NumGoroutine") (hb : fn.body = some cd) (w : World) :
    (callFunc f args).run P w = .ok (.enter f args) w := by
  have hng' : (fn.name == "runtime.NumGoroutine") = false := by simpa using hng
  simp only [callFunc, Sem.run_bind, run_program, Result.andThen_ok, hf, hng', Bool.false_eq_true, if_false, hb, Option.isNone_some, Sem.run_pure]
structure XOk (P : Program) (X : Ext) : Prop where
  ng : ∀ (f : FuncId) (fn : Func), P.funcs[f]? = some fn → fn.name ≠ "runtime.NumGoroutine"
  overl : ∀ f, has X.overl f = true → ∃ fn t elem size tr, P.funcs[f]? = some fn ∧ fn.body = none ∧ Extern.findNext fn = none ∧ Extern.find fn = some (Extern.SlicesOverlaps.overlaps #[t, t] #[tr]) ∧ P.underlying t = some (.slice elem) ∧ sizeT P elem = some size
  noesc : ∀ f, has X.noesc f = true → ∃ fn, P.funcs[f]? = some fn ∧ fn.body = none ∧ Extern.findNext fn = none ∧ Extern.find fn = some Extern.AbiNoEscape.same
theorem noBody_runIn {f : FuncId} {fn : Func} {args : Array Value} {s : Array Value → Sem Value} {v : Value} (hf : P.funcs[f]? = some fn) (hng : fn.name ≠ "runtime.NumGoroutine") (hb : fn.body = none)
    (h1 : Extern.findNext fn = none) (h2 : Extern.find fn = some s) (h3 : (s args).run P w = .ok v w) : (callFunc f args).run P w = .ok (.value v) w := by
  have hng' : (fn.name == "runtime.NumGoroutine") = false := by simpa using hng
  simp only [callFunc, Sem.run_bind, run_program, Result.andThen_ok, hf, hng', Bool.false_eq_true, if_false, hb, Option.isNone_none, if_true, mark, Sem.run, h1, h2, h3, Sem.run_pure]
theorem overlaps_run (hw : WRel P base ρ A w) {xs : List AV} {us : List Value} {v : AV} (hr : LRel ρ xs us) (h : overlapsA A xs = some v) {t elem size tr : Nat} (hu : P.underlying t = some (.slice elem)) (hs : sizeT P elem = some size) :
    v = .sc (.bool false) ∧ (Extern.SlicesOverlaps.overlaps #[t, t] #[tr] ⟨us⟩).run P w = .ok (.bool false) w := by
  unfold overlapsA at h
  split at h <;> first | (cases h; done) | skip
  rename_i ba oa la ca bb ob lb cb
  split at h <;> first | (cases h; done) | skip
  rename_i na ta za ea fa nb tb zb opb eb fb hne hga hgb
  split at h <;> first | (cases h; done) | skip
  rename_i hc
  cases h
  refine ⟨rfl, ?_⟩
  simp only [Bool.and_eq_true] at hc
  obtain ⟨⟨c1, c2⟩, c3⟩ := hc
  have c1 := beq_t c1; have c2 := ble_t c2; have c3 := ble_t c3
  subst c1
  have hne := beq_f hne
  cases hr with
  | cons _ u1 _ us1 h1 hr =>
  cases hr with
  | cons _ u2 _ us2 h2 hr =>
  cases hr
  obtain ⟨ia, cpa, hba, rfl⟩ := slc_inv h1
  obtain ⟨ib, cpb, hbb, rfl⟩ := slc_inv h2
  obtain ⟨oba, hoa, cca, fra, rfl, hra⟩ := hw.blk ba ia _ hba hga
  obtain ⟨obb, hob', ccb, frb, rfl, hrb⟩ := hw.blk bb ib _ hbb hgb
  have hcb : ia.cb ≠ ib.cb := fun e => hne (hw.sep _ _ _ _ _ _ hba hbb hga hgb e)
  have hsa := hra.size
  have hsb := hrb.size
  refine Lib.run_overlaps_apart w t tr elem hu size (sizeT_run hs) _ _ _ _ _ _ hcb ea eb cca.size ccb.size (by simp [World.shape?, hoa]) (by simp [World.shape?, hob']) (by omega) ?_ ?_
  · have := hra.free oa (Nat.zero_le _) (by omega)
    simp only [World.frozen?, hoa]
    rw [← Bool.not_eq_true]
    simpa using this
  · have := (hra.mark rfl rfl).2
    simp only [World.frozen?, hoa]
    rw [← Bool.not_eq_true]
    simp
    omega
theorem markRow {w : World} {cb : Nat} {off : Nat} {cc : Array Value} {elem t el : TypeId} {fr : Nat × Nat} {len cp : Nat} {e : Value} (hob : w.heap[cb]? = some (.cells cc elem fr)) (hf : fr.1 = fr.2)
    (hu : P.underlying t = some (.slice el)) (hel : P.underlying el = some (.int .u8)) (hx : e = .slice (some ⟨cb, off, none⟩) len cp := by rfl) :
    (convert t t e).run P w = .ok e { w with heap := w.heap.setIfInBounds cb (.cells cc elem (cc.size, cc.size + 1)) } ∧ True := by
  subst hx
  have hsh : w.shape? cb = some (elem, cc.size) := by simp [World.shape?, hob]
  have hfr : w.freeze ⟨cb, cc.size, none⟩ 1 = { w with heap := w.heap.setIfInBounds cb (.cells cc elem (cc.size, cc.size + 1)) } := by
    unfold World.freeze
    rw [if_neg (by decide)]
    congr 1
    apply Array.ext_getElem?
    intro j
    rw [Array.getElem?_modify, Array.getElem?_setIfInBounds]
    by_cases hj : cb = j
    · subst hj
      have hlt := (Array.getElem?_eq_some_iff.1 hob).1
      obtain ⟨lo, hi⟩ := fr
      simp only at hf
      subst hf
      have h2 : w.heap[cb] = .cells cc elem (lo, lo) := by rw [Array.getElem?_eq_getElem hlt] at hob; exact Option.some.inj hob
      simp [hlt, h2]
    · simp [hj]
  refine ⟨?_, trivial⟩
  simp [convert, run_underlying hu, run_underlying hel, markStringish, hsh, hfr]
theorem setBlk_rel (hw : WRel P base ρ A w) {b : Nat} {i : Info} {x0 x : Blk} {ob : Obj} {w' : World} (hb : ρ b = some i) (hg : A.heap.get b = some x0)
    (h1 : w'.os = w.os) (h2 : w'.tape = w.tape) (h3 : w'.output = w.output) (h4 : w'.heap.size = w.heap.size) (h5 : ∀ k, k ≠ i.cb → w'.heap[k]? = w.heap[k]?)
    (h6 : w'.heap[i.cb]? = some ob) (h7 : BlkRel P ρ i x ob) : WRel P base ρ { A with heap := A.heap.set b x } w' ∧ Step base A.next ρ w ρ w' := by
  have hget : ∀ {b' x'}, (A.heap.set b x).get b' = some x' → ∃ y, A.heap.get b' = some y := by
    intro b' x' h
    rw [Tree.get_set] at h
    by_cases e : b' = b
    · subst e; exact ⟨_, hg⟩
    · rw [if_neg e] at h; exact ⟨_, h⟩
  refine ⟨⟨fun b' i' hb' => by rw [h4]; exact hw.dom b' i' hb', ?_, ?_, ?_, fun b' i' x' hb' hx => let ⟨y, e⟩ := hget hx; hw.lo b' i' y hb' e, base.low w w' (fun k hk => h5 k (fun e => by have := hw.lo b i _ hb hg; omega)) hw.inv⟩, ⟨h1, h2, h3, by omega, fun k _ hu => h5 k (fun e => hu b i hb e.symm), fun _ _ => rfl, fun b i h => .inl ⟨b, i, h, rfl⟩, fun k hk => h5 k (fun e => by have := hw.lo b i _ hb hg; omega)⟩⟩
  · intro b' i' x' hb' hx
    simp only [Tree.get_set] at hx
    by_cases e : b' = b
    · subst e
      rw [if_pos rfl] at hx
      cases hx
      rw [hb] at hb'; cases hb'
      exact ⟨ob, h6, h7⟩
    · rw [if_neg e] at hx
      obtain ⟨o', ho', hrel⟩ := hw.blk b' i' x' hb' hx
      exact ⟨o', by rw [h5 _ fun he => e (hw.sep _ _ _ _ _ _ hb' hb hx hg he)]; exact ho', hrel⟩
  · intro b1 b2 i1 i2 x1 x2 q1 q2 g1 g2 he
    obtain ⟨y1, e1⟩ := hget g1
    obtain ⟨y2, e2⟩ := hget g2
    exact hw.sep _ _ _ _ _ _ q1 q2 e1 e2 he
  · intro b' x' hx
    obtain ⟨y, e⟩ := hget hx
    exact hw.top _ _ e
theorem killBlk_rel (hw : WRel P base ρ A w) {b : Nat} {i : Info} {x0 : Blk} {w' : World} (hb : ρ b = some i) (hg : A.heap.get b = some x0)
    (h1 : w'.os = w.os) (h2 : w'.tape = w.tape) (h3 : w'.output = w.output) (h4 : w'.heap.size = w.heap.size) (h5 : ∀ k, k ≠ i.cb → w'.heap[k]? = w.heap[k]?) :
    WRel P base ρ { A with heap := A.heap.del b } w' ∧ Step base A.next ρ w ρ w' := by
  have hk := kill_rel hw b
  refine ⟨⟨fun b' i' hb' => by rw [h4]; exact hw.dom b' i' hb', ?_, hk.sep, hk.top, hk.lo, base.low w w' (fun k hk => h5 k (fun e => by have := hw.lo b i _ hb hg; omega)) hw.inv⟩, ⟨h1, h2, h3, by omega, fun k _ hu => h5 k (fun e => hu b i hb e.symm), fun _ _ => rfl, fun b i h => .inl ⟨b, i, h, rfl⟩, fun k hk => h5 k (fun e => by have := hw.lo b i _ hb hg; omega)⟩⟩
  intro b' i' x' hb' hx
  obtain ⟨o', ho', hrel⟩ := hk.blk b' i' x' hb' hx
  refine ⟨o', ?_, hrel⟩
  have hx' := hx
  rw [Tree.get_del] at hx'
  split at hx'
  · cases hx'
  · rename_i hne
    rw [h5 _ fun he => hne (hw.sep _ _ _ _ _ _ hb' hb hx' hg he)]; exact ho'
theorem loadBytes_run {w : World} : ∀ (ns : List Int) (a : Addr) (acc : ByteArray), (∀ j v, (ns.map fun n => Value.int .u8 n)[j]? = some v → w.cell? (a.add j) = some v) →
    (loadBytes a acc ns.length).run P w = .ok ⟨acc.data ++ (ns.map fun n => UInt8.ofNat n.toNat).toArray⟩ w
  | [], a, acc, _ => by simp [loadBytes]
  | x :: l, a, acc, h => by
    have h0 : w.cell? a = some (.int .u8 x) := by
      have := h 0 (.int .u8 x) rfl
      simpa [Addr.add] using this
    have ih := loadBytes_run l (a.add 1) (acc.push (UInt8.ofNat x.toNat)) (fun j y hy => by
      have := h (j + 1) y (by simpa using hy)
      have e : (a.add 1).add j = a.add (j + 1) := by
        unfold Addr.add
        by_cases hj : j = 0
        · subst hj; simp
        · simp [hj]; omega
      rw [e]; exact this)
    have hl : (load a).run P w = .ok (.int .u8 x) w := by simp [load, Sem.run, h0]
    simp only [List.length_cons, loadBytes, Sem.run_bind, hl, Result.andThen_ok]
    refine Eq.trans ih ?_
    congr 1
    apply ByteArray.ext
    simp [ByteArray.push]
theorem ent_nth {ρ : Ren} : ∀ {es : List (AV × AV × Nat)} {fs : List MapEntry} {i : Nat} {x : AV × AV × Nat}, EntRel ρ es fs → nth es i = some x → ∃ f, fs[i]? = some f ∧ VRel ρ x.1 f.key ∧ VRel ρ x.2.1 f.val ∧ f.born = x.2.2
  | [], _, _, _, _, h => by simp [nth] at h
  | _ :: _, [], _, _, h, _ => h.elim
  | (a, b, n) :: es, f :: fs, 0, x, h, hx => by
    simp [nth] at hx; subst hx
    exact ⟨f, rfl, h.1, h.2.1, h.2.2.1⟩
  | (a, b, n) :: es, f :: fs, i + 1, x, h, hx => by
    simp only [nth] at hx
    obtain ⟨g, h1, h2⟩ := ent_nth h.2.2.2 hx
    exact ⟨g, by simpa using h1, h2⟩
theorem ent_set {ρ : Ren} {k v : AV} {kv vv : Value} {born : Nat} (hk : VRel ρ k kv) (hv : VRel ρ v vv) : ∀ {es : List (AV × AV × Nat)} {fs : List MapEntry} {i : Nat} {f : MapEntry}, EntRel ρ es fs → fs[i]? = some f → f.born = born →
    EntRel ρ (setNth (k, v, born) es i) (fs.modify i fun e => { e with key := kv, val := vv })
  | [], [], _, _, _, h, _ => by simp at h
  | [], _ :: _, _, _, h, _, _ => h.elim
  | _ :: _, [], _, _, h, _, _ => h.elim
  | (a, b, n) :: es, g :: fs, 0, f, h, hf, hb => by
    simp at hf; subst hf
    exact ⟨hk, hv, hb, h.2.2.2⟩
  | (a, b, n) :: es, g :: fs, i + 1, f, h, hf, hb => by
    refine ⟨h.1, h.2.1, h.2.2.1, ?_⟩
    exact ent_set hk hv h.2.2.2 (by simpa using hf) hb
theorem ent_push {ρ : Ren} {k v : AV} {f : MapEntry} (hk : VRel ρ k f.key) (hv : VRel ρ v f.val) : ∀ {es : List (AV × AV × Nat)} {fs : List MapEntry}, EntRel ρ es fs → EntRel ρ (es ++ [(k, v, f.born)]) (fs ++ [f])
  | [], [], _ => ⟨hk, hv, rfl, trivial⟩
  | [], _ :: _, h => h.elim
  | _ :: _, [], h => h.elim
  | (a, b, n) :: es, g :: fs, h => ⟨h.1, h.2.1, h.2.2.1, ent_push hk hv h.2.2.2⟩
theorem updateA_run {kt et t : TypeId} {k v : AV} {kv vv : Value} {es : List (AV × AV × Nat)} {clock : Nat} {y : Blk} {r : Nat} {fs : Array MapEntry} (hu : P.underlying t = some (.map kt et)) (hk : VRel ρ k kv) (hv : VRel ρ v vv)
    (hob : w.heap[r]? = some (.map fs clock)) (hrel : EntRel ρ es fs.toList) (h : updateA P kt k v kv es clock = some y) :
    ∃ ob, (Instr.mapUpdate t (.map (some r)) kv vv).run P w = .ok () { w with heap := w.heap.setIfInBounds r ob } ∧ ∀ i, BlkRel P ρ i y ob := by
  have hg : (getObj r).run P w = .ok (.map fs clock) w := by simp [getObj, Sem.run, hob]
  have hs : ∀ ob, (setObj r ob).run P w = .ok () { w with heap := w.heap.setIfInBounds r ob } := fun ob => by
    simp only [setObj, Sem.run, hob]
  unfold updateA at h
  split at h <;> first | (cases h; done) | skip
  · rename_i j va hc hf
    split at h <;> first | (cases h; done) | skip
    rename_i ka va' born hn
    split at h <;> first | (cases h; done) | skip
    rename_i kold hko
    split at h <;> first | (cases h; done) | skip
    rename_i hsame
    cases h
    obtain ⟨r', hr, hfr⟩ := findKeyA_sound (w := w) hrel hf
    cases r' with
    | none => exact hfr.elim
    | some q =>
      obtain ⟨j', vq⟩ := q
      obtain ⟨rfl, _⟩ := hfr
      obtain ⟨f, hf1, hf2, hf3, hf4⟩ := ent_nth hrel hn
      have hkey := toVal_rel hf2 hko
      have hfj : fs[j']? = some f := by rw [← Array.getElem?_toList]; exact hf1
      refine ⟨.map (fs.modify j' fun e => { e with key := kv, val := vv }) clock, ?_, fun i => ⟨_, rfl, ?_⟩⟩
      · simp only [Instr.mapUpdate, Sem.run_bind, run_underlying hu, Result.andThen_ok, hg, pureRun_run hc w, hr, hfj, Option.map_some, Option.getD_some, hkey, Instr.keyThatStays, hsame, if_true, Sem.run_pure, hs]
      · rw [Array.toList_modify]
        exact ent_set hk hv hrel hf1 hf4
  · rename_i hc hf
    cases h
    obtain ⟨r', hr, hfr⟩ := findKeyA_sound (w := w) hrel hf
    cases r' with
    | some q => exact hfr.elim
    | none =>
      refine ⟨.map (fs.push { key := kv, val := vv, born := clock }) (clock + 1), ?_, fun i => ⟨_, rfl, ?_⟩⟩
      · simp only [Instr.mapUpdate, Sem.run_bind, run_underlying hu, Result.andThen_ok, hg, pureRun_run hc w, hr, hs]
      · rw [Array.toList_push]
        exact ent_push (f := { key := kv, val := vv, born := clock }) hk hv hrel
theorem effOp_sound (hng : XOk P X) (hw : WRel P base ρ A w) (hbase : base ≤ w.heap.size) (he : ∀ x ∈ o.op.operands, VRel ρ (e x) (c x)) {r : ONext} {A' : AW}
    (h : effOp P X o e A = some (r, A')) : Does P base ρ A w o c r A' := by
  cases hop : o.op
  case store t a x =>
    have ha : VRel ρ (e a) (c a) := he a (by rw [hop]; simp [Op.operands])
    have hx : VRel ρ (e x) (c x) := he x (by rw [hop]; simp [Op.operands])
    simp only [effOp, hop] at h
    split at h <;> first | cases h | skip
    rename_i b p n hea hs
    split at h <;> first | cases h | skip
    rename_i hn hst
    exact store_sound hw hop ha hx hea hs (beq_t hn) hst
  case convert src dst x =>
    have hx : VRel ρ (e x) (c x) := he x (by rw [hop]; simp [Op.operands])
    simp only [effOp, hop] at h
    split at h <;> first | (cases h; done) | skip
    rename_i el b p len cp hsd hu hex
    split at h <;> first | (cases h; done) | skip
    rename_i n tree zs elem hel hg
    cases h
    have hsd := beq_t hsd
    subst hsd
    rw [hex] at hx
    obtain ⟨i, cp', hb, hcx⟩ := slc_inv hx
    obtain ⟨ob, hob, cc, fr, rfl, hrow⟩ := hw.blk b i _ hb hg
    obtain ⟨hf1, hf2⟩ := hrow.mark rfl rfl
    obtain ⟨hq1, hq2⟩ := markRow (P := P) hob hf1 (e := .slice (some ⟨i.cb, i.sh + p, none⟩) len cp') hu hel
    have hlt := (Array.getElem?_eq_some_iff.1 hob).1
    obtain ⟨q1, q2⟩ := setBlk_rel hw (x := .row n tree zs false elem (n + 1)) (ob := .cells cc elem (cc.size, cc.size + 1)) hb hg (w' := { w with heap := w.heap.setIfInBounds i.cb (.cells cc elem (cc.size, cc.size + 1)) }) rfl rfl rfl (by simp)
      (fun j hj => by simp [Array.getElem?_setIfInBounds, Ne.symm hj]) (by simp [Array.getElem?_setIfInBounds, hlt])
      ⟨cc, _, rfl, ⟨hrow.size, hrow.val, fun k _ hk h2 => by omega, fun _ h0 => by omega, hrow.opn, hrow.sh0⟩⟩
    exact ⟨ρ, _, q2, q1, Nat.le_refl _, _, by simp only [execOp, hop, Sem.run_bind, hcx, hq1, Result.andThen_ok, Sem.run_pure], hcx ▸ hx⟩
  case call cl =>
    obtain ⟨callee, args, ts⟩ := cl
    cases callee with
    | builtin b =>
      cases b
      case append =>
        simp only [effOp, hop] at h
        split at h <;> first | cases h | skip
        rename_i t s x ht
        have hs : VRel ρ (e s) (c s) := he s (by rw [hop]; simp [Op.operands, Call.operands])
        have hx : VRel ρ (e x) (c x) := he x (by rw [hop]; simp [Op.operands, Call.operands])
        split at h <;> first | cases h | skip
        rename_i elem hu
        split at h <;> first | cases h | skip
        rename_i zeros hz
        split at h <;> first | cases h | skip
        rename_i v A1 hA
        refine (appendA_sound hw hbase hs hx (ty := o.type) ht hu hz hA).does fun v' w' hr => ?_
        simp only [execOp, hop, resolve, invoke, builtin, Sem.run_bind, Sem.run_pure, Result.andThen_ok]
        rw [show (Array.map c ⟨[s, x]⟩) = #[c s, c x] by simp, hr]
        rfl
      case copy =>
        simp only [effOp, hop] at h
        split at h <;> first | cases h | skip
        rename_i t s x ht
        have hs : VRel ρ (e s) (c s) := he s (by rw [hop]; simp [Op.operands, Call.operands])
        have hx : VRel ρ (e x) (c x) := he x (by rw [hop]; simp [Op.operands, Call.operands])
        split at h <;> first | cases h | skip
        rename_i elem hu
        split at h <;> first | cases h | skip
        rename_i size hsz
        split at h <;> first | cases h | skip
        rename_i v A1 hA
        exact copy_sound hw hop ht hu hsz hs hx hA
      case clear =>
        simp only [effOp, hop] at h
        split at h <;> first | cases h | skip
        rename_i t x ht
        have hx : VRel ρ (e x) (c x) := he x (by rw [hop]; simp [Op.operands, Call.operands])
        split at h <;> first | cases h | skip
        · rename_i elem b p n cap hu hex
          split at h <;> first | cases h | skip
          rename_i size zs hs hzs
          split at h <;> first | cases h | skip
          rename_i A1 hc hst
          simp only [Bool.and_eq_true] at hc
          have c1 := ble_t hc.1; have c2 := beq_t hc.2
          obtain ⟨it, z, hi, hz, hr⟩ := zerosOf_inv (ρ := ρ) hzs
          have hl := hr.length
          simp only [Array.length_toList] at hl
          rw [hex] at hx
          obtain ⟨i, cp, hb, hcx⟩ := slc_inv hx
          have hrel := rep_rel hr (by omega) n
          obtain ⟨w1, hrun, hw1, hstep, hnext⟩ := stores_rel hw hb hrel hst
          refine ⟨ρ, w1, hstep, hw1, by omega, .tuple #[], clear_run (t := t) hop ?_, .tup _ _ .nil⟩
          have hrun := hrun _ rfl
          cases n with
          | zero =>
            have he : (Builtin.zeroCells z.cells 0).toList = [] := by simp [Builtin.zeroCells]
            rw [he] at hrun
            simp only [storeCells, Sem.run_pure] at hrun
            cases hrun
            simp only [Builtin.clear_, ht, List.getElem?_toArray, List.getElem?_cons_zero, Sem.run_bind, run_underlying hu, Result.andThen_ok, hcx, Sem.run_pure]
          | succ n =>
            simp only [Builtin.clear_, ht, List.getElem?_toArray, List.getElem?_cons_zero, Sem.run_bind, run_underlying hu, Result.andThen_ok, hcx, zeroValue, typeInfo, run_program, hi, hz, Sem.run_pure, hrun]
        · rename_i elem b hu hex
          rw [hex] at hx
          generalize hcx : c x = cx at hx
          cases hx with
          | emp _ ad cp =>
          refine ⟨ρ, w, Step.refl _ _ _, hw, Nat.le_refl _, .tuple #[], clear_run (t := t) hop ?_, .tup _ _ .nil⟩
          simp only [Builtin.clear_, ht, List.getElem?_toArray, List.getElem?_cons_zero, Sem.run_bind, run_underlying hu, Result.andThen_ok, hcx, Sem.run_pure]
      case unsafeString =>
        simp only [effOp, hop] at h
        split at h <;> first | (cases h; done) | skip
        rename_i t x n ht
        have hx : VRel ρ (e x) (c x) := he x (by rw [hop]; simp [Op.operands, Call.operands])
        have hn : VRel ρ (e n) (c n) := he n (by rw [hop]; simp [Op.operands, Call.operands])
        have run : ∀ {u w'}, (Builtin.unsafeString_ ts o.type #[c x, c n]).run P w = .ok u w' → (execOp c o).run P w = .ok (.value u) w' := by
          intro u w' hu
          simp only [execOp, hop, resolve, invoke, builtin, Sem.run_bind, Sem.run_pure, Result.andThen_ok]
          rw [show (Array.map c ⟨[x, n]⟩) = #[c x, c n] by simp, hu]
          rfl
        split at h <;> first | (cases h; done) | skip
        rename_i el hu
        split at h <;> first | (cases h; done) | skip
        · rename_i b p k hel hex hen
          split at h <;> first | (cases h; done) | skip
          rename_i kn tree zs opn elem fz xs hg hl
          split at h <;> first | (cases h; done) | skip
          rename_i s hs hlies hk
          cases h
          have hk := ble_t hk
          rw [hex] at hx
          obtain ⟨i, hb, hcx⟩ := ptr_inv hx
          obtain ⟨ob, hob, cc, fr, rfl, hrow⟩ := hw.blk b i _ hb hg
          have hsize := hrow.size
          have hsh := hrow.sh0
          obtain ⟨vs, hr, hlen, hcell⟩ := loads_rel hw hb hl
          unfold bytesOf at hs
          split at hs <;> first | (cases hs; done) | skip
          rename_i l hl2
          obtain ⟨ns, rfl, rfl⟩ := bytesOf_rel hr hl2
          cases hs
          obtain ⟨kd, hcn⟩ : ∃ kd, c n = .int kd (k + 1 : Nat) := by
            unfold natOf at hen
            split at hen
            · rename_i kd m hm
              cases hen
              rw [hm] at hn
              exact ⟨kd, (sc_inv hn).1⟩
            · cases hen
          obtain ⟨q1, q2⟩ := killBlk_rel hw hb hg (w' := w.freeze ⟨i.cb, i.sh + p, none⟩ (k + 1)) (by simp [World.freeze]) (by simp [World.freeze]) (by simp [World.freeze]) (by simp [World.freeze]) (fun j hj => by
            simp only [World.freeze, Nat.add_eq_zero_iff, Nat.one_ne_zero, and_false, if_false, Array.getElem?_modify]
            rw [if_neg (fun e => hj e.symm)])
          refine ⟨ρ, _, q2, q1, Nat.le_refl _, .string _, run ?_, .sc _ rfl⟩
          have h0 : (variablesAt ⟨i.cb, i.sh + p, none⟩ el (k + 1)).run P w = .ok true w :=
            variablesAt_run (count := kn / P.cellsOf elem) hob (Nat.div_le_div_right (by omega)) (by show liesAt P P.depth elem _ (i.sh + p) el (k + 1) = true; rw [show i.sh + p = p by omega]; exact hlies)
          have h1 : (loadBytes ⟨i.cb, i.sh + p, none⟩ .empty (k + 1)).run P w = .ok ⟨⟨ns.map fun n => UInt8.ofNat n.toNat⟩⟩ w := by
            have := loadBytes_run (P := P) ns ⟨i.cb, i.sh + p, none⟩ .empty hcell
            rw [List.length_map] at hlen
            rw [hlen] at this
            rw [this]
            have he0 : ByteArray.empty.data = #[] := rfl
            simp [he0]
          have hmax : ¬ (((k + 1 : Nat) : Int) > IntKind.i64.max) := by
            have : IntKind.i64.max = 9223372036854775807 := by decide
            omega
          have hel2 : (elemOf t).run P w = .ok el w := by simp [elemOf, run_underlying hu]
          rw [hcx, hcn]
          obtain ⟨e1, e2, e3, e4, hdef⟩ : ∃ e1 e2 e3 e4 : String, Builtin.unsafeString_ ts o.type #[.pointer (some ⟨i.cb, i.sh + p, none⟩), .int kd (k + 1 : Nat)] =
              (do
                let n ← asInt (.int kd (k + 1 : Nat))
                let some pt := ts[0]? | stuck e1
                if n < 0 then runtimePanic (.error e2)
                if n > IntKind.i64.max then unsupported (.unsafePointer e3)
                if n = 0 then pure (.string .empty)
                else if ← variablesAt ⟨i.cb, i.sh + p, none⟩ (← elemOf pt) n.toNat then do
                  let s ← loadBytes ⟨i.cb, i.sh + p, none⟩ .empty n.toNat
                  freeze ⟨i.cb, i.sh + p, none⟩ n.toNat
                  pure (.string s)
                else unsupported (.unsafePointer e4)):= ⟨_, _, _, _, rfl⟩
          have hneg : ¬ ((k + 1 : Nat) : Int) < 0 := by omega
          have hnz : ¬ ((k + 1 : Nat) : Int) = 0 := by omega
          have has : asInt (.int kd (k + 1 : Nat)) = pure ((k + 1 : Nat) : Int) := rfl
          rw [hdef, has]
          simp only [ht, Sem.run_bind, Sem.run_pure, Result.andThen_ok, if_neg hneg, if_neg hmax, if_neg hnz, hel2, Int.toNat_natCast, h0, if_true, h1, freeze, Sem.run]
        · rename_i hel hex hen
          cases h
          rw [hex] at hx
          have hcx := (sc_inv hx).1
          obtain ⟨kd, hcn⟩ : ∃ kd, c n = .int kd (0 : Nat) := by
            unfold natOf at hen
            split at hen
            · rename_i kd m hm
              cases hen
              rw [hm] at hn
              exact ⟨kd, (sc_inv hn).1⟩
            · cases hen
          refine ⟨ρ, w, Step.refl _ _ _, hw, Nat.le_refl _, .string ⟨⟨[]⟩⟩, run ?_, .sc _ rfl⟩
          have hmax : ¬ (((0 : Nat) : Int) > IntKind.i64.max) := by
            have : IntKind.i64.max = 9223372036854775807 := by decide
            omega
          rw [hcx, hcn]
          obtain ⟨e1, e2, e3, e4, hdef⟩ : ∃ e1 e2 e3 e4 : String, Builtin.unsafeString_ ts o.type #[.pointer none, .int kd (0 : Nat)] =
              (do
                let n ← asInt (.int kd (0 : Nat))
                let some pt := ts[0]? | stuck e1
                if n < 0 then runtimePanic (.error e2)
                if n > IntKind.i64.max then unsupported (.unsafePointer e3)
                if n = 0 then pure (.string .empty)
                else runtimePanic (.error e4)):= ⟨_, _, _, _, rfl⟩
          have hneg : ¬ ((0 : Nat) : Int) < 0 := by omega
          have hnz : ((0 : Nat) : Int) = 0 := rfl
          have has : asInt (.int kd (0 : Nat)) = pure ((0 : Nat) : Int) := rfl
          rw [hdef, has]
          simp only [ht, Sem.run_bind, Sem.run_pure, Result.andThen_ok, if_neg hneg, if_neg hmax, if_pos hnz]
          rfl
      all_goals (simp only [effOp, hop] at h; cases h)
    | value f =>
      simp only [effOp, hop] at h
      have hf : VRel ρ (e f) (c f) := he f (by rw [hop]; simp [Op.operands, Call.operands])
      have ha : ∀ x ∈ args.toList, VRel ρ (e x) (c x) := fun x hx => he x (by rw [hop]; simp [Op.operands, Call.operands]; exact .inr (by simpa using hx))
      split at h <;> first | cases h | skip
      rename_i g first captured hef
      rw [hef] at hf
      generalize hcf : c f = cf at hf
      cases hf with
      | fn _ _ _ us vs hp hfi hca =>
      have hargs : LRel ρ (first ++ args.toList.map e ++ captured) (us ++ args.toList.map c ++ vs) := (hfi.append (LRel.ofAll _ ha)).append hca
      have hrun : (execOp c o).run P w = (callFunc g ⟨us ++ args.toList.map c ++ vs⟩).run P w := by
        simp only [execOp, hop, resolve, hcf, Deferred.ofValue, invoke, Sem.run_bind, Sem.run_pure, Result.andThen_ok]
        congr 2
        apply Array.ext'
        simp
      split at h
      · rename_i hov
        split at h <;> first | (cases h; done) | skip
        rename_i v hv
        cases h
        obtain ⟨fn, t, elem, size, tr, g1, g2, g3, g4, g5, g6⟩ := hng.overl g hov
        obtain ⟨rfl, hrun2⟩ := overlaps_run hw hargs hv g5 g6 (tr := tr)
        exact ⟨ρ, w, Step.refl _ _ _, hw, Nat.le_refl _, .bool false, by rw [hrun]; exact noBody_runIn g1 (hng.ng _ _ g1) g2 g3 g4 hrun2, .sc _ rfl⟩
      · rename_i hno
        split at h <;> first | (cases h; done) | skip
        rename_i v hv
        cases h
        rw [hv] at hargs
        obtain ⟨fn, g1, g2, g3, g4⟩ := hng.noesc g hno
        generalize us ++ args.toList.map c ++ vs = al at hargs hrun
        cases hargs with
        | cons _ u _ us2 h1 hr =>
        cases hr
        exact ⟨ρ, w, Step.refl _ _ _, hw, Nat.le_refl _, u, by rw [hrun]; exact noBody_runIn g1 (hng.ng _ _ g1) g2 g3 g4 rfl, h1⟩
      split at h <;> first | cases h | skip
      rename_i r' hr'
      unfold enterA at hr'
      split at hr' <;> first | cases hr' | skip
      rename_i fn hfn
      split at hr'
      · rename_i cd hcd
        cases hr'
        exact ⟨ρ, w, Step.refl _ _ _, hw, Nat.le_refl _, _, by rw [hrun]; exact body_run hfn (hng.ng _ _ hfn) hcd w, hargs⟩
      · rename_i hcd
        split at hr' <;> first | cases hr' | skip
        rename_i h1
        split at hr' <;> first | cases hr' | skip
        rename_i s ws h2 hws
        split at hr' <;> first | cases hr' | skip
        rename_i v hv
        split at hr' <;> first | cases hr' | skip
        rename_i x hx
        have hval := toCellsV hargs hws
        refine ⟨ρ, w, Step.refl _ _ _, hw, Nat.le_refl _, v, ?_, ofVal_rel hx⟩
        rw [hrun, hval]
        exact noBody_run hfn (hng.ng _ _ hfn) hcd h1 h2 (fun w => pureRun_run hv w) w
    | invoke r m => simp only [effOp, hop] at h; cases h
  case next it str =>
    have hx : VRel ρ (e it) (c it) := he it (by rw [hop]; simp [Op.operands])
    cases str
    · simp only [effOp, hop] at h; cases h
    simp only [effOp, hop] at h
    split at h <;> first | (cases h; done) | skip
    rename_i b hex
    split at h <;> first | (cases h; done) | skip
    rename_i s pos hg
    rw [hex] at hx
    obtain ⟨i, hb, hcx⟩ := ptr_inv hx
    obtain ⟨ob, hob, hsh, rfl⟩ := hw.blk b i _ hb hg
    have hget : (getObj i.cb).run P w = .ok (.stringIter s pos) w := by simp [getObj, Sem.run, hob]
    have hcx' : c it = .pointer (some ⟨i.cb, 0, none⟩) := by rw [hcx, hsh]
    split at h
    · rename_i hlt
      cases h
      have hlt : pos < s.size := by
        have := ble_t hlt
        rw [Array.length_toList] at this
        exact this
      obtain ⟨q1, q2⟩ := setBlk_rel hw (x := .siter s (pos + (Utf8.decode s pos).2)) hb hg (w' := { w with heap := w.heap.setIfInBounds i.cb (.stringIter s (pos + (Utf8.decode s pos).2)) }) rfl rfl rfl (by simp)
        (fun j hj => by simp [Array.getElem?_setIfInBounds, Ne.symm hj]) (by
          have := (Array.getElem?_eq_some_iff.1 hob).1
          simp [Array.getElem?_setIfInBounds, this]) ⟨hsh, rfl⟩
      refine ⟨ρ, _, q2, q1, Nat.le_refl _, .tuple #[.bool true, .int .i64 pos, .int .i32 (Utf8.decode s pos).1], ?_, .tup _ _ (.cons _ _ _ _ (.sc _ rfl) (.cons _ _ _ _ (.sc _ rfl) (.cons _ _ _ _ (.sc _ rfl) .nil)))⟩
      simp only [execOp, hop, Instr.next, hcx', Sem.run_bind, hget, Result.andThen_ok]
      rw [if_pos hlt]
      simp only [Sem.run_bind, setObj, Sem.run, hob, Result.andThen_ok, Sem.run_pure, goInt]
    · rename_i hlt
      cases h
      have hlt : ¬ pos < s.size := by
        have := ble_f hlt
        rw [Array.length_toList] at this
        intro h
        exact this h
      refine ⟨ρ, w, Step.refl _ _ _, hw, Nat.le_refl _, .tuple #[.bool false], ?_, .tup _ _ (.cons _ _ _ _ (.sc _ rfl) .nil)⟩
      simp only [execOp, hop, Instr.next, hcx', Sem.run_bind, hget, Result.andThen_ok]
      rw [if_neg hlt]
      rfl
  case mapUpdate t m k x =>
    have hm : VRel ρ (e m) (c m) := he m (by rw [hop]; simp [Op.operands])
    have hk : VRel ρ (e k) (c k) := he k (by rw [hop]; simp [Op.operands])
    have hx : VRel ρ (e x) (c x) := he x (by rw [hop]; simp [Op.operands])
    simp only [effOp, hop] at h
    split at h <;> first | (cases h; done) | skip
    rename_i kt et b kv hu hem hkv
    rw [hem] at hm
    have hck := toVal_rel hk hkv
    rw [hck] at hk
    split at h <;> first | (cases h; done) | skip
    rename_i es clock hg
    split at h <;> first | (cases h; done) | skip
    rename_i y hy
    cases h
    generalize hcm : c m = um at hm
    cases hm with
    | map _ i hb =>
      obtain ⟨ob, hob, fs, rfl, hrel⟩ := hw.blk b i _ hb hg
      obtain ⟨ob', hrun, hblk⟩ := updateA_run hu hk hx hob hrel hy
      obtain ⟨q1, q2⟩ := setBlk_rel hw (x := y) hb hg (w' := { w with heap := w.heap.setIfInBounds i.cb ob' }) rfl rfl rfl (by simp)
        (fun j hj => by simp [Array.getElem?_setIfInBounds, Ne.symm hj]) (by
          have := (Array.getElem?_eq_some_iff.1 hob).1
          simp [Array.getElem?_setIfInBounds, this]) (hblk i)
      refine ⟨ρ, _, q2, q1, Nat.le_refl _, ?_⟩
      simp only [execOp, hop, hck, hcm, Sem.run_bind, hrun, Result.andThen_ok]
      rfl
  all_goals (simp only [effOp, hop] at h; cases h)
 where
  toCellsV {ρ : Ren} : ∀ {xs : List AV} {us vs : List Value}, LRel ρ xs vs → mapO toVal xs = some us → vs = us
  | [], us, _, h, hu => by simp [mapO] at hu; subst hu; exact h.nil_inv
  | x :: xs, us, _, .cons _ v _ vs a b, hu => by
    simp only [mapO] at hu
    split at hu
    · rename_i y hy
      split at hu
      · rename_i ys hys
        cases hu
        rw [toVal_rel a hy, toCellsV b hys]
      · cases hu
    · cases hu
end
end Go.Ab
set_option linter.unusedVariables false
set_option linter.unusedSimpArgs false
namespace Go.Ab
open Go Go.RowKit
structure ARel (ρ : Ren) (nt : Nat) (T : Tree AV) (a : Act) : Prop where
  size : a.tmps.size = nt
  val : ∀ t, VRel ρ ((T.get t).getD .top) (a.tmps.getD t undef)
  defers : a.defers = []
theorem ARel.mono {ρ ρ' : Ren} {nt : Nat} {T : Tree AV} {a : Act} (h : ρ.le ρ') (k : ARel ρ nt T a) : ARel ρ' nt T a :=
  ⟨k.size, fun t => (k.val t).mono h, k.defers⟩
section
variable {P : Program} {X : Ext} {base : Base} {ρ : Ren} {A : AW} {w : World} {nt : Nat} {T : Tree AV} {a : Act}
theorem evalT_rel (h : ARel ρ nt T a) (x : Operand) : VRel ρ (evalT T x) (a.eval x) := by
  cases x with
  | tmp t => exact h.val t
  | const v =>
    simp only [evalT, Act.eval]
    cases hv : ofVal v with
    | none => exact .top _
    | some u => exact ofVal_rel hv
  | global g => exact .top _
  | func f => exact .fn _ _ _ _ _ rfl .nil .nil
theorem getD_set (ts : Array Value) (d t : Nat) (v : Value) (hd : d < ts.size) : (ts.setIfInBounds d v).getD t undef = if t = d then v else ts.getD t undef := by
  simp only [Array.getD_eq_getD_getElem?, Array.getElem?_setIfInBounds]
  by_cases e : d = t
  · subst e; simp [hd]
  · rw [if_neg e, if_neg (fun h => e h.symm)]
theorem put_rel (h : ARel ρ nt T a) {d : Option Tmp} {v : AV} {v' : Value} {T' : Tree AV} (hv : VRel ρ v v') (hp : putT nt T d v = some T') : ARel ρ nt T' (a.put d v') := by
  cases d with
  | none => simp only [putT] at hp; cases hp; exact h
  | some d =>
    simp only [putT] at hp
    split at hp <;> first | cases hp | skip
    rename_i hb
    have hb := ble_t hb
    refine ⟨by simp only [Act.put, Array.size_setIfInBounds]; exact h.size, fun t => ?_, h.defers⟩
    simp only [Act.put]
    rw [getD_set _ _ _ _ (by rw [h.size]; omega), Tree.get_set]
    by_cases e : t = d
    · rw [if_pos e, if_pos e]; exact hv
    · rw [if_neg e, if_neg e]; exact h.val t
theorem wanted_rel (h : ARel ρ nt T a) {ops : Array Oper} {o : Oper} {b : Bool} (hw : wantedA ops T o = some b) : Region.wanted o (yielded ops a.tmps) = b := by
  unfold wantedA at hw
  unfold Region.wanted
  split at hw
  · rename_i hg; simp only [hg]; cases hw; rfl
  · rename_i j want hg
    simp only [hg]
    split at hw <;> first | cases hw | skip
    rename_i d hd
    have hv := h.val d
    unfold yielded
    rw [hd]
    simp only [Option.bind_some]
    split at hw <;> first | cases hw | skip
    · rename_i t ht
      rw [ht] at hv
      have hc := (sc_inv hv).1
      have : a.tmps[d]? = some (.bool t) := by
        rw [Array.getD_eq_getD_getElem?] at hc
        cases hx : a.tmps[d]? with
        | none => rw [hx] at hc; simp [undef] at hc
        | some y => rw [hx] at hc; simp at hc; rw [hc]
      rw [this]
      simp
    · rename_i ht
      rw [ht] at hv
      obtain ⟨vs, hc, hr⟩ := tup_inv hv
      cases hr
      have : ∀ t, a.tmps[d]? ≠ some (.bool t) := by
        intro t hx
        rw [Array.getD_eq_getD_getElem?, hx] at hc
        simp at hc
      split
      · rename_i hx; exact absurd hx (this _)
      · rfl
def CallOk (P : Program) (base : Base) (call : CallF) : Prop :=
  ∀ f args A v A', call f args A = some (v, A') → ∀ (ρ : Ren) (w : World) (us : List Value), LRel ρ args us → WRel P base ρ A w → base ≤ w.heap.size →
    Calls P f ⟨us⟩ w fun e w' => ∃ ρ' v', e = .returned v' ∧ Step base A.next ρ w ρ' w' ∧ WRel P base ρ' A' w' ∧ A.next ≤ A'.next ∧ VRel ρ' v v'
theorem op_gives (o : Oper) {v' : Value} {w' : World} {K : Act → World → Prop} {Q : Exit → Act → World → Prop} (hr : (execOp a.eval o).run P w = .ok (.value v') w') (h : K (a.put o.dst v') w') : o.wp P a w K Q := by
  unfold Oper.wp; rw [hr]; exact h
theorem op_skips (o : Oper) {w' : World} {K : Act → World → Prop} {Q : Exit → Act → World → Prop} (hr : (execOp a.eval o).run P w = .ok .skip w') (h : K (a.put o.dst undef) w') : o.wp P a w K Q := by
  unfold Oper.wp; rw [hr]; exact h
theorem op_enters (o : Oper) {f : FuncId} {args : Array Value} {w' : World} {K : Act → World → Prop} {Q : Exit → Act → World → Prop} {R : Ending → World → Prop} (hr : (execOp a.eval o).run P w = .ok (.enter f args) w')
    (hc : Calls P f args w' R) (h : ∀ e w'', R e w'' → ∃ v, e = .returned v ∧ K (a.put o.dst v) w'') : o.wp P a w K Q := by
  unfold Oper.wp; rw [hr]
  exact hc.mono fun e w'' hR => by
    obtain ⟨v, rfl, hk⟩ := h e w'' hR
    exact hk
theorem makes_rel (hw : WRel P base ρ A w) (hbase : base ≤ w.heap.size) {o : Oper} {c : Operand → Value} {x : Blk} {mk : Nat → AV} (h : Makes P ρ w o c x mk) :
    ∃ ρ' w' u, (execOp c o).run P w = .ok (.value u) w' ∧ WRel P base ρ' (A.push x) w' ∧ Step base A.next ρ w ρ' w' ∧ VRel ρ' (mk A.next) u := by
  obtain ⟨d, ob, u, i, hrun, hi, hrel, hv⟩ := h
  have hb : ρ A.next = none := hw.fresh (Nat.le_refl _)
  have hd : WRel P base ρ A (if d = true then w.drew else w) := by cases d <;> simp [hw, hw.drew]
  have hsz : (if d = true then w.drew else w).heap.size = w.heap.size := by cases d <;> simp
  have hst : Step base A.next ρ w ρ (if d = true then w.drew else w) := by cases d <;> simp [Step.refl, Step.drew]
  obtain ⟨h1, h2⟩ := alloc_rel hd (by omega) (i := i) (by omega) (hrel.mono (Ren.le_add hb))
  exact ⟨_, _, u, hrun, h1, hst.trans h2 (Nat.le_refl _), hv _ _ (by simp [Ren.add])⟩
theorem opA_sound (hng : XOk P X) {call : CallF} (hc : CallOk P base call) (hA : ARel ρ nt T a) (hw : WRel P base ρ A w) (hbase : base ≤ w.heap.size)
    {o : Oper} {T' : Tree AV} {A' : AW} (h : opA P X call nt o T A = some (T', A')) {K : Act → World → Prop} {Q : Exit → Act → World → Prop}
    (hK : ∀ ρ' a' w', Step base A.next ρ w ρ' w' → ARel ρ' nt T' a' → WRel P base ρ' A' w' → A.next ≤ A'.next → K a' w') : o.wp P a w K Q := by
  have he : ∀ x ∈ o.op.operands, VRel ρ (evalT T x) (a.eval x) := fun x _ => evalT_rel hA x
  have fin : ∀ {ρ' : Ren} {w' : World} {v : AV} {v' : Value} {A1 : AW}, andPut nt T o.dst v A1 = some (T', A') → Step base A.next ρ w ρ' w' → WRel P base ρ' A1 w' → A.next ≤ A1.next → VRel ρ' v v' → K (a.put o.dst v') w' := by
    intro ρ' w' v v' A1 hp hs hw1 hn hv
    unfold andPut at hp
    split at hp <;> first | cases hp | skip
    rename_i hput
    exact hK ρ' _ w' hs (put_rel (hA.mono (hs.le hw)) hv hput) hw1 hn
  unfold opA at h
  split at h
  · split at h <;> first | cases h | skip
    rename_i v hv
    obtain ⟨v', h1, h2⟩ := pureOp_sound he hv
    exact op_gives o (h1 w) (fin h (Step.refl _ _ _) hw (Nat.le_refl _) h2)
  · split at h <;> first | cases h | skip
    rename_i v hv
    obtain ⟨v', h1, h2⟩ := loadOp_sound hw he hv
    exact op_gives o h1 (fin h (Step.refl _ _ _) hw (Nat.le_refl _) h2)
  · split at h <;> first | cases h | skip
    rename_i x mk hx
    obtain ⟨ρ', w', u, h1, h2, h3, h4⟩ := makes_rel hw hbase (allocOp_sound he hx w)
    exact op_gives o h1 (fin h h3 h2 (by simp [AW.push]) h4)
  · split at h <;> first | cases h | skip
    · rename_i v A1 hx
      obtain ⟨ρ', w', h1, h2, h3, v', h4, h5⟩ := effOp_sound hng hw hbase he hx
      exact op_gives o h4 (fin h h1 h2 h3 h5)
    · rename_i A1 hx
      obtain ⟨ρ', w', h1, h2, h3, h4⟩ := effOp_sound hng hw hbase he hx
      exact op_skips o h4 (fin h h1 h2 h3 (.tup _ _ .nil))
    · rename_i f args A1 hx
      obtain ⟨ρ', w', h1, h2, h3, us, h4, h5⟩ := effOp_sound hng hw hbase he hx
      split at h <;> first | cases h | skip
      rename_i v A2 hcall
      refine op_enters o h4 (hc f args A1 v A2 hcall ρ' w' us h5 h2 (Nat.le_trans hbase h1.size)) fun e w'' hR => ?_
      obtain ⟨ρ2, v', rfl, k1, k2, k3, k4⟩ := hR
      exact ⟨v', rfl, fin h (h1.trans k1 h3) k2 (Nat.le_trans h3 k3) k4⟩
theorem opsA_sound (hng : XOk P X) {call : CallF} (hc : CallOk P base call) {ops : Array Oper} {Q : Exit → Act → World → Prop} {Tf : Tree AV} {Af : AW} :
    ∀ (l : List Oper) (i : Nat) {ρ : Ren} {A : AW} {w : World} {T : Tree AV} {a : Act}, ops.toList.drop i = l → ARel ρ nt T a → WRel P base ρ A w → base ≤ w.heap.size → opsA P X call nt ops l T A = some (Tf, Af) →
      (∀ ρ' a' w', Step base A.next ρ w ρ' w' → ARel ρ' nt Tf a' → WRel P base ρ' Af w' → A.next ≤ Af.next → Q .normal a' w') → wpOps P ops Q (List.range' i l.length) a w
  | [], i, ρ, A, w, T, a, _, hA, hw, _, h, hQ => by
    simp only [opsA] at h; cases h
    exact hQ ρ a w (Step.refl _ _ _) hA hw (Nat.le_refl _)
  | o :: rest, i, ρ, A, w, T, a, hl, hA, hw, hb, h, hQ => by
    have ho : ops[i]? = some o := by
      have : ops.toList[i]? = some o := by
        have h0 : (ops.toList.drop i)[0]? = some o := by rw [hl]; rfl
        rw [List.getElem?_drop] at h0; exact h0
      rw [← Array.getElem?_toList]; exact this
    have hl' : ops.toList.drop (i + 1) = rest := by
      rw [← List.drop_drop (i := 1) (j := i)] <;> rw [hl]; rfl
    rw [List.length_cons, List.range'_succ, wpOps_cons]
    unfold wpOp
    simp only [ho]
    simp only [opsA] at h
    split at h <;> first | cases h | skip
    · rename_i hwant
      rw [wanted_rel hA hwant]
      simp only [if_true]
      split at h <;> first | cases h | skip
      rename_i T1 A1 hop
      refine .inl (opA_sound hng hc hA hw hb hop fun ρ' a' w' s1 s2 s3 s4 => ?_)
      exact opsA_sound hng hc rest (i + 1) hl' s2 s3 (Nat.le_trans hb s1.size) h fun ρ2 a2 w2 k1 k2 k3 k4 => hQ ρ2 a2 w2 (s1.trans k1 s4) k2 k3 (Nat.le_trans s4 k4)
    · rename_i hwant
      rw [wanted_rel hA hwant]
      simp only [Bool.false_eq_true, if_false]
      split at h <;> first | cases h | skip
      rename_i T1 hput
      exact opsA_sound hng hc rest (i + 1) hl' (put_rel hA (.tup _ _ .nil) hput) hw hb h hQ
end
end Go.Ab
set_option linter.unusedVariables false
set_option linter.unusedSimpArgs false
namespace Go.Ab
open Go Go.RowKit
theorem plainEq_eq {v u : Value} (h : plainEq v u = true) : v = u := by
  unfold plainEq at h
  split at h <;> first | rfl | (cases h; done) | skip
  · simp at h; rw [h]
  · simp at h; rw [h.1, h.2]
  · rename_i a b
    simp only [decide_eq_true_eq] at h
    have : a.data = b.data := Array.ext' h
    cases a; cases b; simp at this; rw [this]
theorem capEq_eq {a b : Cap} (h : capEq a b = true) : a = b := by
  unfold capEq at h
  split at h <;> first | (cases h; done) | skip
  · rw [beq_t h]
  · rw [beq_t h]
theorem fnEq_eq {a b : Fn} (h : fnEq a b = true) : a = b := by
  unfold fnEq at h
  split at h <;> first | (cases h; done) | skip
  rw [beq_t h]
mutual
theorem avEq_eq : ∀ (x y : AV), avEq x y = true → x = y
  | .top, y, h => by cases y <;> simp [avEq] at h; rfl
  | .atl k, y, h => by
    cases y <;> simp only [avEq] at h <;> first | (cases h; done) | skip
    rw [beq_t h]
  | .sc v, y, h => by
    cases y <;> simp only [avEq] at h <;> first | (cases h; done) | skip
    rw [plainEq_eq h]
  | .ptr b o, y, h => by
    cases y <;> simp only [avEq, Bool.and_eq_true] at h <;> first | (cases h; done) | skip
    rw [beq_t h.1, beq_t h.2]
  | .slc b o l k, y, h => by
    cases y <;> simp only [avEq, Bool.and_eq_true] at h <;> first | (cases h; done) | skip
    rw [beq_t h.1.1.1, beq_t h.1.1.2, beq_t h.1.2, capEq_eq h.2]
  | .emp b, y, h => by
    cases y <;> simp only [avEq] at h <;> first | (cases h; done) | skip
    rw [beq_t h]
  | .map b, y, h => by
    cases y <;> simp only [avEq] at h <;> first | (cases h; done) | skip
    rw [beq_t h]
  | .fn f xs ys, y, h => by
    cases y <;> simp only [avEq, Bool.and_eq_true] at h <;> first | (cases h; done) | skip
    rw [fnEq_eq h.1.1, avsEq_eq _ _ h.1.2, avsEq_eq _ _ h.2]
  | .ifc t v, y, h => by
    cases y <;> simp only [avEq, Bool.and_eq_true] at h <;> first | (cases h; done) | skip
    rw [beq_t h.1, avEq_eq _ _ h.2]
  | .agg xs, y, h => by
    cases y <;> simp only [avEq] at h <;> first | (cases h; done) | skip
    rw [avsEq_eq _ _ h]
  | .tup xs, y, h => by
    cases y <;> simp only [avEq] at h <;> first | (cases h; done) | skip
    rw [avsEq_eq _ _ h]
theorem avsEq_eq : ∀ (xs ys : List AV), avsEq xs ys = true → xs = ys
  | [], ys, h => by cases ys <;> simp [avsEq] at h; rfl
  | x :: xs, ys, h => by
    cases ys with
    | nil => simp [avsEq] at h
    | cons y ys =>
      simp only [avsEq, Bool.and_eq_true] at h
      rw [avEq_eq _ _ h.1, avsEq_eq _ _ h.2]
end
theorem optEq_eq {x y : Option AV} (h : optEq x y = true) : x = y := by
  unfold optEq at h
  split at h <;> first | rfl | (cases h; done) | skip
  rw [avEq_eq _ _ h]
theorem treeEq_eq : ∀ (x y : Tree AV), treeEq x y = true → x = y
  | .leaf, y, h => by cases y <;> simp [treeEq] at h; rfl
  | .node l v r, y, h => by
    cases y with
    | leaf => simp [treeEq] at h
    | node l' v' r' =>
      simp only [treeEq, Bool.and_eq_true] at h
      rw [optEq_eq h.1.1, treeEq_eq _ _ h.1.2, treeEq_eq _ _ h.2]
theorem blkEq_eq {x y : Blk} (h : blkEq x y = true) : x = y := by
  unfold blkEq at h
  split at h <;> first | (cases h; done) | skip
  · simp only [Bool.and_eq_true, beq_iff_eq] at h
    rw [beq_t h.1.1.1.1.1, treeEq_eq _ _ h.1.1.1.1.2, avsEq_eq _ _ h.1.1.1.2, h.1.1.2, beq_t h.1.2, beq_t h.2]
  · rw [beq_t h]
theorem maskOf_bit {acc : List Nat} {j : Nat} : ∀ (es : List Edge), Nat.testBit (maskOf acc es) j = true → ∃ e ∈ es, Region.binds .any e = true ∧ (j = e.on ∨ ∃ m, acc[e.on]? = some m ∧ Nat.testBit m j = true)
  | [], h => by simp [maskOf] at h
  | e :: es, h => by
    simp only [maskOf] at h
    split at h
    · rename_i hb
      rw [Nat.testBit_or, Nat.testBit_or, Bool.or_eq_true, Bool.or_eq_true] at h
      rcases h with (h | h) | h
      · rw [Nat.testBit_two_pow] at h
        have h := of_decide_eq_true h
        exact ⟨e, .head _, hb, .inl h.symm⟩
      · rw [nth_getElem] at h
        cases hm : acc[e.on]? with
        | none => simp [hm] at h
        | some m => exact ⟨e, .head _, hb, .inr ⟨m, hm, by simpa [hm] using h⟩⟩
      · obtain ⟨e', h1, h2⟩ := maskOf_bit es h
        exact ⟨e', .tail _ h1, h2⟩
    · obtain ⟨e', h1, h2⟩ := maskOf_bit es h
      exact ⟨e', .tail _ h1, h2⟩
theorem masksGo_spec : ∀ (L : List Oper) (acc : List Nat), (∀ i, i < acc.length → (masksGo L acc)[i]? = acc[i]?) ∧
    ∀ j o, L[j]? = some o → ∃ pre, pre.length = acc.length + j ∧ (∀ i, i < acc.length + j → pre[i]? = (masksGo L acc)[i]?) ∧ (masksGo L acc)[acc.length + j]? = some (maskOf pre o.after.toList)
  | [], acc => ⟨fun _ _ => rfl, fun j o h => by simp at h⟩
  | x :: L, acc => by
    obtain ⟨h1, h2⟩ := masksGo_spec L (acc ++ [maskOf acc x.after.toList])
    simp only [masksGo]
    have hpre : ∀ i, i < acc.length → (masksGo L (acc ++ [maskOf acc x.after.toList]))[i]? = acc[i]? := fun i hi => by
      rw [h1 i (by simp; omega), List.getElem?_append_left hi]
    refine ⟨hpre, fun j o hj => ?_⟩
    cases j with
    | zero =>
      simp at hj; subst hj
      refine ⟨acc, rfl, fun i hi => (hpre i hi).symm, ?_⟩
      rw [Nat.add_zero, h1 acc.length (by simp)]
      simp
    | succ j =>
      obtain ⟨pre, a, b, c⟩ := h2 j o (by simpa using hj)
      simp only [List.length_append, List.length_singleton] at a b c
      exact ⟨pre, by omega, fun i hi => b i (by omega), by rw [show acc.length + (j + 1) = acc.length + 1 + j by omega]; exact c⟩
section
variable {L : List Oper} {S : Nat → Prop}
def Closed (L : List Oper) (S : Nat → Prop) : Prop := ∀ i o, L[i]? = some o → S i → ∀ e ∈ o.after.toList, Region.binds .any e = true → S e.on
theorem mask_closed (hS : Closed L S) : ∀ (i : Nat) (m : Nat), (masksGo L [])[i]? = some m → (∀ o, L[i]? = some o → ∀ e ∈ o.after.toList, Region.binds .any e = true → S e.on) → i < L.length → ∀ j, Nat.testBit m j = true → S j := by
  intro i
  induction i using Nat.strongRecOn with
  | _ i ih =>
    intro m hm hd hi j hj
    obtain ⟨pre, h1, h2, h3⟩ := (masksGo_spec L []).2 i L[i] (by simp [hi])
    simp only [List.length_nil, Nat.zero_add] at h1 h2 h3
    rw [hm] at h3
    cases h3
    obtain ⟨e, he, hb, hj⟩ := maskOf_bit _ hj
    have hon := hd L[i] (by simp [hi]) e he hb
    rcases hj with rfl | ⟨m', hm', hj⟩
    · exact hon
    · have hlt : e.on < i := by
        rcases Nat.lt_or_ge e.on pre.length with h | h
        · omega
        · rw [List.getElem?_eq_none h] at hm'; cases hm'
      rw [h2 e.on hlt] at hm'
      exact ih e.on hlt m' hm' (fun o ho e' he' hb' => hS e.on o ho hon e' he' hb') (by omega) j hj
end
theorem rowsGo_spec {P : Program} {es : List Nat} : ∀ (os : List Oper) (ms : List Nat) (i0 j : Nat) (r : Row), (rowsGo P es os ms i0)[j]? = some r →
    ∃ o m, os[j]? = some o ∧ ms[j]? = some m ∧ r = { i := i0 + j, o, m, lev := levGo m es 0 0, kd := kindOf P o }
  | [], _, _, _, _, h => by simp [rowsGo] at h
  | _ :: _, [], _, _, _, h => by simp [rowsGo] at h
  | o :: os, m :: ms, i0, 0, r, h => by
    simp only [rowsGo, List.getElem?_cons_zero, Option.some.injEq] at h
    exact ⟨o, m, rfl, rfl, by rw [← h]; rfl⟩
  | o :: os, m :: ms, i0, j + 1, r, h => by
    simp only [rowsGo, List.getElem?_cons_succ] at h
    obtain ⟨o', m', a, b, c⟩ := rowsGo_spec os ms (i0 + 1) j r h
    exact ⟨o', m', by simpa using a, by simpa using b, by rw [c]; congr 1; omega⟩
theorem rowsGo_get {P : Program} {es : List Nat} : ∀ (os : List Oper) (ms : List Nat) (i0 j : Nat) (o : Oper) (m : Nat), os[j]? = some o → ms[j]? = some m →
    (rowsGo P es os ms i0)[j]? = some { i := i0 + j, o, m, lev := levGo m es 0 0, kd := kindOf P o }
  | [], _, _, _, _, _, h, _ => by simp at h
  | _ :: _, [], _, _, _, _, _, h => by simp at h
  | o :: os, m :: ms, i0, 0, o', m', h, h' => by
    simp at h h'; subst h; subst h'; rfl
  | o :: os, m :: ms, i0, j + 1, o', m', h, h' => by
    simp only [rowsGo, List.getElem?_cons_succ]
    rw [rowsGo_get os ms (i0 + 1) j o' m' (by simpa using h) (by simpa using h')]
    congr 2; omega
theorem masksGo_length : ∀ (L : List Oper) (acc : List Nat), (masksGo L acc).length = acc.length + L.length
  | [], acc => by simp [masksGo]
  | x :: L, acc => by simp only [masksGo, masksGo_length L, List.length_append, List.length_cons, List.length_nil]; omega
theorem effsGo_mem {P : Program} : ∀ (L : List Oper) (i0 x : Nat), x ∈ effsGo P L i0 ↔ ∃ j o, L[j]? = some o ∧ x = i0 + j ∧ isEff (kindOf P o) = true
  | [], i0, x => by simp [effsGo]
  | o :: L, i0, x => by
    have ih := effsGo_mem (P := P) L (i0 + 1) x
    simp only [effsGo]
    split
    · rename_i hk
      rw [List.mem_cons, ih]
      constructor
      · rintro (rfl | ⟨j, o', a, b, c⟩)
        · exact ⟨0, o, rfl, rfl, hk⟩
        · exact ⟨j + 1, o', by simpa using a, by omega, c⟩
      · rintro ⟨j, o', a, b, c⟩
        cases j with
        | zero => exact .inl (by omega)
        | succ j => exact .inr ⟨j, o', by simpa using a, by omega, c⟩
    · rename_i hk
      rw [ih]
      constructor
      · rintro ⟨j, o', a, b, c⟩
        exact ⟨j + 1, o', by simpa using a, by omega, c⟩
      · rintro ⟨j, o', a, b, c⟩
        cases j with
        | zero => simp at a; subst a; rw [hk] at c; cases c
        | succ j => exact ⟨j, o', by simpa using a, by omega, c⟩
theorem wrGo_spec : ∀ (L : List Oper) (i0 : Nat) (t0 : Tree Nat) (t j : Nat), (wrGo L i0 t0).get t = some j → (∃ q o, L[q]? = some o ∧ j = i0 + q ∧ o.dst = some t) ∨ t0.get t = some j
  | [], _, _, _, _, h => .inr h
  | o :: L, i0, t0, t, j, h => by
    simp only [wrGo] at h
    rcases wrGo_spec L (i0 + 1) _ t j h with ⟨q, o', a, b, c⟩ | h
    · exact .inl ⟨q + 1, o', by simpa using a, by omega, c⟩
    · cases hd : o.dst with
      | none => rw [hd] at h; exact .inr h
      | some d =>
        rw [hd] at h
        simp only [Tree.get_set] at h
        split at h
        · rename_i e
          cases h
          exact .inl ⟨0, o, rfl, rfl, by rw [hd, e]⟩
        · exact .inr h
theorem edgesOk_spec : ∀ (L : List Oper) (i0 : Nat), edgesOk L i0 = true → ∀ j o, L[j]? = some o → ∀ e ∈ o.after.toList, Region.binds .any e = true → e.on < i0 + j
  | [], _, _, _, _, h => by simp at h
  | x :: L, i0, h, j, o, ho => by
    simp only [edgesOk, Bool.and_eq_true, List.all_eq_true] at h
    cases j with
    | zero =>
      simp at ho; subst ho
      intro e he hb
      have := h.1 e he
      rw [hb] at this
      simp only [Bool.not_true, Bool.false_or] at this
      have := ble_t this
      omega
    | succ j =>
      intro e he hb
      have := edgesOk_spec L (i0 + 1) h.2 j o (by simpa using ho) e he hb
      omega
theorem chainOk_spec {ms : List Nat} : ∀ (es done : List Nat), chainOk ms done es = true → ∀ l1 x l2, es = l1 ++ x :: l2 → ∀ y, y ∈ done ∨ y ∈ l1 → Nat.testBit ((ms[x]?).getD 0) y = true
  | [], _, _, l1, x, l2, h => by simp at h
  | z :: es, done, hc, l1, x, l2, he => by
    simp only [chainOk, Bool.and_eq_true, List.all_eq_true] at hc
    intro y hy
    cases l1 with
    | nil =>
      simp at he
      obtain ⟨rfl, _⟩ := he
      rcases hy with hy | hy
      · have := hc.1 y hy; rwa [nth_getElem] at this
      · simp at hy
    | cons z' l1 =>
      simp at he
      obtain ⟨rfl, he⟩ := he
      refine chainOk_spec es (z :: done) hc.2 l1 x l2 he y ?_
      rcases hy with hy | hy
      · exact .inl (.tail _ hy)
      · rcases List.mem_cons.1 hy with e | hy
        · exact .inl (by rw [e]; exact .head _)
        · exact .inr hy
theorem levGo_spec {m : Nat} : ∀ (es : List Nat) (r best : Nat), levGo m es r best = best ∨ ∃ q x, es[q]? = some x ∧ Nat.testBit m x = true ∧ levGo m es r best = r + q + 1
  | [], _, _ => .inl rfl
  | x :: es, r, best => by
    simp only [levGo]
    split
    · rename_i hb
      rcases levGo_spec (m := m) es (r + 1) (r + 1) with h | ⟨q, y, a, b, c⟩
      · exact .inr ⟨0, x, rfl, hb, h⟩
      · exact .inr ⟨q + 1, y, by simpa using a, b, by rw [c]; omega⟩
    · rcases levGo_spec (m := m) es (r + 1) best with h | ⟨q, y, a, b, c⟩
      · exact .inl h
      · exact .inr ⟨q + 1, y, by simpa using a, b, by rw [c]; omega⟩
theorem bidsOk_spec {s : RS} : ∀ (rows : List Row) (seen : List Nat), bidsOk s rows seen = true →
    (∀ (j : Nat) (r : Row) (b : Nat), rows[j]? = some r → s.bids.get r.i = some b → b ∉ seen) ∧
    ∀ (j1 j2 : Nat) (r1 r2 : Row) (b : Nat), rows[j1]? = some r1 → rows[j2]? = some r2 → s.bids.get r1.i = some b → s.bids.get r2.i = some b → j1 = j2
  | [], _, _ => ⟨fun j r b h => by simp at h, fun j1 j2 r1 r2 b h => by simp at h⟩
  | r :: rows, seen, h => by
    simp only [bidsOk] at h
    split at h
    · rename_i hn
      obtain ⟨h1, h2⟩ := bidsOk_spec rows seen h
      refine ⟨fun j r' b hj hb => ?_, fun j1 j2 r1 r2 b a1 a2 b1 b2 => ?_⟩
      · cases j with
        | zero => simp at hj; subst hj; rw [hn] at hb; cases hb
        | succ j => exact h1 j r' b (by simpa using hj) hb
      · cases j1 with
        | zero => simp at a1; subst a1; rw [hn] at b1; cases b1
        | succ j1 => cases j2 with
          | zero => simp at a2; subst a2; rw [hn] at b2; cases b2
          | succ j2 => rw [h2 j1 j2 r1 r2 b (by simpa using a1) (by simpa using a2) b1 b2]
    · rename_i b0 hb0
      simp only [Bool.and_eq_true, Bool.not_eq_true', List.any_eq_false] at h
      obtain ⟨h1, h2⟩ := bidsOk_spec rows (b0 :: seen) h.2
      have hns : b0 ∉ seen := fun hm => by
        have := h.1 b0 hm
        rw [show Nat.beq b0 b0 = true from by simp] at this
        exact this rfl
      refine ⟨fun j r' b hj hb => ?_, fun j1 j2 r1 r2 b a1 a2 b1 b2 => ?_⟩
      · cases j with
        | zero => simp at hj; subst hj; rw [hb0] at hb; cases hb; exact hns
        | succ j => exact fun hm => h1 j r' b (by simpa using hj) hb (.tail _ hm)
      · cases j1 with
        | zero =>
          simp at a1; subst a1
          rw [hb0] at b1; cases b1
          cases j2 with
          | zero => rfl
          | succ j2 => exact absurd (.head _) (h1 j2 r2 b0 (by simpa using a2) b2)
        | succ j1 => cases j2 with
          | zero =>
            simp at a2; subst a2
            rw [hb0] at b2; cases b2
            exact absurd (.head _) (h1 j1 r1 b0 (by simpa using a1) b1)
          | succ j2 => rw [h2 j1 j2 r1 r2 b (by simpa using a1) (by simpa using a2) b1 b2]
end Go.Ab
set_option linter.unusedVariables false
set_option linter.unusedSimpArgs false
namespace Go.Ab
open Go Go.RowKit
structure Tab (P : Program) (nt : Nat) (ops : Array Oper) (ri : RI) : Prop where
  ms : ri.ms = masksGo ops.toList []
  es : ri.es = effsGo P ops.toList 0
  rows : ri.rows = rowsGo P ri.es ops.toList ri.ms 0
  edges : ∀ (j : Nat) (o : Oper), ops.toList[j]? = some o → ∀ e ∈ o.after.toList, Region.binds .any e = true → e.on < j
  chain : ∀ l1 x l2, ri.es = l1 ++ x :: l2 → ∀ y, y ∈ l1 → Nat.testBit ((ri.ms[x]?).getD 0) y = true
  dst : ∀ (j : Nat) (r : Row), ri.rows[j]? = some r → ∀ d, r.o.dst = some d → ri.wr.get d = some r.i ∧ d < nt
  wrs : ∀ t j, ri.wr.get t = some j → ∃ o, ops.toList[j]? = some o ∧ o.dst = some t
theorem regionInfo_tab {P : Program} {nt : Nat} {ops : Array Oper} {ri : RI} (h : regionInfo P nt ops = some ri) : Tab P nt ops ri := by
  unfold regionInfo at h
  simp only at h
  split at h <;> first | cases h | skip
  rename_i hc
  simp only [Bool.and_eq_true, List.all_eq_true] at hc
  obtain ⟨⟨h1, h2⟩, h3⟩ := hc
  refine ⟨rfl, rfl, rfl, fun j o ho e he hb => ?_, fun l1 x l2 he y hy => ?_, fun j r hr d hd => ?_, fun t j ht => ?_⟩
  · have := edgesOk_spec _ _ h1 j o ho e he hb; omega
  · exact chainOk_spec _ _ h2 l1 x l2 he y (.inr hy)
  · have := h3 r (List.mem_of_getElem? hr)
    rw [hd] at this
    simp only [Bool.and_eq_true] at this
    have h5 := ble_t this.2
    have h4 := this.1
    split at h4
    · rename_i j' hj'; rw [hj', beq_t h4]; exact ⟨rfl, h5⟩
    · cases h4
  · rcases wrGo_spec _ _ _ _ _ ht with ⟨q, o, a, b, c⟩ | h
    · exact ⟨o, by rw [b, Nat.zero_add]; exact a, c⟩
    · simp [Tree.get] at h
section
variable {P : Program} {X : Ext} {base : Base} {nt : Nat} {ops : Array Oper} {ri : RI}
theorem Tab.row (ht : Tab P nt ops ri) {j : Nat} {r : Row} (h : ri.rows[j]? = some r) :
    r.i = j ∧ ops.toList[j]? = some r.o ∧ ri.ms[j]? = some r.m ∧ r.lev = levGo r.m ri.es 0 0 ∧ r.kd = kindOf P r.o := by
  rw [ht.rows] at h
  obtain ⟨o, m, a, b, rfl⟩ := rowsGo_spec _ _ _ _ _ h
  exact ⟨by simp, a, b, rfl, rfl⟩
theorem Tab.ex (ht : Tab P nt ops ri) {j : Nat} {o : Oper} (h : ops.toList[j]? = some o) : ∃ r, ri.rows[j]? = some r ∧ r.o = o := by
  have hl : ri.ms.length = ops.toList.length := by rw [ht.ms, masksGo_length]; simp
  have hj : j < ri.ms.length := by rw [hl]; exact (List.getElem?_eq_some_iff.1 h).1
  exact ⟨_, by rw [ht.rows]; exact rowsGo_get _ _ _ _ _ ri.ms[j] h (by simp [hj]), rfl⟩
theorem Tab.eff (ht : Tab P nt ops ri) {j : Nat} {r : Row} (h : ri.rows[j]? = some r) : j ∈ ri.es ↔ isEff r.kd = true := by
  obtain ⟨h1, h2, h3, h4, h5⟩ := ht.row h
  rw [ht.es, effsGo_mem, h5]
  constructor
  · rintro ⟨q, o, a, b, c⟩
    rw [Nat.zero_add] at b; subst b
    rw [h2] at a; cases a; exact c
  · exact fun hk => ⟨j, r.o, h2, by simp, hk⟩
theorem Tab.ahead (ht : Tab P nt ops ri) {S : Nat → Prop} (hS : Closed ops.toList S) {j : Nat} {r : Row} (h : ri.rows[j]? = some r) (hr : ∀ e ∈ r.o.after.toList, Region.binds .any e = true → S e.on) {q : Nat} (hq : Nat.testBit r.m q = true) : S q := by
  obtain ⟨h1, h2, h3, h4, h5⟩ := ht.row h
  exact mask_closed hS j r.m (by rw [← ht.ms]; exact h3) (fun o ho => by rw [h2] at ho; cases ho; exact hr) (List.getElem?_eq_some_iff.1 h2).1 q hq
theorem Tab.aheadIn (ht : Tab P nt ops ri) {S : Nat → Prop} (hS : Closed ops.toList S) {j : Nat} (hj : S j) {o : Oper} (ho : ops.toList[j]? = some o) {q : Nat} (hq : Nat.testBit ((ri.ms[j]?).getD 0) q = true) : S q := by
  obtain ⟨r, hr, rfl⟩ := ht.ex ho
  obtain ⟨h1, h2, h3, h4, h5⟩ := ht.row hr
  rw [h3] at hq
  exact ht.ahead hS hr (fun e he hb => hS j _ h2 hj e he hb) hq
def SlotRel (ρ : Ren) (T0 : Tree AV) (wr : Tree Nat) (vals : Tree AV) (S : Nat → Prop) (a : Act) : Prop :=
  ∀ t, (∀ j, wr.get t = some j → S j → VRel ρ ((vals.get j).getD .top) (a.tmps.getD t undef)) ∧ ((∀ j, wr.get t = some j → ¬ S j) → VRel ρ ((T0.get t).getD .top) (a.tmps.getD t undef))
structure Inv (P : Program) (base : Base) (nt : Nat) (ops : Array Oper) (ri : RI) (T0 : Tree AV) (n0 : Nat) (ρ0 : Ren) (w0 : World) (k : Nat) (done rest : List Nat) (s : RS) (S : Nat → Prop) (ρ : Ren) (a : Act) (w : World) : Prop where
  es : ri.es = done ++ rest
  len : done.length = k
  closed : Closed ops.toList S
  dn : ∀ x ∈ done, S x
  rs : ∀ x ∈ rest, ¬ S x
  lev : ∀ (j : Nat) (r : Row), ri.rows[j]? = some r → isEff r.kd = false → S j → r.lev ≤ k
  size : a.tmps.size = nt
  defers : a.defers = []
  slot : SlotRel ρ T0 ri.wr s.vals S a
  wrel : WRel P base ρ s.A w
  step : Step base n0 ρ0 w0 ρ w
  next : n0 ≤ s.A.next
  bid : ∀ j b, s.bids.get j = some b → n0 ≤ b ∧ b < s.A.next ∧ (¬ S j → ρ b = none) ∧ j < ops.size
theorem nonA_spec {T0 : Tree AV} {wr : Tree Nat} {k : Nat} : ∀ (rows : List Row) (s s' : RS), nonA P ops T0 wr k rows s = some s' →
    (∀ j, (∀ r ∈ rows, r.i = j → ¬ (r.lev = k ∧ isEff r.kd = false)) → s'.vals.get j = s.vals.get j ∧ s'.bids.get j = s.bids.get j) ∧
    (∀ ρ w, WRel P base ρ s.A w → WRel P base ρ s'.A w) ∧ s.A.next ≤ s'.A.next ∧ (∀ j b, s'.bids.get j = some b → s.bids.get j = some b ∨ (s.A.next ≤ b ∧ b < s'.A.next ∧ ∃ r ∈ rows, r.i = j))
  | [], s, s', h => by
    simp only [nonA] at h; cases h
    exact ⟨fun _ _ => ⟨rfl, rfl⟩, fun _ _ h => h, Nat.le_refl _, fun _ _ h => .inl h⟩
  | r :: rows, s, s', h => by
    simp only [nonA] at h
    split at h
    · obtain ⟨a, b, c, d⟩ := nonA_spec rows s s' h
      exact ⟨fun j hj => a j fun r' hr' => hj r' (.tail _ hr'), b, c, fun j b' hb' => (d j b' hb').imp id fun ⟨x, y, r', z, u⟩ => ⟨x, y, r', .tail _ z, u⟩⟩
    · rename_i hk
      simp only [Bool.and_eq_true, Bool.not_eq_true'] at hk
      have hlev := beq_t hk.1
      have key : ∀ (v : AV), nonA P ops T0 wr k rows { s with vals := s.vals.set r.i v } = some s' →
          (∀ j, (∀ r' ∈ r :: rows, r'.i = j → ¬ (r'.lev = k ∧ isEff r'.kd = false)) → s'.vals.get j = s.vals.get j ∧ s'.bids.get j = s.bids.get j) ∧
          (∀ ρ w, WRel P base ρ s.A w → WRel P base ρ s'.A w) ∧ s.A.next ≤ s'.A.next ∧ (∀ j b, s'.bids.get j = some b → s.bids.get j = some b ∨ (s.A.next ≤ b ∧ b < s'.A.next ∧ ∃ r' ∈ r :: rows, r'.i = j)) := by
        intro v h
        obtain ⟨a, b, c, d⟩ := nonA_spec rows _ s' h
        refine ⟨fun j hj => ?_, b, c, fun j b' hb' => (d j b' hb').imp id fun ⟨x, y, r', z, u⟩ => ⟨x, y, r', .tail _ z, u⟩⟩
        obtain ⟨e1, e2⟩ := a j fun r' hr' => hj r' (.tail _ hr')
        refine ⟨?_, e2⟩
        rw [e1]
        simp only [Tree.get_set]
        rw [if_neg]
        intro e
        exact hj r (.head _) e.symm ⟨hlev, hk.2⟩
      split at h <;> first | cases h | skip
      · exact key _ h
      · split at h <;> first | cases h | skip
        · split at h <;> first | cases h | skip
          exact key _ h
        · split at h <;> first | cases h | skip
          exact key _ h
        · split at h <;> first | cases h | skip
          rename_i x mk hx
          obtain ⟨a, b, c, d⟩ := nonA_spec rows _ s' h
          simp only [AW.push] at c d
          refine ⟨fun j hj => ?_, fun ρ w hw => b ρ w (phantom_rel hw x), by omega, fun j b' hb' => ?_⟩
          · obtain ⟨e1, e2⟩ := a j fun r' hr' => hj r' (.tail _ hr')
            have hne : j ≠ r.i := fun e => hj r (.head _) e.symm ⟨hlev, hk.2⟩
            simp only [Tree.get_set, if_neg hne] at e1 e2
            exact ⟨e1, e2⟩
          · rcases d j b' hb' with h | h
            · rw [Tree.get_set] at h
              split at h
              · rename_i e; cases h; exact .inr ⟨Nat.le_refl _, by omega, r, .head _, e.symm⟩
              · exact .inl h
            · obtain ⟨x1, x2, r', z, u⟩ := h
              exact .inr ⟨by omega, x2, r', .tail _ z, u⟩
variable {T0 : Tree AV} {n0 : Nat} {ρ0 : Ren} {w0 : World} {k : Nat} {done rest : List Nat} {s : RS} {S : Nat → Prop} {ρ : Ren} {a : Act} {w : World}
theorem envR_rel (ht : Tab P nt ops ri) (hI : Inv P base nt ops ri T0 n0 ρ0 w0 k done rest s S ρ a w) {i : Nat} {r : Row} (hr : ri.rows[i]? = some r) (hns : ¬ S i) (hd : ∀ e ∈ r.o.after.toList, Region.binds .any e = true → S e.on)
    (hok : slotsOk ri r = true) : ∀ x ∈ r.o.op.operands, VRel ρ (envR T0 ri.wr s.vals r.m x) (a.eval x) := by
  intro x hx
  have hx' : slotOk ri r x = true := by
    unfold slotsOk at hok
    exact List.all_eq_true.1 hok x (by simpa using hx)
  cases x with
  | tmp t =>
    obtain ⟨h1, h2⟩ := hI.slot t
    simp only [envR, Act.eval]
    simp only [slotOk] at hx'
    cases hw : ri.wr.get t with
    | none =>
      simp only
      exact h2 fun j hj => by rw [hw] at hj; cases hj
    | some j =>
      rw [hw] at hx'
      simp only
      cases hb : Nat.testBit r.m j with
      | true =>
        simp only
        exact h1 j hw (ht.ahead hI.closed hr hd hb)
      | false =>
        simp only
        refine h2 fun j' hj' => ?_
        rw [hw] at hj'; cases hj'
        simp only [hb, Bool.false_or, Bool.or_eq_true] at hx'
        obtain ⟨e1, _⟩ := ht.row hr
        rcases hx' with hx' | hx'
        · rw [beq_t hx', e1]; exact hns
        · intro hS
          rw [nth_getElem, e1] at hx'
          obtain ⟨o, ho, _⟩ := ht.wrs t j hw
          exact hns (ht.aheadIn hI.closed hS ho hx')
  | const v =>
    simp only [envR, evalT, Act.eval]
    cases hv : ofVal v with
    | none => exact .top _
    | some u => exact ofVal_rel hv
  | global g => exact .top _
  | func f => exact .fn _ _ _ _ _ rfl .nil .nil
theorem wantedR_rel (ht : Tab P nt ops ri) (hI : Inv P base nt ops ri T0 n0 ρ0 w0 k done rest s S ρ a w) {i : Nat} {r : Row} (hr : ri.rows[i]? = some r) (hd : ∀ e ∈ r.o.after.toList, Region.binds .any e = true → S e.on) {b : Bool}
    (hw : wantedR ops ri.wr s.vals r = some b) : Region.wanted r.o (yielded ops a.tmps) = b := by
  unfold wantedR at hw
  unfold Region.wanted
  split at hw
  · rename_i hg; simp only [hg]; cases hw; rfl
  · rename_i j want hg
    simp only [hg]
    split at hw <;> first | cases hw | skip
    rename_i d hdst
    split at hw <;> first | cases hw | skip
    rename_i j' hb hwr
    have hv := (hI.slot d).1 j' hwr
    split at hw <;> first | cases hw | skip
    · rename_i t he hval
      have he := beq_t he
      subst he
      have hv := hv (ht.ahead hI.closed hr hd hb)
      rw [hval] at hv
      have hc := (sc_inv hv).1
      have : a.tmps[d]? = some (.bool t) := by
        rw [Array.getD_eq_getD_getElem?] at hc
        cases hx : a.tmps[d]? with
        | none => rw [hx] at hc; simp [undef] at hc
        | some y => rw [hx] at hc; simp at hc; rw [hc]
      unfold yielded
      rw [hdst]
      simp [this]
    · rename_i he hval
      have he := beq_t he
      subst he
      have hv := hv (ht.ahead hI.closed hr hd hb)
      rw [hval] at hv
      obtain ⟨vs, hc, hrl⟩ := tup_inv hv
      cases hrl
      have hn : ∀ t, a.tmps[d]? ≠ some (.bool t) := by
        intro t hx
        rw [Array.getD_eq_getD_getElem?, hx] at hc
        simp at hc
      unfold yielded
      rw [hdst]
      simp only [Option.bind_some]
      first
        | rfl
        | (split
           · rename_i hx; exact absurd hx (hn _)
           · rfl)
theorem slot_put (ht : Tab P nt ops ri) {vals : Tree AV} (hs : SlotRel ρ T0 ri.wr vals S a) (hsz : a.tmps.size = nt) {i : Nat} {r : Row} (hr : ri.rows[i]? = some r) {v : AV} {v' : Value} (hv : VRel ρ v v') (hvi : vals.get i = some v) {S' : Nat → Prop} (hS' : ∀ j, S' j ↔ S j ∨ j = i) :
    SlotRel ρ T0 ri.wr vals S' (a.put r.o.dst v') := by
  obtain ⟨e1, e2, _⟩ := ht.row hr
  intro t
  have hput : (a.put r.o.dst v').tmps.getD t undef = if r.o.dst = some t then v' else a.tmps.getD t undef := by
    cases hd : r.o.dst with
    | none => simp [Act.put]
    | some d =>
      have := (ht.dst i r hr d hd).2
      simp only [Act.put]
      rw [getD_set _ _ _ _ (by rw [hsz]; exact this)]
      by_cases e : t = d
      · subst e; simp
      · rw [if_neg e, if_neg (by simpa using fun h => e h.symm)]
  rw [hput]
  by_cases hd : r.o.dst = some t
  · rw [if_pos hd]
    have hw := (ht.dst i r hr t hd).1
    rw [e1] at hw
    refine ⟨fun j hj _ => ?_, fun h => absurd ((hS' i).2 (.inr rfl)) (h i hw)⟩
    rw [hw] at hj; cases hj
    rw [hvi]; exact hv
  · rw [if_neg hd]
    obtain ⟨h1, h2⟩ := hs t
    have hne : ∀ j, ri.wr.get t = some j → j ≠ i := fun j hj e => by
      subst e
      obtain ⟨o, ho, hdo⟩ := ht.wrs t j hj
      rw [e2] at ho; cases ho
      exact hd hdo
    refine ⟨fun j hj hS => h1 j hj (((hS' j).1 hS).resolve_right (hne j hj)), fun h => h2 fun j hj hS => h j hj ((hS' j).2 (.inl hS))⟩
theorem finT_rel {vals : Tree AV} (t : Nat) (v : Value) : ∀ (rows : List Row) (T : Tree AV), (∀ r ∈ rows, r.o.dst = some t → VRel ρ ((vals.get r.i).getD .top) v) → ((∃ r ∈ rows, r.o.dst = some t) ∨ VRel ρ ((T.get t).getD .top) v) →
    VRel ρ (((finT T vals rows).get t).getD .top) v
  | [], T, _, h => by
    rcases h with ⟨r, hr, _⟩ | h
    · cases hr
    · exact h
  | r :: rows, T, h1, h2 => by
    simp only [finT]
    cases hd : r.o.dst with
    | none =>
      simp only
      refine finT_rel t v rows T (fun r' hr' => h1 r' (.tail _ hr')) ?_
      rcases h2 with ⟨r', hr', hd'⟩ | h2
      · rcases List.mem_cons.1 hr' with e | hr'
        · subst e; rw [hd] at hd'; cases hd'
        · exact .inl ⟨r', hr', hd'⟩
      · exact .inr h2
    | some d =>
      simp only
      refine finT_rel t v rows _ (fun r' hr' => h1 r' (.tail _ hr')) ?_
      by_cases e : t = d
      · subst e
        exact .inr (by rw [Tree.get_set, if_pos rfl]; exact h1 r (.head _) hd)
      · rcases h2 with ⟨r', hr', hd'⟩ | h2
        · rcases List.mem_cons.1 hr' with e' | hr'
          · subst e'; rw [hd] at hd'; cases hd'; exact absurd rfl e
          · exact .inl ⟨r', hr', hd'⟩
        · exact .inr (by rw [Tree.get_set, if_neg e]; exact h2)
end
end Go.Ab
set_option linter.unusedVariables false
set_option linter.unusedSimpArgs false
namespace Go.Ab
open Go Go.RowKit
section
variable {P : Program} {X : Ext} {base : Base} {nt : Nat} {ops : Array Oper} {ri : RI} {T0 : Tree AV} {n0 : Nat} {ρ0 : Ren} {w0 : World}
def Lst (listed : Array Bool) (i : Nat) : Prop := listed.getD i false = true
theorem lst_set {listed : Array Bool} {i : Nat} (hi : i < listed.size) (j : Nat) : Lst (listed.setIfInBounds i true) j ↔ Lst listed j ∨ j = i := by
  unfold Lst
  simp only [Array.getD_eq_getD_getElem?, Array.getElem?_setIfInBounds]
  by_cases e : i = j
  · subst e; simp [hi]
  · simp [e]; intro h; exact absurd h.symm e
theorem count_set {listed : Array Bool} {i : Nat} (hi : i < listed.size) (h : ¬ Lst listed i) {fuel : Nat} (hc : listed.toList.count false ≤ fuel + 1) : (listed.setIfInBounds i true).toList.count false ≤ fuel := by
  have hf : listed.toList[i]? = some false := by
    unfold Lst at h
    rw [Array.getElem?_toList]
    simp only [Array.getD_eq_getD_getElem?] at h
    rw [Array.getElem?_eq_getElem hi] at h ⊢
    simpa using h
  rw [Array.toList_setIfInBounds]
  obtain ⟨hl, hv⟩ := List.getElem?_eq_some_iff.1 hf
  rw [List.count_set hl, hv]
  have : 0 < listed.toList.count false := List.count_pos_iff.2 (hv ▸ List.getElem_mem hl)
  simp only [beq_self_eq_true, if_true, show ((true : Bool) == false) = false from rfl, Bool.false_eq_true, if_false]
  omega
theorem all_listed {listed : Array Bool} (h : listed.toList.count false = 0) {i : Nat} (hi : i < listed.size) : Lst listed i := by
  unfold Lst
  have hm : listed[i] ∈ listed.toList := by simp
  have : false ∉ listed.toList := List.count_eq_zero.1 h
  simp only [Array.getD_eq_getD_getElem?, Array.getElem?_eq_getElem hi]
  cases hb : listed[i] with
  | true => rfl
  | false => rw [hb] at hm; exact absurd hm this
theorem ready_mem {listed : Array Bool} (hsz : listed.size = ops.size) {i : Nat} (h : i ∈ Region.ready .any ops listed) :
    i < ops.size ∧ ¬ Lst listed i ∧ ∃ o, ops[i]? = some o ∧ ∀ e ∈ o.after.toList, Region.binds .any e = true → Lst listed e.on := by
  unfold Region.ready at h
  obtain ⟨h1, h2⟩ := List.mem_filter.1 h
  have hi : i < ops.size := by simpa using h1
  simp only [Bool.and_eq_true, Bool.not_eq_true'] at h2
  obtain ⟨h3, h4⟩ := h2
  refine ⟨hi, ?_, ops[i], by simp [hi], ?_⟩
  · unfold Lst
    simp only [Array.getD_eq_getD_getElem?, Array.getElem?_eq_getElem (show i < listed.size by omega)] at h3 ⊢
    simp at h3; simp [h3]
  · intro e he hb
    simp only [hi, getElem?_pos, Option.map_some, Option.getD_some, Array.all_eq_true'] at h4
    have := h4 e (by simpa using he)
    rw [hb] at this
    unfold Lst
    simpa using this
theorem mem_ready {listed : Array Bool} (hsz : listed.size = ops.size) {i : Nat} (hi : i < ops.size) (hn : ¬ Lst listed i) {o : Oper} (ho : ops[i]? = some o) (he : ∀ e ∈ o.after.toList, Region.binds .any e = true → Lst listed e.on) :
    i ∈ Region.ready .any ops listed := by
  unfold Region.ready
  refine List.mem_filter.2 ⟨by simpa using hi, ?_⟩
  simp only [Bool.and_eq_true, Bool.not_eq_true', ho, Option.map_some, Option.getD_some, Array.all_eq_true']
  constructor
  · unfold Lst at hn
    simp only [Array.getD_eq_getD_getElem?, Array.getElem?_eq_getElem (show i < listed.size by omega)] at hn ⊢
    simpa using hn
  · intro e hm
    cases hb : Region.binds .any e with
    | false => rfl
    | true =>
      have := he e (by simpa using hm) hb
      unfold Lst at this
      simpa using this
theorem nothing_ready (ht : Tab P nt ops ri) {listed : Array Bool} (hsz : listed.size = ops.size) (h : Region.ready .any ops listed = []) : ∀ i, i < ops.size → Lst listed i := by
  intro i
  induction i using Nat.strongRecOn with
  | _ i ih =>
    intro hi
    by_cases hl : Lst listed i
    · exact hl
    · have hm := mem_ready hsz hi hl (o := ops[i]) (by simp [hi]) fun e he hb => ih e.on (ht.edges i ops[i] (by simp [hi]) e he hb) (by have := ht.edges i ops[i] (by simp [hi]) e he hb; omega)
      rw [h] at hm; cases hm
def Cont (P : Program) (X : Ext) (call : CallF) (ops : Array Oper) (T0 : Tree AV) (ri : RI) (k : Nat) (s : RS) (sF : RS) : List Nat → Prop
  | [] => s = sF
  | x :: rest => ∃ r s2, ri.rows[x]? = some r ∧ effA P X call ops T0 ri r s = some s2 ∧ stageA P X call ops T0 ri (k + 1) rest s2 = some sF
theorem stageA_step {call : CallF} {k : Nat} {es : List Nat} {s sF : RS} (h : stageA P X call ops T0 ri k es s = some sF) :
    ∃ s1, nonA P ops T0 ri.wr k ri.rows s = some s1 ∧ checkA P ops T0 ri k s1 = true ∧ Cont P X call ops T0 ri k s1 sF es := by
  cases es with
  | nil =>
    rw [stageA] at h
    dsimp only at h
    split at h <;> first | (cases h; done) | skip
    rename_i s1 h1
    split at h <;> first | (cases h; done) | skip
    rename_i h2
    cases h
    exact ⟨_, h1, h2, rfl⟩
  | cons x rest =>
    rw [stageA] at h
    dsimp only at h
    split at h <;> first | (cases h; done) | skip
    rename_i s1 h1
    split at h <;> first | (cases h; done) | skip
    rename_i h2
    split at h <;> first | (cases h; done) | skip
    rename_i r hr
    split at h <;> first | (cases h; done) | skip
    rename_i s2 hs2
    exact ⟨_, h1, h2, r, s2, by rw [← nth_getElem]; exact hr, hs2, h⟩
variable {k : Nat} {done rest : List Nat} {s sF : RS} {ρ : Ren} {a : Act} {w : World}
theorem inv_non (ht : Tab P nt ops ri) {listed : Array Bool} (hsz : listed.size = ops.size) (hI : Inv P base nt ops ri T0 n0 ρ0 w0 k done rest s (Lst listed) ρ a w) {i : Nat} {r : Row} (hi : i < ops.size) (hr : ri.rows[i]? = some r)
    (hd : ∀ e ∈ r.o.after.toList, Region.binds .any e = true → Lst listed e.on) (hk : isEff r.kd = false) (hlev : r.lev ≤ k) {v : AV} {v' : Value} {ρ' : Ren} {w' : World} (hvi : s.vals.get i = some v) (hv : VRel ρ' v v') (hle : ρ.le ρ')
    (hw : WRel P base ρ' s.A w') (hst : Step base n0 ρ w ρ' w') (hbid : ∀ j b, s.bids.get j = some b → ¬ Lst (listed.setIfInBounds i true) j → ρ' b = none) :
    Inv P base nt ops ri T0 n0 ρ0 w0 k done rest s (Lst (listed.setIfInBounds i true)) ρ' (a.put r.o.dst v') w' := by
  have hS : ∀ j, Lst (listed.setIfInBounds i true) j ↔ Lst listed j ∨ j = i := lst_set (by omega)
  obtain ⟨e1, e2, _⟩ := ht.row hr
  refine ⟨hI.es, hI.len, ?_, fun x hx => (hS x).2 (.inl (hI.dn x hx)), ?_, ?_, ?_, ?_, ?_, hw, hI.step.trans hst (Nat.le_refl _), hI.next, fun j b hb => ⟨(hI.bid j b hb).1, (hI.bid j b hb).2.1, hbid j b hb, (hI.bid j b hb).2.2.2⟩⟩
  · intro j o ho hj e he hb
    rcases (hS j).1 hj with hj | rfl
    · exact (hS _).2 (.inl (hI.closed j o ho hj e he hb))
    · rw [e2] at ho; cases ho
      exact (hS _).2 (.inl (hd e he hb))
  · intro x hx hl
    rcases (hS x).1 hl with hl | rfl
    · exact hI.rs x hx hl
    · have : x ∈ ri.es := by rw [hI.es]; exact List.mem_append_right _ hx
      rw [ht.eff hr, hk] at this
      cases this
  · intro j r' hr' hk' hj
    rcases (hS j).1 hj with hj | rfl
    · exact hI.lev j r' hr' hk' hj
    · rw [hr] at hr'; cases hr'; exact hlev
  · cases hdst : r.o.dst <;> simp [Act.put, hI.size]
  · cases hdst : r.o.dst <;> simp [Act.put, hI.defers]
  · exact slot_put ht (fun t => ⟨fun j h1 h2 => ((hI.slot t).1 j h1 h2).mono hle, fun h => ((hI.slot t).2 h).mono hle⟩) hI.size hr hv hvi hS
theorem inv_eff (ht : Tab P nt ops ri) {call : CallF} {listed : Array Bool} (hsz : listed.size = ops.size) {i : Nat} {rest' : List Nat} (hI : Inv P base nt ops ri T0 n0 ρ0 w0 k done (i :: rest') s (Lst listed) ρ a w) {r : Row} (hi : i < ops.size) (hr : ri.rows[i]? = some r)
    (hd : ∀ e ∈ r.o.after.toList, Region.binds .any e = true → Lst listed e.on) (hnd : i ∉ rest') {v : AV} {v' : Value} {ρ' : Ren} {w' : World} {A' : AW} (hv : VRel ρ' v v')
    (hw : WRel P base ρ' A' w') (hst : Step base s.A.next ρ w ρ' w') (hn : s.A.next ≤ A'.next) (hcont : stageA P X call ops T0 ri (k + 1) rest' { s with vals := s.vals.set i v, A := A' } = some sF) :
    ∃ s3, Inv P base nt ops ri T0 n0 ρ0 w0 (k + 1) (done ++ [i]) rest' s3 (Lst (listed.setIfInBounds i true)) ρ' (a.put r.o.dst v') w' ∧ checkA P ops T0 ri (k + 1) s3 = true ∧ Cont P X call ops T0 ri (k + 1) s3 sF rest' := by
  obtain ⟨s3, h1, h2, h3⟩ := stageA_step hcont
  obtain ⟨f1, f2, f3, f4⟩ := nonA_spec (base := base) _ _ _ h1
  have hS : ∀ j, Lst (listed.setIfInBounds i true) j ↔ Lst listed j ∨ j = i := lst_set (by omega)
  obtain ⟨e1, e2, _⟩ := ht.row hr
  have hmem : i ∈ ri.es := by rw [hI.es]; simp
  have hke := (ht.eff hr).1 hmem
  have hle := hst.le hI.wrel
  have hkeep : ∀ j, Lst listed j ∨ j = i → s3.vals.get j = (s.vals.set i v).get j := by
    intro j hj
    refine (f1 j fun r' hr' he => ?_).1
    rintro ⟨hl, hk'⟩
    obtain ⟨q, hq⟩ := List.mem_iff_getElem?.1 hr'
    obtain ⟨g1, _⟩ := ht.row hq
    have hqj : q = j := by omega
    subst hqj
    rcases hj with hj | rfl
    · have := hI.lev q r' hq hk' hj; omega
    · rw [hr] at hq; cases hq; rw [hke] at hk'; cases hk'
  have hvi : s3.vals.get i = some v := by rw [hkeep i (.inr rfl), Tree.get_set, if_pos rfl]
  refine ⟨s3, ⟨by rw [hI.es]; simp, by simp [hI.len], ?_, ?_, ?_, ?_, ?_, ?_, ?_, f2 _ _ hw, hI.step.trans hst hI.next, Nat.le_trans hI.next (Nat.le_trans hn f3), ?_⟩, h2, h3⟩
  · intro j o ho hj e he hb
    rcases (hS j).1 hj with hj | rfl
    · exact (hS _).2 (.inl (hI.closed j o ho hj e he hb))
    · rw [e2] at ho; cases ho
      exact (hS _).2 (.inl (hd e he hb))
  · intro x hx
    rcases List.mem_append.1 hx with hx | hx
    · exact (hS x).2 (.inl (hI.dn x hx))
    · simp at hx; subst hx; exact (hS x).2 (.inr rfl)
  · intro x hx hl
    rcases (hS x).1 hl with hl | rfl
    · exact hI.rs x (.tail _ hx) hl
    · exact hnd hx
  · intro j r' hr' hk' hj
    rcases (hS j).1 hj with hj | rfl
    · have := hI.lev j r' hr' hk' hj; omega
    · rw [hr] at hr'; cases hr'; rw [hke] at hk'; cases hk'
  · cases hdst : r.o.dst <;> simp [Act.put, hI.size]
  · cases hdst : r.o.dst <;> simp [Act.put, hI.defers]
  · refine slot_put ht (v := v) (S := Lst listed) (fun t => ⟨fun j h1 h2 => ?_, fun h => ((hI.slot t).2 h).mono hle⟩) hI.size hr hv hvi hS
    rw [hkeep j (.inl h2), Tree.get_set]
    split
    · rename_i e
      subst e
      exact absurd h2 (hI.rs j (.head _))
    · exact ((hI.slot t).1 j h1 h2).mono hle
  · intro j b hb
    rcases f4 j b hb with h | ⟨h, h', r', hr', hj'⟩
    · obtain ⟨b1, b2, b3, b4⟩ := hI.bid j b h
      refine ⟨b1, by simp only at f3; omega, fun hj => ?_, b4⟩
      rw [hst.ext b b2]
      exact b3 fun hl => hj ((hS j).2 (.inl hl))
    · refine ⟨?_, h', fun _ => ?_, ?_⟩
      · have := hI.next; simp only at h; omega
      · exact hw.fresh h
      · obtain ⟨q, hq⟩ := List.mem_iff_getElem?.1 hr'
        obtain ⟨g1, g2, _⟩ := ht.row hq
        have := (List.getElem?_eq_some_iff.1 g2).1
        rw [Array.length_toList] at this
        omega
theorem draw_any (hng : XOk P X) {call : CallF} (hc : CallOk P base call) (ht : Tab P nt ops ri) (hb0 : base ≤ w0.heap.size) {Q : Exit → Act → World → Prop}
    (hQ : ∀ ρ' a' w', Step base n0 ρ0 w0 ρ' w' → ARel ρ' nt (finT T0 sF.vals ri.rows) a' → WRel P base ρ' sF.A w' → n0 ≤ sF.A.next → Q .normal a' w') :
    ∀ (fuel : Nat) (listed : Array Bool) (k : Nat) (done rest : List Nat) (s : RS) (ρ : Ren) (a : Act) (w : World), listed.size = ops.size → listed.toList.count false ≤ fuel →
      Inv P base nt ops ri T0 n0 ρ0 w0 k done rest s (Lst listed) ρ a w → checkA P ops T0 ri k s = true → Cont P X call ops T0 ri k s sF rest → wpAny P .any ops Q fuel listed a w := by
  have fin : ∀ (listed : Array Bool) (k : Nat) (done rest : List Nat) (s : RS) (ρ : Ren) (a : Act) (w : World), listed.size = ops.size → (∀ i, i < ops.size → Lst listed i) →
      Inv P base nt ops ri T0 n0 ρ0 w0 k done rest s (Lst listed) ρ a w → Cont P X call ops T0 ri k s sF rest → Q .normal a w := by
    intro listed k done rest s ρ a w hsz hall hI hcont
    have hrest : rest = [] := by
      cases rest with
      | nil => rfl
      | cons x rest =>
        have hx : x ∈ ri.es := by rw [hI.es]; simp
        rw [ht.es, effsGo_mem] at hx
        obtain ⟨j, o, hj, rfl, _⟩ := hx
        have := (List.getElem?_eq_some_iff.1 hj).1
        exact absurd (hall (0 + j) (by simpa using this)) (hI.rs _ (.head _))
    subst hrest
    have hcont : s = sF := hcont
    subst hcont
    refine hQ ρ a w hI.step ⟨hI.size, fun t => ?_, hI.defers⟩ hI.wrel hI.next
    obtain ⟨g1, g2⟩ := hI.slot t
    refine finT_rel t _ ri.rows T0 (fun r hr hd => ?_) ?_
    · obtain ⟨q, hq⟩ := List.mem_iff_getElem?.1 hr
      obtain ⟨e1, e2, _⟩ := ht.row hq
      have hql := (List.getElem?_eq_some_iff.1 e2).1
      have := g1 r.i (ht.dst q r hq t hd).1 (by rw [e1]; exact hall q (by simpa using hql))
      exact this
    · by_cases hex : ∃ j, ri.wr.get t = some j
      · obtain ⟨j, hj⟩ := hex
        obtain ⟨o, ho, hdo⟩ := ht.wrs t j hj
        obtain ⟨r, hr, rfl⟩ := ht.ex ho
        exact .inl ⟨r, List.mem_of_getElem? hr, hdo⟩
      · exact .inr (g2 fun j hj => absurd ⟨j, hj⟩ hex)
  intro fuel
  induction fuel with
  | zero =>
    intro listed k done rest s ρ a w hsz hcnt hI hchk hcont
    have hall : ∀ i, i < ops.size → Lst listed i := fun i hi => all_listed (by omega) (by omega)
    refine ⟨?_, fin listed k done rest s ρ a w hsz hall hI hcont⟩
    rw [List.eq_nil_iff_forall_not_mem]
    intro i hi
    obtain ⟨h1, h2, _⟩ := ready_mem hsz hi
    exact h2 (hall i h1)
  | succ fuel ih =>
    intro listed k done rest s ρ a w hsz hcnt hI hchk hcont
    refine ⟨fun hr => fin listed k done rest s ρ a w hsz (nothing_ready ht hsz hr) hI hcont, fun i hi => ?_⟩
    obtain ⟨hilt, hnl, o, ho, hd⟩ := ready_mem hsz hi
    obtain ⟨r, hr, rfl⟩ := ht.ex (j := i) (o := o) (by rw [Array.getElem?_toList]; exact ho)
    obtain ⟨e1, e2, e3, e4, e5⟩ := ht.row hr
    have hbase : base ≤ w.heap.size := Nat.le_trans hb0 hI.step.size
    unfold wpOp
    simp only [ho]
    cases hk : isEff r.kd with
    | false =>
      -- no effect: the checks of this stage
      unfold checkA at hchk
      simp only [Bool.and_eq_true, List.all_eq_true] at hchk
      obtain ⟨hchk, hbids⟩ := hchk
      have hall : aliveAt ri.ms ri.es k r = true := by
        unfold aliveAt
        rw [Bool.and_eq_true, List.all_eq_true]
        constructor
        · rw [ble_iff, e4]
          rcases levGo_spec (m := r.m) ri.es 0 0 with h | ⟨q, x, a1, a2, a3⟩
          · omega
          · have hx := ht.ahead hI.closed hr hd a2
            rw [a3]
            rcases Nat.lt_or_ge q k with h | h
            · omega
            · rw [hI.es, List.getElem?_append_right (by rw [hI.len]; exact h)] at a1
              exact absurd hx (hI.rs x (List.mem_of_getElem? a1))
        · intro x hx
          rw [hI.es, List.take_left' hI.len] at hx
          rw [Bool.not_eq_true', ← Bool.not_eq_true, e1, nth_getElem]
          intro hb
          have hxe : x ∈ ri.es := by rw [hI.es]; exact List.mem_append_left _ hx
          rw [ht.es, effsGo_mem] at hxe
          obtain ⟨j, o', hj, hxj, _⟩ := hxe
          rw [Nat.zero_add] at hxj; subst hxj
          exact hnl (ht.aheadIn hI.closed (hI.dn x hx) hj hb)
      have hlev : r.lev ≤ k := by
        unfold aliveAt at hall
        rw [Bool.and_eq_true] at hall
        exact ble_t hall.1
      have hsame : sameA P ops T0 ri s r = true := by
        have := hchk r (List.mem_of_getElem? hr)
        simpa [hk, hall] using this
      have hnb : ∀ j b, s.bids.get j = some b → ¬ Lst (listed.setIfInBounds i true) j → ρ b = none := fun j b hb hj =>
        (hI.bid j b hb).2.2.1 fun hl => hj ((lst_set (by omega) j).2 (.inl hl))
      have next : ∀ {v : AV} {v' : Value} {ρ' : Ren} {w' : World}, s.vals.get i = some v → VRel ρ' v v' → ρ.le ρ' → WRel P base ρ' s.A w' → Step base n0 ρ w ρ' w' →
          (∀ j b, s.bids.get j = some b → ¬ Lst (listed.setIfInBounds i true) j → ρ' b = none) → wpAny P .any ops Q fuel (listed.setIfInBounds i true) (a.put r.o.dst v') w' := by
        intro v v' ρ' w' hvi hv hle hw hst hb
        exact ih _ k done rest s ρ' _ w' (by simpa using hsz) (count_set (by omega) hnl hcnt) (inv_non ht hsz hI hilt hr hd hk hlev hvi hv hle hw hst hb) (by unfold checkA; simp only [Bool.and_eq_true, List.all_eq_true]; exact ⟨hchk, hbids⟩) hcont
      have hrefl : ρ.le ρ := fun _ _ h => h
      unfold sameA at hsame
      rw [e1] at hsame
      split at hsame <;> first | (cases hsame; done) | skip
      · rename_i v hwant hvi
        rw [wantedR_rel ht hI hr hd hwant]
        simp only [Bool.false_eq_true, if_false]
        have := avEq_eq _ _ hsame
        subst this
        exact next hvi (.tup _ _ .nil) hrefl hI.wrel (Step.refl _ _ _) hnb
      · rename_i v hwant hvi
        rw [wantedR_rel ht hI hr hd hwant]
        simp only [if_true]
        rw [Bool.and_eq_true] at hsame
        obtain ⟨hslots, hsame⟩ := hsame
        have he := envR_rel ht hI hr hnl hd hslots
        refine .inl ?_
        split at hsame
        · have hp := optEq_eq hsame
          obtain ⟨v', h1, h2⟩ := pureOp_sound he hp
          exact op_gives r.o (h1 w) (next hvi h2 hrefl hI.wrel (Step.refl _ _ _) hnb)
        · have hp := optEq_eq hsame
          obtain ⟨v', h1, h2⟩ := loadOp_sound hI.wrel he hp
          exact op_gives r.o h1 (next hvi h2 hrefl hI.wrel (Step.refl _ _ _) hnb)
        · split at hsame <;> first | (cases hsame; done) | skip
          rename_i x mk b hx hbi
          split at hsame <;> first | (cases hsame; done) | skip
          rename_i y hy
          simp only [Bool.and_eq_true] at hsame
          have hxy := blkEq_eq hsame.1
          have hmk := avEq_eq _ _ hsame.2
          subst hxy
          obtain ⟨d, ob, u, inf, hrun, hinf, hrel, hmkv⟩ := allocOp_sound he hx w
          obtain ⟨b1, b2, b3, b4⟩ := hI.bid i b hbi
          have hbn := b3 hnl
          have hd' : WRel P base ρ s.A (if d = true then w.drew else w) := by cases d <;> simp [hI.wrel, hI.wrel.drew]
          have hsz' : (if d = true then w.drew else w).heap.size = w.heap.size := by cases d <;> simp
          have hst' : Step base n0 ρ w ρ (if d = true then w.drew else w) := by cases d <;> simp [Step.refl, Step.drew]
          obtain ⟨h1, h2⟩ := push_rel hd' (by omega) (i := inf) (by omega) hbn b2 hy (hrel.mono (Ren.le_add hbn))
          refine op_gives r.o hrun (next hvi (hmk ▸ hmkv _ b (by simp [Ren.add])) (Ren.le_add hbn) h1 (hst'.trans h2 b1) fun j b' hb' hj => ?_)
          have hne : b' ≠ b := by
            intro e
            subst e
            have hji : j ≠ i := fun e => hj ((lst_set (by omega) j).2 (.inr e))
            -- the rows of j and i
            have hjl := (hI.bid j b' hb').2.2.2
            obtain ⟨r', hr', _⟩ := ht.ex (j := j) (o := ops[j]) (by simp [hjl])
            obtain ⟨g1, _⟩ := ht.row hr'
            have := (bidsOk_spec _ _ hbids).2 j i r' r b' hr' hr (by rw [g1]; exact hb') (by rw [e1]; exact hbi)
            exact hji this
          unfold Ren.add
          rw [if_neg hne]
          exact hnb j b' hb' hj
        · cases hsame
    | true =>
      have hie : i ∈ ri.es := (ht.eff hr).2 hk
      rw [hI.es] at hie
      have hir : i ∈ rest := by
        rcases List.mem_append.1 hie with h | h
        · exact absurd (hI.dn i h) hnl
        · exact h
      cases rest with
      | nil => cases hir
      | cons x rest' =>
        have hxi : x = i := by
          rcases List.mem_cons.1 hir with e | hm
          · exact e.symm
          · obtain ⟨l1, l2, hl⟩ := List.append_of_mem hm
            have := ht.chain (done ++ x :: l1) i l2 (by rw [hI.es, hl]; simp) x (by simp)
            rw [e3] at this
            exact absurd (ht.ahead hI.closed hr hd this) (hI.rs x (.head _))
        subst hxi
        have hnd : x ∉ rest' := by
          intro hm
          obtain ⟨l1, l2, hl⟩ := List.append_of_mem hm
          have := ht.chain (done ++ x :: l1) x l2 (by rw [hI.es, hl]; simp) x (by simp)
          rw [e3] at this
          exact hnl (ht.ahead hI.closed hr hd this)
        obtain ⟨r', s2, hr', heff, hstage⟩ := hcont
        rw [hr] at hr'; cases hr'
        have next : ∀ {v : AV} {v' : Value} {ρ' : Ren} {w' : World} {A' : AW}, VRel ρ' v v' → WRel P base ρ' A' w' → Step base s.A.next ρ w ρ' w' → s.A.next ≤ A'.next → s2 = { s with vals := s.vals.set x v, A := A' } →
            wpAny P .any ops Q fuel (listed.setIfInBounds x true) (a.put r.o.dst v') w' := by
          intro v v' ρ' w' A' hv hw hst hn hs2
          subst hs2
          obtain ⟨s3, h1, h2, h3⟩ := inv_eff ht hsz hI hilt hr hd hnd hv hw hst hn hstage
          exact ih _ (k + 1) _ rest' s3 ρ' _ w' (by simpa using hsz) (count_set (by omega) hnl hcnt) h1 h2 h3
        unfold effA at heff
        rw [e1] at heff
        split at heff <;> first | (cases heff; done) | skip
        · rename_i hwant
          rw [wantedR_rel ht hI hr hd hwant]
          simp only [Bool.false_eq_true, if_false]
          cases heff
          exact next (.tup _ _ .nil) hI.wrel (Step.refl _ _ _) (Nat.le_refl _) rfl
        · rename_i hwant hslots
          rw [wantedR_rel ht hI hr hd hwant]
          simp only [if_true]
          have he := envR_rel ht hI hr hnl hd hslots
          refine .inl ?_
          split at heff <;> first | (cases heff; done) | skip
          · rename_i v A1 hx
            cases heff
            obtain ⟨ρ', w', h1, h2, h3, v', h4, h5⟩ := effOp_sound hng hI.wrel hbase he hx
            exact op_gives r.o h4 (next h5 h2 h1 h3 rfl)
          · rename_i A1 hx
            cases heff
            obtain ⟨ρ', w', h1, h2, h3, h4⟩ := effOp_sound hng hI.wrel hbase he hx
            exact op_skips r.o h4 (next (.tup _ _ .nil) h2 h1 h3 rfl)
          · rename_i f args A1 hx
            split at heff <;> first | (cases heff; done) | skip
            rename_i v A2 hcall
            cases heff
            obtain ⟨ρ', w', h1, h2, h3, us, h4, h5⟩ := effOp_sound hng hI.wrel hbase he hx
            refine op_enters r.o h4 (hc f args A1 v A2 hcall ρ' w' us h5 h2 (Nat.le_trans hbase h1.size)) fun e w'' hR => ?_
            obtain ⟨ρ2, v', rfl, k1, k2, k3, k4⟩ := hR
            exact ⟨v', rfl, next k4 k2 (h1.trans k1 h3) (Nat.le_trans h3 k3) rfl⟩
end
end Go.Ab
set_option linter.unusedVariables false
set_option linter.unusedSimpArgs false
namespace Go.Ab
open Go Go.RowKit
section
variable {P : Program} {X : Ext} {base : Base} {nt : Nat}
def exOf : Ex → Exit
  | .normal => .normal
  | .exit id => .exit id
  | .ret => .ret
def Post (P : Program) (base : Base) (nt : Nat) (n0 : Nat) (ρ0 : Ren) (w0 : World) (x : Ex) (T : Tree AV) (A : AW) (e : Exit) (a : Act) (w : World) : Prop :=
  e = exOf x ∧ ∃ ρ, Step base n0 ρ0 w0 ρ w ∧ ARel ρ nt T a ∧ WRel P base ρ A w ∧ n0 ≤ A.next
variable {n0 : Nat} {ρ0 : Ren} {w0 : World} {ρ : Ren} {A : AW} {w : World} {T : Tree AV} {a : Act}
theorem drawA_sound (hng : XOk P X) (hm : P.follows .mixedOrders = true) {call : CallF} (hc : CallOk P base call)
    (hb : base ≤ w0.heap.size) (hn : n0 ≤ A.next) (hst : Step base n0 ρ0 w0 ρ w) (hA : ARel ρ nt T a) (hw : WRel P base ρ A w) {id : Nat} {ops : Array Oper} {T' : Tree AV} {A' : AW}
    (h : drawA P X call nt ops T A = some (T', A')) : (Code.region id ops true).wp P (Post P base nt n0 ρ0 w0 .normal T' A') a w := by
  unfold drawA at h
  split at h <;> first | (cases h; done) | skip
  rename_i ri hri
  split at h <;> first | (cases h; done) | skip
  rename_i s hs
  cases h
  have ht := regionInfo_tab hri
  obtain ⟨s1, h1, h2, h3⟩ := stageA_step hs
  obtain ⟨f1, f2, f3, f4⟩ := nonA_spec (base := base) _ _ _ h1
  have hno : ∀ i, ¬ Lst (Array.replicate ops.size false) i := by
    intro i h
    unfold Lst at h
    simp only [Array.getD_eq_getD_getElem?, Array.getElem?_replicate] at h
    split at h <;> simp at h
  refine wp_region_any hm (draw_any (n0 := n0) (ρ0 := ρ0) (w0 := w0) (sF := s) hng hc ht hb (fun ρ' a' w' k1 k2 k3 k4 => ⟨rfl, ρ', k1, k2, k3, k4⟩) ops.size _ 0 [] ri.es s1 ρ a _ (by simp) (by simp) ?_ h2 h3)
  refine ⟨rfl, rfl, fun i o _ hi => absurd hi (hno i), (fun x hx => by cases hx), fun x _ => hno x, fun j r _ _ hj => absurd hj (hno j), hA.size, hA.defers, fun t => ⟨fun j _ hj => absurd hj (hno j), fun _ => hA.val t⟩, f2 ρ _ hw.drew, hst.trans (Step.drew (n := n0)) (Nat.le_refl _), Nat.le_trans hn f3, fun j b hb' => ?_⟩
  rcases f4 j b hb' with h | ⟨h, h', r, hr, hj⟩
  · simp [Tree.get] at h
  · refine ⟨Nat.le_trans hn h, h', fun _ => hw.fresh h, ?_⟩
    obtain ⟨q, hq⟩ := List.mem_iff_getElem?.1 hr
    obtain ⟨g1, g2, _⟩ := ht.row hq
    have := (List.getElem?_eq_some_iff.1 g2).1
    rw [Array.length_toList] at this
    omega
theorem codeA_sound (hng : XOk P X) (hm : P.follows .mixedOrders = true) {call : CallF} (hc : CallOk P base call) (hb : base ≤ w0.heap.size) :
    ∀ (f : Nat) (c : Code) (T : Tree AV) (A : AW) (x : Ex) (T' : Tree AV) (A' : AW), codeA P X call nt f c T A = some (x, T', A') →
      (∀ (ρ : Ren) (a : Act) (w : World), n0 ≤ A.next → Step base n0 ρ0 w0 ρ w → ARel ρ nt T a → WRel P base ρ A w → c.wp P (Post P base nt n0 ρ0 w0 x T' A') a w) ∧
      (∀ b, c = .loop b → ∀ (ρ : Ren) (a : Act) (w : World), n0 ≤ A.next → Step base n0 ρ0 w0 ρ w → ARel ρ nt T a → WRel P base ρ A w → Code.rounds P b (Post P base nt n0 ρ0 w0 x T' A') f a w) := by
  intro f
  induction f with
  | zero => intro c T A x T' A' h; simp [codeA] at h
  | succ f ih =>
    intro c T A x T' A' h
    cases c with
    | loop b =>
      simp only [codeA] at h
      have key : ∀ (ρ : Ren) (a : Act) (w : World), n0 ≤ A.next → Step base n0 ρ0 w0 ρ w → ARel ρ nt T a → WRel P base ρ A w → Code.rounds P b (Post P base nt n0 ρ0 w0 x T' A') (f + 1) a w := by
        intro ρ a w hn hst hA hw
        rw [rounds_succ]
        split at h
        · rename_i T1 A1 h1
          refine wp_mono ((ih b T A _ T1 A1 h1).1 ρ a w hn hst hA hw) fun e a' w' hp => ?_
          obtain ⟨rfl, ρ', k1, k2, k3, k4⟩ := hp
          exact (ih (.loop b) T1 A1 x T' A' h).2 b rfl ρ' a' w' k4 k1 k2 k3
        · rename_i hne
          refine wp_mono ((ih b T A x T' A' h).1 ρ a w hn hst hA hw) fun e a' w' hp => ?_
          obtain ⟨rfl, hp2⟩ := hp
          cases x with
          | normal => exact absurd h (hne T' A')
          | exit id => exact ⟨rfl, hp2⟩
          | ret => exact ⟨rfl, hp2⟩
      exact ⟨fun ρ a w hn hst hA hw => wp_loop_rounds (f + 1) (key ρ a w hn hst hA hw), fun b' hb' => by cases hb'; exact key⟩
    | skip =>
      simp only [codeA] at h; cases h
      exact ⟨fun ρ a w hn hst hA hw => wp_skip ⟨rfl, ρ, hst, hA, hw, hn⟩, fun b hb => by cases hb⟩
    | region id ops d =>
      cases d with
      | false =>
        simp only [codeA] at h
        split at h <;> first | (cases h; done) | skip
        rename_i T1 A1 h1
        cases h
        refine ⟨fun ρ a w hn hst hA hw => wp_region ?_, fun b hb => by cases hb⟩
        have hbw : base ≤ w.heap.size := Nat.le_trans hb hst.size
        have := opsA_sound hng hc (ops := ops) (Q := Post P base nt n0 ρ0 w0 .normal T' A') ops.toList 0 (by simp) hA hw hbw h1 (fun ρ' a' w' k1 k2 k3 k4 => ⟨rfl, ρ', hst.trans k1 hn, k2, k3, Nat.le_trans hn k4⟩)
        rw [Array.length_toList, ← List.range_eq_range'] at this
        exact this
      | true =>
        simp only [codeA] at h
        split at h <;> first | (cases h; done) | skip
        rename_i T1 A1 h1
        cases h
        exact ⟨fun ρ a w hn hst hA hw => drawA_sound hng hm hc hb hn hst hA hw h1, fun b hb => by cases hb⟩
    | seq c1 c2 =>
      simp only [codeA] at h
      refine ⟨fun ρ a w hn hst hA hw => wp_seq ?_, fun b hb => by cases hb⟩
      split at h
      · rename_i T1 A1 h1
        refine wp_mono ((ih c1 T A _ T1 A1 h1).1 ρ a w hn hst hA hw) fun e a' w' hp => ?_
        obtain ⟨rfl, ρ', k1, k2, k3, k4⟩ := hp
        exact (ih c2 T1 A1 x T' A' h).1 ρ' a' w' k4 k1 k2 k3
      · rename_i hne
        refine wp_mono ((ih c1 T A x T' A' h).1 ρ a w hn hst hA hw) fun e a' w' hp => ?_
        obtain ⟨rfl, hp2⟩ := hp
        cases x with
        | normal => exact absurd h (hne T' A')
        | exit id => exact ⟨rfl, hp2⟩
        | ret => exact ⟨rfl, hp2⟩
    | cond cnd c1 c2 =>
      simp only [codeA] at h
      refine ⟨fun ρ a w hn hst hA hw => ?_, fun b hb => by cases hb⟩
      have hv := evalT_rel hA cnd
      split at h <;> first | (cases h; done) | skip
      · rename_i hc1
        rw [hc1] at hv
        exact wp_cond_true (sc_inv hv).1 ((ih c1 T A x T' A' h).1 ρ a w hn hst hA hw)
      · rename_i hc1
        rw [hc1] at hv
        exact wp_cond_false (sc_inv hv).1 ((ih c2 T A x T' A' h).1 ρ a w hn hst hA hw)
    | block id c1 =>
      simp only [codeA] at h
      refine ⟨fun ρ a w hn hst hA hw => wp_block ?_, fun b hb => by cases hb⟩
      split at h
      · rename_i id' T1 A1 h1
        split at h
        · rename_i he
          cases h
          have he := beq_t he
          subst he
          refine wp_mono ((ih c1 T A _ _ _ h1).1 ρ a w hn hst hA hw) fun e a' w' hp => ?_
          obtain ⟨rfl, hp2⟩ := hp
          simp only [exOf, Exit.inBlock, if_true]
          exact ⟨rfl, hp2⟩
        · rename_i he
          cases h
          have he := beq_f he
          refine wp_mono ((ih c1 T A _ _ _ h1).1 ρ a w hn hst hA hw) fun e a' w' hp => ?_
          obtain ⟨rfl, hp2⟩ := hp
          simp only [exOf, Exit.inBlock, if_neg he]
          exact ⟨rfl, hp2⟩
      · rename_i hne
        refine wp_mono ((ih c1 T A x T' A' h).1 ρ a w hn hst hA hw) fun e a' w' hp => ?_
        obtain ⟨rfl, hp2⟩ := hp
        cases x with
        | normal => exact ⟨rfl, hp2⟩
        | exit id' => exact absurd h (hne id' T' A')
        | ret => exact ⟨rfl, hp2⟩
    | exit id =>
      simp only [codeA] at h; cases h
      exact ⟨fun ρ a w hn hst hA hw => wp_exit ⟨rfl, ρ, hst, hA, hw, hn⟩, fun b hb => by cases hb⟩
    | ret =>
      simp only [codeA] at h; cases h
      exact ⟨fun ρ a w hn hst hA hw => wp_ret ⟨rfl, ρ, hst, hA, hw, hn⟩, fun b hb => by cases hb⟩
    | rangeFunc => simp [codeA] at h
    | scope => simp [codeA] at h
    | label => simp [codeA] at h
    | goto => simp [codeA] at h
    | refuse => simp [codeA] at h
def resFn (tmps : Array Value) : ResultVar → Sem Value
  | .tmp t => pure (tmps.getD t undef)
  | .cell x t => do loadVar t (← asAddr (tmps.getD x undef))
theorem resultA_sound (hA : ARel ρ nt T a) (hw : WRel P base ρ A w) {r : ResultVar} {v : AV} (h : resultA P T A r = some v) :
    ∃ v', (resFn a.tmps r).run P w = .ok v' w ∧ VRel ρ v v' := by
  cases r with
  | tmp t =>
    simp only [resultA] at h
    have := hA.val t
    rw [h] at this
    exact ⟨_, rfl, this⟩
  | cell x t =>
    simp only [resultA] at h
    split at h <;> first | (cases h; done) | skip
    rename_i b p hx
    have hv := hA.val x
    rw [hx] at hv
    obtain ⟨i, hb, hc⟩ := ptr_inv hv
    simp only [resFn, hc, asAddr, Sem.run_bind, Sem.run_pure, Result.andThen_ok, loadVar]
    split at h <;> first | (cases h; done) | skip
    · rename_i ha
      split at h <;> first | (cases h; done) | skip
      rename_i hl
      cases h
      obtain ⟨vs, hr, hlen, hcell⟩ := loads_rel hw hb hl
      cases hr with
      | cons _ u _ us hu hn =>
      cases hn
      have hcell := hcell 0 u (by simp)
      rw [add_off, Nat.add_zero] at hcell
      exact ⟨u, by simp only [isAggT_run ha, Result.andThen_ok, Bool.false_eq_true, if_false, load, Sem.run, hcell], hu⟩
    · rename_i n ha hs
      split at h <;> first | (cases h; done) | skip
      rename_i xs hl
      cases h
      obtain ⟨vs, hr, hlen, _, hrun⟩ := run_loads (P := P) hw hb hl
      exact ⟨.agg ⟨vs⟩, by simp only [isAggT_run ha, Result.andThen_ok, if_true, Sem.run_bind, sizeT_run hs, hrun, Sem.run_pure], .agg _ _ hr⟩
theorem resultsL_sound (hA : ARel ρ nt T a) (hw : WRel P base ρ A w) : ∀ (rs : List ResultVar) (vs : List AV), mapO (resultA P T A) rs = some vs →
    ∃ us, (rs.mapM (resFn a.tmps)).run P w = .ok us w ∧ LRel ρ vs us
  | [], vs, h => by
    simp [mapO] at h; subst h
    exact ⟨[], by simp, .nil⟩
  | r :: rs, vs, h => by
    simp only [mapO] at h
    split at h <;> first | (cases h; done) | skip
    rename_i v hv
    split at h <;> first | (cases h; done) | skip
    rename_i ys hys
    cases h
    obtain ⟨v', h1, h2⟩ := resultA_sound hA hw hv
    obtain ⟨us, h3, h4⟩ := resultsL_sound hA hw rs ys hys
    refine ⟨v' :: us, ?_, .cons _ _ _ _ h2 h4⟩
    simp only [List.mapM_cons, Sem.run_bind, h1, Result.andThen_ok, h3, Sem.run_pure]
theorem resultsA_sound (hA : ARel ρ nt T a) (hw : WRel P base ρ A w) {fn : Func} {v : AV} (h : resultsA P fn T A = some v) : ∃ v', (results fn a.tmps).run P w = .ok v' w ∧ VRel ρ v v' := by
  unfold resultsA at h
  have key : ∀ us : List Value, (fn.results.toList.mapM (resFn a.tmps)).run P w = .ok us w →
      (results fn a.tmps).run P w = .ok (if h : (⟨us⟩ : Array Value).size = 1 then (⟨us⟩ : Array Value)[0] else .tuple ⟨us⟩) w := by
    intro us hu
    have e : results fn a.tmps = (fn.results.mapM (resFn a.tmps) >>= fun vs => pure (if h : vs.size = 1 then vs[0] else .tuple vs)) := rfl
    rw [e, Array.mapM_eq_mapM_toList]
    simp only [Sem.run_bind, Sem.run_map, hu, Result.andThen_ok, Sem.run_pure]
  split at h <;> first | (cases h; done) | skip
  · rename_i u hu
    cases h
    obtain ⟨us, h1, h2⟩ := resultsL_sound hA hw _ _ hu
    cases h2 with
    | cons _ u' _ us hu' hn =>
    cases hn
    exact ⟨u', by rw [key _ h1]; rfl, hu'⟩
  · rename_i vs hne hvs
    cases h
    obtain ⟨us, h1, h2⟩ := resultsL_sound hA hw _ _ hvs
    refine ⟨.tuple ⟨us⟩, ?_, .tup _ _ h2⟩
    rw [key _ h1, dif_neg]
    intro h
    have hl := h2.length
    have : us.length = 1 := h
    cases vs with
    | nil => simp at hl; omega
    | cons v vs => cases vs with
      | nil => exact hne v rfl
      | cons _ _ => simp at hl; omega
theorem bodyA_sound (hng : XOk P X) (hm : P.follows .mixedOrders = true) (L : Nat) {call : CallF} (hc : CallOk P base call) : CallOk P base (bodyA P X L call) := by
  intro f args A v A' h ρ w us hargs hw hb
  simp only [bodyA] at h
  split at h <;> first | (cases h; done) | skip
  rename_i fn hfn
  split at h <;> first | (cases h; done) | skip
  rename_i c hbody
  have hlen := hargs.length
  have hA : ARel ρ (args.length + (fn.ntmps - args.length)) (Tree.ofList args 0 .leaf) { tmps := ⟨us⟩ ++ Array.replicate (fn.ntmps - (⟨us⟩ : Array Value).size) undef, defers := [] } := by
    refine ⟨by simp [hlen], fun t => ?_, rfl⟩
    rw [Tree.get_ofList]
    by_cases ht : t < args.length
    · rw [if_pos (by omega), Nat.sub_zero]
      obtain ⟨u, hu, hv⟩ := hargs.get (n := t) (x := args[t]) (by simp [ht])
      rw [List.getElem?_eq_getElem ht]
      simp only [Option.getD_some]
      have : ((⟨us⟩ : Array Value) ++ Array.replicate (fn.ntmps - (⟨us⟩ : Array Value).size) undef).getD t undef = u := by
        rw [Array.getD_eq_getD_getElem?, Array.getElem?_append_left (by simp; omega)]
        simp [hu]
      rw [this]; exact hv
    · rw [if_neg (by omega)]
      exact .top _
  have hret : ∀ {ex : Ex} {T' : Tree AV} {A1 : AW}, (ex = .normal ∨ ex = .ret) → codeA P X call (args.length + (fn.ntmps - args.length)) L c (Tree.ofList args 0 .leaf) A = some (ex, T', A1) → resultsA P fn T' A1 = some v → A' = A1 →
      Calls P f ⟨us⟩ w fun e w' => ∃ ρ' v', e = .returned v' ∧ Step base A.next ρ w ρ' w' ∧ WRel P base ρ' A' w' ∧ A.next ≤ A'.next ∧ VRel ρ' v v' := by
    intro ex T' A1 hex hcode hres hA1
    subst hA1
    refine calls_of_wp hfn hbody (wp_mono ((codeA_sound hng hm hc (n0 := A.next) (ρ0 := ρ) (w0 := w) hb L c _ A ex T' A' hcode).1 ρ _ w (Nat.le_refl _) (Step.refl _ _ _) hA hw) fun e a' w' hp => ?_)
    obtain ⟨rfl, ρ', k1, k2, k3, k4⟩ := hp
    obtain ⟨v', h1, h2⟩ := resultsA_sound k2 k3 hres
    rcases hex with rfl | rfl
    · exact ⟨k2.defers, v', h1, ρ', v', rfl, k1, k3, k4, h2⟩
    · exact ⟨k2.defers, v', h1, ρ', v', rfl, k1, k3, k4, h2⟩
  split at h <;> first | (cases h; done) | skip
  rename_i ex T' A1 hne hcode
  split at h <;> first | (cases h; done) | skip
  rename_i v1 hres
  cases h
  refine hret ?_ hcode hres rfl
  cases ex with
  | normal => exact .inl rfl
  | ret => exact .inr rfl
  | exit id => exact (hne id rfl).elim
end
end Go.Ab
set_option linter.unusedVariables false
set_option linter.unusedSimpArgs false
namespace Go.Ab
open Go Go.RowKit
section
variable {P : Program} {X : Ext} {base : Base}
theorem isSc_rel {ρ ρ' : Ren} {x : AV} {v : Value} (h : isSc x = true) (hr : VRel ρ x v) : VRel ρ' x v := by
  cases x <;> simp [isSc] at h
  obtain ⟨rfl, hp⟩ := sc_inv hr
  exact .sc _ hp
theorem ofList_cell {l : List AV} {n k : Nat} {x : AV} (h : cellAt (Tree.ofList l 0 .leaf) [] n k = some x) : k < n ∧ l[k]? = some x := by
  obtain ⟨h1, h2⟩ := cellAt_nozeros h
  rw [Tree.get_ofList] at h2
  split at h2
  · exact ⟨h1, by simpa using h2⟩
  · simp [Tree.get] at h2
theorem loads_cells {A : AW} {b k n : Nat} {tree : Tree AV} {zs xs : List AV} {opn : Bool} {el fz : Nat} (hg : A.heap.get b = some (.row n tree zs opn el fz)) (h : A.loads b 0 k = some xs) :
    xs.length = k ∧ ∀ j x, xs[j]? = some x → cellAt tree zs n j = some x := by
  unfold AW.loads at h
  rw [hg] at h
  obtain ⟨h1, h2⟩ := cells_get k 0 h
  exact ⟨h1, fun j x hx => by have := h2 j x hx; rwa [Nat.zero_add] at this⟩
theorem plainRow {ρ ρ' : Ren} {i : Info} {n : Nat} {tree : Tree AV} {zs : List AV} {opn : Bool} {el fz : Nat} {c : Array Value} {fr : Nat × Nat} (h : RowRel P ρ i n tree zs opn el fz c fr) {cs : List AV} {m : Nat} (hsc : cs.all isSc = true)
    (hcs : ∀ j x, cs[j]? = some x → cellAt tree zs n j = some x) (hm : i.sh + m ≤ c.size) : RowRel P ρ' i m (Tree.ofList cs 0 .leaf) [] opn el fz c fr :=
  ⟨hm, fun k x hk => by
    obtain ⟨_, hk⟩ := ofList_cell hk
    obtain ⟨v, h1, h2⟩ := h.val k x (hcs k x hk)
    exact ⟨v, h1, isSc_rel (List.all_eq_true.1 hsc x (List.mem_of_getElem? hk)) h2⟩, h.free, h.mark, h.opn, h.sh0⟩
theorem sameAll_spec {run : Nat → Option (List AV)} {C : List AV} : ∀ (n : Nat), sameAll run C n = true → ∀ j, j < n → run j = some C
  | 0, _, j, hj => by omega
  | n + 1, h, j, hj => by
    simp only [sameAll] at h
    split at h <;> first | (cases h; done) | skip
    rename_i C' hC
    simp only [Bool.and_eq_true] at h
    by_cases e : j = n
    · subst e; rw [hC, avsEq_eq _ _ h.1]
    · exact sameAll_spec n h.2 j (by omega)
theorem outcome_inv {A0 : AW} {b bv esz el want : Nat} {vrow : Blk} {r : Option (AV × AW)} {C : List AV} (h : outcome A0 b bv esz el want vrow r = some C) :
    ∃ rb A' kr tr zr, r = some (.slc rb 0 want (.op esz), A') ∧ A'.heap.get rb = some (.row kr tr zr true el 0) ∧ A'.heap.get bv = some vrow ∧ A'.loads rb 0 (want * esz) = some C ∧ (rb = b ∨ A0.next ≤ rb) ∧ C.all isSc = true := by
  unfold outcome at h
  split at h <;> first | (cases h; done) | skip
  rename_i rb n e A'
  split at h <;> first | (cases h; done) | skip
  rename_i kr tr zr el' y C' hrb hbv hC
  split at h <;> first | (cases h; done) | skip
  rename_i hc
  cases h
  simp only [Bool.and_eq_true] at hc
  obtain ⟨⟨⟨⟨⟨c1, c2⟩, c3⟩, c4⟩, c5⟩, c6⟩ := hc
  have c1 := beq_t c1; have c2 := beq_t c2; have c3 := beq_t c3; have c6 := blkEq_eq c6
  subst c1; subst c2; subst c3; subst c6
  refine ⟨rb, A', kr, tr, zr, rfl, hrb, hbv, hC, ?_, c5⟩
  rw [Bool.or_eq_true] at c4
  rcases c4 with c4 | c4
  · exact .inl (beq_t c4)
  · exact .inr (ble_t c4)
theorem splitA_sound {run : CallF} (hc : CallOk P base run) : CallOk P base (splitA run) := by
  intro f args A v A' h ρ w us hargs hw hb
  unfold splitA at h
  split at h
  case h_2 => exact hc f args A v A' h ρ w us hargs hw hb
  rename_i b len esz iv bv ov m mc
  split at h <;> first | (cases h; done) | skip
  rename_i kn tb zb el kv tv zv ev fv hgb hgv
  split at h <;> first | (cases h; done) | skip
  rename_i cs uv hcs huv
  split at h <;> first | (cases h; done) | skip
  rename_i hcond
  simp only [Bool.and_eq_true, Bool.not_eq_true'] at hcond
  obtain ⟨⟨⟨⟨c1, c2⟩, c3⟩, c4⟩, c5⟩ := hcond
  have c1 := beq_t c1; have c2 := beq_f c2; have c3 := ble_t c3
  dsimp only at h
  split at h <;> first | (cases h; done) | skip
  rename_i C hbig
  split at h <;> first | (cases h; done) | skip
  rename_i hsmall
  cases h
  -- the arguments
  cases hargs with
  | cons _ u1 _ us1 r1 hargs =>
  cases hargs with
  | cons _ u2 _ us2 r2 hargs =>
  cases hargs with
  | cons _ u3 _ us3 r3 hargs =>
  cases hargs
  obtain ⟨k, i, hbi, hp, he, hk, hu1⟩ := slcO_inv r1
  obtain ⟨hu2, hpi⟩ := sc_inv r2
  have r3' := r3
  generalize hu3 : u3 = u3' at r3'
  cases r3' with
  | slcS _ _ _ _ iv' hbvi =>
  obtain ⟨ob, hob, cb, frb, rfl, hrb⟩ := hw.blk b i _ hbi hgb
  obtain ⟨ov', hov, cv, frv, rfl, hrv⟩ := hw.blk bv iv' _ hbvi hgv
  obtain ⟨h0, hcsz, hels⟩ := hrb.opn rfl
  have hk0 : k = 0 := by
    rcases Nat.eq_zero_or_pos k with e | e
    · exact e
    · have : 0 < k * i.esz := Nat.mul_pos e h0
      omega
  subst hk0
  obtain ⟨hl1, hcell1⟩ := loads_cells hgb hcs
  obtain ⟨hl2, hcell2⟩ := loads_cells hgv huv
  have hbn := hw.dom b i hbi
  have hvn := hw.dom bv iv' hbvi
  have hcne : i.cb ≠ iv'.cb := fun e => c2 (hw.sep _ _ _ _ _ _ hbi hbvi hgb hgv e)
  -- the two blocks alone
  let ρl : Ren := fun x => if x = b then some i else if x = bv then some iv' else none
  have hρb : ρl b = some i := by simp [ρl]
  have hρv : ρl bv = some iv' := by simp only [ρl]; rw [if_neg (fun e => c2 e.symm)]; simp
  have hρ : ∀ x j, ρl x = some j → (x = b ∧ j = i) ∨ (x = bv ∧ j = iv') := by
    intro x j hx
    simp only [ρl] at hx
    split at hx
    · cases hx; exact .inl ⟨‹_›, rfl⟩
    · split at hx
      · cases hx; exact .inr ⟨‹_›, rfl⟩
      · cases hx
  have hρle : ∀ x j, ρl x = some j → ρ x = some j := by
    intro x j hx
    rcases hρ x j hx with ⟨rfl, rfl⟩ | ⟨rfl, rfl⟩
    · exact hbi
    · exact hbvi
  let vrow := Blk.row kv (Tree.ofList uv 0 .leaf) [] false ev fv
  have local_ : ∀ (n : Nat), i.sh + n ≤ cb.size → WRel P base ρl { next := A.next, heap := (Tree.leaf.set b (.row n (Tree.ofList cs 0 .leaf) [] true el 0)).set bv vrow } w := by
    intro n hn
    have hget : ∀ x y, ((Tree.leaf.set b (Blk.row n (Tree.ofList cs 0 .leaf) [] true el 0)).set bv vrow).get x = some y → (x = bv ∧ y = vrow) ∨ (x = b ∧ y = Blk.row n (Tree.ofList cs 0 .leaf) [] true el 0) := by
      intro x y h
      rw [Tree.get_set] at h
      split at h
      · cases h; exact .inl ⟨‹_›, rfl⟩
      · rw [Tree.get_set] at h
        split at h
        · cases h; exact .inr ⟨‹_›, rfl⟩
        · simp [Tree.get] at h
    refine ⟨fun x j hx => ?_, fun x j y hx hy => ?_, fun x1 x2 j1 j2 y1 y2 h1 h2 _ _ e => ?_, fun x y hy => ?_, fun x j y hx hy => ?_, hw.inv⟩
    · exact hw.dom x j (hρle x j hx)
    · rcases hget x y hy with ⟨rfl, rfl⟩ | ⟨rfl, rfl⟩
      · rw [hρv] at hx; cases hx
        exact ⟨_, hov, cv, frv, rfl, plainRow hrv c5 hcell2 hrv.size⟩
      · rw [hρb] at hx; cases hx
        exact ⟨_, hob, cb, frb, rfl, plainRow hrb c4 hcell1 hn⟩
    · rcases hρ x1 j1 h1 with ⟨rfl, rfl⟩ | ⟨rfl, rfl⟩ <;> rcases hρ x2 j2 h2 with ⟨rfl, rfl⟩ | ⟨rfl, rfl⟩
      · rfl
      · exact absurd e hcne
      · exact absurd e.symm hcne
      · rfl
    · rcases hget x y hy with ⟨rfl, _⟩ | ⟨rfl, _⟩
      · exact hvn.1
      · exact hbn.1
    · rcases hρ x j hx with ⟨rfl, rfl⟩ | ⟨rfl, rfl⟩
      · exact hw.lo _ _ _ hbi hgb
      · exact hw.lo _ _ _ hbvi hgv
  -- whatever comes of it
  have finish : ∀ (r : Option (AV × AW)), outcome A b bv esz el (len + m) vrow r = some C → ∀ (rr : AV) (Ar : AW) (e : Ending) (w' : World), r = some (rr, Ar) →
      (∃ ρ' v', e = .returned v' ∧ Step base A.next ρl w ρ' w' ∧ WRel P base ρ' Ar w' ∧ A.next ≤ Ar.next ∧ VRel ρ' rr v') →
      ∃ ρ' v', e = .returned v' ∧ Step base A.next ρ w ρ' w' ∧ WRel P base ρ' { next := A.next + 1, heap := (A.heap.del b).set A.next (.row ((len + m) * esz) (Tree.ofList C 0 .leaf) [] true el 0) } w' ∧ A.next ≤ A.next + 1 ∧ VRel ρ' (.slc A.next 0 (len + m) (.op esz)) v' := by
    intro r hr rr Ar e w' hrr hR
    obtain ⟨rb, Ar', kr, tr, zr, g1, g2, g3, g4, g5, g6⟩ := outcome_inv hr
    rw [hrr] at g1
    cases g1
    obtain ⟨ρ', v', rfl, hst, hwr, hnx, hv⟩ := hR
    obtain ⟨k', ir, hir, hp', he', hk', hv'⟩ := slcO_inv hv
    obtain ⟨obr, hobr, cr, frr, rfl, hrr'⟩ := hwr.blk rb ir _ hir g2
    obtain ⟨hr0, hrcs, hrels⟩ := hrr'.opn rfl
    have hk0' : k' = 0 := by
      rcases Nat.eq_zero_or_pos k' with e | e
      · exact e
      · have : 0 < k' * ir.esz := Nat.mul_pos e hr0
        omega
    subst hk0'
    have hρv' : ρ' bv = some iv' := by rw [hst.ext bv hvn.1]; exact hρv
    have hrbv : rb ≠ bv := by
      rcases g5 with e | e
      · rw [e]; exact c2
      · have := hvn.1; omega
    have hcbv : ir.cb ≠ iv'.cb := fun e => hrbv (hwr.sep _ _ _ _ _ _ hir hρv' g2 g3 e)
    obtain ⟨hl3, hcell3⟩ := loads_cells g2 g4
    have hfresh : ρ A.next = none := hw.fresh (Nat.le_refl _)
    have hle : ρ.le (ρ.add A.next ir) := Ren.le_add hfresh
    have hirdom := hwr.dom rb ir hir
    -- where the result's block lies
    have hircb : ir.cb = i.cb ∨ w.heap.size ≤ ir.cb := by
      rcases hst.fresh rb ir hir with ⟨b0, i0, hb0, e0⟩ | h
      · rcases hρ b0 i0 hb0 with ⟨rfl, rfl⟩ | ⟨rfl, rfl⟩
        · exact .inl e0.symm
        · exact absurd e0.symm hcbv
      · exact .inr h
    have hadd : ∀ x j, ρ.add A.next ir x = some j → (x = A.next ∧ j = ir) ∨ (x ≠ A.next ∧ ρ x = some j) := by
      intro x j h
      unfold Ren.add at h
      split at h
      · cases h; exact .inl ⟨‹_›, rfl⟩
      · exact .inr ⟨‹_›, h⟩
    have hget : ∀ {x y}, ((A.heap.del b).set A.next (Blk.row ((len + m) * esz) (Tree.ofList C 0 .leaf) [] true el 0)).get x = some y → (x = A.next ∧ y = Blk.row ((len + m) * esz) (Tree.ofList C 0 .leaf) [] true el 0) ∨ (x ≠ A.next ∧ x ≠ b ∧ A.heap.get x = some y) := by
      intro x y h
      rw [Tree.get_set] at h
      split at h
      · cases h; exact .inl ⟨‹_›, rfl⟩
      · rw [Tree.get_del] at h
        split at h
        · cases h
        · exact .inr ⟨‹_›, ‹_›, h⟩
    have hnew : RowRel P (ρ.add A.next ir) ir ((len + m) * esz) (Tree.ofList C 0 .leaf) [] true el 0 cr frr := by
      refine plainRow hrr' g6 hcell3 ?_
      rcases Nat.eq_zero_or_pos ((len + m) * esz) with e | e
      · rw [e]; have := hrr'.size; omega
      · have hj : (len + m) * esz - 1 < C.length := by omega
        have := cellAt_lt (hcell3 ((len + m) * esz - 1) C[(len + m) * esz - 1] (by simp [hj]))
        have := hrr'.size
        omega
    -- a block that stays
    have hkeep : ∀ x j y, x ≠ b → ρ x = some j → A.heap.get x = some y → ∃ o, w'.heap[j.cb]? = some o ∧ BlkRel P ρ j y o := by
      intro x j y hxb hx hy
      by_cases hxv : x = bv
      · subst hxv
        rw [hbvi] at hx; cases hx
        rw [hgv] at hy; cases hy
        obtain ⟨o, ho, cv', frv', rfl, hrv'⟩ := hwr.blk x iv' _ hρv' g3
        refine ⟨_, ho, cv', frv', rfl, ⟨hrv'.size, fun k x hk => ?_, hrv'.free, hrv'.mark, hrv'.opn, hrv'.sh0⟩⟩
        have hklt := cellAt_lt hk
        have hj : k < uv.length := by omega
        have hcx := hcell2 k uv[k] (by simp [hj])
        rw [hk] at hcx
        cases hcx
        obtain ⟨v, hv1, hv2⟩ := hrv'.val k uv[k] (by
          unfold cellAt
          rw [ble_iff.2 (show k + 1 ≤ kv by omega)]
          rw [Tree.get_ofList, if_pos (by omega)]
          simp [hj])
        exact ⟨v, hv1, isSc_rel (List.all_eq_true.1 c5 _ (List.getElem_mem _)) hv2⟩
      · obtain ⟨o, ho, hrel⟩ := hw.blk x j y hx hy
        refine ⟨o, ?_, hrel⟩
        rw [hst.frame j.cb (hw.dom x j hx).2 fun b0 i0 hb0 e0 => ?_]
        · exact ho
        · rcases hρ b0 i0 hb0 with ⟨rfl, rfl⟩ | ⟨rfl, rfl⟩
          · exact hxb (hw.sep _ _ _ _ _ _ hx hbi hy hgb e0.symm)
          · exact hxv (hw.sep _ _ _ _ _ _ hx hbvi hy hgv e0.symm)
    have hsepn : ∀ x j y, x ≠ b → ρ x = some j → A.heap.get x = some y → j.cb ≠ ir.cb := by
      intro x j y hxb hx hy e
      rcases hircb with h | h
      · exact hxb (hw.sep _ _ _ _ _ _ hx hbi hy hgb (by rw [e, h]))
      · have := (hw.dom x j hx).2; omega
    refine ⟨ρ.add A.next ir, v', rfl, ⟨hst.os, hst.tape, hst.output, hst.size, fun c hc hun => hst.frame c hc fun b0 i0 hb0 => hun b0 i0 (hρle b0 i0 hb0), fun x hx => ?_, fun x j hj => ?_, hst.low⟩, ⟨fun x j hj => ?_, fun x j y hj hy => ?_, fun x1 x2 j1 j2 y1 y2 hj1 hj2 hy1 hy2 he' => ?_, fun x y hy => ?_, fun x j y hj hy => ?_, hwr.inv⟩, by omega, ?_⟩
    · unfold Ren.add; rw [if_neg (by omega)]
    · rcases hadd x j hj with ⟨rfl, rfl⟩ | ⟨_, hj⟩
      · rcases hircb with h | h
        · exact .inl ⟨b, i, hbi, h.symm⟩
        · exact .inr h
      · exact .inl ⟨x, j, hj, rfl⟩
    · rcases hadd x j hj with ⟨rfl, rfl⟩ | ⟨_, hj⟩
      · exact ⟨by simp, hirdom.2⟩
      · have := hw.dom x j hj
        exact ⟨by show x < A.next + 1; omega, Nat.lt_of_lt_of_le this.2 hst.size⟩
    · rcases hget hy with ⟨rfl, rfl⟩ | ⟨hxn, hxb, hy⟩
      · rcases hadd _ j hj with ⟨_, rfl⟩ | ⟨h', _⟩
        · exact ⟨_, hobr, cr, frr, rfl, hnew⟩
        · exact absurd rfl h'
      · rcases hadd x j hj with ⟨h', _⟩ | ⟨_, hj⟩
        · exact absurd h' hxn
        · obtain ⟨o, ho, hrel⟩ := hkeep x j y hxb hj hy
          exact ⟨o, ho, hrel.mono hle⟩
    · rcases hget hy1 with ⟨e1, _⟩ | ⟨n1, nb1, hy1⟩ <;> rcases hget hy2 with ⟨e2, _⟩ | ⟨n2, nb2, hy2⟩
      · rw [e1, e2]
      · rcases hadd x1 j1 hj1 with ⟨_, f1⟩ | ⟨g1', _⟩
        · rcases hadd x2 j2 hj2 with ⟨g2', _⟩ | ⟨_, hj2⟩
          · exact absurd g2' n2
          · exact absurd (by rw [← he', f1]) (hsepn x2 j2 y2 nb2 hj2 hy2)
        · exact absurd e1 g1'
      · rcases hadd x2 j2 hj2 with ⟨_, f2⟩ | ⟨g2', _⟩
        · rcases hadd x1 j1 hj1 with ⟨g1', _⟩ | ⟨_, hj1⟩
          · exact absurd g1' n1
          · exact absurd (by rw [he', f2]) (hsepn x1 j1 y1 nb1 hj1 hy1)
        · exact absurd e2 g2'
      · rcases hadd x1 j1 hj1 with ⟨g1', _⟩ | ⟨_, hj1⟩
        · exact absurd g1' n1
        · rcases hadd x2 j2 hj2 with ⟨g2', _⟩ | ⟨_, hj2⟩
          · exact absurd g2' n2
          · exact hw.sep _ _ _ _ _ _ hj1 hj2 hy1 hy2 he'
    · rcases hget hy with ⟨rfl, _⟩ | ⟨_, _, hy⟩
      · simp
      · have := hw.top x y hy; show x < A.next + 1; omega
    · rcases hget hy with ⟨rfl, _⟩ | ⟨hxn, _, hy⟩
      · rcases hadd _ j hj with ⟨_, rfl⟩ | ⟨h', _⟩
        · exact hwr.lo rb j _ hir g2
        · exact absurd rfl h'
      · rcases hadd x j hj with ⟨h', _⟩ | ⟨_, hj⟩
        · exact absurd h' hxn
        · exact hw.lo x j y hj hy
    · rw [hv']
      have := VRel.slcO (ρ := ρ.add A.next ir) A.next 0 (len + m) ir (by simp [Ren.add]) hk'
      rw [Nat.zero_mul] at this ⊢
      rw [he']
      exact this
  -- the two roads
  subst hu1 hu2 hu3
  have hal : ∀ (cap : Cap) (c : Nat), VRel ρl (.slc b 0 len cap) (.slice (some ⟨i.cb, i.sh + 0 * i.esz, none⟩) len (i.capN - 0)) →
      LRel ρl [.slc b 0 len cap, .sc u2, .slc bv ov m (.ex mc)] [.slice (some ⟨i.cb, i.sh + 0 * i.esz, none⟩) len (i.capN - 0), u2, .slice (some ⟨iv'.cb, iv'.sh + ov, none⟩) m mc] := fun cap c h1 =>
    .cons _ _ _ _ h1 (.cons _ _ _ _ (.sc _ hpi) (.cons _ _ _ _ (.slcS bv ov m mc iv' hρv) .nil))
  by_cases hroom : len + m ≤ i.capN
  · -- there is room
    have h1 : VRel ρl (.slc b 0 len (.op esz)) (.slice (some ⟨i.cb, i.sh + 0 * i.esz, none⟩) len (i.capN - 0)) := by
      have := VRel.slcO (ρ := ρl) b 0 len i hρb hk
      rw [Nat.zero_mul] at this ⊢
      rw [he]; exact this
    have hsz : i.sh + (len + m) * esz ≤ cb.size := by
      rw [hcsz, he]
      have := Nat.mul_le_mul_right i.esz hroom
      omega
    obtain ⟨rb, Ar, kr, tr, zr, g1, _⟩ := outcome_inv hbig
    exact (hc f _ _ _ _ g1 ρl w _ (hal _ 0 h1) (local_ _ hsz) hb).mono fun e w' hR => finish _ hbig _ _ e w' g1 hR
  · -- there is none
    have hj : i.capN - len < m := by omega
    have hs := sameAll_spec m hsmall (i.capN - len) hj
    have hlj : len + (i.capN - len) = i.capN := by omega
    have h1 : VRel ρl (.slc b 0 len (.ex (len + (i.capN - len)))) (.slice (some ⟨i.cb, i.sh + 0 * i.esz, none⟩) len (i.capN - 0)) := by
      rw [hlj]
      have := VRel.slcS (ρ := ρl) b 0 len i.capN i hρb
      simpa using this
    obtain ⟨rb, Ar, kr, tr, zr, g1, _⟩ := outcome_inv hs
    exact (hc f _ _ _ _ g1 ρl w _ (hal _ 0 h1) (local_ _ (by have := hrb.size; omega)) hb).mono fun e w' hR => finish _ hs _ _ e w' g1 hR
end
end Go.Ab
set_option linter.unusedVariables false
set_option linter.unusedSimpArgs false
namespace Go.Ab
open Go Go.RowKit Go.WideShapes Go.ChangeShapes
def Base.any (n : Nat) : Base := ⟨n, fun _ => True, fun _ _ _ _ => trivial⟩
section
variable {H : Type} {enc : TypeId × Value → H} {P : Program}
theorem post_of_below {f : Func} {s : ChangeSpec} {apart fresh handsOn again : Bool} {W W' : World} {args : Array Value} {v : Value} {ds gs : List (DataW H)} {before pa pv : List MemPlace}
    (hW : DataW.Whole enc P f.params.toList s.vars apart W args.toList ds gs before)
    (hres : ∀ (b : Nat) (sp : Nat → Bool) (hd : Bool), DataW.TrodAll enc P W' b sp hd f.resultTypes.toList (v.resultList f.resultTypes.size) (s.fn H (ds ++ gs)).results [])
    (hargs : ∀ sp : Nat → Bool, (∀ p ∈ before, sp p.block = true) → DataW.TrodAll enc P W' 0 sp true f.params.toList args.toList (s.fn H (ds ++ gs)).args pa)
    (hvars : ∀ sp : Nat → Bool, (∀ p ∈ before, sp p.block = true) → DataW.TrodVars enc P W' sp s.vars (s.fn H (ds ++ gs)).vars pv)
    (hps : before = pa ++ pv) (hb : Below W.heap.size W W')
    (hok : ∀ (j : Nat) (t : TypeId) (r : Value), f.resultTypes[j]? = some t → (v.resultList f.resultTypes.size)[j]? = some r → Value.okWide P W' .any 0 t r) :
    s.post enc P f apart fresh handsOn again W args v W' := by
  have hlt : ∀ p ∈ before, p.block < W.heap.size := fun p hp => hW.lt p hp
  have hold : ∀ p ∈ before, (fun b => decide (b < W.heap.size)) p.block = true := fun p hp => by simpa using hlt p hp
  refine ⟨ds, gs, before, [], pa, pv, hW, hres _ _ _, hargs _ hold, hvars _ hold, World.keptBut_mono (fun p hp => ⟨hp, ?_⟩) (hb.frame (· ∈ before)), fun _ => ?_⟩
  · rw [hps, List.mem_append] at hp
    exact Or.inr hp
  · obtain ⟨_, _, _, _, _, hz, hn⟩ := hW
    refine ⟨hok, _, _, ([] ++ pa) ++ pv, ⟨[] ++ pa, pv, trodAll_append (hargs _ (fun _ _ => rfl)) (hres _ _ _), hvars _ (fun _ _ => rfl), rfl, ?_, ?_⟩, ?_⟩
    · intro b off hp
      have hin : MemPlace.cell b off ∈ before := by rw [hps]; simpa using hp
      rw [hb.frozen (hlt _ hin)]
      exact hz b off hin
    · intro ha
      have := hn ha
      rw [hps] at this
      simpa using this
    · intro p hp _
      rw [hps]
      simpa using hp
end
theorem names_of {P : Program} (h : (P.funcs.toList.all fun fn => fn.name != "runtime.NumGoroutine") = true) (f : FuncId) (fn : Func) (hf : P.funcs[f]? = some fn) : fn.name ≠ "runtime.NumGoroutine" := by
  have := List.all_eq_true.1 h fn (by rw [← Array.getElem?_toList] at hf; exact List.mem_of_getElem? hf)
  simpa using this
end Go.Ab
set_option linter.unusedVariables false
set_option linter.unusedSimpArgs false
namespace Go.Ab
open Go Go.RowKit
inductive RB where
  | row (l : List AV) (opn : Bool) (elem : TypeId) (fz : Nat)
  | ro (c : Array Value)
  | map (es : List (AV × AV × Nat)) (clock : Nat)
  | iter (m : Option Nat) (since : Nat) (seen : List Nat) (stepped : Nat)
  | siter (s : List UInt8) (pos : Nat)
structure RM where
  next : Nat
  heap : Nat → Option RB
  base : Base
abbrev RM.lo (M : RM) : Nat := M.base.n
def RM.push (M : RM) (x : RB) : RM := { M with next := M.next + 1, heap := fun c => if c = M.next then some x else M.heap c }
def RM.put (M : RM) (b : Nat) (x : RB) : RM := { M with heap := fun c => if c = b then some x else M.heap c }
def RM.del (M : RM) (b : Nat) : RM := { M with heap := fun c => if c = b then none else M.heap c }
def absV (lo : Nat) : Value → AV
  | .pointer (some ⟨b, o, none⟩) => if b < lo then .ptr b o else .top
  | .slice (some _) 0 0 => .emp 0
  | .slice (some ⟨b, o, none⟩) len cap => if b < lo then .slc b o len (.ex cap) else .top
  | v => (ofCell v).getD .top
def RM.cells (M : RM) (b : Nat) : Option (List AV) :=
  match M.heap b with
  | some (.row l _ _ _) => some l
  | some (.ro c) => some (c.toList.map (absV M.lo))
  | _ => none
def RM.loads (M : RM) (b o k : Nat) : Option (List AV) :=
  match M.cells b with
  | some l => if o + k ≤ l.length then some ((l.drop o).take k) else none
  | none => none
def RM.stores (M : RM) (b o : Nat) (vs : List AV) : Option RM :=
  match M.heap b with
  | some (.row l opn elem fz) => if o + vs.length ≤ l.length ∧ fz ≤ o ∧ vs.all oneCell = true then some (M.put b (.row (l.take o ++ vs ++ l.drop (o + vs.length)) opn elem fz)) else none
  | _ => none
def RLe : RB → Blk → Prop
  | .row l opn elem fz, .row n tree zs opn' elem' fz' => l.length = n ∧ opn' = opn ∧ elem' = elem ∧ fz' = fz ∧ ∀ (k : Nat) (v : AV), l[k]? = some v → cellAt tree zs n k = some v
  | .map es c, .map es' c' => es' = es ∧ c' = c
  | .iter a b c d, .iter a' b' c' d' => a' = a ∧ b' = b ∧ c' = c ∧ d' = d
  | .siter s p, .siter s' p' => s' = ⟨⟨s⟩⟩ ∧ p' = p
  | _, _ => False
structure MRelA (P : Program) (ρ : Ren) (M : RM) (w : World) (A : AW) : Prop where
  next : A.next = M.next
  rel : WRel P M.base ρ A w
  size : M.lo ≤ w.heap.size
  blk : ∀ b x, M.heap b = some x → (∃ y, A.heap.get b = some y ∧ RLe x y) ∨ ∃ c, x = .ro c ∧ b < M.lo ∧ ∃ elem fr, w.heap[b]? = some (.cells c elem fr)
  old : ∀ c, c < M.lo → ρ c = some ⟨c, 0, 0, 0⟩
def MRel (P : Program) (ρ : Ren) (M : RM) (w : World) : Prop := ∃ A, MRelA P ρ M w A
structure After (P : Program) (M : RM) (ρ : Ren) (w : World) (M' : RM) (ρ' : Ren) (w' : World) : Prop where
  step : Step M.lo M.next ρ w ρ' w'
  rel : MRel P ρ' M' w'
  base : M'.base = M.base
  next : M.next ≤ M'.next
theorem After.lo {P : Program} {M M' : RM} {ρ ρ' : Ren} {w w' : World} (h : After P M ρ w M' ρ' w') : M'.lo = M.lo := congrArg Base.n h.base
theorem Step.of_base {M M0 : RM} {n : Nat} {ρ ρ' : Ren} {w w' : World} (h : M.base = M0.base) (s : Step M.lo n ρ w ρ' w') : Step M0.lo n ρ w ρ' w' := by
  unfold RM.lo at *; rw [← h]; exact s
section
variable {P : Program} {ρ ρ' : Ren} {M M' : RM} {w w' : World} {A A' : AW}
theorem After.refl (h : MRel P ρ M w) : After P M ρ w M ρ w := ⟨Step.refl _ _ _, h, rfl, Nat.le_refl _⟩
theorem After.trans {M1 M2 : RM} {ρ1 ρ2 : Ren} {w1 w2 : World} (h : After P M ρ w M1 ρ1 w1) (k : After P M1 ρ1 w1 M2 ρ2 w2) : After P M ρ w M2 ρ2 w2 :=
  ⟨h.step.trans (h.lo ▸ k.step) h.next, k.rel, k.base.trans h.base, Nat.le_trans h.next k.next⟩
theorem After.le (h : After P M ρ w M' ρ' w') (hr : MRel P ρ M w) : ρ.le ρ' := by
  obtain ⟨A, hA⟩ := hr
  have := h.step
  rw [← hA.next] at this
  exact this.le hA.rel
theorem MRel.fresh (h : MRel P ρ M w) {b : Nat} (hb : M.next ≤ b) : ρ b = none := by
  obtain ⟨A, hA⟩ := h
  exact hA.rel.fresh (by rw [hA.next]; exact hb)
theorem MRel.lt (h : MRel P ρ M w) {b : Nat} {i : Info} (hb : ρ b = some i) : b < M.next ∧ i.cb < w.heap.size := by
  obtain ⟨A, hA⟩ := h
  have := hA.rel.dom b i hb
  rw [hA.next] at this; exact this
theorem MRel.lo_le (h : MRel P ρ M w) : M.lo ≤ M.next := by
  rcases Nat.eq_zero_or_pos M.lo with e | e
  · omega
  · obtain ⟨A, hA⟩ := h
    have := hA.rel.dom (M.lo - 1) _ (hA.old _ (by omega))
    rw [hA.next] at this; omega
theorem MRel.drew (h : MRel P ρ M w) : MRel P ρ M w.drew := by
  obtain ⟨A, hA⟩ := h
  exact ⟨A, hA.next, hA.rel.drew, hA.size, hA.blk, hA.old⟩
theorem after_of (h : MRelA P ρ M w A) (hst : Step M.lo A.next ρ w ρ' w') (hw : WRel P M.base ρ' A' w') (hbase : M'.base = M.base) (hn : A'.next = M'.next) (hle : A.next ≤ A'.next)
    (hb : ∀ b x, M'.heap b = some x → (∃ y, A'.heap.get b = some y ∧ RLe x y) ∨ ∃ c, x = .ro c ∧ M.heap b = some x) : After P M ρ w M' ρ' w' := by
  have hlo : M'.lo = M.lo := congrArg Base.n hbase
  refine ⟨h.next ▸ hst, ⟨A', hn, hbase ▸ hw, by rw [hlo]; exact Nat.le_trans h.size hst.size, fun b x hx => ?_, fun c hc => ?_⟩, hbase, by rw [← h.next, ← hn]; exact hle⟩
  · rcases hb b x hx with h1 | ⟨c, rfl, h1⟩
    · exact .inl h1
    · rcases h.blk b _ h1 with ⟨y, _, hy⟩ | ⟨c', e, hlt, elem, fr, hh⟩
      · cases y <;> exact hy.elim
      · cases e
        exact .inr ⟨c, rfl, by rw [hlo]; exact hlt, elem, fr, by rw [hst.low b hlt]; exact hh⟩
  · rw [hlo] at hc
    have := h.old c hc
    rw [hst.ext c (h.rel.dom c _ this).1]; exact this
theorem absV_rel {lo : Nat} (h : ∀ c, c < lo → ρ c = some ⟨c, 0, 0, 0⟩) (v : Value) : VRel ρ (absV lo v) v := by
  unfold absV
  split
  · split
    · rename_i b o hb
      have := VRel.ptr (ρ := ρ) b o ⟨b, 0, 0, 0⟩ (h b hb)
      simpa using this
    · exact .top _
  · exact .emp _ _ _
  · split
    · rename_i b o len cap _ hb
      have := VRel.slcS (ρ := ρ) b o len cap ⟨b, 0, 0, 0⟩ (h b hb)
      simpa using this
    · exact .top _
  · cases hv : ofCell v with
    | none => exact .top _
    | some u => exact ofCell_rel ρ hv
theorem cells_of {tree : Tree AV} {zs : List AV} {n : Nat} {l : List AV} (h : ∀ (k : Nat) (v : AV), l[k]? = some v → cellAt tree zs n k = some v) : ∀ (k o : Nat), o + k ≤ l.length → cells tree zs n o k = some ((l.drop o).take k)
  | 0, o, _ => by simp [cells]
  | k + 1, o, hk => by
    have ho : o < l.length := by omega
    simp only [cells]
    rw [h o l[o] (by simp [ho]), cells_of h k (o + 1) (by omega)]
    simp only
    congr 1
    rw [List.drop_eq_getElem_cons ho, List.take_succ_cons]
theorem RM.loads_rel (hw : MRel P ρ M w) {b o k : Nat} {i : Info} {xs : List AV} (hb : ρ b = some i) (h : M.loads b o k = some xs) :
    ∃ vs, LRel ρ xs vs ∧ vs.length = k ∧ ∀ j v, vs[j]? = some v → w.cell? ((⟨i.cb, i.sh + o, none⟩ : Addr).add j) = some v := by
  obtain ⟨A, hA⟩ := hw
  unfold RM.loads RM.cells at h
  split at h <;> first | (cases h; done) | skip
  rename_i l hl
  split at h <;> first | (cases h; done) | skip
  rename_i hok
  cases h
  split at hl <;> first | (cases hl; done) | skip
  · rename_i l0 opn elem fz hh
    cases hl
    rcases hA.blk b _ hh with ⟨y, hy, hle⟩ | ⟨c, e, _⟩
    · cases y <;> first | exact hle.elim | skip
      obtain ⟨h1, rfl, rfl, rfl, h5⟩ := hle
      refine Go.Ab.loads_rel hA.rel hb ?_
      unfold AW.loads
      rw [hy]
      exact cells_of h5 k o (by omega)
    · cases e
  · rename_i c hh
    cases hl
    rcases hA.blk b _ hh with ⟨y, hy, hle⟩ | ⟨c, e, hlt, elem, fr, hc⟩
    · cases y <;> exact hle.elim
    · cases e
      rw [hA.old b hlt] at hb
      cases hb
      simp only [List.length_map, Array.length_toList] at hok
      refine ⟨(c.toList.drop o).take k, ?_, by simp; omega, fun j v hj => ?_⟩
      · rw [← List.map_drop, ← List.map_take]
        generalize (c.toList.drop o).take k = vs
        induction vs with
        | nil => exact .nil
        | cons v vs ih => exact .cons _ _ _ _ (absV_rel hA.old v) ih
      · rw [add_off, World.cell?, hc]
        rw [List.getElem?_take] at hj
        split at hj
        · rw [List.getElem?_drop] at hj
          simp only [Nat.zero_add]
          simpa using hj
        · cases hj
theorem RM.run_loads (hw : MRel P ρ M w) {b o k : Nat} {i : Info} {xs : List AV} (hb : ρ b = some i) (h : M.loads b o k = some xs) :
    ∃ vs, LRel ρ xs vs ∧ vs.length = k ∧ (∀ j v, vs[j]? = some v → w.cell? ((⟨i.cb, i.sh + o, none⟩ : Addr).add j) = some v) ∧ (loadCells ⟨i.cb, i.sh + o, none⟩ k).run P w = .ok ⟨vs⟩ w := by
  obtain ⟨vs, h1, h2, h3⟩ := RM.loads_rel hw hb h
  exact ⟨vs, h1, h2, h3, by have := run_loadCells_list (P := P) w ⟨i.cb, i.sh + o, none⟩ vs h3; rw [h2] at this; exact this⟩
theorem putAll_all : ∀ (vs : List AV) (t : Tree AV) (o : Nat), vs.all oneCell = true → ∃ t', putAll t o vs = some t'
  | [], t, o, _ => ⟨t, rfl⟩
  | v :: vs, t, o, h => by
    simp only [List.all_cons, Bool.and_eq_true] at h
    obtain ⟨t', ht⟩ := putAll_all vs (t.set o v) (o + 1) h.2
    exact ⟨t', by simp only [putAll, h.1]; exact ht⟩
theorem RM.stores_A (h : MRelA P ρ M w A) {b o : Nat} {vs : List AV} (hs : M.stores b o vs = some M') :
    ∃ A', A.stores b o vs = some A' ∧ M'.base = M.base ∧ A'.next = M'.next ∧ M'.next = M.next ∧
      ∀ c x, M'.heap c = some x → (∃ y, A'.heap.get c = some y ∧ RLe x y) ∨ ∃ d, x = .ro d ∧ M.heap c = some x := by
  unfold RM.stores at hs
  split at hs <;> first | (cases hs; done) | skip
  rename_i l opn elem fz hh
  split at hs <;> first | (cases hs; done) | skip
  rename_i hc
  obtain ⟨c1, c2, c3⟩ := hc
  cases hs
  rcases h.blk b _ hh with ⟨y, hy, hle⟩ | ⟨c, e, _⟩
  · cases y <;> first | exact hle.elim | skip
    rename_i n tree zs opn' elem' fz'
    obtain ⟨h1, rfl, rfl, rfl, h5⟩ := hle
    obtain ⟨t', ht⟩ := putAll_all vs tree o c3
    obtain ⟨_, hget⟩ := putAll_get _ _ _ ht
    refine ⟨{ A with heap := A.heap.set b (.row n t' zs opn' elem' fz') }, ?_, rfl, h.next, rfl, fun c x hx => ?_⟩
    · unfold AW.stores
      rw [hy]
      simp only
      rw [ble_iff.2 (by omega), ble_iff.2 c2, ht]
    · simp only [RM.put] at hx
      simp only [Tree.get_set]
      by_cases e : c = b
      · subst e
        rw [if_pos rfl] at hx ⊢
        cases hx
        refine .inl ⟨_, rfl, ?_, rfl, rfl, rfl, fun k v hk => ?_⟩
        · simp; omega
        · rw [cellAt_put hget]
          by_cases hin : o ≤ k ∧ k < o + vs.length
          · rw [if_pos hin, if_pos (by omega)]
            rw [List.append_assoc, List.getElem?_append_right (by simp; omega), List.getElem?_append_left (by simp; omega)] at hk
            rw [← hk]; congr 1; simp; omega
          · rw [if_neg hin]
            refine h5 k v ?_
            rw [← hk]
            by_cases hlt : k < o
            · rw [List.append_assoc, List.getElem?_append_left (by simp; omega), List.getElem?_take, if_pos hlt]
            · rw [List.getElem?_append_right (by simp; omega), List.getElem?_drop]
              congr 1; simp; omega
      · rw [if_neg e] at hx ⊢
        rcases h.blk c x hx with ⟨y, a, b⟩ | ⟨d, e', _⟩
        · exact .inl ⟨y, a, b⟩
        · exact .inr ⟨d, e', hx⟩
  · cases e
theorem RM.push_A (h : MRelA P ρ M w A) {x : RB} {y : Blk} (hx : RLe x y) :
    (M.push x).base = M.base ∧ (A.push y).next = (M.push x).next ∧
      ∀ c z, (M.push x).heap c = some z → (∃ u, (A.push y).heap.get c = some u ∧ RLe z u) ∨ ∃ d, z = .ro d ∧ M.heap c = some z := by
  refine ⟨rfl, by simp [AW.push, RM.push, h.next], fun c z hz => ?_⟩
  simp only [RM.push] at hz
  simp only [AW.push, Tree.get_set, h.next]
  by_cases e : c = M.next
  · subst e
    rw [if_pos rfl] at hz ⊢
    cases hz
    exact .inl ⟨y, rfl, hx⟩
  · rw [if_neg e] at hz ⊢
    rcases h.blk c z hz with ⟨u, a, b⟩ | ⟨d, e', _⟩
    · exact .inl ⟨u, a, b⟩
    · exact .inr ⟨d, e', hz⟩
theorem MRel.phantom (h : MRel P ρ M w) (x : RB) (y : Blk) (hx : RLe x y) : MRel P ρ (M.push x) w := by
  obtain ⟨A, hA⟩ := h
  obtain ⟨h1, h2, h3⟩ := RM.push_A hA hx
  refine ⟨A.push y, h2, phantom_rel hA.rel y, hA.size, fun b z hz => ?_, hA.old⟩
  rcases h3 b z hz with k | ⟨d, rfl, k⟩
  · exact .inl k
  · rcases hA.blk b _ k with ⟨u, _, hu⟩ | k2
    · cases u <;> exact hu.elim
    · exact .inr k2
end
end Go.Ab
set_option linter.unusedVariables false
set_option linter.unusedSimpArgs false
namespace Go.Ab
open Go Go.RowKit
abbrev N (k : IntKind) (n : Int) : AV := .sc (.int k n)
abbrev Bo (b : Bool) : AV := .sc (.bool b)
abbrev St (l : List UInt8) : AV := .sc (.string ⟨⟨l⟩⟩)
def intBin (op : BinOp) (k : IntKind) (a b : Int) : Option Value :=
  match op with
  | .add => some (.int k (k.wrap (a + b)))
  | .sub => some (.int k (k.wrap (a - b)))
  | .mul => some (.int k (k.wrap (a * b)))
  | .quo => if b = 0 then none else some (.int k (k.wrap (a.tdiv b)))
  | .rem => if b = 0 then none else some (.int k (a.tmod b))
  | .and => some (.int k (k.wrap (BitVec.ofInt k.bits a &&& BitVec.ofInt k.bits b).toNat))
  | .or => some (.int k (k.wrap (BitVec.ofInt k.bits a ||| BitVec.ofInt k.bits b).toNat))
  | .xor => some (.int k (k.wrap (BitVec.ofInt k.bits a ^^^ BitVec.ofInt k.bits b).toNat))
  | .andNot => some (.int k (k.wrap (BitVec.ofInt k.bits a &&& ~~~BitVec.ofInt k.bits b).toNat))
  | .eql => some (.bool (a == b))
  | .neq => some (.bool (a != b))
  | .lss => some (.bool (decide (a < b)))
  | .leq => some (.bool (decide (a ≤ b)))
  | .gtr => some (.bool (decide (a > b)))
  | .geq => some (.bool (decide (a ≥ b)))
  | _ => none
def intSh (op : BinOp) (k : IntKind) (a b : Int) : Option Value :=
  if b < 0 then none else
  match op with
  | .shl => some (.int k (k.wrap (a * 2 ^ (min b.toNat k.bits))))
  | .shr => some (.int k (a.fdiv (2 ^ (min b.toNat k.bits))))
  | _ => none
def intW (op : BinOp) (x y : AV) (K : AV → Prop) : Prop := ∃ k a b v, x = N k a ∧ y = N k b ∧ intBin op k a b = some v ∧ K (.sc v)
def shW (op : BinOp) (x y : AV) (K : AV → Prop) : Prop := ∃ k a l b v, x = N k a ∧ y = N l b ∧ intSh op k a b = some v ∧ K (.sc v)
def strW (op : BinOp) (x y : AV) (K : AV → Prop) : Prop := ∃ a b v, x = St a ∧ y = St b ∧ strOp op a b = some v ∧ K v
def boolEqW (neg : Bool) (x y : AV) (K : AV → Prop) : Prop := ∃ a b, x = Bo a ∧ y = Bo b ∧ K (Bo ((a == b) != neg))
def refEq : AV → AV → Option Bool
  | .ptr b o, .ptr c p => if b = c then some (decide (o = p)) else none
  | .ptr _ _, .sc (.pointer none) => some false
  | .sc (.pointer none), .ptr _ _ => some false
  | .sc (.pointer none), .sc (.pointer none) => some true
  | .slc _ _ _ _, .sc (.slice none 0 0) => some false
  | .emp _, .sc (.slice none 0 0) => some false
  | .sc (.slice none 0 0), .sc (.slice none 0 0) => some true
  | .map _, .sc (.map none) => some false
  | .sc (.map none), .sc (.map none) => some true
  | .fn _ _ _, .sc .nilFunc => some false
  | .sc .nilFunc, .sc .nilFunc => some true
  | .ifc _ _, .sc .nilIface => some false
  | _, _ => none
def refTag (P : Program) (t : TypeId) : Nat :=
  match P.underlying t with
  | some (.pointer el) => match sizeT P el with | some (_ + 1) => 1 | _ => 0
  | some (.slice _) => 2
  | some (.map _ _) => 3
  | some (.func _ _ _) => 4
  | some (.interface _) => 5
  | _ => 0
def tagOf : AV → Nat
  | .ptr _ _ | .sc (.pointer none) => 1
  | .slc _ _ _ _ | .emp _ | .sc (.slice none 0 0) => 2
  | .map _ | .sc (.map none) => 3
  | .fn _ _ _ | .sc .nilFunc => 4
  | .ifc _ _ => 5
  | _ => 6
def refEqW (neg : Bool) (tag : Nat) (x y : AV) (K : AV → Prop) : Prop := tagOf x = tag ∧ ∃ r, refEq x y = some r ∧ K (Bo (r != neg))
def flatFs (P : Program) (g : TypeId → Option (List Nat)) : List Field → Nat → Option (List Nat)
  | [], _ => some []
  | f :: fs, off => match f.name == "_", Nat.beq f.offset off, g f.type, sizeT P f.type with
    | false, true, some ks, some n => match Nat.beq n ks.length, flatFs P g fs (off + n) with
      | true, some r => some (ks ++ r)
      | _, _ => none
    | _, _, _, _ => none
def flatD (P : Program) : Nat → TypeId → Option (List Nat)
  | 0, _ => none
  | d + 1, t => match P.underlying t with
    | some (.int _) => some [1]
    | some .string => some [2]
    | some .bool => some [3]
    | some (.struct fs) => match P.stoodInHeld t with
      | true => none
      | false => flatFs P (flatD P d) fs.toList 0
    | _ => none
def flatT (P : Program) (t : TypeId) : Option (List Nat) :=
  match P.eqGuardType P.depth t with
  | true => none
  | false => flatD P 10 t
def cellEq : Nat → AV → AV → Option Bool
  | 1, .sc (.int k a), .sc (.int l b) => if k = l then some (a == b) else none
  | 2, .sc (.string a), .sc (.string b) => some (a.data.toList == b.data.toList)
  | 3, .sc (.bool a), .sc (.bool b) => some (a == b)
  | _, _, _ => none
def flatEq : List Nat → List AV → List AV → Option Bool
  | [], [], [] => some true
  | k :: ks, x :: xs, y :: ys => match cellEq k x y with
    | some true => flatEq ks xs ys
    | some false => some false
    | none => none
  | _, _, _ => none
def aggEqW (neg : Bool) (ks : List Nat) (x y : AV) (K : AV → Prop) : Prop := ∃ cs ds r, x = .agg cs ∧ y = .agg ds ∧ cs.length = ks.length ∧ ds.length = ks.length ∧ flatEq ks cs ds = some r ∧ K (Bo (r != neg))
def pickW (c a b : AV) (K : AV → Prop) : Prop := ∃ t, c = Bo t ∧ K (if t then a else b)
def ptrW (x : AV) (K : AV → Prop) : Prop := ∃ b o, x = .ptr b o ∧ K (.ptr b o)
def fldW (x : AV) (n : Nat) (K : AV → Prop) : Prop := ∃ b o, x = .ptr b o ∧ K (.ptr b (o + n))
def idxS (x i : AV) (size : Nat) (K : AV → Prop) : Prop := ∃ b p len cap k n, x = .slc b p len cap ∧ i = N k n ∧ 0 ≤ n ∧ n < len ∧ K (.ptr b (p + n.toNat * size))
def idxA (x i : AV) (len size : Nat) (K : AV → Prop) : Prop := ∃ b p k n, x = .ptr b p ∧ i = N k n ∧ 0 ≤ n ∧ n < len ∧ K (.ptr b (p + n.toNat * size))
def part1 (x : AV) (off : Nat) (K : AV → Prop) : Prop := ∃ cs v, x = .agg cs ∧ cs[off]? = some v ∧ K v
def partN (x : AV) (off n : Nat) (K : AV → Prop) : Prop := ∃ cs, x = .agg cs ∧ off + n ≤ cs.length ∧ K (.agg ((cs.drop off).take n))
def idxP1 (x i : AV) (len : Nat) (K : AV → Prop) : Prop := ∃ cs k n v, x = .agg cs ∧ i = N k n ∧ 0 ≤ n ∧ n < len ∧ cs[n.toNat]? = some v ∧ K v
def idxPN (x i : AV) (len size : Nat) (K : AV → Prop) : Prop := ∃ cs k n, x = .agg cs ∧ i = N k n ∧ 0 ≤ n ∧ n < len ∧ n.toNat * size + size ≤ cs.length ∧ K (.agg ((cs.drop (n.toNat * size)).take size))
def idxB (x i : AV) (K : AV → Prop) : Prop := ∃ s k n b, x = St s ∧ i = N k n ∧ 0 ≤ n ∧ s[n.toNat]? = some b ∧ K (N .u8 b.toNat)
def extW (x : AV) (i : Nat) (K : AV → Prop) : Prop := ∃ vs v, x = .tup vs ∧ vs[i]? = some v ∧ K v
def bnd (d : Nat) : Option AV → Option Nat
  | none => some d
  | some (.sc (.int _ n)) => if 0 ≤ n then some n.toNat else none
  | _ => none
def subS (size : Nat) (x : AV) (lo hi mx : Option AV) : Option AV :=
  match x with
  | .slc b o len cap =>
    match bnd 0 lo, bnd len hi with
    | some l, some h =>
      match mx with
      | none => match cap with
        | .ex c => if l ≤ h ∧ h ≤ c then (if c = l then some (.slc b o 0 (.ex 0)) else some (.slc b (o + l * size) (h - l) (.ex (c - l)))) else none
        | .op esz => if l ≤ h ∧ h ≤ len ∧ size = esz then (if len ≤ l then some (.emp b) else some (.slc b (o + l * size) (h - l) (.op esz))) else none
      | some y => match hi, bnd 0 (some y) with
        | some _, some m => if l ≤ h ∧ h ≤ m ∧ m ≤ (match cap with | .ex c => c | .op _ => len) then (if m = l then some (.slc b o 0 (.ex 0)) else some (.slc b (o + l * size) (h - l) (.ex (m - l)))) else none
        | _, _ => none
    | _, _ => none
  | .emp b => match bnd 0 lo, bnd 0 hi, mx with
    | some 0, some 0, none => some (.emp b)
    | _, _, _ => none
  | .sc (.slice none 0 0) => match bnd 0 lo, bnd 0 hi, mx with
    | some 0, some 0, none => some x
    | some 0, some 0, some y => match hi, bnd 0 (some y) with
      | some _, some 0 => some x
      | _, _ => none
    | _, _, _ => none
  | _ => none
def subA (n size : Nat) (x : AV) (lo hi : Option AV) : Option AV :=
  match x with
  | .ptr b o => match bnd 0 lo, bnd n hi with
    | some l, some h => if l ≤ h ∧ h ≤ n then (if n = l then some (.slc b o 0 (.ex 0)) else some (.slc b (o + l * size) (h - l) (.ex (n - l)))) else none
    | _, _ => none
  | _ => none
def subStr (x : AV) (lo hi : Option AV) : Option AV :=
  match x with
  | .sc (.string s) => match bnd 0 lo, bnd s.data.toList.length hi with
    | some l, some h => if l ≤ h ∧ h ≤ s.data.toList.length then some (St ((s.data.toList.drop l).take (h - l))) else none
    | _, _ => none
  | _ => none
def getW (r : Option AV) (K : AV → Prop) : Prop := ∃ v, r = some v ∧ K v
def fillL : List AV → List (Nat × Nat × AV) → Option (List AV)
  | cs, [] => some cs
  | cs, (off, size, v) :: rest => if known v = true ∧ v.cells.length = size ∧ off + size ≤ cs.length then fillL (cs.take off ++ v.cells ++ cs.drop (off + size)) rest else none
def buildW (cs : List AV) (parts : List (Nat × Nat × AV)) (K : AV → Prop) : Prop := ∃ cs', fillL cs parts = some cs' ∧ K (.agg cs')
def cvtW (k : IntKind) (x : AV) (K : AV → Prop) : Prop := ∃ l n, x = N l n ∧ K (N k (k.wrap n))
def isStr (x : AV) (K : AV → Prop) : Prop := ∃ s, x = St s ∧ K (St s)
def runeW (x : AV) (K : AV → Prop) : Prop := ∃ l n, x = N l n ∧ K (St (Utf8.encode n).data.toList)
def uptrW (M : RM) (x : AV) (K : AV → Prop) : Prop := ∃ b p l opn el fz, x = .ptr b p ∧ M.heap b = some (.row l opn el fz) ∧ p + 1 ≤ l.length ∧ K (.ptr b p)
def ptruW (el cells : Nat) (M : RM) (x : AV) (K : AV → Prop) : Prop := ∃ b l opn fz, x = .ptr b 0 ∧ M.heap b = some (.row l opn el fz) ∧ l.length = cells ∧ K (.ptr b 0)
def sdataW (x : AV) (K : AV → Prop) : Prop :=
  match x with
  | .sc (.slice none 0 0) => K (.sc (.pointer none))
  | .slc b p _ (.ex (_ + 1)) => K (.ptr b p)
  | .slc b p (_ + 1) (.op _) => K (.ptr b p)
  | _ => False
def lenSl : AV → Option Nat
  | .slc _ _ n _ => some n
  | .emp _ => some 0
  | .sc (.slice none 0 0) => some 0
  | _ => none
def lenW (x : AV) (K : AV → Prop) : Prop := ∃ n : Nat, lenSl x = some n ∧ K (N .i64 n)
def lenStr (x : AV) (K : AV → Prop) : Prop := ∃ s, x = St s ∧ K (N .i64 s.length)
def capW (x : AV) (K : AV → Prop) : Prop := ∃ n, (match x with | .slc _ _ _ (.ex c) => some c | .sc (.slice none 0 0) => some 0 | _ => none) = some n ∧ K (N .i64 (n : Nat))
def minW (mx : Bool) (x y : AV) (K : AV → Prop) : Prop := ∃ k a b, x = N k a ∧ y = N k b ∧ K (N k (if mx then (if b > a then b else a) else (if b < a then b else a)))
def notW (x : AV) (K : AV → Prop) : Prop := ∃ b, x = Bo b ∧ K (Bo (!b))
def negW (x : AV) (K : AV → Prop) : Prop := ∃ k n, x = N k n ∧ K (N k (k.wrap (0 - n)))
def load1 (M : RM) (x : AV) (K : AV → Prop) : Prop := ∃ b o v, x = .ptr b o ∧ M.loads b o 1 = some [v] ∧ K v
def loadN (M : RM) (x : AV) (n : Nat) (K : AV → Prop) : Prop := ∃ b o vs, x = .ptr b o ∧ M.loads b o n = some vs ∧ K (.agg vs)
def toStr (M : RM) (x : AV) : Option (List UInt8) :=
  match x with
  | .slc b p len _ => match M.loads b p len with
    | some vs => mapO byteOf vs
    | none => none
  | .emp _ => some []
  | .sc (.slice none 0 0) => some []
  | _ => none
def strOfW (M : RM) (x : AV) (K : AV → Prop) : Prop := ∃ s, toStr M x = some s ∧ K (St s)
def mapLenW (M : RM) (x : AV) (K : AV → Prop) : Prop := ∃ b es c, x = .map b ∧ M.heap b = some (.map es c) ∧ K (N .i64 es.length)
def rawW (P : Program) (o : Oper) (e : Operand → AV) (K : AV → Prop) : Prop := ∃ v, pureOp P o e = some v ∧ K v
def niceV (P : Program) (o : Oper) (e : Operand → AV) (M : RM) (K : AV → Prop) : Prop :=
  match o.op with
  | .move x | .assign x => K (e x)
  | .pick c a b => pickW (e c) (e a) (e b) K
  | .nilCheck x => ptrW (e x) K
  | .fieldAddr s x f => match P.underlying s with
    | some (.struct fields) => match fields[f]? with
      | some fd => match sizeT P fd.type with
        | some (_ + 1) => fldW (e x) fd.offset K
        | _ => False
      | none => False
    | _ => False
  | .indexAddr t x ix => match P.underlying t with
    | some (.slice elem) => match sizeT P elem with
      | some size => idxS (e x) (e ix) size K
      | none => False
    | some (.array len elem) => match sizeT P elem with
      | some size => idxA (e x) (e ix) len size K
      | none => False
    | _ => False
  | .field t x f => match P.underlying t with
    | some (.struct fields) => match fields[f]? with
      | some fd => match isAggT P fd.type with
        | some false => part1 (e x) fd.offset K
        | some true => match sizeT P fd.type with
          | some n => partN (e x) fd.offset n K
          | none => False
        | none => False
      | none => False
    | _ => False
  | .index t x ix => match P.underlying t with
    | some .string => idxB (e x) (e ix) K
    | some (.array len elem) => match isAggT P elem with
      | some false => match sizeT P elem with
        | some 1 => idxP1 (e x) (e ix) len K
        | _ => False
      | some true => match sizeT P elem with
        | some n => idxPN (e x) (e ix) len n K
        | none => False
      | none => False
    | _ => False
  | .slice t x lo hi mx => match P.underlying t with
    | some .string => match mx with
      | none => getW (subStr (e x) (lo.map e) (hi.map e)) K
      | some _ => False
    | some (.slice elem) => match sizeT P elem with
      | some size => getW (subS size (e x) (lo.map e) (hi.map e) (mx.map e)) K
      | none => False
    | some (.array n elem) => match sizeT P elem, mx with
      | some size, none => getW (subA n size (e x) (lo.map e) (hi.map e)) K
      | _, _ => False
    | _ => False
  | .extract x i => extW (e x) i K
  | .makeInterface t x => match P.underlying t with
    | some (.interface _) => False
    | some _ => K (.ifc t (e x))
    | none => False
  | .makeFunc f first captured => match f with
    | .yield _ => False
    | _ => K (.fn f (first.toList.map e) (captured.toList.map e))
  | .build t parts => match P.info? t, P.underlying t with
    | some it, some (.array _ el) => match it.zero, P.info? el with
      | some z, some ie => match ofVal z with
        | some (.agg cs) => buildW cs (parts.toList.map fun p => (p.1 * ie.size, ie.size, e p.2)) K
        | _ => False
      | _, _ => False
    | some it, some (.struct fields) => match it.zero, fields.toList.mapM (fun f => (P.info? f.type).map fun i => (f.offset, i.size)) with
      | some z, some places => match ofVal z, mapO (fun (p : Nat × Operand) => match nth places p.1 with | some pl => some (pl.1, pl.2, e p.2) | none => none) parts.toList with
        | some (.agg cs), some ps => buildW cs ps K
        | _, _ => False
      | _, _ => False
    | _, _ => False
  | .binOp op t x y _ => match P.underlying t with
    | some (.int _) => match op with
      | .shl | .shr => shW op (e x) (e y) K
      | _ => intW op (e x) (e y) K
    | some .string => strW op (e x) (e y) K
    | some .bool => match op with
      | .eql => boolEqW false (e x) (e y) K
      | .neq => boolEqW true (e x) (e y) K
      | _ => False
    | some (.struct _) => match flatT P t, op with
      | some ks, .eql => aggEqW false ks (e x) (e y) K
      | some ks, .neq => aggEqW true ks (e x) (e y) K
      | _, _ => False
    | some (.array _ _) => rawW P o e K
    | _ => match op, refTag P t with
      | _, 0 => rawW P o e K
      | .eql, tag => refEqW false tag (e x) (e y) K
      | .neq, tag => refEqW true tag (e x) (e y) K
      | _, _ => False
  | .convert src dst x => match P.underlying src, P.underlying dst with
    | some (.int _), some (.int k) => cvtW k (e x) K
    | some .string, some .string => isStr (e x) K
    | some (.int _), some .string => runeW (e x) K
    | some (.slice el), some .string => match P.underlying el with
      | some (.int .u8) => strOfW M (e x) K
      | _ => False
    | some (.pointer t), some .unsafePointer => match sizeT P t with
      | some (_ + 1) => uptrW M (e x) K
      | _ => False
    | some .unsafePointer, some (.pointer u) => match sizeT P u, Nat.ble 1 (P.cellsOf u), liesAt P P.depth u 1 0 u 1 with
      | some (_ + 1), true, true => ptruW u (P.cellsOf u) M (e x) K
      | _, _, _ => False
    | _, _ => rawW P o e K
  | .call { callee := .builtin .len, args, argTypes } => match argTypes[0]?, args[0]? with
    | some t, some x => match P.underlying t with
      | some (.slice _) => lenW (e x) K
      | some .string => lenStr (e x) K
      | some (.map _ _) => mapLenW M (e x) K
      | _ => False
    | _, _ => False
  | .call { callee := .builtin .cap, args, argTypes } => match argTypes[0]?, args[0]? with
    | some t, some x => match P.underlying t with
      | some (.slice _) => capW (e x) K
      | _ => False
    | _, _ => False
  | .call { callee := .builtin .unsafeSliceData, args, .. } => match args with
    | ⟨[x]⟩ => sdataW (e x) K
    | _ => False
  | .call { callee := .builtin .min, args, .. } => match args with
    | ⟨[x, y]⟩ => minW false (e x) (e y) K
    | _ => False
  | .call { callee := .builtin .max, args, .. } => match args with
    | ⟨[x, y]⟩ => minW true (e x) (e y) K
    | _ => False
  | .unOp op _ x => match op with
    | .not => notW (e x) K
    | .neg => negW (e x) K
    | _ => rawW P o e K
  | .load t x => match isAggT P t with
    | some false => load1 M (e x) K
    | some true => match sizeT P t with
      | some n => loadN M (e x) n K
      | none => False
    | none => False
  | _ => False
section
variable {P : Program} {ρ : Ren} {o : Oper} {e : Operand → AV} {c : Operand → Value} {M : RM} {K : AV → Prop}
def RM.Sub (M M' : RM) : Prop := M'.base = M.base ∧ ∀ b x, M.heap b = some x → M'.heap b = some x
theorem RM.Sub.refl (M : RM) : M.Sub M := ⟨rfl, fun _ _ h => h⟩
theorem RM.Sub.trans {M M1 M2 : RM} (h : M.Sub M1) (k : M1.Sub M2) : M.Sub M2 := ⟨k.1.trans h.1, fun b x hx => k.2 b x (h.2 b x hx)⟩
theorem RM.Sub.loads {M M' : RM} (h : M.Sub M') {b o k : Nat} {xs : List AV} (hl : M.loads b o k = some xs) : M'.loads b o k = some xs := by
  unfold RM.loads RM.cells at hl ⊢
  cases hh : M.heap b with
  | none => simp [hh] at hl
  | some x =>
    rw [hh] at hl
    have hlo : M'.lo = M.lo := congrArg Base.n h.1
    rw [h.2 b x hh, hlo]
    exact hl
def GivesR (P : Program) (o : Oper) (e : Operand → AV) (M : RM) (v : AV) : Prop :=
  ∀ ρ w c M', M.Sub M' → MRel P ρ M' w → (∀ x ∈ o.op.operands, VRel ρ (e x) (c x)) → GivesIn P ρ w o c v
theorem givesA_pure {v : AV} (h : pureOp P o e = some v) : (∀ M', GivesR P o e M' v) ∨ (kindOf P o = .read ∧ GivesR P o e M v) := .inl fun _ _ w _ _ _ _ he => (pureOp_sound he h).at
theorem pureRun_bind {α β : Type} : ∀ (s : Sem α) (f : α → Sem β) (a : α), pureRun P s = some a → pureRun P (s >>= f) = pureRun P (f a)
  | .pure b, f, a, h => by simp [pureRun] at h; subst h; rfl
  | .program k, f, a, h => by
    simp only [pureRun] at h
    exact pureRun_bind (k P) f a h
  | .mark m k, f, a, h => by
    simp only [pureRun] at h
    exact pureRun_bind k f a h
  | .load .., _, a, h | .store .., _, a, h | .new .., _, a, h | .shape .., _, a, h | .freeze .., _, a, h | .frozen .., _, a, h | .getObj .., _, a, h
  | .setObj .., _, a, h | .choose .., _, a, h | .sys .., _, a, h | .halt .., _, a, h => by simp [pureRun] at h
theorem genOp_of {u : Value} {v : AV} {l : List Value} (hl : mapO (fun x => toVal (e x)) o.op.operands.toList = some l)
    (h : pureRun P (execOp (fun x => (toVal (e x)).getD default) o) = some (.value u)) (hv : ofVal u = some v) : genOp P o e = some v := by
  unfold genOp; rw [hl]; simp only [h, hv]
theorem run_binOp {op : BinOp} {t yt : TypeId} {x y : Operand} {a b u : Value} (hop : o.op = .binOp op t x y yt) (hx : toVal (e x) = some a) (hy : toVal (e y) = some b)
    (hg : pureRun P (eqGuard op t x y a b) = some ()) (hb : pureRun P (binOp op t a b) = some u) {v : AV} (hv : ofVal u = some v) : genOp P o e = some v := by
  refine genOp_of (l := [a, b]) (by rw [hop]; simp [Op.operands, mapO, hx, hy]) (u := u) ?_ hv
  simp only [execOp, hop, hx, hy, Option.getD_some]
  have h1 : pureRun P (do eqGuard op t x y a b; binOp op t a b) = some u := by rw [pureRun_bind _ _ () hg]; exact hb
  exact (pureRun_bind _ _ _ h1)
theorem eqGuard_int {op : BinOp} {t : TypeId} {x y : Operand} {k l : IntKind} {a b : Int} : pureRun P (eqGuard op t x y (.int k a) (.int l b)) = some () := by
  cases op <;> rfl
theorem eqGuard_bool {op : BinOp} {t : TypeId} {x y : Operand} {a b : Bool} : pureRun P (eqGuard op t x y (.bool a) (.bool b)) = some () := by
  cases op <;> rfl
theorem int_gen {op : BinOp} {t yt : TypeId} {x y : Operand} {k : IntKind} {a b : Int} {u : Value} (hop : o.op = .binOp op t x y yt) (hx : e x = N k a) (hy : e y = N k b) (h : intBin op k a b = some u) :
    pureOp P o e = some (.sc u) := by
  have hb : pureRun P (binOp op t (.int k a) (.int k b)) = some u := by
    cases op <;> simp only [intBin] at h <;> first | (cases h; done) | skip
    case quo => split at h <;> first | (cases h; done) | skip
                rename_i h0; cases h; simp [binOp, Op.intDiv, h0]; rfl
    case rem => split at h <;> first | (cases h; done) | skip
                rename_i h0; cases h; simp [binOp, Op.intDiv, h0]; rfl
    all_goals (cases h; simp [binOp, Op.intArith, Op.intBits, Op.intCmp]; rfl)
  have hv : ofVal u = some (.sc u) := by
    cases op <;> simp only [intBin] at h <;> first | (cases h; done) | (cases h; rfl) | (split at h <;> first | (cases h; done) | (cases h; rfl))
  unfold pureOp
  simp only [hop, hx, hy]
  exact run_binOp hop (a := .int k a) (b := .int k b) (by rw [hx]; rfl) (by rw [hy]; rfl) eqGuard_int hb hv
theorem sh_gen {op : BinOp} {t yt : TypeId} {x y : Operand} {k l : IntKind} {a b : Int} {u : Value} (hop : o.op = .binOp op t x y yt) (hx : e x = N k a) (hy : e y = N l b) (h : intSh op k a b = some u) :
    pureOp P o e = some (.sc u) := by
  unfold intSh at h
  split at h <;> first | (cases h; done) | skip
  rename_i h0
  have hb : pureRun P (binOp op t (.int k a) (.int l b)) = some u := by
    split at h <;> first | (cases h; done) | skip
    all_goals (cases h; simp [binOp, Op.shift, h0]; rfl)
  have hv : ofVal u = some (.sc u) := by
    split at h <;> first | (cases h; done) | (cases h; rfl)
  unfold pureOp
  simp only [hop, hx, hy]
  exact run_binOp hop (a := .int k a) (b := .int l b) (by rw [hx]; rfl) (by rw [hy]; rfl) eqGuard_int hb hv
theorem pureRun_underlying {t : TypeId} {d : TypeDesc} (h : P.underlying t = some d) : pureRun P (underlying t) = some d := by
  have e : underlying t = .program (fun p => match p.underlying t with | some d => Sem.pure d | none => stuck "no such type") := rfl
  rw [e]
  simp only [pureRun, h]
theorem boolEq_gen {op : BinOp} {t yt : TypeId} {x y : Operand} {a b neg : Bool} (hop : o.op = .binOp op t x y yt) (hx : e x = Bo a) (hy : e y = Bo b) (ht : P.underlying t = some .bool) (h : (op = .eql ∧ neg = false) ∨ (op = .neq ∧ neg = true)) :
    pureOp P o e = some (Bo ((a == b) != neg)) := by
  have h1 : pureRun P (Op.equal t (.bool a) (.bool b)) = some (a == b) := by
    have h0 : pureRun P (underlying t) = some .bool := pureRun_underlying ht
    show pureRun P (Op.equalIn (9999 + 1) t (.bool a) (.bool b)) = _
    rw [Op.equalIn, pureRun_bind _ _ _ h0]
    rfl
  rcases h with ⟨rfl, rfl⟩ | ⟨rfl, rfl⟩
  · have hb : pureRun P (binOp .eql t (.bool a) (.bool b)) = some (.bool (a == b)) := pureRun_bind _ _ _ h1
    have := run_binOp (P := P) (e := e) hop (a := .bool a) (b := .bool b) (by rw [hx]; rfl) (by rw [hy]; rfl) eqGuard_bool hb (v := Bo (a == b)) rfl
    unfold pureOp
    simp only [hop, hx, hy]
    simp only [eqlOf]
    simpa using this
  · have hb : pureRun P (binOp .neq t (.bool a) (.bool b)) = some (.bool (!(a == b))) := pureRun_bind _ _ _ h1
    have := run_binOp (P := P) (e := e) hop (a := .bool a) (b := .bool b) (by rw [hx]; rfl) (by rw [hy]; rfl) eqGuard_bool hb (v := Bo (!(a == b))) rfl
    unfold pureOp
    simp only [hop, hx, hy]
    simp only [eqlOf]
    simpa using this
theorem natOf_N {k : IntKind} {n : Int} (h : 0 ≤ n) : natOf (N k n) = some n.toNat := by
  cases n with
  | ofNat m => rfl
  | negSucc m => omega
theorem ref_gen {op : BinOp} {t yt : TypeId} {x y : Operand} {neg r : Bool} {tag : Nat} (hop : o.op = .binOp op t x y yt) (hop2 : (op = .eql ∧ neg = false) ∨ (op = .neq ∧ neg = true)) (htag : refTag P t = tag) (h0 : tag ≠ 0) (ht : tagOf (e x) = tag)
    (h : refEq (e x) (e y) = some r) : pureOp P o e = some (Bo (r != neg)) := by
  have key : (eqlOf P t (e x) (e y) = some r ∨ (eqlOf P t (e x) (e y) = none ∧ genOp P o e = some (Bo (r != neg)))) → (∀ k a, e x ≠ N k a) → (∀ s, e x ≠ .sc (.string s)) → pureOp P o e = some (Bo (r != neg)) := by
    intro hk hn hs
    unfold pureOp
    simp only [hop]
    split
    · rename_i k _ _ _ he _; exact absurd he (hn _ _)
    · rename_i he _; exact absurd he (hs _)
    · rename_i he _; exact absurd he (hn _ _)
    · rcases hop2 with ⟨rfl, rfl⟩ | ⟨rfl, rfl⟩
      · rcases hk with hk | ⟨hk, hg⟩
        · simp only [hk]; cases r <;> rfl
        · simp only [hk]; exact hg
      · rcases hk with hk | ⟨hk, hg⟩
        · simp only [hk]; cases r <;> rfl
        · simp only [hk]; exact hg
  have gen : ∀ (a b : Value), e x = .sc a → e y = .sc b → toVal (.sc a) = some a → toVal (.sc b) = some b → (∀ op', pureRun P (eqGuard op' t x y a b) = some ()) → pureRun P (Op.equal t a b) = some r →
      (binOp .eql t a b = (do pure (.bool (← Op.equal t a b)))) → (binOp .neq t a b = (do pure (.bool (!(← Op.equal t a b))))) → genOp P o e = some (Bo (r != neg)) := by
    intro a b hx hy ha hb hg heq h1 h2
    rcases hop2 with ⟨rfl, rfl⟩ | ⟨rfl, rfl⟩
    · exact run_binOp (P := P) (e := e) hop (a := a) (b := b) (by rw [hx]; exact ha) (by rw [hy]; exact hb) (hg _) (u := .bool r) (by rw [h1]; exact pureRun_bind _ _ _ heq) (by cases r <;> rfl)
    · exact run_binOp (P := P) (e := e) hop (a := a) (b := b) (by rw [hx]; exact ha) (by rw [hy]; exact hb) (hg _) (u := .bool (!r)) (by rw [h2]; exact pureRun_bind _ _ _ heq) (by cases r <;> rfl)
  have hund : ∀ d, P.underlying t = some d → pureRun P (underlying t) = some d := fun d hd => pureRun_underlying hd
  unfold refTag at htag
  generalize hex : e x = ex at h ht key gen
  generalize hey : e y = ey at h key gen
  unfold refEq at h
  split at h <;> first | (cases h; done) | skip
  all_goals first | (split at h <;> first | (cases h; done) | skip) | skip
  all_goals
    cases h
    simp only [tagOf] at ht
    subst ht
    split at htag <;> first | (cases htag; done) | (split at htag <;> cases htag; done) | skip
  all_goals
    first
      | (rename_i hu
         refine key (.inl ?_) (by intro k a h; cases h) (by intro s h; cases h)
         simp only [eqlOf, hu]
         done)
      | (rename_i hu
         refine key (.inr ⟨rfl, ?_⟩) (by intro k a h; cases h) (by intro s h; cases h)
         refine gen _ _ rfl rfl rfl rfl (fun op' => by cases op' <;> rfl) ?_ rfl rfl
         show pureRun P (Op.equalIn (9999 + 1) t _ _) = _
         rw [Op.equalIn, pureRun_bind _ _ _ (hund _ hu)]
         rfl
         done)
      | skip
  · rename_i heq _ el hu
    split at htag <;> first | (cases htag; done) | skip
    rename_i n hs
    refine key (.inl ?_) (by intro k a h; cases h) (by intro s h; cases h)
    subst heq
    simp only [eqlOf, hu, hs, nat_beq, decide_true]
end
end Go.Ab
set_option linter.unusedVariables false
set_option linter.unusedSimpArgs false
namespace Go.Ab
open Go Go.RowKit
section
variable {P : Program} {ρ : Ren} {o : Oper} {e : Operand → AV} {c : Operand → Value} {M : RM} {K : AV → Prop}
theorem bnd_natOr (d : Nat) (x : Option Operand) : natOr e d x = bnd d (x.map e) := by
  cases x with
  | none => rfl
  | some x =>
    simp only [natOr, Option.map_some]
    generalize e x = y
    cases y <;> try rfl
    rename_i v
    cases v <;> try rfl
    rename_i k n
    cases n with
    | ofNat n => simp [natOf, bnd]
    | negSucc n => simp only [natOf, bnd]; rw [if_neg (by omega)]
theorem ble_ff {a b : Nat} (h : ¬ a ≤ b) : Nat.ble a b = false := by
  rcases hb : Nat.ble a b
  · rfl
  · exact absurd (ble_t hb) h
theorem beq_tt {a b : Nat} (h : a = b) : Nat.beq a b = true := by subst h; simp
theorem beq_ff {a b : Nat} (h : ¬ a = b) : Nat.beq a b = false := by rw [nat_beq]; simp [h]
theorem bnd_natOf (d : Nat) (x : Operand) : natOf (e x) = bnd d (some (e x)) := bnd_natOr d (some x)
theorem subS_slice {t elem : TypeId} {x : Operand} {lo hi mx : Option Operand} {size : Nat} {v : AV} (hu : P.underlying t = some (.slice elem)) (hs : sizeT P elem = some size)
    (h : subS size (e x) (lo.map e) (hi.map e) (mx.map e) = some v) : sliceOf P e t x lo hi mx = some v := by
  unfold sliceOf
  unfold subS at h
  split at h <;> first | (cases h; done) | skip
  · rename_i b o' len cap hex
    rw [hex]
    simp only [hu, hs, bnd_natOr]
    split at h <;> first | (cases h; done) | skip
    rename_i l hh hl hhh
    simp only [hl, hhh]
    split at h
    · rename_i hmx
      have hmx : mx = none := by cases mx <;> simp at hmx; rfl
      subst hmx
      simp only
      split at h
      · rename_i cc
        split at h <;> first | (cases h; done) | skip
        rename_i hc
        have e1 := ble_iff.2 hc.1
        have e2 := ble_iff.2 hc.2
        split at h
        · rename_i hcl
          have e3 := beq_tt hcl
          simp only [e1, e2, e3]
          exact h
        · rename_i hcl
          have e3 := beq_ff hcl
          simp only [e1, e2, e3]
          exact h
      · rename_i esz
        split at h <;> first | (cases h; done) | skip
        rename_i hc
        have e1 := ble_iff.2 hc.1
        have e2 := ble_iff.2 hc.2.1
        have e4 := beq_tt hc.2.2
        split at h
        · rename_i hcl
          have e3 := ble_iff.2 hcl
          simp only [e1, e2, e3, e4]
          exact h
        · rename_i hcl
          have e3 := ble_ff hcl
          simp only [e1, e2, e3, e4]
          exact h
    · rename_i y hmx
      cases mx with
      | none => cases hmx
      | some z =>
      cases hmx
      split at h <;> first | (cases h; done) | skip
      rename_i hy m hhi hm
      cases hi with
      | none => cases hhi
      | some y2 =>
      simp only
      rw [bnd_natOf 0, hm]
      simp only
      cases cap with
      | ex cc =>
        simp only at h
        split at h <;> first | (cases h; done) | skip
        rename_i hc
        have e1 := ble_iff.2 hc.1
        have e2 := ble_iff.2 hc.2.1
        have e4 := ble_iff.2 hc.2.2
        split at h
        · rename_i hcl
          have e3 := beq_tt hcl
          simp only [e1, e2, e3, e4]
          exact h
        · rename_i hcl
          have e3 := beq_ff hcl
          simp only [e1, e2, e3, e4]
          exact h
      | op esz =>
        simp only at h
        split at h <;> first | (cases h; done) | skip
        rename_i hc
        have e1 := ble_iff.2 hc.1
        have e2 := ble_iff.2 hc.2.1
        have e4 := ble_iff.2 hc.2.2
        split at h
        · rename_i hcl
          have e3 := beq_tt hcl
          simp only [e1, e2, e3, e4]
          exact h
        · rename_i hcl
          have e3 := beq_ff hcl
          simp only [e1, e2, e3, e4]
          exact h
  · rename_i b hex
    rw [hex]
    simp only [hu, hs, bnd_natOr]
    split at h <;> first | (cases h; done) | skip
    rename_i hl hhh hmx
    have hmx : mx = none := by cases mx <;> simp at hmx; rfl
    subst hmx
    simp only [hl, hhh]; exact h
  · rename_i hex
    rw [hex]
    simp only [hu, hs, bnd_natOr]
    split at h <;> first | (cases h; done) | skip
    · rename_i hl hhh hmx
      have hmx : mx = none := by cases mx <;> simp at hmx; rfl
      subst hmx
      have e3 : bnd 0 (Option.map e none) = some 0 := rfl
      simp only [hl, hhh, e3]
      rw [hex] at h; exact h
    · rename_i y hl hhh hmx
      cases mx with
      | none => cases hmx
      | some z =>
      cases hmx
      split at h <;> first | (cases h; done) | skip
      rename_i hy hhi hm
      cases hi with
      | none => cases hhi
      | some y2 =>
      have e3 : bnd 0 (Option.map e (some z)) = some 0 := hm
      simp only [hl, hhh, e3]
      rw [hex] at h; exact h
theorem subA_slice {t elem : TypeId} {n : Nat} {x : Operand} {lo hi : Option Operand} {size : Nat} {v : AV} (hu : P.underlying t = some (.array n elem)) (hs : sizeT P elem = some size)
    (h : subA n size (e x) (lo.map e) (hi.map e) = some v) : sliceOf P e t x lo hi none = some v := by
  unfold sliceOf
  unfold subA at h
  split at h <;> first | (cases h; done) | skip
  rename_i b o' hex
  rw [hex]
  simp only [hu, hs, bnd_natOr]
  split at h <;> first | (cases h; done) | skip
  rename_i l hh hl hhh
  simp only [hl, hhh]
  split at h <;> first | (cases h; done) | skip
  rename_i hc
  have e1 := ble_iff.2 hc.1
  have e2 := ble_iff.2 hc.2
  split at h
  · rename_i hcl
    have e3 := beq_tt hcl
    simp only [e1, e2, e3]
    exact h
  · rename_i hcl
    have e3 := beq_ff hcl
    simp only [e1, e2, e3]
    exact h
theorem fillL_G {place : Nat → Option (Nat × Nat)} : ∀ (parts : List (Nat × AV)) (qs : List (Nat × Nat × AV)) (cs : List AV), (parts.map fun p => (place p.1).map fun q => (q.1, q.2, p.2)) = qs.map some → fillG place cs parts = fillL cs qs
  | [], qs, cs, h => by
    cases qs with
    | nil => rfl
    | cons q qs => simp at h
  | (i, v) :: parts, qs, cs, h => by
    cases qs with
    | nil => simp at h
    | cons q qs =>
      simp only [List.map_cons, List.cons.injEq] at h
      obtain ⟨h1, h2⟩ := h
      cases hp : place i with
      | none => simp [hp] at h1
      | some pl =>
        obtain ⟨off, size⟩ := pl
        simp only [hp, Option.map_some, Option.some.injEq] at h1
        subst h1
        simp only [fillG, hp, fillL]
        by_cases hk : known v = true ∧ v.cells.length = size ∧ off + size ≤ cs.length
        · rw [if_pos hk, hk.1]
          simp only [nat_beq, hk.2.1, decide_true, ble_iff.2 hk.2.2]
          rw [← fillL_G parts qs _ h2]
        · rw [if_neg hk]
          split
          · rename_i a b d
            exact absurd ⟨a, beq_t b, ble_t d⟩ hk
          · rfl
theorem loads_one {w : World} {b p : Nat} {i : Info} {v : AV} (hw : MRel P ρ M w) (hb : ρ b = some i) (h : M.loads b p 1 = some [v]) : ∃ u, VRel ρ v u ∧ w.cell? ⟨i.cb, i.sh + p, none⟩ = some u := by
  obtain ⟨vs, hr, hlen, hcell⟩ := RM.loads_rel hw hb h
  cases hr with
  | cons _ u _ us hu hn =>
  cases hn
  have hcell := hcell 0 u (by simp)
  rw [add_off] at hcell
  exact ⟨u, hu, by simpa using hcell⟩
theorem flatEq_append : ∀ (ks rest : List Nat) (cs ds : List AV) {r : Bool}, flatEq (ks ++ rest) cs ds = some r → (∃ r0, flatEq ks (cs.take ks.length) (ds.take ks.length) = some r0 ∧ (r0 = false → r = false) ∧ (r0 = true → flatEq rest (cs.drop ks.length) (ds.drop ks.length) = some r)) ∨ ((cs.length < ks.length ∨ ds.length < ks.length) ∧ r = false)
  | [], rest, cs, ds, r, h => .inl ⟨true, rfl, (fun h => by cases h), fun _ => h⟩
  | k :: ks, rest, [], _, r, h => by simp [flatEq] at h
  | k :: ks, rest, _ :: _, [], r, h => by simp [flatEq] at h
  | k :: ks, rest, x :: cs, y :: ds, r, h => by
    simp only [List.cons_append, flatEq] at h
    split at h
    · rename_i hc
      rcases flatEq_append ks rest cs ds h with ⟨r0, h1, h2, h3⟩ | ⟨h1, h2⟩
      · exact .inl ⟨r0, by simp only [List.length_cons, List.take_succ_cons, flatEq, hc]; exact h1, h2, fun e => by simpa using h3 e⟩
      · exact .inr ⟨by simp; omega, h2⟩
    · rename_i hc
      cases h
      exact .inl ⟨false, by simp only [List.length_cons, List.take_succ_cons, flatEq, hc], fun _ => rfl, fun h => by cases h⟩
    · cases h
theorem part_scalar {t : TypeId} {us : List Value} {off : Nat} {u : Value} {w : World} (ha : isAggT P t = some false) (hu : us[off]? = some u) : (part t ⟨us⟩ off).run P w = .ok u w := by
  simp only [part, Sem.run_bind, isAggT_run ha, Result.andThen_ok, Bool.false_eq_true, if_false]
  simp [hu]
theorem part_agg {t : TypeId} {us : List Value} {off n : Nat} {w : World} (ha : isAggT P t = some true) (hs : sizeT P t = some n) : (part t ⟨us⟩ off).run P w = .ok (.agg ⟨(us.drop off).take n⟩) w := by
  simp only [part, Sem.run_bind, isAggT_run ha, Result.andThen_ok, if_true, sizeT_run hs, Sem.run_pure]
  simp [List.take_drop]
theorem flat_run : ∀ (d : Nat) (t : TypeId) (ks : List Nat) (D : Nat), flatD P d t = some ks → d ≤ D → ∀ (cs ds : List AV) (us vs : List Value) (r : Bool) (w : World), LRel ρ cs us → LRel ρ ds vs → cs.length = ks.length → ds.length = ks.length → flatEq ks cs ds = some r →
    (isAggT P t = some true ∧ (Op.equalIn D t (.agg ⟨us⟩) (.agg ⟨vs⟩)).run P w = .ok r w) ∨ (isAggT P t = some false ∧ ∃ u v, us = [u] ∧ vs = [v] ∧ (Op.equalIn D t u v).run P w = .ok r w) := by
  intro d
  induction d with
  | zero => intro t ks D h; simp [flatD] at h
  | succ d ih =>
    intro t ks D h hD cs ds us vs r w hc hd hlc hld he
    obtain ⟨D, rfl⟩ : ∃ D', D = D' + 1 := ⟨D - 1, by omega⟩
    simp only [flatD] at h
    have one : ∀ k, ks = [k] → ∃ x y u v, cs = [x] ∧ ds = [y] ∧ us = [u] ∧ vs = [v] ∧ VRel ρ x u ∧ VRel ρ y v ∧ cellEq k x y = some r := by
      intro k hk
      subst hk
      cases hc with
      | nil => simp at hlc
      | cons x u cs us hx hc => cases hc with
        | cons => simp at hlc
        | nil => cases hd with
          | nil => simp at hld
          | cons y v ds vs hy hd => cases hd with
            | cons => simp at hld
            | nil =>
              refine ⟨x, y, u, v, rfl, rfl, rfl, rfl, hx, hy, ?_⟩
              simp only [flatEq] at he
              split at he
              · rename_i h1; cases he; exact h1
              · rename_i h1; cases he; exact h1
              · cases he
    split at h <;> first | (cases h; done) | skip
    · rename_i k hu
      cases h
      obtain ⟨x, y, u, v, rfl, rfl, rfl, rfl, hx, hy, hce⟩ := one 1 rfl
      refine .inr ⟨by simp [isAggT, hu], u, v, rfl, rfl, ?_⟩
      unfold cellEq at hce
      split at hce <;> first | (cases hce; done) | skip
      · split at hce <;> first | (cases hce; done) | skip
        rename_i e0; subst e0
        cases hce
        rw [(sc_inv hx).1, (sc_inv hy).1]
        exact run_equalIn_int w D t _ _ _ _ hu
      all_goals (rename_i e0; cases e0)
    · rename_i hu
      cases h
      obtain ⟨x, y, u, v, rfl, rfl, rfl, rfl, hx, hy, hce⟩ := one 2 rfl
      refine .inr ⟨by simp [isAggT, hu], u, v, rfl, rfl, ?_⟩
      unfold cellEq at hce
      split at hce <;> first | (cases hce; done) | skip
      · rename_i e0; cases e0
      · cases hce
        rw [(sc_inv hx).1, (sc_inv hy).1, run_equalIn_string w D t _ _ hu, ByteArray.toList_eq, ByteArray.toList_eq]
      · rename_i e0; cases e0
    · rename_i hu
      cases h
      obtain ⟨x, y, u, v, rfl, rfl, rfl, rfl, hx, hy, hce⟩ := one 3 rfl
      refine .inr ⟨by simp [isAggT, hu], u, v, rfl, rfl, ?_⟩
      unfold cellEq at hce
      split at hce <;> first | (cases hce; done) | skip
      · rename_i e0; cases e0
      · rename_i e0; cases e0
      · cases hce
        rw [(sc_inv hx).1, (sc_inv hy).1]
        exact run_equalIn_bool' w D t _ _ hu
    · rename_i fs hu
      split at h <;> first | (cases h; done) | skip
      rename_i hst
      refine .inl ⟨by simp [isAggT, hu], ?_⟩
      have hfs : P.underlying t = some (.struct (P.fieldsOf t)) := by simp [Program.fieldsOf, hu]
      rw [run_equalIn_struct w D t _ _ hfs hst]
      have hff : (P.fieldsOf t).toList = fs.toList := by simp [Program.fieldsOf, hu]
      rw [hff]
      have key : ∀ (l : List Field) (off : Nat) (kr : List Nat) (r : Bool), flatFs P (flatD P d) l off = some kr → (cs.drop off).length = kr.length → (ds.drop off).length = kr.length → flatEq kr (cs.drop off) (ds.drop off) = some r → (Op.eqFields D ⟨us⟩ ⟨vs⟩ l).run P w = .ok r w := by
        intro l
        induction l with
        | nil =>
          intro off kr r h h1 h2 h3
          simp only [flatFs] at h
          cases h
          have e1 := List.eq_nil_of_length_eq_zero h1
          have e2 := List.eq_nil_of_length_eq_zero h2
          rw [e1, e2] at h3
          simp only [flatEq] at h3
          cases h3
          rfl
        | cons f l ihl =>
          intro off kr r h h1 h2 h3
          simp only [flatFs] at h
          split at h <;> first | (cases h; done) | skip
          rename_i kf n hn hoff hkf hsz
          split at h <;> first | (cases h; done) | skip
          rename_i kr' hlen hrest
          cases h
          have hoff := beq_t hoff
          have hlen := beq_t hlen
          have hname : f.name ≠ "_" := by simpa using hn
          rw [List.length_append] at h1 h2
          rcases flatEq_append kf kr' _ _ h3 with ⟨r0, g1, g2, g3⟩ | ⟨g, _⟩
          · have hsub := ih f.type kf D hkf (by omega) ((cs.drop off).take n) ((ds.drop off).take n) ((us.drop off).take n) ((vs.drop off).take n) r0 w ((hc.drop off).take n) ((hd.drop off).take n) (by simp at h1 ⊢; omega) (by simp at h2 ⊢; omega) (by rw [hlen]; exact g1)
            have hstep : (Op.eqFields D ⟨us⟩ ⟨vs⟩ (f :: l)).run P w = (if r0 = false then .ok false w else (Op.eqFields D ⟨us⟩ ⟨vs⟩ l).run P w) := by
              simp only [Op.eqFields, if_pos hname]
              rcases hsub with ⟨ha, hrun⟩ | ⟨ha, u, v, hu1, hv1, hrun⟩
              · simp only [Sem.run_bind, hoff, part_agg ha hsz, Result.andThen_ok, hrun]
                cases r0 <;> simp
              · have hn1 : n = 1 := by
                  have := congrArg List.length hu1
                  have hl := hc.length
                  simp at this h1; omega
                have p1 : us[off]? = some u := by
                  have : ((us.drop off).take n)[0]? = some u := by rw [hu1]; rfl
                  rw [List.getElem?_take, if_pos (by omega), List.getElem?_drop] at this
                  simpa using this
                have p2 : vs[off]? = some v := by
                  have : ((vs.drop off).take n)[0]? = some v := by rw [hv1]; rfl
                  rw [List.getElem?_take, if_pos (by omega), List.getElem?_drop] at this
                  simpa using this
                simp only [Sem.run_bind, hoff, part_scalar ha p1, part_scalar ha p2, Result.andThen_ok, hrun]
                cases r0 <;> simp
            rw [hstep]
            cases r0 with
            | false => rw [g2 rfl]; simp
            | true =>
              simp only [Bool.true_eq_false, if_false]
              refine ihl (off + n) kr' r hrest (by simp at h1 ⊢; omega) (by simp at h2 ⊢; omega) ?_
              have := g3 rfl
              rw [List.drop_drop, List.drop_drop, ← hlen] at this
              exact this
          · omega
      exact key fs.toList 0 ks r h (by simpa using hlc) (by simpa using hld) (by simpa using he)
theorem niceV_sound (h : niceV P o e M K) : ∃ v, ((∀ M', GivesR P o e M' v) ∨ (kindOf P o = .read ∧ GivesR P o e M v)) ∧ K v := by
  cases hop : o.op
  case move x => simp only [niceV, hop] at h; exact ⟨_, givesA_pure (by simp only [pureOp, hop]), h⟩
  case assign x => simp only [niceV, hop] at h; exact ⟨_, givesA_pure (by simp only [pureOp, hop]), h⟩
  case pick cn a b =>
    simp only [niceV, hop] at h
    obtain ⟨t, ht, hk⟩ := h
    exact ⟨_, givesA_pure (by cases t <;> simp only [pureOp, hop, ht] <;> rfl), hk⟩
  case nilCheck x =>
    simp only [niceV, hop] at h
    obtain ⟨b, p, hx, hk⟩ := h
    exact ⟨_, givesA_pure (by simp only [pureOp, hop, hx]), hk⟩
  case fieldAddr s x f =>
    simp only [niceV, hop] at h
    split at h <;> first | (cases h; done) | skip
    rename_i fields hu
    split at h <;> first | (cases h; done) | skip
    rename_i fd hf
    split at h <;> first | (cases h; done) | skip
    rename_i n hs
    obtain ⟨b, p, hx, hk⟩ := h
    exact ⟨_, givesA_pure (by simp only [pureOp, hop, hu, hx, hf, hs]), hk⟩
  case indexAddr t x ix =>
    simp only [niceV, hop] at h
    split at h <;> first | (cases h; done) | skip
    · rename_i elem hu
      split at h <;> first | (cases h; done) | skip
      rename_i size hs
      obtain ⟨b, p, len, cap, k, n, hx, hi, h0, h1, hk⟩ := h
      exact ⟨_, givesA_pure (by simp only [pureOp, hop, hu, hx, hi, natOf_N h0, ble_iff.2 (show n.toNat + 1 ≤ len by omega), hs]), hk⟩
    · rename_i len elem hu
      split at h <;> first | (cases h; done) | skip
      rename_i size hs
      obtain ⟨b, p, k, n, hx, hi, h0, h1, hk⟩ := h
      exact ⟨_, givesA_pure (by simp only [pureOp, hop, hu, hx, hi, natOf_N h0, ble_iff.2 (show n.toNat + 1 ≤ len by omega), hs]), hk⟩
  case field t x f =>
    simp only [niceV, hop] at h
    split at h <;> first | (cases h; done) | skip
    rename_i fields hu
    split at h <;> first | (cases h; done) | skip
    rename_i fd hf
    split at h <;> first | (cases h; done) | skip
    · rename_i ha
      obtain ⟨cs, v, hx, hv, hk⟩ := h
      exact ⟨_, givesA_pure (by simp only [pureOp, hop, hu, hx, hf, partOf, ha, nth_getElem]; exact hv), hk⟩
    · rename_i ha
      split at h <;> first | (cases h; done) | skip
      rename_i n hs
      obtain ⟨cs, hx, hv, hk⟩ := h
      exact ⟨_, givesA_pure (by simp only [pureOp, hop, hu, hx, hf, partOf, ha, hs, ble_iff.2 hv]), hk⟩
  case index t x ix =>
    simp only [niceV, hop] at h
    split at h <;> first | (cases h; done) | skip
    · rename_i hu
      obtain ⟨s, k, n, b, hx, hi, h0, hb, hk⟩ := h
      exact ⟨_, givesA_pure (by simp only [pureOp, hop, hu, hx, hi, natOf_N h0, nth_getElem, hb]), hk⟩
    · rename_i len elem hu
      split at h <;> first | (cases h; done) | skip
      · rename_i ha
        split at h <;> first | (cases h; done) | skip
        rename_i hs
        obtain ⟨cs, k, n, v, hx, hi, h0, h1, hv, hk⟩ := h
        exact ⟨_, givesA_pure (by simp only [pureOp, hop, hu, hx, hi, natOf_N h0, ble_iff.2 (show n.toNat + 1 ≤ len by omega), hs, partOf, ha, nth_getElem, Nat.mul_one]; exact hv), hk⟩
      · rename_i ha
        split at h <;> first | (cases h; done) | skip
        rename_i size hs
        obtain ⟨cs, k, n, hx, hi, h0, h1, hv, hk⟩ := h
        exact ⟨_, givesA_pure (by simp only [pureOp, hop, hu, hx, hi, natOf_N h0, ble_iff.2 (show n.toNat + 1 ≤ len by omega), hs, partOf, ha, ble_iff.2 hv]), hk⟩
  case slice t x lo hi mx =>
    simp only [niceV, hop] at h
    split at h <;> first | (cases h; done) | skip
    · rename_i hu
      split at h <;> first | (cases h; done) | skip
      obtain ⟨v, hv, hk⟩ := h
      refine ⟨_, givesA_pure ?_, hk⟩
      unfold subStr at hv
      split at hv <;> first | (cases hv; done) | skip
      rename_i s hex
      split at hv <;> first | (cases hv; done) | skip
      rename_i l hh hl hhh
      split at hv <;> first | (cases hv; done) | skip
      rename_i hc
      simp only [pureOp, hop, hex, strPart, hu, bnd_natOr, hl, hhh, ble_iff.2 hc.1, ble_iff.2 hc.2]
      exact hv
    · rename_i elem hu
      split at h <;> first | (cases h; done) | skip
      rename_i size hs
      obtain ⟨v, hv, hk⟩ := h
      have h1 := subS_slice hu hs hv
      refine ⟨_, givesA_pure ?_, hk⟩
      simp only [pureOp, hop]
      split
      · rename_i s hex
        simp [subS, hex] at hv
      · exact h1
    · rename_i n elem hu
      split at h <;> first | (cases h; done) | skip
      rename_i size hs
      obtain ⟨v, hv, hk⟩ := h
      have h1 := subA_slice hu hs hv
      refine ⟨_, givesA_pure ?_, hk⟩
      simp only [pureOp, hop]
      split
      · rename_i s hex
        simp [subA, hex] at hv
      · exact h1
  case extract x i =>
    simp only [niceV, hop] at h
    obtain ⟨vs, v, hx, hv, hk⟩ := h
    exact ⟨_, givesA_pure (by simp only [pureOp, hop, hx, nth_getElem]; exact hv), hk⟩
  case makeInterface t x =>
    simp only [niceV, hop] at h
    split at h <;> first | (cases h; done) | skip
    rename_i d hne hu
    exact ⟨_, givesA_pure (by simp only [pureOp, hop, hu]), h⟩
  case makeFunc f first captured =>
    simp only [niceV, hop] at h
    split at h <;> first | (cases h; done) | skip
    exact ⟨_, givesA_pure (by simp only [pureOp, hop]), h⟩
  case build t parts =>
    simp only [niceV, hop] at h
    split at h <;> first | (cases h; done) | skip
    · rename_i it n el hi hu
      split at h <;> first | (cases h; done) | skip
      rename_i z ie hz hie
      split at h <;> first | (cases h; done) | skip
      rename_i cs hcs
      obtain ⟨cs', hf, hk⟩ := h
      refine ⟨_, givesA_pure ?_, hk⟩
      simp only [pureOp, hop, hi, hu, hz, hie, hcs]
      rw [fillL_G _ (parts.toList.map fun p => (p.1 * ie.size, ie.size, e p.2)) _ (by simp), hf]
      rfl
    · rename_i it fields hi hu
      split at h <;> first | (cases h; done) | skip
      rename_i z places hz hpl
      split at h <;> first | (cases h; done) | skip
      rename_i cs ps hcs hps
      obtain ⟨cs', hf, hk⟩ := h
      refine ⟨_, givesA_pure ?_, hk⟩
      simp only [pureOp, hop, hi, hu, hz, hpl, hcs]
      rw [fillL_G _ ps _ ?_, hf]
      · rfl
      · rw [List.map_map]
        revert hps
        generalize parts.toList = pl
        intro hps
        induction pl generalizing ps cs cs' with
        | nil => simp [mapO] at hps; subst hps; rfl
        | cons p pl ih =>
          simp only [mapO] at hps
          split at hps <;> first | (cases hps; done) | skip
          rename_i y hy
          split at hps <;> first | (cases hps; done) | skip
          rename_i ys hys
          cases hps
          simp only [List.map_cons, List.cons.injEq]
          refine ⟨?_, ?_⟩
          · split at hy <;> first | (cases hy; done) | skip
            rename_i q hq
            cases hy
            simp [hq]
          · clear ih hf
            revert hys
            generalize ys = zs
            intro hys
            induction pl generalizing zs with
            | nil => simp [mapO] at hys; subst hys; rfl
            | cons p pl ih =>
              simp only [mapO] at hys
              split at hys <;> first | (cases hys; done) | skip
              rename_i y' hy'
              split at hys <;> first | (cases hys; done) | skip
              rename_i ys' hys'
              cases hys
              simp only [List.map_cons, List.cons.injEq]
              refine ⟨?_, ih _ hys'⟩
              split at hy' <;> first | (cases hy'; done) | skip
              rename_i q hq
              cases hy'
              simp [hq]
  case binOp op t x y yt =>
    simp only [niceV, hop] at h
    split at h <;> first | (cases h; done) | skip
    · split at h
      · obtain ⟨k, a, l, b, v, hx, hy, hv, hk⟩ := h
        exact ⟨_, givesA_pure (sh_gen hop hx hy hv), hk⟩
      · obtain ⟨k, a, l, b, v, hx, hy, hv, hk⟩ := h
        exact ⟨_, givesA_pure (sh_gen hop hx hy hv), hk⟩
      · obtain ⟨k, a, b, v, hx, hy, hv, hk⟩ := h
        exact ⟨_, givesA_pure (int_gen hop hx hy hv), hk⟩
    · obtain ⟨a, b, v, hx, hy, hv, hk⟩ := h
      exact ⟨_, givesA_pure (by simp only [pureOp, hop, hx, hy]; exact hv), hk⟩
    · rename_i hu
      split at h <;> first | (cases h; done) | skip
      · obtain ⟨a, b, hx, hy, hk⟩ := h
        exact ⟨_, givesA_pure (boolEq_gen hop hx hy hu (.inl ⟨rfl, rfl⟩)), hk⟩
      · obtain ⟨a, b, hx, hy, hk⟩ := h
        exact ⟨_, givesA_pure (boolEq_gen hop hx hy hu (.inr ⟨rfl, rfl⟩)), hk⟩
    · rename_i fs hu
      have key : ∀ (ks : List Nat) (neg : Bool), flatT P t = some ks → aggEqW neg ks (e x) (e y) K → ((op = .eql ∧ neg = false) ∨ (op = .neq ∧ neg = true)) → ∃ v, ((∀ M', GivesR P o e M' v) ∨ (kindOf P o = .read ∧ GivesR P o e M v)) ∧ K v := by
        intro ks neg hf h hop2
        obtain ⟨cs, ds, r, hx, hy, hlc, hld, he, hk⟩ := h
        refine ⟨_, .inl fun _ ρ w c M' _ hw he0 => ⟨.bool (r != neg), ?_, .sc _ rfl⟩, hk⟩
        have hxr : VRel ρ (e x) (c x) := he0 x (by rw [hop]; simp [Op.operands])
        have hyr : VRel ρ (e y) (c y) := he0 y (by rw [hop]; simp [Op.operands])
        rw [hx] at hxr
        rw [hy] at hyr
        obtain ⟨us, hcx, hru⟩ := agg_inv hxr
        obtain ⟨vs, hcy, hrv⟩ := agg_inv hyr
        unfold flatT at hf
        split at hf <;> first | (cases hf; done) | skip
        rename_i hg
        have hrun : (Op.equalIn 10000 t (.agg ⟨us⟩) (.agg ⟨vs⟩)).run P w = .ok r w := by
          rcases flat_run 10 t ks 10000 hf (by omega) cs ds us vs r w hru hrv hlc hld he with ⟨_, h1⟩ | ⟨h1, _⟩
          · exact h1
          · simp [isAggT, hu] at h1
        simp only [execOp, hop, hcx, hcy, Sem.run_bind, run_eqGuard_agg w op t x y _ _ hg, Result.andThen_ok]
        rcases hop2 with ⟨rfl, rfl⟩ | ⟨rfl, rfl⟩
        · rw [run_eql_struct, hrun]; cases r <;> rfl
        · rw [run_neq_struct, hrun]; cases r <;> rfl
      split at h <;> first | (cases h; done) | skip
      · exact key _ _ ‹_› h (.inl ⟨rfl, rfl⟩)
      · exact key _ _ ‹_› h (.inr ⟨rfl, rfl⟩)
    · obtain ⟨v, hv, hk⟩ := h
      exact ⟨_, givesA_pure hv, hk⟩
    · split at h <;> first | (cases h; done) | skip
      · obtain ⟨v, hv, hk⟩ := h
        exact ⟨_, givesA_pure hv, hk⟩
      · rename_i h0
        obtain ⟨htag, r, hr, hk⟩ := h
        exact ⟨_, givesA_pure (ref_gen hop (.inl ⟨rfl, rfl⟩) rfl (fun e0 => h0 e0) htag hr), hk⟩
      · rename_i h0
        obtain ⟨htag, r, hr, hk⟩ := h
        exact ⟨_, givesA_pure (ref_gen hop (.inr ⟨rfl, rfl⟩) rfl (fun e0 => h0 e0) htag hr), hk⟩
  case convert src dst x =>
    simp only [niceV, hop] at h
    split at h <;> first | (cases h; done) | skip
    · rename_i k hs hd
      obtain ⟨l, n, hx, hk⟩ := h
      refine ⟨_, givesA_pure ?_, hk⟩
      simp only [pureOp, hop]
      refine genOp_of (l := [.int l n]) (by rw [hop]; simp [Op.operands, mapO, hx, toVal, toCell]) (u := .int k (k.wrap n)) ?_ rfl
      simp only [execOp, hop, hx, toVal, toCell, Option.getD_some]
      refine pureRun_bind _ _ (Value.int k (k.wrap n)) ?_
      simp only [convert]
      rw [pureRun_bind _ _ _ (pureRun_underlying hs), pureRun_bind _ _ _ (pureRun_underlying hd)]
      rfl
    · rename_i hs hd
      obtain ⟨s, hx, hk⟩ := h
      refine ⟨_, givesA_pure ?_, hk⟩
      simp only [pureOp, hop]
      refine genOp_of (l := [.string ⟨⟨s⟩⟩]) (by rw [hop]; simp [Op.operands, mapO, hx, toVal, toCell]) (u := .string ⟨⟨s⟩⟩) ?_ rfl
      simp only [execOp, hop, hx, toVal, toCell, Option.getD_some]
      refine pureRun_bind _ _ (Value.string ⟨⟨s⟩⟩) ?_
      simp only [convert]
      rw [pureRun_bind _ _ _ (pureRun_underlying hs), pureRun_bind _ _ _ (pureRun_underlying hd)]
      rfl
    · rename_i k0 hs hd
      obtain ⟨l, n, hx, hk⟩ := h
      refine ⟨_, givesA_pure ?_, hk⟩
      simp only [pureOp, hop]
      refine genOp_of (l := [.int l n]) (by rw [hop]; simp [Op.operands, mapO, hx, toVal, toCell]) (u := .string (Utf8.encode n)) ?_ rfl
      simp only [execOp, hop, hx, toVal, toCell, Option.getD_some]
      refine pureRun_bind _ _ (Value.string (Utf8.encode n)) ?_
      simp only [convert]
      rw [pureRun_bind _ _ _ (pureRun_underlying hs), pureRun_bind _ _ _ (pureRun_underlying hd)]
      rfl
    · rename_i el hs hd
      split at h <;> first | (cases h; done) | skip
      rename_i hel
      obtain ⟨s, hx, hk⟩ := h
      refine ⟨_, .inr ⟨by simp only [kindOf, hop, hs, hd], fun ρ w c M' hsub hw he => ?_⟩, hk⟩
      have hxr : VRel ρ (e x) (c x) := he x (by rw [hop]; simp [Op.operands])
      unfold toStr at hx
      split at hx <;> first | (cases hx; done) | skip
      · rename_i b p len cap hex
        split at hx <;> first | (cases hx; done) | skip
        rename_i xs hl
        rw [hex] at hxr
        obtain ⟨i, cp, hbi, hc⟩ := slc_inv hxr
        obtain ⟨vs, hr, hlen, _, hrun⟩ := RM.run_loads (P := P) hw hbi (hsub.loads hl)
        obtain ⟨ns, rfl, rfl⟩ := bytesOf_rel hr hx
        refine ⟨_, ?_, .sc _ rfl⟩
        simp only [execOp, hop, hc, Sem.run_bind]
        rw [run_convert_bytes_string w src dst el _ len cp hs hel hd, run_bytesToString w _ len cp ns (by rw [hrun]), foldl_push_bytes]
        have he0 : ByteArray.empty.data = #[] := rfl
        simp [he0]
      · rename_i b hex
        cases hx
        rw [hex] at hxr
        generalize hcx : c x = cx at hxr
        cases hxr with
        | emp _ ad cp =>
        refine ⟨_, ?_, .sc _ rfl⟩
        simp only [execOp, hop, hcx, Sem.run_bind]
        rw [run_convert_bytes_string w src dst el _ 0 cp hs hel hd, run_bytesToString w _ 0 cp [] (by rfl)]
        rfl
      · rename_i hex
        cases hx
        rw [hex] at hxr
        refine ⟨_, ?_, .sc _ rfl⟩
        simp only [execOp, hop, (sc_inv hxr).1, Sem.run_bind]
        rw [run_convert_bytes_string w src dst el _ 0 0 hs hel hd]
        rfl
    · rename_i t hs hd
      split at h <;> first | (cases h; done) | skip
      rename_i n hsz
      obtain ⟨b, p, l, opn, el, fz, hex, hg, hle, hk⟩ := h
      refine ⟨_, .inr ⟨by simp only [kindOf, hop, hs, hd], fun ρ w c M' hsub hw he => ?_⟩, hk⟩
      obtain ⟨A, hA⟩ := hw
      rcases hA.blk b _ (hsub.2 b _ hg) with ⟨y, hy, hr⟩ | ⟨_, e0, _⟩
      · cases y <;> first | exact hr.elim | skip
        obtain ⟨h1, rfl, rfl, rfl, h5⟩ := hr
        refine loadOp_sound hA.rel he ?_
        simp only [loadOp, hop, hs, hd, hex, hy, hsz]
        rw [ble_iff.2 (by omega)]
      · cases e0
    · rename_i u hs hd
      split at h <;> first | (cases h; done) | skip
      rename_i n hsz hc1 hli
      obtain ⟨b, l, opn, fz, hex, hg, hle, hk⟩ := h
      have hc1 := ble_t hc1
      refine ⟨_, .inr ⟨by simp only [kindOf, hop, hs, hd], fun ρ w c M' hsub hw he => ?_⟩, hk⟩
      obtain ⟨A, hA⟩ := hw
      rcases hA.blk b _ (hsub.2 b _ hg) with ⟨y, hy, hr⟩ | ⟨_, e0, _⟩
      · cases y <;> first | exact hr.elim | skip
        rename_i nn tree zs opn' elem' fz'
        obtain ⟨h1, rfl, rfl, rfl, h5⟩ := hr
        refine loadOp_sound hA.rel he ?_
        have hdiv : nn / P.cellsOf elem' = 1 := by rw [← h1, hle]; exact Nat.div_self (by omega)
        simp only [loadOp, hop, hs, hd, hex, hy, hsz, hdiv, hli]
      · cases e0
    · obtain ⟨v, hv, hk⟩ := h
      exact ⟨_, givesA_pure hv, hk⟩
  case unOp op t x =>
    simp only [niceV, hop] at h
    split at h
    · obtain ⟨b, hx, hk⟩ := h
      refine ⟨_, givesA_pure ?_, hk⟩
      simp only [pureOp, hop]
      refine genOp_of (l := [.bool b]) (by rw [hop]; simp [Op.operands, mapO, hx, toVal, toCell]) (u := .bool (!b)) ?_ rfl
      simp only [execOp, hop, hx, toVal, toCell, Option.getD_some]
      rfl
    · obtain ⟨k, n, hx, hk⟩ := h
      refine ⟨_, givesA_pure ?_, hk⟩
      simp only [pureOp, hop]
      refine genOp_of (l := [.int k n]) (by rw [hop]; simp [Op.operands, mapO, hx, toVal, toCell]) (u := .int k (k.wrap (0 - n))) ?_ rfl
      simp only [execOp, hop, hx, toVal, toCell, Option.getD_some]
      rfl
    · obtain ⟨v, hv, hk⟩ := h
      exact ⟨_, givesA_pure hv, hk⟩
  case load t x =>
    simp only [niceV, hop] at h
    split at h <;> first | (cases h; done) | skip
    · rename_i ha
      obtain ⟨b, p, v, hx, hl, hk⟩ := h
      refine ⟨_, .inr ⟨by simp only [kindOf, hop], fun ρ w c M' hsub hw he => ?_⟩, hk⟩
      have hxr : VRel ρ (e x) (c x) := he x (by rw [hop]; simp [Op.operands])
      rw [hx] at hxr
      obtain ⟨i, hb, hc⟩ := ptr_inv hxr
      obtain ⟨u, hu, hcell⟩ := loads_one hw hb (hsub.loads hl)
      refine ⟨u, ?_, hu⟩
      simp only [execOp, hop, Instr.loadAt, Instr.sureAddr, loadVar, hc, Sem.run_bind, Sem.run_pure, Result.andThen_ok, isAggT_run ha, Bool.false_eq_true, if_false, load, Sem.run]
      simp [hcell, Sem.run]
    · rename_i ha
      split at h <;> first | (cases h; done) | skip
      rename_i n hs
      obtain ⟨b, p, xs, hx, hl, hk⟩ := h
      refine ⟨_, .inr ⟨by simp only [kindOf, hop], fun ρ w c M' hsub hw he => ?_⟩, hk⟩
      have hxr : VRel ρ (e x) (c x) := he x (by rw [hop]; simp [Op.operands])
      rw [hx] at hxr
      obtain ⟨i, hb, hc⟩ := ptr_inv hxr
      obtain ⟨vs, hr, hlen, _, hrun⟩ := RM.run_loads (P := P) hw hb (hsub.loads hl)
      refine ⟨.agg ⟨vs⟩, ?_, .agg _ _ hr⟩
      simp only [execOp, hop, Instr.loadAt, Instr.sureAddr, loadVar, hc, Sem.run_bind, Sem.run_pure, Result.andThen_ok, isAggT_run ha, if_true, sizeT_run hs, hrun]
  case call cl =>
    obtain ⟨callee, args, ts⟩ := cl
    cases callee with
    | builtin b =>
      cases b
      case len =>
        simp only [niceV, hop] at h
        split at h <;> first | (cases h; done) | skip
        rename_i t x ht hx
        have hgoal : ∀ {w : World} {c : Operand → Value} {n : Nat}, (Builtin.len_ ts o.type (args.map c)).run P w = .ok (.int .i64 n) w → (execOp c o).run P w = .ok (.value (.int .i64 n)) w := by
          intro w c n hrun
          simp only [execOp, hop, resolve, invoke, builtin, Sem.run_bind, Sem.run_pure, Result.andThen_ok, hrun]
        split at h <;> first | (cases h; done) | skip
        · rename_i el hu
          obtain ⟨n, hn, hk⟩ := h
          refine ⟨_, .inl fun _ ρ w c M' _ hw he => ⟨.int .i64 n, hgoal ?_, .sc _ rfl⟩, hk⟩
          have hr : VRel ρ (e x) (c x) := he x (by rw [hop]; simp only [Op.operands, Call.operands, Array.empty_append]; exact Array.mem_of_getElem? hx)
          unfold lenSl at hn
          split at hn <;> first | (cases hn; done) | skip
          · rename_i b p k cap hex
            cases hn
            rw [hex] at hr
            obtain ⟨i, cp, hb, hc⟩ := slc_inv hr
            simp only [Builtin.len_, ht, Array.getElem?_map, hx, Option.map_some, hc, Sem.run_bind, run_underlying hu, Result.andThen_ok, Sem.run_pure, goInt]
          · rename_i b hex
            cases hn
            rw [hex] at hr
            generalize hcx : c x = cx at hr
            cases hr
            simp only [Builtin.len_, ht, Array.getElem?_map, hx, Option.map_some, hcx, Sem.run_bind, run_underlying hu, Result.andThen_ok, Sem.run_pure, goInt]
          · rename_i hex
            cases hn
            rw [hex] at hr
            simp only [Builtin.len_, ht, Array.getElem?_map, hx, Option.map_some, (sc_inv hr).1, Sem.run_bind, run_underlying hu, Result.andThen_ok, Sem.run_pure, goInt]
        · rename_i hu
          obtain ⟨s, hex, hk⟩ := h
          refine ⟨_, .inl fun _ ρ w c M' _ hw he => ⟨.int .i64 s.length, hgoal ?_, .sc _ rfl⟩, hk⟩
          have hr : VRel ρ (e x) (c x) := he x (by rw [hop]; simp only [Op.operands, Call.operands, Array.empty_append]; exact Array.mem_of_getElem? hx)
          rw [hex] at hr
          simp only [Builtin.len_, ht, Array.getElem?_map, hx, Option.map_some, (sc_inv hr).1, Sem.run_bind, run_underlying hu, Result.andThen_ok, Sem.run_pure, goInt]
          rfl
        · rename_i kt et hu
          obtain ⟨b, es, cl, hex, hg, hk⟩ := h
          refine ⟨_, .inr ⟨by simp only [kindOf, hop, ht, hu], fun ρ w c M' hsub hw he => ⟨.int .i64 es.length, hgoal ?_, .sc _ rfl⟩⟩, hk⟩
          have hr : VRel ρ (e x) (c x) := he x (by rw [hop]; simp only [Op.operands, Call.operands, Array.empty_append]; exact Array.mem_of_getElem? hx)
          rw [hex] at hr
          generalize hcx : c x = cx at hr
          cases hr with
          | map _ i hb =>
          obtain ⟨A, hA⟩ := hw
          rcases hA.blk b _ (hsub.2 _ _ hg) with ⟨y, hy, hle⟩ | ⟨_, e0, _⟩
          · cases y <;> first | exact hle.elim | skip
            obtain ⟨rfl, rfl⟩ := hle
            obtain ⟨ob, hob, fs, rfl, hfs⟩ := hA.rel.blk b i _ hb hy
            have hlen : ∀ (es : List (AV × AV × Nat)) (fs : List MapEntry), EntRel ρ es fs → es.length = fs.length := by
              intro es
              induction es with
              | nil => intro fs h; cases fs <;> simp_all [EntRel]
              | cons a es ih =>
                intro fs h
                cases fs with
                | nil => exact h.elim
                | cons f fs => simp [ih fs h.2.2.2]
            simp only [Builtin.len_, ht, Array.getElem?_map, hx, Option.map_some, hcx, Sem.run_bind, run_underlying hu, Result.andThen_ok, getObj, Sem.run, hob]
            simp [goInt, hlen _ _ hfs]
          · cases e0
      case cap =>
        simp only [niceV, hop] at h
        split at h <;> first | (cases h; done) | skip
        rename_i t x ht hx
        split at h <;> first | (cases h; done) | skip
        rename_i el hu
        obtain ⟨n, hn, hk⟩ := h
        refine ⟨_, givesA_pure ?_, hk⟩
        split at hn <;> first | (cases hn; done) | skip
        · rename_i b p k cc hex
          cases hn
          simp only [pureOp, hop, ht, hx, hu, hex]
        · rename_i hex
          cases hn
          simp only [pureOp, hop, ht, hx, hu, hex]
          rfl
      case unsafeSliceData =>
        simp only [niceV, hop] at h
        split at h <;> first | (cases h; done) | skip
        rename_i x
        unfold sdataW at h
        split at h <;> first | (cases h; done) | skip
        · rename_i hex; exact ⟨_, givesA_pure (by simp only [pureOp, hop, hex]), h⟩
        · rename_i hex; exact ⟨_, givesA_pure (by simp only [pureOp, hop, hex]), h⟩
        · rename_i hex; exact ⟨_, givesA_pure (by simp only [pureOp, hop, hex]), h⟩
      case min =>
        simp only [niceV, hop] at h
        split at h <;> first | (cases h; done) | skip
        rename_i x y
        obtain ⟨k, a, b, hx, hy, hk⟩ := h
        refine ⟨_, givesA_pure ?_, hk⟩
        simp only [pureOp, hop]
        refine genOp_of (l := [.int k a, .int k b]) (by rw [hop]; simp [Op.operands, Call.operands, mapO, hx, hy, toVal, toCell]) (u := .int k (if b < a then b else a)) ?_ rfl
        simp only [execOp, hop, resolve, invoke, builtin]
        rw [show (Array.map (fun x => (toVal (e x)).getD default) ⟨[x, y]⟩) = #[.int k a, .int k b] by simp [hx, hy, toVal, toCell]]
        rfl
      case max =>
        simp only [niceV, hop] at h
        split at h <;> first | (cases h; done) | skip
        rename_i x y
        obtain ⟨k, a, b, hx, hy, hk⟩ := h
        refine ⟨_, givesA_pure ?_, hk⟩
        simp only [pureOp, hop]
        refine genOp_of (l := [.int k a, .int k b]) (by rw [hop]; simp [Op.operands, Call.operands, mapO, hx, hy, toVal, toCell]) (u := .int k (if b > a then b else a)) ?_ rfl
        simp only [execOp, hop, resolve, invoke, builtin]
        rw [show (Array.map (fun x => (toVal (e x)).getD default) ⟨[x, y]⟩) = #[.int k a, .int k b] by simp [hx, hy, toVal, toCell]]
        rfl
      all_goals (simp only [niceV, hop] at h)
    | value f => simp only [niceV, hop] at h
    | invoke r m => simp only [niceV, hop] at h
  all_goals (simp only [niceV, hop] at h)
end
end Go.Ab
set_option linter.unusedVariables false
set_option linter.unusedSimpArgs false
namespace Go.Ab
open Go Go.RowKit
def repL (zs : List AV) : Nat → List AV
  | 0 => []
  | n + 1 => zs ++ repL zs n
theorem repL_length (zs : List AV) : ∀ n, (repL zs n).length = n * zs.length
  | 0 => by simp [repL]
  | n + 1 => by simp [repL, repL_length zs n, Nat.add_mul, Nat.add_comm]
theorem repL_get (zs : List AV) (h : 0 < zs.length) : ∀ (n k : Nat), k < n * zs.length → (repL zs n)[k]? = zs[k % zs.length]?
  | 0, k, hk => by simp at hk
  | n + 1, k, hk => by
    simp only [repL]
    by_cases h1 : k < zs.length
    · rw [List.getElem?_append_left h1, Nat.mod_eq_of_lt h1]
    · rw [List.getElem?_append_right (by omega), repL_get zs h n _ (by rw [Nat.add_mul] at hk; omega)]
      congr 1
      have : k = (k - zs.length) + zs.length := by omega
      rw [this, Nat.add_mod_right]; simp
theorem repL_rep (zs : List AV) : ∀ n, newCells.rep zs n = repL zs n
  | 0 => rfl
  | n + 1 => by simp only [newCells.rep, repL, repL_rep zs n]
def fillO : List AV → List (Nat × Nat × AV) → Option (List AV)
  | cs, [] => some cs
  | cs, (off, size, v) :: rest => if v.cells.all oneCell = true ∧ v.cells.length = size ∧ off + size ≤ cs.length then fillO (cs.take off ++ v.cells ++ cs.drop (off + size)) rest else none
def boxW (t : TypeId) (x : AV) (K : RB → (Nat → AV) → Prop) : Prop := x.cells.all oneCell = true ∧ 1 ≤ x.cells.length ∧ K (.row x.cells false t 0) (fun b => .ptr b 0)
def rowsW (elem len : Nat) (zs : List AV) (parts : List (Nat × Nat × AV)) (K : RB → (Nat → AV) → Prop) : Prop :=
  ∃ l, fillO (repL zs len) parts = some l ∧ K (.row l false elem 0) (fun b => .slc b 0 len (.ex len))
def makeW (elem bytes : Nat) (zs : List AV) (x y : AV) (K : RB → (Nat → AV) → Prop) : Prop :=
  ∃ kl kc l c, x = N kl l ∧ y = N kc c ∧ 0 ≤ l ∧ l ≤ c ∧ c.toNat * bytes ≤ 140737488355328 ∧ c.toNat ≤ 140737488355328 ∧ K (.row (repL zs c.toNat) false elem 0) (fun b => .slc b 0 l.toNat (.ex c.toNat))
def bytesW (el : Nat) (x : AV) (K : RB → (Nat → AV) → Prop) : Prop :=
  ∃ s, x = St s ∧ K (.row (s.map fun b => N .u8 b.toNat) true el 0) (fun b => .slc b 0 s.length (.op 1))
def siterW (x : AV) (K : RB → (Nat → AV) → Prop) : Prop := ∃ s, x = St s ∧ K (.siter s 0) (fun b => .ptr b 0)
def niceN (P : Program) (o : Oper) (e : Operand → AV) (K : RB → (Nat → AV) → Prop) : Prop :=
  match o.op with
  | .alloc t => match zerosOf P t with
    | some zs => match Nat.ble 1 zs.length with
      | true => K (.row zs false t 0) (fun b => .ptr b 0)
      | false => False
    | none => False
  | .box t x => boxW t (e x) K
  | .buildSlice t len parts => match P.underlying t with
    | some (.slice elem) => match sizeT P elem, zerosOf P elem with
      | some size, some zs => match Nat.ble 1 size, Nat.beq zs.length size, Nat.ble (len * size) 10000 with
        | true, true, true => rowsW elem len zs (parts.toList.map fun p => (p.1 * size, size, e p.2)) K
        | _, _, _ => False
      | _, _ => False
    | _ => False
  | .makeSlice t l c => match P.underlying t with
    | some (.slice elem) => match sizeT P elem, bytesT P elem, zerosOf P elem with
      | some size, some bytes, some zs => match Nat.ble 1 size, Nat.beq zs.length size with
        | true, true => makeW elem bytes zs (e l) (e c) K
        | _, _ => False
      | _, _, _ => False
    | _ => False
  | .makeMap t r => match r with
    | none => K (.map [] 0) (fun b => .map b)
    | some _ => False
  | .convert src dst x => match P.underlying src, P.underlying dst with
    | some .string, some (.slice el) => match P.underlying el, sizeT P el with
      | some (.int .u8), some 1 => bytesW el (e x) K
      | _, _ => False
    | _, _ => False
  | .range t x => match P.underlying t with
    | some .string => siterW (e x) K
    | _ => False
  | _ => False
section
variable {P : Program} {ρ : Ren} {o : Oper} {e : Operand → AV} {M : RM} {w : World}
def MakesR (P : Program) (o : Oper) (e : Operand → AV) (x : RB) (mk : Nat → AV) : Prop := ∃ y, allocOp P o e = some (y, mk) ∧ RLe x y
theorem cellAt_tree {tree : Tree AV} {zs : List AV} {n k : Nat} {v : AV} (hk : k < n) (h : tree.get k = some v) : cellAt tree zs n k = some v := by
  unfold cellAt
  rw [ble_iff.2 (by omega), h]
theorem cellAt_zeros {tree : Tree AV} {zs : List AV} {n k : Nat} {v : AV} (hk : k < n) (h : tree.get k = none) (hz : zs[k % zs.length]? = some v) : cellAt tree zs n k = some v := by
  unfold cellAt
  rw [ble_iff.2 (by omega), h]
  simp only
  split
  · simp at hz
  · rename_i z
    simp [Nat.mod_one] at hz
    rw [hz]
  · rw [nth_getElem]; exact hz
theorem fillO_T {size n : Nat} {zs : List AV} : ∀ (parts : List (Nat × AV)) (t : Tree AV) (l : List AV) {l' : List AV}, l.length = n → (∀ (k : Nat) (v : AV), l[k]? = some v → cellAt t zs n k = some v) →
    fillO l (parts.map fun p => (p.1 * size, size, p.2)) = some l' → ∃ t', fillT size n t parts = some t' ∧ l'.length = n ∧ ∀ (k : Nat) (v : AV), l'[k]? = some v → cellAt t' zs n k = some v
  | [], t, l, l', hl, h, hf => by
    simp only [List.map_nil, fillO] at hf
    cases hf
    exact ⟨t, rfl, hl, h⟩
  | (i, v) :: parts, t, l, l', hl, h, hf => by
    simp only [List.map_cons, fillO] at hf
    split at hf <;> first | (cases hf; done) | skip
    rename_i hc
    obtain ⟨c1, c2, c3⟩ := hc
    obtain ⟨t1, ht1⟩ := putAll_all v.cells t (i * size) c1
    obtain ⟨_, hget⟩ := putAll_get _ _ _ ht1
    obtain ⟨t', k1, k2, k3⟩ := fillO_T (zs := zs) parts t1 _ (n := n) (by simp; omega) (fun k u hk => by
      rw [cellAt_put hget]
      by_cases hin : i * size ≤ k ∧ k < i * size + v.cells.length
      · rw [if_pos hin, if_pos (by omega)]
        rw [List.append_assoc, List.getElem?_append_right (by simp; omega), List.getElem?_append_left (by simp; omega)] at hk
        rw [← hk]; congr 1; simp; omega
      · rw [if_neg hin]
        refine h k u ?_
        rw [← hk]
        by_cases hlt : k < i * size
        · rw [List.append_assoc, List.getElem?_append_left (by simp; omega), List.getElem?_take, if_pos hlt]
        · rw [List.getElem?_append_right (by simp; omega), List.getElem?_drop]
          congr 1; simp; omega) hf
    refine ⟨t', ?_, k2, k3⟩
    simp only [fillT, beq_tt c2, ble_iff.2 (show i * size + size ≤ n by omega), ht1]
    exact k1
theorem mkN {K : RB → (Nat → AV) → Prop} {x : RB} {mk : Nat → AV} {y : Blk} (hk : K x mk) (ha : allocOp P o e = some (y, mk)) (hl : RLe x y) : ∃ x mk, MakesR P o e x mk ∧ K x mk := ⟨x, mk, ⟨y, ha, hl⟩, hk⟩
theorem niceN_sound {K : RB → (Nat → AV) → Prop} (h : niceN P o e K) : ∃ x mk, MakesR P o e x mk ∧ K x mk := by
  cases hop : o.op
  case alloc t =>
    simp only [niceN, hop] at h
    split at h <;> first | (cases h; done) | skip
    rename_i zs hz
    split at h <;> first | (cases h; done) | skip
    rename_i hb
    refine mkN h (y := .row zs.length .leaf zs false t 0) (by simp only [allocOp, hop, hz, hb]) ⟨rfl, rfl, rfl, rfl, fun k v hk => ?_⟩
    have hlt := (List.getElem?_eq_some_iff.1 hk).1
    exact cellAt_zeros hlt (by simp [Tree.get]) (by rw [Nat.mod_eq_of_lt hlt]; exact hk)
  case box t x =>
    simp only [niceN, hop] at h
    obtain ⟨h1, h2, hk⟩ := h
    obtain ⟨t', ht⟩ := putAll_all (e x).cells .leaf 0 h1
    obtain ⟨_, hget⟩ := putAll_get _ _ _ ht
    refine mkN hk (y := .row (e x).cells.length t' [] false t 0) (by simp only [allocOp, hop, ht, ble_iff.2 h2]) ⟨rfl, rfl, rfl, rfl, fun k v hk => ?_⟩
    have hlt := (List.getElem?_eq_some_iff.1 hk).1
    exact cellAt_tree hlt (by rw [hget, if_pos (by omega)]; simpa using hk)
  case buildSlice t len parts =>
    simp only [niceN, hop] at h
    split at h <;> first | (cases h; done) | skip
    rename_i elem hu
    split at h <;> first | (cases h; done) | skip
    rename_i size zs hs hz
    split at h <;> first | (cases h; done) | skip
    rename_i h1 h2 h3
    obtain ⟨l, hf, hk⟩ := h
    have h2' := beq_t h2
    have h1' := ble_t h1
    have e0 : (parts.toList.map fun p => (p.1 * size, size, e p.2)) = (parts.toList.map fun p => (p.1, e p.2)).map fun p => (p.1 * size, size, p.2) := by simp
    rw [e0] at hf
    obtain ⟨t', k1, k2, k3⟩ := fillO_T (zs := zs) (n := len * size) _ .leaf _ (by rw [repL_length, h2']) (fun k v hk => by
      have hlt := (List.getElem?_eq_some_iff.1 hk).1
      rw [repL_length] at hlt
      rw [repL_get zs (by omega) len k hlt] at hk
      exact cellAt_zeros (by rw [← h2']; exact hlt) (by simp [Tree.get]) hk) hf
    exact mkN hk (y := .row (len * size) t' zs false elem 0) (by simp only [allocOp, hop, hu, hs, hz, h1, h2, h3, k1]) ⟨k2, rfl, rfl, rfl, k3⟩
  case makeSlice t l c =>
    simp only [niceN, hop] at h
    split at h <;> first | (cases h; done) | skip
    rename_i elem hu
    split at h <;> first | (cases h; done) | skip
    rename_i size bytes zs hs hb hz
    split at h <;> first | (cases h; done) | skip
    rename_i h1 h2
    obtain ⟨kl, kc, nl, nc, hl, hc, h3, h4, h5, h6, hk⟩ := h
    have h2' := beq_t h2
    have h1' := ble_t h1
    refine mkN hk (y := .row (nc.toNat * size) .leaf zs false elem 0) ?_ ⟨by rw [repL_length, h2'], rfl, rfl, rfl, fun k v hk => ?_⟩
    · simp only [allocOp, hop, hu, hl, hc, natOf_N h3, natOf_N (show 0 ≤ nc by omega), hs, hb, hz, h1, h2, ble_iff.2 (show nl.toNat ≤ nc.toNat by omega), ble_iff.2 h5, ble_iff.2 h6]
    · have hlt := (List.getElem?_eq_some_iff.1 hk).1
      rw [repL_length] at hlt
      rw [repL_get zs (by omega) _ k hlt] at hk
      exact cellAt_zeros (by rw [← h2']; exact hlt) (by simp [Tree.get]) hk
  case makeMap t r =>
    simp only [niceN, hop] at h
    split at h <;> first | (cases h; done) | skip
    exact mkN h (y := .map [] 0) (by simp only [allocOp, hop]) ⟨rfl, rfl⟩
  case convert src dst x =>
    simp only [niceN, hop] at h
    split at h <;> first | (cases h; done) | skip
    rename_i el hs hd
    split at h <;> first | (cases h; done) | skip
    rename_i h1 h2
    obtain ⟨s, hx, hk⟩ := h
    refine mkN hk (y := .row s.length (Tree.ofList (s.map fun b => N .u8 b.toNat) 0 .leaf) [] true el 0) (by simp only [allocOp, hop, hs, hd, hx, h1, h2]) ⟨by simp, rfl, rfl, rfl, fun k v hk => ?_⟩
    have hlt := (List.getElem?_eq_some_iff.1 hk).1
    exact cellAt_tree (by simpa using hlt) (by rw [Tree.get_ofList, if_pos (by omega)]; simpa using hk)
  case range t x =>
    simp only [niceN, hop] at h
    split at h <;> first | (cases h; done) | skip
    rename_i hu
    obtain ⟨s, hx, hk⟩ := h
    exact mkN hk (y := .siter ⟨⟨s⟩⟩ 0) (by simp only [allocOp, hop, hu, hx]) ⟨rfl, rfl⟩
  all_goals (simp only [niceN, hop] at h)
theorem makes_after {c : Operand → Value} {x : RB} {mk : Nat → AV} (hw : MRel P ρ M w) (he : ∀ x ∈ o.op.operands, VRel ρ (e x) (c x)) (h : MakesR P o e x mk) :
    ∃ ρ' w' u, (execOp c o).run P w = .ok (.value u) w' ∧ After P M ρ w (M.push x) ρ' w' ∧ VRel ρ' (mk M.next) u := by
  obtain ⟨A, hA⟩ := hw
  obtain ⟨y, ha, hle⟩ := h
  obtain ⟨ρ', w', u, h1, h2, h3, h4⟩ := makes_rel hA.rel hA.size (allocOp_sound he ha w)
  obtain ⟨k1, k2, k3⟩ := RM.push_A hA hle
  exact ⟨ρ', w', u, h1, after_of hA h3 h2 k1 k2 (by simp [AW.push]) k3, by rw [← hA.next]; exact h4⟩
end
end Go.Ab
