/- Abstract memory and concrete memory; loads, stores, new blocks. By an AI agent. -/
import Derived.Test.YtmilkhdicmkmbaaDoorAb3
import Derived.Below
set_option linter.unusedVariables false
set_option linter.unusedSimpArgs false
namespace Go.Ab
open Go Go.RowKit

def EntRel (ρ : Ren) : List (AV × AV × Nat) → List MapEntry → Prop
  | [], [] => True
  | (k, v, n) :: es, f :: fs => VRel ρ k f.key ∧ VRel ρ v f.val ∧ f.born = n ∧ EntRel ρ es fs
  | _, _ => False

structure RowRel (P : Program) (ρ : Ren) (i : Info) (n : Nat) (tree : Tree AV) (zs : List AV) (opn : Bool) (elem : TypeId) (fz : Nat) (c : Array Value) (fr : Nat × Nat) : Prop where
  size : i.sh + n ≤ c.size
  val : ∀ k x, cellAt tree zs n k = some x → ∃ v, c[i.sh + k]? = some v ∧ VRel ρ x v
  free : ∀ k, fz ≤ k → i.sh + k < c.size → ¬ (fr.1 ≤ i.sh + k ∧ i.sh + k < fr.2)
  mark : opn = false → fz = 0 → fr.1 = fr.2 ∧ fr.2 ≤ c.size
  opn : opn = true → 0 < i.esz ∧ c.size = i.sh + i.capN * i.esz ∧ sizeT P elem = some i.esz
  sh0 : i.sh = 0

def BlkRel (P : Program) (ρ : Ren) (i : Info) : Blk → Obj → Prop
  | .row n tree zs opn elem fz, o => ∃ c fr, o = .cells c elem fr ∧ RowRel P ρ i n tree zs opn elem fz c fr
  | .map es clock, o => ∃ fs, o = .map fs clock ∧ EntRel ρ es fs.toList
  | .iter m since seen stepped, o => ∃ m', o = .mapIter m' since ⟨seen⟩ stepped ∧ (match m with | none => m' = none | some b => ∃ j, ρ b = some j ∧ m' = some j.cb)
  | .siter s pos, o => i.sh = 0 ∧ o = .stringIter s pos

theorem EntRel.mono {ρ ρ' : Ren} (h : ρ.le ρ') : ∀ {es : List (AV × AV × Nat)} {fs : List MapEntry}, EntRel ρ es fs → EntRel ρ' es fs
  | [], [], _ => trivial
  | (_, _, _) :: _, _ :: _, ⟨a, b, c, d⟩ => ⟨a.mono h, b.mono h, c, EntRel.mono h d⟩
  | [], _ :: _, k => k.elim
  | _ :: _, [], k => k.elim
theorem RowRel.mono {P : Program} {ρ ρ' : Ren} (h : ρ.le ρ') {i : Info} {n : Nat} {tree : Tree AV} {zs : List AV} {opn : Bool} {elem : TypeId} {fz : Nat} {c : Array Value} {fr : Nat × Nat}
    (k : RowRel P ρ i n tree zs opn elem fz c fr) : RowRel P ρ' i n tree zs opn elem fz c fr :=
  ⟨k.size, fun j x hx => let ⟨v, a, b⟩ := k.val j x hx; ⟨v, a, b.mono h⟩, k.free, k.mark, k.opn, k.sh0⟩
theorem BlkRel.mono {P : Program} {ρ ρ' : Ren} (h : ρ.le ρ') {i : Info} : ∀ {x : Blk} {o : Obj}, BlkRel P ρ i x o → BlkRel P ρ' i x o
  | .row _ _ _ _ _ _, _, ⟨c, fr, e, k⟩ => ⟨c, fr, e, k.mono h⟩
  | .map _ _, _, ⟨fs, e, k⟩ => ⟨fs, e, k.mono h⟩
  | .iter m _ _ _, _, ⟨m', e, k⟩ => ⟨m', e, by
      cases m with
      | none => exact k
      | some b => obtain ⟨j, a, c⟩ := k; exact ⟨j, h _ _ a, c⟩⟩
  | .siter _ _, _, k => k

/-- The memory ahead of a run: how many blocks; what is known of it, whatever is done to the others. -/
structure Base where
  n : Nat
  inv : World → Prop
  low : ∀ w w' : World, (∀ c, c < n → w'.heap[c]? = w.heap[c]?) → inv w → inv w'

instance : CoeOut Base Nat := ⟨Base.n⟩

structure WRel (P : Program) (base : Base) (ρ : Ren) (A : AW) (w : World) : Prop where
  dom : ∀ b i, ρ b = some i → b < A.next ∧ i.cb < w.heap.size
  blk : ∀ b i x, ρ b = some i → A.heap.get b = some x → ∃ o, w.heap[i.cb]? = some o ∧ BlkRel P ρ i x o
  sep : ∀ b b' i i' x x', ρ b = some i → ρ b' = some i' → A.heap.get b = some x → A.heap.get b' = some x' → i.cb = i'.cb → b = b'
  top : ∀ b x, A.heap.get b = some x → b < A.next
  lo : ∀ b i x, ρ b = some i → A.heap.get b = some x → base ≤ i.cb
  inv : base.inv w

structure Step (base n : Nat) (ρ : Ren) (w : World) (ρ' : Ren) (w' : World) : Prop where
  os : w'.os = w.os
  tape : w'.tape = w.tape
  output : w'.output = w.output
  size : w.heap.size ≤ w'.heap.size
  frame : ∀ c, c < w.heap.size → (∀ b i, ρ b = some i → i.cb ≠ c) → w'.heap[c]? = w.heap[c]?
  ext : ∀ b, b < n → ρ' b = ρ b
  fresh : ∀ b i, ρ' b = some i → (∃ b0 i0, ρ b0 = some i0 ∧ i0.cb = i.cb) ∨ w.heap.size ≤ i.cb
  low : ∀ c, c < base → w'.heap[c]? = w.heap[c]?

theorem Step.refl {base : Nat} (n : Nat) (ρ : Ren) (w : World) : Step base n ρ w ρ w :=
  ⟨rfl, rfl, rfl, Nat.le_refl _, fun _ _ _ => rfl, fun _ _ => rfl, fun b i h => .inl ⟨b, i, h, rfl⟩, fun _ _ => rfl⟩
theorem Step.trans {base n n' : Nat} {ρ ρ1 ρ2 : Ren} {w w1 w2 : World} (h : Step base n ρ w ρ1 w1) (k : Step base n' ρ1 w1 ρ2 w2) (hn : n ≤ n') : Step base n ρ w ρ2 w2 where
  low c hc := (k.low c hc).trans (h.low c hc)
  os := k.os.trans h.os
  tape := k.tape.trans h.tape
  output := k.output.trans h.output
  size := Nat.le_trans h.size k.size
  frame c hc hu := by
    rw [k.frame c (Nat.lt_of_lt_of_le hc h.size) fun b i hb e => ?_, h.frame c hc hu]
    rcases h.fresh b i hb with ⟨b0, i0, h0, e0⟩ | hlt
    · exact hu b0 i0 h0 (e0.trans e)
    · omega
  ext b hb := (k.ext b (Nat.lt_of_lt_of_le hb hn)).trans (h.ext b hb)
  fresh b i hb := by
    rcases k.fresh b i hb with ⟨b0, i0, h0, e0⟩ | hlt
    · rcases h.fresh b0 i0 h0 with ⟨b1, i1, h1, e1⟩ | hlt
      · exact .inl ⟨b1, i1, h1, e1.trans e0⟩
      · exact .inr (by omega)
    · exact .inr (Nat.le_trans h.size hlt)
theorem Step.le {P : Program} {base : Base} {ρ ρ' : Ren} {A : AW} {w w' : World} (h : Step base A.next ρ w ρ' w') (hw : WRel P base ρ A w) : ρ.le ρ' :=
  fun b i hb => by rw [h.ext b (hw.dom b i hb).1, hb]
theorem Step.below {P : Program} {base : Base} {ρ ρ' : Ren} {A : AW} {w w' : World} {n : Nat} (h : Step base n ρ w ρ' w') (hw : WRel P base ρ A w) (hb : base ≤ w.heap.size) : Below base w w' :=
  ⟨h.os, h.tape, h.output, h.size, fun k hk => h.low k hk⟩

theorem WRel.drew {P : Program} {base : Base} {ρ : Ren} {A : AW} {w : World} (h : WRel P base ρ A w) : WRel P base ρ A w.drew :=
  ⟨h.dom, h.blk, h.sep, h.top, h.lo, base.low w w.drew (fun _ _ => rfl) h.inv⟩
theorem Step.drew {base n : Nat} {ρ : Ren} {w : World} : Step base n ρ w ρ w.drew :=
  ⟨rfl, rfl, rfl, Nat.le_refl _, fun _ _ _ => rfl, fun _ _ => rfl, fun b i h => .inl ⟨b, i, h, rfl⟩, fun _ _ => rfl⟩

/-! ### reading -/
theorem cells_get {tree : Tree AV} {zs : List AV} {n : Nat} : ∀ (k o : Nat) {vs : List AV}, cells tree zs n o k = some vs → vs.length = k ∧ ∀ j x, vs[j]? = some x → cellAt tree zs n (o + j) = some x
  | 0, o, vs, h => by simp [cells] at h; subst h; simp
  | k + 1, o, vs, h => by
    simp only [cells] at h
    split at h
    · cases h
    · rename_i v hv
      split at h
      · rename_i us hus
        cases h
        obtain ⟨hl, hg⟩ := cells_get k (o + 1) hus
        refine ⟨by simp [hl], fun j x hx => ?_⟩
        cases j with
        | zero => simp at hx; subst hx; simpa using hv
        | succ j => have := hg j x (by simpa using hx); rw [← this]; congr 1; omega
      · cases h

theorem lrel_of_get {ρ : Ren} : ∀ (xs : List AV) (f : Nat → Value), (∀ j x, xs[j]? = some x → VRel ρ x (f j)) → LRel ρ xs ((List.range xs.length).map f)
  | [], _, _ => by simpa using .nil
  | x :: xs, f, h => by
    rw [List.length_cons, List.range_succ_eq_map, List.map_cons, List.map_map]
    exact .cons _ _ _ _ (h 0 x (by simp)) (lrel_of_get xs (f ∘ Nat.succ) fun j y hy => h (j + 1) y (by simpa using hy))

theorem add_off (cb o k : Nat) : (⟨cb, o, none⟩ : Addr).add k = ⟨cb, o + k, none⟩ := by unfold Addr.add; split <;> simp_all

section
variable {P : Program} {base : Base} {ρ : Ren} {A : AW} {w : World}

theorem loads_rel (hw : WRel P base ρ A w) {b o k : Nat} {i : Info} {xs : List AV} (hb : ρ b = some i) (h : A.loads b o k = some xs) :
    ∃ vs, LRel ρ xs vs ∧ vs.length = k ∧ ∀ j v, vs[j]? = some v → w.cell? ((⟨i.cb, i.sh + o, none⟩ : Addr).add j) = some v := by
  unfold AW.loads at h
  split at h
  · rename_i n tree zs opn elem fz hg
    obtain ⟨ob, hob, c, fr, rfl, hr⟩ := hw.blk b i _ hb hg
    obtain ⟨hl, hc⟩ := cells_get k o h
    refine ⟨(List.range xs.length).map fun j => c.getD (i.sh + (o + j)) default, lrel_of_get xs _ fun j x hx => ?_, by simpa using hl, fun j v hv => ?_⟩
    · obtain ⟨v, hv, hrel⟩ := hr.val _ _ (hc j x hx)
      simpa [Array.getD_eq_getD_getElem?, hv] using hrel
    · have hj : j < xs.length := by
        rcases Nat.lt_or_ge j xs.length with h | h
        · exact h
        · simp [h] at hv
      obtain ⟨u, hu, _⟩ := hr.val _ _ (hc j xs[j] (by simp [hj]))
      simp [hj, hu] at hv
      subst hv
      rw [add_off, World.cell?, hob]
      simp [Nat.add_assoc, hu]
  · cases h

theorem run_loads (hw : WRel P base ρ A w) {b o k : Nat} {i : Info} {xs : List AV} (hb : ρ b = some i) (h : A.loads b o k = some xs) :
    ∃ vs, LRel ρ xs vs ∧ vs.length = k ∧ (∀ j v, vs[j]? = some v → w.cell? ((⟨i.cb, i.sh + o, none⟩ : Addr).add j) = some v) ∧ (loadCells ⟨i.cb, i.sh + o, none⟩ k).run P w = .ok ⟨vs⟩ w := by
  obtain ⟨vs, h1, h2, h3⟩ := loads_rel hw hb h
  exact ⟨vs, h1, h2, h3, by have := run_loadCells_list (P := P) w ⟨i.cb, i.sh + o, none⟩ vs h3; rw [h2] at this; exact this⟩

/-! ### writing -/
theorem run_storeCells (g o : Nat) (t : TypeId) (fr : Nat × Nat) : ∀ (vs : List Value) (i : Nat) (cur : Array Value) (w : World), w.heap[g]? = some (.cells cur t fr) → o + i + vs.length ≤ cur.size → (∀ v ∈ vs, v.oneCell' = true) →
    (∀ k, k < vs.length → ¬ (fr.1 ≤ o + i + k ∧ o + i + k < fr.2)) →
    ∃ cur', (storeCells ⟨g, o, none⟩ vs i).run P w = .ok () (w.setRow g cur') ∧ cur'.size = cur.size ∧ ∀ k, cur'[k]? = if o + i ≤ k ∧ k < o + i + vs.length then vs[k - (o + i)]? else cur[k]?
  | [], i, cur, w, hg, _, _, _ => ⟨cur, by rw [setRow_self w g cur t fr hg]; rfl, rfl, fun k => by
      rw [if_neg]; simp only [List.length_nil]; omega⟩
  | v :: rest, i, cur, w, hg, hl, h1, hfz => by
    have hi : o + i < cur.size := by simp at hl; omega
    have hadd : (⟨g, o, none⟩ : Addr).add i = ⟨g, o + i, none⟩ := add_off g o i
    have hcell : w.cell? ⟨g, o + i, none⟩ = some cur[o + i] := by simp [World.cell?, hg, hi]
    have hfro : w.frozen? ⟨g, o + i, none⟩ = false := by
      have := hfz 0 (by simp)
      simp only [World.frozen?, hg]
      simp only [Nat.add_zero] at this
      rw [← Bool.not_eq_true]
      simpa using this
    have hst : (store ((⟨g, o, none⟩ : Addr).add i) v).run P w = .ok () (w.setRow g (cur.setIfInBounds (o + i) v)) := by
      rw [hadd, run_store P w _ v _ (h1 v (by simp)), hcell]
      simp [hfro, setCell_eq_setRow w g (o + i) cur t fr v hg]
    obtain ⟨cur', ih, hs, hk⟩ := run_storeCells g o t fr rest (i + 1) (cur.setIfInBounds (o + i) v) (w.setRow g (cur.setIfInBounds (o + i) v)) (setRow_heap w g cur _ t _ hg) (by simp at hl ⊢; omega) (fun x hx => h1 x (by simp [hx]))
      (fun k hk => by have := hfz (k + 1) (by simpa using hk); rw [show o + (i + 1) + k = o + i + (k + 1) by omega]; exact this)
    refine ⟨cur', ?_, by simpa using hs, fun k => ?_⟩
    · simp only [storeCells, Sem.run_bind, hst, Result.andThen_ok, ih, setRow_setRow]
    · rw [hk k]
      by_cases e : k = o + i
      · subst e
        rw [if_neg (by omega), if_pos (by simp only [List.length_cons]; omega)]
        simp [hi]
      · have h2 : (cur.setIfInBounds (o + i) v)[k]? = cur[k]? := Array.getElem?_setIfInBounds_ne (by omega)
        rw [h2]
        by_cases h3 : o + (i + 1) ≤ k ∧ k < o + (i + 1) + rest.length
        · rw [if_pos h3, if_pos (by simp only [List.length_cons]; omega)]
          rw [show k - (o + i) = (k - (o + (i + 1))) + 1 by omega]
          simp
        · rw [if_neg h3, if_neg (by simp only [List.length_cons]; omega)]

theorem putAll_get : ∀ (vs : List AV) (t : Tree AV) (o : Nat) {t' : Tree AV}, putAll t o vs = some t' →
    (∀ v ∈ vs, oneCell v = true) ∧ ∀ m, t'.get m = if o ≤ m ∧ m < o + vs.length then vs[m - o]? else t.get m
  | [], t, o, t', h => by
    simp [putAll] at h; subst h
    exact ⟨by simp, fun m => by rw [if_neg]; simp only [List.length_nil]; omega⟩
  | v :: vs, t, o, t', h => by
    simp only [putAll] at h
    split at h
    · rename_i hv
      obtain ⟨h1, h2⟩ := putAll_get vs (t.set o v) (o + 1) h
      refine ⟨fun x hx => ?_, fun m => ?_⟩
      · rcases List.mem_cons.1 hx with e | hx
        · rw [e]; exact hv
        · exact h1 x hx
      rw [h2 m, Tree.get_set]
      simp only [List.length_cons]
      by_cases e : m = o
      · subst e; rw [if_neg (by omega), if_pos rfl, if_pos (by omega)]; simp
      · rw [if_neg e]
        by_cases h : o + 1 ≤ m ∧ m < o + 1 + vs.length
        · rw [if_pos h, if_pos (by omega), show m - o = (m - (o + 1)) + 1 by omega]; simp
        · rw [if_neg h, if_neg (by omega)]
    · cases h

theorem ble_iff {a b : Nat} : Nat.ble a b = true ↔ a ≤ b := ⟨Nat.le_of_ble_eq_true, Nat.ble_eq_true_of_le⟩

theorem cellAt_put {t t' : Tree AV} {zs vs : List AV} {n o : Nat} (hp : ∀ m, t'.get m = if o ≤ m ∧ m < o + vs.length then vs[m - o]? else t.get m) (k : Nat) :
    cellAt t' zs n k = if o ≤ k ∧ k < o + vs.length then (if k + 1 ≤ n then vs[k - o]? else none) else cellAt t zs n k := by
  unfold cellAt
  rw [hp k]
  by_cases h : o ≤ k ∧ k < o + vs.length
  · rw [if_pos h, if_pos h]
    have : k - o < vs.length := by omega
    cases hb : Nat.ble (k + 1) n
    · have : ¬ (k + 1 ≤ n) := fun e => by rw [ble_iff.2 e] at hb; cases hb
      rw [if_neg this]
    · rw [if_pos (ble_iff.1 hb)]
      simp [‹k - o < vs.length›]
  · rw [if_neg h, if_neg h]

theorem stores_rel (hw : WRel P base ρ A w) {b o : Nat} {i : Info} {xs : List AV} {vs : List Value} {A' : AW} (hb : ρ b = some i) (hv : LRel ρ xs vs) (h : A.stores b o xs = some A') :
    ∃ w', (∀ off, off = i.sh + o → (storeCells ⟨i.cb, off, none⟩ vs).run P w = .ok () w') ∧ WRel P base ρ A' w' ∧ Step base A.next ρ w ρ w' ∧ A'.next = A.next := by
  unfold AW.stores at h
  split at h
  · rename_i n tree zs opn elem fz hg
    split at h
    · rename_i hn hf
      split at h
      · rename_i tree' htree
        cases h
        obtain ⟨ob, hob, c, fr, rfl, hr⟩ := hw.blk b i _ hb hg
        obtain ⟨hone, hget⟩ := putAll_get _ _ _ htree
        have hn' := ble_iff.1 hn
        have hf' := ble_iff.1 hf
        have hlen := hv.length
        obtain ⟨cur', hrun, hsz, hcur⟩ := run_storeCells (P := P) i.cb (i.sh + o) elem fr vs 0 c w hob (by have := hr.size; omega)
          (by
            intro v hvm
            obtain ⟨j, hj⟩ := List.mem_iff_getElem?.1 hvm
            have hjl : j < xs.length := by
              have := (List.getElem?_eq_some_iff.1 hj).1
              omega
            obtain ⟨u, hu, hrel⟩ := hv.get (n := j) (x := xs[j]) (by simp [hjl])
            rw [hj] at hu; cases hu
            exact oneCell_of hrel (hone _ (List.getElem_mem _)))
          (fun k hk => by
            have := hr.free (o + k) (by omega) (by have := hr.size; omega)
            simpa [Nat.add_assoc] using this)
        refine ⟨w.setRow i.cb cur', fun off e => by rw [e]; exact hrun, ⟨?_, ?_, ?_, ?_, ?_, base.low w _ (fun k hk => setRow_other w i.cb k cur' (fun e => by have := hw.lo b i _ hb hg; omega)) hw.inv⟩, ⟨rfl, rfl, rfl, by simp, ?_, fun _ _ => rfl, fun b i h => .inl ⟨b, i, h, rfl⟩, fun k hk => setRow_other w i.cb k cur' (fun e => by have := hw.lo b i _ hb hg; omega)⟩, rfl⟩
        · intro b' i' hb'; simpa using hw.dom b' i' hb'
        · intro b' i' x hb' hx
          simp only [Tree.get_set] at hx
          by_cases e : b' = b
          · subst e
            rw [if_pos rfl] at hx
            cases hx
            rw [hb] at hb'; cases hb'
            refine ⟨_, setRow_heap w i.cb c cur' elem fr hob, cur', fr, rfl, ⟨by rw [hsz]; exact hr.size, fun k x hk => ?_, fun k hk hs => hr.free k hk (by rw [hsz] at hs; exact hs), fun ho hz => by rw [hsz]; exact hr.mark ho hz, fun ho => by rw [hsz]; exact hr.opn ho, hr.sh0⟩⟩
            rw [cellAt_put hget] at hk
            have hck := hcur (i.sh + k)
            by_cases hin : o ≤ k ∧ k < o + xs.length
            · rw [if_pos hin] at hk
              split at hk
              · rw [if_pos (by omega)] at hck
                obtain ⟨v, hv1, hv2⟩ := hv.get hk
                exact ⟨v, by rw [hck, show i.sh + k - (i.sh + o + 0) = k - o by omega]; exact hv1, hv2⟩
              · cases hk
            · rw [if_neg hin] at hk
              rw [if_neg (by omega)] at hck
              rw [hck]
              exact hr.val k x hk
          · rw [if_neg e] at hx
            obtain ⟨o', ho', hrel⟩ := hw.blk b' i' x hb' hx
            refine ⟨o', ?_, hrel⟩
            rw [setRow_other w i.cb i'.cb cur' (fun he => e (hw.sep _ _ _ _ _ _ hb' hb hx hg he))]
            exact ho'
        · intro b1 b2 i1 i2 x1 x2 h1 h2 g1 g2 he
          simp only [Tree.get_set] at g1 g2
          have e1 : ∃ y1, A.heap.get b1 = some y1 := by
            by_cases e : b1 = b
            · subst e; exact ⟨_, hg⟩
            · rw [if_neg e] at g1; exact ⟨_, g1⟩
          have e2 : ∃ y2, A.heap.get b2 = some y2 := by
            by_cases e : b2 = b
            · subst e; exact ⟨_, hg⟩
            · rw [if_neg e] at g2; exact ⟨_, g2⟩
          obtain ⟨y1, e1⟩ := e1
          obtain ⟨y2, e2⟩ := e2
          exact hw.sep _ _ _ _ _ _ h1 h2 e1 e2 he
        · intro b' x hx
          simp only [Tree.get_set] at hx
          by_cases e : b' = b
          · subst e; exact hw.top _ _ hg
          · rw [if_neg e] at hx; exact hw.top _ _ hx
        · intro b' i' x h1 g1
          simp only [Tree.get_set] at g1
          by_cases e : b' = b
          · subst e; exact hw.lo _ _ _ h1 hg
          · rw [if_neg e] at g1; exact hw.lo _ _ _ h1 g1
        · intro k hk hu
          exact setRow_other w i.cb k cur' (fun e => hu b i hb e.symm)
      · cases h
    · cases h
  · cases h

/-! ### new blocks -/
/-- The renaming with one block more. -/
def Ren.add (ρ : Ren) (b : Nat) (i : Info) : Ren := fun c => if c = b then some i else ρ c

theorem Ren.le_add {ρ : Ren} {b : Nat} {i : Info} (h : ρ b = none) : ρ.le (ρ.add b i) := fun c j hc => by
  unfold Ren.add
  split
  · rename_i e; subst e; rw [h] at hc; cases hc
  · exact hc

theorem WRel.fresh (hw : WRel P base ρ A w) {b : Nat} (hb : A.next ≤ b) : ρ b = none := by
  cases h : ρ b with
  | none => rfl
  | some i => have := (hw.dom b i h).1; omega

/-- A block that is known in the abstract, and is mapped to a new concrete one. -/
theorem push_rel (hw : WRel P base ρ A w) (hbase : base ≤ w.heap.size) {b : Nat} {x : Blk} {ob : Obj} {i : Info} (hi : i.cb = w.heap.size) (hb : ρ b = none) (hlt : b < A.next) (hx : A.heap.get b = some x)
    (hrel : BlkRel P (ρ.add b i) i x ob) : WRel P base (ρ.add b i) A (w.alloc ob) ∧ Step base b ρ w (ρ.add b i) (w.alloc ob) := by
  have hle := Ren.le_add (i := i) hb
  have hadd : ∀ c j, ρ.add b i c = some j → (c = b ∧ j = i) ∨ (c ≠ b ∧ ρ c = some j) := by
    intro c j h
    unfold Ren.add at h
    split at h
    · cases h; exact .inl ⟨‹_›, rfl⟩
    · exact .inr ⟨‹_›, h⟩
  refine ⟨⟨?_, ?_, ?_, hw.top, ?_, base.low w _ (fun c hc => heap_alloc_old w ob c (by omega)) hw.inv⟩, ⟨rfl, rfl, rfl, by simp, ?_, ?_, ?_, fun c hc => heap_alloc_old w ob c (by omega)⟩⟩
  · intro c j h
    rcases hadd c j h with ⟨rfl, rfl⟩ | ⟨_, h⟩
    · exact ⟨hlt, by simp; omega⟩
    · have := hw.dom c j h; simp; omega
  · intro c j y h hy
    rcases hadd c j h with ⟨rfl, rfl⟩ | ⟨_, h⟩
    · rw [hx] at hy; cases hy
      exact ⟨ob, by rw [hi]; exact heap_alloc_new w ob, hrel⟩
    · obtain ⟨o, ho, hr⟩ := hw.blk c j y h hy
      exact ⟨o, by rw [heap_alloc_old w ob j.cb (hw.dom c j h).2]; exact ho, hr.mono hle⟩
  · intro b1 b2 i1 i2 x1 x2 h1 h2 g1 g2 he
    rcases hadd _ _ h1 with ⟨e1, f1⟩ | ⟨_, k1⟩ <;> rcases hadd _ _ h2 with ⟨e2, f2⟩ | ⟨_, k2⟩
    · rw [e1, e2]
    · have := (hw.dom _ _ k2).2; subst f1; omega
    · have := (hw.dom _ _ k1).2; subst f2; omega
    · exact hw.sep _ _ _ _ _ _ k1 k2 g1 g2 he
  · intro c j y h hy
    rcases hadd c j h with ⟨rfl, rfl⟩ | ⟨_, h⟩
    · omega
    · exact hw.lo c j y h hy
  · intro c hc _; exact heap_alloc_old w ob c hc
  · intro c hc; unfold Ren.add; rw [if_neg (by omega)]
  · intro c j h
    rcases hadd c j h with ⟨rfl, rfl⟩ | ⟨_, h⟩
    · exact .inr (by omega)
    · exact .inl ⟨c, j, h, rfl⟩

/-- A new block in the abstract alone. -/
theorem phantom_rel (hw : WRel P base ρ A w) (x : Blk) : WRel P base ρ (A.push x) w := by
  have hg : ∀ b i y, ρ b = some i → (A.push x).heap.get b = some y → A.heap.get b = some y := by
    intro b i y hb hy
    simp only [AW.push, Tree.get_set] at hy
    rwa [if_neg] at hy
    have := (hw.dom b i hb).1; omega
  refine ⟨fun b i h => ?_, fun b i y h hy => hw.blk b i y h (hg b i y h hy), fun b1 b2 i1 i2 x1 x2 h1 h2 g1 g2 => hw.sep _ _ _ _ _ _ h1 h2 (hg _ _ _ h1 g1) (hg _ _ _ h2 g2), fun b y hy => ?_, fun b i y h hy => hw.lo b i y h (hg b i y h hy), hw.inv⟩
  · have := hw.dom b i h; simp only [AW.push]; omega
  · simp only [AW.push, Tree.get_set] at hy ⊢
    split at hy
    · omega
    · have := hw.top b y hy; omega

theorem alloc_rel (hw : WRel P base ρ A w) (hbase : base ≤ w.heap.size) {x : Blk} {ob : Obj} {i : Info} (hi : i.cb = w.heap.size)
    (hrel : BlkRel P (ρ.add A.next i) i x ob) : WRel P base (ρ.add A.next i) (A.push x) (w.alloc ob) ∧ Step base A.next ρ w (ρ.add A.next i) (w.alloc ob) :=
  push_rel (phantom_rel hw x) hbase hi (hw.fresh (Nat.le_refl _)) (by simp [AW.push]) (by simp [AW.push, Tree.get_set]) hrel
end
end Go.Ab
