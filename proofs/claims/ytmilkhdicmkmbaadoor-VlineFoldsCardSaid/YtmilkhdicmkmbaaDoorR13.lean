/- Arguments that were handed in, as abstract values; a law's call, closed. By an AI agent. -/
import Derived.Test.YtmilkhdicmkmbaaDoorR12
import Derived.ChangeShapes
import Derived.OpenShut
import Derived.WideKeyArgs
import GoSem.ClaimJoined
set_option linter.unusedVariables false
set_option linter.unusedSimpArgs false
namespace Go.Ab
open Go Go.RowKit

/-- Memory as it was when the call began: it is only read. -/
def RM.old (base : Base) (w : World) : RM where
  next := base.n
  heap := fun b => if b < base.n then (match w.heap[b]? with | some (.cells c _ _) => some (.ro c) | _ => none) else none
  base := base

def ren0 (n : Nat) : Ren := fun b => if b < n then some ⟨b, 0, 0, 0⟩ else none

theorem mrel_old {P : Program} {base : Base} {w : World} (hn : base.n = w.heap.size) (hi : base.inv w) : MRel P (ren0 base.n) (RM.old base w) w := by
  refine ⟨{ next := base.n, heap := .leaf }, rfl, ⟨fun b i h => ?_, fun b i x _ h => by simp [Tree.get] at h, fun b _ i _ x _ _ _ h => by simp [Tree.get] at h, fun b x h => by simp [Tree.get] at h, fun b i x _ h => by simp [Tree.get] at h, hi⟩, by simp [RM.old, RM.lo, hn], fun b x h => .inr ?_, fun c hc => by have hc' : c < base.n := hc; simp only [ren0]; rw [if_pos hc']⟩
  · simp only [ren0] at h
    split at h <;> first | (cases h; done) | skip
    cases h
    exact ⟨by assumption, by rw [← hn]; assumption⟩
  · simp only [RM.old] at h
    split at h <;> first | (cases h; done) | skip
    rename_i hlt
    split at h <;> first | (cases h; done) | skip
    rename_i c el fr hh
    cases h
    exact ⟨c, rfl, hlt, el, fr, hh⟩

theorem RM.old_cells {base : Base} {w : World} {b : Nat} {c : Array Value} {el : TypeId} {fr : _} (hb : b < base.n) (h : w.heap[b]? = some (.cells c el fr)) : (RM.old base w).cells b = some (c.toList.map (absV base.n)) := by
  simp only [RM.cells, RM.old, if_pos hb, h]

/-- An argument. -/
def absA (lo : Nat) : Value → AV
  | .agg cs => .agg (cs.toList.map (absV lo))
  | v => absV lo v

theorem absL_rel {ρ : Ren} {lo : Nat} (h : ∀ c, c < lo → ρ c = some ⟨c, 0, 0, 0⟩) : ∀ (vs : List Value), LRel ρ (vs.map (absV lo)) vs
  | [] => .nil
  | v :: vs => .cons _ _ _ _ (absV_rel h v) (absL_rel h vs)
theorem absA_rel {ρ : Ren} {lo : Nat} (h : ∀ c, c < lo → ρ c = some ⟨c, 0, 0, 0⟩) (v : Value) : VRel ρ (absA lo v) v := by
  unfold absA
  split
  · exact .agg _ _ (absL_rel h _)
  · exact absV_rel h v
theorem absAs_rel {ρ : Ren} {lo : Nat} (h : ∀ c, c < lo → ρ c = some ⟨c, 0, 0, 0⟩) : ∀ (vs : List Value), LRel ρ (vs.map (absA lo)) vs
  | [] => .nil
  | v :: vs => .cons _ _ _ _ (absA_rel h v) (absAs_rel h vs)

/-- A law that answers true, over memory that is only read, answers true. -/
theorem CallsR.close {P : Program} {f : FuncId} {base : Base} {w : World} {us : Array Value} (hn : base.n = w.heap.size) (hi : base.inv w)
    (h : CallsR P f (us.toList.map (absA base.n)) (RM.old base w) fun v _ => v = Bo true) :
    Calls P f us w fun e w' => e = .returned (.bool true) ∧ Below w.heap.size w w' := by
  have hr := mrel_old (P := P) hn hi
  refine ((h.2 (ren0 base.n) w us.toList (absAs_rel (fun c hc => by simp only [ren0]; rw [if_pos hc]) _) hr)).mono fun e w' hR => ?_
  obtain ⟨v', v, M', ρ', rfl, k1, k2, rfl⟩ := hR
  obtain ⟨rfl, _⟩ := sc_inv k2
  refine ⟨rfl, k1.step.os, k1.step.tape, k1.step.output, k1.step.size, fun k hk => k1.step.low k ?_⟩
  show k < base.n
  rw [hn]; exact hk

/-! ### what is handed in is as its type says -/
def otherT : Option TypeDesc → Bool
  | some .bool | some (.int _) | some .string | some (.slice _) | some (.struct _) | some (.array _ _) => false
  | _ => true

/-- Cells of a type, in memory that is read. -/
inductive Fits (P : Program) (M : RM) : TypeId → List AV → Prop
  | bool (t : TypeId) (b : Bool) : P.underlying t = some .bool → Fits P M t [Bo b]
  | int (t : TypeId) (k : IntKind) (n : Int) : P.underlying t = some (.int k) → k.min ≤ n → n ≤ k.max → Fits P M t [N k n]
  | str (t : TypeId) (s : List UInt8) : P.underlying t = some .string → s.length ≤ reachBytes → Fits P M t [St s]
  | nils (t e : TypeId) : P.underlying t = some (.slice e) → Fits P M t [nilS]
  | emp (t e : TypeId) (b : Nat) : P.underlying t = some (.slice e) → Fits P M t [.emp b]
  | slc (t e : TypeId) (b o n c : Nat) (cs : List AV) : P.underlying t = some (.slice e) → b < M.next → n ≤ c → c * P.bytesOf e ≤ reachBytes → M.loads b o (n * P.cellsOf e) = some cs →
      (∀ i, i < n → Fits P M e ((cs.drop (i * P.cellsOf e)).take (P.cellsOf e))) → Fits P M t [.slc b o n (.ex c)]
  | struct (t : TypeId) (fs : Array Field) (cs : List AV) : P.underlying t = some (.struct fs) → cs.length = P.cellsOf t →
      (∀ (i : Nat) (f : Field), fs[i]? = some f → Fits P M f.type ((cs.drop f.offset).take (P.cellsOf f.type))) → Fits P M t cs
  | array (t e : TypeId) (n : Nat) (cs : List AV) : P.underlying t = some (.array n e) → cs.length = P.cellsOf t →
      (∀ i, i < n → Fits P M e ((cs.drop (i * P.cellsOf e)).take (P.cellsOf e))) → Fits P M t cs
  | other (t : TypeId) (cs : List AV) : otherT (P.underlying t) = true → Fits P M t cs
  | zero (t e : TypeId) (cs : List AV) : P.underlying t = some (.slice e) → P.cellsOf e = 0 → Fits P M t cs

theorem addr_add_zero (a : Addr) : a.add 0 = a := by simp [Addr.add]

theorem cells?_get {w : World} {base : Nat} {a : Addr} {n : Nat} {cs : List Value} (h : w.cells? base a n = some cs) : cs.length = n ∧ ∀ i, i < n → w.cell? (a.add i) = cs[i]? := by
  unfold World.cells? at h
  split at h
  · exact ⟨by simpa using mapM_some_length h, fun i hi => mapM_some_get h i i (by simp [hi])⟩
  · cases h

theorem cell?_at {w : World} {a : Addr} {v : Value} (h : w.cell? a = some v) : ∃ c el fr, w.heap[a.block]? = some (.cells c el fr) ∧ a.spot = none ∧ a.off < c.size ∧ c[a.off]? = some v := by
  unfold World.cell? at h
  split at h
  · rename_i c el fr hh
    split at h
    · cases h
    · rename_i hs
      exact ⟨c, el, fr, hh, by simpa using hs, (Array.getElem?_eq_some_iff.1 h).1, h⟩
  · cases h

section
variable {H : Type} {enc : TypeId × Value → H} {P : Program} {base : Base} {w : World}

theorem mem_weightsAll {e : TypeId} {ds : List (DataW H)} {d : DataW H} (hd : d ∈ ds) {x : Nat} (hx : x ∈ d.weights P e) : x ∈ DataW.weightsAll P e ds := by
  induction ds with
  | nil => cases hd
  | cons y ys ih =>
    simp only [DataW.weightsAll, List.mem_append]
    rcases List.mem_cons.1 hd with rfl | hd
    · exact .inl hx
    · exact .inr (ih hd)
theorem mem_weightsEach {x : Nat} : ∀ (ts : List TypeId) (ds : List (DataW H)) (i : Nat) (t : TypeId) (d : DataW H), ts[i]? = some t → ds[i]? = some d → x ∈ d.weights P t → x ∈ DataW.weightsEach P ts ds
  | [], _, _, _, _, h, _, _ => by simp at h
  | _ :: _, [], _, _, _, _, h, _ => by simp at h
  | t :: ts, d :: ds, 0, t', d', h, h', hx => by
    simp at h h'; subst h h'
    simp only [DataW.weightsEach, List.mem_append]; exact .inl hx
  | t :: ts, d :: ds, i + 1, t', d', h, h', hx => by
    simp only [DataW.weightsEach, List.mem_append]
    exact .inr (mem_weightsEach ts ds i t' d' (by simpa using h) (by simpa using h') hx)

theorem fits_of_trod (hn : base.n = w.heap.size) {held : Bool} : ∀ (fuel : Nat) (t : TypeId) (cs : List Value) (x : DataW H × List MemPlace), DataW.trod enc P w 0 (fun _ => true) held fuel t cs = some x →
    (∀ y ∈ x.1.weights P t, y ≤ reachBytes) → Fits P (RM.old base w) t (cs.map (absV base.n)) := by
  intro fuel
  induction fuel with
  | zero => intro t cs x h; simp [DataW.trod] at h
  | succ m ih =>
    intro t cs x h hw
    cases hu : P.underlying t with
    | none => exact .other _ _ (by rw [hu]; rfl)
    | some d =>
      cases d with
      | bool =>
        obtain ⟨b, rfl, rfl⟩ := DataW.trod_bool hu h
        exact .bool t b hu
      | int k =>
        obtain ⟨n, rfl, rfl, hwf⟩ := DataW.trod_int hu h
        simp only [Lit.wf, Bool.and_eq_true, decide_eq_true_eq] at hwf
        exact .int t k n hu hwf.1 hwf.2
      | string =>
        obtain ⟨s, rfl, rfl, _⟩ := DataW.trod_string hu h
        exact .str t s.data.toList hu (hw _ (by simp [DataW.weights]))
      | slice e =>
        rcases DataW.trod_slice hu h with ⟨rfl, rfl⟩ | ⟨a, len, cap, elems, rest, n, hm, rfl, rfl, _, hlc, _, hel, hget, hrest, _⟩
        · exact .nils t e hu
        · cases hm
          rcases Nat.eq_zero_or_pos (P.cellsOf e) with hz | hz
          · exact .zero t e _ hu hz
          rcases Nat.eq_zero_or_pos cap with hc | hc
          · have hl0 : len = 0 := by omega
            subst hc hl0
            exact .emp t e 0 hu
          · obtain ⟨hr1, hr2⟩ := hrest rfl
            have every : ∀ i, i < cap → ∃ es y, w.cells? 0 (a.add (i * P.cellsOf e)) (P.cellsOf e) = some es ∧ DataW.trod enc P w 0 (fun _ => true) held m e es = some y ∧ (y ∈ elems ∨ y ∈ rest) := by
              intro i hi
              by_cases hil : i < len
              · have h1 := hget i hil
                have h2 : elems[i]? = some (elems[i]'(by omega)) := by simp [hel, hil]
                rw [h2] at h1
                obtain ⟨es, e1, e2⟩ := Option.bind_eq_some_iff.1 h1
                exact ⟨es, _, e1, e2, .inl (List.getElem_mem _)⟩
              · have h1 := hr2 (i - len) (by omega)
                rw [show len + (i - len) = i by omega] at h1
                have h2 : rest[i - len]? = some (rest[i - len]'(by omega)) := by
                  rw [List.getElem?_eq_getElem]
                rw [h2] at h1
                obtain ⟨es, e1, e2⟩ := Option.bind_eq_some_iff.1 h1
                exact ⟨es, _, e1, e2, .inr (List.getElem_mem _)⟩
            obtain ⟨es0, _, k0, _, _⟩ := every 0 hc
            obtain ⟨kl0, kg0⟩ := cells?_get k0
            have hc0 := kg0 0 hz
            rw [List.getElem?_eq_getElem (by omega)] at hc0
            obtain ⟨c, el, fr, hh, hsp, _, _⟩ := cell?_at hc0
            obtain ⟨b, o, sp⟩ := a
            rw [Nat.zero_mul, addr_add_zero, addr_add_zero] at hh hsp
            simp only at hh hsp
            subst hsp
            have hblt : b < base.n := by rw [hn]; exact (Array.getElem?_eq_some_iff.1 hh).1
            have hlast : o + cap * P.cellsOf e ≤ c.size := by
              obtain ⟨es1, _, k1, _, _⟩ := every (cap - 1) (by omega)
              obtain ⟨kl1, kg1⟩ := cells?_get k1
              have hc1 := kg1 (P.cellsOf e - 1) (by omega)
              rw [List.getElem?_eq_getElem (by omega)] at hc1
              obtain ⟨c', el', fr', hh', _, hlt, _⟩ := cell?_at hc1
              rw [add_off, add_off] at hh' hlt
              simp only at hh' hlt
              rw [hh] at hh'
              cases hh'
              have : cap * P.cellsOf e = (cap - 1) * P.cellsOf e + P.cellsOf e := by
                rw [← Nat.succ_mul]; congr 1; omega
              omega
            have habs : absV base.n (.slice (some ⟨b, o, none⟩) len cap) = .slc b o len (.ex cap) := by
              obtain ⟨cap, rfl⟩ : ∃ k, cap = k + 1 := ⟨cap - 1, by omega⟩
              simp only [absV, if_pos hblt]
            have hcells := RM.old_cells hblt hh
            have hle : len * P.cellsOf e ≤ cap * P.cellsOf e := Nat.mul_le_mul_right _ hlc
            have hload : (RM.old base w).loads b o (len * P.cellsOf e) = some (((c.toList.map (absV base.n)).drop o).take (len * P.cellsOf e)) := by
              simp only [RM.loads, hcells]
              rw [if_pos (by simp; omega)]
            simp only [List.map_cons, List.map_nil, habs]
            refine .slc t e b o len cap _ hu hblt hlc ?_ hload fun i hi => ?_
            · have := hw ((elems.length + rest.length) * P.bytesOf e) (by simp [DataW.weights, hu])
              rwa [hel, hr1, show len + (cap - len) = cap by omega] at this
            · obtain ⟨es, y, k1, k2, k3⟩ := every i (by omega)
              have hlen := (cells?_get k1).1
              have hes : ((((c.toList.map (absV base.n)).drop o).take (len * P.cellsOf e)).drop (i * P.cellsOf e)).take (P.cellsOf e) = es.map (absV base.n) := by
                have hii : i * P.cellsOf e + P.cellsOf e ≤ len * P.cellsOf e := by rw [← Nat.succ_mul]; exact Nat.mul_le_mul_right _ hi
                apply List.ext_getElem?
                intro j
                by_cases hj : j < P.cellsOf e
                · have hg := (cells?_get k1).2 j hj
                  rw [List.getElem?_take, if_pos hj, List.getElem?_drop, List.getElem?_take, if_pos (by omega), List.getElem?_drop, List.getElem?_map, List.getElem?_map, ← hg]
                  rw [add_off, add_off]
                  simp only [World.cell?, hh]
                  rw [Array.getElem?_toList]
                  simp [Nat.add_assoc]
                · rw [List.getElem?_eq_none (by simp; omega), List.getElem?_eq_none (by simp; omega)]
              rw [hes]
              refine ih e es y k2 fun z hz => hw z ?_
              simp only [DataW.weights, hu, List.mem_cons, List.mem_append]
              rcases k3 with k3 | k3
              · exact .inr (.inl (mem_weightsAll (List.mem_map_of_mem k3) hz))
              · exact .inr (.inr (mem_weightsAll (List.mem_map_of_mem k3) hz))
      | struct fs =>
        obtain ⟨xs, n, hm, rfl, hl, hxl, hget⟩ := DataW.trod_struct hu h
        cases hm
        refine .struct t fs _ hu (by simpa using hl) fun i f hf => ?_
        have h1 := hget i f hf
        have hi : i < fs.size := (Array.getElem?_eq_some_iff.1 hf).1
        rw [List.getElem?_eq_getElem (by omega)] at h1
        rw [← List.map_drop, ← List.map_take]
        refine ih _ _ _ h1 fun z hz => hw z ?_
        simp only [DataW.weights, hu]
        refine mem_weightsEach _ _ i f.type _ (by simp [hf]) (by rw [List.getElem?_map, List.getElem?_eq_getElem (by omega)]; rfl) hz
      | array n e =>
        obtain ⟨xs, m', hm, rfl, hl, hxl, hget⟩ := DataW.trod_array hu h
        cases hm
        refine .array t e n _ hu (by simpa using hl) fun i hi => ?_
        have h1 := hget i hi
        rw [List.getElem?_eq_getElem (by omega)] at h1
        rw [← List.map_drop, ← List.map_take]
        refine ih _ _ _ h1 fun z hz => hw z ?_
        simp only [DataW.weights, hu]
        exact mem_weightsAll (List.mem_map_of_mem (List.getElem_mem _)) hz
      | _ => exact .other _ _ (by rw [hu]; rfl)
end

/-! ### taken apart -/
section
variable {P : Program} {M : RM} {t : TypeId} {cs : List AV}
theorem Fits.bool_inv (h : Fits P M t cs) (hu : P.underlying t = some .bool) : ∃ b, cs = [Bo b] := by
  cases h <;> simp_all [otherT]
theorem Fits.int_inv (h : Fits P M t cs) {k : IntKind} (hu : P.underlying t = some (.int k)) : ∃ n : Int, cs = [N k n] ∧ k.min ≤ n ∧ n ≤ k.max := by
  cases h with
  | int _ k' n h1 h2 h3 => rw [hu] at h1; cases h1; exact ⟨n, rfl, h2, h3⟩
  | _ => simp_all [otherT]
theorem Fits.str_inv (h : Fits P M t cs) (hu : P.underlying t = some .string) : ∃ s, cs = [St s] ∧ s.length ≤ reachBytes := by
  cases h with
  | str _ s h1 h2 => exact ⟨s, rfl, h2⟩
  | _ => simp_all [otherT]
theorem Fits.struct_inv (h : Fits P M t cs) {fs : Array Field} (hu : P.underlying t = some (.struct fs)) : cs.length = P.cellsOf t ∧ ∀ (i : Nat) (f : Field), fs[i]? = some f → Fits P M f.type ((cs.drop f.offset).take (P.cellsOf f.type)) := by
  cases h with
  | struct _ fs' _ h1 h2 h3 => rw [hu] at h1; cases h1; exact ⟨h2, h3⟩
  | _ => simp_all [otherT]
theorem Fits.slice_inv (h : Fits P M t cs) {e : TypeId} (hu : P.underlying t = some (.slice e)) (hz : 0 < P.cellsOf e) :
    ∃ v n ds, cs = [v] ∧ SlR M (P.cellsOf e) v ds n ∧ n * P.bytesOf e ≤ reachBytes ∧ ∀ i, i < n → Fits P M e ((ds.drop (i * P.cellsOf e)).take (P.cellsOf e)) := by
  cases h with
  | nils _ e' h1 => exact ⟨_, 0, [], rfl, .nil, by simp, fun i hi => absurd hi (by omega)⟩
  | emp _ e' b h1 => exact ⟨_, 0, [], rfl, .emp b, by simp, fun i hi => absurd hi (by omega)⟩
  | slc _ e' b o n c ds h1 h2 h3 h4 h5 h6 =>
    rw [hu] at h1; cases h1
    exact ⟨_, n, ds, rfl, .slc b o n _ ds h2 h5, Nat.le_trans (Nat.mul_le_mul_right _ h3) h4, h6⟩
  | zero _ e' _ h1 h2 => rw [hu] at h1; cases h1; omega
  | _ => simp_all [otherT]

/-- A row of elements, each of which is some datum's cells. -/
theorem chunks_of {α : Type} {size : Nat} (enc : α → List AV) (p : α → Prop) (hs : ∀ a, (enc a).length = size) : ∀ (n : Nat) (ds : List AV), ds.length = n * size → (∀ i, i < n → ∃ a, p a ∧ (ds.drop (i * size)).take size = enc a) →
    ∃ xs : List α, xs.length = n ∧ ds = xs.flatMap enc ∧ ∀ x ∈ xs, p x
  | 0, ds, hl, _ => ⟨[], rfl, by simpa using hl, by simp⟩
  | n + 1, ds, hl, h => by
    obtain ⟨a, pa, ha⟩ := h 0 (by omega)
    simp only [Nat.zero_mul, List.drop_zero] at ha
    have hl' : (ds.drop size).length = n * size := by rw [List.length_drop, hl, Nat.succ_mul]; omega
    obtain ⟨xs, h1, h2, h3⟩ := chunks_of enc p hs n (ds.drop size) hl' fun i hi => by
      obtain ⟨b, pb, hb⟩ := h (i + 1) (by omega)
      refine ⟨b, pb, ?_⟩
      rw [List.drop_drop, ← hb, Nat.succ_mul, Nat.add_comm]
    refine ⟨a :: xs, by simp [h1], ?_, fun x hx => ?_⟩
    · rw [List.flatMap_cons, ← h2, ← ha, List.take_append_drop]
    · rcases List.mem_cons.1 hx with rfl | hx
      · exact pa
      · exact h3 x hx
end

/-! ### all arguments of a law -/
def aggT (P : Program) (t : TypeId) : Bool :=
  match P.underlying t with
  | some (.struct _) | some (.array _ _) => true
  | _ => false
/-- An argument is as its type says. -/
def FitsA (P : Program) (M : RM) (t : TypeId) (v : AV) : Prop :=
  match aggT P t with
  | true => ∃ cs, v = .agg cs ∧ Fits P M t cs
  | false => Fits P M t [v]

theorem FitsA.agg {P : Program} {M : RM} {t : TypeId} {v : AV} (h : FitsA P M t v) (ha : aggT P t = true) : ∃ cs, v = .agg cs ∧ Fits P M t cs := by
  unfold FitsA at h; rw [ha] at h; exact h
theorem FitsA.one {P : Program} {M : RM} {t : TypeId} {v : AV} (h : FitsA P M t v) (ha : aggT P t = false) : Fits P M t [v] := by
  unfold FitsA at h; rw [ha] at h; exact h

section
variable {H : Type} {enc : TypeId × Value → H} {P : Program} {base : Base} {w : World}
theorem cell_not_agg {r : Reach} {b : Nat} {t : TypeId} {cs : Array Value} (h : Cell.okWide P w r b t (.agg cs)) : False := by
  unfold Cell.okWide at h
  split at h <;> first | (rename_i e _; cases e; done) | skip
  all_goals first | (rename_i e; cases e; done) | skip
  unfold Cell.ok at h
  split at h <;> first | exact h | simp_all

theorem fits_arg (hn : base.n = w.heap.size) {r : Reach} {b : Nat} {held : Bool} {t : TypeId} {v : Value} {d : DataW H} {ps : List MemPlace} (hv : Value.okWide P w r b t v) (h : DataW.Trod enc P w 0 (fun _ => true) held t v d ps)
    (hw : ∀ y ∈ d.weights P t, y ≤ reachBytes) : FitsA P (RM.old base w) t (absA base.n v) := by
  obtain ⟨fuel, hf⟩ := h
  have hfit := fits_of_trod hn fuel t _ _ hf hw
  unfold FitsA
  cases ha : aggT P t with
  | true =>
    have : ∃ cs, v = .agg cs := by
      unfold Value.okWide at hv
      unfold aggT at ha
      split at hv
      · obtain ⟨cs, h, _⟩ := hv; exact ⟨cs, h⟩
      · obtain ⟨cs, h, _⟩ := hv; exact ⟨cs, h⟩
      · split at ha <;> simp_all
    obtain ⟨cs, rfl⟩ := this
    exact ⟨_, rfl, hfit⟩
  | false =>
    have hc : Cell.okWide P w r b t v := by
      unfold Value.okWide at hv
      unfold aggT at ha
      split at hv
      · simp_all
      · simp_all
      · exact hv
    have : v.cells.toList = [v] ∧ absA base.n v = absV base.n v := by
      cases v with
      | agg cs => exact (cell_not_agg hc).elim
      | _ => exact ⟨rfl, rfl⟩
    rw [this.1] at hfit
    rw [this.2]
    exact hfit

theorem fits_all (hn : base.n = w.heap.size) {r : Reach} {b : Nat} {held : Bool} : ∀ {ts : List TypeId} {vs : List Value} {ds : List (DataW H)} {ps : List MemPlace}, DataW.TrodAll enc P w 0 (fun _ => true) held ts vs ds ps →
    (∀ (j : Nat) t v, ts[j]? = some t → vs[j]? = some v → Value.okWide P w r b t v) → (∀ y ∈ DataW.weightsEach P ts ds, y ≤ reachBytes) →
    ∀ (j : Nat) t v, ts[j]? = some t → vs[j]? = some v → FitsA P (RM.old base w) t (absA base.n v)
  | [], _, _, _, _, _, _, j, t, v, h, _ => by simp at h
  | t0 :: ts, vs, ds, ps, h, hv, hw, j, t, v, hj, hvj => by
    cases vs with
    | nil => simp at hvj
    | cons v0 vs =>
    cases ds with
    | nil => exact h.elim
    | cons d ds =>
    obtain ⟨p, q, h1, h2, _⟩ := h
    cases j with
    | zero =>
      simp at hj hvj; subst hj hvj
      exact fits_arg hn (hv 0 _ _ rfl rfl) h1 fun y hy => hw y (by simp [DataW.weightsEach, hy])
    | succ j =>
      exact fits_all hn h2 (fun j t v a b => hv (j + 1) t v (by simpa using a) (by simpa using b)) (fun y hy => hw y (by simp [DataW.weightsEach, hy])) j t v (by simpa using hj) (by simpa using hvj)

/-- Behind a call that leaves old memory as it was, the arguments read as they did. -/
theorem trodAll_stays (hl : laidOutB P = true) {W W' : World} {sp : Nat → Bool} (hb : Below W.heap.size W W') : ∀ {ts : List TypeId} {vs : List Value} {ds : List (DataW H)} {ps : List MemPlace},
    (∀ t ∈ ts, P.readableRec t = true ∧ t < P.types.size) → DataW.TrodAll enc P W 0 (fun _ => true) true ts vs ds ps → (∀ p ∈ ps, p.block < W.heap.size) → (∀ p ∈ ps, sp p.block = true) → DataW.TrodAll enc P W' 0 sp true ts vs ds ps
  | [], vs, ds, ps, _, h, _, _ => by
    cases vs <;> cases ds <;> first | exact h | exact h.elim
  | t :: ts, vs, ds, ps, hr, h, hlt, hsp => by
    cases vs with
    | nil => cases ds <;> exact h.elim
    | cons v vs =>
    cases ds with
    | nil => exact h.elim
    | cons d ds =>
    obtain ⟨p, q, h1, h2, rfl⟩ := h
    have hrt := hr t (List.mem_cons_self ..)
    exact ⟨p, q, WideElems.Trod_stays hl hrt.1 hrt.2 h1 (fun x hx => hb.same (hlt x (List.mem_append_left _ hx))) (fun x hx => hsp x (List.mem_append_left _ hx)),
      trodAll_stays hl hb (fun t ht => hr t (List.mem_cons_of_mem _ ht)) h2 (fun x hx => hlt x (List.mem_append_right _ hx)) (fun x hx => hsp x (List.mem_append_right _ hx)), rfl⟩
end
end Go.Ab
