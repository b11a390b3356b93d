/- Operations that read memory or make a block are sound. By an AI agent. -/
import Derived.Test.YtmilkhdicmkmbaaDoorAb7
import Derived.Laws.MakeOwn
import Derived.Laws.IdiomStrings
import Derived.Laws.BytesArg
set_option linter.unusedVariables false
set_option linter.unusedSimpArgs false
namespace Go.Ab
open Go Go.RowKit

section
variable {P : Program} {ρ : Ren} {o : Oper} {e : Operand → AV} {c : Operand → Value} {v : AV}

/-- The operation gives a value like 'v' in that world. -/
def GivesIn (P : Program) (ρ : Ren) (w : World) (o : Oper) (c : Operand → Value) (v : AV) : Prop :=
  ∃ v', (execOp c o).run P w = .ok (.value v') w ∧ VRel ρ v v'

theorem Gives.at {w : World} (h : Gives P ρ o c v) : GivesIn P ρ w o c v := let ⟨v', a, b⟩ := h; ⟨v', a w, b⟩

theorem bytesOf_rel : ∀ {xs : List AV} {us : List Value} {l : List UInt8}, LRel ρ xs us → mapO byteOf xs = some l → ∃ ns : List Int, us = ns.map (Value.int .u8) ∧ l = ns.map fun n => UInt8.ofNat n.toNat
  | [], _, l, h, hm => by
    simp [mapO] at hm; subst hm
    exact ⟨[], by simp [h.nil_inv], rfl⟩
  | x :: xs, _, l, .cons _ u _ us a b, hm => by
    simp only [mapO] at hm
    split at hm
    · rename_i y hy
      split at hm
      · rename_i ys hys
        cases hm
        obtain ⟨ns, rfl, rfl⟩ := bytesOf_rel b hys
        unfold byteOf at hy
        split at hy
        · rename_i n
          cases hy
          exact ⟨n :: ns, by simp [(sc_inv a).1], rfl⟩
        · cases hy
      · cases hm
    · cases hm

theorem slcO_inv {b p len esz : Nat} {u : Value} (h : VRel ρ (.slc b p len (.op esz)) u) :
    ∃ k i, ρ b = some i ∧ p = k * i.esz ∧ esz = i.esz ∧ k + len ≤ i.capN ∧ u = .slice (some ⟨i.cb, i.sh + k * i.esz, none⟩) len (i.capN - k) := by
  cases h with
  | slcO _ k _ i hb hk => exact ⟨k, i, hb, rfl, rfl, hk, rfl⟩

theorem rowAt_mono (fits : TypeId → Bool) {d e count count' off n : Nat} (hc : count ≤ count') (h : rowAt P fits d e count off n = true) : rowAt P fits d e count' off n = true := by
  cases d with
  | zero => simp [rowAt] at h
  | succ d =>
    simp only [rowAt] at h ⊢
    split
    · rename_i h0; rw [if_pos h0] at h; exact h
    · rename_i h0
      rw [if_neg h0] at h
      rw [Bool.or_eq_true, Bool.and_eq_true, Bool.and_eq_true, Bool.and_eq_true, decide_eq_true_iff, decide_eq_true_iff] at h ⊢
      rcases h with ⟨⟨h1, h2⟩, h3⟩ | ⟨h1, h2⟩
      · exact .inl ⟨⟨h1, by omega⟩, h3⟩
      · exact .inr ⟨by omega, h2⟩

theorem liesAt_mono : ∀ {d e count count' off u n : Nat}, count ≤ count' → liesAt P d e count off u n = true → liesAt P d e count' off u n = true
  | 0, _, _, _, _, _, _, _, h => by simp [liesAt] at h
  | d + 1, e, count, count', off, u, n, hc, h => by
    simp only [liesAt] at h ⊢
    rw [Bool.or_eq_true] at h ⊢
    rcases h with h | h
    · exact .inl (rowAt_mono _ hc h)
    · refine .inr ?_
      split at h
      · exact liesAt_mono hc h
      · cases h

theorem shape_run {r : Nat} {c : Array Value} {elem : TypeId} {fr : Nat × Nat} {w : World} (h : w.heap[r]? = some (.cells c elem fr)) : (shape r).run P w = .ok (some (elem, c.size)) w := by
  simp [shape, Sem.run, World.shape?, h]

theorem seenAt_run {a : Addr} {c : Array Value} {elem : TypeId} {fr : Nat × Nat} {w : World} (h : w.heap[a.block]? = some (.cells c elem fr)) : (Conv.seenAt a).run P w = .ok a w := by
  simp [Conv.seenAt, viewAt, Sem.run_bind, shape_run h]

theorem variablesAt_run {a : Addr} {c : Array Value} {elem : TypeId} {fr : Nat × Nat} {w : World} {u n count : Nat} (h : w.heap[a.block]? = some (.cells c elem fr)) (hc : count ≤ c.size / P.cellsOf elem)
    (hl : liesAt P P.depth elem count a.off u n = true) : (variablesAt a u n).run P w = .ok true w := by
  simp only [variablesAt, Sem.run_bind, run_program, Result.andThen_ok, shape_run h, Sem.run_pure, liesAt_mono hc hl]

/-! ### maps -/
def FRel (ρ : Ren) : Option (Nat × AV) → Option (Nat × Value) → Prop
  | none, none => True
  | some (j, x), some (j', v) => j' = j ∧ VRel ρ x v
  | _, _ => False

theorem bytes_beq (a b : ByteArray) : (a == b) = bytesEq a.data.toList b.data.toList := by
  rw [bytesEq_iff]
  cases a with | mk a => cases b with | mk b =>
  show (a == b) = _
  rw [Bool.eq_iff_iff]; simp

theorem keyNow_eq {d : TypeDesc} {x y : Value} : keyNow d x y = Instr.sameNow d x y := by
  unfold keyNow
  split
  · rename_i a b
    simp only [Instr.sameNow]
    rw [bytes_beq]
  · rfl

theorem findA_sound {ρ : Ren} {d : TypeDesc} {k : Value} : ∀ {es : List (AV × AV × Nat)} {fs : List MapEntry} {i : Nat} {r : Option (Nat × AV)}, EntRel ρ es fs → findA d k es i = some r → ∃ r', Instr.findNow d k fs i = some r' ∧ FRel ρ r r'
  | [], [], i, r, _, h => by
    simp [findA] at h; subst h
    exact ⟨none, rfl, trivial⟩
  | [], _ :: _, _, _, h, _ => h.elim
  | _ :: _, [], _, _, h, _ => h.elim
  | (ka, va, n) :: es, f :: fs, i, r, ⟨h1, h2, h3, h4⟩, h => by
    simp only [findA] at h
    split at h <;> first | (cases h; done) | skip
    rename_i kv hkv
    have hk := toVal_rel h1 hkv
    simp only [Instr.findNow]
    rw [hk, ← keyNow_eq]
    split at h <;> first | (cases h; done) | skip
    · rename_i hn
      cases h
      rw [hn]
      exact ⟨_, rfl, rfl, h2⟩
    · rename_i hn
      rw [hn]
      exact findA_sound h4 h

theorem findS_sound {P : Program} {ρ : Ren} {kt : TypeId} {k : Value} {w : World} : ∀ {es : List (AV × AV × Nat)} {fs : List MapEntry} {i : Nat} {r : Option (Nat × AV)}, EntRel ρ es fs → findS P kt k es i = some r → ∃ r', (Instr.findAsking kt k fs i).run P w = .ok r' w ∧ FRel ρ r r'
  | [], [], i, r, _, h => by
    simp [findS] at h; subst h
    exact ⟨none, rfl, trivial⟩
  | [], _ :: _, _, _, h, _ => h.elim
  | _ :: _, [], _, _, h, _ => h.elim
  | (ka, va, n) :: es, f :: fs, i, r, ⟨h1, h2, h3, h4⟩, h => by
    simp only [findS] at h
    split at h <;> first | (cases h; done) | skip
    rename_i kv hkv
    have hk := toVal_rel h1 hkv
    simp only [Instr.findAsking]
    split at h <;> first | (cases h; done) | skip
    · rename_i hn
      cases h
      refine ⟨some (i, f.val), ?_, rfl, h2⟩
      rw [hk, Sem.run_bind, pureRun_run hn w, Result.andThen_ok]
      rfl
    · rename_i hn
      obtain ⟨r', hr, hf⟩ := findS_sound (w := w) h4 h
      refine ⟨r', ?_, hf⟩
      rw [hk, Sem.run_bind, pureRun_run hn w, Result.andThen_ok]
      exact hr

theorem findKeyA_sound {P : Program} {ρ : Ren} {kt : TypeId} {k : Value} {w : World} {es : List (AV × AV × Nat)} {fs : List MapEntry} {r : Option (Nat × AV)} (he : EntRel ρ es fs) (h : findKeyA P kt k es = some r) :
    ∃ r', (Instr.findKey kt k fs).run P w = .ok r' w ∧ FRel ρ r r' := by
  unfold findKeyA at h
  split at h <;> first | (cases h; done) | skip
  rename_i d hd
  split at h
  · rename_i r0 hr
    cases h
    obtain ⟨r', h1, h2⟩ := findA_sound he hr
    refine ⟨r', ?_, h2⟩
    simp only [Instr.findKey, Sem.run_bind, run_underlying hd, Result.andThen_ok, h1]
    rfl
  · split at h <;> first | (cases h; done) | skip
    rename_i ka va n es'
    split at h <;> first | (cases h; done) | skip
    rename_i kv hkv
    split at h <;> first | (cases h; done) | skip
    rename_i hkn
    obtain ⟨r', h1, h2⟩ := findS_sound (w := w) he h
    refine ⟨r', ?_, h2⟩
    cases fs with
    | nil => exact he.elim
    | cons f fs =>
      have hk := toVal_rel he.1 hkv
      have hnow : Instr.findNow d k (f :: fs) 0 = none := by
        simp only [Instr.findNow]
        rw [hk, ← keyNow_eq, hkn]
      simp only [Instr.findKey, Sem.run_bind, run_underlying hd, Result.andThen_ok, hnow]
      exact h1

theorem mapOf_sound {P : Program} {ρ : Ren} {base : Base} {A : AW} {w : World} (hw : WRel P base ρ A w) {x : AV} {u : Value} (hx : VRel ρ x u) {es : List (AV × AV × Nat)} (h : mapOf A x = some es) :
    ∃ fs : Array MapEntry, EntRel ρ es fs.toList ∧ ((u = .map none ∧ fs = #[]) ∨ ∃ r clock, u = .map (some r) ∧ w.heap[r]? = some (.map fs clock)) := by
  unfold mapOf at h
  split at h <;> first | (cases h; done) | skip
  · rename_i b
    split at h <;> first | (cases h; done) | skip
    rename_i es' clock hg
    cases h
    cases hx with
    | map _ i hb =>
      obtain ⟨ob, hob, fs, rfl, hrel⟩ := hw.blk b i _ hb hg
      exact ⟨fs, hrel, .inr ⟨i.cb, clock, rfl, hob⟩⟩
  · cases h
    obtain ⟨rfl, _⟩ := sc_inv hx
    exact ⟨#[], trivial, .inl ⟨rfl, rfl⟩⟩

theorem EntRel.length {ρ : Ren} : ∀ {es : List (AV × AV × Nat)} {fs : List MapEntry}, EntRel ρ es fs → es.length = fs.length
  | [], [], _ => rfl
  | _ :: _, _ :: _, ⟨_, _, _, h⟩ => by simp [EntRel.length h]
  | [], _ :: _, h => h.elim
  | _ :: _, [], h => h.elim

theorem EntRel.empty {ρ : Ren} {es : List (AV × AV × Nat)} {fs : Array MapEntry} (h : EntRel ρ es fs.toList) : nilL es = fs.isEmpty := by
  obtain ⟨fs⟩ := fs
  cases es <;> cases fs <;> first | exact h.elim | rfl

theorem lookup_run {P : Program} {ρ : Ren} {base : Base} {A : AW} {w : World} (hw : WRel P base ρ A w) {x : AV} {u kv : Value} (hx : VRel ρ x u) {t kt et : TypeId} (hu : P.underlying t = some (.map kt et)) {es : List (AV × AV × Nat)} (hes : mapOf A x = some es)
    (hc : pureRun P (Instr.checkKey (nilL es) 10000 kt kv) = some ()) {r : Option (Nat × AV)} (hf : findKeyA P kt kv es = some r) (commaOk : Bool) {v : AV}
    (hv : match r with
      | some (_, va) => v = foundA va true commaOk
      | none => ∃ z zv, pureRun P (zeroValue et) = some z ∧ ofVal z = some zv ∧ v = foundA zv false commaOk) :
    ∃ v', (Instr.lookup t u kv commaOk).run P w = .ok v' w ∧ VRel ρ v v' := by
  obtain ⟨fs, hrel, hcase⟩ := mapOf_sound hw hx hes
  obtain ⟨r', hr, hfr⟩ := findKeyA_sound (w := w) hrel hf
  rw [hrel.empty] at hc
  have key : ∃ v', (do
      Instr.checkKey fs.isEmpty 10000 kt kv
      let (v, ok) ← match ← Instr.findKey kt kv fs.toList with
        | some (_, v) => pure (v, true)
        | none => pure (← zeroValue et, false)
      pure (if commaOk then Value.tuple #[v, .bool ok] else v) : Sem Value).run P w = .ok v' w ∧ VRel ρ v v' := by
    cases r with
    | some p =>
      obtain ⟨j, va⟩ := p
      cases r' with
      | none => exact hfr.elim
      | some q =>
        obtain ⟨j', vv⟩ := q
        obtain ⟨_, hval⟩ := hfr
        dsimp only at hv
        subst hv
        refine ⟨if commaOk then Value.tuple #[vv, .bool true] else vv, ?_, ?_⟩
        · simp only [Sem.run_bind, Result.andThen_ok, pureRun_run hc w, hr]
          rfl
        · cases commaOk
          · exact hval
          · exact .tup _ _ (.cons _ _ _ _ hval (.cons _ _ _ _ (.sc _ rfl) .nil))
    | none =>
      cases r' with
      | some q => exact hfr.elim
      | none =>
        obtain ⟨z, zv, hz, hzv, rfl⟩ := hv
        refine ⟨if commaOk then Value.tuple #[z, .bool false] else z, ?_, ?_⟩
        · simp only [Sem.run_bind, Result.andThen_ok, pureRun_run hc w, hr, pureRun_run hz w]
          rfl
        · cases commaOk
          · exact ofVal_rel hzv
          · exact .tup _ _ (.cons _ _ _ _ (ofVal_rel hzv) (.cons _ _ _ _ (.sc _ rfl) .nil))
  obtain ⟨v', h1, h2⟩ := key
  refine ⟨v', ?_, h2⟩
  unfold Instr.lookup
  rw [Sem.run_bind, run_underlying hu, Result.andThen_ok]
  rcases hcase with ⟨rfl, rfl⟩ | ⟨rr, clock, rfl, hob⟩
  · exact h1
  · have hg : (getObj rr).run P w = .ok (.map fs clock) w := by simp [getObj, Sem.run, hob]
    dsimp only
    rw [Sem.run_bind, hg, Result.andThen_ok]
    exact h1

theorem loadOp_sound {base : Base} {A : AW} {w : World} (hw : WRel P base ρ A w) (he : ∀ x ∈ o.op.operands, VRel ρ (e x) (c x)) (h : loadOp P o e A = some v) : GivesIn P ρ w o c v := by
  cases hop : o.op
  case load t x =>
    have hx : VRel ρ (e x) (c x) := he x (by rw [hop]; simp [Op.operands])
    simp only [loadOp, hop] at h
    split at h <;> first | cases h | skip
    rename_i b p hex
    rw [hex] at hx
    obtain ⟨i, hb, hc⟩ := ptr_inv hx
    split at h <;> first | cases h | skip
    · rename_i ha
      split at h <;> first | cases h | skip
      rename_i hl
      obtain ⟨vs, hr, hlen, hcell⟩ := loads_rel hw hb hl
      cases hr with
      | cons _ u _ us hu hn =>
      cases hn
      have hcell := hcell 0 u (by simp)
      rw [add_off] at hcell
      refine ⟨u, ?_, hu⟩
      simp only [execOp, hop, Instr.loadAt, Instr.sureAddr, loadVar, hc, Sem.run_bind, Sem.run_pure, Result.andThen_ok, isAggT_run ha, Bool.false_eq_true, if_false, load, Sem.run]
      simp only [Nat.add_zero] at hcell
      simp [hcell, Sem.run]
    · rename_i ha
      split at h <;> first | cases h | skip
      rename_i n hs
      split at h <;> first | cases h | skip
      rename_i xs hl
      obtain ⟨vs, hr, hlen, _, hrun⟩ := run_loads (P := P) hw hb hl
      refine ⟨.agg ⟨vs⟩, ?_, .agg _ _ hr⟩
      simp only [execOp, hop, Instr.loadAt, Instr.sureAddr, loadVar, hc, Sem.run_bind, Sem.run_pure, Result.andThen_ok, isAggT_run ha, if_true, sizeT_run hs, hrun]
  case slice t x lo hi mx =>
    cases mx with
    | some m => simp only [loadOp, hop] at h; exact (pureOp_sound he h).at
    | none =>
      simp only [loadOp, hop] at h
      split at h
      · rename_i _ elem b p len esz l y hu hex hl
        split at h <;> first | (cases h; done) | skip
        rename_i hh hey
        split at h
        · exact (pureOp_sound he h).at
        · rename_i hnle
          have hnle := ble_f hnle
          split at h <;> first | (cases h; done) | skip
          rename_i kn tree zs el fz size hg hs
          split at h <;> first | (cases h; done) | skip
          rename_i hcond
          cases h
          simp only [Bool.and_eq_true] at hcond
          obtain ⟨⟨c1, c2⟩, c3⟩ := hcond
          have c1 := ble_t c1; have c2 := beq_t c2; have c3 := ble_t c3
          have he' := he
          rw [hop] at he'
          simp only [Op.operands, Array.mem_append, List.mem_toArray, Option.mem_toArray] at he'
          have hx : VRel ρ (e x) (c x) := he' x (by simp)
          have rl : ∀ z, lo = some z → VRel ρ (e z) (c z) := fun z hz => he' z (by simp [hz])
          have rh : ∀ z, (some y : Option Operand) = some z → VRel ρ (e z) (c z) := fun z hz => he' z (by simp at hz; simp [hz])
          rw [hex] at hx
          obtain ⟨k, i, hb, hp, he2, hk, hcx⟩ := slcO_inv hx
          obtain ⟨ob, hob, cc, fr, rfl, hrow⟩ := hw.blk b i _ hb hg
          obtain ⟨h0, hcs, _⟩ := hrow.opn rfl
          have hs1 := hrow.size
          have hfit : k + hh ≤ i.capN := by
            have : (k + hh) * i.esz ≤ i.capN * i.esz := by
              have c3' := c3
              rw [c2, he2] at c3'
              rw [Nat.add_mul]; omega
            exact Nat.le_of_mul_le_mul_right this h0
          refine ⟨.slice (some ⟨i.cb, i.sh + (k + l) * i.esz, none⟩) (hh - l) (i.capN - (k + l)), ?_, ?_⟩
          · simp only [execOp, hop, Instr.sliceAt, Sem.run_bind, run_underlying hu, Result.andThen_ok, Instr.slice, hcx]
            rw [show (Option.map c none : Option Value) = none from rfl]
            rw [bounds_none (cap := i.capN - k) hl (show natOr e len (some y) = some hh from hey) (by omega) (fun _ => by omega) rl rh w]
            simp only [Result.andThen_ok, sizeT_run hs, Sem.run_pure]
            rw [if_neg (by omega)]
            simp only [Option.map_some, add_off]
            rw [show i.sh + k * i.esz + l * size = i.sh + (k + l) * i.esz by rw [Nat.add_mul, c2, he2]; omega, Nat.sub_sub]
          · have := VRel.slcO (ρ := ρ) b (k + l) (hh - l) i hb (by omega)
            rw [Nat.add_mul] at this
            rw [hp, c2, he2]
            exact (by rw [Nat.add_mul]; exact this)
      · exact (pureOp_sound he h).at
  case convert src dst x =>
    have hx : VRel ρ (e x) (c x) := he x (by rw [hop]; simp [Op.operands])
    simp only [loadOp, hop] at h
    split at h <;> first | cases h | skip
    · rename_i el b p len cap hs hd hex
      split at h <;> first | cases h | skip
      rename_i hel
      split at h <;> first | cases h | skip
      rename_i xs hl
      split at h <;> first | cases h | skip
      rename_i s hb
      rw [hex] at hx
      obtain ⟨i, cp, hbi, hc⟩ := slc_inv hx
      obtain ⟨vs, hr, hlen, _, hrun⟩ := run_loads (P := P) hw hbi hl
      unfold bytesOf at hb
      split at hb <;> first | cases hb | skip
      rename_i l hl2
      obtain ⟨ns, rfl, rfl⟩ := bytesOf_rel hr hl2
      refine ⟨_, ?_, .sc _ rfl⟩
      simp only [execOp, hop, hc, Sem.run_bind]
      rw [run_convert_bytes_string w src dst el _ len cp hs hel hd, run_bytesToString w _ len cp ns (by rw [hrun]), foldl_push_bytes]
      have he0 : ByteArray.empty.data = #[] := rfl
      simp [he0]
    · rename_i el b hs hd hex
      split at h <;> first | cases h | skip
      rename_i hel
      rw [hex] at hx
      generalize hcx : c x = cx at hx
      cases hx with
      | emp _ ad cp =>
      refine ⟨_, ?_, .sc _ rfl⟩
      simp only [execOp, hop, hcx, Sem.run_bind]
      rw [run_convert_bytes_string w src dst el _ 0 cp hs hel hd, run_bytesToString w _ 0 cp [] (by rfl)]
      rfl
    · exact (genOp_sound (fun _ _ h => by rw [hop] at h; cases h) he h).at
    · rename_i t b p hs hd hex
      split at h <;> first | (cases h; done) | skip
      rename_i n tree zs opn elem fz k hg hsz
      split at h <;> first | (cases h; done) | skip
      rename_i hle
      cases h
      have hle := ble_t hle
      rw [hex] at hx
      obtain ⟨i, hb, hc⟩ := ptr_inv hx
      obtain ⟨ob, hob, cc, fr, rfl, hrow⟩ := hw.blk b i _ hb hg
      have hsize := hrow.size
      refine ⟨_, ?_, .ptr b p i hb⟩
      have h1 : (Conv.unsafePointer src dst (.pointer (some ⟨i.cb, i.sh + p, none⟩))).run P w = .ok (.pointer (some ⟨i.cb, i.sh + p, none⟩)) w := by
        have hnot : ¬ (i.sh + p ≥ cc.size) := by omega
        simp only [Conv.unsafePointer, Sem.run_bind, run_underlying hs, run_underlying hd, Result.andThen_ok, seenAt_run (a := ⟨i.cb, i.sh + p, none⟩) hob, cellsIn, shape_run hob, sizeT_run hsz, Sem.run_pure, Option.map_some]
        simp [hnot]
      have h2 : convert src dst (.pointer (some ⟨i.cb, i.sh + p, none⟩)) = convert src dst (.pointer (some ⟨i.cb, i.sh + p, none⟩)) := rfl
      simp only [execOp, hop, hc, Sem.run_bind]
      simp only [convert, Sem.run_bind, run_underlying hs, run_underlying hd, Result.andThen_ok, h1, Sem.run_pure]
    · rename_i u b p hs hd hex
      split at h <;> first | (cases h; done) | skip
      rename_i n tree zs opn elem fz k hg hsz
      split at h <;> first | (cases h; done) | skip
      rename_i hl
      cases h
      rw [hex] at hx
      obtain ⟨i, hb, hc⟩ := ptr_inv hx
      obtain ⟨ob, hob, cc, fr, rfl, hrow⟩ := hw.blk b i _ hb hg
      have hsize := hrow.size
      have hsh := hrow.sh0
      refine ⟨_, ?_, .ptr b p i hb⟩
      have h0 : (variablesAt ⟨i.cb, i.sh + p, none⟩ u 1).run P w = .ok true w :=
        variablesAt_run (count := n / P.cellsOf elem) hob (Nat.div_le_div_right (by omega)) (by show liesAt P P.depth elem _ (i.sh + p) u 1 = true; rw [show i.sh + p = p by omega]; exact hl)
      have h1 : (Conv.unsafePointer src dst (.pointer (some ⟨i.cb, i.sh + p, none⟩))).run P w = .ok (.pointer (some ⟨i.cb, i.sh + p, none⟩)) w := by
        simp only [Conv.unsafePointer, Sem.run_bind, run_underlying hs, run_underlying hd, Result.andThen_ok, seenAt_run (a := ⟨i.cb, i.sh + p, none⟩) hob, sizeT_run hsz, Sem.run_pure, h0]
        simp
      simp only [execOp, hop, hc, Sem.run_bind]
      simp only [convert, Sem.run_bind, run_underlying hs, run_underlying hd, Result.andThen_ok, h1, Sem.run_pure]
  case call cl =>
    obtain ⟨callee, args, ts⟩ := cl
    cases callee with
    | builtin b =>
      cases b
      case len =>
        simp only [loadOp, hop] at h
        split at h <;> first | cases h | skip
        rename_i t x ht hx
        have hr : VRel ρ (e x) (c x) := he x (by rw [hop]; simp only [Op.operands, Call.operands, Array.empty_append]; exact Array.mem_of_getElem? hx)
        split at h <;> first | cases h | skip
        rename_i b hu hex
        split at h <;> first | cases h | skip
        rename_i es cl hg
        rw [hex] at hr
        generalize hcx : c x = cx at hr
        cases hr with
        | map _ i hb =>
        obtain ⟨ob, hob, fs, rfl, hfs⟩ := hw.blk b i _ hb hg
        have hlen : ∀ (es : List (AV × AV × Nat)) (fs : List MapEntry), EntRel ρ es fs → es.length = fs.length := by
          intro es
          induction es with
          | nil => intro fs h; cases fs <;> simp_all [EntRel]
          | cons a es ih =>
            intro fs h
            cases fs with
            | nil => exact h.elim
            | cons f fs => simp [ih fs h.2.2.2]
        refine ⟨.int .i64 es.length, ?_, .sc _ rfl⟩
        simp only [execOp, hop, resolve, invoke, builtin, Builtin.len_, ht, Array.getElem?_map, hx, Option.map_some, hcx, Sem.run_bind, Sem.run_pure, Result.andThen_ok, run_underlying hu, getObj, Sem.run, hob]
        simp [goInt, hlen _ _ hfs]
      case cap =>
        simp only [loadOp, hop] at h
        split at h <;> first | (cases h; done) | skip
        rename_i t x ht hx
        have hr : VRel ρ (e x) (c x) := he x (by rw [hop]; simp only [Op.operands, Call.operands, Array.empty_append]; exact Array.mem_of_getElem? hx)
        split at h
        · rename_i b len esz hu hex
          split at h <;> first | (cases h; done) | skip
          rename_i kn tree zs el fz hg
          cases h
          rw [hex] at hr
          obtain ⟨k, i, hb, hp, he2, hk, hcx⟩ := slcO_inv hr
          obtain ⟨ob, hob, cc, fr, rfl, hrow⟩ := hw.blk b i _ hb hg
          obtain ⟨h0, hcs, _⟩ := hrow.opn rfl
          have hk0 : k = 0 := by
            rcases Nat.eq_zero_or_pos k with e | e
            · exact e
            · have : 0 < k * i.esz := Nat.mul_pos e h0
              omega
          subst hk0
          have hs1 := hrow.size
          have hle : kn / esz ≤ i.capN := by
            rw [he2]
            exact Nat.div_le_of_le_mul (by rw [Nat.mul_comm]; omega)
          refine ⟨.int .i64 (i.capN : Nat), ?_, .atl _ _ hle⟩
          simp only [execOp, hop, resolve, invoke, builtin, Builtin.cap_, ht, Array.getElem?_map, hx, Option.map_some, hcx, Sem.run_bind, Sem.run_pure, Result.andThen_ok, run_underlying hu, goInt]
          rfl
        · exact (pureOp_sound he h).at
      all_goals (simp only [loadOp, hop] at h; cases h)
    | value f => simp only [loadOp, hop] at h; cases h
    | invoke r m => simp only [loadOp, hop] at h; cases h
  case lookup t x k commaOk =>
    have hx : VRel ρ (e x) (c x) := he x (by rw [hop]; simp [Op.operands])
    have hk : VRel ρ (e k) (c k) := he k (by rw [hop]; simp [Op.operands])
    simp only [loadOp, hop] at h
    split at h <;> first | (cases h; done) | skip
    rename_i kt et es kv hu hes hkv
    have hck := toVal_rel hk hkv
    split at h <;> first | (cases h; done) | skip
    · rename_i j va hc hf
      cases h
      obtain ⟨v', h1, h2⟩ := lookup_run hw hx hu hes hc hf commaOk rfl
      refine ⟨v', ?_, h2⟩
      simp only [execOp, hop, hck, Sem.run_bind, h1, Result.andThen_ok]
      rfl
    · rename_i hc hf
      split at h <;> first | (cases h; done) | skip
      rename_i z hz
      split at h <;> first | (cases h; done) | skip
      rename_i zv hzv
      cases h
      obtain ⟨v', h1, h2⟩ := lookup_run (v := foundA zv false commaOk) hw hx hu hes hc hf commaOk ⟨z, zv, hz, hzv, rfl⟩
      refine ⟨v', ?_, h2⟩
      simp only [execOp, hop, hck, Sem.run_bind, h1, Result.andThen_ok]
      rfl
  all_goals (simp only [loadOp, hop] at h; cases h)

/-! ### new blocks -/
/-- One new block, and a value that leads to it. -/
def Makes (P : Program) (ρ : Ren) (w : World) (o : Oper) (c : Operand → Value) (x : Blk) (mk : Nat → AV) : Prop :=
  ∃ (d : Bool) (ob : Obj) (u : Value) (i : Info), (execOp c o).run P w = .ok (.value u) ((if d then w.drew else w).alloc ob) ∧ i.cb = w.heap.size ∧ BlkRel P ρ i x ob ∧
    ∀ (ρ' : Ren) (b : Nat), ρ' b = some i → VRel ρ' (mk b) u

theorem zerosOf_inv {t : TypeId} {zs : List AV} (h : zerosOf P t = some zs) : ∃ it z, P.info? t = some it ∧ it.zero = some z ∧ LRel ρ zs z.cells.toList := by
  unfold zerosOf at h
  split at h
  · rename_i z hz
    split at h
    · rename_i v hv
      cases h
      obtain ⟨it, hi, hz⟩ := Option.bind_eq_some_iff.1 hz
      refine ⟨it, z, hi, hz, (ofVal_rel hv).cells fun e => ?_⟩
      subst e
      unfold ofVal at hv
      split at hv
      · split at hv <;> cases hv
      · split at hv <;> cases hv
      · unfold ofCell at hv
        split at hv
        · split at hv <;> cases hv
        · split at hv <;> cases hv
        · split at hv <;> cases hv
    · cases h
  · cases h

theorem cellAt_leaf {zs : List AV} {n k : Nat} {x : AV} (h : cellAt .leaf zs n k = some x) : k < n ∧ zs[k % zs.length]? = some x := by
  unfold cellAt at h
  split at h
  · cases h
  · rename_i hb
    have hb := ble_t hb
    simp only [Tree.get] at h
    split at h
    · cases h
    · rename_i z
      cases h
      exact ⟨by omega, by simp [Nat.mod_one]⟩
    · rw [nth_getElem] at h
      exact ⟨by omega, h⟩

theorem cellAt_nozeros {t : Tree AV} {n k : Nat} {x : AV} (h : cellAt t [] n k = some x) : k < n ∧ t.get k = some x := by
  unfold cellAt at h
  split at h
  · cases h
  · rename_i hb
    have hb := ble_t hb
    split at h
    · rename_i y hy
      cases h
      exact ⟨by omega, hy⟩
    · cases h

theorem madeCells_get (z : Array Value) (n k : Nat) (hk : k < n) (hz : 0 < z.size) : (madeCells z n)[k]? = z[k % z.size]? := by
  have : k % z.size < z.size := Nat.mod_lt _ hz
  simp [madeCells, hk, this]

theorem row_new (i : Info) (n : Nat) (tree : Tree AV) (zs : List AV) (elem : TypeId) (cs : Array Value) (hi : i.sh = 0) (hn : n ≤ cs.size)
    (hv : ∀ k x, cellAt tree zs n k = some x → ∃ v, cs[k]? = some v ∧ VRel ρ x v) : BlkRel P ρ i (.row n tree zs false elem 0) (.cells cs elem) :=
  ⟨cs, (0, 0), rfl, ⟨by omega, fun k x h => by rw [hi, Nat.zero_add]; exact hv k x h, fun k _ _ h => by simp at h, fun _ _ => ⟨rfl, Nat.zero_le _⟩, (fun h => by cases h), hi⟩⟩

theorem fillT_rel {size n : Nat} {zs : List AV} : ∀ (parts : List (Nat × Operand)) (t : Tree AV) (cells : Array Value) {t' : Tree AV}, cells.size = n →
    (∀ k x, cellAt t zs n k = some x → ∃ v, cells[k]? = some v ∧ VRel ρ x v) → (∀ p ∈ parts, VRel ρ (e p.2) (c p.2)) →
    fillT size n t (parts.map fun p => (p.1, e p.2)) = some t' →
    ∃ cells', Instr.fill (fun i => some (i * size, size)) cells (parts.map fun p => (p.1, c p.2)) = some cells' ∧ cells'.size = n ∧ (∀ k x, cellAt t' zs n k = some x → ∃ v, cells'[k]? = some v ∧ VRel ρ x v)
  | [], t, cells, t', hn, hr, _, h => by
    simp [fillT] at h; subst h
    exact ⟨cells, rfl, hn, hr⟩
  | p :: parts, t, cells, t', hn, hr, hp, h => by
    obtain ⟨i, x⟩ := p
    simp only [List.map_cons, fillT] at h
    split at h
    · rename_i hb hl
      split at h
      · rename_i t1 ht1
        have hb := beq_t hb
        have hl := ble_t hl
        obtain ⟨hone, hget⟩ := putAll_get _ _ _ ht1
        have hcl := (hp (i, x) (by simp)).cells (fun e0 => by
          simp only at e0
          have := hone .top (by simp only [e0]; simp [AV.cells])
          simp [oneCell] at this)
        have hlen := hcl.length
        simp only [Array.length_toList] at hlen
        have hfold : ((c x).cells.zipIdx.foldl (fun cs y => cs.setIfInBounds (i * size + y.2) y.1) cells).toList = cells.toList.take (i * size) ++ (c x).cells.toList ++ cells.toList.drop (i * size + size) := by
          rw [← Array.foldl_toList, Array.toList_zipIdx, foldl_set (i * size) _ 0 cells (by simp; omega)]
          simp [← hlen, hb]
        have hsz : ((c x).cells.zipIdx.foldl (fun cs y => cs.setIfInBounds (i * size + y.2) y.1) cells).size = n := by
          rw [← Array.length_toList, hfold]
          simp only [List.length_append, List.length_take, List.length_drop, Array.length_toList]
          omega
        obtain ⟨cells', h1, h2, h3⟩ := fillT_rel parts t1 ((c x).cells.zipIdx.foldl (fun cs y => cs.setIfInBounds (i * size + y.2) y.1) cells) hsz (by
          intro k y hk
          rw [cellAt_put hget] at hk
          rw [← Array.getElem?_toList, hfold]
          by_cases hin : i * size ≤ k ∧ k < i * size + (e x).cells.length
          · rw [if_pos hin] at hk
            split at hk
            · obtain ⟨u, hu, hv⟩ := hcl.get hk
              refine ⟨u, ?_, hv⟩
              rw [List.append_assoc, List.getElem?_append_right (by simp; omega)]
              have e1 : k - (cells.toList.take (i * size)).length = k - i * size := by
                rw [List.length_take, Array.length_toList]; omega
              rw [e1, List.getElem?_append_left (by rw [Array.length_toList]; omega)]
              exact hu
            · cases hk
          · rw [if_neg hin] at hk
            obtain ⟨u, hu, hv⟩ := hr k y hk
            refine ⟨u, ?_, hv⟩
            have hkn : k < n := by
              unfold cellAt at hk
              split at hk
              · cases hk
              · rename_i hb; have := ble_t hb; omega
            rw [← hu]
            by_cases hlt : k < i * size
            · rw [List.append_assoc, List.getElem?_append_left (by simp; omega), List.getElem?_take_of_lt hlt, Array.getElem?_toList]
            · rw [List.getElem?_append_right (by simp only [List.length_append, List.length_take, Array.length_toList]; omega), List.getElem?_drop, ← Array.getElem?_toList]
              congr 1
              simp only [List.length_append, List.length_take, Array.length_toList]
              omega) (fun p hm => hp p (.tail _ hm)) h
        refine ⟨cells', ?_, h2, h3⟩
        simp only [List.map_cons, Instr.fill]
        rw [if_neg (by simp; omega)]
        exact h1
      · cases h
    · cases h

theorem allocOp_sound (he : ∀ x ∈ o.op.operands, VRel ρ (e x) (c x)) {x : Blk} {mk : Nat → AV} (h : allocOp P o e = some (x, mk)) (w : World) : Makes P ρ w o c x mk := by
  cases hop : o.op
  case alloc t =>
    simp only [allocOp, hop] at h
    split at h <;> first | cases h | skip
    rename_i zs hzs
    split at h <;> first | cases h | skip
    obtain ⟨it, z, hi, hz, hr⟩ := zerosOf_inv (ρ := ρ) hzs
    have hlen := hr.length
    refine ⟨false, .cells z.cells t, .pointer (some ⟨w.heap.size, 0, none⟩), ⟨w.heap.size, 0, 0, 0⟩, ?_, rfl, row_new _ _ _ _ _ _ rfl (by simpa using Nat.le_of_eq hlen) ?_, fun ρ' b hb => .ptr b 0 _ hb⟩
    · simp [execOp, hop, Instr.alloc, zeroValue, typeInfo, hi, hz, newVar, newRow]
    · intro k y hk
      obtain ⟨h1, h2⟩ := cellAt_leaf hk
      rw [Nat.mod_eq_of_lt h1] at h2
      obtain ⟨u, hu, hv⟩ := hr.get h2
      exact ⟨u, by simpa using hu, hv⟩
  case box t y =>
    have hx : VRel ρ (e y) (c y) := he y (by rw [hop]; simp [Op.operands])
    simp only [allocOp, hop] at h
    split at h <;> first | cases h | skip
    rename_i tree htree _
    obtain ⟨hone, hget⟩ := putAll_get _ _ _ htree
    have hcl := hx.cells (fun e0 => by
      have := hone .top (by simp only [e0]; simp [AV.cells])
      simp [oneCell] at this)
    have hlen := hcl.length
    refine ⟨false, .cells (c y).cells t, .pointer (some ⟨w.heap.size, 0, none⟩), ⟨w.heap.size, 0, 0, 0⟩, ?_, rfl, row_new _ _ _ _ _ _ rfl (by simpa using Nat.le_of_eq hlen) ?_, fun ρ' b hb => .ptr b 0 _ hb⟩
    · simp [execOp, hop, Instr.box, newVar, newRow]
    · intro k z hk
      obtain ⟨h1, h2⟩ := cellAt_nozeros hk
      rw [hget, if_pos (by omega)] at h2
      obtain ⟨u, hu, hv⟩ := hcl.get h2
      exact ⟨u, by simpa using hu, hv⟩
  case buildSlice t len parts =>
    simp only [allocOp, hop] at h
    split at h <;> first | cases h | skip
    rename_i elem hu
    split at h <;> first | cases h | skip
    rename_i size zs hs hzs
    split at h <;> first | cases h | skip
    rename_i h1 h2 h3
    have h1 := ble_t h1; have h2 := beq_t h2; have h3 := ble_t h3
    split at h <;> first | cases h | skip
    rename_i tree htree
    obtain ⟨it, z, hi, hz, hr⟩ := zerosOf_inv (ρ := ρ) hzs
    have hlen := hr.length
    simp only [Array.length_toList] at hlen
    have hp : ∀ p ∈ parts.toList, VRel ρ (e p.2) (c p.2) := by
      intro p hm
      apply he
      rw [hop]
      simp only [Op.operands, List.mem_toArray, List.mem_map]
      exact ⟨p, hm, rfl⟩
    have hsz : it.size = size := by simpa [sizeT, hi] using hs
    obtain ⟨cells', f1, f2, f3⟩ := fillT_rel (ρ := ρ) (e := e) (c := c) (zs := zs) parts.toList .leaf (madeCells (if len * size = 0 then #[] else z.cells) (len * size)) (size_madeCells _ _) (by
      intro k y hk
      obtain ⟨g1, g2⟩ := cellAt_leaf hk
      rw [if_neg (by omega), madeCells_get _ _ _ g1 (by omega)]
      obtain ⟨u, hu, hv⟩ := hr.get g2
      exact ⟨u, by rw [← Array.getElem?_toList]; rw [hlen] at hu; exact hu, hv⟩) hp htree
    refine ⟨false, .cells cells' elem, .slice (some ⟨w.heap.size, 0, none⟩) len len, ⟨w.heap.size, 0, 0, 0⟩, ?_, rfl, row_new _ _ _ _ _ _ rfl (by omega) f3, fun ρ' b hb => .slcS b 0 len len _ hb⟩
    simp only [execOp, hop, Instr.buildSlice, Sem.run_bind, run_underlying hu, Result.andThen_ok, sizeT_run hs]
    have hno : ¬ (len * size > 2 ^ 24) := by omega
    simp only [hno, if_false]
    have f1' : Instr.fill (fun i => some (i * size, size)) ((Array.range (len * size)).map ((if len * size = 0 then #[] else z.cells)[· % (if len * size = 0 then #[] else z.cells).size]!)) (parts.map fun p => (p.1, c p.2)).toList = some cells' := by
      simpa [madeCells] using f1
    by_cases h0 : len * size = 0
    · simp only [h0, if_true] at f1' ⊢
      simp only [Sem.run_bind, Sem.run_pure, Result.andThen_ok]
      rw [f1']
      simp [newRow]
    · simp only [h0, if_false] at f1' ⊢
      simp only [Sem.run_bind, Sem.run_pure, Result.andThen_ok, zeroValue, typeInfo, run_program, hi, hz]
      rw [f1']
      simp [newRow]
  case makeSlice t l cp =>
    have hl : VRel ρ (e l) (c l) := he l (by rw [hop]; simp [Op.operands])
    have hc : VRel ρ (e cp) (c cp) := he cp (by rw [hop]; simp [Op.operands])
    simp only [allocOp, hop] at h
    split at h <;> first | cases h | skip
    rename_i elem n m hu hn hm
    split at h <;> first | cases h | skip
    rename_i size bytes zs hs hby hzs
    split at h <;> first | cases h | skip
    rename_i h1 h2 h3 h4 h5
    have h1 := ble_t h1; have h2 := beq_t h2; have h3 := ble_t h3; have h4 := ble_t h4; have h5 := ble_t h5
    obtain ⟨it, z, hi, hz, hr⟩ := zerosOf_inv (ρ := ρ) hzs
    have hlen := hr.length
    simp only [Array.length_toList] at hlen
    have hsz : it.size = size := by simpa [sizeT, hi] using hs
    have hbt : it.bytes = bytes := by simpa [bytesT, hi] using hby
    obtain ⟨kl, hl⟩ := nat_inv hl hn
    obtain ⟨kc, hc⟩ := nat_inv hc hm
    have hb' : (it.bytes : Int) * (m : Int) ≤ 281474976710656 := by
      have : ((it.bytes * m : Nat) : Int) ≤ 281474976710656 := by rw [hbt, Nat.mul_comm]; omega
      rwa [Int.natCast_mul] at this
    have hrun := run_make (P := P) w t elem it z hu hi hz kl kc n m (by omega) (by omega) hb' (by omega)
    refine ⟨false, _, .slice (some ⟨w.heap.size, 0, none⟩) n m, ⟨w.heap.size, 0, 0, 0⟩, ?_, rfl, row_new _ _ _ _ _ (madeCells z.cells (m * size)) rfl (by rw [size_madeCells]; omega) ?_, fun ρ' b hb => .slcS b 0 n m _ hb⟩
    · simp only [execOp, hop, hl, hc, Sem.run_bind, hrun, Result.andThen_ok, Int.toNat_natCast, hsz, Bool.false_eq_true, if_false, Sem.run_pure]
    · intro k y hk
      obtain ⟨g1, g2⟩ := cellAt_leaf hk
      rw [madeCells_get _ _ _ g1 (by omega)]
      obtain ⟨u, hu, hv⟩ := hr.get g2
      exact ⟨u, by rw [← Array.getElem?_toList]; rw [hlen] at hu; exact hu, hv⟩
  case makeMap t r =>
    simp only [allocOp, hop] at h
    split at h
    · cases h
      refine ⟨false, .map #[] 0, .map (some w.heap.size), ⟨w.heap.size, 0, 0, 0⟩, ?_, rfl, ⟨#[], rfl, trivial⟩, fun ρ' b hb => .map b _ hb⟩
      simp [execOp, hop, Instr.makeMap]
    · rename_i y
      have hy : VRel ρ (e y) (c y) := he y (by rw [hop]; simp [Op.operands])
      split at h <;> first | cases h | skip
      rename_i hu hn
      obtain ⟨k, hk⟩ := nat_inv hy hn
      refine ⟨false, .map #[] 0, .map (some w.heap.size), ⟨w.heap.size, 0, 0, 0⟩, ?_, rfl, ⟨#[], rfl, trivial⟩, fun ρ' b hb => .map b _ hb⟩
      simp [execOp, hop, Instr.makeMap, run_underlying hu, hk, asInt, asIntOf]
  case convert src dst y =>
    have hy : VRel ρ (e y) (c y) := he y (by rw [hop]; simp [Op.operands])
    simp only [allocOp, hop] at h
    split at h <;> first | cases h | skip
    rename_i el s hs hd hex
    split at h <;> first | cases h | skip
    rename_i hel hsz
    rw [hex] at hy
    have hc := (sc_inv hy).1
    have hge := grownCap_ge w s.size 0 el
    have hrow : (bytesRow s (grownCap w s.size 0 el)).size = grownCap w s.size 0 el := by
      simp only [bytesRow, Array.size_append, Array.size_map, Array.size_replicate]
      have : s.data.size = s.size := rfl
      omega
    refine ⟨true, .cells (bytesRow s (grownCap w s.size 0 el)) el ((bytesRow s (grownCap w s.size 0 el)).size, (bytesRow s (grownCap w s.size 0 el)).size + 1), .slice (some ⟨w.heap.size, 0, none⟩) s.size (grownCap w s.size 0 el), ⟨w.heap.size, 0, grownCap w s.size 0 el, 1⟩, ?_, rfl, ?_, fun ρ' b hb => ?_⟩
    · simp only [execOp, hop, hc, Sem.run_bind]
      rw [run_bytes_of_string w src dst el s hs hd hel]
      rfl
    · refine ⟨_, _, rfl, ⟨?_, fun k x hk => ?_, fun k _ hk => ?_, (fun h => by cases h), fun _ => ⟨Nat.one_pos, ?_, hsz⟩, rfl⟩⟩
      · rw [hrow, Array.length_toList]; show 0 + s.size ≤ _; omega
      · obtain ⟨h1, h2⟩ := cellAt_nozeros hk
        rw [Tree.get_ofList, if_pos (by simp at h1 ⊢; exact h1)] at h2
        simp only [Nat.sub_zero, List.getElem?_map, Option.map_eq_some_iff] at h2
        obtain ⟨b, hb, rfl⟩ := h2
        refine ⟨.int .u8 b.toNat, ?_, .sc _ rfl⟩
        rw [Array.length_toList] at h1
        simp only [bytesRow, Nat.zero_add]
        rw [Array.getElem?_append_left (by simpa using h1), Array.getElem?_map, ← Array.getElem?_toList, hb]
        rfl
      · simp only [Nat.zero_add] at hk ⊢; omega
      · simp [hrow]
    · have := VRel.slcO (ρ := ρ') b 0 s.size ⟨w.heap.size, 0, grownCap w s.size 0 el, 1⟩ hb (by show 0 + s.size ≤ grownCap w s.size 0 el; omega)
      simpa using this
  case range t y =>
    have hy : VRel ρ (e y) (c y) := he y (by rw [hop]; simp [Op.operands])
    simp only [allocOp, hop] at h
    split at h <;> first | cases h | skip
    · rename_i s hu hex
      rw [hex] at hy
      have hc := (sc_inv hy).1
      refine ⟨false, .stringIter s 0, .pointer (some ⟨w.heap.size, 0, none⟩), ⟨w.heap.size, 0, 0, 0⟩, ?_, rfl, ⟨rfl, rfl⟩, fun ρ' b hb => .ptr b 0 _ hb⟩
      simp [execOp, hop, hc, Instr.range, run_underlying hu]
    · rename_i hu hex
      rw [hex] at hy
      have hc := (sc_inv hy).1
      refine ⟨false, .mapIter none 0 #[] 0, .pointer (some ⟨w.heap.size, 0, none⟩), ⟨w.heap.size, 0, 0, 0⟩, ?_, rfl, ⟨none, rfl, rfl⟩, fun ρ' b hb => .ptr b 0 _ hb⟩
      simp [execOp, hop, hc, Instr.range, run_underlying hu]
  case call cl =>
    obtain ⟨callee, args, ts⟩ := cl
    simp only [allocOp, hop] at h
    cases h
  all_goals (simp only [allocOp, hop] at h; cases h)
end
end Go.Ab
