/- Operations that only reckon are sound, part 3: structs, comparisons; the whole. By an AI agent. -/
import Derived.Test.YtmilkhdicmkmbaaDoorAb6
import Derived.Laws.Tables
import Derived.Laws.Strings
set_option linter.unusedVariables false
set_option linter.unusedSimpArgs false
namespace Go.Ab
open Go Go.RowKit

section
variable {P : Program} {ρ : Ren} {o : Oper} {e : Operand → AV} {c : Operand → Value} {v : AV}

theorem foldl_set (off : Nat) : ∀ (l : List Value) (k : Nat) (cs : Array Value), off + k + l.length ≤ cs.size →
    ((l.zipIdx k).foldl (fun cs x => cs.setIfInBounds (off + x.2) x.1) cs).toList = cs.toList.take (off + k) ++ l ++ cs.toList.drop (off + k + l.length)
  | [], k, cs, _ => by simp
  | x :: l, k, cs, h => by
    simp only [List.length_cons] at h
    rw [List.zipIdx_cons, List.foldl_cons, foldl_set off l (k + 1) _ (by simp; omega)]
    have e := list_seg_step cs.toList (off + k) x l (by simp; omega)
    simpa [Nat.add_assoc, Nat.add_comm, Nat.add_left_comm] using e

theorem fill_rel {place : Nat → Option (Nat × Nat)} : ∀ (parts : List (Nat × Operand)) (cs : List AV) (cells : Array Value) {cs' : List AV}, LRel ρ cs cells.toList → (∀ p ∈ parts, VRel ρ (e p.2) (c p.2)) →
    fillG place cs (parts.map fun p => (p.1, e p.2)) = some cs' → ∃ cells', Instr.fill place cells (parts.map fun p => (p.1, c p.2)) = some cells' ∧ LRel ρ cs' cells'.toList
  | [], cs, cells, cs', hr, _, h => by
    simp [fillG] at h; subst h
    exact ⟨cells, rfl, hr⟩
  | p :: parts, cs, cells, cs', hr, hp, h => by
    obtain ⟨i, x⟩ := p
    simp only [List.map_cons, fillG] at h
    split at h
    · rename_i off size hpl
      split at h
      · rename_i hk hb hl
        have hv := hp (i, x) (by simp)
        have hcl := hv.cells (fun e0 => by simp only at e0; rw [e0] at hk; cases hk)
        have hb := beq_t hb
        have hl := ble_t hl
        have hlen := hcl.length
        have hrl := hr.length
        simp only [Array.length_toList] at hlen hrl
        have hfold : ((c x).cells.zipIdx.foldl (fun cs y => cs.setIfInBounds (off + y.2) y.1) cells).toList = cells.toList.take off ++ (c x).cells.toList ++ cells.toList.drop (off + size) := by
          rw [← Array.foldl_toList, Array.toList_zipIdx, foldl_set off _ 0 cells (by simp; omega)]
          simp [← hlen, hb]
        obtain ⟨cells', h1, h2⟩ := fill_rel parts (cs.take off ++ (e x).cells ++ cs.drop (off + size)) ((c x).cells.zipIdx.foldl (fun cs y => cs.setIfInBounds (off + y.2) y.1) cells)
          (by rw [hfold]; exact ((hr.take off).append hcl).append (hr.drop (off + size))) (fun p hm => hp p (.tail _ hm)) h
        refine ⟨cells', ?_, h2⟩
        simp only [List.map_cons, Instr.fill, hpl]
        rw [if_neg (by simp; omega)]
        exact h1
      · cases h
    · cases h

theorem build_sound {t : TypeId} {parts : Array (Nat × Operand)} (hop : o.op = .build t parts) (he : ∀ x ∈ o.op.operands, VRel ρ (e x) (c x)) (h : pureOp P o e = some v) : Gives P ρ o c v := by
  have hp : ∀ p ∈ parts.toList, VRel ρ (e p.2) (c p.2) := by
    intro p hm
    apply he
    rw [hop]
    simp only [Op.operands, List.mem_toArray, List.mem_map]
    exact ⟨p, hm, rfl⟩
  have key : ∀ cells, P.built t (parts.toList.map fun p => (p.1, c p.2)) = some cells → ∀ w, (execOp c o).run P w = .ok (.value (.agg cells)) w := by
    intro cells hb w
    simp only [execOp, hop, Sem.run_bind]
    rw [run_build w t _ cells (by simpa using hb)]
    rfl
  unfold pureOp at h
  rw [hop] at h
  simp only at h
  split at h
  · rename_i it n el hi hu
    split at h
    · rename_i z ie hz hie
      split at h
      · rename_i cs hcs
        obtain ⟨cs', hf, rfl⟩ := Option.map_eq_some_iff.1 h
        have hzr := ofVal_rel (ρ := ρ) hcs
        obtain ⟨vs, rfl, hvs⟩ := agg_inv hzr
        obtain ⟨cells', h1, h2⟩ := fill_rel parts.toList cs ⟨vs⟩ hvs hp hf
        refine ⟨.agg cells', key cells' ?_, .agg _ _ h2⟩
        unfold Program.built
        simp only [hi, hu, hz, hie]
        exact h1
      · cases h
    · cases h
  · rename_i it fields hi hu
    split at h
    · rename_i z places hz hpl
      split at h
      · rename_i cs hcs
        obtain ⟨cs', hf, rfl⟩ := Option.map_eq_some_iff.1 h
        have hzr := ofVal_rel (ρ := ρ) hcs
        obtain ⟨vs, rfl, hvs⟩ := agg_inv hzr
        obtain ⟨cells', h1, h2⟩ := fill_rel parts.toList cs ⟨vs⟩ hvs hp hf
        refine ⟨.agg cells', key cells' ?_, .agg _ _ h2⟩
        unfold Program.built
        simp only [hi, hu, hz, hpl]
        have : (fun i => nth places i) = fun x => places.toArray[x]? := by funext i; simp [nth_getElem]
        rw [this] at h1
        exact h1
      · cases h
    · cases h
  · cases h

theorem nat_beq {a b : Nat} : Nat.beq a b = decide (a = b) := by
  rcases h : Nat.beq a b
  · have : a ≠ b := fun e => by subst e; simp at h
    simp [this]
  · have := beq_t h
    simp [this]

theorem eqlIn_run (d : Nat) {t : TypeId} {x y : AV} {u u' : Value} {r : Bool} (h : eqlOf P t x y = some r) (hx : VRel ρ x u) (hy : VRel ρ y u') (w : World) :
    (Op.equalIn (d + 1) t u u').run P w = .ok r w := by
  unfold eqlOf at h
  split at h
  all_goals first | cases h | skip
  all_goals
    split at h <;> first | (cases h; done) | skip
    rename_i hu
  · rename_i heq
    split at h <;> first | (cases h; done) | skip
    rename_i s hs
    cases h
    have heq := beq_t heq
    subst heq
    obtain ⟨i, hb, rfl⟩ := ptr_inv hx
    obtain ⟨i', hb', rfl⟩ := ptr_inv hy
    rw [hb] at hb'; cases hb'
    simp only [Op.equalIn, Sem.run_bind, run_underlying hu, Result.andThen_ok, sizeT_run hs]
    rw [if_pos (by omega)]
    simp only [sameAddr, beq_self_eq_true, if_true, Sem.run_pure, nat_beq]
    congr 1
    rw [Bool.eq_iff_iff, beq_iff_eq, decide_eq_true_iff, Addr.mk.injEq]
    simp
  all_goals cases h
  · obtain ⟨i, hb, rfl⟩ := ptr_inv hx
    obtain ⟨rfl, _⟩ := sc_inv hy
    simp [Op.equalIn, run_underlying hu]
  · obtain ⟨i, hb, rfl⟩ := ptr_inv hy
    obtain ⟨rfl, _⟩ := sc_inv hx
    simp [Op.equalIn, run_underlying hu]
  · obtain ⟨i, cp, hb, rfl⟩ := slc_inv hx
    obtain ⟨rfl, _⟩ := sc_inv hy
    simp [Op.equalIn, run_underlying hu]
  · obtain ⟨rfl, _⟩ := sc_inv hy
    cases hx
    simp [Op.equalIn, run_underlying hu]
  · obtain ⟨rfl, _⟩ := sc_inv hy
    cases hx
    simp [Op.equalIn, run_underlying hu]
  · obtain ⟨rfl, _⟩ := sc_inv hy
    cases hx
    simp [Op.equalIn, run_underlying hu]
  · obtain ⟨rfl, _⟩ := sc_inv hy
    cases hx
    simp [Op.equalIn, run_underlying hu]

theorem eql_shape {t : TypeId} {x y : AV} {u u' : Value} {r : Bool} (h : eqlOf P t x y = some r) (hx : VRel ρ x u) (hy : VRel ρ y u') :
    binOp .eql t u u' = (do pure (.bool (← Op.equal t u u'))) ∧ binOp .neq t u u' = (do pure (.bool (!(← Op.equal t u u')))) ∧ (∀ op (a b : Operand), eqGuard op t a b u u' = pure ()) := by
  unfold eqlOf at h
  split at h
  all_goals first | cases h | skip
  all_goals
    split at h <;> first | (cases h; done) | skip
  · obtain ⟨i, hb, rfl⟩ := ptr_inv hx
    obtain ⟨i', hb', rfl⟩ := ptr_inv hy
    exact ⟨rfl, rfl, fun op a b => by cases op <;> rfl⟩
  all_goals cases h
  · obtain ⟨i, hb, rfl⟩ := ptr_inv hx
    obtain ⟨rfl, _⟩ := sc_inv hy
    exact ⟨rfl, rfl, fun op a b => by cases op <;> rfl⟩
  · obtain ⟨i, hb, rfl⟩ := ptr_inv hy
    obtain ⟨rfl, _⟩ := sc_inv hx
    exact ⟨rfl, rfl, fun op a b => by cases op <;> rfl⟩
  · obtain ⟨i, cp, hb, rfl⟩ := slc_inv hx
    obtain ⟨rfl, _⟩ := sc_inv hy
    exact ⟨rfl, rfl, fun op a b => by cases op <;> rfl⟩
  all_goals
    obtain ⟨rfl, _⟩ := sc_inv hy
    cases hx
    exact ⟨rfl, rfl, fun op a b => by cases op <;> rfl⟩

theorem bytesEq_iff : ∀ (a b : List UInt8), bytesEq a b = (a == b)
  | [], [] => rfl
  | [], _ :: _ => rfl
  | _ :: _, [] => rfl
  | a :: x, b :: y => by
    simp only [bytesEq, List.cons_beq_cons]
    rcases h : Nat.beq a.toNat b.toNat
    · have : a ≠ b := fun e => by subst e; simp at h
      simp [this]
    · have : a = b := UInt8.toNat_inj.1 (beq_t h)
      subst this
      simp [bytesEq_iff x y]

theorem strOp_run {op : BinOp} {a b : ByteArray} {v : AV} (h : strOp op a.data.toList b.data.toList = some v) : ∃ u, VRel ρ v u ∧ ∀ w, (Op.stringOp op a b).run P w = .ok u w := by
  unfold strOp at h
  split at h
  · split at h <;> first | (cases h; done) | skip
    rename_i hle
    cases h
    have hle := ble_t hle
    simp only [Array.length_toList] at hle
    refine ⟨_, .sc _ rfl, fun w => ?_⟩
    have hmax : ¬ (((a.size + b.size : Nat) : Int) > IntKind.i64.max) := by
      have : IntKind.i64.max = 9223372036854775807 := by decide
      have h1 : a.data.size = a.size := rfl
      have h2 : b.data.size = b.size := rfl
      omega
    simp only [Op.stringOp, if_neg hmax, Sem.run_pure]
    congr 2
  all_goals first | (cases h; done) | skip
  all_goals
    cases h
    refine ⟨_, .sc _ rfl, fun w => ?_⟩
    simp only [Op.stringOp, ByteArray.toList_eq, bytesEq_iff, Sem.run_pure]

theorem strPart_sound {t : TypeId} {x : Operand} {lo hi mx : Option Operand} (hop : o.op = .slice t x lo hi mx) (he : ∀ x ∈ o.op.operands, VRel ρ (e x) (c x)) {s : ByteArray} (hs : e x = .sc (.string s))
    (h : strPart P e t s.data.toList lo hi mx = some v) : Gives P ρ o c v := by
  rw [hop] at he
  simp only [Op.operands, Array.mem_append, List.mem_toArray, Option.mem_toArray] at he
  have hx : VRel ρ (e x) (c x) := he x (by simp)
  have rl : ∀ y, lo = some y → VRel ρ (e y) (c y) := fun y hy => he y (by simp [hy])
  have rh : ∀ y, hi = some y → VRel ρ (e y) (c y) := fun y hy => he y (by simp [hy])
  unfold strPart at h
  split at h <;> first | (cases h; done) | skip
  rename_i l hh hu hl hhh
  split at h <;> first | (cases h; done) | skip
  rename_i h1 h2
  cases h
  have h1 := ble_t h1; have h2 := ble_t h2
  simp only [Array.length_toList] at h2 hhh
  rw [hs] at hx
  refine ⟨.string (s.extract l hh), fun w => ?_, ?_⟩
  · simp only [execOp, hop, Instr.sliceAt, Sem.run_bind, run_underlying hu, Result.andThen_ok, Instr.slice, (sc_inv hx).1]
    simp only [Option.map_none, Option.isSome_none, Bool.false_eq_true, if_false, Sem.run_bind, Sem.run_pure, Result.andThen_ok]
    have hb := bounds_none (P := P) (isS := false) (len := s.size) (cap := s.size) (l := l) (h := hh) hl hhh h1 (fun _ => h2) rl rh w
    rw [hb]
    rfl
  · have : (⟨⟨(s.data.toList.drop l).take (hh - l)⟩⟩ : ByteArray) = s.extract l hh := by
      apply ByteArray.ext
      apply Array.ext'
      simp [ByteArray.data_extract]
    rw [this]
    exact .sc _ rfl

theorem binOp_sound {op : BinOp} {t yt : TypeId} {x y : Operand} (hop : o.op = .binOp op t x y yt) (he : ∀ x ∈ o.op.operands, VRel ρ (e x) (c x)) (h : pureOp P o e = some v) : Gives P ρ o c v := by
  have hx : VRel ρ (e x) (c x) := he x (by rw [hop]; simp [Op.operands])
  have hy : VRel ρ (e y) (c y) := he y (by rw [hop]; simp [Op.operands])
  have gen : ∀ {v}, genOp P o e = some v → Gives P ρ o c v := genOp_sound (fun _ _ h => by rw [hop] at h; cases h) he
  unfold pureOp at h
  rw [hop] at h
  simp only at h
  split at h
  · exact gen h
  · rename_i a b hex hey
    rw [hex] at hx
    rw [hey] at hy
    obtain ⟨u, hu, hrun⟩ := strOp_run (P := P) (ρ := ρ) h
    refine ⟨u, fun w => ?_, hu⟩
    simp only [execOp, hop, (sc_inv hx).1, (sc_inv hy).1, Sem.run_bind]
    have hg : eqGuard op t x y (.string a) (.string b) = pure () := by cases op <;> rfl
    have hb : binOp op t (.string a) (.string b) = Op.stringOp op a b := by cases op <;> rfl
    rw [hg, hb]
    simp only [Sem.run_pure, Result.andThen_ok, hrun]
  · rename_i n k hex hey
    split at h <;> first | (cases h; done) | skip
    rename_i hle
    cases h
    have hle := ble_t hle
    rw [hex] at hx
    rw [hey] at hy
    obtain ⟨hcx, _⟩ := sc_inv hx
    generalize hcy : c y = cy at hy
    cases hy with
    | atl _ m hm =>
    refine ⟨.bool false, fun w => ?_, .sc _ rfl⟩
    have hgt : ¬ (Int.ofNat n > (m : Int)) := by
      show ¬ ((n : Int) > (m : Int)); omega
    simp only [execOp, hop, hcx, hcy, eqGuard, Sem.run_bind, binOp, ne_eq, not_true, if_false, Op.intCmp, Sem.run_pure, Result.andThen_ok]
    simp only [hgt, decide_false]
    rfl
  · split at h
    · split at h
      · rename_i r hr
        cases h
        obtain ⟨h1, h2, h3⟩ := eql_shape hr hx hy
        refine ⟨.bool r, fun w => ?_, .sc _ rfl⟩
        have he := eqlIn_run 9999 hr hx hy w
        simp only [execOp, hop, h1, h3, Sem.run_bind, Sem.run_pure, Result.andThen_ok]
        rw [show (Op.equal t (c x) (c y)).run P w = .ok r w from he]
        rfl
      · exact gen h
    · split at h
      · rename_i r hr
        cases h
        obtain ⟨h1, h2, h3⟩ := eql_shape hr hx hy
        refine ⟨.bool (!r), fun w => ?_, .sc _ rfl⟩
        have he := eqlIn_run 9999 hr hx hy w
        simp only [execOp, hop, h2, h3, Sem.run_bind, Sem.run_pure, Result.andThen_ok]
        rw [show (Op.equal t (c x) (c y)).run P w = .ok r w from he]
        rfl
      · exact gen h
    · exact gen h

theorem len_sound {args : Array Operand} {ts : Array TypeId} (hop : o.op = .call { callee := .builtin .len, args, argTypes := ts }) (he : ∀ x ∈ o.op.operands, VRel ρ (e x) (c x)) (h : pureOp P o e = some v) : Gives P ρ o c v := by
  have gen : ∀ {v}, genOp P o e = some v → Gives P ρ o c v := genOp_sound (fun _ _ h => by rw [hop] at h; cases h) he
  unfold pureOp at h
  rw [hop] at h
  simp only at h
  split at h
  · rename_i t x ht hx
    have hr : VRel ρ (e x) (c x) := he x (by rw [hop]; simp only [Op.operands, Call.operands, Array.empty_append]; exact Array.mem_of_getElem? hx)
    have run : ∀ (n : Int) w, ((P.underlying t).bind fun d => match d, c x with | .slice _, .slice _ k _ => some (k : Int) | _, _ => none) = some n → (execOp c o).run P w = .ok (.value (.int .i64 n)) w := by
      intro n w hn
      cases hu : P.underlying t with
      | none => simp [hu] at hn
      | some d =>
        simp only [hu, Option.bind_some] at hn
        split at hn <;> first | cases hn | skip
        rename_i hcx
        simp only [execOp, hop, resolve, invoke, builtin, Builtin.len_, ht, Array.getElem?_map, hx, Option.map_some, hcx, Sem.run_bind, Sem.run_pure, Result.andThen_ok, run_underlying hu, goInt]
    split at h
    · rename_i hu hex
      cases h
      rw [hex] at hr
      obtain ⟨i, cp, hb, hc⟩ := slc_inv hr
      exact ⟨_, fun w => run _ w (by rw [hu, hc]; rfl), .sc _ rfl⟩
    · rename_i hu hex
      cases h
      rw [hex] at hr
      generalize hcx : c x = cx at hr
      cases hr
      exact ⟨_, fun w => run _ w (by rw [hu, hcx]; rfl), .sc _ rfl⟩
    · exact gen h
  · cases h

theorem cap_sound {args : Array Operand} {ts : Array TypeId} (hop : o.op = .call { callee := .builtin .cap, args, argTypes := ts }) (he : ∀ x ∈ o.op.operands, VRel ρ (e x) (c x)) (h : pureOp P o e = some v) : Gives P ρ o c v := by
  unfold pureOp at h
  rw [hop] at h
  simp only at h
  split at h
  · rename_i t x ht hx
    have hr : VRel ρ (e x) (c x) := he x (by rw [hop]; simp only [Op.operands, Call.operands, Array.empty_append]; exact Array.mem_of_getElem? hx)
    split at h
    · rename_i cc hu hex
      cases h
      rw [hex] at hr
      generalize hcx : c x = cx at hr
      cases hr
      refine ⟨_, fun w => ?_, .sc _ rfl⟩
      simp only [execOp, hop, resolve, invoke, builtin, Builtin.cap_, ht, Array.getElem?_map, hx, Option.map_some, hcx, Sem.run_bind, Sem.run_pure, Result.andThen_ok, run_underlying hu, goInt]
    · rename_i hu hex
      cases h
      rw [hex] at hr
      obtain ⟨hcx, _⟩ := sc_inv hr
      refine ⟨_, fun w => ?_, .sc _ rfl⟩
      simp only [execOp, hop, resolve, invoke, builtin, Builtin.cap_, ht, Array.getElem?_map, hx, Option.map_some, hcx, Sem.run_bind, Sem.run_pure, Result.andThen_ok, run_underlying hu, goInt]
      rfl
    · cases h
  · cases h

theorem pureOp_sound (he : ∀ x ∈ o.op.operands, VRel ρ (e x) (c x)) (h : pureOp P o e = some v) : Gives P ρ o c v := by
  cases hop : o.op
  case move x =>
    have hx : VRel ρ (e x) (c x) := he x (by rw [hop]; simp [Op.operands])
    simp only [pureOp, hop] at h; cases h
    exact move_sound (.inl hop) hx
  case assign x =>
    have hx : VRel ρ (e x) (c x) := he x (by rw [hop]; simp [Op.operands])
    simp only [pureOp, hop] at h; cases h
    exact move_sound (.inr hop) hx
  case pick cn a b =>
    have hc : VRel ρ (e cn) (c cn) := he cn (by rw [hop]; simp [Op.operands])
    have ha : VRel ρ (e a) (c a) := he a (by rw [hop]; simp [Op.operands])
    have hb : VRel ρ (e b) (c b) := he b (by rw [hop]; simp [Op.operands])
    simp only [pureOp, hop] at h
    split at h <;> first | cases h | skip
    · rename_i hx; rw [hx] at hc
      exact ⟨c a, fun w => by simp [execOp, hop, (sc_inv hc).1, asBool], ha⟩
    · rename_i hx; rw [hx] at hc
      exact ⟨c b, fun w => by simp [execOp, hop, (sc_inv hc).1, asBool], hb⟩
  case nilCheck x =>
    have hx : VRel ρ (e x) (c x) := he x (by rw [hop]; simp [Op.operands])
    simp only [pureOp, hop] at h
    split at h <;> first | cases h | skip
    rename_i b p hex
    rw [hex] at hx
    obtain ⟨i, hb, hc⟩ := ptr_inv hx
    exact ⟨_, fun w => by simp only [execOp, hop, hc, Sem.run_pure], .ptr b p i hb⟩
  case fieldAddr s x f =>
    have hx : VRel ρ (e x) (c x) := he x (by rw [hop]; simp [Op.operands])
    simp only [pureOp, hop] at h
    split at h <;> first | cases h | skip
    rename_i fields b p hu hex
    split at h <;> first | cases h | skip
    rename_i fd hf
    split at h <;> first | cases h | skip
    rename_i n hs
    exact fieldAddr_sound hop hx hu hex hf hs
  case indexAddr t x ix =>
    have hx : VRel ρ (e x) (c x) := he x (by rw [hop]; simp [Op.operands])
    have hi : VRel ρ (e ix) (c ix) := he ix (by rw [hop]; simp [Op.operands])
    simp only [pureOp, hop] at h
    split at h <;> first | cases h | skip
    · rename_i elem b p len cap i hu hex hj
      split at h <;> first | cases h | skip
      rename_i size hl hs
      exact indexAddr_slice hop hx hi hu hex hj (ble_t hl) hs
    · rename_i len elem b p i hu hex hj
      split at h <;> first | cases h | skip
      rename_i size hl hs
      exact indexAddr_array hop hx hi hu hex hj (ble_t hl) hs
  case field t x f =>
    have hx : VRel ρ (e x) (c x) := he x (by rw [hop]; simp [Op.operands])
    simp only [pureOp, hop] at h
    split at h <;> first | cases h | skip
    rename_i fields cs hu hex
    split at h <;> first | cases h | skip
    rename_i fd hf
    exact field_sound hop hx hu hex hf h
  case index t x ix =>
    have hx : VRel ρ (e x) (c x) := he x (by rw [hop]; simp [Op.operands])
    have hi : VRel ρ (e ix) (c ix) := he ix (by rw [hop]; simp [Op.operands])
    simp only [pureOp, hop] at h
    split at h <;> first | cases h | skip
    · rename_i len elem cs i hu hex hj
      split at h <;> first | cases h | skip
      rename_i size hl hs
      exact index_array hop hx hi hu hex hj (ble_t hl) hs h
    · rename_i s i hu hex hj
      split at h <;> first | cases h | skip
      rename_i b hb
      exact index_string hop hx hi hu hex hj hb
  case slice t x lo hi mx =>
    simp only [pureOp, hop] at h
    split at h
    · rename_i s hs
      exact strPart_sound hop he hs h
    · exact slice_sound hop he h
  case extract x i =>
    have hx : VRel ρ (e x) (c x) := he x (by rw [hop]; simp [Op.operands])
    simp only [pureOp, hop] at h
    split at h <;> first | cases h | skip
    rename_i vs hex
    exact extract_sound hop hx hex h
  case makeInterface t x =>
    have hx : VRel ρ (e x) (c x) := he x (by rw [hop]; simp [Op.operands])
    simp only [pureOp, hop] at h
    split at h <;> first | cases h | skip
    rename_i d hn hu
    exact makeInterface_sound hop hx hu (fun ms hd => hn ms hd)
  case makeFunc f first captured =>
    simp only [pureOp, hop] at h
    split at h <;> first | cases h | skip
    rename_i hn
    exact makeFunc_sound hop (by cases f <;> first | rfl | exact absurd rfl (hn _)) he
  case build t parts => exact build_sound hop he h
  case binOp op t x y yt => exact binOp_sound hop he h
  case unOp =>
    simp only [pureOp, hop] at h
    exact genOp_sound (fun _ _ h => by rw [hop] at h; cases h) he h
  case convert =>
    simp only [pureOp, hop] at h
    exact genOp_sound (fun _ _ h => by rw [hop] at h; cases h) he h
  case call cl =>
    obtain ⟨callee, args, ts⟩ := cl
    cases callee with
    | builtin b =>
      cases b
      case len => exact len_sound hop he h
      case cap => exact cap_sound hop he h
      case min =>
        simp only [pureOp, hop] at h
        exact genOp_sound (fun _ _ h => by rw [hop] at h; cases h) he h
      case max =>
        simp only [pureOp, hop] at h
        exact genOp_sound (fun _ _ h => by rw [hop] at h; cases h) he h
      case unsafeSliceData =>
        simp only [pureOp, hop] at h
        split at h <;> first | (cases h; done) | skip
        rename_i x
        have hx : VRel ρ (e x) (c x) := he x (by rw [hop]; simp [Op.operands, Call.operands])
        have run : ∀ {u w}, (Builtin.unsafeSliceData_ ts o.type #[c x]).run P w = .ok u w → (execOp c o).run P w = .ok (.value u) w := by
          intro u w hu
          simp only [execOp, hop, resolve, invoke, builtin, Sem.run_bind, Sem.run_pure, Result.andThen_ok]
          rw [show (Array.map c ⟨[x]⟩) = #[c x] by simp, hu]
          rfl
        split at h <;> first | (cases h; done) | skip
        · rename_i hex
          cases h
          rw [hex] at hx
          refine ⟨.pointer none, fun w => run ?_, .sc _ rfl⟩
          rw [(sc_inv hx).1]; rfl
        · rename_i b p n k hex
          cases h
          rw [hex] at hx
          generalize hcx : c x = cx at hx
          cases hx with
          | slcS _ _ _ _ i hb =>
          refine ⟨_, fun w => run ?_, .ptr b p i hb⟩
          rw [hcx]; rfl
        · rename_i b p n esz hex
          cases h
          rw [hex] at hx
          generalize hcx : c x = cx at hx
          cases hx with
          | slcO _ k _ i hb hk =>
          refine ⟨_, fun w => run ?_, .ptr b _ i hb⟩
          rw [hcx]
          show ((if i.capN - k ≠ 0 then pure (.pointer (some ⟨i.cb, i.sh + k * i.esz, none⟩)) else _ : Sem Value)).run P w = _
          rw [if_pos (by omega)]
          rfl
      all_goals (simp only [pureOp, hop] at h; cases h)
    | value f => simp only [pureOp, hop] at h; cases h
    | invoke r m => simp only [pureOp, hop] at h; cases h
  all_goals (simp only [pureOp, hop] at h; cases h)
end
end Go.Ab
