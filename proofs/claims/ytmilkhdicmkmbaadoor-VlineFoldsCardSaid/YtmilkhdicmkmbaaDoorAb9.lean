/- append is sound. By an AI agent. -/
import Derived.Test.YtmilkhdicmkmbaaDoorAb8
import Derived.Test.YtmilkhdicmkmbaaDoorAb2
import Derived.Laws.NewFold
set_option linter.unusedVariables false
set_option linter.unusedSimpArgs false
namespace Go.Ab
open Go Go.RowKit

section
variable {P : Program} {base : Base} {ρ : Ren} {A : AW} {w : World}

/-- What an operation with an effect does. -/
def DoesV (P : Program) (base : Base) (ρ : Ren) (A : AW) (w : World) (run : World → Result Value) (v : AV) (A' : AW) : Prop :=
  ∃ ρ' w' v', run w = .ok v' w' ∧ Step base A.next ρ w ρ' w' ∧ WRel P base ρ' A' w' ∧ A.next ≤ A'.next ∧ VRel ρ' v v'

theorem bytes_rel (s : ByteArray) : LRel ρ (s.data.toList.map fun b => AV.sc (.int .u8 b.toNat)) (s.data.toList.map fun b => Value.int .u8 b.toNat) := by
  generalize s.data.toList = l
  induction l with
  | nil => exact .nil
  | cons b l ih => exact .cons _ _ _ _ (.sc _ rfl) ih

theorem rep_rel {zs : List AV} {z : Array Value} (hz : LRel ρ zs z.toList) (h1 : 0 < z.size) : ∀ n, LRel ρ (newCells.rep zs n) (Builtin.zeroCells z n).toList
  | 0 => by simp [newCells.rep, Builtin.zeroCells]; exact .nil
  | n + 1 => by
    have ih := rep_rel hz h1 n
    have e : (Builtin.zeroCells z (n + 1)).toList = z.toList ++ (Builtin.zeroCells z n).toList := by
      apply List.ext_getElem?
      intro k
      have hs : ∀ m k, (Builtin.zeroCells z m).toList[k]? = if k < m * z.size then z.toList[k % z.size]? else none := by
        intro m k
        have : k % z.size < z.size := Nat.mod_lt _ h1
        by_cases hk : k < m * z.size
        · simp [Builtin.zeroCells, hk, this]
        · simp [Builtin.zeroCells, hk]
      rw [hs]
      by_cases hk : k < z.size
      · rw [if_pos (by rw [Nat.add_mul]; omega), List.getElem?_append_left (by simpa using hk), Nat.mod_eq_of_lt hk]
      · rw [List.getElem?_append_right (by simpa using hk), hs, Array.length_toList]
        have e2 : k % z.size = (k - z.size) % z.size := by
          have : k = (k - z.size) + z.size := by omega
          rw [this, Nat.add_mod_right]; simp
        rw [e2]
        by_cases h : k - z.size < n * z.size
        · rw [if_pos h, if_pos (by rw [Nat.add_mul]; omega)]
        · rw [if_neg h, if_neg (by rw [Nat.add_mul]; omega)]
    rw [e]
    exact hz.append ih

/-- What is to be appended: how many, and the cells. -/
structure News (P : Program) (ρ : Ren) (w : World) (elem size : Nat) (zeros : Bool) (x : Value) (n : Nat) (new : List AV) (us : List Value) : Prop where
  rel : LRel ρ new us
  len : us.length = n * size
  num : (if zeros = true then ∃ k, x = .int k n else (Builtin.lenOf x).run P w = .ok n w)
  get : zeros = false → ∀ w', w'.heap = w.heap → (Builtin.firstCells size n x).run P w' = .ok ⟨us⟩ w'
  zer : zeros = true → ∃ it z, P.info? elem = some it ∧ it.zero = some z ∧ (Builtin.zeroCells z.cells n).toList = us

theorem newCells_rel (hw : WRel P base ρ A w) {elem size : Nat} {zs : List AV} {zeros : Bool} {x : AV} {u : Value} {n : Nat} {new : List AV} (hx : VRel ρ x u) (hzs : zerosOf P elem = some zs) (h1 : 1 ≤ size) (h2 : zs.length = size)
    (h : newCells A size zs zeros x = some (n, new)) : ∃ us, News P ρ w elem size zeros u n new us := by
  unfold newCells at h
  split at h
  · split at h <;> first | cases h | skip
    rename_i m hm
    split at h <;> first | cases h | skip
    rename_i hle
    obtain ⟨it, z, hi, hz, hr⟩ := zerosOf_inv (ρ := ρ) hzs
    obtain ⟨k, hk⟩ := nat_inv hx hm
    have hl := hr.length
    simp only [Array.length_toList] at hl
    refine ⟨(Builtin.zeroCells z.cells n).toList, rep_rel hr (by omega) n, by rw [Array.length_toList, size_zeroCells, ← hl, h2], (by simp; exact ⟨k, hk⟩), (fun e => by cases e), fun _ => ⟨it, z, hi, hz, rfl⟩⟩
  · split at h <;> first | cases h | skip
    · rename_i b o len cap
      split at h <;> first | cases h | skip
      rename_i xs hl
      obtain ⟨i, cp, hb, rfl⟩ := slc_inv hx
      obtain ⟨vs, hr, hlen, hcell⟩ := loads_rel hw hb hl
      refine ⟨vs, hr, hlen, by simp [Builtin.lenOf], fun _ w' hw' => ?_, fun e => by cases e⟩
      have := run_loadCells_list (P := P) w' ⟨i.cb, i.sh + o, none⟩ vs (fun j v hj => by rw [← hcell j v hj]; simp [World.cell?, hw'])
      rw [hlen] at this
      simp [Builtin.firstCells, this]
    · cases hx with
      | emp b ad c =>
      exact ⟨[], .nil, by simp, by simp [Builtin.lenOf], fun _ _ _ => by simp [Builtin.firstCells, loadCells, loadCellsFrom], fun e => by cases e⟩
    · obtain ⟨rfl, _⟩ := sc_inv hx
      exact ⟨[], .nil, by simp, by simp [Builtin.lenOf], fun _ _ _ => by simp [Builtin.firstCells], fun e => by cases e⟩
    · rename_i s
      split at h <;> first | cases h | skip
      rename_i hsz
      have hsz := beq_t hsz
      subst hsz
      obtain ⟨rfl, _⟩ := sc_inv hx
      refine ⟨_, bytes_rel s, by simp, by simp [Builtin.lenOf], fun _ _ _ => ?_, fun e => by cases e⟩
      simp only [Builtin.firstCells, Sem.run_pure]
      congr 1
      have : (s.extract 0 s.data.toList.length) = s := by
        have h : s.data.toList.length = s.size := by rw [Array.length_toList]; rfl
        rw [h]; simp
      rw [this]
      apply Array.ext'
      simp

variable {elem size bytes n : Nat} {zeros : Bool} {x : Value} {new : List AV} {us : List Value}

theorem run_app (h : News P ρ w elem size zeros x n new us) (w' : World) (hw' : w'.heap = w.heap) :
    (if !zeros then Builtin.firstCells size n x else if n * size = 0 then pure #[] else do pure (Builtin.zeroCells (← zeroValue elem).cells n) : Sem (Array Value)).run P w' = .ok ⟨us⟩ w' := by
  cases hz : zeros with
  | false => simpa using h.get hz w' hw'
  | true =>
    obtain ⟨it, z, hi, hzz, hus⟩ := h.zer hz
    by_cases h0 : n * size = 0
    · have := h.len
      rw [h0] at this
      have : us = [] := List.eq_nil_of_length_eq_zero this
      simp [h0, this]
    · simp [h0, zeroValue, typeInfo, hi, hzz]
      apply Array.ext'
      rw [hus]

theorem zerosArg_inv {ts : Array TypeId} (h : zerosArg P ts = some zeros) :
    (ts[1]? = none ∧ zeros = false) ∨ ∃ u d, ts[1]? = some u ∧ P.underlying u = some d ∧ ((∃ k, d = .int k ∧ zeros = true) ∨ ((∀ k, d ≠ .int k) ∧ zeros = false)) := by
  unfold zerosArg at h
  split at h
  · rename_i e; cases h; exact .inl ⟨e, rfl⟩
  · rename_i u e
    split at h <;> first | cases h | skip
    · rename_i k e2; exact .inr ⟨u, _, e, e2, .inl ⟨k, rfl, rfl⟩⟩
    · rename_i d hd e2; exact .inr ⟨u, d, e, e2, .inr ⟨fun k hk => hd k hk, rfl⟩⟩

theorem notInt {d : TypeDesc} (h : ∀ k, d ≠ .int k) : (match d with | .int _ => true | _ => false) = false := by
  cases d <;> first | rfl | exact absurd rfl (h _)

/-- append, where there is room. -/
theorem run_room (h : News P ρ w elem size zeros x n new us) {t : TypeId} {ts : Array TypeId} {ty : TypeId} (ht : ts[0]? = some t) (hu : P.underlying t = some (.slice elem)) (hzs : zerosArg P ts = some zeros)
    {it : TypeInfo} (hi : P.info? elem = some it) (hs : it.size = size) (hb : it.bytes = bytes) (h1 : n * bytes ≤ 140737488355328) (h2 : n ≤ 140737488355328)
    {ad : Option Addr} {sLen sCap : Nat} (hroom : sLen + n ≤ sCap) {w1 : World} (hst : match ad with | some a => (storeCells (a.add (sLen * size)) us).run P w = .ok () w1 | none => w1 = w) :
    (Builtin.append_ ts ty #[.slice ad sLen sCap, x]).run P w = .ok (.slice ad (sLen + n) sCap) w1 := by
  have ha := run_app h w rfl
  have hsz : (sizeOf elem).run P w = .ok size w := by simp [sizeOf, typeInfo, hi, hs]
  have hti : (typeInfo elem).run P w = .ok it w := by simp [typeInfo, hi]
  have key : (Builtin.append_ ts ty #[.slice ad sLen sCap, x]).run P w = (ad.elim (Result.ok (.slice ad (sLen + n) sCap) w) fun a => ((storeCells (a.add (sLen * size)) us).run P w).andThen fun _ w => .ok (.slice ad (sLen + n) sCap) w) := by
    clear hst
    have hnum := h.num
    rcases zerosArg_inv hzs with ⟨e, rfl⟩ | ⟨u, d, e, e2, ⟨k, rfl, rfl⟩ | ⟨hd, rfl⟩⟩
    · simp only [Bool.false_eq_true, if_false] at hnum
      simp only [Bool.not_false, if_true] at ha
      simp only [Builtin.append_, ht, e, List.getElem?_toArray, List.getElem?_cons_zero, List.getElem?_cons_succ, Sem.run_bind, run_underlying hu, Result.andThen_ok, hsz, Sem.run_pure, Bool.false_eq_true, if_false, hnum, hroom, if_true, Bool.not_false, ha]
      cases ad <;> simp only [Sem.run_bind, Sem.run_pure, Option.elim]
    · simp only [if_true] at hnum
      obtain ⟨kk, rfl⟩ := hnum
      have hwr : IntKind.i64.wrap (n : Int) = n := by rw [IntKind.wrap_i64]; omega
      have hb2 : ¬ ((n : Int) * (it.bytes : Int) > 2 ^ 48) := by
        rw [hb, ← Int.natCast_mul]; omega
      have hn : ¬ ((n : Int) < 0) := by omega
      simp only [Bool.not_true, Bool.false_eq_true, if_false] at ha
      simp only [Builtin.append_, ht, e, List.getElem?_toArray, List.getElem?_cons_zero, List.getElem?_cons_succ, Sem.run_bind, run_underlying hu, run_underlying e2, Result.andThen_ok, hsz, hti, Sem.run_pure, if_true, asInt, asIntOf, hwr, hn, hb2, if_false, Int.toNat_natCast, hroom, Bool.not_true, Bool.false_eq_true, ha]
      cases ad <;> simp only [Sem.run_bind, Sem.run_pure, Option.elim]
    · simp only [Bool.false_eq_true, if_false] at hnum
      simp only [Bool.not_false, if_true] at ha
      simp only [Builtin.append_, ht, e, List.getElem?_toArray, List.getElem?_cons_zero, List.getElem?_cons_succ, Sem.run_bind, run_underlying hu, run_underlying e2, Result.andThen_ok, hsz, Sem.run_pure, notInt hd, Bool.false_eq_true, if_false, hnum, hroom, if_true, Bool.not_false, ha]
      cases ad <;> simp only [Sem.run_bind, Sem.run_pure, Option.elim]
  rw [key]
  cases ad with
  | none => simp only at hst; subst hst; rfl
  | some a => simp only at hst; simp only [Option.elim, hst, Result.andThen_ok]

theorem run_askRoom (b : Nat) (w : World) : (askRoom b).run P w = .ok () w := by
  unfold askRoom; split <;> rfl

/-- append, where there is none. -/
theorem run_grow (h : News P ρ w elem size zeros x n new us) {t : TypeId} {ts : Array TypeId} {ty : TypeId} (ht : ts[0]? = some t) (hu : P.underlying t = some (.slice elem)) (hzs : zerosArg P ts = some zeros)
    {it : TypeInfo} {z : Value} (hi : P.info? elem = some it) (hz : it.zero = some z) (hs : it.size = size) (hb : it.bytes = bytes) (h1 : n * bytes ≤ 140737488355328) (h2 : n ≤ 140737488355328)
    {ad : Option Addr} {sLen sCap : Nat} (hroom : ¬ sLen + n ≤ sCap) (h3 : (sLen + n) * bytes ≤ 140737488355328) (h4 : sLen + n ≤ 140737488355328) {vs : List Value}
    (hold : ∀ w', w'.heap = w.heap → (Builtin.firstCells size sLen (.slice ad sLen sCap)).run P w' = .ok ⟨vs⟩ w') :
    (Builtin.append_ ts ty #[.slice ad sLen sCap, x]).run P w = .ok (.slice (some ⟨w.heap.size, 0, none⟩) (sLen + n) (grownCap w (sLen + n) sCap elem))
      (w.drew.alloc (.cells (⟨vs⟩ ++ ⟨us⟩ ++ Builtin.zeroCells z.cells (grownCap w (sLen + n) sCap elem - (sLen + n))) elem)) := by
  have ha := run_app h w.drew rfl
  have ho := hold w.drew rfl
  have hfit := growslice_fits (need := sLen + n) (old := sCap) (bytes := bytes) (by omega) (by omega)
  have hmax : ¬ (((sLen + n : Nat) : Int) > IntKind.i64.max) := by
    have : IntKind.i64.max = 9223372036854775807 := rfl
    omega
  have hbig : ¬ (Builtin.nextslicecap (sLen + n) sCap * bytes > 2 ^ 48) := by omega
  have hti : ∀ w, (typeInfo elem).run P w = .ok it w := fun w => by simp [typeInfo, hi]
  have hzv : ∀ w, (zeroValue elem).run P w = .ok z w := fun w => by simp [zeroValue, typeInfo, hi, hz]
  have hsz : (sizeOf elem).run P w = .ok size w := by simp [sizeOf, typeInfo, hi, hs]
  have hch : (choose (.appendCap (sLen + n) sCap elem)).run P w = .ok (grownCap w (sLen + n) sCap elem) w.drew := by rw [run_choose_drew]; rfl
  have hnum := h.num
  rcases zerosArg_inv hzs with ⟨e, rfl⟩ | ⟨u, d, e, e2, ⟨k, rfl, rfl⟩ | ⟨hd, rfl⟩⟩
  · simp only [Bool.false_eq_true, if_false] at hnum
    simp only [Bool.not_false, if_true] at ha
    simp only [Builtin.append_, ht, e, List.getElem?_toArray, List.getElem?_cons_zero, List.getElem?_cons_succ, Sem.run_bind, run_underlying hu, Result.andThen_ok, hsz, Sem.run_pure, Bool.false_eq_true, if_false, hnum, hroom, hti, hmax, false_and, hb, hbig, hch, run_askRoom, ho, ha, hzv,
      Bool.not_false, if_true, newRow, run_newObj_alloc, World.size_drew]
  · simp only [if_true] at hnum
    obtain ⟨kk, rfl⟩ := hnum
    have hwr : IntKind.i64.wrap (n : Int) = n := by rw [IntKind.wrap_i64]; omega
    have hb2 : ¬ ((n : Int) * (bytes : Int) > 2 ^ 48) := by
      rw [← Int.natCast_mul]; omega
    have hn : ¬ ((n : Int) < 0) := by omega
    simp only [Bool.not_true, Bool.false_eq_true, if_false] at ha
    simp only [Builtin.append_, ht, e, List.getElem?_toArray, List.getElem?_cons_zero, List.getElem?_cons_succ, Sem.run_bind, run_underlying hu, run_underlying e2, Result.andThen_ok, hsz, Sem.run_pure, if_true, asInt, asIntOf, hwr, hn, hb2, if_false, Int.toNat_natCast, hroom, hti, hmax, false_and, hb, hbig, hch, run_askRoom, ho, ha, hzv,
      Bool.not_true, Bool.false_eq_true, newRow, run_newObj_alloc, World.size_drew]
  · simp only [Bool.false_eq_true, if_false] at hnum
    simp only [Bool.not_false, if_true] at ha
    simp only [Builtin.append_, ht, e, List.getElem?_toArray, List.getElem?_cons_zero, List.getElem?_cons_succ, Sem.run_bind, run_underlying hu, run_underlying e2, Result.andThen_ok, hsz, Sem.run_pure, notInt hd, Bool.false_eq_true, if_false, hnum, hroom, hti, hmax, false_and, hb, hbig, hch, run_askRoom, ho, ha, hzv,
      Bool.not_false, if_true, newRow, run_newObj_alloc, World.size_drew]
end
end Go.Ab
