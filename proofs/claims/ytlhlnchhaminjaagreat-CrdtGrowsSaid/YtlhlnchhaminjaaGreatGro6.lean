/- Part 6 of the ground of the proofs of this seat (texts C1 to C10). By an AI agent. -/
import Derived.Test.YtlhlnchhaminjaaGreatGro5
set_option maxRecDepth 10000
set_option linter.unusedVariables false
set_option linter.unusedSimpArgs false
namespace Go.Ab.Crw
open Go Go.Ab Go.Ab.Dot
theorem bytesLess_lt : ∀ (x y : List UInt8), Op.bytesLess x y = decide (x < y)
  | [], [] => by simp [Op.bytesLess]
  | _ :: _, [] => by simp [Op.bytesLess]
  | [], _ :: _ => by simp [Op.bytesLess]
  | a :: x, b :: y => by
    rw [Op.bytesLess, bytesLess_lt x y]
    simp only [List.cons_lt_cons_iff]
    by_cases h1 : a < b <;> by_cases h2 : a = b <;> by_cases h3 : x < y <;> simp [h1, h2, h3]
structure LO {β : Type} (lt : β → β → Bool) : Prop where
  irrefl : ∀ x, lt x x = false
  trans : ∀ x y z, lt x y = true → lt y z = true → lt x z = true
  tri : ∀ x y, lt x y = false → lt y x = false → x = y
def lex {α β : Type} [DecidableEq β] (k : α → β) (lt1 : β → β → Bool) (lt2 : α → α → Bool) (x y : α) : Bool := lt1 (k x) (k y) || (decide (k x = k y) && lt2 x y)
theorem lex_swo {α β : Type} [DecidableEq β] {k : α → β} {lt1 : β → β → Bool} {lt2 : α → α → Bool} (h1 : LO lt1) (h2 : Sort.SWO lt2) : Sort.SWO (lex k lt1 lt2) where
  irrefl x := by simp [lex, h1.irrefl, h2.irrefl]
  trans x y z a b := by
    simp only [lex, Bool.or_eq_true, Bool.and_eq_true, decide_eq_true_eq] at *
    rcases a with a | ⟨a, a'⟩ <;> rcases b with b | ⟨b, b'⟩
    · exact .inl (h1.trans _ _ _ a b)
    · exact .inl (by rw [← b]; exact a)
    · exact .inl (by rw [a]; exact b)
    · exact .inr ⟨a.trans b, h2.trans _ _ _ a' b'⟩
  ntrans x y z a b := by
    simp only [lex, Bool.or_eq_false_iff, Bool.and_eq_false_iff, decide_eq_false_iff_not] at *
    obtain ⟨a1, a2⟩ := a
    obtain ⟨b1, b2⟩ := b
    have c1 : lt1 (k x) (k z) = false := by
      cases h : lt1 (k x) (k z) with
      | false => rfl
      | true =>
        by_cases e : k x = k y
        · rw [e, b1] at h; cases h
        · have : lt1 (k y) (k x) = true := by
            cases h' : lt1 (k y) (k x) with
            | true => rfl
            | false => exact absurd (h1.tri _ _ a1 h') e
          have := h1.trans _ _ _ this h
          rw [b1] at this; cases this
    refine ⟨c1, ?_⟩
    by_cases e : k x = k z
    · right
      by_cases e2 : k x = k y
      · have e3 : k y = k z := e2.symm.trans e
        rcases a2 with a2 | a2
        · exact absurd e2 a2
        · rcases b2 with b2 | b2
          · exact absurd e3 b2
          · exact h2.ntrans _ _ _ a2 b2
      · have h3 : lt1 (k y) (k x) = false := by rw [e]; exact b1
        exact absurd (h1.tri _ _ a1 h3) e2
    · exact .inl e
theorem lo_nat : LO (fun x y : Nat => decide (x < y)) := ⟨by simp, by simp; omega, by simp; omega⟩
theorem lo_int : LO (fun x y : Int => decide (x < y)) := ⟨by simp, by simp; omega, by simp; omega⟩
theorem lo_str : LO (fun x y : List UInt8 => decide (x < y)) where
  irrefl x := by simp [List.lt_irrefl]
  trans x y z h1 h2 := by simp only [decide_eq_true_eq] at *; exact List.lt_trans h1 h2
  tri x y h1 h2 := by
    simp only [decide_eq_false_iff_not, List.not_lt] at *
    exact List.le_antisymm h2 h1
theorem swo_none {α : Type} : Sort.SWO (fun _ _ : α => false) := ⟨fun _ => rfl, (fun _ _ _ h _ => by cases h), (fun _ _ _ _ _ => rfl)⟩
def ltE : Ent → Ent → Bool := lex (fun x : Ent => x.2.1) (fun x y => decide (x < y)) (lex (fun x : Ent => x.2.2.1) (fun x y => decide (x < y)) (lex (fun x : Ent => x.1.2) (fun x y : Nat => decide (x < y)) (lex (fun x : Ent => x.1.1) (fun x y : Int => decide (x < y)) fun _ _ => false)))
theorem swo_ltE : Sort.SWO ltE := lex_swo lo_str (lex_swo lo_str (lex_swo lo_nat (lex_swo lo_int swo_none)))
def c3 {β : Type} (lt : β → β → Bool) (x y : β) : Int := if lt x y then -1 else if lt y x then 1 else 0
theorem c3_cases {β : Type} {lt : β → β → Bool} (h : LO lt) (x y : β) : (c3 lt x y = -1 ∧ lt x y = true ∧ x ≠ y) ∨ (c3 lt x y = 1 ∧ lt x y = false ∧ x ≠ y) ∨ (c3 lt x y = 0 ∧ lt x y = false ∧ x = y) := by
  unfold c3
  cases h1 : lt x y with
  | true => exact .inl ⟨rfl, rfl, fun e => by rw [e, h.irrefl] at h1; cases h1⟩
  | false =>
    cases h2 : lt y x with
    | true => exact .inr (.inl ⟨rfl, rfl, fun e => by rw [e, h.irrefl] at h2; cases h2⟩)
    | false => exact .inr (.inr ⟨rfl, rfl, h.tri _ _ h1 h2⟩)
def or3 (a b : Int) : Int := if a ≠ 0 then a else b
def Is3 {α : Type} (lt : α → α → Bool) (f : α → α → Int) : Prop := ∀ x y, decide (f x y < 0) = lt x y
theorem is3_lex {α β : Type} [DecidableEq β] {k : α → β} {lt1 : β → β → Bool} {lt2 : α → α → Bool} {f : α → α → Int} (h1 : LO lt1) (h2 : Is3 lt2 f) : Is3 (lex k lt1 lt2) (fun x y => or3 (c3 lt1 (k x) (k y)) (f x y)) := by
  intro x y
  unfold lex
  show decide (or3 (c3 lt1 (k x) (k y)) (f x y) < 0) = _
  unfold or3
  rcases c3_cases h1 (k x) (k y) with ⟨a, b, c⟩ | ⟨a, b, c⟩ | ⟨a, b, c⟩
  · rw [a, b]; rfl
  · rw [a, b, decide_eq_false c]; rfl
  · rw [a, b, decide_eq_true c, if_neg (by simp), h2 x y]; rfl
theorem is3_none {α : Type} : Is3 (fun _ _ : α => false) (fun _ _ => 0) := fun _ _ => rfl
def Cmp3C {α : Type} (mk : α → AV) (lt : α → α → Bool) (c : CallT) : Prop := ∀ {M : RM} {x y : α} {Q : PostV}, Q (N .i64 (c3 lt x y)) M → c [mk x, mk y] M Q
def NaNF {α : Type} (mk : α → AV) (c : CallT) : Prop := ∀ {M : RM} {x : α} {Q : PostV}, Q (Bo false) M → c [mk x] M Q
theorem nanS_spec : NaNF (α := List UInt8) (fun s => St s) fun args M Q => ∃ a0, args = [a0] ∧ W_isNaN_string a0 M Q := by
  intro M x Q hQ
  refine ⟨_, rfl, ?_⟩
  unfold W_isNaN_string
  rw [strW_neq, show (x != x) = false by simp]
  exact hQ
theorem nanU_spec : NaNF (α := Nat) (fun n => N .u64 (n : Int)) fun args M Q => ∃ a0, args = [a0] ∧ Dot.W_isNaN_uint64 a0 M Q := by
  intro M x Q hQ
  exact ⟨_, rfl, isNaN_spec hQ⟩
theorem nanI_spec : NaNF (α := Int) (fun n => N .i64 n) fun args M Q => ∃ a0, args = [a0] ∧ W_isNaN_int a0 M Q := by
  intro M x Q hQ
  refine ⟨_, rfl, ?_⟩
  unfold W_isNaN_int
  rw [intW_neq, show (x != x) = false by simp]
  exact hQ
theorem cmpS_spec {cn : CallT} (hn : NaNF (α := List UInt8) (fun s => St s) cn) : Cmp3C (α := List UInt8) (fun s => St s) (fun x y => decide (x < y)) fun args M Q => ∃ a0 a1, args = [a0, a1] ∧ W_Compare_string cn a0 a1 M Q := by
  intro M x y Q hQ
  refine ⟨_, _, rfl, ?_⟩
  unfold W_Compare_string
  refine hn (hn ?_)
  rw [condF, condF, strW_lss, bytesLess_lt]
  unfold c3 at hQ
  by_cases h1 : x < y
  · rw [decide_eq_true h1, condT]
    rw [if_pos (by simpa using h1)] at hQ; exact hQ
  · rw [decide_eq_false h1, condF, strW_gtr, bytesLess_lt, decide_eq_false h1, Bool.false_or]
    rw [if_neg (by simpa using h1)] at hQ
    by_cases h2 : y < x
    · have hne : x ≠ y := fun e => by subst e; exact List.lt_irrefl _ h2
      rw [show (x == y) = false by simpa using hne, Bool.not_false, condT]
      rw [if_pos (by simpa using h2)] at hQ; exact hQ
    · have he : x = y := lo_str.tri x y (by simpa using h1) (by simpa using h2)
      rw [show (x == y) = true by simpa using he, Bool.not_true, condF]
      rw [if_neg (by simpa using h2)] at hQ; exact hQ
theorem cmpU_spec {cn : CallT} (hn : NaNF (α := Nat) (fun n => N .u64 (n : Int)) cn) : Cmp3C (α := Nat) (fun n => N .u64 (n : Int)) (fun x y => decide (x < y)) fun args M Q => ∃ a0 a1, args = [a0, a1] ∧ W_Compare_uint64 cn a0 a1 M Q := by
  intro M x y Q hQ
  refine ⟨_, _, rfl, ?_⟩
  unfold W_Compare_uint64
  refine hn (hn ?_)
  rw [condF, condF, intW_lss]
  unfold c3 at hQ
  by_cases h1 : x < y
  · rw [show decide ((x : Int) < (y : Int)) = true by simpa using h1, condT]
    rw [if_pos (by simpa using h1)] at hQ; exact hQ
  · rw [show decide ((x : Int) < (y : Int)) = false by simpa using h1, condF, intW_gtr]
    rw [if_neg (by simpa using h1)] at hQ
    by_cases h2 : y < x
    · rw [show decide ((x : Int) > (y : Int)) = true by simpa using h2, condT]
      rw [if_pos (by simpa using h2)] at hQ; exact hQ
    · rw [show decide ((x : Int) > (y : Int)) = false by simpa using h2, condF]
      rw [if_neg (by simpa using h2)] at hQ; exact hQ
theorem cmpI_spec {cn : CallT} (hn : NaNF (α := Int) (fun n => N .i64 n) cn) : Cmp3C (α := Int) (fun n => N .i64 n) (fun x y => decide (x < y)) fun args M Q => ∃ a0 a1, args = [a0, a1] ∧ W_Compare_int cn a0 a1 M Q := by
  intro M x y Q hQ
  refine ⟨_, _, rfl, ?_⟩
  unfold W_Compare_int
  refine hn (hn ?_)
  rw [condF, condF, intW_lss]
  unfold c3 at hQ
  by_cases h1 : x < y
  · rw [show decide (x < y) = true by simpa using h1, condT]
    rw [if_pos (by simpa using h1)] at hQ; exact hQ
  · rw [show decide (x < y) = false by simpa using h1, condF, intW_gtr]
    rw [if_neg (by simpa using h1)] at hQ
    by_cases h2 : y < x
    · rw [show decide (x > y) = true by simpa using h2, condT]
      rw [if_pos (by simpa using h2)] at hQ; exact hQ
    · rw [show decide (x > y) = false by simpa using h2, condF]
      rw [if_neg (by simpa using h2)] at hQ; exact hQ
def INT : Enc Int := ⟨1, fun n => [N .i64 n], fun _ => rfl, fun _ => rfl⟩
def or3L : List Int → Int
  | [] => 0
  | x :: xs => or3 x (or3L xs)
def OrC (c : CallT) : Prop := ∀ {M : RM} {v : AV} {xs : List Int} {Q : PostV}, Sl INT M v xs → xs.length ≤ 100 → Q (N .i64 (or3L xs)) M → c [v] M Q
theorem or_spec : OrC fun args M Q => ∃ a0, args = [a0] ∧ W_Or_int a0 M Q := by
  intro M v xs Q hs hl hQ
  refine ⟨_, rfl, ?_⟩
  unfold W_Or_int
  rw [SlR.len hs]
  refine loopW_ind (fun m ys M3 => ∃ i : Nat, m = xs.length - i ∧ ys = [N .i64 (i : Int)] ∧ i ≤ xs.length ∧ M3 = M ∧ or3L xs = or3L (xs.drop i)) _ ⟨0, rfl, rfl, Nat.zero_le _, rfl, rfl⟩ ?_
  rintro next m ys M3 hnext ⟨i, rfl, rfl, hi, rfl, hm⟩
  dsimp only [nthD]
  rw [intW_lss]
  refine condB (fun hlt => ?_) (fun hge => ?_)
  · have hlt : i < xs.length := by simpa using hlt
    obtain ⟨b1, o1, _, _, hidx1, hc1⟩ := Sl.at1 (E := INT) hs (i : Int) hlt
    rw [hidx1, load1_cell (hc1 _ rfl), intW_neq]
    rw [List.drop_eq_getElem_cons hlt, or3L, or3] at hm
    by_cases h0 : xs[i] = 0
    · rw [show (xs[i] != 0) = false by simp [h0], condF, intW_add, i64_succ (by omega)]
      rw [if_neg (by simp [h0])] at hm
      exact hnext _ _ _ (by omega) ⟨i + 1, rfl, rfl, hlt, rfl, hm⟩
    · rw [show (xs[i] != 0) = true by simp [h0], condT]
      rw [if_pos (by simp [h0])] at hm
      rw [hm] at hQ
      exact hQ
  · have he : i = xs.length := by simp at hge; omega
    subst he
    rw [List.drop_length] at hm
    rw [hm] at hQ
    exact hQ
theorem rowI2 {T : Nat} {M : RM} {x y : Int} {K : RB → (Nat → AV) → Prop} : rowsW T 2 [(N .i64 0)] [(0, 1, N .i64 x), (1, 1, N .i64 y)] K = K (.row [N .i64 x, N .i64 y] false T 0) (fun b => .slc b 0 2 (.ex 2)) := by
  apply propext; unfold rowsW
  constructor
  · rintro ⟨l, h, hk⟩; cases h; exact hk
  · intro hk; exact ⟨_, rfl, hk⟩
theorem rowI3 {T : Nat} {M : RM} {x y z : Int} {K : RB → (Nat → AV) → Prop} : rowsW T 3 [(N .i64 0)] [(0, 1, N .i64 x), (1, 1, N .i64 y), (2, 1, N .i64 z)] K = K (.row [N .i64 x, N .i64 y, N .i64 z] false T 0) (fun b => .slc b 0 3 (.ex 3)) := by
  apply propext; unfold rowsW
  constructor
  · rintro ⟨l, h, hk⟩; cases h; exact hk
  · intro hk; exact ⟨_, rfl, hk⟩
def f3D (x y : Dot) : Int := or3 (c3 (fun x y : Nat => decide (x < y)) x.2 y.2) (or3 (c3 (fun x y : Int => decide (x < y)) x.1 y.1) 0)
def f3E (x y : Ent) : Int := or3 (c3 (fun x y : List UInt8 => decide (x < y)) x.2.1 y.2.1) (or3 (c3 (fun x y : List UInt8 => decide (x < y)) x.2.2.1 y.2.2.1) (f3D x.1 y.1))
theorem is3E : Is3 ltE f3E := is3_lex (k := fun x : Ent => x.2.1) lo_str (is3_lex (k := fun x : Ent => x.2.2.1) lo_str (is3_lex (k := fun x : Ent => x.1.2) lo_nat (is3_lex (k := fun x : Ent => x.1.1) lo_int is3_none)))
def ByDotC (c : CallT) : Prop := ∀ {M : RM} {x y : Dot} {Q : PostV}, (∀ M', Keep [] M M' → Q (N .i64 (f3D x y)) M') → c [.agg (dcells x), .agg (dcells y)] M Q
theorem byDot_spec {TD TI : Nat} {cu ci co : CallT} (hu : Cmp3C (α := Nat) (fun n => N .u64 (n : Int)) (fun x y => decide (x < y)) cu) (hi : Cmp3C (α := Int) (fun n => N .i64 n) (fun x y => decide (x < y)) ci) (ho : OrC co) :
    ByDotC fun args M Q => ∃ a0 a1, args = [a0, a1] ∧ W_byDot TD cu ci TI co a0 a1 M Q := by
  intro M x y Q hQ
  refine ⟨_, _, rfl, ?_⟩
  unfold W_byDot
  rw [boxW_agg rfl (by simp), newW_eq, boxW_agg rfl (by simp), newW_eq]
  have k1 : Keep [] M (M.push (.row (dcells x) false TD 0)) := (Keep.refl _ _).push _
  have k2 : Keep [] M ((M.push (.row (dcells x) false TD 0)).push (.row (dcells y) false TD 0)) := k1.push _
  have h2 : ((M.push (.row (dcells x) false TD 0)).push (.row (dcells y) false TD 0)).heap (M.push (.row (dcells x) false TD 0)).next = some (.row (dcells y) false TD 0) := RM.push_new _
  have h1 : ((M.push (.row (dcells x) false TD 0)).push (.row (dcells y) false TD 0)).heap M.next = some (.row (dcells x) false TD 0) := heap_push_lt (RM.push_new _) (by simp [RM.push])
  generalize (M.push (.row (dcells x) false TD 0)).push (.row (dcells y) false TD 0) = M2 at *
  generalize (M.push (.row (dcells x) false TD 0)).next = s at *
  rw [fld0, load1_at h1 rfl, fld0, load1_at h2 rfl, fld0, load1_at h1 rfl, fld0, load1_at h2 rfl]
  refine hu ?_
  rw [load1_at h1 rfl]
  refine ⟨rfl, ?_⟩
  rw [load1_at h2 rfl]
  refine ⟨rfl, ?_⟩
  refine hi ?_
  rw [rowI2 (M := M2), newR_eq]
  refine ho (xs := [_, _]) ?_ (by simp) (hQ _ (k2.push _))
  exact Sl.new (E := INT) [_, _]
def CompareC (c : CallT) : Prop := ∀ {M : RM} {x y : Ent} {Q : PostV}, (∀ M', Keep [] M M' → Q (N .i64 (f3E x y)) M') → c [.agg (EntE.cells x), .agg (EntE.cells y)] M Q
theorem compare_spec {TE TI : Nat} {cs cd co : CallT} (hs : Cmp3C (α := List UInt8) (fun s => St s) (fun x y => decide (x < y)) cs) (hd : ByDotC cd) (ho : OrC co) :
    CompareC fun args M Q => ∃ a0 a1, args = [a0, a1] ∧ W_compare TE cs cd TI co a0 a1 M Q := by
  intro M x y Q hQ
  refine ⟨_, _, rfl, ?_⟩
  unfold W_compare
  rw [boxW_agg rfl (by rw [EntE.len]; decide), newW_eq, boxW_agg rfl (by rw [EntE.len]; decide), newW_eq]
  have k1 : Keep [] M (M.push (.row (EntE.cells x) false TE 0)) := (Keep.refl _ _).push _
  have k2 : Keep [] M ((M.push (.row (EntE.cells x) false TE 0)).push (.row (EntE.cells y) false TE 0)) := k1.push _
  have h2 : ((M.push (.row (EntE.cells x) false TE 0)).push (.row (EntE.cells y) false TE 0)).heap (M.push (.row (EntE.cells x) false TE 0)).next = some (.row (EntE.cells y) false TE 0) := RM.push_new _
  have h1 : ((M.push (.row (EntE.cells x) false TE 0)).push (.row (EntE.cells y) false TE 0)).heap M.next = some (.row (EntE.cells x) false TE 0) := heap_push_lt (RM.push_new _) (by simp [RM.push])
  have n1 : M.next < ((M.push (.row (EntE.cells x) false TE 0)).push (.row (EntE.cells y) false TE 0)).next := by simp [RM.push]; omega
  have n2 : (M.push (.row (EntE.cells x) false TE 0)).next < ((M.push (.row (EntE.cells x) false TE 0)).push (.row (EntE.cells y) false TE 0)).next := by simp [RM.push]
  generalize (M.push (.row (EntE.cells x) false TE 0)).push (.row (EntE.cells y) false TE 0) = M2 at *
  generalize (M.push (.row (EntE.cells x) false TE 0)).next = s at *
  have ld : ∀ {M' : RM} {b : Nat} {z : Ent}, M'.heap b = some (.row (EntE.cells z) false TE 0) → ∀ K : AV → Prop, loadN M' (.ptr b 0) 2 K = K (.agg (dcells z.1)) := fun {M' b z} h K => by
    rw [loadN_ptr, RM.loads_row h (by show 0 + 2 ≤ 5; decide)]
    simp [EntE]
  rw [fld0, load1_at h1 rfl, fld0, load1_at h2 rfl, fld0, load1_at h1 rfl, fld0, load1_at h2 rfl, fld0, ld h1, fld0, ld h2]
  refine hs ?_
  rw [load1_at h1 rfl]
  refine ⟨rfl, ?_⟩
  rw [load1_at h2 rfl]
  refine ⟨rfl, ?_⟩
  rw [ld h1]
  refine ⟨rfl, ?_⟩
  rw [ld h2]
  refine ⟨rfl, ?_⟩
  refine hs ?_
  rw [ld h1]
  refine ⟨rfl, ?_⟩
  rw [ld h2]
  refine ⟨rfl, ?_⟩
  refine hd fun M3 k3 => ?_
  rw [rowI3 (M := M3), newR_eq]
  refine ho (xs := [_, _, _]) (Sl.new (E := INT) [_, _, _]) (by simp) ?_
  have e : or3L [c3 (fun x y : List UInt8 => decide (x < y)) x.2.1 y.2.1, c3 (fun x y : List UInt8 => decide (x < y)) x.2.2.1 y.2.2.1, f3D x.1 y.1] = f3E x y := by
    simp only [or3L, f3E]
    congr 2
    unfold or3; split <;> simp_all
  rw [e]
  exact hQ _ ((k2.trans k3).push _)
theorem cmpE_of {cv : FuncId → CallT} {n : Nat} (h : CompareC (cv n)) : CmpC EntE ltE (callV cv (.fn (.func n) [] [])) := by
  intro M x y Q hQ
  exact ⟨n, [], [], rfl, h fun M' k => hQ _ _ (is3E x y) k⟩
end Go.Ab.Crw
set_option maxRecDepth 10000
set_option linter.unusedVariables false
set_option linter.unusedSimpArgs false
namespace Go.Ab.Crw
open Go Go.Ab Go.Ab.Dot
abbrev EvT := Dot × (Int × (List UInt8 × (List UInt8 × List UInt8)))
def EvE : Enc EvT := ⟨6, fun e => dcells e.1 ++ [N .i64 e.2.1, St e.2.2.1, St e.2.2.2.1, St e.2.2.2.2], fun _ => rfl, fun _ => rfl⟩
abbrev evRow (e : EvT) (kv : AV) : List AV := EvE.cells e ++ [kv]
theorem orP {M : RM} {c p : Bool} {f : KR → Prop} {P : RM → Prop} {G : AV → RM → Prop} (h0 : P M) (hf : c = false → ∀ k : KR, (∀ M', P M' → k (Bo p) M' none) → f k) (hG : ∀ M', P M' → G (Bo (c || p)) M') :
    guardK (Bo c) false f (fun k => k .undef M none) (fun t M' b => pickW (Bo c) (Bo true) t fun u => G u M') := by
  cases c with
  | true => rw [guardK_TF]; dsimp only; rw [pickT]; exact hG M h0
  | false => rw [guardK_FF]; exact hf rfl _ fun M' h => by rw [pickF]; exact hG M' h
theorem orM' {M : RM} {c p : Bool} {f : PostV → Prop} {G : AV → RM → Prop} (hf : c = false → ∀ k : PostV, k (Bo p) M → f k) (hG : G (Bo (c || p)) M) :
    guardM (Bo c) false f (fun k => k .undef M) (fun t M' => pickW (Bo c) (Bo true) t fun u => G u M') := by
  cases c with
  | true => rw [guardM_TF]; dsimp only; rw [pickT]; exact hG
  | false => rw [guardM_FF]; exact hf rfl _ (by rw [pickF]; exact hG)
theorem tailP {M : RM} {c q r : Bool} {f0 : KR → Prop} {f : RM → KR → Prop} {P : RM → Prop} {G : AV → RM → Prop} (h0 : P M) (hf0 : c = false → ∀ k : KR, k (Bo q) M none → f0 k) (hf : c = false → q = true → ∀ k : KR, (∀ M', P M' → k (Bo r) M' none) → f M k) (hG : ∀ M', P M' → G (Bo (c || (q && r))) M') :
    guardK (Bo c) false f0 (fun k => k .undef M none) fun t45 M1 b1 => guardK t45 true (f M1) (fun k => k .undef M1 none) fun t54 M2 b2 => guardK (Bo c) false (fun k3 => pickW t45 t54 (Bo false) fun t55 => k3 t55 M2 none) (fun k => k .undef M2 none) fun t55 M3 b3 => pickW (Bo c) (Bo true) t55 fun t56 => G t56 M3 := by
  cases c with
  | true => rw [guardK_TF]; dsimp only; rw [guardK_U]; dsimp only; rw [guardK_TF]; dsimp only; rw [pickT]; exact hG M h0
  | false =>
    rw [guardK_FF]
    refine hf0 rfl _ ?_
    cases q with
    | false => rw [guardK_FT]; dsimp only; rw [guardK_FF]; dsimp only; rw [pickF, pickF]; exact hG M h0
    | true =>
      rw [guardK_TT]
      refine hf rfl rfl _ fun M' h => ?_
      rw [guardK_FF]; dsimp only; rw [pickT, pickF]; exact hG M' h
theorem tailM {M : RM} {c q r : Bool} {f0 : PostV → Prop} {f : RM → PostV → Prop} {G : AV → RM → Prop} (hf0 : c = false → ∀ k : PostV, k (Bo q) M → f0 k) (hf : c = false → q = true → ∀ k : PostV, k (Bo r) M → f M k) (hG : G (Bo (c || (q && r))) M) :
    guardM (Bo c) false f0 (fun k => k .undef M) fun t45 M1 => guardM t45 true (f M1) (fun k => k .undef M1) fun t54 M2 => guardM (Bo c) false (fun k3 => pickW t45 t54 (Bo false) fun t55 => k3 t55 M2) (fun k => k .undef M2) fun t55 M3 => pickW (Bo c) (Bo true) t55 fun t56 => G t56 M3 := by
  cases c with
  | true => rw [guardM_TF]; dsimp only; rw [guardM_U]; dsimp only; rw [guardM_TF]; dsimp only; rw [pickT]; exact hG
  | false =>
    rw [guardM_FF]
    refine hf0 rfl _ ?_
    cases q with
    | false => rw [guardM_FT]; dsimp only; rw [guardM_FF]; dsimp only; rw [pickF, pickF]; exact hG
    | true =>
      rw [guardM_TT]
      refine hf rfl rfl _ ?_
      rw [guardM_FF]; dsimp only; rw [pickT, pickF]; exact hG
def lessB (a b : Dot) : Bool := decide (a.2 < b.2) || (decide (a.2 = b.2) && decide (a.1 < b.1))
def LessDC (c : CallT) : Prop := ∀ {M : RM} {a b : Dot} {Q : PostV}, (∀ M', Keep [] M M' → Q (Bo (lessB a b)) M') → c [.agg (dcells a), .agg (dcells b)] M Q
theorem less_tail {M1 : RM} {T m1 m2 : Nat} {a b : Dot} {K : AV → RM → Prop} (h1 : M1.heap m1 = some (.row (dcells a) false T 0)) (h2 : M1.heap m2 = some (.row (dcells b) false T 0)) (hK : K (Bo (lessB a b)) M1) :
    fldW (.ptr m1 0) 1 fun t5 => load1 M1 t5 fun t6 => fldW (.ptr m2 0) 1 fun t7 => load1 M1 t7 fun t8 => intW .lss t6 t8 fun t9 =>
    guardM t9 false (fun k' => fldW (.ptr m1 0) 1 fun t11 => load1 M1 t11 fun t12 => fldW (.ptr m2 0) 1 fun t13 => load1 M1 t13 fun t14 => intW .eql t12 t14 fun t15 => k' t15 M1) (fun k => k .undef M1) fun t16 M_18 =>
    guardM t16 true (fun k' => fldW (.ptr m1 0) 0 fun t17 => load1 M_18 t17 fun t18 => fldW (.ptr m2 0) 0 fun t19 => load1 M_18 t19 fun t20 => intW .lss t18 t20 fun t21 => k' t21 M_18) (fun k => k .undef M_18) fun t21_32 M_33 =>
    guardM t9 false (fun k_34 => pickW t16 t21_32 (Bo false) fun t22 => k_34 t22 M_33) (fun k => k .undef M_33) fun t22_35 M_36 =>
    pickW t9 (Bo true) t22_35 fun t23 => K t23 M_36 := by
  rw [fld0, load1_at h1 rfl, fld0, load1_at h2 rfl, intW_lss, show decide ((a.2 : Int) < (b.2 : Int)) = decide (a.2 < b.2) by simp]
  refine tailM (q := decide (a.2 = b.2)) (r := decide (a.1 < b.1)) (fun _ k hk => ?_) (fun _ _ k hk => ?_) hK
  · rw [fld0, load1_at h1 rfl, fld0, load1_at h2 rfl, intW_eql, show ((a.2 : Int) == (b.2 : Int)) = decide (a.2 = b.2) by by_cases h : a.2 = b.2 <;> simp [h]; omega]
    exact hk
  · rw [fld0, load1_at h1 rfl, fld0, load1_at h2 rfl, intW_lss]
    exact hk
theorem lessD_spec {T : Nat} : LessDC fun args M Q => ∃ a0 a1, args = [a0, a1] ∧ W_Less T a0 a1 M Q := by
  intro M a b Q hQ
  refine ⟨_, _, rfl, ?_⟩
  unfold W_Less
  simp only [fuseM]
  rw [boxW_agg rfl (by simp), newW_eq, boxW_agg rfl (by simp), newW_eq]
  exact less_tail (heap_push_lt (RM.push_new _) (by simp [RM.push])) (RM.push_new _) (hQ _ (((Keep.refl _ _).push _).push _))
theorem refLess_spec {T : Nat} : LessDC fun args M Q => ∃ a0 a1, args = [a0, a1] ∧ W_Less_2 T a0 a1 M Q := by
  intro M a b Q hQ
  refine ⟨_, _, rfl, ?_⟩
  unfold W_Less_2
  simp only [fuseM]
  rw [boxW_agg rfl (by simp), newW_eq, boxW_agg rfl (by simp), newW_eq]
  exact less_tail (heap_push_lt (RM.push_new _) (by simp [RM.push])) (RM.push_new _) (hQ _ (((Keep.refl _ _).push _).push _))
def names (c f v : List UInt8) : Bool := decide (1 ≤ c.length) && decide (c.length ≤ 64) && decide (f.length ≤ 64) && decide (v.length ≤ 512)
def prevOk : Option Dot → Dot → Bool
  | none, _ => true
  | some q, k => lessB q k
def killsOk (d : Dot) (p : Option Dot) : List Dot → Bool
  | [] => true
  | k :: ks => good k && !decide (k = d) && prevOk p k && killsOk d (some k) ks
def opOk (e : EvT) : Bool := (decide (e.2.1 = 1) && decide (e.2.2.2.1 ≠ [])) || (decide (e.2.1 = 2) && decide (e.2.2.2.2 = []))
def goodEv (e : EvT) (ks : List Dot) : Bool := good e.1 && names e.2.2.1 e.2.2.2.1 e.2.2.2.2 && decide (ks.length ≤ 64) && killsOk e.1 none ks && opOk e
def NamesC (c : CallT) : Prop := ∀ {M : RM} {x y z : List UInt8} {Q : PostV}, Q (Bo (names x y z)) M → c [St x, St y, St z] M Q
theorem names_spec : NamesC fun args M Q => ∃ a0 a1 a2, args = [a0, a1, a2] ∧ W_goodNames a0 a1 a2 M Q := by
  intro M x y z Q hQ
  refine ⟨_, _, _, rfl, ?_⟩
  unfold W_goodNames
  simp only [fuseM]
  rw [lenStr_St, intW_geq]
  refine andM (p := decide (x.length ≤ 64)) (fun _ k hk => ?_) ?_
  · rw [lenStr_St, intW_leq, show decide ((x.length : Int) ≤ 64) = decide (x.length ≤ 64) by simp; omega]; exact hk
  refine andM (p := decide (y.length ≤ 64)) (fun _ k hk => ?_) ?_
  · rw [lenStr_St, intW_leq, show decide ((y.length : Int) ≤ 64) = decide (y.length ≤ 64) by simp; omega]; exact hk
  refine andM (p := decide (z.length ≤ 512)) (fun _ k hk => ?_) ?_
  · rw [lenStr_St, intW_leq, show decide ((z.length : Int) ≤ 512) = decide (z.length ≤ 512) by simp; omega]; exact hk
  rw [show decide ((x.length : Int) ≥ 1) = decide (1 ≤ x.length) by simp; omega]
  exact hQ
def GoodEvC (c : CallT) : Prop := ∀ {M : RM} {e : EvT} {kv : AV} {ks : List Dot} {Q : PostV}, Sl DotE M kv ks → (∀ M', Keep [] M M' → Q (Bo (goodEv e ks)) M') → c [.agg (evRow e kv)] M Q
theorem ev_ld {M : RM} {b T : Nat} {e : EvT} {kv : AV} (h : M.heap b = some (.row (evRow e kv) false T 0)) {K : AV → Prop} : loadN M (.ptr b 0) 2 K = K (.agg (dcells e.1)) := by
  have e2 : ((evRow e kv).drop 0).take 2 = dcells e.1 := rfl
  rw [loadN_ptr, RM.loads_row h (by show 0 + 2 ≤ 7; decide), e2]
  simp
theorem ev_one {M : RM} {e : EvT} {kv : AV} {ks : List Dot} (h : Sl DotE M kv ks) : (evRow e kv).all oneCell = true := by
  rw [List.all_append, EvE.one, List.all_cons, SlR.one h]; rfl
theorem kill_at {M : RM} {kv : AV} {ks : List Dot} (h : Sl DotE M kv ks) {i : Nat} (hi : i < ks.length) {kd : IntKind} {K : AV → Prop} : (idxS kv (N kd (i : Int)) 2 fun p => loadN M p 2 K) = K (.agg (dcells ks[i])) := by
  obtain ⟨b, o, _, _, hidx, hld⟩ := Sl.at (E := DotE) (i := i) h 2 (i : Int) hi rfl rfl
  rw [hidx, loadN_ptr, hld]
  simp [DotE]
def prevK (ks : List Dot) (i : Nat) : Option Dot := if i = 0 then none else ks[i - 1]?
theorem killsOk_step {d : Dot} {ks : List Dot} {i : Nat} (hi : i < ks.length) : killsOk d (prevK ks i) (ks.drop i) =
    (good ks[i] && !decide (ks[i] = d) && (if h : 0 < i then lessB (ks[i - 1]'(by omega)) ks[i] else true) && killsOk d (prevK ks (i + 1)) (ks.drop (i + 1))) := by
  rw [List.drop_eq_getElem_cons hi, killsOk]
  have e2 : prevK ks (i + 1) = some ks[i] := by rw [prevK, if_neg (by omega), Nat.add_sub_cancel, List.getElem?_eq_getElem hi]
  rw [e2]
  by_cases h0 : i = 0
  · subst h0; rfl
  · have e1 : prevK ks i = some (ks[i - 1]'(by omega)) := by rw [prevK, if_neg h0, List.getElem?_eq_getElem (by omega)]
    rw [e1, dif_pos (by omega)]; rfl
theorem goodEv_spec {TE TD : Nat} {cg cn cl : CallT} (hg : GoodC cg) (hn : NamesC cn) (hl : LessDC cl) : GoodEvC fun args M Q => ∃ a0, args = [a0] ∧ W_Good TE cg cn TD cl a0 M Q := by
  intro M0 e kv ks Q hs0 hQ
  refine ⟨_, rfl, ?_⟩
  unfold W_Good
  simp only [fuseM, fuseK, fuseKM, fuseMK]
  rw [boxW_agg (ev_one hs0) (by simp), newW_eq]
  have k0 : Keep [] M0 (M0.push (.row (evRow e kv) false TE 0)) := (Keep.refl _ _).push _
  have h0 : (M0.push (.row (evRow e kv) false TE 0)).heap M0.next = some (.row (evRow e kv) false TE 0) := RM.push_new _
  have hlt : M0.next < (M0.push (.row (evRow e kv) false TE 0)).next := by simp [RM.push]
  have hs := SlR.keep hs0 k0 (by simp)
  generalize M0.push (.row (evRow e kv) false TE 0) = M at *
  generalize M0.next = b at *
  have hs : Sl DotE M kv ks := hs
  rw [fld0, ev_ld h0]
  refine hg fun M1 k1 => ?_
  have h1 := k1.heap_of h0 hlt (by simp)
  have s1 : Sl DotE M1 kv ks := SlR.keep hs k1 (by simp)
  rw [notW_Bo]
  refine orM' (p := !names e.2.2.1 e.2.2.2.1 e.2.2.2.2) (fun _ k hk => ?_) ?_
  · rw [fld0, load1_at h1 rfl, fld0, load1_at h1 rfl, fld0, load1_at h1 rfl]
    refine hn ?_
    rw [notW_Bo]
    exact hk
  refine orM' (p := decide (ks.length > 64)) (fun _ k hk => ?_) ?_
  · rw [fld0, load1_at h1 rfl, SlR.len s1, intW_gtr, show decide ((ks.length : Int) > 64) = decide (ks.length > 64) by simp; omega]
    exact hk
  refine condB (fun hc => ?_) (fun hc => ?_)
  · have : goodEv e ks = false := by
      unfold goodEv
      simp only [Bool.or_eq_true, Bool.not_eq_true', decide_eq_true_eq] at hc
      rcases hc with (hc | hc) | hc
      · rw [hc]; rfl
      · rw [hc, Bool.and_false]; rfl
      · rw [decide_eq_false (show ¬ (ks.length ≤ 64) by omega), Bool.and_false]; rfl
    rw [this] at hQ
    exact hQ M1 (k0.trans k1)
  simp only [Bool.or_eq_false_iff, Bool.not_eq_false', decide_eq_false_iff_not] at hc
  obtain ⟨⟨hc1, hc2⟩, hc3⟩ := hc
  have hgoal : goodEv e ks = (killsOk e.1 none ks && opOk e) := by
    unfold goodEv
    rw [hc1, hc2, decide_eq_true (show (ks.length ≤ 64) by omega)]; simp
  rw [fld0, load1_at h1 rfl, SlR.len s1]
  refine loopW_ind (fun m ys M3 => ∃ i : Nat, m = ks.length - i ∧ ys = [N .i64 (i : Int)] ∧ i ≤ ks.length ∧ Keep [] M1 M3 ∧ killsOk e.1 none ks = killsOk e.1 (prevK ks i) (ks.drop i)) _ ⟨0, rfl, rfl, Nat.zero_le _, Keep.refl _ _, rfl⟩ ?_
  rintro next m ys M3 hnext ⟨i, rfl, rfl, hi, k3, hm⟩
  dsimp only [nthD]
  have n1 := k1.next
  have h3 := k3.heap_of h1 (by omega) (by simp)
  have s3 : Sl DotE M3 kv ks := SlR.keep s1 k3 (by simp)
  have kk3 := (k0.trans k1).trans k3
  rw [lssN]
  refine condB (fun hlt2 => ?_) (fun hge => ?_)
  · have hlt2 : i < ks.length := of_decide_eq_true hlt2
    rw [killsOk_step hlt2] at hm
    rw [kill_at s3 hlt2, newW_eq, storeW_all (n := 2) (x := .agg (dcells ks[i])) (l := [N .i64 0, N .u64 0]) (RM.push_new _) rfl rfl rfl]
    have k4 : Keep [] M3 ((M3.push (.row [N .i64 0, N .u64 0] false TD 0)).put M3.next (.row (AV.agg (dcells ks[i])).cells false TD 0)) := ((Keep.refl _ _).push _).new _ (Nat.le_refl _)
    have hk4 : ((M3.push (.row [N .i64 0, N .u64 0] false TD 0)).put M3.next (.row (AV.agg (dcells ks[i])).cells false TD 0)).heap M3.next = some (.row (dcells ks[i]) false TD 0) := heap_put_eq _
    have hn4 : M3.next < ((M3.push (.row [N .i64 0, N .u64 0] false TD 0)).put M3.next (.row (AV.agg (dcells ks[i])).cells false TD 0)).next := by simp [RM.push, RM.put]
    generalize (M3.push (.row [N .i64 0, N .u64 0] false TD 0)).put M3.next (.row (AV.agg (dcells ks[i])).cells false TD 0) = M4 at *
    generalize M3.next = s at *
    rw [loadN_at (n := 2) hk4 rfl]
    refine hg fun M5 k5 => ?_
    have hk5 := k5.heap_of hk4 hn4 (by simp)
    have h5 := (k4.trans k5).heap_of h3 (by have := k3.next; omega) (by simp)
    have s5 : Sl DotE M5 kv ks := SlR.keep s3 (k4.trans k5) (by simp)
    have kk5 := (k3.trans k4).trans k5
    rw [notW_Bo]
    refine orP (P := fun M' => M' = M5) (p := decide (ks[i] = e.1)) rfl (fun _ k hk => ?_) fun M' hM' => ?_
    · rw [loadN_at (n := 2) hk5 rfl, fld0, ev_ld h5, aggEqW_of rfl rfl (dot_eq _ _), Bool.bne_false]
      exact hk M5 rfl
    subst hM'
    refine tailP (P := fun M6 => Keep [] M1 M6) (q := decide (i > 0)) (r := !(if h : 0 < i then lessB (ks[i - 1]'(by omega)) ks[i] else true)) kk5 (fun _ k hk => ?_) (fun _ hq k hk => ?_) fun M6 k6 => ?_
    · rw [show (0 : Int) = ((0 : Nat) : Int) from rfl, gtrN]
      exact hk
    · have hq : 0 < i := of_decide_eq_true hq
      rw [fld0, load1_at h5 rfl, sub1 (by omega) (by omega), kill_at s5 (by omega), loadN_at (n := 2) hk5 rfl]
      refine hl fun M7 k7 => ?_
      rw [notW_Bo, ← dif_pos (c := 0 < i) (t := fun h => lessB (ks[i - 1]'(by omega)) ks[i]) (e := fun _ => true) hq]
      exact hk M7 (kk5.trans k7)
    refine condB (fun hb => ?_) (fun hb => ?_)
    · have : killsOk e.1 none ks = false := by
        rw [hm]
        simp only [Bool.or_eq_true, Bool.and_eq_true, Bool.not_eq_true', decide_eq_true_eq] at hb
        rcases hb with (hb | hb) | ⟨_, hb⟩
        · rw [hb]; rfl
        · rw [show decide (ks[i] = e.1) = true by simpa using hb]; simp
        · rw [hb]; simp
      rw [hgoal, this] at hQ
      exact hQ M6 ((k0.trans k1).trans k6)
    · rw [add1 (by omega)]
      refine hnext _ _ _ (by omega) ⟨i + 1, rfl, rfl, by omega, k6, ?_⟩
      simp only [Bool.or_eq_false_iff, Bool.and_eq_false_iff, Bool.not_eq_false', decide_eq_false_iff_not] at hb
      obtain ⟨⟨hb1, hb2⟩, hb3⟩ := hb
      rw [hm, hb1, show decide (ks[i] = e.1) = false by simpa using hb2]
      rcases hb3 with hb3 | hb3
      · rw [dif_neg hb3]; simp
      · rw [hb3]; simp
  · have he : i = ks.length := by
      have : ¬ i < ks.length := of_decide_eq_false hge
      omega
    subst he
    rw [List.drop_length, killsOk] at hm
    rw [hgoal, hm, Bool.true_and] at hQ
    have op1 : ∀ n : Int, ((e.2.1 : Int) == n) = decide (e.2.1 = n) := fun n => by by_cases h : e.2.1 = n <;> simp [h]
    rw [fld0, load1_at h3 rfl, intW_eql, op1]
    refine andM (p := decide (e.2.2.2.1 ≠ [])) (fun _ k hk => ?_) ?_
    · rw [fld0, load1_at h3 rfl, strW_neq, show (e.2.2.2.1 != []) = decide (e.2.2.2.1 ≠ []) by by_cases h : e.2.2.2.1 = [] <;> simp [h]]
      exact hk
    refine tailM (q := decide (e.2.1 = 2)) (r := decide (e.2.2.2.2 = [])) (fun _ k hk => ?_) (fun _ _ k hk => ?_) (hQ M3 kk3)
    · rw [fld0, load1_at h3 rfl, intW_eql, op1]
      exact hk
    · rw [fld0, load1_at h3 rfl, strW_eql, show (e.2.2.2.2 == []) = decide (e.2.2.2.2 = []) by by_cases h : e.2.2.2.2 = [] <;> simp [h]]
      exact hk
theorem refGoodEv_spec {TE : Nat} {cg cl : CallT} (hg : GoodC cg) (hl : LessDC cl) : GoodEvC fun args M Q => ∃ a0, args = [a0] ∧ W_GoodEvent TE cg cl a0 M Q := by
  intro M0 e kv ks Q hs0 hQ
  refine ⟨_, rfl, ?_⟩
  unfold W_GoodEvent
  simp only [fuseM, fuseK, fuseKM, fuseMK]
  rw [boxW_agg (ev_one hs0) (by simp), newW_eq]
  have k0 : Keep [] M0 (M0.push (.row (evRow e kv) false TE 0)) := (Keep.refl _ _).push _
  have h0 : (M0.push (.row (evRow e kv) false TE 0)).heap M0.next = some (.row (evRow e kv) false TE 0) := RM.push_new _
  have hlt : M0.next < (M0.push (.row (evRow e kv) false TE 0)).next := by simp [RM.push]
  have hs := SlR.keep hs0 k0 (by simp)
  generalize M0.push (.row (evRow e kv) false TE 0) = M at *
  generalize M0.next = b at *
  have hs : Sl DotE M kv ks := hs
  rw [fld0, ev_ld h0]
  refine hg fun M1 k1 => ?_
  have h1 := k1.heap_of h0 hlt (by simp)
  have s1 : Sl DotE M1 kv ks := SlR.keep hs k1 (by simp)
  have op1 : ∀ n : Int, ((e.2.1 : Int) == n) = decide (e.2.1 = n) := fun n => by by_cases h : e.2.1 = n <;> simp [h]
  have op2 : ∀ n : Int, ((e.2.1 : Int) != n) = decide (e.2.1 ≠ n) := fun n => by by_cases h : e.2.1 = n <;> simp [h]
  rw [notW_Bo]
  refine tailM (q := decide (e.2.1 ≠ 1)) (r := decide (e.2.1 ≠ 2)) (fun _ k hk => ?_) (fun _ _ k hk => ?_) ?_
  · rw [fld0, load1_at h1 rfl, intW_neq, op2]; exact hk
  · rw [fld0, load1_at h1 rfl, intW_neq, op2]; exact hk
  refine orM' (p := decide (e.2.2.1.length < 1)) (fun _ k hk => ?_) ?_
  · rw [fld0, load1_at h1 rfl, lenStr_St, intW_lss, show decide ((e.2.2.1.length : Int) < 1) = decide (e.2.2.1.length < 1) from decide_eq_decide.2 (by omega)]; exact hk
  refine orM' (p := decide (e.2.2.1.length > 64)) (fun _ k hk => ?_) ?_
  · rw [fld0, load1_at h1 rfl, lenStr_St, intW_gtr, show decide ((e.2.2.1.length : Int) > 64) = decide (e.2.2.1.length > 64) by simp; omega]; exact hk
  refine orM' (p := decide (e.2.2.2.1.length > 64)) (fun _ k hk => ?_) ?_
  · rw [fld0, load1_at h1 rfl, lenStr_St, intW_gtr, show decide ((e.2.2.2.1.length : Int) > 64) = decide (e.2.2.2.1.length > 64) by simp; omega]; exact hk
  refine orM' (p := decide (e.2.2.2.2.length > 512)) (fun _ k hk => ?_) ?_
  · rw [fld0, load1_at h1 rfl, lenStr_St, intW_gtr, show decide ((e.2.2.2.2.length : Int) > 512) = decide (e.2.2.2.2.length > 512) by simp; omega]; exact hk
  refine orM' (p := decide (ks.length > 64)) (fun _ k hk => ?_) ?_
  · rw [fld0, load1_at h1 rfl, SlR.len s1, intW_gtr, show decide ((ks.length : Int) > 64) = decide (ks.length > 64) by simp; omega]; exact hk
  have kk1 := k0.trans k1
  refine condB (fun hc => ?_) (fun hc => ?_)
  · have : goodEv e ks = false := by
      simp only [Bool.or_eq_true, Bool.and_eq_true, Bool.not_eq_true', decide_eq_true_eq] at hc
      simp only [goodEv, names, opOk]
      rcases hc with (((((hc | ⟨hc1, hc2⟩) | hc) | hc) | hc) | hc) | hc
      · rw [hc]; rfl
      · simp [hc1, hc2]
      · rw [decide_eq_false (show ¬ (1 ≤ e.2.2.1.length) by omega)]; simp
      · rw [decide_eq_false (show ¬ (e.2.2.1.length ≤ 64) by omega)]; simp
      · rw [decide_eq_false (show ¬ (e.2.2.2.1.length ≤ 64) by omega)]; simp
      · rw [decide_eq_false (show ¬ (e.2.2.2.2.length ≤ 512) by omega)]; simp
      · rw [decide_eq_false (show ¬ (ks.length ≤ 64) by omega)]; simp
    rw [this] at hQ
    exact hQ M1 kk1
  simp only [Bool.or_eq_false_iff, Bool.and_eq_false_iff, Bool.not_eq_false', decide_eq_false_iff_not, Decidable.not_not] at hc
  obtain ⟨⟨⟨⟨⟨⟨hc1, hop⟩, hc2⟩, hc3⟩, hc4⟩, hc5⟩, hc6⟩ := hc
  have hgoal : goodEv e ks = (killsOk e.1 none ks && opOk e) := by
    simp only [goodEv, names]
    rw [hc1, decide_eq_true (show (1 ≤ e.2.2.1.length) by omega), decide_eq_true (show (e.2.2.1.length ≤ 64) by omega), decide_eq_true (show (e.2.2.2.1.length ≤ 64) by omega), decide_eq_true (show (e.2.2.2.2.length ≤ 512) by omega), decide_eq_true (show (ks.length ≤ 64) by omega)]
    simp
  rw [hgoal] at hQ
  rw [fld0, load1_at h1 rfl, intW_eql, op1]
  refine andM (p := decide (e.2.2.2.1 = [])) (fun _ k hk => ?_) ?_
  · rw [fld0, load1_at h1 rfl, strW_eql, show (e.2.2.2.1 == []) = decide (e.2.2.2.1 = []) by by_cases h : e.2.2.2.1 = [] <;> simp [h]]
    exact hk
  refine tailM (q := decide (e.2.1 = 2)) (r := decide (e.2.2.2.2 ≠ [])) (fun _ k hk => ?_) (fun _ _ k hk => ?_) ?_
  · rw [fld0, load1_at h1 rfl, intW_eql, op1]
    exact hk
  · rw [fld0, load1_at h1 rfl, strW_neq, show (e.2.2.2.2 != []) = decide (e.2.2.2.2 ≠ []) by by_cases h : e.2.2.2.2 = [] <;> simp [h]]
    exact hk
  have hopv : ((decide (e.2.1 = 1) && decide (e.2.2.2.1 = [])) || (decide (e.2.1 = 2) && decide (e.2.2.2.2 ≠ []))) = !opOk e := by
    unfold opOk
    rcases hop with hop | hop
    · simp [hop]
    · simp [hop]
  rw [hopv]
  refine condB (fun hb => ?_) (fun hb => ?_)
  · rw [show opOk e = false by simpa using hb, Bool.and_false] at hQ
    exact hQ M1 kk1
  rw [show opOk e = true by simpa using hb, Bool.and_true] at hQ
  refine loopW_ind (fun m ys M3 => ∃ i : Nat, m = ks.length - i ∧ ys = [N .i64 (i : Int)] ∧ i ≤ ks.length ∧ Keep [] M1 M3 ∧ killsOk e.1 none ks = killsOk e.1 (prevK ks i) (ks.drop i)) _ ⟨0, rfl, rfl, Nat.zero_le _, Keep.refl _ _, rfl⟩ ?_
  rintro next m ys M3 hnext ⟨i, rfl, rfl, hi, k3, hm⟩
  dsimp only [nthD]
  have n1 := k1.next
  have h3 := k3.heap_of h1 (by omega) (by simp)
  have s3 : Sl DotE M3 kv ks := SlR.keep s1 k3 (by simp)
  rw [fld0, load1_at h3 rfl, SlR.len s3, lssN]
  refine condB (fun hlt2 => ?_) (fun hge => ?_)
  · have hlt2 : i < ks.length := of_decide_eq_true hlt2
    rw [killsOk_step hlt2] at hm
    rw [fld0, load1_at h3 rfl, kill_at s3 hlt2]
    refine hg fun M5 k5 => ?_
    have h5 := k5.heap_of h3 (by have := k3.next; omega) (by simp)
    have s5 : Sl DotE M5 kv ks := SlR.keep s3 k5 (by simp)
    have kk5 := k3.trans k5
    rw [notW_Bo]
    refine orP (P := fun M' => M' = M5) (p := decide (ks[i] = e.1)) rfl (fun _ k hk => ?_) fun M' hM' => ?_
    · rw [fld0, load1_at h5 rfl, kill_at s5 hlt2, fld0, ev_ld h5, aggEqW_of rfl rfl (dot_eq _ _), Bool.bne_false]
      exact hk M5 rfl
    subst hM'
    refine tailP (P := fun M6 => Keep [] M1 M6) (q := decide (i > 0)) (r := !(if h : 0 < i then lessB (ks[i - 1]'(by omega)) ks[i] else true)) kk5 (fun _ k hk => ?_) (fun _ hq k hk => ?_) fun M6 k6 => ?_
    · rw [show (0 : Int) = ((0 : Nat) : Int) from rfl, gtrN]
      exact hk
    · have hq : 0 < i := of_decide_eq_true hq
      rw [fld0, load1_at h5 rfl, sub1 (by omega) (by omega), kill_at s5 (by omega), fld0, load1_at h5 rfl, kill_at s5 hlt2]
      refine hl fun M7 k7 => ?_
      rw [notW_Bo, ← dif_pos (c := 0 < i) (t := fun h => lessB (ks[i - 1]'(by omega)) ks[i]) (e := fun _ => true) hq]
      exact hk M7 (kk5.trans k7)
    refine condB (fun hb => ?_) (fun hb => ?_)
    · have : killsOk e.1 none ks = false := by
        rw [hm]
        simp only [Bool.or_eq_true, Bool.and_eq_true, Bool.not_eq_true', decide_eq_true_eq] at hb
        rcases hb with (hb | hb) | ⟨_, hb⟩
        · rw [hb]; rfl
        · rw [show decide (ks[i] = e.1) = true by simpa using hb]; simp
        · rw [hb]; simp
      rw [this] at hQ
      exact hQ M6 (kk1.trans k6)
    · rw [add1 (by omega)]
      refine hnext _ _ _ (by omega) ⟨i + 1, rfl, rfl, by omega, k6, ?_⟩
      simp only [Bool.or_eq_false_iff, Bool.and_eq_false_iff, Bool.not_eq_false', decide_eq_false_iff_not] at hb
      obtain ⟨⟨hb1, hb2⟩, hb3⟩ := hb
      rw [hm, hb1, show decide (ks[i] = e.1) = false by simpa using hb2]
      rcases hb3 with hb3 | hb3
      · rw [dif_neg hb3]; simp
      · rw [hb3]; simp
  · have he : i = ks.length := by
      have : ¬ i < ks.length := of_decide_eq_false hge
      omega
    subst he
    rw [List.drop_length, killsOk] at hm
    rw [hm] at hQ
    exact hQ M3 (kk1.trans k3)
end Go.Ab.Crw
set_option maxRecDepth 10000
set_option linter.unusedVariables false
set_option linter.unusedSimpArgs false
namespace Go.Ab.Crw
open Go Go.Ab Go.Ab.Dot
def CloneEC (T : Nat) (c : CallT) : Prop := ∀ {M : RM} {v : AV} {xs : List Ent} {Q : PostV}, Sl EntE M v xs → xs.length ≤ 1000000 → (∀ v' M', Ow EntE M' M.next T v' xs → Keep [] M M' → Q v' M') → c [v] M Q
theorem cloneE_spec {T : Nat} : CloneEC T fun args M Q => ∃ a0, args = [a0] ∧ W_Clone_Entry T a0 M Q := by
  intro M v xs Q hs hl hQ
  refine ⟨_, rfl, ?_⟩
  unfold W_Clone_Entry
  have h5 : SlR M 5 v (EntE.row xs) xs.length := hs
  exact clone_any (size := 5) (bytes := 64) h5 (Enc.row_all _ _) (by decide) (by omega) (by omega) fun v' M' ho k => hQ v' M' ho k
def IndexDC (c : CallT) : Prop := ∀ {M : RM} {v : AV} {l : List Dot} {d : Dot} {Q : PostV}, Sl DotE M v l → l.length ≤ 1000000 → (∀ (n : Int) M', (decide (n ≥ 0) = decide (d ∈ l)) → Keep [] M M' → Q (N .i64 n) M') → c [v, .agg (dcells d)] M Q
theorem indexD_spec {T : Nat} : IndexDC fun args M Q => ∃ a0 a1, args = [a0, a1] ∧ W_Index_Dot T a0 a1 M Q := by
  intro M0 v l d Q hs0 hl hQ
  refine ⟨_, _, rfl, ?_⟩
  unfold W_Index_Dot
  rw [boxW_agg rfl (by simp), newW_eq]
  have k0 : Keep [] M0 (M0.push (.row (dcells d) false T 0)) := (Keep.refl _ _).push _
  have h0 : (M0.push (.row (dcells d) false T 0)).heap M0.next = some (.row (dcells d) false T 0) := RM.push_new _
  have hs : Sl DotE (M0.push (.row (dcells d) false T 0)) v l := SlR.keep hs0 k0 (by simp)
  generalize M0.push (.row (dcells d) false T 0) = M at *
  generalize M0.next = b at *
  rw [SlR.len hs]
  refine loopW_ind (fun m ys M3 => ∃ i : Nat, m = l.length - i ∧ ys = [N .i64 (i : Int)] ∧ i ≤ l.length ∧ M3 = M ∧ (d ∈ l ↔ d ∈ l.drop i)) _ ⟨0, rfl, rfl, Nat.zero_le _, rfl, Iff.rfl⟩ ?_
  rintro next m ys M3 hnext ⟨i, rfl, rfl, hi, rfl, hm⟩
  dsimp only [nthD]
  rw [lssN]
  refine condB (fun hlt => ?_) (fun hge => ?_)
  · have hlt : i < l.length := of_decide_eq_true hlt
    rw [List.drop_eq_getElem_cons hlt, List.mem_cons] at hm
    rw [loadN_at (n := 2) h0 rfl, kill_at hs hlt, aggEqW_of rfl rfl (dot_eq _ _), Bool.bne_false]
    refine condB (fun he => ?_) (fun he => ?_)
    · have he : d = l[i] := of_decide_eq_true he
      refine hQ _ _ ?_ k0
      rw [decide_eq_true (show (i : Int) ≥ 0 by omega), decide_eq_true (hm.2 (.inl he))]
    · have he : ¬ d = l[i] := of_decide_eq_false he
      rw [add1 (by omega)]
      exact hnext _ _ _ (by omega) ⟨i + 1, rfl, rfl, by omega, rfl, hm.trans ⟨fun h => h.resolve_left he, .inr⟩⟩
  · have he : i = l.length := by
      have : ¬ i < l.length := of_decide_eq_false hge
      omega
    subst he
    rw [List.drop_length] at hm
    refine hQ _ _ ?_ k0
    rw [decide_eq_false (show ¬ (-1 : Int) ≥ 0 by decide), decide_eq_false (fun h => by simpa using hm.1 h)]
def ContainsDC (c : CallT) : Prop := ∀ {M : RM} {v : AV} {l : List Dot} {d : Dot} {Q : PostV}, Sl DotE M v l → l.length ≤ 1000000 → (∀ M', Keep [] M M' → Q (Bo (decide (d ∈ l))) M') → c [v, .agg (dcells d)] M Q
theorem containsD_spec {T : Nat} {ci : CallT} (hi : IndexDC ci) : ContainsDC fun args M Q => ∃ a0 a1, args = [a0, a1] ∧ W_Contains_Dot T ci a0 a1 M Q := by
  intro M0 v l d Q hs0 hl hQ
  refine ⟨_, _, rfl, ?_⟩
  unfold W_Contains_Dot
  rw [boxW_agg rfl (by simp), newW_eq]
  have k0 : Keep [] M0 (M0.push (.row (dcells d) false T 0)) := (Keep.refl _ _).push _
  rw [loadN_at (n := 2) (RM.push_new _) rfl]
  refine hi (SlR.keep hs0 k0 (by simp)) hl fun n M' hn k => ?_
  rw [intW_geq, hn]
  exact hQ M' (k0.trans k)
def PredC (P : RM → Prop) (p : Ent → Bool) (c : List AV → RM → PostV → Prop) : Prop := ∀ {M : RM} {x : Ent} {Q : PostV}, P M → (∀ M', Keep [] M M' → Q (Bo (p x)) M') → c [.agg (EntE.cells x)] M Q
theorem ent_at {M : RM} {v : AV} {xs : List Ent} (h : Sl EntE M v xs) {i : Nat} (hi : i < xs.length) {kd : IntKind} {K : AV → Prop} : (idxS v (N kd (i : Int)) 5 fun p => loadN M p 5 K) = K (.agg (EntE.cells xs[i])) := by
  obtain ⟨b, o, _, _, hidx, hld⟩ := Sl.at (E := EntE) (i := i) h 5 (i : Int) hi rfl rfl
  rw [hidx, loadN_ptr, hld]
  simp
def IndexFC (P : RM → Prop) (p : Ent → Bool) (fv : AV) (c : CallT) : Prop := ∀ {M : RM} {v : AV} {xs : List Ent} {Q : PostV}, P M → (∀ M M', P M → Keep [] M M' → P M') → Sl EntE M v xs → xs.length ≤ 1000000 →
  (xs.any p = false → ∀ M', Keep [] M M' → Q (N .i64 (-1)) M') → (∀ (i : Nat) (hi : i < xs.length), p xs[i] = true → (∀ x ∈ xs.take i, p x = false) → ∀ M', Keep [] M M' → Q (N .i64 (i : Int)) M') → c [v, fv] M Q
theorem indexF_spec {P : RM → Prop} {p : Ent → Bool} {fv : AV} {cv : FuncId → CallT} (hp : PredC P p (callV cv fv)) : IndexFC P p fv fun args M Q => ∃ a0 a1, args = [a0, a1] ∧ W_IndexFunc_Entry cv a0 a1 M Q := by
  intro M v xs Q hP hPk hs hl h0 h1
  refine ⟨_, _, rfl, ?_⟩
  unfold W_IndexFunc_Entry
  rw [SlR.len hs]
  refine loopW_ind (fun m ys M3 => ∃ i : Nat, m = xs.length - i ∧ ys = [N .i64 (i : Int)] ∧ i ≤ xs.length ∧ Keep [] M M3 ∧ ∀ x ∈ xs.take i, p x = false) _ ⟨0, rfl, rfl, Nat.zero_le _, Keep.refl _ _, by simp⟩ ?_
  rintro next m ys M3 hnext ⟨i, rfl, rfl, hi, k3, hm⟩
  dsimp only [nthD]
  rw [lssN]
  refine condB (fun hlt => ?_) (fun hge => ?_)
  · have hlt : i < xs.length := of_decide_eq_true hlt
    rw [ent_at (SlR.keep hs k3 (by simp)) hlt]
    refine hp (hPk _ _ hP k3) fun M4 k4 => ?_
    refine condB (fun he => h1 i hlt he hm M4 (k3.trans k4)) (fun he => ?_)
    rw [add1 (by omega)]
    refine hnext _ _ _ (by omega) ⟨i + 1, rfl, rfl, by omega, k3.trans k4, fun x hx => ?_⟩
    rw [List.take_succ_eq_append_getElem hlt, List.mem_append] at hx
    rcases hx with hx | hx
    · exact hm x hx
    · simp at hx; subst hx; exact he
  · have he : i = xs.length := by
      have : ¬ i < xs.length := of_decide_eq_false hge
      omega
    subst he
    rw [List.take_length] at hm
    exact h0 (by simpa using hm) M3 k3
theorem subS_to_z {b o n k z : Nat} (h : k ≤ n) (h0 : 0 < n) : subS z (.slc b o n (.op z)) none (some (N .i64 (k : Int))) none = some (.slc b o k (.op z)) := by
  simp only [subS, bnd]
  simp [h]
  omega
theorem repL_len (zs : List AV) : ∀ k, (repL zs k).length = k * zs.length
  | 0 => by simp [repL]
  | k + 1 => by rw [repL, List.length_append, repL_len zs k, Nat.succ_mul, Nat.add_comm]
theorem repL_all {zs : List AV} (h : zs.all oneCell = true) : ∀ k, (repL zs k).all oneCell = true
  | 0 => by simp [repL]
  | k + 1 => by rw [repL, List.all_append, h, repL_all h k]; rfl
def DeleteFC (T : Nat) (P : RM → Prop) (p : Ent → Bool) (fv : AV) (c : CallT) : Prop := ∀ {M : RM} {base : Nat} {v : AV} {xs : List Ent} {Q : PostV}, P M → (∀ M M' ks, P M → Keep ks M M' → (∀ d ∈ ks, d ∈ blkOf v) → P M') → Ow EntE M base T v xs → xs.length ≤ 60000 →
  (∀ v' M', Sl EntE M' v' (xs.filter fun x => !p x) → (∀ d ∈ blkOf v', d ∈ blkOf v) → Keep (blkOf v) M M' → Q v' M') → c [v, fv] M Q
theorem deleteF_spec {T TE : Nat} {P : RM → Prop} {p : Ent → Bool} {fv : AV} {cv : FuncId → CallT} {ci : CallT} (hi : IndexFC P p fv ci) (hp : PredC P p (callV cv fv)) : DeleteFC T P p fv fun args M Q => ∃ a0 a1, args = [a0, a1] ∧ W_DeleteFunc_Entry ci TE cv a0 a1 M Q := by
  intro M base v xs Q hP hPk ho hl hQ
  refine ⟨_, _, rfl, ?_⟩
  unfold W_DeleteFunc_Entry
  simp only [joinW_shut]
  have hs : Sl EntE M v xs := ho.slR
  refine hi hP (fun M M' h k => hPk M M' [] h k (by simp)) hs (by omega) (fun hn M1 k1 => ?_) (fun i hlt hpi hm M1 k1 => ?_)
  · rw [intW_eql, show ((-1 : Int) == -1) = true from rfl, condT]
    have e : (xs.filter fun x => !p x) = xs := List.filter_eq_self.2 fun x hx => by
      have := List.any_eq_false.1 hn x hx
      simpa using this
    exact hQ v M1 (by rw [e]; exact SlR.keep hs k1 (by simp)) (fun d hd => hd) (k1.mono (by simp))
  rw [intW_eql, show ((i : Int) == -1) = false by rw [beq_eq_false_iff_ne]; omega, condF, add1 (by omega)]
  obtain ⟨b, rfl, h1, h2, h3, h4⟩ := Own.op_pos ho (by omega)
  have hsz : xs.toArray.size = xs.length := by simp
  have hat : At EntE T b xs.toArray M := ⟨by rw [h3], h2⟩
  have hel : ∀ j (h : j < xs.length), xs.toArray[j]! = xs[j] := fun j h => by rw [bang (by simpa using h)]; simp
  have hpre0 : xs.toArray.toList.take i = (xs.take (i + 1)).filter fun x => !p x := by
    rw [List.take_succ_eq_append_getElem hlt, List.filter_append, List.filter_eq_self.2 fun x hx => by simpa using hm x hx]
    simp [hpi]
  refine loopW_ind (fun m ys M3 => ∃ (k j : Nat) (d : Array Ent), m = xs.length - j ∧ ys = [N .i64 (k : Int), N .i64 (j : Int)] ∧ j ≤ xs.length ∧ k < j ∧ At EntE T b d M3 ∧ Keep [b] M M3 ∧ d.size = xs.length ∧ d.toList.take k = (xs.take j).filter (fun x => !p x) ∧ ∀ q (h : q < xs.length), j ≤ q → d[q]! = xs[q]) _
    ⟨i, i + 1, xs.toArray, rfl, rfl, by omega, by omega, hat.keep k1, k1.mono (by simp), hsz, hpre0, fun q h _ => hel q h⟩ ?_
  rintro next m ys M3 hnext ⟨k, j, d, rfl, rfl, hj, hkj, h3', k3, hds, hpre, hold⟩
  dsimp only [nthD]
  have lenV : ∀ K : AV → Prop, lenW (AV.slc b 0 xs.length (.op EntE.size)) K = K (N .i64 (xs.length : Int)) := fun K => by simp [lenW_slc]
  rw [lenV, lssN]
  have e5 : EntE.size = 5 := rfl
  rw [e5] at *
  refine condB (fun hlt2 => ?_) (fun hge2 => ?_)
  · have hlt2 : j < xs.length := of_decide_eq_true hlt2
    refine joinV_spec (fun zs M' => ∃ (k' : Nat) (d' : Array Ent), zs = [N .i64 (k' : Int)] ∧ k' < j + 1 ∧ At EntE T b d' M' ∧ Keep [b] M M' ∧ d'.size = xs.length ∧ d'.toList.take k' = (xs.take (j + 1)).filter (fun x => !p x) ∧ ∀ q (h : q < xs.length), j + 1 ≤ q → d'[q]! = xs[q]) ?_ ?_
    · rintro zs M' ⟨k', d', rfl, c1, c2, c3, c4, c5, c6⟩
      dsimp only [nthD]
      rw [add1 (by omega)]
      exact hnext _ _ _ (by omega) ⟨k', j + 1, d', rfl, rfl, by omega, c1, c2, c3, c4, c5, c6⟩
    intro J hJ
    rw [h3'.rd (z := 5) rfl hds.symm (by omega), hold j hlt2 (Nat.le_refl _), newW_eq, storeW_all (n := 5) (x := .agg (EntE.cells xs[j])) (l := [(N .i64 0), (N .u64 0), (St []), (St []), (St [])]) (RM.push_new _) rfl rfl rfl]
    have k4 : Keep [] M3 ((M3.push (.row [(N .i64 0), (N .u64 0), (St []), (St []), (St [])] false TE 0)).put M3.next (.row (AV.agg (EntE.cells xs[j])).cells false TE 0)) := ((Keep.refl _ _).push _).new _ (Nat.le_refl _)
    have hk4 : ((M3.push (.row [(N .i64 0), (N .u64 0), (St []), (St []), (St [])] false TE 0)).put M3.next (.row (AV.agg (EntE.cells xs[j])).cells false TE 0)).heap M3.next = some (.row (EntE.cells xs[j]) false TE 0) := heap_put_eq _
    have hn4 : M3.next < ((M3.push (.row [(N .i64 0), (N .u64 0), (St []), (St []), (St [])] false TE 0)).put M3.next (.row (AV.agg (EntE.cells xs[j])).cells false TE 0)).next := by simp [RM.push, RM.put]
    generalize (M3.push (.row [(N .i64 0), (N .u64 0), (St []), (St []), (St [])] false TE 0)).put M3.next (.row (AV.agg (EntE.cells xs[j])).cells false TE 0) = M4 at *
    generalize M3.next = s at *
    rw [loadN_at (n := 5) hk4 rfl]
    have kk4 : Keep [b] M M4 := k3.trans (k4.mono (cs := [b]) (by simp))
    have hP4 : P M4 := hPk M M4 [b] hP kk4 (by simp [blkOf])
    refine hp hP4 fun M5 k5 => ?_
    have kk5 : Keep [b] M M5 := kk4.trans (k5.mono (cs := [b]) (by simp))
    have hat5 := h3'.keep (k4.trans k5)
    have hflt : (xs.take (j + 1)).filter (fun x => !p x) = if p xs[j] then (xs.take j).filter (fun x => !p x) else (xs.take j).filter (fun x => !p x) ++ [xs[j]] := by
      rw [List.take_succ_eq_append_getElem hlt2, List.filter_append]
      by_cases hpj : p xs[j] = true <;> simp [hpj]
    rw [notW_Bo]
    refine condB (fun hn => ?_) (fun hn => ?_)
    · have hpj : p xs[j] = false := by simpa using hn
      rw [loadN_at (n := 5) (k5.heap_of hk4 hn4 (by simp)) rfl, At.idx (by omega)]
      refine hat5.st (z := 5) rfl (by omega) fun M6 h6 k6 _ => ?_
      rw [add1 (by omega)]
      refine hJ _ _ ⟨k + 1, _, rfl, by omega, h6, kk5.trans k6, by simpa using hds, ?_, fun q h hq => ?_⟩
      · have hkl : k < d.toList.length := by rw [Array.length_toList]; omega
        rw [hflt, hpj, ← hpre, Array.toList_setIfInBounds, List.take_succ_eq_append_getElem (by rw [List.length_set]; exact hkl), List.getElem_set_self, List.take_set_of_le (Nat.le_refl _)]
        rfl
      · rw [← hold q h (by omega), bang (by rw [Array.size_setIfInBounds]; omega), bang (by omega), Array.getElem_setIfInBounds_ne (by omega) (by omega)]
    · have hpj : p xs[j] = true := by simpa using hn
      exact hJ _ _ ⟨k, d, rfl, by omega, hat5, kk5, hds, by rw [hflt, hpj]; exact hpre, fun q h hq => hold q h (by omega)⟩
  · have hj2 : j = xs.length := by
      have : ¬ j < xs.length := of_decide_eq_false hge2
      omega
    subst hj2
    rw [List.take_length] at hpre
    have hrl : (EntE.row d.toList).length = xs.length * 5 := by rw [Enc.row_len, Array.length_toList, hds]; rfl
    have hst : M3.stores b (0 + k * 5) (repL [(N .i64 0), (N .u64 0), (St []), (St []), (St [])] (xs.length - k)) = some (M3.put b (.row ((EntE.row d.toList).take (0 + k * 5) ++ repL [(N .i64 0), (N .u64 0), (St []), (St []), (St [])] (xs.length - k) ++ (EntE.row d.toList).drop (0 + k * 5 + (repL [(N .i64 0), (N .u64 0), (St []), (St []), (St [])] (xs.length - k)).length)) true T 0)) := by
      refine RM.stores_row h3'.heap ?_ (Nat.zero_le _) (repL_all rfl _)
      rw [repL_len, hrl]
      show 0 + k * 5 + (xs.length - k) * 5 ≤ xs.length * 5
      omega
    rw [subS_from_op (by omega), getW_some]
    refine .inl ⟨_, _, _, _, _, rfl, hst, ?_⟩
    dsimp only
    rw [subS_to_z (by omega) (by omega), getW_some]
    have hlk : (xs.filter fun x => !p x).length = k := by rw [← hpre, List.length_take, Array.length_toList]; omega
    refine hQ _ _ ?_ (fun e he => by simpa [blkOf] using he) ?_
    · have hrow : ((EntE.row d.toList).take (0 + k * 5)) = EntE.row (xs.filter fun x => !p x) := by
        rw [← hpre, show 0 + k * 5 = k * EntE.size by show 0 + k * 5 = k * 5; omega, Enc.row_take]
      show SlR _ 5 (.slc b 0 k (.op 5)) (EntE.row (xs.filter fun x => !p x)) (xs.filter fun x => !p x).length
      rw [hlk]
      refine .slc _ _ _ _ _ h3'.lt ?_
      have hl : (EntE.row (xs.filter fun x => !p x)).length = k * 5 := by rw [Enc.row_len, hlk]; rfl
      rw [RM.loads_row (heap_put_eq _) (by rw [hrow]; simp [hl]), List.drop_zero, hrow, List.append_assoc, List.take_left' hl]
    · have : Keep [b] M3 (M3.put b (.row ((EntE.row d.toList).take (0 + k * 5) ++ repL [(N .i64 0), (N .u64 0), (St []), (St []), (St [])] (xs.length - k) ++ (EntE.row d.toList).drop (0 + k * 5 + (repL [(N .i64 0), (N .u64 0), (St []), (St []), (St [])] (xs.length - k)).length)) true T 0)) := (Keep.refl _ _).put _ (.inr (by simp))
      simpa [blkOf] using k3.trans this
def EvAt (TE : Nat) (b : Nat) (e : EvT) (kv : AV) (ks : List Dot) (M : RM) : Prop := b < M.next ∧ M.heap b = some (.row (evRow e kv) false TE 0) ∧ Sl DotE M kv ks
theorem EvAt.keep {TE b : Nat} {e : EvT} {kv : AV} {ks : List Dot} {M M' : RM} {bs : List Nat} (h : EvAt TE b e kv ks M) (k : Keep bs M M') (hb : b ∉ bs) (hk : ∀ d ∈ blkOf kv, d ∉ bs) : EvAt TE b e kv ks M' := by
  obtain ⟨h1, h2, h3⟩ := h
  exact ⟨Nat.lt_of_lt_of_le h1 k.next, k.heap_of h2 h1 hb, SlR.keep h3 k hk⟩
theorem apply1_spec {TE T b : Nat} {e : EvT} {kv : AV} {ks : List Dot} {cc : CallT} (hc : ContainsDC cc) (hl : ks.length ≤ 1000000) {M : RM} {x : Ent} {Q : PostV} (hP : EvAt TE b e kv ks M) (hQ : ∀ M', Keep [] M M' → Q (Bo (decide (x.1 ∈ ks))) M') :
    ∃ a0 a1, [AV.agg (EntE.cells x), .ptr b 0] = [a0, a1] ∧ W_State_Apply_1 T cc a0 a1 M Q := by
  obtain ⟨h1, h2, h3⟩ := hP
  refine ⟨_, _, rfl, ?_⟩
  unfold W_State_Apply_1
  rw [boxW_agg rfl (by rw [EntE.len]; decide), newW_eq]
  have k0 : Keep [] M (M.push (.row (EntE.cells x) false T 0)) := (Keep.refl _ _).push _
  have hx : (M.push (.row (EntE.cells x) false T 0)).heap M.next = some (.row (EntE.cells x) false T 0) := RM.push_new _
  have h2' := k0.heap_of h2 h1 (by simp)
  have h3' : Sl DotE (M.push (.row (EntE.cells x) false T 0)) kv ks := SlR.keep h3 k0 (by simp)
  generalize M.push (.row (EntE.cells x) false T 0) = M1 at *
  generalize M.next = s at *
  have e2 : ((EntE.cells x).drop 0).take 2 = dcells x.1 := rfl
  have ld : ∀ K : AV → Prop, loadN M1 (.ptr s 0) 2 K = K (.agg (dcells x.1)) := fun K => by
    rw [loadN_ptr, RM.loads_row hx (by rw [EntE.len]; decide), e2]
    simp
  rw [fld0, load1_at h2' rfl, fld0, ld]
  exact hc h3' hl fun M' k => hQ M' (k0.trans k)
theorem ent_eq (a b : Ent) : flatEq [1, 1, 2, 2, 2] (EntE.cells a) (EntE.cells b) = some (decide (a = b)) := by
  obtain ⟨⟨d, n⟩, x, y, z⟩ := a
  obtain ⟨⟨d', n'⟩, x', y', z'⟩ := b
  show flatEq [1, 1, 2, 2, 2] [N .i64 d, N .u64 (n : Int), St x, St y, St z] [N .i64 d', N .u64 (n' : Int), St x', St y', St z'] = _
  simp only [flatEq_int, flatEq_str, flatEq_nil]
  by_cases h1 : d = d' <;> by_cases h2 : n = n' <;> by_cases h3 : x = x' <;> by_cases h4 : y = y' <;> by_cases h5 : z = z' <;> simp [h1, h2, h3, h4, h5]
  all_goals omega
def EqualEC (c : CallT) : Prop := ∀ {M : RM} {v w : AV} {xs ys : List Ent} {Q : PostV}, Sl EntE M v xs → Sl EntE M w ys → xs.length ≤ 1000000 → Q (Bo (decide (xs = ys))) M → c [v, w] M Q
theorem equalE_spec : EqualEC fun args M Q => ∃ a0 a1, args = [a0, a1] ∧ W_Equal_Entry a0 a1 M Q := by
  intro M v w xs ys Q h1 h2 hl hQ
  refine ⟨_, _, rfl, ?_⟩
  unfold W_Equal_Entry
  rw [SlR.len h1, SlR.len h2, intW_neq, SlR.len h1]
  refine condB (fun hn => ?_) (fun hn => ?_)
  · have : ¬ xs = ys := fun e => by subst e; simp at hn
    rw [decide_eq_false this] at hQ
    exact hQ
  have hn : xs.length = ys.length := by
    simp only [bne_eq_false_iff_eq] at hn
    omega
  refine loopW_ind (fun m zs M3 => ∃ i : Nat, m = xs.length - i ∧ zs = [N .i64 (i : Int)] ∧ i ≤ xs.length ∧ M3 = M ∧ (xs = ys ↔ xs.drop i = ys.drop i)) _ ⟨0, rfl, rfl, Nat.zero_le _, rfl, Iff.rfl⟩ ?_
  rintro next m zs M3 hnext ⟨i, rfl, rfl, hi, rfl, hm⟩
  dsimp only [nthD]
  rw [lssN]
  refine condB (fun hlt => ?_) (fun hge => ?_)
  · have hlt : i < xs.length := of_decide_eq_true hlt
    rw [List.drop_eq_getElem_cons hlt, List.drop_eq_getElem_cons (show i < ys.length by omega), List.cons.injEq] at hm
    rw [ent_at h1 hlt, ent_at h2 (by omega), aggEqW_of rfl rfl (ent_eq _ _)]
    refine condB (fun he => ?_) (fun he => ?_)
    · have he : ¬ xs[i] = ys[i]'(by omega) := by simpa using he
      rw [decide_eq_false (fun e => he (hm.1 e).1)] at hQ
      exact hQ
    · have he : xs[i] = ys[i]'(by omega) := by simpa using he
      rw [add1 (by omega)]
      exact hnext _ _ _ (by omega) ⟨i + 1, rfl, rfl, by omega, rfl, hm.trans ⟨fun h => h.2, fun h => ⟨he, h⟩⟩⟩
  · have he : i = xs.length := by
      have : ¬ i < xs.length := of_decide_eq_false hge
      omega
    subst he
    rw [List.drop_length, hn, List.drop_length] at hm
    rw [decide_eq_true (hm.2 rfl)] at hQ
    exact hQ
end Go.Ab.Crw
set_option maxRecDepth 10000
set_option linter.unusedVariables false
set_option linter.unusedSimpArgs false
namespace Go.Ab.Dot
open Go Go.Ab
theorem repL_add : ∀ (a b : Nat), repL [N .u64 0] (a + b) = repL [N .u64 0] a ++ repL [N .u64 0] b
  | 0, b => by simp [repL]
  | a + 1, b => by rw [show a + 1 + b = (a + b) + 1 by omega, repL, repL, repL_add a b]; simp
theorem fill_app {M : RM} {b T k : Nat} {ps ys : List Nat} {u : AV} {zs : List AV} {K : PostV} (hb : M.heap b = some (.row (U64.row ps ++ repL [N .u64 0] k) true T 0)) (hu : Sl U64 M u ys) (hk : ys.length ≤ k) (hl : ys.length ≤ 1000000)
    (hK : ∀ M', M'.heap b = some (.row (U64.row (ps ++ ys) ++ repL [N .u64 0] (k - ys.length)) true T 0) → Keep [b] M M' → M'.next = M.next → K (.slc b 0 (ps ++ ys).length (.op 1)) M') :
    appW T 1 8 zs false (.slc b 0 ps.length (.op 1)) u M K := by
  have hn := SlR.newL hu zs
  have hrl : (U64.row ys).length = ys.length := by rw [Enc.row_len]; simp [U64]
  have hpl : (U64.row ps).length = ps.length := by rw [Enc.row_len]; simp [U64]
  refine ⟨ys.length, U64.row ys, hn, by omega, by omega, ?_⟩
  by_cases h0 : ys.length = 0
  · have : ys = [] := List.length_eq_zero_iff.1 h0
    subst this
    refine ⟨.slc b 0 ps.length (.op 1), M, by simp [appM], ?_⟩
    have := hK M (by simpa using hb) (Keep.refl _ _) rfl
    simpa using this
  · have hfit : 0 + (ps.length + ys.length) * 1 ≤ (U64.row ps ++ repL [N .u64 0] k).length := by
      rw [List.length_append, hpl, (repL_one k).1]; omega
    refine ⟨.slc b 0 (ps.length + ys.length) (.op 1), M.put b (.row (U64.row (ps ++ ys) ++ repL [N .u64 0] (k - ys.length)) true T 0), ?_, ?_⟩
    · simp only [appM, if_neg h0, hb]
      rw [if_pos (by simp), if_pos hfit, RM.stores_of hb, storesL_some (by rw [hrl, List.length_append, hpl, (repL_one k).1]; omega) (by omega) (U64.row_all ys)]
      simp only [Option.map_some]
      congr 4
      rw [Enc.row_append]
      have e1 : (U64.row ps ++ repL [N .u64 0] k).take (0 + ps.length * 1) = U64.row ps := by rw [List.take_left' (by omega)]
      have e2 : (U64.row ps ++ repL [N .u64 0] k).drop (0 + ps.length * 1 + (U64.row ys).length) = repL [N .u64 0] (k - ys.length) := by
        have : k = ys.length + (k - ys.length) := by omega
        rw [show repL [N .u64 0] k = repL [N .u64 0] ys.length ++ repL [N .u64 0] (k - ys.length) by rw [← repL_add]; congr 1, ← List.append_assoc, List.drop_left' (by rw [List.length_append, hpl, (repL_one _).1, hrl]; omega)]
      rw [e1, e2]
    · have := hK _ (heap_put_eq _) ((Keep.refl _ _).put _ (.inr (by simp))) rfl
      rw [List.length_append] at this
      exact this
def ConcatC (T : Nat) (c : CallT) : Prop := ∀ {M : RM} {bb TS : Nat} {v w : AV} {xs ys : List Nat} {Q : PostV}, M.heap bb = some (.row [v, w] false TS 0) → bb < M.next → Sl U64 M v xs → Sl U64 M w ys → xs.length ≤ 1000000 → ys.length ≤ 1000000 →
  (∀ r M', Ow U64 M' M.next T r (xs ++ ys) → Keep [] M M' → Q r M') → c [.slc bb 0 2 (.ex 2)] M Q
theorem concat_spec {TS T : Nat} {cg : CallT} (hg : GrowC T cg) : ConcatC T fun args M Q => ∃ a0, args = [a0] ∧ W_Concat_uint64 TS cg T a0 M Q := by
  intro M bb TB v w xs ys Q hb hbl hv hw hx hy hQ
  refine ⟨_, rfl, ?_⟩
  unfold W_Concat_uint64
  simp only [joinW_eq]
  have at0 : ∀ K : AV → Prop, idxS (.slc bb 0 2 (.ex 2)) (N .i64 ((0 : Nat) : Int)) 1 K = K (.ptr bb 0) := fun K => by
    rw [idxS_slc]; exact propext ⟨fun h => h.2.2, fun h => ⟨by decide, by decide, h⟩⟩
  have at1 : ∀ K : AV → Prop, idxS (.slc bb 0 2 (.ex 2)) (N .i64 ((1 : Nat) : Int)) 1 K = K (.ptr bb 1) := fun K => by
    rw [idxS_slc]; exact propext ⟨fun h => h.2.2, fun h => ⟨by decide, by decide, h⟩⟩
  rw [lenW_slc]
  have len3 : ∀ (p0 : Nat), p0 = 0 ∨ p0 = xs.length ∨ p0 = xs.length + ys.length → True := fun _ _ => trivial
  refine loopW_ind (fun m zs M3 => ∃ i : Nat, m = 2 - i ∧ i ≤ 2 ∧ zs = [N .i64 ((if i = 0 then 0 else if i = 1 then xs.length else xs.length + ys.length : Nat) : Int), N .i64 (i : Int)] ∧ M3 = M) _ ⟨0, rfl, by omega, rfl, rfl⟩ ?_
  rintro next m zs M3 hnext ⟨i, rfl, hi, rfl, rfl⟩
  dsimp only [nthD]
  rw [intW_lss]
  obtain rfl | rfl | rfl : i = 0 ∨ i = 1 ∨ i = 2 := by omega
  · rw [show decide (((0 : Nat) : Int) < ((2 : Nat) : Int)) = true from rfl, condT, at0, load1_at hb rfl, SlR.len hv]
    simp only [if_true]
    rw [intW_add, show ((0 : Nat) : Int) + (xs.length : Int) = (xs.length : Int) by omega, wrap_i64_id (by omega) (by omega), intW_lss, show decide ((xs.length : Int) < 0) = false by simp, condF, intW_add, i64_succ (by omega)]
    exact hnext _ _ _ (by omega) ⟨1, rfl, by omega, rfl, rfl⟩
  · rw [show decide (((1 : Nat) : Int) < ((2 : Nat) : Int)) = true from rfl, condT, at1, load1_at hb rfl, SlR.len hw]
    simp only [if_true, show ¬ (1 : Nat) = 0 by omega, if_false]
    rw [intW_add, show (xs.length : Int) + (ys.length : Int) = ((xs.length + ys.length : Nat) : Int) by omega, wrap_i64_id (by omega) (by omega), intW_lss, show decide (((xs.length + ys.length : Nat) : Int) < 0) = false by simp; omega, condF, intW_add, i64_succ (by omega)]
    exact hnext _ _ _ (by omega) ⟨2, rfl, by omega, rfl, rfl⟩
  · rw [show decide (((2 : Nat) : Int) < ((2 : Nat) : Int)) = false from rfl, condF]
    simp only [show ¬ (2 : Nat) = 0 by omega, show ¬ (2 : Nat) = 1 by omega, if_false]
    refine hg (by omega) (fun h0 => ?_) (fun hpos b M4 hb0 hb1 hrow k4 => ?_)
    · -- nothing
      have e1 : xs = [] := List.length_eq_zero_iff.1 (by omega)
      have e2 : ys = [] := List.length_eq_zero_iff.1 (by omega)
      subst e1 e2
      rw [lenW_slc]
      refine loopW_ind (fun m zs M5 => ∃ i : Nat, m = 2 - i ∧ i ≤ 2 ∧ zs = [nilS, N .i64 (i : Int)] ∧ M5 = M3) _ ⟨0, rfl, by omega, rfl, rfl⟩ ?_
      rintro next2 m zs M5 hnext2 ⟨i, rfl, hi, rfl, rfl⟩
      dsimp only [nthD]
      rw [intW_lss]
      have app : ∀ (u : AV) (K : PostV), Sl U64 M5 u [] → K nilS M5 → appW T 1 8 [N .u64 0] false nilS u M5 K := fun u K hu hK => by
        refine ⟨0, [], ?_, by omega, by omega, nilS, M5, by simp [appM], hK⟩
        exact SlR.newL hu _
      obtain rfl | rfl | rfl : i = 0 ∨ i = 1 ∨ i = 2 := by omega
      · rw [show decide (((0 : Nat) : Int) < ((2 : Nat) : Int)) = true from rfl, condT, at0, load1_at hb rfl]
        refine app _ _ hv ?_
        rw [intW_add, i64_succ (by omega)]
        exact hnext2 _ _ _ (by omega) ⟨1, rfl, by omega, rfl, rfl⟩
      · rw [show decide (((1 : Nat) : Int) < ((2 : Nat) : Int)) = true from rfl, condT, at1, load1_at hb rfl]
        refine app _ _ hw ?_
        rw [intW_add, i64_succ (by omega)]
        exact hnext2 _ _ _ (by omega) ⟨2, rfl, by omega, rfl, rfl⟩
      · rw [show decide (((2 : Nat) : Int) < ((2 : Nat) : Int)) = false from rfl, condF]
        exact hQ nilS M5 .nil (Keep.refl _ _)
    · rw [lenW_slc]
      have hbb : bb ≠ b := by omega
      refine loopW_ind (fun m zs M5 => ∃ i : Nat, m = 2 - i ∧ i ≤ 2 ∧ zs = [.slc b 0 (if i = 0 then ([] : List Nat) else if i = 1 then xs else xs ++ ys).length (.op 1), N .i64 (i : Int)] ∧ Keep [b] M4 M5 ∧ M5.next = M4.next ∧
          M5.heap b = some (.row (U64.row (if i = 0 then [] else if i = 1 then xs else xs ++ ys) ++ repL [N .u64 0] (xs.length + ys.length - (if i = 0 then ([] : List Nat) else if i = 1 then xs else xs ++ ys).length)) true T 0)) _
        ⟨0, rfl, by omega, rfl, Keep.refl _ _, rfl, by simpa [Enc.row] using hrow⟩ ?_
      rintro next2 m zs M5 hnext2 ⟨i, rfl, hi, rfl, k5, n5, hrow5⟩
      dsimp only [nthD]
      rw [intW_lss]
      have hb4 := k4.heap_of hb hbl (by simp)
      have hb5 := k5.heap_of hb4 (by omega) (by simp; exact hbb)
      have hv5 : Sl U64 M5 v xs := SlR.keep (SlR.keep hv k4 (by simp)) k5 (fun d hd hm => by have := SlR.lt hv d hd; simp at hm; omega)
      have hw5 : Sl U64 M5 w ys := SlR.keep (SlR.keep hw k4 (by simp)) k5 (fun d hd hm => by have := SlR.lt hw d hd; simp at hm; omega)
      obtain rfl | rfl | rfl : i = 0 ∨ i = 1 ∨ i = 2 := by omega
      · rw [show decide (((0 : Nat) : Int) < ((2 : Nat) : Int)) = true from rfl, condT, at0, load1_at hb5 rfl]
        simp only [if_true] at hrow5 ⊢
        refine fill_app hrow5 hv5 (by simp) hx fun M6 hrow6 k6 n6 => ?_
        rw [intW_add, i64_succ (by omega)]
        refine hnext2 _ _ _ (by omega) ⟨1, rfl, by omega, by simp, k5.trans k6, n6.trans n5, ?_⟩
        simp at hrow6 ⊢
        exact hrow6
      · rw [show decide (((1 : Nat) : Int) < ((2 : Nat) : Int)) = true from rfl, condT, at1, load1_at hb5 rfl]
        simp only [if_true, show ¬ (1 : Nat) = 0 by omega, if_false] at hrow5 ⊢
        refine fill_app hrow5 hw5 (by omega) hy fun M6 hrow6 k6 n6 => ?_
        rw [intW_add, i64_succ (by omega)]
        refine hnext2 _ _ _ (by omega) ⟨2, rfl, by omega, by simp, k5.trans k6, n6.trans n5, ?_⟩
        simp at hrow6 ⊢
        exact hrow6
      · rw [show decide (((2 : Nat) : Int) < ((2 : Nat) : Int)) = false from rfl, condF]
        simp only [show ¬ (2 : Nat) = 0 by omega, show ¬ (2 : Nat) = 1 by omega, if_false, List.length_append, Nat.sub_self, repL, List.append_nil] at hrow5 ⊢
        refine hQ _ M5 ?_ (k4.then_new k5 (by simp; omega))
        rw [Ow, List.length_append]
        exact .op b _ _ (by omega) (by omega) hrow5 (by rw [Enc.row_len, List.length_append])
end Go.Ab.Dot
set_option maxRecDepth 10000
set_option linter.unusedVariables false
set_option linter.unusedSimpArgs false
namespace Go.Ab.Dot
open Go Go.Ab
theorem SetH.put {T i u a : Nat} {S S' : Nat → Prop} {M M' : RM} {ps : List Pt} {l : List AV} {v' : AV} {xs : List Nat} {ks : List Nat} (h : SetH T S M a ps) (hl : M.heap a = some (.row l false T 0)) (hi : i < 16)
    (hb : M'.heap a = some (.row ((l.set (2 * i) (N .u64 (u : Int))).set (2 * i + 1) v') false T 0)) (hk : Keep ks M M') (hks : ∀ d ∈ ks, d = a ∨ ¬ S d) (hs : Sl U64 M' v' xs) (hc : capOk v') (hv : ∀ d ∈ blkOf v', S' d) (hS : ∀ d, S d → S' d) (ha : ¬ S' a) : SetH T S' M' a (ps.set i (u, xs)) := by
  obtain ⟨l0, h1, h2, h3⟩ := h.row
  rw [hl] at h1
  obtain rfl : l = l0 := by simpa using h1
  refine ⟨Nat.lt_of_lt_of_le h.lt hk.next, by rw [List.length_set]; exact h.len, ⟨_, hb, by simp [h2], fun j hj => ?_⟩, ha⟩
  have hj' : j < ps.length := by rw [List.length_set] at hj; exact hj
  have hj16 : j < 16 := by rw [← h.len]; exact hj'
  by_cases hji : j = i
  · subst hji
    refine ⟨v', ?_, ?_, ?_, hc, hv⟩
    · rw [List.getElem?_set_ne (by omega), List.getElem?_set_self (by omega), List.getElem_set_self]
    · rw [List.getElem?_set_self (by simp; omega)]
    · rw [List.getElem_set_self]; exact hs
  · obtain ⟨w, b1, b2, b3, b4, b5⟩ := h3 j hj'
    refine ⟨w, ?_, ?_, ?_, b4, fun d hd => hS d (b5 d hd)⟩
    · rw [List.getElem?_set_ne (by omega), List.getElem?_set_ne (by omega), List.getElem_set_ne (Ne.symm hji)]; exact b1
    · rw [List.getElem?_set_ne (by omega), List.getElem?_set_ne (by omega)]; exact b2
    · rw [List.getElem_set_ne (Ne.symm hji)]
      refine SlR.keep b3 hk fun d hd hm => ?_
      rcases hks d hm with rfl | h'
      · exact h.nb (b5 d hd)
      · exact h' (b5 d hd)
def joinPt (f g : List Nat → List Nat) (p q : Pt) : Pt := settle (max p.1 q.1) (g (f (p.2 ++ q.2)))
def joinT (f g : List Nat → List Nat) (ps qs : List Pt) : Nat → List Pt
  | 0 => ps
  | i + 1 => (joinT f g ps qs i).set i (joinPt f g (ps.getD i (0, [])) (qs.getD i (0, [])))
theorem joinT_ge {f g : List Nat → List Nat} {ps qs : List Pt} : ∀ {i j : Nat}, i ≤ j → (joinT f g ps qs i).getD j (0, []) = ps.getD j (0, [])
  | 0, j, _ => rfl
  | i + 1, j, h => by rw [joinT, getD_set_ne (by omega), joinT_ge (by omega)]
def JoinC (P : List Nat → Prop) (P2 : List Nat → Prop) (f g : List Nat → List Nat) (T : Nat) (c : CallT) : Prop := ∀ {M : RM} {a b : Nat} {ps qs : List Pt} {S S' : Nat → Prop} {Q : PostV}, SetH T S M a ps → SetH T S' M b qs → (a = b → ps = qs) → ¬ S' a →
  (∀ i, i < 16 → P ((ps.getD i (0, [])).2 ++ (qs.getD i (0, [])).2) ∧ P2 (f ((ps.getD i (0, [])).2 ++ (qs.getD i (0, [])).2))) → (∀ p ∈ ps, p.1 ≤ 4398046511104 ∧ p.2.length ≤ 100000) → (∀ p ∈ qs, p.1 ≤ 4398046511104 ∧ p.2.length ≤ 100000) →
  (∀ i, i < 16 → (g (f ((ps.getD i (0, [])).2 ++ (qs.getD i (0, [])).2))).length ≤ 1000000 ∧ ∀ x ∈ g (f ((ps.getD i (0, [])).2 ++ (qs.getD i (0, [])).2)), x ≤ 4398046511104) →
  (∀ M', SetH T (fun e => S e ∨ M.next ≤ e) M' a (joinT f g ps qs 16) → Keep [a] M M' → Q (.tup []) M') → c [.ptr a 0, .ptr b 0] M Q
theorem getD_all {ps : List Pt} {R : Pt → Prop} (h : ∀ p ∈ ps, R p) (h0 : R (0, [])) (i : Nat) : R (ps.getD i (0, [])) := by
  rw [List.getD_eq_getElem?_getD]
  by_cases hj : i < ps.length
  · rw [List.getElem?_eq_getElem hj]; exact h _ (List.getElem_mem hj)
  · rw [List.getElem?_eq_none (by omega)]; exact h0
theorem join_spec {TS TP TL TU : Nat} {P P2 : List Nat → Prop} {f g : List Nat → List Nat} {cc cs ck ct : CallT} (hc : ConcatC TU cc) (hs : SortC P f TU cs) (hk : CompactC P2 g TU ck) (ht : SettledC ct) :
    JoinC P P2 f g TS fun args M Q => ∃ a0 a1, args = [a0, a1] ∧ W_Set_Join TP TL cc cs ck ct a0 a1 M Q := by
  intro M a b ps qs S S' Q hA hB hab hSa hP hbp hbq hres hQ
  refine ⟨_, _, rfl, ?_⟩
  unfold W_Set_Join
  have hal := hA.lt
  have hbl := hB.lt
  refine loopW_ind (fun m ys M3 => ∃ (i : Nat), m = 16 - i ∧ ys = [N .i64 (i : Int)] ∧ i ≤ 16 ∧ Keep [a] M M3 ∧ SetH TS (fun e => S e ∨ M.next ≤ e) M3 a (joinT f g ps qs i)) _
    ⟨0, rfl, rfl, Nat.zero_le _, Keep.refl _ _, hA.mono (fun e h => .inl h) (fun h => by rcases h with h | h; exact hA.nb h; omega)⟩ ?_
  rintro next m ys M3 hnext ⟨i, rfl, rfl, hi, k3, hA3⟩
  dsimp only [nthD]
  rw [intW_lss]
  refine condB (fun hlt => ?_) (fun hge => ?_)
  · have hlt : i < 16 := by
      have : (i : Int) < 16 := of_decide_eq_true hlt
      omega
    have n3 := k3.next
    -- the second set's part
    have hB3 : ∃ l w, M3.heap b = some (.row l false TS 0) ∧ l.length = 32 ∧ l[2 * i]? = some (N .u64 ((qs.getD i (0, [])).1 : Int)) ∧ l[2 * i + 1]? = some w ∧ Sl U64 M3 w (qs.getD i (0, [])).2 ∧ a ∉ blkOf w := by
      by_cases e : a = b
      · subst e
        have e2 := hab rfl
        obtain ⟨l, h1, h2, h3⟩ := hA3.row
        have hil : i < (joinT f g ps qs i).length := by rw [hA3.len]; exact hlt
        obtain ⟨w, b1, b2, b3, b4, b5⟩ := h3 i hil
        have hD := joinT_ge (f := f) (g := g) (ps := ps) (qs := qs) (Nat.le_refl i)
        rw [List.getD_eq_getElem?_getD, List.getElem?_eq_getElem hil, Option.getD_some] at hD
        rw [hD, e2] at b1
        rw [hD, e2] at b3
        exact ⟨l, w, h1, h2, b1, b2, b3, fun hm => hA3.nb (b5 a hm)⟩
      · obtain ⟨l, h1, h2, h3⟩ := hB.row
        have hil : i < qs.length := by rw [hB.len]; exact hlt
        obtain ⟨w, b1, b2, b3, b4, b5⟩ := h3 i hil
        have hD : qs.getD i (0, []) = qs[i] := by rw [List.getD_eq_getElem?_getD, List.getElem?_eq_getElem hil]; rfl
        rw [hD]
        exact ⟨l, w, k3.heap_of h1 hbl (by simp; exact fun h => e h.symm), h2, b1, b2, SlR.keep b3 k3 (fun d hd hm => by simp at hm; subst hm; exact hSa (b5 d hd)), fun hm => hSa (b5 a hm)⟩
    obtain ⟨lb, qw, hb3, hlb32, q1, q2, q3, q4⟩ := hB3
    obtain ⟨la, ha3, hla32, hrow⟩ := hA3.row
    have hil : i < (joinT f g ps qs i).length := by rw [hA3.len]; exact hlt
    obtain ⟨pw, p1, p2, p3, p4, p5⟩ := hrow i hil
    have hD := joinT_ge (f := f) (g := g) (ps := ps) (qs := qs) (Nat.le_refl i)
    rw [List.getD_eq_getElem?_getD, List.getElem?_eq_getElem hil, Option.getD_some] at hD
    rw [hD] at p1 p3
    have bp := getD_all hbp ⟨by decide, by decide⟩ i
    have bq := getD_all hbq ⟨by decide, by decide⟩ i
    obtain ⟨hPi, hP2i⟩ := hP i hlt
    obtain ⟨hr1, hr2⟩ := hres i hlt
    have hnext' : ∀ M', Keep [a] M M' → SetH TS (fun e => S e ∨ M.next ≤ e) M' a ((joinT f g ps qs i).set i (joinPt f g (ps.getD i (0, [])) (qs.getD i (0, [])))) → next [N .i64 ((i + 1 : Nat) : Int)] M' := fun M' k h => hnext _ _ _ (by omega) ⟨i + 1, rfl, rfl, by omega, k, h⟩
    generalize ps.getD i (0, []) = p at *
    generalize qs.getD i (0, []) = q at *
    obtain ⟨pu, px⟩ := p
    obtain ⟨qu, qx⟩ := q
    simp only [joinPt] at *
    rw [ptrW_ptr, fld0, idxA_ptr]
    refine ⟨by omega, by omega, ?_⟩
    rw [ptrW_ptr, fld0, idxA_ptr]
    refine ⟨by omega, by omega, ?_⟩
    rw [Int.toNat_natCast, Nat.zero_add, Nat.mul_comm i 2, loadN_ptr]
    have hcut : M3.loads b (2 * i) 2 = some [N .u64 (qu : Int), qw] := by
      rw [RM.loads_row hb3 (by omega)]
      obtain ⟨r1, r2⟩ := List.getElem?_eq_some_iff.1 q1
      obtain ⟨r3, r4⟩ := List.getElem?_eq_some_iff.1 q2
      rw [List.drop_eq_getElem_cons r1, List.drop_eq_getElem_cons r3, r2, r4]; rfl
    refine ⟨_, hcut, ?_⟩
    have hq1 := SlR.one q3
    rw [newR_eq, storeW_all (n := 2) (x := .agg [N .u64 (qu : Int), qw]) (l := [N .u64 0, .sc (.slice none 0 0)]) (RM.push_new _) rfl rfl (by simp [AV.cells, hq1]; rfl)]
    have k4 : Keep [] M3 ((M3.push (.row [N .u64 0, .sc (.slice none 0 0)] false TP 0)).put M3.next (.row (AV.agg [N .u64 (qu : Int), qw]).cells false TP 0)) := ((Keep.refl _ _).push _).new _ (Nat.le_refl _)
    have h4 : ((M3.push (.row [N .u64 0, .sc (.slice none 0 0)] false TP 0)).put M3.next (.row (AV.agg [N .u64 (qu : Int), qw]).cells false TP 0)).heap M3.next = some (.row [N .u64 (qu : Int), qw] false TP 0) := heap_put_eq _
    have n4 : ((M3.push (.row [N .u64 0, .sc (.slice none 0 0)] false TP 0)).put M3.next (.row (AV.agg [N .u64 (qu : Int), qw]).cells false TP 0)).next = M3.next + 1 := rfl
    generalize (M3.push (.row [N .u64 0, .sc (.slice none 0 0)] false TP 0)).put M3.next (.row (AV.agg [N .u64 (qu : Int), qw]).cells false TP 0) = M4 at *
    have hal3 := hA3.lt
    have ha4 := k4.heap_of ha3 hal3 (by simp)
    rw [ptrW_ptr, fldW_ptr, Nat.add_zero, load1_at ha4 p1, fld0, load1_at h4 rfl, minW_N, if_pos rfl, max_wrap, ptrW_ptr, fldW_ptr, Nat.add_zero, storeW_at ha4 (by omega) rfl rfl]
    have k5 : Keep [a] M4 (M4.put a (.row (la.set (2 * i) (N .u64 ((max pu qu : Nat) : Int))) false TS 0)) := (Keep.refl _ _).put _ (.inr (by simp))
    have ha5 : (M4.put a (.row (la.set (2 * i) (N .u64 ((max pu qu : Nat) : Int))) false TS 0)).heap a = some (.row (la.set (2 * i) (N .u64 ((max pu qu : Nat) : Int))) false TS 0) := heap_put_eq _
    have n5 : (M4.put a (.row (la.set (2 * i) (N .u64 ((max pu qu : Nat) : Int))) false TS 0)).next = M4.next := rfl
    generalize M4.put a (.row (la.set (2 * i) (N .u64 ((max pu qu : Nat) : Int))) false TS 0) = M5 at *
    have h5 := k5.heap_of h4 (by omega) (by simp; omega)
    have p2' : (la.set (2 * i) (N .u64 ((max pu qu : Nat) : Int)))[2 * i + 1]? = some pw := by rw [List.getElem?_set_ne (by omega)]; exact p2
    rw [ptrW_ptr, fldW_ptr, load1_at ha5 p2', fld0, load1_at h5 rfl]
    have hapw : a ∉ blkOf pw := fun hm => hA3.nb (p5 a hm)
    have k35 : Keep [a] M3 M5 := (k4.mono (by simp)).trans k5
    have sp5 : Sl U64 M5 pw px := SlR.keep p3 k35 (fun d hd hm => by simp at hm; subst hm; exact hapw hd)
    have sq5 : Sl U64 M5 qw qx := SlR.keep q3 k35 (fun d hd hm => by simp at hm; subst hm; exact q4 hd)
    have hw1 := SlR.one sp5
    have hwc := SlR.cells sp5
    have hqc := SlR.cells sq5
    refine ⟨[pw, qw], by simp [fillO, repL, hwc, hqc, hw1, hq1], ?_⟩
    dsimp only
    rw [newR_eq]
    have k6 : Keep [] M5 (M5.push (.row [pw, qw] false TL 0)) := (Keep.refl _ _).push _
    have h6 : (M5.push (.row [pw, qw] false TL 0)).heap M5.next = some (.row [pw, qw] false TL 0) := RM.push_new _
    have n6 : (M5.push (.row [pw, qw] false TL 0)).next = M5.next + 1 := rfl
    generalize M5.push (.row [pw, qw] false TL 0) = M6 at *
    refine hc h6 (by omega) (SlR.keep sp5 k6 (by simp)) (SlR.keep sq5 k6 (by simp)) (by have := bp.2; omega) (by have := bq.2; omega) fun r M7 ho7 k7 => ?_
    have n7 := k7.next
    have k57 := k6.trans k7
    have ha7 := k57.heap_of ha5 (by omega) (by simp)
    rw [ptrW_ptr, fldW_ptr, storeW_at ha7 (by simp; omega) ho7.cells ho7.one]
    have k8 : Keep [a] M7 (M7.put a (.row ((la.set (2 * i) (N .u64 ((max pu qu : Nat) : Int))).set (2 * i + 1) r) false TS 0)) := (Keep.refl _ _).put _ (.inr (by simp))
    have ha8 : (M7.put a (.row ((la.set (2 * i) (N .u64 ((max pu qu : Nat) : Int))).set (2 * i + 1) r) false TS 0)).heap a = some (.row ((la.set (2 * i) (N .u64 ((max pu qu : Nat) : Int))).set (2 * i + 1) r) false TS 0) := heap_put_eq _
    have n8 : (M7.put a (.row ((la.set (2 * i) (N .u64 ((max pu qu : Nat) : Int))).set (2 * i + 1) r) false TS 0)).next = M7.next := rfl
    generalize M7.put a (.row ((la.set (2 * i) (N .u64 ((max pu qu : Nat) : Int))).set (2 * i + 1) r) false TS 0) = M8 at *
    have har : a ∉ blkOf r := fun hm => by have := (ho7.blk a hm).1; omega
    have ho8 := ho7.keep k8 (fun d hd hm => by simp at hm; subst hm; exact har hd)
    have g1 : ((la.set (2 * i) (N .u64 ((max pu qu : Nat) : Int))).set (2 * i + 1) r)[2 * i + 1]? = some r := by rw [List.getElem?_set_self (by simp; omega)]
    have g0 : ((la.set (2 * i) (N .u64 ((max pu qu : Nat) : Int))).set (2 * i + 1) r)[2 * i]? = some (N .u64 ((max pu qu : Nat) : Int)) := by rw [List.getElem?_set_ne (by omega), List.getElem?_set_self (by omega)]
    rw [ptrW_ptr, fldW_ptr, load1_at ha8 g1]
    refine hs ho8 hPi fun M9 ho9 k9 => ?_
    have ha9 := k9.heap_of ha8 (by omega) har
    have n9 := k9.next
    rw [ptrW_ptr, fldW_ptr, load1_at ha9 g1]
    refine hk ho9 hP2i fun r' M10 s10 c10 b10 k10 => ?_
    have n10 := k10.next
    have ha10 := k10.heap_of ha9 (by omega) har
    have har' : a ∉ blkOf r' := fun hm => har (b10 a hm)
    rw [ptrW_ptr, fldW_ptr, storeW_to ((la.set (2 * i) (N .u64 ((max pu qu : Nat) : Int))).set (2 * i + 1) r') ha10 (by simp; omega) (SlR.cells s10) (SlR.one s10) (by rw [List.set_set])]
    have k11 : Keep [a] M10 (M10.put a (.row ((la.set (2 * i) (N .u64 ((max pu qu : Nat) : Int))).set (2 * i + 1) r') false TS 0)) := (Keep.refl _ _).put _ (.inr (by simp))
    have ha11 : (M10.put a (.row ((la.set (2 * i) (N .u64 ((max pu qu : Nat) : Int))).set (2 * i + 1) r') false TS 0)).heap a = some (.row ((la.set (2 * i) (N .u64 ((max pu qu : Nat) : Int))).set (2 * i + 1) r') false TS 0) := heap_put_eq _
    have n11 : (M10.put a (.row ((la.set (2 * i) (N .u64 ((max pu qu : Nat) : Int))).set (2 * i + 1) r') false TS 0)).next = M10.next := rfl
    generalize M10.put a (.row ((la.set (2 * i) (N .u64 ((max pu qu : Nat) : Int))).set (2 * i + 1) r') false TS 0) = M11 at *
    have s11 : Sl U64 M11 r' (g (f (px ++ qx))) := SlR.keep s10 k11 (fun d hd hm => by simp at hm; subst hm; exact har' hd)
    have g0' : ((la.set (2 * i) (N .u64 ((max pu qu : Nat) : Int))).set (2 * i + 1) r')[2 * i]? = some (N .u64 ((max pu qu : Nat) : Int)) := by rw [List.getElem?_set_ne (by omega), List.getElem?_set_self (by omega)]
    have g1' : ((la.set (2 * i) (N .u64 ((max pu qu : Nat) : Int))).set (2 * i + 1) r')[2 * i + 1]? = some r' := by rw [List.getElem?_set_self (by simp; omega)]
    refine ht ha11 g0' g1' s11 har' c10 hr1 (by have := bp.1; have := bq.1; omega) hr2 fun v' M12 ha12 s12 c12 b12 k12 n12 => ?_
    rw [intW_add, i64_succ (by omega)]
    have kr : ∀ d ∈ blkOf r, M.next ≤ d ∧ M3.next ≤ d := fun d hd => by have := (ho7.blk d hd).1; omega
    -- all that was changed: the set's block, and new ones
    have kAll : Keep [a] M3 M12 := by
      have w7 : Keep [a] M3 M7 := k35.trans (k57.mono (by simp))
      have w8 := w7.trans k8
      have w9 := w8.then_new k9 fun d hd => .inl (kr d hd).2
      have w10 := w9.then_new k10 fun d hd => .inl (kr d hd).2
      exact (w10.trans k11).trans k12
    refine hnext' M12 (k3.trans kAll) (hA3.put ha3 hlt ?_ kAll (fun d hd => .inl (by simpa using hd)) s12 c12 (fun d hd => .inr (kr d (b10 d (b12 d hd))).1) (fun d h => h) (fun h => by rcases h with h | h; exact hA.nb h; omega))
    rw [ha12]
    rw [List.set_comm (i := 2 * i + 1) (j := 2 * i) _ _ (by omega), List.set_set, List.set_set]
    rfl
  · have he : i = 16 := by
      have : ¬ (i : Int) < 16 := of_decide_eq_false hge
      omega
    subst he
    exact hQ M3 hA3 k3
theorem joinT_len {f g : List Nat → List Nat} {ps qs : List Pt} : ∀ i, (joinT f g ps qs i).length = ps.length
  | 0 => rfl
  | i + 1 => by rw [joinT, List.length_set, joinT_len i]
theorem joinT_lt {f g : List Nat → List Nat} {ps qs : List Pt} (hl : ps.length = 16) : ∀ {i j : Nat}, i ≤ 16 → j < i → (joinT f g ps qs i).getD j (0, []) = joinPt f g (ps.getD j (0, [])) (qs.getD j (0, []))
  | i + 1, j, hi, h => by
    rw [joinT]
    by_cases e : i = j
    · subst e
      rw [getD_set_self (by rw [joinT_len]; omega)]
    · rw [getD_set_ne e, joinT_lt hl (by omega) (by omega)]
end Go.Ab.Dot
set_option maxRecDepth 10000
set_option linter.unusedVariables false
set_option linter.unusedSimpArgs false
namespace Go.Ab.Dot
open Go Go.Ab
theorem hasP_iff {p : Pt} {x : Nat} : hasP p x = true ↔ (1 ≤ x ∧ x ≤ p.1) ∨ x ∈ p.2 := by
  unfold hasP
  simp only [Bool.or_eq_true, Bool.and_eq_true, decide_eq_true_eq]
theorem settle_has : ∀ (xs : List Nat) (u x : Nat), (∀ y ∈ xs, 1 ≤ y) → (hasP (settle u xs) x = true ↔ (1 ≤ x ∧ x ≤ u) ∨ x ∈ xs)
  | [], u, x, _ => by rw [hasP_iff]; simp [settle, settleK]
  | y :: xs, u, x, h => by
    by_cases hy : y ≤ u + 1
    · have e : settle u (y :: xs) = settle (max u y) xs := by
        unfold settle
        rw [settleK, if_pos hy]; rfl
      have h1 := h y (by simp)
      rw [e, settle_has xs (max u y) x (fun z hz => h z (by simp [hz])), List.mem_cons]
      constructor
      · rintro (⟨a, b⟩ | c)
        · by_cases hx : x ≤ u
          · exact .inl ⟨a, hx⟩
          · exact .inr (.inl (by omega))
        · exact .inr (.inr c)
      · rintro (⟨a, b⟩ | c | c)
        · exact .inl ⟨a, by omega⟩
        · exact .inl ⟨by omega, by omega⟩
        · exact .inr c
    · have e : settle u (y :: xs) = (u, y :: xs) := by
        unfold settle
        rw [settleK, if_neg hy]; rfl
      rw [e, hasP_iff]
theorem mem_insL {k n : Nat} {xs : List Nat} {x : Nat} : x ∈ insL k n xs ↔ x = n ∨ x ∈ xs := by
  refine ⟨insL_mem, fun h => ?_⟩
  unfold insL
  rcases h with h | h
  · simp [h]
  · rw [← List.take_append_drop k xs, List.mem_append] at h
    rw [List.mem_append, List.mem_cons]
    rcases h with h | h
    · exact .inl h
    · exact .inr (.inr h)
theorem addP_has {p : Pt} {n x : Nat} (hp : WfP p) (hn : 1 ≤ n) (hok : (addP p n).1 = true) : hasP (addP p n).2 x = true ↔ hasP p x = true ∨ x = n := by
  unfold addP at hok ⊢
  by_cases h : n ∈ p.2 ∨ n ≤ p.1
  · rw [if_pos h]
    constructor
    · exact .inl
    · rintro (h1 | rfl)
      · exact h1
      · rw [hasP_iff]
        rcases h with h | h
        · exact .inr h
        · exact .inl ⟨hn, h⟩
  · rw [if_neg h] at hok ⊢
    by_cases h2 : (settle p.1 (insL (below n p.2) n p.2)).2.length ≤ 4096
    · rw [if_pos h2]
      simp only
      rw [settle_has _ _ _ (fun y hy => by rcases mem_insL.1 hy with rfl | hy; exact hn; have := hp.2.1 y hy; omega), mem_insL, hasP_iff]
      constructor
      · rintro (a | b | c)
        · exact .inl (.inl a)
        · exact .inr b
        · exact .inl (.inr c)
      · rintro ((a | b) | c)
        · exact .inl a
        · exact .inr (.inr b)
        · exact .inr (.inl c)
    · rw [if_neg h2] at hok; cases hok
theorem withinP_iff {p q : Pt} (hp : WfP p) (hq : WfP q) : withinP p q = true ↔ ∀ x, hasP p x = true → hasP q x = true := by
  constructor
  · intro h x hx
    unfold withinP at h
    simp only [Bool.and_eq_true, List.all_eq_true, decide_eq_true_eq] at h
    rw [hasP_iff] at hx
    rcases hx with hx | hx
    · rw [hasP_iff]; exact .inl ⟨hx.1, by omega⟩
    · exact h.2 x hx
  · intro h
    unfold withinP
    simp only [Bool.and_eq_true, List.all_eq_true, decide_eq_true_eq]
    refine ⟨?_, fun x hx => h x (hasP_iff.2 (.inr hx))⟩
    rcases Nat.lt_or_ge q.1 p.1 with hlt | hle
    · have := hasP_iff.1 (h (q.1 + 1) (hasP_iff.2 (.inl ⟨by omega, by omega⟩)))
      rcases this with h1 | h1
      · omega
      · have := hq.2.1 _ h1; omega
    · exact hle
theorem addP_len {p : Pt} {n : Nat} : (addP p n).2.2.length ≤ p.2.length + 1 := by
  unfold addP
  split
  · exact Nat.le_succ _
  · split
    · have h1 := settle_len p.1 (insL (below n p.2) n p.2)
      have h2 := insL_len (x := n) (below_le n p.2)
      simp only; omega
    · exact Nat.le_succ _
theorem addP_ok {p : Pt} {n : Nat} (h : p.2.length < 4096) : (addP p n).1 = true := by
  unfold addP
  split
  · rfl
  · have h1 := settle_len p.1 (insL (below n p.2) n p.2)
    have h2 := insL_len (x := n) (below_le n p.2)
    rw [if_pos (by omega)]
theorem addS_good {ps : List Pt} {d : Dot} (hl : ∀ p ∈ ps, p.2.length < 4096) (hg : good d = true) : addS ps d = (0, ps.set d.1.toNat (addP (ps.getD d.1.toNat (0, [])) d.2).2) := by
  unfold addS
  rw [if_pos hg, addP_ok (getD_all (R := fun p => p.2.length < 4096) hl (by decide) _), if_pos rfl]
theorem addS_more {ps : List Pt} {d : Dot} {k : Nat} (hl : ∀ p ∈ ps, p.2.length ≤ k) : ∀ p ∈ (addS ps d).2, p.2.length ≤ k + 1 := by
  unfold addS
  split
  · split
    · intro p hp
      rcases List.mem_or_eq_of_mem_set hp with hp | rfl
      · have := hl p hp; omega
      · have h1 := addP_len (p := ps.getD d.1.toNat (0, [])) (n := d.2)
        have h2 := getD_all (R := fun p => p.2.length ≤ k) hl (Nat.zero_le _) d.1.toNat
        omega
    · intro p hp; have := hl p hp; omega
  · intro p hp; have := hl p hp; omega
section
variable {ps : List Pt} {d : Dot}
theorem good_num (hg : good d = true) : 1 ≤ d.2 ∧ d.2 ≤ 1099511627776 ∧ d.1.toNat < 16 := by
  simp only [good, Bool.and_eq_true, decide_eq_true_eq] at hg
  omega
theorem grow_has (h16 : ps.length = 16) (hw : ∀ p ∈ ps, WfP p) (hl : ∀ p ∈ ps, p.2.length < 4096) (hg : good d = true) (j x : Nat) :
    hasP ((addS ps d).2.getD j (0, [])) x = true ↔ hasP (ps.getD j (0, [])) x = true ∨ (j = d.1.toNat ∧ x = d.2) := by
  obtain ⟨h1, h2, h3⟩ := good_num hg
  rw [addS_good hl hg]
  simp only
  by_cases e : d.1.toNat = j
  · subst e
    rw [getD_set_self (by omega), addP_has (getD_wf hw _) h1 (addP_ok (getD_all (R := fun p => p.2.length < 4096) hl (by decide) _))]
    simp
  · rw [getD_set_ne e]
    simp [Ne.symm e]
theorem within_hasS {qs : List Pt} {e : Dot} (hw : ∀ p ∈ ps, WfP p) (hw2 : ∀ p ∈ qs, WfP p) (h : withinS ps qs = true) (he : hasS ps e = true) : hasS qs e = true := by
  unfold hasS at he ⊢
  simp only [Bool.and_eq_true] at he ⊢
  exact ⟨he.1, (withinP_iff (getD_wf hw _) (getD_wf hw2 _)).1 (withinS_iff.1 h _ (good_num he.1).2.2) _ he.2⟩
end
end Go.Ab.Dot
set_option maxRecDepth 10000
set_option linter.unusedVariables false
set_option linter.unusedSimpArgs false
namespace Go.Ab.Dot
open Go Go.Ab
end Go.Ab.Dot
set_option maxRecDepth 10000
set_option linter.unusedVariables false
set_option linter.unusedSimpArgs false
namespace Go.Ab.Dot
open Go Go.Ab
def OwX (T : Nat) (M : RM) (base : Nat) (v : AV) (L : List UInt8) : Prop :=
  Own M base T 1 v (bytesC L) L.length ∨ ∃ b, v = .slc b 0 L.length (.ex L.length) ∧ base ≤ b ∧ b < M.next ∧ M.heap b = some (.row (bytesC L) false T 0)
theorem OwX.keep {T base : Nat} {M M' : RM} {v : AV} {L : List UInt8} (h : OwX T M base v L) (hk : Keep [] M M') : OwX T M' base v L := by
  rcases h with h | ⟨b, rfl, h1, h2, h3⟩
  · exact .inl (h.keep hk (by simp))
  · exact .inr ⟨b, rfl, h1, Nat.lt_of_lt_of_le h2 hk.next, hk.heap_of h3 h2 (by simp)⟩
end Go.Ab.Dot
set_option maxRecDepth 10000
set_option linter.unusedVariables false
set_option linter.unusedSimpArgs false
namespace Go.Ab.Dot
open Go Go.Ab
structure PO (TP TU base : Nat) (M : RM) (v : AV) (out : List PartT) (cs : List AV) (ws : Nat → AV) : Prop where
  own : Own M base TP 3 v cs out.length
  row : ∀ (k : Nat) (hk : k < out.length), cs[3 * k]? = some (N .i64 (out[k].1.1 : Int)) ∧ cs[3 * k + 1]? = some (N .u64 (out[k].1.2 : Int)) ∧ cs[3 * k + 2]? = some (ws k) ∧ Ow U64 M base TU (ws k) out[k].2
  apart : ∀ i j, i < out.length → j < out.length → i ≠ j → ∀ d ∈ blkOf (ws i), d ∉ blkOf (ws j)
  off : ∀ i, i < out.length → ∀ d ∈ blkOf (ws i), d ∉ blkOf v
section
variable {TP TU base : Nat} {M M' : RM} {v : AV} {out : List PartT} {cs : List AV} {ws : Nat → AV}
theorem PO.empty (h : Own M base TP 3 v [] 0) : PO TP TU base M v [] [] (fun _ => nilS) :=
  ⟨h, fun k hk => absurd hk (Nat.not_lt_zero _), fun i j hi => absurd hi (Nat.not_lt_zero _), fun i hi => absurd hi (Nat.not_lt_zero _)⟩
theorem PO.keep {ks : List Nat} (h : PO TP TU base M v out cs ws) (hk : Keep ks M M') (hs : ∀ d ∈ ks, d < base ∨ M.next ≤ d) : PO TP TU base M' v out cs ws := by
  refine ⟨h.own.keep hk (fun d hd hm => by have := h.own.blk d hd; have := hs d hm; omega), fun k hk' => ?_, h.apart, h.off⟩
  obtain ⟨a1, a2, a3, a4⟩ := h.row k hk'
  exact ⟨a1, a2, a3, a4.keep hk fun d hd hm => by have := a4.blk d hd; have := hs d hm; omega⟩
theorem PO.at (h : PO TP TU base M v out cs ws) {i : Nat} (hi : i < out.length) :
    ∃ b, v = .slc b 0 out.length (.op 3) ∧ base ≤ b ∧ b < M.next ∧ M.heap b = some (.row cs true TP 0) ∧ cs.length = out.length * 3 ∧ ∀ (kd : IntKind) (K : AV → Prop), idxS v (N kd (i : Int)) 3 K = K (.ptr b (3 * i)) := by
  obtain ⟨b, h1, h2, h3, h4, h5⟩ := Own.op_pos h.own (by omega)
  refine ⟨b, h1, h2, h3, h4, h5, fun kd K => ?_⟩
  rw [h1, idxS_slc]
  simp only [Int.toNat_natCast]
  rw [show 0 + i * 3 = 3 * i by omega]
  exact propext ⟨fun h => h.2.2, fun h => ⟨by omega, by omega, h⟩⟩
theorem PO.set (h : PO TP TU base M v out cs ws) {i b u : Nat} {w : AV} {xs : List Nat} {M1 M2 : RM} {ks : List Nat} (hi : i < out.length) (hv : v = .slc b 0 out.length (.op 3)) (k1 : Keep ks M M1) (hks : ∀ d ∈ ks, d ∈ blkOf (ws i))
    (hw : Ow U64 M1 base TU w xs) (hw2 : w = ws i ∨ ∀ d ∈ blkOf w, M.next ≤ d) (hb : M2 = M1.put b (.row ((cs.set (3 * i + 1) (N .u64 (u : Int))).set (3 * i + 2) w) true TP 0)) :
    PO TP TU base M2 v (out.set i ((out[i].1.1, u), xs)) ((cs.set (3 * i + 1) (N .u64 (u : Int))).set (3 * i + 2) w) (fun j => if j = i then w else ws j) ∧ Keep (b :: ks) M M2 := by
  obtain ⟨b', e, hb1, hb2, hb3, hb4, _⟩ := h.at hi
  obtain rfl : b = b' := by rw [hv] at e; injection e
  have n1 := k1.next
  have kk : Keep [b] M1 M2 := by subst hb; exact (Keep.refl _ _).put _ (.inr (by simp))
  have hh : M2.heap b = some (.row ((cs.set (3 * i + 1) (N .u64 (u : Int))).set (3 * i + 2) w) true TP 0) := by subst hb; exact heap_put_eq _
  have hbv : ∀ j, j < out.length → b ∉ blkOf (ws j) := fun j hj hm => h.off j hj b hm (by rw [hv]; simp [blkOf])
  have hbw : b ∉ blkOf w := by
    rcases hw2 with rfl | hw2
    · exact hbv i hi
    · exact fun hm => by have := hw2 b hm; omega
  refine ⟨⟨?_, fun j hj => ?_, fun j1 j2 q1 q2 hne d (hd : d ∈ blkOf (if j1 = i then w else ws j1)) => show d ∉ blkOf (if j2 = i then w else ws j2) from ?_, fun j hj d hd => ?_⟩, (k1.mono (fun d hd => List.mem_cons_of_mem _ hd)).trans (kk.mono (by simp))⟩
  · rw [List.length_set, hv]
    exact .op _ _ _ hb1 (Nat.lt_of_lt_of_le hb2 (Nat.le_trans n1 kk.next)) hh (by simp; omega)
  · have hj' : j < out.length := by rw [List.length_set] at hj; exact hj
    obtain ⟨a1, a2, a3, a4⟩ := h.row j hj'
    by_cases hji : j = i
    · subst hji
      rw [List.getElem_set_self]
      simp only [if_true]
      refine ⟨?_, ?_, ?_, hw.keep kk fun d hd hm => ?_⟩
      · rw [List.getElem?_set_ne (by omega), List.getElem?_set_ne (by omega)]; exact a1
      · rw [List.getElem?_set_ne (by omega), List.getElem?_set_self (by omega)]
      · rw [List.getElem?_set_self (by rw [List.length_set]; omega)]
      · simp at hm; subst hm; exact hbw hd
    · rw [List.getElem_set_ne (Ne.symm hji)]
      simp only [if_neg hji]
      refine ⟨?_, ?_, ?_, (a4.keep k1 fun d hd hm => ?_).keep kk fun d hd hm => ?_⟩
      · rw [List.getElem?_set_ne (by omega), List.getElem?_set_ne (by omega)]; exact a1
      · rw [List.getElem?_set_ne (by omega), List.getElem?_set_ne (by omega)]; exact a2
      · rw [List.getElem?_set_ne (by omega), List.getElem?_set_ne (by omega)]; exact a3
      · exact h.apart j i hj' hi hji d hd (hks d hm)
      · simp at hm; subst hm; exact hbv j hj' hd
  · rw [List.length_set] at q1 q2
    by_cases e1 : j1 = i
    · rw [if_pos e1] at hd
      rw [if_neg (fun e => hne (e1.trans e.symm))]
      rcases hw2 with rfl | hw2
      · exact h.apart i j2 hi q2 (fun e => hne (e1.trans e)) d hd
      · intro hm
        have := hw2 d hd
        have := ((h.row j2 q2).2.2.2.blk d hm).2
        omega
    · rw [if_neg e1] at hd
      by_cases e2 : j2 = i
      · rw [if_pos e2]
        rcases hw2 with rfl | hw2
        · exact h.apart j1 i q1 hi e1 d hd
        · intro hm
          have := hw2 d hm
          have := ((h.row j1 q1).2.2.2.blk d hd).2
          omega
      · rw [if_neg e2]
        exact h.apart j1 j2 q1 q2 hne d hd
  · rw [List.length_set] at hj
    have hd : d ∈ blkOf (if j = i then w else ws j) := hd
    by_cases e1 : j = i
    · rw [if_pos e1] at hd
      intro hm
      rw [hv] at hm
      simp [blkOf] at hm
      subst hm; exact hbw hd
    · rw [if_neg e1] at hd
      exact h.off j hj d hd
end
end Go.Ab.Dot
set_option maxRecDepth 10000
set_option linter.unusedVariables false
set_option linter.unusedSimpArgs false
namespace Go.Ab.Dot
open Go Go.Ab
theorem getD_of {α : Type} {l : List α} {i : Nat} {d : α} (h : i < l.length) : l.getD i d = l[i] := by
  rw [List.getD_eq_getElem?_getD, List.getElem?_eq_getElem h]; rfl
theorem good_dev {d : Dot} (h : good d = true) : 0 ≤ d.1 ∧ d.1 < 16 ∧ d.2 ≤ 1099511627776 ∧ 1 ≤ d.2 := by
  simp only [good, Bool.and_eq_true, decide_eq_true_eq] at h
  omega
end Go.Ab.Dot
set_option maxRecDepth 10000
set_option linter.unusedVariables false
set_option linter.unusedSimpArgs false
namespace Go.Ab.Dot
open Go Go.Ab
end Go.Ab.Dot
set_option maxRecDepth 10000
set_option linter.unusedVariables false
set_option linter.unusedSimpArgs false
namespace Go.Ab.Dot
open Go Go.Ab
section
variable {TP TU base : Nat} {M : RM} {v : AV} {out : List PartT} {cs : List AV} {ws : Nat → AV}
end
end Go.Ab.Dot
set_option maxRecDepth 10000
set_option linter.unusedVariables false
set_option linter.unusedSimpArgs false
namespace Go.Ab.Dot
open Go Go.Ab
theorem addS_len {ps : List Pt} {d : Dot} : (addS ps d).2.length = ps.length := by
  unfold addS
  split
  · split
    · simp only; rw [List.length_set]
    · rfl
  · rfl
structure GrowI (l : List Dot) (i : Nat) (ps : List Pt) : Prop where
  len : ps.length = 16
  wf : ∀ p ∈ ps, WfP p
  few : ∀ p ∈ ps, p.2.length ≤ i
  has : ∀ k (hk : k < l.length), k < i → good l[k] = true → hasS ps l[k] = true
end Go.Ab.Dot
set_option maxRecDepth 10000
set_option linter.unusedVariables false
set_option linter.unusedSimpArgs false
namespace Go.Ab.Dot
open Go Go.Ab
def Srt (l : List Dot) : Prop := l.Pairwise fun a b => aheadB a b = true
def nums (p : Pt) : List Nat := List.range' 1 p.1 ++ p.2
def seg (i : Nat) (p : Pt) : List Dot := (nums p).map fun n => ((i : Int), n)
def elemsT (ps : List Pt) : Nat → List Dot
  | 0 => []
  | i + 1 => elemsT ps i ++ seg i (ps.getD i (0, []))
theorem mem_nums {p : Pt} {n : Nat} : n ∈ nums p ↔ hasP p n = true := by
  rw [hasP_iff, nums, List.mem_append, List.mem_range'_1]
  constructor
  · rintro (h | h)
    · exact .inl (by omega)
    · exact .inr h
  · rintro (h | h)
    · exact .inl (by omega)
    · exact .inr h
theorem mem_elemsT {ps : List Pt} {d : Dot} : ∀ {i : Nat}, d ∈ elemsT ps i ↔ 0 ≤ d.1 ∧ d.1 < i ∧ hasP (ps.getD d.1.toNat (0, [])) d.2 = true
  | 0 => by simp [elemsT]; omega
  | i + 1 => by
    rw [elemsT, List.mem_append, mem_elemsT, seg, List.mem_map]
    constructor
    · rintro (⟨h1, h2, h3⟩ | ⟨n, h, rfl⟩)
      · exact ⟨h1, by omega, h3⟩
      · exact ⟨by simp, by simp; omega, by simpa using mem_nums.1 h⟩
    · rintro ⟨h1, h2, h3⟩
      by_cases h : d.1 < i
      · exact .inl ⟨h1, h, h3⟩
      · have e : d.1.toNat = i := by omega
        rw [e] at h3
        exact .inr ⟨d.2, mem_nums.2 h3, Prod.ext (by simp; omega) rfl⟩
theorem elems_has {ps : List Pt} (h : ∀ p ∈ ps, WfP p) (d : Dot) : d ∈ elemsT ps 16 ↔ hasS ps d = true := by
  rw [mem_elemsT, hasS, Bool.and_eq_true]
  constructor
  · rintro ⟨h1, h2, h3⟩
    refine ⟨?_, h3⟩
    have hw := getD_wf h d.1.toNat
    have : 1 ≤ d.2 ∧ d.2 ≤ 1099511627776 := by
      rcases hasP_iff.1 h3 with h | h
      · have := hw.2.2.1; omega
      · have := hw.2.1 _ h; have := hw.2.2.2.1 _ h; omega
    simp [good]; omega
  · rintro ⟨h1, h3⟩
    simp [good] at h1
    exact ⟨by omega, by omega, h3⟩
structure DocI (ps : List Pt) (w : List Dot) : Prop where
  len : ps.length = 16
  wf : ∀ p ∈ ps, WfP p
  srt : Srt w
  mem : ∀ d, d ∈ w ↔ hasS ps d = true
theorem DocI.empty : DocI emptyS [] := by
  refine ⟨rfl, empty_wf, .nil, fun d => ?_⟩
  rw [hasS, empty_getD]
  simp [hasP]
  intro _ h; omega
end Go.Ab.Dot
set_option maxRecDepth 10000
set_option linter.unusedVariables false
set_option linter.unusedSimpArgs false
namespace Go.Ab.Dot
open Go Go.Ab
theorem own_pm {M : RM} {base T : Nat} {v : AV} {xs : List Nat} (h : Ow U64 M base T v xs) (hn : 0 < xs.length) : ∃ b, v = vv b xs.length ∧ base ≤ b ∧ b < M.next ∧ M = PM M b T xs.toArray := by
  obtain ⟨b, h1, h2, h3, h4, h5⟩ := Own.op_pos h hn
  refine ⟨b, h1, h2, h3, ?_⟩
  unfold PM RM.put
  obtain ⟨n, hp, lo⟩ := M
  simp only at h4 ⊢
  congr 1
  funext c
  by_cases hc : c = b
  · subst hc; rw [if_pos rfl, h4]
  · rw [if_neg hc]
theorem pm_own {M : RM} {b T base : Nat} {d : Array Nat} (h1 : base ≤ b) (h2 : b < M.next) : Ow U64 (PM M b T d) base T (vv b d.size) d.toList := by
  have : Own (PM M b T d) base T 1 (.slc b 0 d.size (.op 1)) (U64.row d.toList) d.size := .op _ _ _ h1 h2 PM.heap (by rw [PM.cellsLen]; omega)
  show Own (PM M b T d) base T 1 (.slc b 0 d.size (.op 1)) (U64.row d.toList) d.toList.length
  rw [Array.length_toList]; exact this
theorem pm_keep {M M' : RM} {b T : Nat} {d : Array Nat} (k : Keep [] M M') : Keep [b] M (PM M' b T d) := (k.mono (by simp)).put _ (.inr (by simp))
def sortN (xs : List Nat) : List Nat := (Sort.sort lN xs.toArray).toList
theorem sortN_nil : sortN [] = [] := by
  unfold sortN Sort.sort
  rw [pdq_eq, if_pos (by simp), Sort.insertionSort, Sort.insOuter, if_neg (by simp)]
theorem sortN_perm (xs : List Nat) : (sortN xs).Perm xs := by
  have h := (Sort.sort_sorts lN swo_lN xs.toArray).1
  have h2 := h.2.2
  rw [Array.extract_eq_self_of_le (by rw [h.1]; exact Nat.le_refl _), Array.extract_eq_self_of_le (Nat.le_refl _)] at h2
  exact h2
theorem sortN_len (xs : List Nat) : (sortN xs).length = xs.length := (sortN_perm xs).length_eq
theorem sortN_up (xs : List Nat) : Up (sortN xs) := by
  intro i j hi hj hij
  have h := (Sort.sort_sorts lN swo_lN xs.toArray)
  have hs : (Sort.sort lN xs.toArray).size = xs.toArray.size := h.1.1
  unfold sortN at hi hj ⊢
  rw [Array.length_toList] at hi hj
  rcases Nat.lt_or_ge i j with h1 | h1
  · have := h.2 i j (Nat.zero_le _) h1 (by omega)
    rw [get_bang hj, get_bang hi] at this
    rw [Array.getElem_toList, Array.getElem_toList]
    have := of_decide_eq_false this
    omega
  · have : i = j := by omega
    subst this; exact Nat.le_refl _
def PdqNil (c : CallT) : Prop := ∀ {M : RM} {v : AV} {Q : PostV}, Q (.tup []) M → c [v, N .i64 0, N .i64 ((0 : Nat) : Int), N .i64 ((0 : Nat) : Int)] M Q
def InsNil (c : CallT) : Prop := ∀ {M : RM} {v : AV} {Q : PostV}, Q (.tup []) M → c [v, N .i64 0, N .i64 ((0 : Nat) : Int)] M Q
theorem insNil_spec {cl : CallT} : InsNil fun args M Q => ∃ a0 a1 a2, args = [a0, a1, a2] ∧ W_insertionSortOrdered_uint64 cl a0 a1 a2 M Q := by
  intro M v Q hQ
  refine ⟨_, _, _, rfl, ?_⟩
  unfold W_insertionSortOrdered_uint64
  rw [intW_add, show IntKind.i64.wrap ((0 : Int) + 1) = 1 from rfl]
  refine loopW_ind (fun m ys M3 => m = 0 ∧ ys = [N .i64 1] ∧ M3 = M) 0 ⟨rfl, rfl, rfl⟩ ?_
  rintro next m ys M3 hnext ⟨rfl, rfl, rfl⟩
  dsimp only [nthD]
  rw [intW_lss, show decide ((1 : Int) < ((0 : Nat) : Int)) = false from rfl, condF]
  exact hQ
theorem pdqNil_spec {ci c2 c3 cc c4 cp c5 c6 c7 c8 : CallT} (hi : InsNil ci) : PdqNil fun args M Q => ∃ a0 a1 a2 a3, args = [a0, a1, a2, a3] ∧ W_pdqsortOrdered_uint64 ci c2 c3 cc c4 cp c5 c6 c7 c8 a0 a1 a2 a3 M Q := by
  intro M v Q hQ
  refine ⟨_, _, _, _, rfl, ?_⟩
  unfold W_pdqsortOrdered_uint64
  refine loopW_ind (fun m ys M3 => m = 0 ∧ ys = [N .i64 0, N .i64 ((0 : Nat) : Int), N .i64 ((0 : Nat) : Int), Bo true, Bo true] ∧ M3 = M) 0 ⟨rfl, rfl, rfl⟩ ?_
  rintro next m ys M3 hnext ⟨rfl, rfl, rfl⟩
  dsimp only [nthD]
  rw [intW_sub, show IntKind.i64.wrap (((0 : Nat) : Int) - 0) = 0 from rfl, intW_leq, show decide ((0 : Int) ≤ 12) = true from rfl, condT]
  exact hi hQ
theorem sortN_spec {T : Nat} {cl cp : CallT} (hl : LenX cl) (hp : ∀ m, PdqX T m cp) (h0 : PdqNil cp) : SortC (fun xs => xs.length ≤ 60000) sortN T fun args M Q => ∃ a0, args = [a0] ∧ W_Sort_uint64 cl cp a0 M Q := by
  intro M base v xs Q ho hx hQ
  have hs : Sl U64 M v xs := ho.slR
  refine ⟨_, rfl, ?_⟩
  unfold W_Sort_uint64
  have hx : xs.length ≤ 60000 := hx
  rw [SlR.len hs, cvtW_N, wrap_u64_id (by omega) (by omega)]
  refine hl (by omega) ?_
  rcases Nat.eq_zero_or_pos xs.length with hn | hn
  · rw [hn, show Sort.bitsLen 0 = 0 from rfl]
    refine h0 ?_
    have := List.length_eq_zero_iff.1 hn
    subst this
    exact hQ M (by rw [sortN_nil]; exact ho) (Keep.refl _ _)
  · obtain ⟨b, rfl, h1, h2, h3⟩ := own_pm ho hn
    have hb := bits_le hn (by omega)
    have hsz : xs.toArray.size = xs.length := by simp
    have := hp (xs.length + 1) (M := M) (b := b) (a := 0) (e := xs.toArray.size) (limit := Sort.bitsLen xs.length) (d := xs.toArray) (Q := fun t10 M_0 => Q (.tup []) M_0) h2 (by omega) (by omega) (Nat.le_refl _) (by omega) (by omega) fun M' k => ?_
    · rw [← h3] at this
      simpa using this
    · have e : (Sort.pdq lN xs.toArray 0 xs.toArray.size (Sort.bitsLen xs.length) true true) = Sort.sort lN xs.toArray := by rw [Sort.sort]; simp
      rw [e]
      refine hQ _ ?_ (pm_keep k)
      have hsz2 : (Sort.sort lN xs.toArray).size = xs.length := by
        have := sortN_len xs
        unfold sortN at this
        rw [Array.length_toList] at this; exact this
      have := pm_own (M := M') (T := T) (d := Sort.sort lN xs.toArray) h1 (Nat.lt_of_lt_of_le h2 k.next)
      rw [hsz2] at this
      exact this
def ddA : Nat → List Nat → List Nat
  | _, [] => []
  | p, x :: xs => if x = p then ddA x xs else x :: ddA x xs
def dd : List Nat → List Nat
  | [] => []
  | x :: xs => x :: ddA x xs
theorem ddA_snoc : ∀ (ys : List Nat) (p x : Nat), ddA p (ys ++ [x]) = if x = ys.getLastD p then ddA p ys else ddA p ys ++ [x]
  | [], p, x => rfl
  | y :: ys, p, x => by
    rw [List.cons_append, ddA, ddA, ddA_snoc ys y x, List.getLastD_cons]
    by_cases hy : y = p
    · rw [if_pos hy, if_pos hy]
    · rw [if_neg hy, if_neg hy]
      split
      · rfl
      · rfl
theorem last_take : ∀ (k : Nat) (ys : List Nat) (y : Nat) (h : k < (y :: ys).length), (ys.take k).getLastD y = (y :: ys)[k]
  | 0, ys, y, h => rfl
  | k + 1, [], y, h => by simp at h
  | k + 1, z :: zs, y, h => by
    rw [List.take_succ_cons, List.getLastD_cons, last_take k zs z (by simpa using h)]
    rfl
theorem dd_take {xs : List Nat} {m : Nat} (h1 : 1 ≤ m) (h : m < xs.length) : dd (xs.take (m + 1)) = if xs[m] = xs[m - 1] then dd (xs.take m) else dd (xs.take m) ++ [xs[m]] := by
  rw [List.take_succ_eq_append_getElem h]
  cases xs with
  | nil => simp at h
  | cons y ys =>
    obtain ⟨k, rfl⟩ : ∃ k, m = k + 1 := ⟨m - 1, by omega⟩
    have hk : k < (y :: ys).length := by omega
    rw [List.take_succ_cons, List.cons_append, dd, dd, ddA_snoc, last_take k ys y hk]
    simp only [Nat.add_sub_cancel]
    split <;> simp
theorem dd_len : ∀ (xs : List Nat), (dd xs).length ≤ xs.length
  | [] => Nat.le_refl _
  | x :: xs => by
    have : ∀ (p : Nat) (l : List Nat), (ddA p l).length ≤ l.length := by
      intro p l
      induction l generalizing p with
      | nil => exact Nat.le_refl _
      | cons y l ih => rw [ddA]; split <;> simp <;> have := ih y <;> omega
    rw [dd]; simp; exact this x xs
theorem subS_to_op {b o n k : Nat} (h : k ≤ n) (h0 : 0 < n) : subS 1 (.slc b o n (.op 1)) none (some (N .i64 (k : Int))) none = some (.slc b o k (.op 1)) := by
  simp only [subS, bnd]
  simp [h]
  omega
theorem compactN_spec {T : Nat} : CompactC (fun xs => xs.length ≤ 60000) dd T fun args M Q => ∃ a0, args = [a0] ∧ W_Compact_uint64 a0 M Q := by
  intro M base v xs Q ho hx hQ
  have hx : xs.length ≤ 60000 := hx
  have hs : Sl U64 M v xs := ho.slR
  refine ⟨_, rfl, ?_⟩
  unfold W_Compact_uint64
  have hself : dd xs = xs → Q v M := fun e => hQ v M (by rw [e]; exact hs) (Own.capOk ho) (fun d hd => hd) (Keep.refl _ _)
  rw [SlR.len hs, intW_lss]
  refine condB (fun hg => ?_) (fun hg => ?_)
  · have hg : xs.length < 2 := by
      have : (xs.length : Int) < 2 := of_decide_eq_true hg
      omega
    refine hself ?_
    match xs, hg with
    | [], _ => rfl
    | [x], _ => rfl
  have hg : 2 ≤ xs.length := by
    have : ¬ (xs.length : Int) < 2 := of_decide_eq_false hg
    omega
  obtain ⟨b, rfl, h1, h2, h3⟩ := own_pm ho (by omega)
  have hsz : xs.toArray.size = xs.length := by simp
  have hat : ∀ i (h : i < xs.length), xs.toArray[i]! = xs[i] := fun i h => by rw [get_bang (by simpa using h)]; simp
  clear hs
  have hself := hself
  simp only [joinW_shut]
  refine loopW_ind (fun m ys M3 => ∃ i : Nat, m = xs.length - i ∧ ys = [N .i64 (i : Int)] ∧ 1 ≤ i ∧ i ≤ xs.length ∧ M3 = PM M b T xs.toArray ∧ dd (xs.take i) = xs.take i) _ ⟨1, rfl, rfl, Nat.le_refl _, by omega, h3, by
    match xs, hg with
    | x :: y :: l, _ => rfl⟩ ?_
  rintro next m ys M3 hnext ⟨i, rfl, rfl, hi1, hi, rfl, hdd⟩
  dsimp only [nthD]
  have lenV : ∀ K : AV → Prop, lenW (vv b xs.length) K = K (N .i64 (xs.length : Int)) := fun K => by simp [lenW_slc]
  rw [lenV, lssN]
  refine condB (fun hlt => ?_) (fun hge => ?_)
  rotate_left
  · have he : i = xs.length := by
      have : ¬ i < xs.length := of_decide_eq_false hge
      omega
    subst he
    rw [List.take_length] at hdd
    rw [← h3]
    exact hself hdd
  have hlt : i < xs.length := of_decide_eq_true hlt
  rw [PM.rd hsz.symm (by omega), sub1 (by omega) (by omega), PM.rd hsz.symm (by omega), hat i hlt, hat (i - 1) (by omega), intW_eql]
  have hstep := dd_take hi1 hlt
  by_cases heq : xs[i] = xs[i - 1]
  rotate_left
  · rw [show (((xs[i] : Nat) : Int) == ((xs[i - 1]'(by omega) : Nat) : Int)) = false by rw [beq_eq_false_iff_ne]; omega, condF, add1 (by omega)]
    rw [if_neg heq, hdd] at hstep
    exact hnext _ _ _ (by omega) ⟨i + 1, rfl, rfl, by omega, hlt, rfl, by rw [hstep, ← List.take_succ_eq_append_getElem hlt]⟩
  rw [show (((xs[i] : Nat) : Int) == ((xs[i - 1]'(by omega) : Nat) : Int)) = true by rw [beq_iff_eq]; omega, condT]
  rw [if_pos heq, hdd] at hstep
  rw [subS_from_op hlt, getW_some]
  have lenV2 : ∀ K : AV → Prop, lenW (.slc b (0 + i * 1) (xs.length - i) (.op 1)) K = K (N .i64 ((xs.length - i : Nat) : Int)) := fun K => by simp [lenW_slc]
  have idx2 : ∀ (j : Nat), j < xs.length - i → ∀ (K : AV → Prop), idxS (.slc b (0 + i * 1) (xs.length - i) (.op 1)) (N .i64 (j : Int)) 1 K = K (.ptr b (i + j)) := fun j hj K => by
    rw [idxS_slc]
    simp only [Int.toNat_natCast]
    rw [show 0 + i * 1 + j * 1 = i + j by omega]
    exact propext ⟨fun h => h.2.2, fun h => ⟨by omega, by omega, h⟩⟩
  -- the rest: moved down
  refine loopW_ind (fun m ys M5 => ∃ (k j : Nat) (d : Array Nat), m = xs.length - j ∧ ys = [N .i64 (k : Int), N .i64 (j : Int)] ∧ 1 ≤ j ∧ i + j ≤ xs.length ∧ 1 ≤ k ∧ k + 1 ≤ i + j ∧ M5 = PM M b T d ∧ d.size = xs.length ∧ d.toList.take k = dd (xs.take (i + j)) ∧ (∀ q (h : q < xs.length), i + j ≤ q + 1 → d[q]! = xs[q])) _
    ⟨i, 1, xs.toArray, rfl, rfl, by omega, by omega, by omega, by omega, rfl, hsz, by rw [hstep], fun q h _ => hat q h⟩ ?_
  rintro next2 m ys M5 hnext2 ⟨k, j, d, rfl, rfl, hj1, hij, hk1, hk, rfl, hds, hpre, hold⟩
  dsimp only [nthD]
  rw [lenV2, lssN]
  refine condB (fun hlt2 => ?_) (fun hge2 => ?_)
  · have hlt2 : j < xs.length - i := of_decide_eq_true hlt2
    have hij' : i + j < xs.length := by omega
    refine joinV_spec (fun zs M' => ∃ (k' : Nat) (d' : Array Nat), zs = [N .i64 (k' : Int)] ∧ 1 ≤ k' ∧ k' ≤ i + j ∧ M' = PM M b T d' ∧ d'.size = xs.length ∧ d'.toList.take k' = dd (xs.take (i + j + 1)) ∧ (∀ q (h : q < xs.length), i + j ≤ q → d'[q]! = xs[q])) ?_ ?_
    · rintro zs M' ⟨k', d', rfl, c1, c2, rfl, c3, c4, c5⟩
      dsimp only [nthD]
      rw [add1 (by omega)]
      exact hnext2 _ _ _ (by omega) ⟨k', j + 1, d', rfl, rfl, by omega, by omega, c1, by omega, rfl, c3, c4, fun q h hq => c5 q h (by omega)⟩
    intro J hJ
    have hst2 := dd_take (xs := xs) (m := i + j) (by omega) hij'
    have ld : ∀ q (h : q < xs.length) (K : AV → Prop), load1 (PM M b T d) (.ptr b q) K = K (N .u64 ((d[q]! : Nat) : Int)) := fun q h K => load1_at PM.heap (PM.cellAt (by omega))
    rw [idx2 j hlt2, ld _ hij', sub1 (by omega) (by omega), idx2 (j - 1) (by omega), ld _ (by omega), hold (i + j) hij' (by omega), hold (i + (j - 1)) (by omega) (by omega), intW_neq]
    have hpe : xs[i + (j - 1)]'(by omega) = xs[i + j - 1]'(by omega) := by congr 1; omega
    rw [hpe]
    by_cases hne : xs[i + j] = xs[i + j - 1]'(by omega)
    · rw [show (((xs[i + j] : Nat) : Int) != ((xs[i + j - 1]'(by omega) : Nat) : Int)) = false by rw [hne]; simp, condF]
      rw [if_pos hne] at hst2
      exact hJ _ _ ⟨k, d, rfl, hk1, by omega, rfl, hds, by rw [hst2]; exact hpre, fun q h hq => hold q h (by omega)⟩
    · rw [show (((xs[i + j] : Nat) : Int) != ((xs[i + j - 1]'(by omega) : Nat) : Int)) = true by simp only [bne_iff_ne, ne_eq]; omega, condT]
      rw [if_neg hne] at hst2
      rw [idx2 j hlt2, ld _ hij', hold (i + j) hij' (by omega), PM.idx (by omega), PM.put (by omega), add1 (by omega)]
      refine hJ _ _ ⟨k + 1, _, rfl, by omega, by omega, rfl, by simpa using hds, ?_, fun q h hq => ?_⟩
      · have hkl : k < d.toList.length := by rw [Array.length_toList]; omega
        rw [hst2, ← hpre, Array.toList_setIfInBounds, List.take_succ_eq_append_getElem (by rw [List.length_set]; exact hkl), List.getElem_set_self, List.take_set_of_le (Nat.le_refl _)]
      · rw [← hold q h (by omega)]
        rw [get_bang (by rw [Array.size_setIfInBounds]; omega), get_bang (by omega), Array.getElem_setIfInBounds_ne (by omega) (by omega)]
  · have hij' : i + j = xs.length := by
      have : ¬ j < xs.length - i := of_decide_eq_false hge2
      omega
    rw [hij', List.take_length] at hpre
    have hst : (PM M b T d).stores b (0 + k * 1) (repL [N .u64 0] (xs.length - k)) = some ((PM M b T d).put b (.row ((U64.row d.toList).take (0 + k * 1) ++ repL [N .u64 0] (xs.length - k) ++ (U64.row d.toList).drop (0 + k * 1 + (repL [N .u64 0] (xs.length - k)).length)) true T 0)) := by
      refine RM.stores_row PM.heap ?_ (Nat.zero_le _) (repL_one _).2
      rw [(repL_one _).1, PM.cellsLen]; omega
    rw [subS_from_op (by omega), getW_some]
    refine .inl ⟨_, _, _, _, _, rfl, hst, ?_⟩
    dsimp only
    rw [subS_to_op (by omega) (by omega), getW_some]
    have hlk : (dd xs).length = k := by rw [← hpre, List.length_take, Array.length_toList]; omega
    refine hQ _ _ ?_ (show (1 : Nat) = 1 from rfl) (fun e he => by simpa [blkOf] using he) ?_
    · have hrow : ((U64.row d.toList).take (0 + k * 1)) = U64.row (dd xs) := by
        rw [← hpre, show 0 + k * 1 = k * U64.size by simp [U64], Enc.row_take]
      show SlR _ 1 (.slc b 0 k (.op 1)) (U64.row (dd xs)) (dd xs).length
      rw [hlk]
      refine .slc _ _ _ _ _ h2 ?_
      have hl : (U64.row (dd xs)).length = k := by rw [Enc.row_len, hlk]; simp [U64]
      rw [RM.loads_row (heap_put_eq _) (by rw [hrow]; simp [hl]), List.drop_zero, hrow, Nat.mul_one, List.append_assoc, List.take_left' hl]
    · refine Keep.put ?_ _ (.inr (by simp [blkOf]))
      exact pm_keep (Keep.refl _ _)
end Go.Ab.Dot
set_option maxRecDepth 10000
set_option linter.unusedVariables false
set_option linter.unusedSimpArgs false
namespace Go.Ab.Dot
open Go Go.Ab
theorem up_pw {xs : List Nat} (h : Up xs) : xs.Pairwise (· ≤ ·) := List.pairwise_iff_getElem.2 fun i j hi hj hij => h i j hi hj (Nat.le_of_lt hij)
theorem ddA_props : ∀ (ys : List Nat) (p : Nat), (p :: ys).Pairwise (· ≤ ·) → Asc (ddA p ys) ∧ (∀ x ∈ ddA p ys, p < x) ∧ ∀ x, x ∈ ddA p ys ↔ x ∈ ys ∧ x ≠ p
  | [], p, _ => ⟨.nil, by simp [ddA], by simp [ddA]⟩
  | y :: ys, p, h => by
    have a1 := List.pairwise_cons.1 h
    have a2 := List.pairwise_cons.1 a1.2
    obtain ⟨i1, i2, i3⟩ := ddA_props ys y a1.2
    have hpy : p ≤ y := a1.1 y (by simp)
    rw [ddA]
    by_cases hy : y = p
    · rw [if_pos hy]
      subst hy
      refine ⟨i1, i2, fun x => ?_⟩
      rw [i3, List.mem_cons]
      constructor
      · rintro ⟨h1, h2⟩; exact ⟨.inr h1, h2⟩
      · rintro ⟨h1 | h1, h2⟩
        · exact absurd h1 h2
        · exact ⟨h1, h2⟩
    · rw [if_neg hy]
      refine ⟨List.pairwise_cons.2 ⟨i2, i1⟩, fun x hx => ?_, fun x => ?_⟩
      · rcases List.mem_cons.1 hx with rfl | hx
        · omega
        · have := i2 x hx; omega
      · rw [List.mem_cons, i3, List.mem_cons]
        constructor
        · rintro (rfl | ⟨h1, h2⟩)
          · exact ⟨.inl rfl, hy⟩
          · have := a2.1 x h1
            exact ⟨.inr h1, by omega⟩
        · rintro ⟨h1 | h1, h2⟩
          · exact .inl h1
          · by_cases hxy : x = y
            · exact .inl hxy
            · exact .inr ⟨h1, hxy⟩
theorem dd_props {ys : List Nat} (h : Up ys) : Asc (dd ys) ∧ ∀ x, x ∈ dd ys ↔ x ∈ ys := by
  have hp := up_pw h
  cases ys with
  | nil => exact ⟨.nil, fun x => Iff.rfl⟩
  | cons y ys =>
    obtain ⟨i1, i2, i3⟩ := ddA_props ys y hp
    refine ⟨List.pairwise_cons.2 ⟨i2, i1⟩, fun x => ?_⟩
    rw [dd, List.mem_cons, i3, List.mem_cons]
    constructor
    · rintro (h | ⟨h, _⟩)
      · exact .inl h
      · exact .inr h
    · rintro (h | h)
      · exact .inl h
      · by_cases hxy : x = y
        · exact .inl hxy
        · exact .inr ⟨h, hxy⟩
def jl (p q : Pt) : List Nat := dd (sortN (p.2 ++ q.2))
theorem jl_props (p q : Pt) : Asc (jl p q) ∧ (∀ x, x ∈ jl p q ↔ x ∈ p.2 ∨ x ∈ q.2) ∧ (jl p q).length ≤ p.2.length + q.2.length := by
  obtain ⟨h1, h2⟩ := dd_props (sortN_up (p.2 ++ q.2))
  refine ⟨h1, fun x => ?_, ?_⟩
  · unfold jl
    rw [h2, (sortN_perm _).mem_iff, List.mem_append]
  · have := dd_len (sortN (p.2 ++ q.2))
    rw [sortN_len, List.length_append] at this
    exact this
theorem joinPt_props {p q : Pt} (hp : WfP p) (hq : WfP q) (hl : p.2.length + q.2.length ≤ 4096) :
    WfP (joinPt sortN dd p q) ∧ (∀ x, hasP (joinPt sortN dd p q) x = true ↔ hasP p x = true ∨ hasP q x = true) ∧ (joinPt sortN dd p q).2.length ≤ p.2.length + q.2.length := by
  obtain ⟨h1, h2, h3⟩ := jl_props p q
  have he : joinPt sortN dd p q = settle (max p.1 q.1) (jl p q) := rfl
  rw [he]
  have hpos : ∀ y ∈ jl p q, 1 ≤ y := fun y hy => by
    rcases (h2 y).1 hy with h | h
    · have := hp.2.1 y h; omega
    · have := hq.2.1 y h; omega
  have hle : ∀ y ∈ jl p q, y ≤ 1099511627776 := fun y hy => by
    rcases (h2 y).1 hy with h | h
    · exact hp.2.2.2.1 y h
    · exact hq.2.2.2.1 y h
  have hm : max p.1 q.1 ≤ 1099511627776 := by have := hp.2.2.1; have := hq.2.2.1; omega
  obtain ⟨s1, s2, s3, s4⟩ := settle_props (jl p q) (max p.1 q.1) 1099511627776 h1 hm hle
  have hsl := settle_len (max p.1 q.1) (jl p q)
  refine ⟨⟨s1, s2, s3, fun x hx => hle x (settle_mem hx), by omega⟩, fun x => ?_, by omega⟩
  rw [settle_has _ _ _ hpos, h2, hasP_iff, hasP_iff]
  constructor
  · rintro (h | h | h)
    · by_cases hx : x ≤ p.1
      · exact .inl (.inl ⟨h.1, hx⟩)
      · exact .inr (.inl ⟨h.1, by omega⟩)
    · exact .inl (.inr h)
    · exact .inr (.inr h)
  · rintro ((h | h) | (h | h))
    · exact .inl ⟨h.1, by omega⟩
    · exact .inr (.inl h)
    · exact .inl ⟨h.1, by omega⟩
    · exact .inr (.inr h)
def joinS (ps qs : List Pt) : List Pt := joinT sortN dd ps qs 16
structure SI (k : Nat) (ps : List Pt) : Prop where
  len : ps.length = 16
  wf : ∀ p ∈ ps, WfP p
  few : ∀ p ∈ ps, p.2.length ≤ k
theorem SI.at {k : Nat} {ps : List Pt} (h : SI k ps) (i : Nat) : WfP (ps.getD i (0, [])) ∧ (ps.getD i (0, [])).2.length ≤ k :=
  ⟨getD_wf h.wf i, getD_all (R := fun p => p.2.length ≤ k) h.few (Nat.zero_le _) i⟩
theorem joinS_at {ps qs : List Pt} {a c : Nat} (h1 : SI a ps) (h2 : SI c qs) {j : Nat} (hj : j < 16) : (joinS ps qs).getD j (0, []) = joinPt sortN dd (ps.getD j (0, [])) (qs.getD j (0, [])) := joinT_lt h1.len (Nat.le_refl _) hj
theorem joinS_SI {ps qs : List Pt} {a c : Nat} (h1 : SI a ps) (h2 : SI c qs) (hk : a + c ≤ 4096) : SI (a + c) (joinS ps qs) := by
  have hlen : (joinS ps qs).length = 16 := by rw [joinS, joinT_len, h1.len]
  have all : ∀ p ∈ joinS ps qs, WfP p ∧ p.2.length ≤ a + c := fun p hp => by
    obtain ⟨i, hi, rfl⟩ := List.getElem_of_mem hp
    rw [hlen] at hi
    have e := joinS_at h1 h2 hi
    rw [getD_of (by omega)] at e
    rw [e]
    obtain ⟨w1, l1⟩ := h1.at i
    obtain ⟨w2, l2⟩ := h2.at i
    obtain ⟨r1, _, r3⟩ := joinPt_props w1 w2 (by omega)
    exact ⟨r1, by omega⟩
  exact ⟨hlen, fun p hp => (all p hp).1, fun p hp => (all p hp).2⟩
theorem DocI.of {k : Nat} {ps : List Pt} {w : List Dot} (h : SI k ps) (hs : Srt w) (hm : ∀ d, d ∈ w ↔ hasS ps d = true) : DocI ps w := ⟨h.len, h.wf, hs, hm⟩
theorem withinS_has {ps qs : List Pt} (h1 : ∀ p ∈ ps, WfP p) (h2 : ∀ p ∈ qs, WfP p) : withinS ps qs = true ↔ ∀ d, hasS ps d = true → hasS qs d = true := by
  constructor
  · intro h d hd
    exact within_hasS h1 h2 h hd
  · intro h
    rw [withinS_iff]
    intro i hi
    rw [withinP_iff (getD_wf h1 i) (getD_wf h2 i)]
    intro x hx
    have hm : ((i : Int), x) ∈ elemsT ps 16 := mem_elemsT.2 ⟨by simp, by simp; omega, by simpa using hx⟩
    have := h _ ((elems_has h1 _).1 hm)
    rw [hasS, Bool.and_eq_true] at this
    simpa using this.2
end Go.Ab.Dot
set_option maxRecDepth 10000
set_option linter.unusedVariables false
set_option linter.unusedSimpArgs false
namespace Go.Ab.Dot
open Go Go.Ab
end Go.Ab.Dot
set_option maxRecDepth 10000
set_option linter.unusedVariables false
set_option linter.unusedSimpArgs false
namespace Go.Ab.Dot
open Go Go.Ab
def JoinAC (T : Nat) (c : CallT) : Prop := JoinC (fun xs => xs.length ≤ 60000) (fun xs => xs.length ≤ 60000) sortN dd T c
theorem JoinAC.use {T : Nat} {c : CallT} (h : JoinAC T c) {M : RM} {a b : Nat} {ps qs : List Pt} {S S' : Nat → Prop} {k l : Nat} {Q : PostV} (h1 : SetH T S M a ps) (h2 : SetH T S' M b qs) (he : a = b → ps = qs) (hn : ¬ S' a) (i1 : SI k ps) (i2 : SI l qs) (hkl : k + l ≤ 60000)
    (hQ : ∀ M', SetH T (fun e => S e ∨ M.next ≤ e) M' a (joinS ps qs) → Keep [a] M M' → Q (.tup []) M') : c [.ptr a 0, .ptr b 0] M Q := by
  refine h h1 h2 he hn (fun i hi => ?_) (fun p hp => ?_) (fun p hp => ?_) (fun i hi => ?_) hQ
  · have a1 := (i1.at i).2
    have a2 := (i2.at i).2
    show ((ps.getD i (0, [])).2 ++ (qs.getD i (0, [])).2).length ≤ 60000 ∧ (sortN ((ps.getD i (0, [])).2 ++ (qs.getD i (0, [])).2)).length ≤ 60000
    rw [sortN_len, List.length_append]
    omega
  · have := (i1.wf p hp).2.2.1
    have := i1.few p hp
    omega
  · have := (i2.wf p hp).2.2.1
    have := i2.few p hp
    omega
  · have a1 := i1.at i
    have a2 := i2.at i
    obtain ⟨_, j2, j3⟩ := jl_props (ps.getD i (0, [])) (qs.getD i (0, []))
    refine ⟨by have := j3; unfold jl at this; omega, fun x hx => ?_⟩
    rcases (j2 x).1 hx with h | h
    · have := a1.1.2.2.2.1 x h; omega
    · have := a2.1.2.2.2.1 x h; omega
end Go.Ab.Dot
set_option maxRecDepth 10000
set_option linter.unusedVariables false
set_option linter.unusedSimpArgs false
namespace Go.Ab.Crw
open Go Go.Ab Go.Ab.Dot
def CopyAC (T : Nat) (c : CallT) : Prop := ∀ {M : RM} {b : Nat} {qs : List Pt} {S' : Nat → Prop} {k : Nat} {Q : PostV}, SetH T S' M b qs → SI k qs → k ≤ 4096 →
  (∀ a M', M.next ≤ a → SetH T (fun e => a < e) M' a qs → Keep [] M M' → Q (.ptr a 0) M') → c [.ptr b 0] M Q
theorem joinPt_none {q : Pt} (h : WfP q) : joinPt sortN dd (0, []) q = q := by
  have e : jl (0, []) q = q.2 := asc_ext (jl_props _ _).1 h.1 fun x => by rw [(jl_props _ _).2.1]; simp
  show Go.Ab.Dot.settle (max 0 q.1) (jl (0, []) q) = q
  rw [e, Nat.zero_max]
  exact settle_none h.2.1
theorem empty_SI : SI 0 emptyS := ⟨rfl, empty_wf, fun p hp => by
  rw [emptyS, List.mem_replicate] at hp
  rw [hp.2]; exact Nat.le_refl _⟩
theorem copyA_spec {T : Nat} {cn cj : CallT} (hn : NewC T cn) (hj : JoinAC T cj) : CopyAC T fun args M Q => ∃ a0, args = [a0] ∧ Dot.W_Set_Copy cn cj a0 M Q := by
  intro M b qs S' k Q hB hi hk hQ
  refine ⟨_, rfl, ?_⟩
  unfold Dot.W_Set_Copy
  have hB0 := hB.below
  refine hn fun M1 hA1 k1 n1 => ?_
  have hB1 := hB0.keep k1 (by simp) (by simp)
  have hbl := hB.lt
  refine hj.use hA1 hB1 (fun e => by omega) (fun h => by omega) empty_SI hi (by omega) fun M2 hA2 k2 => ?_
  have e : joinS emptyS qs = qs := ext16 (joinS_SI empty_SI hi (by omega)).len hB.len fun j hj => by
    rw [joinS_at empty_SI hi hj, empty_getD, joinPt_none (hi.at j).1]
  rw [e] at hA2
  refine hQ M.next M2 (Nat.le_refl _) (hA2.mono (fun e h => ?_) (by omega)) (k1.then_new k2 (by simp))
  rcases h with h | h
  · exact h.elim
  · omega
section
variable {α : Type} {E : Enc α}
theorem app_full {M : RM} {b T bytes : Nat} {zs : List AV} {u : AV} {xs ys : List α} {K : PostV} (hb : b < M.next) (hh : M.heap b = some (.row (E.row xs) false T 0)) (hu : Sl E M u ys) (hx : 1 ≤ xs.length) (hs : 1 ≤ E.size)
    (hn : (xs.length + ys.length) * bytes ≤ 140737488355328) (hn2 : xs.length + ys.length ≤ 140737488355328)
    (hK : ∀ v' M', Sl E M' v' (xs ++ ys) → (∀ d ∈ blkOf v', d = b ∨ M.next ≤ d) → Keep [] M M' → K v' M') : appW T E.size bytes zs false (.slc b 0 xs.length (.ex xs.length)) u M K := by
  refine ⟨ys.length, E.row ys, SlR.newL hu _, ?_, by omega, ?_⟩
  · exact Nat.le_trans (Nat.mul_le_mul_right _ (Nat.le_add_left _ _)) hn
  have hlen : (E.row xs).length = xs.length * E.size := E.row_len xs
  have hld : M.loads b 0 (xs.length * E.size) = some (E.row xs) := by
    rw [RM.loads_row hh (by omega), List.drop_zero, ← hlen, List.take_length]
  by_cases h0 : ys.length = 0
  · have : ys = [] := List.length_eq_zero_iff.1 h0
    subst this
    refine ⟨.slc b 0 xs.length (.ex xs.length), M, by simp [appM], hK _ _ ?_ (by simp [blkOf]) (Keep.refl _ _)⟩
    rw [List.append_nil]
    exact .slc _ _ _ _ _ hb hld
  · refine ⟨.slc M.next 0 (xs.length + ys.length) (.op E.size), M.push (.row (E.row xs ++ E.row ys) true T 0), ?_, hK _ _ ?_ (by simp [blkOf]) ((Keep.refl _ _).push _)⟩
    · have hone : (E.row xs ++ E.row ys).all oneCell = true := by rw [List.all_append, E.row_all, E.row_all]; rfl
      simp only [appM, if_neg h0, if_neg (show ¬ xs.length + ys.length ≤ xs.length by omega), hld]
      rw [if_pos ⟨hn, by omega, hone⟩]
    · have hl2 : (E.row (xs ++ ys)).length = (xs.length + ys.length) * E.size := by rw [E.row_len, List.length_append]
      show SlR _ E.size _ (E.row (xs ++ ys)) (xs ++ ys).length
      rw [List.length_append]
      refine .slc _ _ _ _ _ (by simp [RM.push]) ?_
      rw [← E.row_append, RM.loads_row (RM.push_new _) (by omega), List.drop_zero, ← hl2, List.take_length]
end
structure StH (TS T : Nat) (B : Nat → Prop) (M : RM) (t : Nat) (ps : List Pt) (es : List Ent) : Prop where
  lt : t < M.next
  row : ∃ s v, M.heap t = some (.row [.ptr s 0, v] false TS 0) ∧ (∃ S : Nat → Prop, SetH T S M s ps ∧ ∀ d, S d → B d) ∧ Sl EntE M v es ∧ B s ∧ ∀ d ∈ blkOf v, B d
  nb : ¬ B t
theorem StH.keep {TS T t : Nat} {B : Nat → Prop} {M M' : RM} {ps : List Pt} {es : List Ent} {bs : List Nat} (h : StH TS T B M t ps es) (k : Keep bs M M') (ht : t ∉ bs) (hb : ∀ d ∈ bs, ¬ B d) : StH TS T B M' t ps es := by
  obtain ⟨s, v, h1, ⟨S, h2, h2'⟩, h3, h4, h5⟩ := h.row
  exact ⟨Nat.lt_of_lt_of_le h.lt k.next, ⟨s, v, k.heap_of h1 h.lt ht, ⟨S, h2.keep k (fun hs => hb s hs h4) (fun d hd hS => hb d hd (h2' d hS)), h2'⟩, SlR.keep h3 k (fun d hd hm => hb d hm (h5 d hd)), h4, h5⟩, h.nb⟩
theorem StH.mono {TS T t : Nat} {B B' : Nat → Prop} {M : RM} {ps : List Pt} {es : List Ent} (h : StH TS T B M t ps es) (hB : ∀ d, B d → B' d) (hn : ¬ B' t) : StH TS T B' M t ps es := by
  obtain ⟨s, v, h1, ⟨S, h2, h2'⟩, h3, h4, h5⟩ := h.row
  exact ⟨h.lt, ⟨s, v, h1, ⟨S, h2, fun d hd => hB d (h2' d hd)⟩, h3, hB s h4, fun d hd => hB d (h5 d hd)⟩, hn⟩
theorem StH.below {TS T t : Nat} {B : Nat → Prop} {M : RM} {ps : List Pt} {es : List Ent} (h : StH TS T B M t ps es) : StH TS T (fun d => B d ∧ d < M.next) M t ps es := by
  obtain ⟨s, v, h1, ⟨S, h2, h2'⟩, h3, h4, h5⟩ := h.row
  exact ⟨h.lt, ⟨s, v, h1, ⟨_, h2.below, fun d hd => ⟨h2' d hd.1, hd.2⟩⟩, h3, ⟨h4, h2.lt⟩, fun d hd => ⟨h5 d hd, SlR.lt h3 d hd⟩⟩, fun hh => h.nb hh.1⟩
def NewStC (TS T : Nat) (c : CallT) : Prop := ∀ {M : RM} {Q : PostV}, (∀ t M', M.next ≤ t → StH TS T (fun d => M.next ≤ d ∧ d < t) M' t emptyS [] → Keep [] M M' → Q (.ptr t 0) M') → c [] M Q
theorem newSt_spec {TS T : Nat} {cn : CallT} (hn : NewC T cn) : NewStC TS T fun args M Q => args = [] ∧ W_New cn TS M Q := by
  intro M Q hQ
  refine ⟨rfl, ?_⟩
  unfold W_New
  refine hn fun M1 h1 k1 n1 => ?_
  rw [buildW_eq]
  refine ⟨[.ptr M.next 0, nilS], rfl, ?_⟩
  rw [boxW_agg rfl (by simp), newW_eq]
  have k2 : Keep [] M1 (M1.push (.row [.ptr M.next 0, nilS] false TS 0)) := (Keep.refl _ _).push _
  refine hQ _ _ (by omega) ⟨by simp [RM.push], ⟨M.next, nilS, RM.push_new _, ⟨fun _ => False, h1.keep k2 (by simp) (by simp), fun d hd => hd.elim⟩, .nil, ⟨Nat.le_refl _, by omega⟩, by simp [blkOf]⟩, fun h => by omega⟩ (k1.trans k2)
def addAll (ps : List Pt) (ds : List Dot) : List Pt := ds.foldl (fun u d => (addS u d).2) ps
theorem addAll_take {ps : List Pt} {ds : List Dot} {i : Nat} (h : i < ds.length) : addAll ps (ds.take (i + 1)) = (addS (addAll ps (ds.take i)) ds[i]).2 := by
  rw [List.take_succ_eq_append_getElem h, addAll, List.foldl_append]; rfl
theorem addS_SI {k : Nat} {ps : List Pt} {d : Dot} (h : SI k ps) : SI (k + 1) (addS ps d).2 := ⟨by rw [addS_len, h.len], addS_wf h.wf, addS_more h.few⟩
theorem _root_.Go.Ab.Dot.SI.mono {k l : Nat} {ps : List Pt} (h : SI k ps) (hl : k ≤ l) : SI l ps := ⟨h.len, h.wf, fun p hp => Nat.le_trans (h.few p hp) hl⟩
theorem addAll_SI {k : Nat} : ∀ {ds : List Dot} {ps : List Pt}, SI k ps → SI (k + ds.length) (addAll ps ds)
  | [], ps, h => h
  | d :: ds, ps, h => by
    have := addAll_SI (ds := ds) (addS_SI (d := d) h)
    exact this.mono (by simp; omega)
def entOf (e : EvT) : Ent := (e.1, (e.2.2.1, (e.2.2.2.1, e.2.2.2.2)))
def applyE (ps : List Pt) (es : List Ent) (e : EvT) (ks : List Dot) : List Ent :=
  (if decide (e.2.1 = 1) && !hasS ps e.1 then sortE ltE (es ++ [entOf e]) else es).filter fun x => !decide (x.1 ∈ ks)
def applyP (ps : List Pt) (e : EvT) (ks : List Dot) : List Pt := addAll ps (e.1 :: ks)
theorem kills_good : ∀ {ks : List Dot} {d : Dot} {p : Option Dot}, killsOk d p ks = true → ∀ k ∈ ks, good k = true
  | [], _, _, _, k, hk => by simp at hk
  | x :: ks, d, p, h, k, hk => by
    simp only [killsOk, Bool.and_eq_true] at h
    rcases List.mem_cons.1 hk with rfl | hk
    · exact h.1.1.1
    · exact kills_good h.2 k hk
theorem goodEv_parts {e : EvT} {ks : List Dot} (h : goodEv e ks = true) : good e.1 = true ∧ ks.length ≤ 64 ∧ (∀ k ∈ ks, good k = true) ∧ killsOk e.1 none ks = true ∧ opOk e = true := by
  simp only [goodEv, Bool.and_eq_true, decide_eq_true_eq] at h
  exact ⟨h.1.1.1.1, h.1.1.2, kills_good h.1.2, h.1.2, h.2⟩
theorem fillEntOf (e : EvT) : fillL [(N .i64 0), (N .u64 0), (St []), (St []), (St [])] [(0, 2, .agg (dcells e.1)), (2, 1, St e.2.2.1), (3, 1, St e.2.2.2.1), (4, 1, St e.2.2.2.2)] = some (EntE.cells (entOf e)) := rfl
def ApplyC (TS T : Nat) (c : CallT) : Prop := ∀ {M : RM} {t k : Nat} {B : Nat → Prop} {ps : List Pt} {es : List Ent} {e : EvT} {kv : AV} {ks : List Dot} {Q : PostV}, StH TS T B M t ps es → SI k ps → k + 65 ≤ 4000 → es.length ≤ 50000 → Sl DotE M kv ks → t ∉ blkOf kv →
  (goodEv e ks = false → ∀ M', Keep [] M M' → Q (.tup [Bo false, N .i64 1]) M') →
  (goodEv e ks = true → ∀ M', StH TS T (fun d => B d ∨ M.next ≤ d) M' t (applyP ps e ks) (applyE ps es e ks) → Keep [t] M M' → Q (.tup [Bo (!withinS (applyP ps e ks) ps || !decide (applyE ps es e ks = es)), N .i64 0]) M') → c [.ptr t 0, .agg (evRow e kv)] M Q
theorem apply_spec {TS T TE TD TN nc nd : Nat} {cG cC cA cH cL cS cD cW cQ : CallT} {cv : FuncId → CallT} (hG : GoodEvC cG) (hC : CopyAC T cC) (hA : AddSC T cA) (hH : HasSC T cH) (hL : CloneEC TN cL) (hS : SortFnE (.fn (.func nc) [] []) ltE TN cS)
    (hD : ∀ b e kv ks, ks.length ≤ 1000000 → DeleteFC TN (EvAt TE b e kv ks) (fun x => decide (x.1 ∈ ks)) (.fn (.func nd) [] [.ptr b 0]) cD) (hW : WithinC T cW) (hQ' : EqualEC cQ) :
    ApplyC TS T fun args M Q => ∃ a0 a1, args = [a0, a1] ∧ W_State_Apply TE cG cC TD cA cH TN cL cS nc nd cD cW cQ a0 a1 M Q := by
  intro M0 t k B ps es e kv ks Q hst hsi hk hes hkv0 htk hbad hok
  refine ⟨_, _, rfl, ?_⟩
  unfold W_State_Apply
  simp only [fuseM, fuseK, fuseKM, fuseMK, joinW_shut]
  rw [boxW_agg (ev_one hkv0) (by simp), newW_eq]
  have k0 : Keep [] M0 (M0.push (.row (evRow e kv) false TE 0)) := (Keep.refl _ _).push _
  have h0 : (M0.push (.row (evRow e kv) false TE 0)).heap M0.next = some (.row (evRow e kv) false TE 0) := RM.push_new _
  have hlt : M0.next < (M0.push (.row (evRow e kv) false TE 0)).next := by simp [RM.push]
  have hs : Sl DotE (M0.push (.row (evRow e kv) false TE 0)) kv ks := SlR.keep hkv0 k0 (by simp)
  have hkl : ∀ d ∈ blkOf kv, d < M0.next := SlR.lt hkv0
  have n0 := k0.next
  generalize M0.push (.row (evRow e kv) false TE 0) = M at *
  generalize hb0 : M0.next = b at *
  rw [loadN_at (n := 7) h0 (by simp [EvE.len]; rfl)]
  refine hG hs fun M1 k1 => ?_
  have k01 := k0.trans k1
  rw [notW_Bo]
  refine condB (fun hg => ?_) (fun hg => ?_)
  · exact hbad (by simpa using hg) M1 k01
  have hge : goodEv e ks = true := by simpa using hg
  obtain ⟨hgd, hkl64, hkg, _, _⟩ := goodEv_parts hge
  have hok := hok hge
  have n1 := k1.next
  obtain ⟨s, v, r1, ⟨S, r2, r2'⟩, r3, r4, r5⟩ := hst.row
  have htl := hst.lt
  have e1 := k1.heap_of h0 hlt (by simp)
  have t1 := k01.heap_of r1 htl (by simp)
  have set1 := (r2.below).keep k01 (by simp) (by simp)
  have slt := r2.lt
  rw [ptrW_ptr, fld0, load1_at t1 rfl]
  -- the set is copied
  refine hC set1 hsi (by omega) fun s' M2 hs' set2 k2 => ?_
  have n2 := k2.next
  have hs'lt := set2.lt
  have e2 := k2.heap_of e1 (by omega) (by simp)
  have k02 := k01.trans k2
  rw [fld0, ev_ld e2, rows1 (x := .agg (dcells e.1)) (size := 2) rfl rfl rfl, newW_eq]
  have k3 : Keep [] M2 (M2.push (.row (AV.agg (dcells e.1)).cells false TD 0)) := (Keep.refl _ _).push _
  have l3 : (M2.push (.row (AV.agg (dcells e.1)).cells false TD 0)).heap M2.next = some (.row (DotE.row [e.1]) false TD 0) := by
    rw [RM.push_new]; rfl
  have n3 : M2.next < (M2.push (.row (AV.agg (dcells e.1)).cells false TD 0)).next := by simp [RM.push]
  have e3 := k3.heap_of e2 (by omega) (by simp)
  have set3 := set2.keep k3 (by simp) (by simp)
  have kv3 : Sl DotE (M2.push (.row (AV.agg (dcells e.1)).cells false TD 0)) kv ks := SlR.keep hkv0 (k02.trans k3) (by simp)
  have k03 := k02.trans k3
  generalize M2.push (.row (AV.agg (dcells e.1)).cells false TD 0) = M3 at *
  generalize hb2 : M2.next = b2 at *
  rw [fld0, load1_at e3 rfl]
  refine app_full (E := DotE) (xs := [e.1]) (by omega) l3 kv3 (by simp) (by decide) (by simp; omega) (by simp; omega) fun dv M4 hdv hdb k4 => ?_
  have hds : (e.1 :: ks).length ≤ 65 := by simp; omega
  have k34 : Keep [] M3 M4 := k4
  have n4 := k4.next
  have e4 := k4.heap_of e3 (by omega) (by simp)
  have set4 := set3.keep k4 (by simp) (by simp)
  have k04 := k03.trans k4
  have hdv : Sl DotE M4 dv (e.1 :: ks) := hdv
  have hdl := SlR.lt hdv
  have hdg : ∀ d ∈ e.1 :: ks, good d = true := fun d hd => by
    rcases List.mem_cons.1 hd with rfl | hd
    · exact hgd
    · exact hkg d hd
  have hdne : s' ∉ blkOf dv := fun hm => by
    rcases hdb s' hm with h | h <;> omega
  generalize hds' : e.1 :: ks = ds at *
  rw [SlR.len hdv]
  refine loopW_ind (fun m ys M6 => ∃ i : Nat, m = ds.length - i ∧ ys = [N .i64 (i : Int)] ∧ i ≤ ds.length ∧ Keep [s'] M4 M6 ∧ SetH T (fun e => s' < e) M6 s' (addAll ps (ds.take i))) _ ⟨0, rfl, rfl, Nat.zero_le _, Keep.refl _ _, set4⟩ ?_
  rintro next m ys M6 hnext ⟨i, rfl, rfl, hi, k6, set6⟩
  dsimp only [nthD]
  have hdv6 : Sl DotE M6 dv ds := SlR.keep hdv k6 (fun b hb hm => by simp at hm; subst hm; exact hdne hb)
  have si6 : SI (k + (ds.take i).length) (addAll ps (ds.take i)) := addAll_SI hsi
  have hti : (ds.take i).length ≤ 65 := by rw [List.length_take]; omega
  rw [lssN]
  refine condB (fun hlti => ?_) (fun hge2 => ?_)
  · have hlti : i < ds.length := of_decide_eq_true hlti
    rw [kill_at hdv6 hlti, newW_eq, storeW_all (n := 2) (x := .agg (dcells ds[i])) (l := [N .i64 0, N .u64 0]) (RM.push_new _) rfl rfl rfl]
    have k7 : Keep [] M6 ((M6.push (.row [N .i64 0, N .u64 0] false TD 0)).put M6.next (.row (AV.agg (dcells ds[i])).cells false TD 0)) := ((Keep.refl _ _).push _).new _ (Nat.le_refl _)
    have hk7 : ((M6.push (.row [N .i64 0, N .u64 0] false TD 0)).put M6.next (.row (AV.agg (dcells ds[i])).cells false TD 0)).heap M6.next = some (.row (dcells ds[i]) false TD 0) := heap_put_eq _
    generalize (M6.push (.row [N .i64 0, N .u64 0] false TD 0)).put M6.next (.row (AV.agg (dcells ds[i])).cells false TD 0) = M7 at *
    rw [loadN_at (n := 2) hk7 rfl]
    have set7 := set6.keep k7 (by simp) (by simp)
    have n7 := k7.next
    have s6 := set6.lt
    refine hA set7 si6.wf fun M8 set8 k8 => ?_
    have hgood := addS_good (ps := addAll ps (ds.take i)) (d := ds[i]) (fun p hp => by have := si6.few p hp; omega) (hdg _ (List.getElem_mem hlti))
    have h10 : (addS (addAll ps (ds.take i)) ds[i]).1 = 0 := by rw [hgood]
    rw [h10, intW_neq, show ((0 : Int) != 0) = false from rfl, condF, add1 (by omega)]
    refine hnext _ _ _ (by omega) ⟨i + 1, rfl, rfl, by omega, (k6.trans (k7.mono (cs := [s']) (by simp))).trans k8, ?_⟩
    rw [addAll_take hlti]
    exact set8.mono (fun d hd => by rcases hd with hd | hd <;> omega) (by omega)
  have hie : i = ds.length := by
    have : ¬ i < ds.length := of_decide_eq_false hge2
    omega
  subst hie
  rw [List.take_length] at set6 si6
  clear hnext hge2
  have hps' : addAll ps ds = applyP ps e ks := by rw [← hds']; rfl
  rw [hps'] at set6 si6
  have si6 := si6.mono (l := k + 65) (by omega)
  have n6 := k6.next
  have k06 : Keep [] M0 M6 := k04.then_new k6 (fun d hd => by simp at hd; omega)
  have e6 := k6.heap_of e4 (by omega) (by simp; omega)
  have t6 := k06.heap_of r1 htl (by simp)
  have v6 : Sl EntE M6 v es := SlR.keep r3 k06 (by simp)
  have old6 := (r2.below).keep k06 (by simp) (by simp)
  have kv6 : Sl DotE M6 kv ks := SlR.keep hkv0 k06 (by simp)
  rw [ptrW_ptr, fldW_ptr, load1_at (i := 0 + 1) t6 rfl]
  have set6b := set6.below
  refine joinV_spec (fun zs M' => ∃ (w : AV) (es1 : List Ent), zs = [w] ∧ Sl EntE M' w es1 ∧ es1.length ≤ 50001 ∧ es1 = (if decide (e.2.1 = 1) && !hasS ps e.1 then sortE ltE (es ++ [entOf e]) else es) ∧ Keep [] M6 M') ?_ ?_
  · rintro zs M9 ⟨w, es1, rfl, hw, hwl, hes1, k9⟩
    dsimp only [nthD]
    have n9 := k9.next
    refine hL hw (by omega) fun c M10 oc k10 => ?_
    have n10 := k10.next
    have k610 := k9.trans k10
    have k010 := k06.trans k610
    have ev10 : EvAt TE b e kv ks M10 := ⟨by omega, k610.heap_of e6 (by omega) (by simp), SlR.keep kv6 k610 (by simp)⟩
    refine hD b e kv ks (by omega) ev10 (fun Ma Mb ks' hP kk hsub => hP.keep kk (fun hm => by have := (oc.blk b (hsub b hm)).1; omega) (fun d hd hm => by have := hkl d hd; have := (oc.blk d (hsub d hm)).1; omega)) oc (by omega) fun x M11 hx hxb k11 => ?_
    have k611 : Keep [] M6 M11 := k610.then_new k11 (fun d hd => .inl (by have := (oc.blk d hd).1; omega))
    have k011 := k06.trans k611
    have t11 := k611.heap_of t6 (by omega) (by simp)
    have new11 := set6b.keep k611 (by simp) (by simp)
    have old11 := old6.keep k611 (by simp) (by simp)
    have v11 : Sl EntE M11 v es := SlR.keep v6 k611 (by simp)
    rw [ptrW_ptr, fld0, load1_at t11 rfl]
    refine hW new11 old11 (fun p hp => by have := si6.few p hp; omega) (fun q hq => ⟨(hsi.wf q hq).1, by have := hsi.few q hq; omega⟩) fun M12 k12 => ?_
    have hxl : (es1.filter fun x => !decide (x.1 ∈ ks)).length ≤ es1.length := List.length_filter_le _ _
    have t12 := k12.heap_of t11 (by have := k611.next; omega) (by simp)
    have hfin : es1.filter (fun x => !decide (x.1 ∈ ks)) = applyE ps es e ks := by rw [hes1]; rfl
    rw [hfin] at hx hxl
    rw [notW_Bo]
    refine orM' (p := !decide (applyE ps es e ks = es)) (fun _ k hk => ?_) ?_
    · rw [ptrW_ptr, fldW_ptr, load1_at (i := 0 + 1) t12 rfl]
      refine hQ' (SlR.keep hx k12 (by simp)) (SlR.keep v11 k12 (by simp)) (by omega) ?_
      rw [notW_Bo]
      exact hk
    have x12 : Sl EntE M12 x (applyE ps es e ks) := SlR.keep hx k12 (by simp)
    rw [ptrW_ptr, fld0, storeW_at t12 (by simp) rfl rfl, ptrW_ptr, fldW_ptr]
    rw [storeW_at (heap_put_eq _) (by simp) (SlR.cells x12) (SlR.one x12)]
    have kk : Keep [t] M12 ((M12.put t (.row ([AV.ptr s 0, v].set 0 (.ptr s' 0)) false TS 0)).put t (.row (([AV.ptr s 0, v].set 0 (.ptr s' 0)).set (0 + 1) x) false TS 0)) := ((Keep.refl _ _).put _ (.inr (by simp))).put _ (.inr (by simp))
    have hh : ((M12.put t (.row ([AV.ptr s 0, v].set 0 (.ptr s' 0)) false TS 0)).put t (.row (([AV.ptr s 0, v].set 0 (.ptr s' 0)).set (0 + 1) x) false TS 0)).heap t = some (.row [.ptr s' 0, x] false TS 0) := heap_put_eq _
    have hnx : ((M12.put t (.row ([AV.ptr s 0, v].set 0 (.ptr s' 0)) false TS 0)).put t (.row (([AV.ptr s 0, v].set 0 (.ptr s' 0)).set (0 + 1) x) false TS 0)).next = M12.next := rfl
    generalize (M12.put t (.row ([AV.ptr s 0, v].set 0 (.ptr s' 0)) false TS 0)).put t (.row (([AV.ptr s 0, v].set 0 (.ptr s' 0)).set (0 + 1) x) false TS 0) = M13 at *
    have n12 := k12.next
    have n611 := k611.next
    refine hok M13 ⟨by omega, ⟨s', x, hh, ⟨fun d => s' < d ∧ d < M6.next, (new11.keep k12 (by simp) (by simp)).keep kk (by simp; omega) (fun d hd h => by simp at hd; omega), fun d hd => .inr (by omega)⟩, SlR.keep x12 kk (fun d hd hm => ?_), .inr (by omega), fun d hd => .inr (by have := (oc.blk d (hxb d hd)).1; omega)⟩, fun hB => ?_⟩ ((k011.trans k12).mono (by simp) |>.trans kk)
    · simp at hm
      subst hm
      have := (oc.blk d (hxb d hd)).1
      omega
    · rcases hB with hB | hB
      · exact hst.nb hB
      · omega
  intro J hJ
  have e2v : ∀ {M' : RM}, Keep [] M6 M' → M'.heap b = some (.row (evRow e kv) false TE 0) := fun k => k.heap_of e6 (by omega) (by simp)
  have op1 : ((e.2.1 : Int) == 1) = decide (e.2.1 = 1) := by by_cases h : e.2.1 = 1 <;> simp [h]
  rw [fld0, load1_at e6 rfl, intW_eql, op1]
  refine andP (P := fun M' => Keep [] M6 M') (p := !hasS ps e.1) (Keep.refl _ _) (fun _ k hk => ?_) fun M7 k7 => ?_
  · rw [ptrW_ptr, fld0, load1_at t6 rfl, fld0, ev_ld e6]
    refine hH old6 (fun q hq => ⟨(hsi.wf q hq).1, by have := hsi.few q hq; omega⟩) fun M7 k7 => ?_
    rw [notW_Bo]
    exact hk M7 k7
  refine condB (fun hc => ?_) (fun hc => ?_)
  · have e7 := e2v k7
    rw [fld0, ev_ld e7, fld0, load1_at e7 rfl, fld0, load1_at e7 rfl, fld0, load1_at e7 rfl, buildW_eq]
    refine ⟨_, fillEntOf e, ?_⟩
    rw [rows1 (x := .agg (EntE.cells (entOf e))) (size := 5) rfl rfl rfl, newR_eq]
    have k8 : Keep [] M7 (M7.push (.row (AV.agg (EntE.cells (entOf e))).cells false TN 0)) := (Keep.refl _ _).push _
    have h8 : (M7.push (.row (AV.agg (EntE.cells (entOf e))).cells false TN 0)).heap M7.next = some (.row (EntE.cells (entOf e)) false TN 0) := RM.push_new _
    have n8 : M7.next < (M7.push (.row (AV.agg (EntE.cells (entOf e))).cells false TN 0)).next := by simp [RM.push]
    generalize M7.push (.row (AV.agg (EntE.cells (entOf e))).cells false TN 0) = M8 at *
    generalize hb7 : M7.next = b7 at *
    have k68 := k7.trans k8
    refine hL (SlR.keep v6 k68 (by simp)) (by omega) fun c M9 oc k9 => ?_
    have k69 := k68.trans k9
    have e9 := e2v k69
    have n9 := k9.next
    rw [ev_ld e9]
    refine ⟨rfl, ?_⟩
    rw [load1_at e9 rfl]
    refine ⟨rfl, ?_⟩
    rw [load1_at e9 rfl]
    refine ⟨rfl, ?_⟩
    rw [load1_at e9 rfl]
    refine ⟨rfl, ?_⟩
    rw [rows1 (x := .agg (EntE.cells (entOf e))) (size := 5) rfl rfl rfl, sameB_some]
    have h9 := k9.heap_of h8 n8 (by simp)
    refine ⟨⟨h9, rfl⟩, ?_⟩
    have slx : Sl EntE M9 (.slc b7 0 1 (.ex 1)) [entOf e] := by
      refine .slc _ _ _ _ _ (by omega) ?_
      rw [RM.loads_row h9 (by rw [EntE.len]; decide), List.drop_zero, Enc.row_one]
      have : (EntE.cells (entOf e)).length = 1 * EntE.size := by rw [EntE.len, Nat.one_mul]
      rw [← this, List.take_length]
    refine app_all (E := EntE) oc n9 (by decide) slx (by simp; omega) (by simp; omega) fun c2 M10 oc2 k10 n10 _ => ?_
    have k610 : Keep [] M6 M10 := k69.then_new k10 (fun d hd => .inl (by have := (oc.blk d hd).1; have := k68.next; omega))
    refine hS oc2 (by simp; omega) fun M11 oc3 k11 => ?_
    have k611 : Keep [] M6 M11 := k610.then_new k11 (fun d hd => .inl (by have := (oc2.blk d hd).1; have := k68.next; omega))
    have hsl : (sortE ltE (es ++ [entOf e])).length = (es ++ [entOf e]).length := (sortE_perm swo_ltE _).length_eq
    exact hJ _ _ ⟨c2, _, rfl, oc3.slR, by rw [hsl]; simp; omega, by rw [if_pos hc], k611⟩
  · exact hJ _ _ ⟨v, es, rfl, SlR.keep v6 k7 (by simp), by omega, by rw [if_neg (by rw [hc]; decide)], k7⟩
end Go.Ab.Crw
set_option maxRecDepth 10000
set_option linter.unusedVariables false
set_option linter.unusedSimpArgs false
namespace Go.Ab.Crw
open Go Go.Ab Go.Ab.Dot
abbrev Ev := EvT × List Dot
def EvR : Rep Ev := Rep.pre EvE (DotE.rep.slice)
theorem ev_at {M : RM} {v : AV} {l : List Ev} {S : Nat → Prop} (h : SlD EvR M v l S) {i : Nat} (hi : i < l.length) :
    ∃ b o kv, (∀ (kd : IntKind) (K : AV → Prop), idxS v (N kd (i : Int)) 7 K = K (.ptr b o)) ∧ (∀ K : AV → Prop, loadN M (.ptr b o) 7 K = K (.agg (evRow l[i].1 kv))) ∧ (∀ K : AV → Prop, loadN M (.ptr b o) 2 K = K (.agg (dcells l[i].1.1))) ∧ Sl DotE M kv l[i].2 ∧ ∀ d ∈ blkOf kv, S d := by
  obtain ⟨b, o, cs, _, _, hidx, hld, ds, hcs, kv, hds, hkv⟩ := h.at (i := i) 7 (i : Int) hi rfl rfl
  subst hds
  subst hcs
  refine ⟨b, o, kv, hidx, fun K => ?_, fun K => ?_, SlD.sl hkv, ?_⟩
  · rw [loadN_ptr, hld]
    simp
  · have e2 : (evRow l[i].1 kv).take 2 = dcells l[i].1.1 := rfl
    rw [loadN_ptr, loads_head hld 2 (by decide), e2]
    simp
  · obtain ⟨_, _, h2, _⟩ := hkv
    exact h2
theorem ev_rel {M : RM} {e : EvT} {kv : AV} {ks : List Dot} {S : Nat → Prop} (h : Sl DotE M kv ks) (hS : ∀ d ∈ blkOf kv, S d) : EvR.rel M (evRow e kv) (e, ks) S := ⟨[kv], rfl, kv, rfl, SlD.of_sl h hS⟩
def ownStep (out : List Ev) (x : Ev) : List Ev := if !(!goodEv x.1 x.2 || out.any fun y => decide (y.1.1 = x.1.1)) then out ++ [x] else out
def ownP (l : List Ev) : List Ev := l.foldl ownStep []
theorem ownP_take {l : List Ev} {i : Nat} (h : i < l.length) : ownP (l.take (i + 1)) = ownStep (ownP (l.take i)) l[i] := by
  rw [List.take_succ_eq_append_getElem h, ownP, List.foldl_append]; rfl
theorem ownStep_len (out : List Ev) (x : Ev) : (ownStep out x).length ≤ out.length + 1 := by
  unfold ownStep; split <;> simp
theorem ownP_len (l : List Ev) : ∀ i, (ownP (l.take i)).length ≤ i
  | 0 => Nat.le_refl _
  | i + 1 => by
    by_cases h : i < l.length
    · rw [ownP_take h]
      have := ownP_len l i
      have := ownStep_len (ownP (l.take i)) l[i]
      omega
    · rw [List.take_of_length_le (by omega)]
      have := ownP_len l i
      rw [List.take_of_length_le (by omega)] at this
      omega
theorem ownP_good : ∀ (l : List Ev) (out : List Ev), (∀ x ∈ out, goodEv x.1 x.2 = true) → ∀ x ∈ l.foldl ownStep out, goodEv x.1 x.2 = true
  | [], out, h => h
  | y :: l, out, h => ownP_good l (ownStep out y) fun x hx => by
    unfold ownStep at hx
    split at hx
    · rename_i hc
      rcases List.mem_append.1 hx with hx | hx
      · exact h x hx
      · simp only [List.mem_singleton] at hx
        subst hx
        simp only [Bool.not_eq_true', Bool.or_eq_false_iff, Bool.not_eq_false'] at hc
        exact hc.1
    · exact h x hx
def OwnC (TE : Nat) (c : CallT) : Prop := ∀ {M : RM} {v : AV} {l : List Ev} {Q : PostV}, SlD EvR M v l (fun d => d < M.next) → l.length ≤ 10000 →
  (∀ v' M', SlD EvR M' v' (ownP l) (fun d => d < M'.next) → Keep [] M M' → Q v' M') → c [v] M Q
theorem own_spec {TE : Nat} {cG : CallT} (hG : GoodEvC cG) : OwnC TE fun args M Q => ∃ a0, args = [a0] ∧ W_own TE cG a0 M Q := by
  intro M v l Q hv hl hQ
  refine ⟨_, rfl, ?_⟩
  unfold W_own
  simp only [fuseM, fuseK, fuseKM, joinW_shut]
  refine ⟨_, _, _, _, rfl, rfl, by decide, by decide, by decide, by decide, ?_⟩
  dsimp only
  rw [newW_eq]
  have kM : Keep [] M (M.push (.row (repL [(N .i64 0), (N .u64 0), (N .i64 0), (St []), (St []), (St []), (.sc (.slice none 0 0))] 0) false TE 0)) := (Keep.refl _ _).push _
  have oM : OwD EvR (M.push (.row (repL [(N .i64 0), (N .u64 0), (N .i64 0), (St []), (St []), (St []), (.sc (.slice none 0 0))] 0) false TE 0)) M.next TE (.slc M.next 0 0 (.ex 0)) [] (fun d => d < M.next) := ⟨[], Own.lit M (Nat.le_refl _), .nil⟩
  refine loopW_ind (fun m ys M3 => ∃ (i : Nat) (w : AV), m = l.length - i ∧ ys = [w, N .i64 (i : Int)] ∧ i ≤ l.length ∧ Keep [] M M3 ∧ OwD EvR M3 M.next TE w (ownP (l.take i)) (fun d => d < M.next)) _ ⟨0, _, rfl, rfl, Nat.zero_le _, kM, oM⟩ ?_
  rintro next m ys M3 hnext ⟨i, w, rfl, rfl, hi, k3, ow⟩
  dsimp only [nthD]
  have hv3 : SlD EvR M3 v l (fun d => d < M.next) := hv.keep k3 (by simp)
  have n3 := k3.next
  rw [hv3.len, lssN]
  refine condB (fun hlt => ?_) (fun hge => ?_)
  · have hlt : i < l.length := of_decide_eq_true hlt
    refine joinV_spec (fun zs M' => ∃ w', zs = [w'] ∧ Keep [] M M' ∧ OwD EvR M' M.next TE w' (ownP (l.take (i + 1))) (fun d => d < M.next)) ?_ ?_
    · rintro zs M' ⟨w', rfl, k', o'⟩
      dsimp only [nthD]
      rw [add1 (by omega)]
      exact hnext _ _ _ (by omega) ⟨i + 1, w', rfl, rfl, by omega, k', o'⟩
    intro J hJ
    rw [ownP_take hlt] at hJ
    have hol := ownP_len l i
    obtain ⟨b, o, kv, hidx, hl7, hl2, hkv, hkb⟩ := ev_at hv3 hlt
    rw [hidx, hl7]
    refine hG hkv fun M4 k4 => ?_
    rw [notW_Bo]
    have ow4 := ow.keep k4 (by simp) (by simp)
    generalize ownP (l.take i) = out at *
    have k34 := k3.trans k4
    have n4 := k34.next
    have hv4 : SlD EvR M4 v l (fun d => d < M.next) := hv.keep k34 (by simp)
    have owS : SlD EvR M4 w out (fun d => d < M4.next) := (ow4.mono (fun d hd => by omega)).slD (fun d _ h => h)
    obtain ⟨b4, o4, kv4, hidx4, hl74, hl24, hkv4, hkb4⟩ := ev_at hv4 hlt
    refine loopW_ind (fun m ys M5 => ∃ j : Nat, m = out.length - j ∧ ys = [Bo (!goodEv l[i].1 l[i].2 || (out.take j).any fun y => decide (y.1.1 = l[i].1.1)), N .i64 (j : Int)] ∧ j ≤ out.length ∧ M5 = M4) _ ⟨0, rfl, by simp, Nat.zero_le _, rfl⟩ ?_
    rintro next2 m ys M5 hnext2 ⟨j, rfl, rfl, hj, rfl⟩
    dsimp only [nthD]
    rw [owS.len, lssN]
    refine condB (fun hlt2 => ?_) (fun hge2 => ?_)
    · have hlt2 : j < out.length := of_decide_eq_true hlt2
      obtain ⟨b5, o5, kv5, hidx5, hl75, hl25, _, _⟩ := ev_at owS hlt2
      refine orP (P := fun M' => M' = M5) (p := decide (out[j].1.1 = l[i].1.1)) rfl (fun _ k hk => ?_) fun M' hM' => ?_
      · rw [hidx5, fldW_ptr, Nat.add_zero, hl25, hidx4, fldW_ptr, Nat.add_zero, hl24, aggEqW_of rfl rfl (dot_eq _ _), Bool.bne_false]
        exact hk M5 rfl
      subst hM'
      rw [add1 (by omega)]
      refine hnext2 _ _ _ (by omega) ⟨j + 1, rfl, ?_, by omega, rfl⟩
      rw [List.take_succ_eq_append_getElem hlt2, List.any_append, List.any_cons, List.any_nil, Bool.or_false, Bool.or_assoc]
    · have hje : j = out.length := by
        have : ¬ j < out.length := of_decide_eq_false hge2
        omega
      subst hje
      rw [List.take_length, notW_Bo]
      refine condB (fun hc => ?_) (fun hc => ?_)
      · rw [hidx4, hl74, rows1 (x := .agg (evRow l[i].1 kv4)) (size := 7) rfl (ev_one hkv4) rfl, newW_eq]
        have hd := ow4.blk
        refine OwD.app (R := EvR) ow4 (ev_rel hkv4 hkb4) (by omega) (by decide) (fun d hd' h => by have := (hd d hd').1; omega) (fun d h => by omega) (by omega) (by omega) ?_
        intro w' M6 o6 k6 n6 _ _
        refine hJ _ _ ⟨w', rfl, k34.then_new k6 (fun d hd' => .inl (hd d hd').1), ?_⟩
        rw [ownStep, if_pos hc]
        exact o6
      · refine hJ _ _ ⟨w, rfl, k34, ?_⟩
        rw [ownStep, if_neg (by rw [hc]; decide)]
        exact ow4
  · have he : i = l.length := by
      have : ¬ i < l.length := of_decide_eq_false hge
      omega
    subst he
    rw [List.take_length] at ow
    exact hQ w M3 ((ow.mono (fun d hd => by omega)).slD (fun d _ h => h)) k3
theorem addS_hasS {k : Nat} {ps : List Pt} {d e : Dot} (h : SI k ps) (hk : k < 4096) (hg : good d = true) : hasS (addS ps d).2 e = true ↔ hasS ps e = true ∨ e = d := by
  have hl : ∀ p ∈ ps, p.2.length < 4096 := fun p hp => by have := h.few p hp; omega
  rw [hasS, hasS, Bool.and_eq_true, Bool.and_eq_true, grow_has h.len h.wf hl hg]
  constructor
  · rintro ⟨h1, h2 | ⟨h2, h3⟩⟩
    · exact .inl ⟨h1, h2⟩
    · refine .inr (Prod.ext ?_ h3)
      have := (good_dev h1).1
      have := (good_dev hg).1
      omega
  · rintro (⟨h1, h2⟩ | rfl)
    · exact ⟨h1, .inl h2⟩
    · exact ⟨hg, .inr ⟨rfl, rfl⟩⟩
theorem addAll_hasS {e : Dot} : ∀ {ds : List Dot} {ps : List Pt} {k : Nat}, SI k ps → k + ds.length < 4096 → (∀ d ∈ ds, good d = true) → (hasS (addAll ps ds) e = true ↔ hasS ps e = true ∨ e ∈ ds)
  | [], ps, k, h, hk, hg => by simp [addAll]
  | d :: ds, ps, k, h, hk, hg => by
    have : addAll ps (d :: ds) = addAll (addS ps d).2 ds := rfl
    rw [this, addAll_hasS (addS_SI h) (by simp at hk; omega) (fun x hx => hg x (by simp [hx])), addS_hasS h (by simp at hk; omega) (hg d (by simp)), List.mem_cons]
    constructor
    · rintro ((h | h) | h)
      · exact .inl h
      · exact .inr (.inl h)
      · exact .inr (.inr h)
    · rintro (h | h | h)
      · exact .inl (.inl h)
      · exact .inl (.inr h)
      · exact .inr h
theorem applyE_mem {ps : List Pt} {es : List Ent} {e : EvT} {ks : List Dot} {x : Ent} (h : x ∈ applyE ps es e ks) : x.1 ∉ ks ∧ (x ∈ es ∨ (x = entOf e ∧ hasS ps e.1 = false)) := by
  unfold applyE at h
  rw [List.mem_filter] at h
  refine ⟨by simpa using h.2, ?_⟩
  have h1 := h.1
  split at h1
  · rename_i hc
    simp only [Bool.and_eq_true, Bool.not_eq_true', decide_eq_true_eq] at hc
    rw [(sortE_perm swo_ltE _).mem_iff, List.mem_append, List.mem_singleton] at h1
    rcases h1 with h1 | h1
    · exact .inl h1
    · exact .inr ⟨h1, hc.2⟩
  · exact .inl h1
theorem applyE_len (ps : List Pt) (es : List Ent) (e : EvT) (ks : List Dot) : (applyE ps es e ks).length ≤ es.length + 1 := by
  unfold applyE
  refine Nat.le_trans (List.length_filter_le _ _) ?_
  split
  · rw [(sortE_perm swo_ltE _).length_eq]; simp
  · omega
structure HoldI (i : Nat) (ps : List Pt) (es : List Ent) (dead : List Dot) : Prop where
  si : SI (65 * i) ps
  few : es.length ≤ i
  dl : dead.length ≤ 64 * i
  seen : ∀ d ∈ dead, hasS ps d = true
  gone : ∀ x ∈ es, x.1 ∉ dead
end Go.Ab.Crw
set_option maxRecDepth 10000
set_option linter.unusedVariables false
set_option linter.unusedSimpArgs false
namespace Go.Ab.Crw
open Go Go.Ab Go.Ab.Dot
def keq (x y : Ent) : Bool := decide (x.2.1 = y.2.1 ∧ x.2.2.1 = y.2.2.1 ∧ x.1 = y.1)
theorem or3_zero {a b : Int} : or3 a b = 0 ↔ a = 0 ∧ b = 0 := by
  unfold or3; split <;> omega
theorem c3_zero {β : Type} {lt : β → β → Bool} (h : LO lt) (x y : β) : c3 lt x y = 0 ↔ x = y := by
  rcases c3_cases h x y with ⟨a, _, c⟩ | ⟨a, _, c⟩ | ⟨a, _, c⟩
  · rw [a]; exact ⟨(fun h => absurd h (by decide)), (fun h => absurd h c)⟩
  · rw [a]; exact ⟨(fun h => absurd h (by decide)), (fun h => absurd h c)⟩
  · exact ⟨fun _ => c, fun _ => a⟩
theorem f3E_zero (x y : Ent) : decide (f3E x y = 0) = keq x y := by
  unfold f3E f3D keq
  rw [decide_eq_decide, or3_zero, or3_zero, or3_zero, or3_zero, c3_zero lo_str, c3_zero lo_str, c3_zero lo_nat, c3_zero lo_int]
  constructor
  · rintro ⟨h1, h2, h3, h4, _⟩; exact ⟨h1, h2, Prod.ext h4 h3⟩
  · rintro ⟨h1, h2, h3⟩; exact ⟨h1, h2, by rw [h3], by rw [h3], rfl⟩
theorem ltE_key {x y : Ent} (h : keq x y = true) (z : Ent) : ltE x z = ltE y z ∧ ltE z x = ltE z y := by
  obtain ⟨h1, h2, h3⟩ := of_decide_eq_true h
  simp only [ltE, lex, h1, h2, h3, and_self]
theorem lex_tri {α β : Type} [DecidableEq β] {k : α → β} {lt1 : β → β → Bool} {lt2 : α → α → Bool} (h : LO lt1) {x y : α} (h1 : lex k lt1 lt2 x y = false) (h2 : lex k lt1 lt2 y x = false) : k x = k y ∧ lt2 x y = false ∧ lt2 y x = false := by
  unfold lex at h1 h2
  rw [Bool.or_eq_false_iff] at h1 h2
  have e := h.tri _ _ h1.1 h2.1
  have a := h1.2
  have b := h2.2
  rw [e, decide_eq_true rfl, Bool.true_and] at a b
  exact ⟨e, a, b⟩
theorem ltE_tri {x y : Ent} (h1 : ltE x y = false) (h2 : ltE y x = false) : keq x y = true := by
  obtain ⟨e1, a1, b1⟩ := lex_tri lo_str h1 h2
  obtain ⟨e2, a2, b2⟩ := lex_tri lo_str a1 b1
  obtain ⟨e3, a3, b3⟩ := lex_tri lo_nat a2 b2
  obtain ⟨e4, _, _⟩ := lex_tri lo_int a3 b3
  exact decide_eq_true ⟨e1, e2, Prod.ext e4 e3⟩
def UpE (xs : List Ent) : Prop := xs.Pairwise fun x y => ltE y x = false
theorem UpE.at {xs : List Ent} (h : UpE xs) {i j : Nat} (hij : i ≤ j) (hj : j < xs.length) : ltE xs[j] (xs[i]'(by omega)) = false := by
  rcases Nat.lt_or_ge i j with h1 | h1
  · exact (List.pairwise_iff_getElem.1 h) i j (by omega) hj h1
  · have : i = j := by omega
    subst this
    exact swo_ltE.irrefl _
def CmpZ (fv : AV) (c : CallT) : Prop := ∀ {M : RM} {x y : Ent} {Q : PostV}, (∀ (n : Int) M', decide (n < 0) = ltE x y → decide (n = 0) = keq x y → Keep [] M M' → Q (N .i64 n) M') → c [.agg (EntE.cells x), .agg (EntE.cells y)] M Q
theorem cmpZ_of {cv : FuncId → CallT} {n : Nat} (h : CompareC (cv n)) : CmpZ (.fn (.func n) [] []) (callV cv (.fn (.func n) [] [])) := by
  intro M x y Q hQ
  exact ⟨n, [], [], rfl, h fun M' k => hQ _ _ (is3E x y) (f3E_zero x y) k⟩
def SearchEC (fv : AV) (c : CallT) : Prop := ∀ {M : RM} {v : AV} {xs : List Ent} {x : Ent} {Q : PostV}, Sl EntE M v xs → xs.length ≤ 1000000 → UpE xs → (∀ (n : Int) M', Keep [] M M' → Q (.tup [N .i64 n, Bo (xs.any fun y => keq y x)]) M') → c [v, .agg (EntE.cells x), fv] M Q
theorem searchE_spec {TN : Nat} {fv : AV} {cv : FuncId → CallT} (hc : CmpZ fv (callV cv fv)) : SearchEC fv fun args M Q => ∃ a0 a1 a2, args = [a0, a1, a2] ∧ W_BinarySearchFunc_Entry TN cv a0 a1 a2 M Q := by
  intro M v xs x Q hv hl hu hQ
  refine ⟨_, _, _, rfl, ?_⟩
  unfold W_BinarySearchFunc_Entry
  simp only [fuseM, fuseK, fuseKM, fuseMK, joinW_shut]
  rw [boxW_agg rfl (by rw [EntE.len]; decide), newW_eq]
  have k0 : Keep [] M (M.push (.row (EntE.cells x) false TN 0)) := (Keep.refl _ _).push _
  have h0 : (M.push (.row (EntE.cells x) false TN 0)).heap M.next = some (.row (EntE.cells x) false TN 0) := RM.push_new _
  have n0 : M.next < (M.push (.row (EntE.cells x) false TN 0)).next := by simp [RM.push]
  generalize M.push (.row (EntE.cells x) false TN 0) = M1 at *
  generalize M.next = s at *
  rw [SlR.len hv]
  refine loopW_ind (fun m ys M3 => ∃ i j : Nat, m = j - i ∧ ys = [N .i64 (i : Int), N .i64 (j : Int)] ∧ i ≤ j ∧ j ≤ xs.length ∧ Keep [] M1 M3 ∧ (∀ k (hk : k < xs.length), k < i → ltE xs[k] x = true) ∧ (∀ k (hk : k < xs.length), j ≤ k → ltE xs[k] x = false)) _
    ⟨0, xs.length, rfl, rfl, Nat.zero_le _, Nat.le_refl _, Keep.refl _ _, by omega, by omega⟩ ?_
  rintro next m ys M3 hnext ⟨i, j, rfl, rfl, hij, hj, k3, h1, h2⟩
  dsimp only [nthD]
  have h3 := k3.heap_of h0 n0 (by simp)
  have hv3 : Sl EntE M3 v xs := SlR.keep hv (k0.trans k3) (by simp)
  rw [lssN]
  refine condB (fun hlt => ?_) (fun hge => ?_)
  · have hlt : i < j := of_decide_eq_true hlt
    rw [intW_add, cvtW_N, shW_shr]
    refine ⟨by omega, ?_⟩
    rw [cvtW_N, half i j (by omega)]
    have hm : (i + j) / 2 < xs.length := by omega
    rw [ent_at hv3 hm, loadN_at (n := 5) h3 (by rw [EntE.len]; rfl)]
    refine hc fun n M4 hn _ k4 => ?_
    rw [intW_lss, hn]
    refine condB (fun h => ?_) (fun h => ?_)
    · rw [add1 (by omega)]
      refine hnext _ _ _ (by omega) ⟨(i + j) / 2 + 1, j, rfl, rfl, by omega, hj, k3.trans k4, fun k hk hki => ?_, h2⟩
      cases h5 : ltE xs[k] x with
      | true => rfl
      | false =>
        have h6 := hu.at (i := k) (j := (i + j) / 2) (by omega) hm
        rw [swo_ltE.ntrans _ _ _ h6 h5] at h
        cases h
    · refine hnext _ _ _ (by omega) ⟨i, (i + j) / 2, rfl, rfl, by omega, by omega, k3.trans k4, h1, fun k hk hki => ?_⟩
      have h6 := hu.at (i := (i + j) / 2) (j := k) hki hk
      exact swo_ltE.ntrans _ _ _ h6 h
  · have hij : i = j := by
      have : ¬ i < j := of_decide_eq_false hge
      omega
    subst hij
    rw [lssN]
    refine andP (P := fun M' => Keep [] M3 M') (p := if h : i < xs.length then keq xs[i] x else false) (Keep.refl _ _) (fun hc' k hk => ?_) fun M' k' => ?_
    · have hi : i < xs.length := of_decide_eq_true hc'
      rw [ent_at hv3 hi, loadN_at (n := 5) h3 (by rw [EntE.len]; rfl)]
      refine hc fun n M4 _ hn k4 => ?_
      rw [intW_eql, show (n == (0 : Int)) = decide (n = 0) from rfl, hn]
      rw [dif_pos hi] at hk
      exact hk _ k4
    · have e : (decide (i < xs.length) && if h : i < xs.length then keq xs[i] x else false) = xs.any fun y => keq y x := by
        rw [Bool.eq_iff_iff, Bool.and_eq_true, List.any_eq_true, decide_eq_true_eq]
        constructor
        · rintro ⟨hi, h⟩
          rw [dif_pos hi] at h
          exact ⟨_, List.getElem_mem hi, h⟩
        · rintro ⟨y, hy, hk⟩
          obtain ⟨k, hkl, rfl⟩ := List.getElem_of_mem hy
          have hlt : ltE xs[k] x = false := by rw [(ltE_key hk x).1]; exact swo_ltE.irrefl _
          have hik : i ≤ k := by
            rcases Nat.lt_or_ge k i with h | h
            · rw [h1 k hkl h] at hlt; cases hlt
            · exact h
          have hi : i < xs.length := by omega
          refine ⟨hi, ?_⟩
          rw [dif_pos hi]
          refine ltE_tri (h2 i hi (Nat.le_refl _)) ?_
          rw [← (ltE_key hk _).1]
          exact hu.at hik hkl
      rw [e]
      exact hQ _ _ ((k0.trans k3).trans k')
end Go.Ab.Crw
set_option maxRecDepth 10000
set_option linter.unusedVariables false
set_option linter.unusedSimpArgs false
namespace Go.Ab.Crw
open Go Go.Ab Go.Ab.Dot
theorem asc_of {k : Nat} {ps : List Pt} (h : SI k ps) (hk : k ≤ 4096) : ∀ q ∈ ps, Asc q.2 ∧ q.2.length ≤ 1000000 := fun q hq => ⟨(h.wf q hq).1, by have := h.few q hq; omega⟩
theorem slR_known {M : RM} {size n : Nat} {v : AV} {cs : List AV} (h : SlR M size v cs n) : known v = true := by
  cases h <;> rfl
theorem andMP {M : RM} {c p : Bool} {f : PostV → Prop} {P : RM → Prop} {G : AV → RM → Prop} (h0 : P M) (hf : c = true → ∀ k : PostV, (∀ M', P M' → k (Bo p) M') → f k) (hG : ∀ M', P M' → G (Bo (c && p)) M') :
    guardM (Bo c) true f (fun k => k .undef M) (fun t M' => pickW (Bo c) t (Bo false) fun u => G u M') := by
  cases c with
  | false => rw [guardM_FT]; dsimp only; rw [pickF]; exact hG M h0
  | true => rw [guardM_TT]; exact hf rfl _ fun M' h => by rw [pickT]; exact hG M' h
def hasK (es : List Ent) (x : Ent) : Bool := es.any fun y => keq y x
def HasEC (TS T : Nat) (c : CallT) : Prop := ∀ {M : RM} {t : Nat} {B : Nat → Prop} {ps : List Pt} {es : List Ent} {x : Ent} {Q : PostV}, StH TS T B M t ps es → es.length ≤ 1000000 → UpE es → (∀ M', Keep [] M M' → Q (Bo (hasK es x)) M') → c [.ptr t 0, .agg (EntE.cells x)] M Q
theorem hasE_spec {TS T TN n : Nat} {cb : CallT} (hb : SearchEC (.fn (.func n) [] []) cb) : HasEC TS T fun args M Q => ∃ a0 a1, args = [a0, a1] ∧ W_State_has TN cb n a0 a1 M Q := by
  intro M t B ps es x Q h hl hu hQ
  refine ⟨_, _, rfl, ?_⟩
  unfold W_State_has
  rw [boxW_agg rfl (by rw [EntE.len]; decide), newW_eq]
  have k0 : Keep [] M (M.push (.row (EntE.cells x) false TN 0)) := (Keep.refl _ _).push _
  have h0 : (M.push (.row (EntE.cells x) false TN 0)).heap M.next = some (.row (EntE.cells x) false TN 0) := RM.push_new _
  obtain ⟨s, v, r1, _, r3, _, _⟩ := h.row
  have r1' := k0.heap_of r1 h.lt (by simp)
  have r3' : Sl EntE (M.push (.row (EntE.cells x) false TN 0)) v es := SlR.keep r3 k0 (by simp)
  generalize M.push (.row (EntE.cells x) false TN 0) = M1 at *
  generalize M.next = b at *
  rw [ptrW_ptr, fldW_ptr, load1_at (i := 0 + 1) r1' rfl, loadN_at (n := 5) h0 (by rw [EntE.len]; rfl)]
  refine hb r3' hl hu fun n M2 k2 => ?_
  rw [extW0, extW1]
  exact hQ M2 (k0.trans k2)
def SeenC (TS T : Nat) (c : CallT) : Prop := ∀ {M : RM} {t k : Nat} {B : Nat → Prop} {ps : List Pt} {es : List Ent} {Q : PostV}, StH TS T B M t ps es → SI k ps → k ≤ 4096 →
  (∀ a M', M.next ≤ a → SetH T (fun e => a < e) M' a ps → Keep [] M M' → Q (.ptr a 0) M') → c [.ptr t 0] M Q
theorem seen_spec {TS T : Nat} {cc : CallT} (hc : CopyAC T cc) : SeenC TS T fun args M Q => ∃ a0, args = [a0] ∧ W_State_Seen cc a0 M Q := by
  intro M t k B ps es Q h hi hk hQ
  refine ⟨_, rfl, ?_⟩
  unfold W_State_Seen
  obtain ⟨s, v, r1, ⟨S, r2, _⟩, _, _, _⟩ := h.row
  rw [ptrW_ptr, fld0, load1_at r1 rfl]
  exact hc r2 hi hk hQ
def CopyStC (TS T : Nat) (c : CallT) : Prop := ∀ {M : RM} {t k : Nat} {B : Nat → Prop} {ps : List Pt} {es : List Ent} {Q : PostV}, StH TS T B M t ps es → SI k ps → k ≤ 4096 → es.length ≤ 1000000 →
  (∀ a M', M.next ≤ a → StH TS T (fun d => M.next ≤ d ∧ d < a) M' a ps es → Keep [] M M' → Q (.ptr a 0) M') → c [.ptr t 0] M Q
theorem copySt_spec {TS T TN : Nat} {cc cl : CallT} (hc : CopyAC T cc) (hL : CloneEC TN cl) : CopyStC TS T fun args M Q => ∃ a0, args = [a0] ∧ W_State_Copy cc cl TS a0 M Q := by
  intro M t k B ps es Q h hi hk hl hQ
  refine ⟨_, rfl, ?_⟩
  unfold W_State_Copy
  obtain ⟨s, v, r1, ⟨S, r2, _⟩, r3, _, _⟩ := h.row
  rw [ptrW_ptr, fld0, load1_at r1 rfl, ptrW_ptr, fldW_ptr, load1_at (i := 0 + 1) r1 rfl]
  refine hc r2 hi hk fun a M1 ha h1 k1 => ?_
  rw [load1_at (i := 0 + 1) (k1.heap_of r1 h.lt (by simp)) rfl]
  refine ⟨rfl, ?_⟩
  have hb1 := h1.below
  have alt := h1.lt
  refine hL (SlR.keep r3 k1 (by simp)) hl fun v' M2 h2 k2 => ?_
  have n1 := k1.next
  have n2 := k2.next
  rw [buildW_eq]
  refine ⟨[.ptr a 0, v'], build2 rfl rfl (slR_known h2.slR) (SlR.cells h2.slR), ?_⟩
  rw [boxW_agg (by show (oneCell (.ptr a 0) && (oneCell v' && true)) = true; rw [SlR.one h2.slR]; rfl) (by simp), newR_eq]
  have k3 : Keep [] M2 (M2.push (.row [.ptr a 0, v'] false TS 0)) := (Keep.refl _ _).push _
  refine hQ _ _ (by omega) ⟨by simp [RM.push], ⟨a, v', RM.push_new _, ⟨_, (hb1.keep k2 (by simp) (by simp)).keep k3 (by simp) (by simp), fun d hd => ⟨by omega, by omega⟩⟩, SlR.keep h2.slR k3 (by simp), ⟨by omega, by omega⟩, fun d hd => ?_⟩, fun hh => by omega⟩ ((k1.trans k2).trans k3)
  have := h2.blk d hd
  exact ⟨by omega, by omega⟩
def SameStC (TS T : Nat) (c : CallT) : Prop := ∀ {M : RM} {t u k l : Nat} {B C : Nat → Prop} {ps qs : List Pt} {es fs : List Ent} {Q : PostV}, StH TS T B M t ps es → StH TS T C M u qs fs → SI k ps → SI l qs → k ≤ 4096 → l ≤ 4096 → es.length ≤ 1000000 →
  (∀ M', Keep [] M M' → Q (Bo ((decide (es = fs) && withinS ps qs) && withinS qs ps)) M') → c [.ptr t 0, .ptr u 0] M Q
theorem sameSt_spec {TS T : Nat} {ce cw : CallT} (he : EqualEC ce) (hW : WithinC T cw) : SameStC TS T fun args M Q => ∃ a0 a1, args = [a0, a1] ∧ W_State_Same ce cw a0 a1 M Q := by
  intro M t u k l B C ps qs es fs Q h g hi gi hk gk hl hQ
  refine ⟨_, _, rfl, ?_⟩
  unfold W_State_Same
  simp only [fuseM, fuseK, fuseKM, fuseMK, joinW_shut]
  obtain ⟨s, v, r1, ⟨S, r2, _⟩, r3, _, _⟩ := h.row
  obtain ⟨s', v', q1, ⟨S', q2, _⟩, q3, _, _⟩ := g.row
  rw [ptrW_ptr, fldW_ptr, load1_at (i := 0 + 1) r1 rfl, ptrW_ptr, fldW_ptr, load1_at (i := 0 + 1) q1 rfl]
  refine he r3 q3 hl ?_
  refine andMP (P := fun M' => Keep [] M M') (p := withinS ps qs) (Keep.refl _ _) (fun _ k hk' => ?_) fun M1 k1 => ?_
  · rw [ptrW_ptr, fld0, load1_at r1 rfl, ptrW_ptr, fld0, load1_at q1 rfl]
    exact hW r2 q2 (fun p hp => (asc_of hi hk p hp).2) (asc_of gi gk) fun M' k' => hk' M' k'
  refine andMP (P := fun M' => Keep [] M1 M') (p := withinS qs ps) (Keep.refl _ _) (fun _ k hk' => ?_) fun M2 k2 => ?_
  · rw [ptrW_ptr, fld0, load1_at (k1.heap_of q1 g.lt (by simp)) rfl, ptrW_ptr, fld0, load1_at (k1.heap_of r1 h.lt (by simp)) rfl]
    exact hW (q2.keep k1 (by simp) (by simp)) (r2.keep k1 (by simp) (by simp)) (fun p hp => (asc_of gi gk p hp).2) (asc_of hi hk) fun M' k' => hk' M' k'
  exact hQ M2 (k1.trans k2)
end Go.Ab.Crw
set_option maxRecDepth 10000
set_option linter.unusedVariables false
set_option linter.unusedSimpArgs false
namespace Go.Ab.Crw
open Go Go.Ab Go.Ab.Dot
abbrev St2 := List Pt × List Ent
def stepS (s : St2) (x : Ev) : St2 := if goodEv x.1 x.2 then (applyP s.1 x.1 x.2, applyE s.1 s.2 x.1 x.2) else s
def runS (l : List Ev) : St2 := l.foldl stepS (emptyS, [])
theorem runS_snoc (l : List Ev) (x : Ev) : runS (l ++ [x]) = stepS (runS l) x := by rw [runS, List.foldl_append]; rfl
structure StI (i : Nat) (s : St2) : Prop where
  si : SI (65 * i) s.1
  few : s.2.length ≤ i
  up : UpE s.2
theorem applyE_up {ps : List Pt} {es : List Ent} {e : EvT} {ks : List Dot} (h : UpE es) : UpE (applyE ps es e ks) := by
  unfold applyE
  refine List.Pairwise.filter _ ?_
  split
  · exact sortE_up swo_ltE _
  · exact h
theorem StI.step {i : Nat} {s : St2} (h : StI i s) (x : Ev) : StI (i + 1) (stepS s x) := by
  unfold stepS
  split
  · rename_i hg
    obtain ⟨_, g2, _, _, _⟩ := goodEv_parts hg
    refine ⟨(addAll_SI h.si).mono (by simp; omega), ?_, applyE_up h.up⟩
    have := applyE_len s.1 s.2 x.1 x.2
    have := h.few
    show (applyE s.1 s.2 x.1 x.2).length ≤ i + 1
    omega
  · exact ⟨h.si.mono (by omega), by have := h.few; omega, h.up⟩
theorem StI.empty : StI 0 (emptyS, []) := ⟨empty_SI, Nat.le_refl _, .nil⟩
theorem runS_I : ∀ (l : List Ev), StI l.length (runS l) := fun l => by
  suffices h : ∀ (l : List Ev) (i : Nat) (s : St2), StI i s → StI (i + l.length) (l.foldl stepS s) by
    have := h l 0 _ StI.empty
    rwa [Nat.zero_add] at this
  intro l
  induction l with
  | nil => intro i s h; exact h
  | cons x l ih =>
    intro i s h
    have := ih (i + 1) (stepS s x) (h.step x)
    rwa [show i + 1 + l.length = i + (x :: l).length by simp; omega] at this
def ordI (n m : Nat) (back : Bool) (i : Nat) : Nat := if back then n - 1 - (i + m) % n else (i + m) % n
theorem ordI_lt {n m i : Nat} {back : Bool} (h : i < n) : ordI n m back i < n := by
  have := Nat.mod_lt (i + m) (show 0 < n by omega)
  unfold ordI; split <;> omega
def ordL (l : List Ev) (m : Nat) (back : Bool) : List Ev := (List.range l.length).map fun i => l.getD (ordI l.length m back i) (((0, 0), (0, ([], ([], [])))), [])
theorem ordL_len (l : List Ev) (m : Nat) (back : Bool) : (ordL l m back).length = l.length := by simp [ordL]
theorem ordL_at {l : List Ev} {m : Nat} {back : Bool} {i : Nat} (h : i < l.length) : (ordL l m back)[i]'(by rw [ordL_len]; exact h) = l[ordI l.length m back i]'(ordI_lt h) := by
  simp only [ordL, List.getElem_map, List.getElem_range]
  rw [List.getD_eq_getElem?_getD, List.getElem?_eq_getElem (ordI_lt h)]; rfl
theorem ordL_take {l : List Ev} {m : Nat} {back : Bool} {i : Nat} (h : i < l.length) : runS ((ordL l m back).take (i + 1)) = stepS (runS ((ordL l m back).take i)) (l[ordI l.length m back i]'(ordI_lt h)) := by
  rw [List.take_succ_eq_append_getElem (by rw [ordL_len]; exact h), runS_snoc, ordL_at h]
def StateC (TS T : Nat) (c : CallT) : Prop := ∀ {M : RM} {v : AV} {l : List Ev} {n : Int} {m : Nat} {back : Bool} {Q : PostV}, SlD EvR M v l (fun d => d < M.next) → l.length ≤ 60 → andI .i64 n 1023 = (m : Int) → m ≤ 1023 →
  (∀ t M', M.next ≤ t → StH TS T (fun d => M.next ≤ d ∧ d < M'.next ∧ d ≠ t) M' t (runS (ordL l m back)).1 (runS (ordL l m back)).2 → Keep [] M M' → Q (.ptr t 0) M') → c [v, N .i64 n, Bo back] M Q
theorem state_spec {TS T : Nat} {cn cA : CallT} (hn : NewStC TS T cn) (hA : ApplyC TS T cA) : StateC TS T fun args M Q => ∃ a0 a1 a2, args = [a0, a1, a2] ∧ W_state cn cA a0 a1 a2 M Q := by
  intro M v l n m back Q hv hl hm hm2 hQ
  refine ⟨_, _, _, rfl, ?_⟩
  unfold W_state
  simp only [fuseM, fuseK, fuseKM, fuseMK, joinW_shut]
  refine hn fun t M1 ht st1 k1 => ?_
  refine loopW_ind (fun z ys M3 => ∃ i : Nat, z = l.length - i ∧ ys = [N .i64 (i : Int)] ∧ i ≤ l.length ∧ Keep [] M M3 ∧ StH TS T (fun d => M.next ≤ d ∧ d < M3.next ∧ d ≠ t) M3 t (runS ((ordL l m back).take i)).1 (runS ((ordL l m back).take i)).2) _
    ⟨0, rfl, rfl, Nat.zero_le _, k1, (st1.mono (B' := fun d => M.next ≤ d ∧ d ≠ t) (fun d hd => ⟨hd.1, by omega⟩) (fun h => h.2 rfl)).below.mono (fun d hd => ⟨hd.1.1, hd.2, hd.1.2⟩) (fun h => h.2.2 rfl)⟩ ?_
  rintro next z ys M3 hnext ⟨i, rfl, rfl, hi, k3, st3⟩
  dsimp only [nthD]
  have hv3 : SlD EvR M3 v l (fun d => d < M.next) := hv.keep k3 (by simp)
  rw [hv3.len, lssN]
  refine condB (fun hlt => ?_) (fun hge => ?_)
  · have hlt : i < l.length := of_decide_eq_true hlt
    have n3 := k3.next
    refine joinV_spec (fun zs M' => zs = [] ∧ Keep [] M M' ∧ StH TS T (fun d => M.next ≤ d ∧ d < M'.next ∧ d ≠ t) M' t (runS ((ordL l m back).take (i + 1))).1 (runS ((ordL l m back).take (i + 1))).2) ?_ ?_
    · rintro zs M' ⟨rfl, k', st'⟩
      rw [add1 (by omega)]
      exact hnext _ _ _ (by omega) ⟨i + 1, rfl, rfl, by omega, k', st'⟩
    intro J hJ
    rw [intW_and, hm, addN (by omega), hv3.len, intW_rem]
    refine ⟨by omega, ?_⟩
    rw [show (((i + m : Nat) : Int)).tmod (l.length : Int) = (((i + m) % l.length : Nat) : Int) by rw [Int.tmod_eq_emod_of_nonneg (by omega)]; rfl]
    have hj : (i + m) % l.length < l.length := Nat.mod_lt _ (by omega)
    have hI : StI i (runS ((ordL l m back).take i)) := by
      have := runS_I ((ordL l m back).take i)
      rwa [List.length_take, ordL_len, Nat.min_eq_left hi] at this
    have htk := ordL_take (m := m) (back := back) hlt
    have hil := ordI_lt (n := l.length) (m := m) (i := i) (back := back) hlt
    refine joinV_spec (fun zs M' => zs = [N .i64 ((ordI l.length m back i : Nat) : Int)] ∧ M' = M3) ?_ ?_
    · rintro zs M' ⟨rfl, rfl⟩
      dsimp only [nthD]
      rw [htk] at hJ
      clear htk
      generalize runS ((ordL l m back).take i) = s at *
      obtain ⟨b, o, kv, hidx, hl7, _, hkv, hkb⟩ := ev_at hv3 hil
      rw [hidx, hl7]
      generalize l[ordI l.length m back i]'hil = x at *
      have hne : t ∉ blkOf kv := fun h => by have := hkb t h; omega
      refine hA st3 hI.si (by omega) (by have := hI.few; omega) hkv hne (fun hb M4 k4 => ?_) (fun hg M4 st4 k4 => ?_)
      · refine hJ [] M4 ⟨rfl, k3.trans k4, ?_⟩
        unfold stepS
        rw [if_neg (by rw [hb]; decide)]
        have n4 := k4.next
        exact (st3.keep k4 (by simp) (by simp)).mono (fun d hd => ⟨hd.1, by omega, hd.2.2⟩) (fun h => h.2.2 rfl)
      · refine hJ [] M4 ⟨rfl, k3.then_new k4 (fun d hd => by simp at hd; omega), ?_⟩
        unfold stepS
        rw [if_pos hg]
        have lt3 := st3.lt
        have n4 := k4.next
        refine (st4.below.mono (B' := fun d => M.next ≤ d ∧ d < M4.next ∧ d ≠ t) (fun d hd => ?_) (fun h => h.2.2 rfl))
        obtain ⟨h | h, h'⟩ := hd
        · exact ⟨h.1, h', h.2.2⟩
        · exact ⟨by omega, h', by omega⟩
    · intro J2 hJ2
      cases back with
      | true =>
        rw [condT, hv3.len, sub1 (by omega) (by omega), subN (by omega) (by omega)]
        exact hJ2 _ _ ⟨rfl, rfl⟩
      | false =>
        rw [condF]
        exact hJ2 _ _ ⟨rfl, rfl⟩
  · have he : i = l.length := by
      have : ¬ i < l.length := of_decide_eq_false hge
      omega
    subst he
    rw [List.take_of_length_le (by rw [ordL_len]; exact Nat.le_refl _)] at st3
    exact hQ t M3 ht st3 k3
end Go.Ab.Crw
set_option maxRecDepth 10000
set_option linter.unusedVariables false
set_option linter.unusedSimpArgs false
namespace Go.Ab.Crw
open Go Go.Ab Go.Ab.Dot
def joinA (qs : List Pt) (fs : List Ent) (x : Ent) : Bool := hasK fs x || !hasS qs x.1
def joinB (ps : List Pt) (es : List Ent) (x : Ent) : Bool := !hasK es x && !hasS ps x.1
def joinE (ps qs : List Pt) (es fs : List Ent) : List Ent := sortE ltE (es.filter (joinA qs fs) ++ fs.filter (joinB ps es))
theorem filter_snoc {α : Type} {p : α → Bool} {l : List α} {i : Nat} (h : i < l.length) : (l.take (i + 1)).filter p = (l.take i).filter p ++ (if p l[i] then [l[i]] else []) := by
  rw [List.take_succ_eq_append_getElem h, List.filter_append, List.filter_cons, List.filter_nil]
theorem filter_len {α : Type} (p : α → Bool) (l : List α) (i : Nat) : ((l.take i).filter p).length ≤ i := Nat.le_trans (List.length_filter_le _ _) (by rw [List.length_take]; omega)
theorem ent_one (x : Ent) : (EntE.cells x).all oneCell = true := rfl
theorem ld_dot {M : RM} {b T : Nat} {x : Ent} {p : Bool} (h : M.heap b = some (.row (EntE.cells x) p T 0)) {K : AV → Prop} : loadN M (.ptr b 0) 2 K = K (.agg (dcells x.1)) := by
  have e2 : ((EntE.cells x).drop 0).take 2 = dcells x.1 := rfl
  rw [loadN_ptr, RM.loads_row h (by rw [EntE.len]; decide), e2]
  simp
def JoinStC (TS T : Nat) (c : CallT) : Prop := ∀ {M : RM} {t u k l : Nat} {B C : Nat → Prop} {ps qs : List Pt} {es fs : List Ent} {Q : PostV}, StH TS T B M t ps es → StH TS T C M u qs fs → (t = u → ps = qs ∧ es = fs) → (t ≠ u → ∀ d, B d → ¬ C d) → ¬ C t → ¬ B u →
  SI k ps → SI l qs → k ≤ 4096 → l ≤ 4096 → es.length + fs.length ≤ 50000 → UpE es → UpE fs →
  (∀ s M', B s → StH TS T (fun d => B d ∨ M.next ≤ d) M' t (joinS ps qs) (joinE ps qs es fs) → Keep [t, s] M M' → Q (.tup []) M') → c [.ptr t 0, .ptr u 0] M Q
theorem joinSt_spec {TS T TN nc : Nat} {ch cH cS cj : CallT} (hh : HasEC TS T ch) (hH : HasSC T cH) (hS : SortFnE (.fn (.func nc) [] []) ltE TN cS) (hj : JoinAC T cj) :
    JoinStC TS T fun args M Q => ∃ a0 a1, args = [a0, a1] ∧ W_State_Join TN ch cH cS nc cj a0 a1 M Q := by
  intro M t u k l B C ps qs es fs Q hst hsu htu hsep hCt hBu hi gi hk4 hl4 hlen hup gup hQ
  refine ⟨_, _, rfl, ?_⟩
  unfold W_State_Join
  simp only [fuseM, fuseK, fuseKM, fuseMK, joinW_shut]
  obtain ⟨s, v, r1, ⟨S, r2, r2'⟩, r3, r4, r5⟩ := hst.row
  obtain ⟨s', v', q1, ⟨S', q2, q2'⟩, q3, q4, q5⟩ := hsu.row
  have tlt := hst.lt
  have ult := hsu.lt
  rw [ptrW_ptr, fldW_ptr, load1_at (i := 0 + 1) r1 rfl, SlR.len r3]
  refine loopW_ind (fun z ys M3 => ∃ (i : Nat) (dv : AV), z = es.length - i ∧ ys = [dv, N .i64 (i : Int)] ∧ i ≤ es.length ∧ Keep [] M M3 ∧ Ow EntE M3 M.next TN dv ((es.take i).filter (joinA qs fs))) _
    ⟨0, nilS, rfl, rfl, Nat.zero_le _, Keep.refl _ _, .nil⟩ ?_
  rintro next z ys M3 hnext ⟨i, dv, rfl, rfl, hil, k3, o3⟩
  dsimp only [nthD]
  rw [lssN]
  refine condB (fun hlt => ?_) (fun hge => ?_)
  · have hlt : i < es.length := of_decide_eq_true hlt
    have n3 := k3.next
    have hfl := filter_len (joinA qs fs) es i
    refine joinV_spec (fun zs M' => ∃ dv', zs = [dv'] ∧ Keep [] M M' ∧ Ow EntE M' M.next TN dv' ((es.take (i + 1)).filter (joinA qs fs))) ?_ ?_
    · rintro zs M' ⟨dv', rfl, k', o'⟩
      dsimp only [nthD]
      rw [add1 (by omega)]
      exact hnext _ _ _ (by omega) ⟨i + 1, dv', rfl, rfl, by omega, k', o'⟩
    intro J hJ
    rw [filter_snoc hlt] at hJ
    rw [ent_at (SlR.keep r3 k3 (by simp)) hlt]
    generalize (es.take i).filter (joinA qs fs) = acc at *
    generalize es[i] = x at *
    rw [newW_eq, storeW_all (n := 5) (x := .agg (EntE.cells x)) (l := [(N .i64 0), (N .u64 0), (St []), (St []), (St [])]) (RM.push_new _) rfl rfl (ent_one x)]
    have k4 : Keep [] M3 ((M3.push (.row [(N .i64 0), (N .u64 0), (St []), (St []), (St [])] false TN 0)).put M3.next (.row (AV.agg (EntE.cells x)).cells false TN 0)) := ((Keep.refl _ _).push _).new _ (Nat.le_refl _)
    have h4 : ((M3.push (.row [(N .i64 0), (N .u64 0), (St []), (St []), (St [])] false TN 0)).put M3.next (.row (AV.agg (EntE.cells x)).cells false TN 0)).heap M3.next = some (.row (EntE.cells x) false TN 0) := heap_put_eq _
    have n4 : M3.next < ((M3.push (.row [(N .i64 0), (N .u64 0), (St []), (St []), (St [])] false TN 0)).put M3.next (.row (AV.agg (EntE.cells x)).cells false TN 0)).next := by rw [next_put]; simp [RM.push]
    generalize (M3.push (.row [(N .i64 0), (N .u64 0), (St []), (St []), (St [])] false TN 0)).put M3.next (.row (AV.agg (EntE.cells x)).cells false TN 0) = M4 at *
    generalize M3.next = b at *
    rw [loadN_at (n := 5) h4 rfl]
    have su4 := hsu.keep (k3.trans k4) (by simp) (by simp)
    refine hh su4 (by omega) gup fun M5 k5 => ?_
    have h5 := k5.heap_of h4 n4 (by simp)
    have k35 := k4.trans k5
    have k05 := k3.trans k35
    refine orP (P := fun M' => Keep [] M5 M') (p := !hasS qs x.1) (Keep.refl _ _) (fun _ k' hk' => ?_) fun M6 k6 => ?_
    · rw [ptrW_ptr, fld0, load1_at (k05.heap_of q1 ult (by simp)) rfl, fld0, ld_dot h5]
      refine hH (q2.keep k05 (by simp) (by simp)) (asc_of gi (by omega)) fun M6 k6 => ?_
      rw [notW_Bo]
      exact hk' M6 k6
    have k36 := k35.trans k6
    have k06 := k3.trans k36
    have n5 := k5.next
    have h6 := k6.heap_of h5 (by omega) (by simp)
    have o6 := o3.keep k36 (by simp)
    refine condB (fun hc => ?_) (fun hc => ?_)
    · rw [loadN_at (n := 5) h6 rfl, rows1 (x := .agg (EntE.cells x)) (size := 5) rfl (ent_one x) rfl, newW_eq]
      refine app_one (E := EntE) (a := x) o6 (by have := k06.next; omega) (by decide) (by omega) (by omega) fun v2 M7 o7 k7 n7 _ => ?_
      refine hJ _ _ ⟨v2, rfl, k06.then_new k7 (fun d hd => .inl (o6.blk d hd).1), ?_⟩
      rw [show joinA qs fs x = true from hc, if_pos rfl]
      exact o7
    · refine hJ _ _ ⟨dv, rfl, k06, ?_⟩
      rw [show joinA qs fs x = false from hc, if_neg (by decide), List.append_nil]
      exact o6
  have he : i = es.length := by
    have : ¬ i < es.length := of_decide_eq_false hge
    omega
  subst he
  rw [List.take_length] at o3
  clear hnext hge
  have hel : (es.filter (joinA qs fs)).length ≤ es.length := List.length_filter_le _ _
  have q1' := k3.heap_of q1 ult (by simp)
  have q3' : Sl EntE M3 v' fs := SlR.keep q3 k3 (by simp)
  rw [ptrW_ptr, fldW_ptr, load1_at (i := 0 + 1) q1' rfl, SlR.len q3']
  have hE : joinE ps qs es fs = sortE ltE (es.filter (joinA qs fs) ++ fs.filter (joinB ps es)) := rfl
  generalize es.filter (joinA qs fs) = eA at *
  refine loopW_ind (fun z ys M4 => ∃ (i : Nat) (dw : AV), z = fs.length - i ∧ ys = [dw, N .i64 (i : Int)] ∧ i ≤ fs.length ∧ Keep [] M M4 ∧ Ow EntE M4 M.next TN dw (eA ++ (fs.take i).filter (joinB ps es))) _
    ⟨0, dv, rfl, rfl, Nat.zero_le _, k3, by simpa using o3⟩ ?_
  clear o3 k3 q1' q3'
  rintro next z ys M4 hnext ⟨i, dw, rfl, rfl, hil, k4, o4⟩
  dsimp only [nthD]
  rw [lssN]
  refine condB (fun hlt => ?_) (fun hge => ?_)
  · have hlt : i < fs.length := of_decide_eq_true hlt
    have n4 := k4.next
    have hfl := filter_len (joinB ps es) fs i
    refine joinV_spec (fun zs M' => ∃ dv', zs = [dv'] ∧ Keep [] M M' ∧ Ow EntE M' M.next TN dv' (eA ++ (fs.take (i + 1)).filter (joinB ps es))) ?_ ?_
    · rintro zs M' ⟨dv', rfl, k', o'⟩
      dsimp only [nthD]
      rw [add1 (by omega)]
      exact hnext _ _ _ (by omega) ⟨i + 1, dv', rfl, rfl, by omega, k', o'⟩
    intro J hJ
    rw [filter_snoc hlt, ← List.append_assoc] at hJ
    rw [ent_at (SlR.keep q3 k4 (by simp)) hlt]
    have hal : (eA ++ (fs.take i).filter (joinB ps es)).length ≤ es.length + i := by rw [List.length_append]; omega
    generalize eA ++ (fs.take i).filter (joinB ps es) = acc at *
    generalize fs[i] = x at *
    rw [newW_eq, storeW_all (n := 5) (x := .agg (EntE.cells x)) (l := [(N .i64 0), (N .u64 0), (St []), (St []), (St [])]) (RM.push_new _) rfl rfl (ent_one x)]
    have k5 : Keep [] M4 ((M4.push (.row [(N .i64 0), (N .u64 0), (St []), (St []), (St [])] false TN 0)).put M4.next (.row (AV.agg (EntE.cells x)).cells false TN 0)) := ((Keep.refl _ _).push _).new _ (Nat.le_refl _)
    have h5 : ((M4.push (.row [(N .i64 0), (N .u64 0), (St []), (St []), (St [])] false TN 0)).put M4.next (.row (AV.agg (EntE.cells x)).cells false TN 0)).heap M4.next = some (.row (EntE.cells x) false TN 0) := heap_put_eq _
    have n5 : M4.next < ((M4.push (.row [(N .i64 0), (N .u64 0), (St []), (St []), (St [])] false TN 0)).put M4.next (.row (AV.agg (EntE.cells x)).cells false TN 0)).next := by rw [next_put]; simp [RM.push]
    generalize (M4.push (.row [(N .i64 0), (N .u64 0), (St []), (St []), (St [])] false TN 0)).put M4.next (.row (AV.agg (EntE.cells x)).cells false TN 0) = M5 at *
    generalize M4.next = b at *
    rw [loadN_at (n := 5) h5 rfl]
    have st5 := hst.keep (k4.trans k5) (by simp) (by simp)
    refine hh st5 (by omega) hup fun M6 k6 => ?_
    have h6 := k6.heap_of h5 n5 (by simp)
    have k46 := k5.trans k6
    have k06 := k4.trans k46
    rw [notW_Bo]
    refine andP (P := fun M' => Keep [] M6 M') (p := !hasS ps x.1) (Keep.refl _ _) (fun _ k' hk' => ?_) fun M7 k7 => ?_
    · rw [ptrW_ptr, fld0, load1_at (k06.heap_of r1 tlt (by simp)) rfl, fld0, ld_dot h6]
      refine hH (r2.keep k06 (by simp) (by simp)) (asc_of hi (by omega)) fun M7 k7 => ?_
      rw [notW_Bo]
      exact hk' M7 k7
    have k47 := k46.trans k7
    have k07 := k4.trans k47
    have n6 := k6.next
    have h7 := k7.heap_of h6 (by omega) (by simp)
    have o7 := o4.keep k47 (by simp)
    refine condB (fun hc => ?_) (fun hc => ?_)
    · rw [loadN_at (n := 5) h7 rfl, rows1 (x := .agg (EntE.cells x)) (size := 5) rfl (ent_one x) rfl, newW_eq]
      refine app_one (E := EntE) (a := x) o7 (by have := k07.next; omega) (by decide) (by omega) (by omega) fun v2 M8 o8 k8 n8 _ => ?_
      refine hJ _ _ ⟨v2, rfl, k07.then_new k8 (fun d hd => .inl (o7.blk d hd).1), ?_⟩
      rw [show joinB ps es x = true from hc, if_pos rfl]
      exact o8
    · refine hJ _ _ ⟨dw, rfl, k07, ?_⟩
      rw [show joinB ps es x = false from hc, if_neg (by decide), List.append_nil]
      exact o7
  have he : i = fs.length := by
    have : ¬ i < fs.length := of_decide_eq_false hge
    omega
  subst he
  rw [List.take_length] at o4
  clear hnext hge
  have hel2 : (eA ++ fs.filter (joinB ps es)).length ≤ es.length + fs.length := by
    have := List.length_filter_le (joinB ps es) fs
    rw [List.length_append]; omega
  refine hS o4 (by omega) fun M5 o5 k5 => ?_
  rw [← hE] at o5
  have k05 := k4.then_new k5 (fun d hd => .inl (o4.blk d hd).1)
  have n5 := k05.next
  have r15 := k05.heap_of r1 tlt (by simp)
  have q15 := k05.heap_of q1 ult (by simp)
  rw [ptrW_ptr, fldW_ptr, storeW_at (i := 0 + 1) r15 (by simp) (SlR.cells o5.slR) (SlR.one o5.slR)]
  have k6 : Keep [t] M5 (M5.put t (.row ([AV.ptr s 0, v].set (0 + 1) dw) false TS 0)) := (Keep.refl _ _).put _ (.inr (by simp))
  have h6 : (M5.put t (.row ([AV.ptr s 0, v].set (0 + 1) dw) false TS 0)).heap t = some (.row [.ptr s 0, dw] false TS 0) := heap_put_eq _
  have g6 : ∃ w, (M5.put t (.row ([AV.ptr s 0, v].set (0 + 1) dw) false TS 0)).heap u = some (.row [.ptr s' 0, w] false TS 0) := by
    by_cases e : t = u
    · subst e
      rw [r1] at q1
      cases q1
      exact ⟨_, h6⟩
    · exact ⟨v', heap_put_ne q15 (fun h => e h.symm)⟩
  have st : t ≠ s := fun e => hst.nb (e ▸ r4)
  have o6 := o5.keep k6 (fun d hd hm => by
    simp at hm; subst hm
    have := (o5.blk _ hd).1
    omega)
  have n6 := k6.next
  have s6 := (r2.keep k05 (by simp) (by simp)).keep k6 (by simp; exact fun e => st e.symm) (fun d hd hS => by
    simp at hd; subst hd
    exact hst.nb (r2' _ hS))
  have t6 := (q2.keep k05 (by simp) (by simp)).keep k6 (by
    simp
    intro e
    exact hCt (e ▸ q4)) (fun d hd hS => by
    simp at hd; subst hd
    exact hCt (q2' _ hS))
  have k06 : Keep [t] M (M5.put t (.row ([AV.ptr s 0, v].set (0 + 1) dw) false TS 0)) := (k05.mono (by simp)).trans k6
  generalize M5.put t (.row ([AV.ptr s 0, v].set (0 + 1) dw) false TS 0) = M6 at *
  obtain ⟨w, g6⟩ := g6
  rw [ptrW_ptr, fld0, load1_at h6 rfl, ptrW_ptr, fld0, load1_at g6 rfl]
  have hne : ¬ S' s := fun h => by
    by_cases e : t = u
    · subst e
      rw [r1] at q1
      cases q1
      exact q2.nb h
    · exact hsep e s r4 (q2' s h)
  have hss : s = s' → ps = qs := fun e => by
    by_cases e' : t = u
    · exact (htu e').1
    · exact absurd (e ▸ q4) (hsep e' s r4)
  refine hj.use s6 t6 hss hne hi gi (by omega) fun M7 s7 k7 => ?_
  have n7 := k7.next
  have nb' : ¬ (B t ∨ M.next ≤ t) := fun h => by
    rcases h with h | h
    · exact hst.nb h
    · omega
  refine hQ s M7 r4 ⟨by omega, ⟨s, dw, k7.heap_of h6 (by omega) (by simp; exact st), ⟨_, s7, fun d hd => ?_⟩, SlR.keep o6.slR k7 (fun d hd hm => ?_), .inl r4, fun d hd => .inr (o5.blk d hd).1⟩, nb'⟩ ((k06.mono (by simp)).trans (k7.mono (by simp)))
  · rcases hd with hd | hd
    · exact .inl (r2' d hd)
    · exact .inr (by omega)
  · simp at hm; subst hm
    have := (o6.blk _ hd).1
    have := r2.lt
    omega
end Go.Ab.Crw
set_option maxRecDepth 10000
set_option linter.unusedVariables false
set_option linter.unusedSimpArgs false
namespace Go.Ab.Crw
open Go Go.Ab Go.Ab.Dot
theorem len_le_of_sub {α : Type} [DecidableEq α] : ∀ {xs ys : List α}, xs.Nodup → (∀ x ∈ xs, x ∈ ys) → xs.length ≤ ys.length
  | [], _, _, _ => Nat.zero_le _
  | x :: xs, ys, hn, hs => by
    have hx : x ∈ ys := hs x (by simp)
    rw [List.nodup_cons] at hn
    have := len_le_of_sub (xs := xs) (ys := ys.erase x) hn.2 fun y hy => (List.mem_erase_of_ne (by rintro rfl; exact hn.1 hy)).2 (hs y (by simp [hy]))
    rw [List.length_erase_of_mem hx] at this
    have h0 : 0 < ys.length := List.length_pos_of_mem hx
    simp
    omega
theorem more_has {k : Nat} {ps : List Pt} (h : SI k ps) {j x : Nat} (hj : j < 16) (hx : x ∈ (ps.getD j (0, [])).2) : hasS ps ((j : Int), x) = true := by
  have w := (h.at j).1
  have h1 := w.2.1 x hx
  have h2 := w.2.2.2.1 x hx
  rw [hasS, Bool.and_eq_true]
  refine ⟨?_, ?_⟩
  · simp only [good, Bool.and_eq_true, decide_eq_true_eq]
    omega
  · rw [hasP_iff]
    exact .inr (by simpa using hx)
theorem jl_few {k l : Nat} {ps qs : List Pt} (h1 : SI k ps) (h2 : SI l qs) {D : List Dot} (d1 : ∀ d, hasS ps d = true → d ∈ D) (d2 : ∀ d, hasS qs d = true → d ∈ D) {j : Nat} (hj : j < 16) : (jl (ps.getD j (0, [])) (qs.getD j (0, []))).length ≤ D.length := by
  obtain ⟨a1, a2, _⟩ := jl_props (ps.getD j (0, [])) (qs.getD j (0, []))
  have hn : ((jl (ps.getD j (0, [])) (qs.getD j (0, []))).map fun x => (((j : Int), x) : Dot)).Nodup := by
    rw [List.Nodup, List.pairwise_map]
    exact List.Pairwise.imp (fun {a b} (h : a < b) e => by cases e; omega) a1
  have := len_le_of_sub hn (ys := D) fun d hd => by
    obtain ⟨x, hx, rfl⟩ := List.mem_map.1 hd
    rcases (a2 x).1 hx with h | h
    · exact d1 _ (more_has h1 hj h)
    · exact d2 _ (more_has h2 hj h)
  rwa [List.length_map] at this
theorem joinPt_all {p q : Pt} (hp : WfP p) (hq : WfP q) (hl : (jl p q).length ≤ 4096) :
    WfP (joinPt sortN dd p q) ∧ (∀ x, hasP (joinPt sortN dd p q) x = true ↔ hasP p x = true ∨ hasP q x = true) ∧ (joinPt sortN dd p q).2.length ≤ (jl p q).length := by
  obtain ⟨h1, h2, h3⟩ := jl_props p q
  have he : joinPt sortN dd p q = Go.Ab.Dot.settle (max p.1 q.1) (jl p q) := rfl
  rw [he]
  have hpos : ∀ y ∈ jl p q, 1 ≤ y := fun y hy => by
    rcases (h2 y).1 hy with h | h
    · have := hp.2.1 y h; omega
    · have := hq.2.1 y h; omega
  have hle : ∀ y ∈ jl p q, y ≤ 1099511627776 := fun y hy => by
    rcases (h2 y).1 hy with h | h
    · exact hp.2.2.2.1 y h
    · exact hq.2.2.2.1 y h
  have hm : max p.1 q.1 ≤ 1099511627776 := by have := hp.2.2.1; have := hq.2.2.1; omega
  obtain ⟨s1, s2, s3, s4⟩ := settle_props (jl p q) (max p.1 q.1) 1099511627776 h1 hm hle
  have hsl := settle_len (max p.1 q.1) (jl p q)
  refine ⟨⟨s1, s2, s3, fun x hx => hle x (settle_mem hx), by omega⟩, fun x => ?_, by omega⟩
  rw [settle_has _ _ _ hpos, h2, hasP_iff, hasP_iff]
  constructor
  · rintro (h | h | h)
    · by_cases hx : x ≤ p.1
      · exact .inl (.inl ⟨h.1, hx⟩)
      · exact .inr (.inl ⟨h.1, by omega⟩)
    · exact .inl (.inr h)
    · exact .inr (.inr h)
  · rintro ((h | h) | (h | h))
    · exact .inl ⟨h.1, by omega⟩
    · exact .inr (.inl h)
    · exact .inl ⟨h.1, by omega⟩
    · exact .inr (.inr h)
theorem joinS_all {k l : Nat} {ps qs : List Pt} (h1 : SI k ps) (h2 : SI l qs) {D : List Dot} (hD : D.length ≤ 4096) (d1 : ∀ d, hasS ps d = true → d ∈ D) (d2 : ∀ d, hasS qs d = true → d ∈ D) :
    SI D.length (joinS ps qs) ∧ ∀ d, hasS (joinS ps qs) d = true ↔ hasS ps d = true ∨ hasS qs d = true := by
  have hlen : (joinS ps qs).length = 16 := by rw [joinS, joinT_len, h1.len]
  have at_ : ∀ {j : Nat}, j < 16 → _ := fun {j} hj => joinPt_all (h1.at j).1 (h2.at j).1 (Nat.le_trans (jl_few h1 h2 d1 d2 hj) hD)
  have all : ∀ p ∈ joinS ps qs, WfP p ∧ p.2.length ≤ D.length := fun p hp => by
    obtain ⟨i, hi, rfl⟩ := List.getElem_of_mem hp
    rw [hlen] at hi
    have e := joinS_at h1 h2 hi
    rw [getD_of (by omega)] at e
    rw [e]
    obtain ⟨r1, _, r3⟩ := at_ hi
    exact ⟨r1, Nat.le_trans r3 (jl_few h1 h2 d1 d2 hi)⟩
  refine ⟨⟨hlen, fun p hp => (all p hp).1, fun p hp => (all p hp).2⟩, fun d => ?_⟩
  simp only [hasS, Bool.and_eq_true]
  by_cases hg : good d = true
  · have hd := good_dev hg
    have e := (at_ (j := d.1.toNat) (by omega)).2.1 d.2
    rw [← joinS_at h1 h2 (by omega)] at e
    rw [e]
    constructor
    · rintro ⟨h, h' | h'⟩
      · exact .inl ⟨h, h'⟩
      · exact .inr ⟨h, h'⟩
    · rintro (⟨h, h'⟩ | ⟨h, h'⟩)
      · exact ⟨h, .inl h'⟩
      · exact ⟨h, .inr h'⟩
  · constructor
    · rintro ⟨h, _⟩; exact absurd h hg
    · rintro (⟨h, _⟩ | ⟨h, _⟩) <;> exact absurd h hg
def dotsOf (l : List Ev) : List Dot := l.flatMap fun x => x.1.1 :: x.2
theorem applyP_has {k : Nat} {ps : List Pt} {e : EvT} {ks : List Dot} (h : SI k ps) (hk : k + 65 < 4096) (hg : goodEv e ks = true) (d : Dot) : hasS (applyP ps e ks) d = true ↔ hasS ps d = true ∨ d ∈ e.1 :: ks := by
  obtain ⟨g1, g2, g3, _, _⟩ := goodEv_parts hg
  refine addAll_hasS h (by simp; omega) fun d hd => ?_
  rcases List.mem_cons.1 hd with rfl | hd
  · exact g1
  · exact g3 d hd
structure StU (s : St2) : Prop where
  seen : ∀ x ∈ s.2, hasS s.1 x.1 = true
  one : s.2.Pairwise fun x y => x.1 ≠ y.1
theorem StU.step {i : Nat} {s : St2} (h : StU s) (hi : StI i s) (hk : i ≤ 60) (x : Ev) : StU (stepS s x) := by
  unfold stepS
  split
  · rename_i hg
    have hm := applyP_has hi.si (by omega) hg
    refine ⟨fun y hy => ?_, ?_⟩
    · rw [hm]
      rcases (applyE_mem hy).2 with h2 | ⟨rfl, _⟩
      · exact .inl (h.seen y h2)
      · exact .inr (by simp [entOf])
    · show (applyE s.1 s.2 x.1 x.2).Pairwise _
      unfold applyE
      refine List.Pairwise.filter _ ?_
      split
      · rename_i hc
        simp only [Bool.and_eq_true, Bool.not_eq_true', decide_eq_true_eq] at hc
        refine (sortE_perm swo_ltE _).symm.pairwise ?_ (fun {a b} hab e => hab e.symm)
        rw [List.pairwise_append]
        refine ⟨h.one, by simp, fun a ha b hb e => ?_⟩
        simp only [List.mem_singleton] at hb
        subst hb
        have := h.seen a ha
        rw [e, show (entOf x.1).1 = x.1.1 from rfl, hc.2] at this
        cases this
      · exact h.one
  · exact h
theorem sortE_id {es : List Ent} (hu : UpE es) (h1 : es.Pairwise fun x y => x.1 ≠ y.1) : sortE ltE es = es := by
  refine (sortE_perm swo_ltE es).eq_of_pairwise (fun a b ha hb hab hba => ?_) (sortE_up swo_ltE es) hu
  have ha' := (sortE_perm swo_ltE es).mem_iff.1 ha
  have hk := ltE_tri hba hab
  have e := (of_decide_eq_true hk).2.2
  obtain ⟨i, hi, rfl⟩ := List.getElem_of_mem ha'
  obtain ⟨j, hj, rfl⟩ := List.getElem_of_mem hb
  have hp := List.pairwise_iff_getElem.1 h1
  rcases Nat.lt_trichotomy i j with h | h | h
  · exact absurd e (hp i j hi hj h)
  · subst h; rfl
  · exact absurd e.symm (hp j i hj hi h)
structure StB (a t : St2) : Prop where
  ents : ∀ x ∈ t.2, hasS a.1 x.1 = true → x ∈ a.2
  sets : ∀ d, hasS a.1 d = true → hasS t.1 d = true
theorem StB.step {i : Nat} {a t : St2} (h : StB a t) (hi : StI i t) (hk : i ≤ 60) (x : Ev) : StB a (stepS t x) := by
  unfold stepS
  split
  · rename_i hg
    have hm := applyP_has hi.si (by omega) hg
    refine ⟨fun y hy hs => ?_, fun d hd => (hm d).2 (.inl (h.sets d hd))⟩
    rcases (applyE_mem hy).2 with h2 | ⟨rfl, h2⟩
    · exact h.ents y h2 hs
    · have := h.sets _ hs
      rw [show (entOf x.1).1 = x.1.1 from rfl, h2] at this
      cases this
  · exact h
theorem run_more : ∀ (l : List Ev) (i : Nat) (a t : St2), StI i t → StU t → StB a t → i + l.length ≤ 60 → StI (i + l.length) (l.foldl stepS t) ∧ StU (l.foldl stepS t) ∧ StB a (l.foldl stepS t)
  | [], i, a, t, h1, h2, h3, _ => ⟨h1, h2, h3⟩
  | x :: l, i, a, t, h1, h2, h3, hl => by
    rw [List.length_cons] at hl
    have := run_more l (i + 1) a (stepS t x) (h1.step x) (h2.step h1 (by omega) x) (h3.step h1 (by omega) x) (by omega)
    rwa [show i + 1 + l.length = i + (x :: l).length by simp; omega] at this
theorem StU.empty : StU (emptyS, []) := ⟨by simp, .nil⟩
theorem runS_U {l : List Ev} (h : l.length ≤ 60) : StU (runS l) := (run_more l 0 (emptyS, []) _ StI.empty StU.empty ⟨by simp, fun d h => h⟩ (by omega)).2.1
theorem runS_B {l r : List Ev} (h : (l ++ r).length ≤ 60) : StB (runS l) (runS (l ++ r)) := by
  have h1 := runS_I l
  rw [List.length_append] at h
  have := (run_more r l.length (runS l) (runS l) h1 (runS_U (by omega)) ⟨fun x hx _ => hx, fun d h => h⟩ (by omega)).2.2
  unfold runS
  rw [List.foldl_append]
  exact this
theorem run_dots : ∀ (l : List Ev) (i : Nat) (t : St2), StI i t → i + l.length ≤ 60 → ∀ d, hasS (l.foldl stepS t).1 d = true → hasS t.1 d = true ∨ d ∈ dotsOf l
  | [], i, t, h1, _, d, hd => .inl hd
  | x :: l, i, t, h1, hl, d, hd => by
    rw [List.length_cons] at hl
    have e : dotsOf (x :: l) = (x.1.1 :: x.2) ++ dotsOf l := by simp [dotsOf]
    rw [e, List.mem_append]
    rcases run_dots l (i + 1) _ (h1.step x) (by omega) d hd with h | h
    · unfold stepS at h
      split at h
      · rename_i hg
        rcases (applyP_has h1.si (by omega) hg d).1 h with h | h
        · exact .inl h
        · exact .inr (.inl h)
      · exact .inl h
    · exact .inr (.inr h)
theorem empty_has (d : Dot) : hasS emptyS d = false := by
  rw [hasS, empty_getD]
  cases good d with
  | false => rfl
  | true =>
    simp only [Bool.true_and]
    unfold hasP
    simp
    omega
theorem runS_dots {l : List Ev} (h : l.length ≤ 60) (d : Dot) (hd : hasS (runS l).1 d = true) : d ∈ dotsOf l := by
  rcases run_dots l 0 _ StI.empty (by omega) d hd with h | h
  · rw [empty_has] at h; cases h
  · exact h
theorem keq_refl (x : Ent) : keq x x = true := decide_eq_true ⟨rfl, rfl, rfl⟩
theorem hasK_mem {es : List Ent} {x : Ent} (h : x ∈ es) : hasK es x = true := List.any_eq_true.2 ⟨x, h, keq_refl x⟩
theorem join_ahead {i : Nat} {a t : St2} (hb : StB a t) (ha : StU a) (ht : StU t) (hi : StI i t) : joinE t.1 a.1 t.2 a.2 = t.2 := by
  unfold joinE
  have e1 : t.2.filter (joinA a.1 a.2) = t.2 := List.filter_eq_self.2 fun x hx => by
    unfold joinA
    cases h : hasS a.1 x.1 with
    | true => rw [hasK_mem (hb.ents x hx h)]; rfl
    | false => simp
  have e2 : a.2.filter (joinB t.1 t.2) = [] := List.filter_eq_nil_iff.2 fun x hx => by
    unfold joinB
    rw [hb.sets _ (ha.seen x hx)]
    simp
  rw [e1, e2, List.append_nil]
  exact sortE_id hi.up ht.one
theorem ownStep_app (out : List Ev) (x : Ev) : ∃ r, ownStep out x = out ++ r := by
  unfold ownStep
  split
  · exact ⟨_, rfl⟩
  · exact ⟨[], by simp⟩
theorem ownFold_app : ∀ (l out : List Ev), ∃ r, l.foldl ownStep out = out ++ r
  | [], out => ⟨[], by simp⟩
  | x :: l, out => by
    obtain ⟨r, h⟩ := ownStep_app out x
    obtain ⟨r', h'⟩ := ownFold_app l (ownStep out x)
    exact ⟨r ++ r', by rw [List.foldl_cons, h', h, List.append_assoc]⟩
theorem ownP_prefix (l : List Ev) (c : Nat) : ∃ r, ownP l = ownP (l.take c) ++ r := by
  obtain ⟨r, h⟩ := ownFold_app (l.drop c) (ownP (l.take c))
  refine ⟨r, ?_⟩
  rw [← h, ownP, ownP, ← List.foldl_append, List.take_append_drop]
theorem ownP_length (l : List Ev) : (ownP l).length ≤ l.length := by
  have := ownP_len l l.length
  rwa [List.take_length] at this
end Go.Ab.Crw
set_option maxRecDepth 10000
set_option linter.unusedVariables false
set_option linter.unusedSimpArgs false
namespace Go.Ab.Crw
open Go Go.Ab Go.Ab.Dot
theorem dots_len : ∀ {l : List Ev}, (∀ x ∈ l, goodEv x.1 x.2 = true) → (dotsOf l).length ≤ 65 * l.length
  | [], _ => by simp [dotsOf]
  | x :: l, h => by
    have e : dotsOf (x :: l) = (x.1.1 :: x.2) ++ dotsOf l := by simp [dotsOf]
    have := dots_len (l := l) fun y hy => h y (by simp [hy])
    obtain ⟨_, g2, _, _, _⟩ := goodEv_parts (h x (by simp))
    rw [e, List.length_append, List.length_cons, List.length_cons]
    omega
theorem ordL_id (l : List Ev) : ordL l 0 false = l := by
  refine List.ext_getElem (ordL_len _ _ _) fun i h1 h2 => ?_
  rw [ordL_at h2]
  have : ordI l.length 0 false i = i := by
    unfold ordI
    rw [if_neg (by decide), Nat.add_zero, Nat.mod_eq_of_lt h2]
  simp only [this]
def CutV (M : RM) (v : AV) (l : List Ev) : Prop := ∀ k, k ≤ l.length → ∃ w, subS 7 v none (some (N .i64 (k : Int))) none = some w ∧ SlD EvR M w (l.take k) (fun d => d < M.next)
def CrdtGrowsC (B : Base) (c : CallT) : Prop := ∀ {M : RM} {v : AV} {l : List Ev} {n : Int} {Q : PostV}, M.base = B → SlD EvR M v l (fun d => d < M.next) → (∀ M', Keep [] M M' → CutV M' v l) → (∀ M', Q (Bo true) M') → c [v, N .i64 n] M Q
theorem crdtGrows_spec {B : Base} {TS T TE : Nat} {ca co cs cn cS cA cW cc cj cq : CallT} (ha : AwakeC B ca) (ho : OwnC TE co) (hs : StateC TS T cs) (hn : NewStC TS T cn) (hS : SeenC TS T cS) (hA : ApplyC TS T cA) (hW : WithinC T cW) (hc : CopyStC TS T cc) (hj : JoinStC TS T cj) (hq : SameStC TS T cq) :
    CrdtGrowsC B fun args M Q => ∃ a0 a1, args = [a0, a1] ∧ W_CrdtGrows ca co cs cn cS cA cW cc cj cq a0 a1 M Q := by
  intro M v l n Q hM hv hcut hQ
  refine ⟨_, _, rfl, ?_⟩
  unfold W_CrdtGrows
  simp only [fuseM, fuseK, fuseKM, fuseMK, joinW_shut]
  refine ha hM ?_
  rw [notW_Bo, Bool.not_true, condF, hv.len, intW_gtr]
  refine orM' (p := decide (n < 0)) (fun _ k hk => by rw [intW_lss]; exact hk) ?_
  refine orM' (p := decide (n > (l.length : Int))) (fun _ k hk => by rw [hv.len, intW_gtr]; exact hk) ?_
  refine condB (fun _ => hQ _) (fun hlen => ?_)
  simp only [Bool.or_eq_false_iff, decide_eq_false_iff_not] at hlen
  obtain ⟨⟨hl1, hl2⟩, hl3⟩ := hlen
  obtain ⟨c, rfl⟩ := Int.eq_ofNat_of_zero_le (show 0 ≤ n by omega)
  have hl40 : l.length ≤ 40 := by omega
  obtain ⟨w, hw, hsw⟩ := hcut M (Keep.refl _ _) c (by omega)
  refine ⟨w, hw, ?_⟩
  -- the state of those ahead of the cut
  refine ho hsw (by rw [List.length_take]; omega) fun w1 M1 hw1 k1 => ?_
  have hwl1 : (ownP (l.take c)).length ≤ 40 := by
    have := ownP_length (l.take c)
    rw [List.length_take] at this; omega
  refine hs (m := 0) hw1 (by omega) rfl (by omega) fun ta M2 hta sta k2 => ?_
  rw [ordL_id] at sta
  have n1 := k1.next
  have n2 := k2.next
  have talt := sta.lt
  refine hn fun t M3 ht st3 k3 => ?_
  have n3 := k3.next
  have k23 := k2.trans k3
  have k13 := k1.trans k23
  have sta3 := sta.keep k3 (by simp) (by simp)
  refine loopW_ind (fun z ys M4 => ∃ (i : Nat) (s : St2), z = l.length - i ∧ ys = [N .i64 (i : Int)] ∧ i ≤ l.length ∧ Keep [] M2 M4 ∧ StH TS T (fun d => M2.next ≤ d ∧ d < M4.next ∧ d ≠ t) M4 t s.1 s.2 ∧ StI i s) _
    ⟨0, (emptyS, []), rfl, rfl, Nat.zero_le _, k3, (st3.mono (B' := fun d => M2.next ≤ d ∧ d ≠ t) (fun d hd => ⟨hd.1, by omega⟩) (fun h => h.2 rfl)).below.mono (fun d hd => ⟨hd.1.1, hd.2, hd.1.2⟩) (fun h => h.2.2 rfl), StI.empty⟩ ?_
  rintro next z ys M4 hnext ⟨i, s, rfl, rfl, hi, k4, st4, sI⟩
  dsimp only [nthD]
  have k04 := (k1.trans k2).trans k4
  have hv4 : SlD EvR M4 v l (fun d => d < M.next) := hv.keep k04 (by simp)
  rw [hv4.len, lssN]
  refine condB (fun hlt => ?_) (fun hge => ?_)
  · have hlt : i < l.length := of_decide_eq_true hlt
    have n4 := k4.next
    refine hS st4 sI.si (by omega) fun q M5 hq5 set5 k5 => ?_
    have n5 := k5.next
    have q5 := set5.lt
    have st5 := st4.keep k5 (by simp) (by simp)
    have set5 := set5.below
    have hv5 : SlD EvR M5 v l (fun d => d < M.next) := hv4.keep k5 (by simp)
    obtain ⟨b, o, kv, hidx, hl7, _, hkv, hkb⟩ := ev_at hv5 hlt
    rw [hidx, hl7]
    have hne : t ∉ blkOf kv := fun h => by have := hkb t h; omega
    have t5 := st5.lt
    have t4 := st4.lt
    have hstep : ∀ M6, Keep [t] M5 M6 → StH TS T (fun d => M2.next ≤ d ∧ d < M6.next ∧ d ≠ t) M6 t (stepS s l[i]).1 (stepS s l[i]).2 → withinS s.1 (stepS s l[i]).1 = true →
        cS [.ptr t 0] M6 (fun t48 M_20 => cW [.ptr q 0, t48] M_20 fun t49 M_21 => notW t49 fun t50 => condW t50 (Q (Bo false) M_21) (intW .add (N .i64 (i : Int)) (N .i64 1) fun t37 => next [t37] M_21)) := by
      intro M6 k6 st6 hwi
      have n6 := k6.next
      refine hS st6 (sI.step l[i]).si (by omega) fun q' M7 hq7 set7 k7 => ?_
      have hb6 := set5.keep k6 (by simp; omega) (fun d hd hb => by simp at hd; omega)
      refine hW (hb6.keep k7 (by simp) (by simp)) set7 (fun p hp => (asc_of sI.si (by omega) p hp).2) (asc_of (sI.step l[i]).si (by omega)) fun M8 k8 => ?_
      rw [hwi, notW_Bo, Bool.not_true, condF, add1 (by omega)]
      have n7 := k7.next
      have n8 := k8.next
      have k48 : Keep [t] M4 M8 := (((k5.mono (by simp)).trans k6).trans (k7.mono (by simp))).trans (k8.mono (by simp))
      refine hnext _ _ _ (by omega) ⟨i + 1, stepS s l[i], rfl, rfl, by omega, k4.then_new k48 (fun d hd => by simp at hd; omega), ?_, sI.step l[i]⟩
      exact ((st6.keep k7 (by simp) (by simp)).keep k8 (by simp) (by simp)).mono (fun d hd => ⟨hd.1, by omega, hd.2.2⟩) (fun h => h.2.2 rfl)
    refine hA st5 sI.si (by omega) (by have := sI.few; omega) hkv hne (fun hb M6 k6 => ?_) (fun hg M6 st6 k6 => ?_)
    · have n6 := k6.next
      have e : stepS s l[i] = s := by
        unfold stepS
        rw [if_neg (by rw [hb]; decide)]
      refine hstep M6 (k6.mono (by simp)) ?_ (by rw [e]; exact withinS_refl _)
      rw [e]
      exact (st5.keep k6 (by simp) (by simp)).mono (fun d hd => ⟨hd.1, by omega, hd.2.2⟩) (fun h => h.2.2 rfl)
    · have n6 := k6.next
      have e : stepS s l[i] = (applyP s.1 l[i].1 l[i].2, applyE s.1 s.2 l[i].1 l[i].2) := by
        unfold stepS
        rw [if_pos hg]
      refine hstep M6 k6 ?_ ?_
      · rw [e]
        refine (st6.below.mono (fun d hd => ?_) (fun h => h.2.2 rfl))
        obtain ⟨h | h, h'⟩ := hd
        · exact ⟨h.1, h', h.2.2⟩
        · exact ⟨by omega, h', by omega⟩
      · refine (withinS_has sI.si.wf (sI.step l[i]).si.wf).2 fun d hd => ?_
        rw [e]
        exact (applyP_has sI.si (by omega) hg d).2 (.inl hd)
  have hie : i = l.length := by
    have : ¬ i < l.length := of_decide_eq_false hge
    omega
  clear hnext hge st4 sI
  have n4 := k4.next
  have hv4' : SlD EvR M4 v l (fun d => d < M4.next) := hv4.mono (fun d hd => by omega)
  refine ho hv4' (by omega) fun w5 M5 hw5 k5 => ?_
  have hwl := ownP_length l
  have hwg : ∀ x ∈ ownP l, goodEv x.1 x.2 = true := ownP_good l [] (by simp)
  obtain ⟨r, hr⟩ := ownP_prefix l c
  refine hs (m := 0) hw5 (by omega) rfl (by omega) fun u M6 hu stu k6 => ?_
  rw [ordL_id] at stu
  have iu := runS_I (ownP l)
  have ia := runS_I (ownP (l.take c))
  have uu := runS_U (l := ownP l) (by omega)
  have ua := runS_U (l := ownP (l.take c)) (by omega)
  have bb : StB (runS (ownP (l.take c))) (runS (ownP l)) := by
    have := runS_B (l := ownP (l.take c)) (r := r) (by rw [← hr]; omega)
    rwa [← hr] at this
  have hje := join_ahead bb ua uu iu
  have hD := dots_len hwg
  have dd1 := runS_dots (l := ownP l) (by omega)
  generalize runS (ownP l) = su at *
  generalize runS (ownP (l.take c)) = sa at *
  generalize ownP l = wl at *
  generalize ownP (l.take c) = wa at *
  obtain ⟨jI, jH⟩ := joinS_all iu.si ia.si (D := dotsOf wl) (by omega) dd1 (fun d hd => dd1 d (bb.sets d hd))
  have n5 := k5.next
  have n6 := k6.next
  have ult := stu.lt
  refine hc stu iu.si (by omega) (by have := iu.few; omega) fun x M7 hx stx k7 => ?_
  have n7 := k7.next
  have k27 := ((k4.trans k5).trans k6).trans k7
  have sta7 := sta.keep k27 (by simp) (by simp)
  refine hj stx sta7 (fun e => by omega) (fun _ d hd h => by omega) (by omega) (by omega) iu.si ia.si (by omega) (by omega) (by have := iu.few; have := ia.few; omega) iu.up ia.up fun s' M8 hs' stx8 k8 => ?_
  rw [hje] at stx8
  have n8 := k8.next
  have stu8 := (stu.keep k7 (by simp) (by simp)).keep k8 (by simp; omega) (fun d hd h => by simp at hd; omega)
  refine hq stx8 stu8 jI iu.si (by omega) (by omega) (by have := iu.few; omega) fun M9 k9 => ?_
  have w1 : withinS (joinS su.1 sa.1) su.1 = true := (withinS_has jI.wf iu.si.wf).2 fun d hd => by
    rcases (jH d).1 hd with h | h
    · exact h
    · exact bb.sets d h
  have w2 : withinS su.1 (joinS su.1 sa.1) = true := (withinS_has iu.si.wf jI.wf).2 fun d hd => (jH d).2 (.inl hd)
  have w3 : withinS sa.1 (joinS su.1 sa.1) = true := (withinS_has ia.si.wf jI.wf).2 fun d hd => (jH d).2 (.inr hd)
  rw [w1, w2, decide_eq_true rfl]
  refine andMP (P := fun _ => True) (p := true) trivial (fun _ k hk => ?_) fun M' _ => hQ M'
  have sta9 := (sta7.keep k8 (by simp; omega) (fun d hd h => by simp at hd; omega)).keep k9 (by simp) (by simp)
  refine hS sta9 ia.si (by omega) fun y M10 hy sety k10 => ?_
  have stx10 := (stx8.keep k9 (by simp) (by simp)).keep k10 (by simp) (by simp)
  refine hS stx10 jI (by omega) fun y' M11 hy' sety' k11 => ?_
  refine hW (sety.below.keep k11 (by simp) (by simp)) sety' (fun p hp => (asc_of ia.si (by omega) p hp).2) (asc_of jI (by omega)) fun M12 k12 => ?_
  rw [w3]
  exact hk M12 trivial
end Go.Ab.Crw
