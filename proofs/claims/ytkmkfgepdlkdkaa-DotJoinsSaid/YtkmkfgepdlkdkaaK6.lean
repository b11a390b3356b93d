/- Part 6 of the ground of the proofs of this seat (texts D10 to Q2). By an AI agent. -/
import Derived.Test.YtkmkfgepdlkdkaaK5
import Derived.Sort.AssemblyPlain
/- The document's list of dots; a set of a list: the walks. By an AI agent. -/
set_option maxRecDepth 10000
set_option linter.unusedVariables false
set_option linter.unusedSimpArgs false
namespace Go.Ab.Dot
open Go Go.Ab

def aheadB (a b : Dot) : Bool := decide (a.1 < b.1) || (decide (a.1 = b.1) && decide (a.2 < b.2))
def AheadC (c : CallT) : Prop := ∀ {M : RM} {a b : Dot} {Q : PostV}, (∀ M', Keep [] M M' → Q (Bo (aheadB a b)) M') → c [.agg (dcells a), .agg (dcells b)] M Q
theorem ahead_spec {T : Nat} : AheadC fun args M Q => ∃ a0 a1, args = [a0, a1] ∧ W_rolodex_rolodexref13_ahead T a0 a1 M Q := by
  intro M a b Q hQ
  refine ⟨_, _, rfl, ?_⟩
  unfold W_rolodex_rolodexref13_ahead
  simp only [fuseM]
  rw [boxW_agg rfl (by simp), newW_eq, boxW_agg rfl (by simp), newW_eq]
  have h1 : ((M.push (.row (dcells a) false T 0)).push (.row (dcells b) false T 0)).heap M.next = some (.row (dcells a) false T 0) := heap_push_lt (RM.push_new _) (by simp [RM.push])
  have h2 : ((M.push (.row (dcells a) false T 0)).push (.row (dcells b) false T 0)).heap (M.push (.row (dcells a) false T 0)).next = some (.row (dcells b) false T 0) := RM.push_new _
  have kk : Keep [] M ((M.push (.row (dcells a) false T 0)).push (.row (dcells b) false T 0)) := ((Keep.refl _ _).push _).push _
  generalize (M.push (.row (dcells a) false T 0)).next = m at *
  generalize (M.push (.row (dcells a) false T 0)).push (.row (dcells b) false T 0) = M1 at *
  have hQ := hQ M1 kk
  unfold aheadB at hQ
  obtain ⟨d, n⟩ := a
  obtain ⟨e, k⟩ := b
  simp only at hQ
  rw [fld0, load1_at h1 rfl, fld0, load1_at h2 rfl, intW_lss]
  by_cases hlt : d < e
  · rw [show decide (d < e) = true by simpa using hlt, guardM_TF]
    dsimp only
    rw [guardM_U]
    dsimp only
    rw [guardM_TF]
    dsimp only
    rw [pickT]
    simpa [hlt] using hQ
  · rw [show decide (d < e) = false by simpa using hlt, guardM_FF]
    dsimp only
    rw [fld0, load1_at h1 rfl, fld0, load1_at h2 rfl, intW_eql]
    by_cases he : d = e
    · rw [show (d == e) = true by simpa using he, guardM_TT]
      dsimp only
      rw [fld0, load1_at h1 rfl, fld0, load1_at h2 rfl, intW_lss, guardM_FF]
      dsimp only
      rw [pickT, pickF]
      rw [show decide ((n : Int) < (k : Int)) = decide (n < k) by simp]
      simpa [hlt, he] using hQ
    · rw [show (d == e) = false by simpa using he, guardM_FT]
      dsimp only
      rw [guardM_FF]
      dsimp only
      rw [pickF, pickF]
      simpa [hlt, he] using hQ

def RefHasC (c : CallT) : Prop := ∀ {M : RM} {v : AV} {l : List Dot} {d : Dot} {Q : PostV}, Sl DotE M v l → l.length ≤ 1000000 → (∀ M', Keep [] M M' → Q (Bo (decide (d ∈ l))) M') → c [v, .agg (dcells d)] M Q
theorem dot_eq (a b : Dot) : flatEq [1, 1] (dcells a) (dcells b) = some (decide (a = b)) := by
  obtain ⟨d, n⟩ := a
  obtain ⟨e, k⟩ := b
  simp only [flatEq_int, flatEq_nil]
  by_cases h1 : d = e
  · by_cases h2 : n = k
    · simp [h1, h2]
    · have : ¬ (n : Int) = (k : Int) := by omega
      simp [h1, h2, this]
  · simp [h1]
theorem refHas_spec {T : Nat} : RefHasC fun args M Q => ∃ a0 a1, args = [a0, a1] ∧ W_rolodex_rolodexref13_Has T a0 a1 M Q := by
  intro M v l d Q hs hl hQ
  refine ⟨_, _, rfl, ?_⟩
  unfold W_rolodex_rolodexref13_Has
  rw [boxW_agg rfl (by simp), newW_eq]
  have hh : (M.push (.row (dcells d) false T 0)).heap M.next = some (.row (dcells d) false T 0) := RM.push_new _
  have kk : Keep [] M (M.push (.row (dcells d) false T 0)) := (Keep.refl _ _).push _
  generalize M.push (.row (dcells d) false T 0) = M1 at *
  have s1 : Sl DotE M1 v l := SlR.keep hs kk (by simp)
  have hQ := hQ M1 kk
  refine loopW_ind (fun m ys M3 => ∃ (i : Nat), m = l.length - i ∧ ys = [N .i64 (i : Int)] ∧ i ≤ l.length ∧ M3 = M1 ∧ decide (d ∈ l) = decide (d ∈ l.drop i)) _
    ⟨0, rfl, rfl, Nat.zero_le _, rfl, rfl⟩ ?_
  rintro next m ys M3 hnext ⟨i, rfl, rfl, hi, rfl, hset⟩
  dsimp only [nthD]
  rw [SlR.len s1, intW_lss]
  refine condB (fun hlt => ?_) (fun hge => ?_)
  · have hlt : i < l.length := by simpa using hlt
    obtain ⟨b1, o1, _, _, hidx, hld⟩ := Sl.at (E := DotE) (i := i) s1 2 (i : Int) hlt rfl rfl
    rw [hidx, loadN_ptr]
    refine ⟨_, hld, ?_⟩
    rw [loadN_at (n := 2) hh rfl]
    change aggEqW false [1, 1] (.agg (dcells l[i])) (.agg (dcells d)) _
    rw [aggEqW_of rfl rfl (dot_eq l[i] d)]
    rw [List.drop_eq_getElem_cons hlt] at hset
    by_cases he : l[i] = d
    · rw [show (decide (l[i] = d) != false) = true by simp [he], condT]
      rw [hset, show decide (d ∈ l[i] :: l.drop (i + 1)) = true by simp [he]] at hQ
      exact hQ
    · rw [show (decide (l[i] = d) != false) = false by simp [he], condF, intW_add, i64_succ (by omega)]
      refine hnext _ _ _ (by omega) ⟨i + 1, rfl, rfl, by omega, rfl, ?_⟩
      rw [hset]
      have : d ≠ l[i] := fun h => he h.symm
      exact decide_eq_decide.2 ⟨fun h => (List.mem_cons.1 h).resolve_left this, fun h => List.mem_cons_of_mem _ h⟩
  · have he : i = l.length := by simp at hge; omega
    subst he
    rw [List.drop_length] at hset
    rw [hset] at hQ
    exact hQ

section
variable {α : Type} {E : Enc α}
/-- One's own slice, cut in two. -/
theorem own_cut {M : RM} {base T k : Nat} {v : AV} {xs : List α} (hE : 1 ≤ E.size) (ho : Ow E M base T v xs) (hk : k ≤ xs.length) :
    ∃ v1 v2, subS E.size v none (some (N .i64 (k : Int))) none = some v1 ∧ Sl E M v1 (xs.take k) ∧ subS E.size v (some (N .i64 (k : Int))) none none = some v2 ∧ Sl E M v2 (xs.drop k) ∧ (∀ d ∈ blkOf v1, d ∈ blkOf v) ∧ ∀ d ∈ blkOf v2, d ∈ blkOf v := by
  have hs := ho.slR
  generalize hcs : E.row xs = cs at *
  have ho' : Own M base T E.size v cs xs.length := by rw [← hcs]; exact ho
  have hl : cs.length = xs.length * E.size := by rw [← hcs, Enc.row_len]
  have hd : E.row (xs.drop k) = cs.drop (k * E.size) := by rw [← hcs, ← E.row_drop]
  have ht : E.row (xs.take k) = cs.take (k * E.size) := by rw [← hcs, ← E.row_take]
  have g1 : ∀ v', Sl E M v' (xs.take k) ↔ SlR M E.size v' (cs.take (k * E.size)) k := fun v' => by simp only [Sl]; rw [ht, List.length_take, Nat.min_eq_left hk]
  have g2 : ∀ v', Sl E M v' (xs.drop k) ↔ SlR M E.size v' (cs.drop (k * E.size)) (xs.length - k) := fun v' => by simp only [Sl]; rw [hd, List.length_drop]
  generalize hn : xs.length = n at *
  cases ho' with
  | nil =>
    have : k = 0 := by omega
    subst this
    exact ⟨nilS, nilS, by simp [subS, bnd], (g1 _).2 (by simp; exact .nil), by simp [subS, bnd], (g2 _).2 (by simp; exact .nil), by simp, by simp⟩
  | ex0 b o h1 h2 h3 =>
    have : k = 0 := by omega
    subst this
    have e0 : SlR M E.size (.slc b o 0 (.ex 0)) [] 0 := hs
    exact ⟨.slc b o 0 (.ex 0), .slc b o 0 (.ex 0), by simp [subS, bnd], (g1 _).2 (by simpa using e0), by simp [subS, bnd], (g2 _).2 (by simpa using e0), by simp [blkOf], by simp [blkOf]⟩
  | op b n cs h1 h2 h3 h4 =>
    have hload : ∀ o m, o + m ≤ cs.length → M.loads b o m = some ((cs.drop o).take m) := fun o m h => RM.loads_row h3 h
    have hmul : k * E.size ≤ n * E.size := Nat.mul_le_mul_right _ hk
    by_cases hn0 : n = 0
    · have hk0 : k = 0 := by omega
      subst hk0 hn0
      have hc0 : cs = [] := List.length_eq_zero_iff.1 (by simpa using h4)
      subst hc0
      exact ⟨.emp b, .emp b, by simp [subS, bnd], (g1 _).2 (by simp; exact .emp b), by simp [subS, bnd], (g2 _).2 (by simp; exact .emp b), by simp [blkOf], by simp [blkOf]⟩
    · have p1 : SlR M E.size (.slc b (0 + 0 * E.size) (k - 0) (.op E.size)) (cs.take (k * E.size)) k := by
        rw [Nat.sub_zero, Nat.zero_mul]
        refine .slc _ _ _ _ _ h2 ?_
        have := hload 0 (k * E.size) (by omega)
        simpa using this
      by_cases hkn : n ≤ k
      · refine ⟨.slc b (0 + 0 * E.size) (k - 0) (.op E.size), .emp b, by simp only [subS, bnd]; simp [hk, hn0], (g1 _).2 p1, by simp only [subS, bnd]; simp [hk, hkn], (g2 _).2 ?_, by simp [blkOf], by simp [blkOf]⟩
        have : k = n := by omega
        subst this
        rw [Nat.sub_self, List.drop_of_length_le (by omega)]
        exact .emp b
      · refine ⟨.slc b (0 + 0 * E.size) (k - 0) (.op E.size), .slc b (0 + k * E.size) (n - k) (.op E.size), by simp only [subS, bnd]; simp [hk, hn0], (g1 _).2 p1, by simp only [subS, bnd]; simp [hk, hkn], (g2 _).2 ?_, by simp [blkOf], by simp [blkOf]⟩
        refine .slc _ _ _ _ _ h2 ?_
        have hs2 : k * E.size + (n - k) * E.size = n * E.size := by rw [← Nat.add_mul]; congr 1; omega
        rw [Nat.zero_add, hload (k * E.size) ((n - k) * E.size) (by omega), List.take_of_length_le (by simp; omega)]
end

def atL (d : Dot) (l : List Dot) : Nat := (l.takeWhile (fun x => aheadB x d)).length
def addL (l : List Dot) (d : Dot) : List Dot := if d ∈ l then l else l.take (atL d l) ++ d :: l.drop (atL d l)
theorem addL_len (l : List Dot) (d : Dot) : (addL l d).length ≤ l.length + 1 := by
  unfold addL
  split
  · omega
  · simp; omega
theorem atL_char {d : Dot} : ∀ {l : List Dot} {i : Nat}, i ≤ l.length → (∀ k (hk : k < l.length), k < i → aheadB l[k] d = true) → (∀ (hi : i < l.length), aheadB l[i] d = false) → atL d l = i
  | [], i, h, _, _ => by simp at h; subst h; rfl
  | x :: l, 0, _, _, h2 => by
    have := h2 (by simp)
    simp only [List.getElem_cons_zero] at this
    simp [atL, this]
  | x :: l, i + 1, h, h1, h2 => by
    have hx := h1 0 (by simp) (by omega)
    simp only [List.getElem_cons_zero] at hx
    have := atL_char (d := d) (l := l) (i := i) (by simpa using h) (fun k hk hki => by have := h1 (k + 1) (by simp; omega) (by omega); simpa using this) (fun hi => by have := h2 (by simp; omega); simpa using this)
    unfold atL at this ⊢
    rw [List.takeWhile_cons_of_pos (p := fun x => aheadB x d) hx, List.length_cons, this]
def RefAddC (T : Nat) (c : CallT) : Prop := ∀ {M : RM} {base : Nat} {v : AV} {l : List Dot} {d : Dot} {Q : PostV}, Ow DotE M base T v l → base ≤ M.next → l.length ≤ 100000 → (∀ v' M', Ow DotE M' base T v' (addL l d) → Keep [] M M' → Q v' M') → c [v, .agg (dcells d)] M Q
theorem refAdd_spec {T : Nat} {ch ca : CallT} (hh : RefHasC ch) (ha : AheadC ca) : RefAddC T fun args M Q => ∃ a0 a1, args = [a0, a1] ∧ W_rolodex_rolodexref13_Add T ch ca a0 a1 M Q := by
  intro M base v l d Q ho hb hl hQ
  refine ⟨_, _, rfl, ?_⟩
  unfold W_rolodex_rolodexref13_Add
  simp only [fuseK, fuseKM]
  rw [boxW_agg rfl (by simp), newW_eq, loadN_at (n := 2) (RM.push_new _) rfl]
  have h3 : (M.push (.row (dcells d) false T 0)).heap M.next = some (.row (dcells d) false T 0) := RM.push_new _
  have k1 : Keep [] M (M.push (.row (dcells d) false T 0)) := (Keep.refl _ _).push _
  have n1 : (M.push (.row (dcells d) false T 0)).next = M.next + 1 := rfl
  generalize M.push (.row (dcells d) false T 0) = M1 at *
  have ho1 := ho.keep k1 (by simp)
  refine hh ho1.slR (by omega) fun M2 k2 => ?_
  have k12 := k1.trans k2
  have n2 := k2.next
  have ho2 := ho1.keep k2 (by simp)
  have h3 := k2.heap_of h3 (by omega) (by simp)
  unfold addL at hQ
  refine condB (fun hm => ?_) (fun hm => ?_)
  · have hm : d ∈ l := of_decide_eq_true hm
    rw [if_pos hm] at hQ
    exact hQ v M2 ho2 k12
  · have hm : ¬ d ∈ l := of_decide_eq_false hm
    rw [if_neg hm] at hQ
    refine loopW_ind (fun m ys M3 => ∃ (i : Nat), m = l.length - i ∧ ys = [N .i64 (i : Int)] ∧ i ≤ l.length ∧ Keep [] M2 M3 ∧ ∀ k (hk : k < l.length), k < i → aheadB l[k] d = true) _
      ⟨0, rfl, rfl, Nat.zero_le _, Keep.refl _ _, fun k hk h => by omega⟩ ?_
    rintro next m ys M3 hnext ⟨i, rfl, rfl, hi, k3, hah⟩
    dsimp only [nthD]
    have k13 := k12.trans k3
    have ho3 := ho2.keep k3 (by simp)
    have s3 : Sl DotE M3 v l := ho3.slR
    have n3 := k3.next
    have h33 := k3.heap_of h3 (by omega) (by simp)
    -- the end: the list anew
    have fin : ∀ M3, Keep [] M2 M3 → atL d l = i → (rowsW T 0 [(N .i64 0), (N .u64 0)] [] fun r_22 f_23 => newR r_22 f_23 M3 fun t24 M_24 b_25 => getW (subS 2 v none (some (N .i64 (i : Int))) none) fun t27 => loadN M_24 (.ptr M.next 0) 2 fun t29 =>
        rowsW T 1 [(N .i64 0), (N .u64 0)] [(0, 2, t29)] fun r_26 f_27 => newR r_26 f_27 M_24 fun t30 M_28 b_29 => getW (subS 2 v (some (N .i64 (i : Int))) none none) fun t34 => appW T 2 16 [(N .i64 0), (N .u64 0)] false t24 t27 M_28 fun t28 M_30 =>
        loadN M_30 (.ptr M.next 0) 2 fun t29_37 => (t29_37 = t29 ∧ rowsW T 1 [(N .i64 0), (N .u64 0)] [(0, 2, t29)] fun r_35 f_36 => (sameB b_29 M_30 r_35 f_36 t30 ∧ getW (subS 2 v (some (N .i64 (i : Int))) none none) fun t34_34 => (t34_34 = t34 ∧ appW T 2 16 [(N .i64 0), (N .u64 0)] false t28 t30 M_30 fun t31 M_31 =>
        getW (subS 2 v (some (N .i64 (i : Int))) none none) fun t34_33 => (t34_33 = t34 ∧ appW T 2 16 [(N .i64 0), (N .u64 0)] false t31 t34 M_31 fun t35 M_32 => Q t35 M_32))))) := fun M3 k3 hat => by
      have k13 := k12.trans k3
      have ho3 := ho2.keep k3 (by simp)
      have n3 := k3.next
      have h33 := k3.heap_of h3 (by omega) (by simp)
      obtain ⟨v1, v2, e1, s1, e2, s2, hb1, hb2⟩ := own_cut (E := DotE) (k := i) (by decide) ho3 hi
      have e1 : subS 2 v none (some (N .i64 (i : Int))) none = some v1 := e1
      have e2 : subS 2 v (some (N .i64 (i : Int))) none none = some v2 := e2
      have hvb := ho3.blk
      rw [rows0, newR_eq, e1, getW_some]
      have o4 : Ow DotE (M3.push (.row [] false T 0)) M3.next T (.slc M3.next 0 0 (.ex 0)) [] := Ow.lit DotE M3
      have k4 : Keep [] M3 (M3.push (.row [] false T 0)) := (Keep.refl _ _).push _
      have n4 : (M3.push (.row [] false T 0)).next = M3.next + 1 := rfl
      generalize M3.push (.row [] false T 0) = M4 at *
      have h4 := k4.heap_of h33 (by omega) (by simp)
      rw [loadN_at (n := 2) h4 rfl, rows1 (x := .agg (dcells d)) (size := 2) rfl rfl rfl, newR_eq, e2, getW_some]
      have h5 : (M4.push (.row (AV.agg (dcells d)).cells false T 0)).heap M4.next = some (.row (dcells d) false T 0) := RM.push_new _
      have k5 : Keep [] M4 (M4.push (.row (AV.agg (dcells d)).cells false T 0)) := (Keep.refl _ _).push _
      have n5 : (M4.push (.row (AV.agg (dcells d)).cells false T 0)).next = M4.next + 1 := rfl
      generalize M4.push (.row (AV.agg (dcells d)).cells false T 0) = M5 at *
      have k45 := k4.trans k5
      refine app_all (E := DotE) (ys := l.take i) (o4.keep k5 (by simp)) (by omega) (by decide) (SlR.keep s1 k45 (by simp)) (by simp; omega) (by simp; omega) ?_
      intro v6 M6 o6 k6 n6 _
      have hk6 : ∀ c, c < M3.next → c ∉ blkOf (.slc M3.next 0 0 (.ex 0)) := fun c hc hm => by simp [blkOf] at hm; omega
      have h6 := k6.heap_of (k5.heap_of h4 (by omega) (by simp)) (by omega) (hk6 _ (by omega))
      have h66 := k6.heap_of h5 (by omega) (by simp [blkOf]; omega)
      rw [loadN_at (n := 2) h6 rfl]
      refine ⟨rfl, ?_⟩
      rw [rows1 (x := .agg (dcells d)) (size := 2) rfl rfl rfl]
      refine ⟨⟨h66, rfl⟩, ?_⟩
      rw [getW_some]
      refine ⟨rfl, ?_⟩
      rw [List.nil_append] at o6
      have sd : Sl DotE M6 (.slc M4.next 0 1 (.ex 1)) [d] := .slc _ _ _ _ _ (by omega) (by rw [RM.loads_row h66 (by show 0 + 1 * 2 ≤ 2; omega)]; rfl)
      refine app_all (E := DotE) (ys := [d]) o6 (by omega) (by decide) sd (by simp; omega) (by simp; omega) ?_
      intro v7 M7 o7 k7 n7 _
      rw [getW_some]
      refine ⟨rfl, ?_⟩
      have hv6 := o6.blk
      have hv7 := o7.blk
      have s27 : Sl DotE M7 v2 (l.drop i) := by
        refine SlR.keep (SlR.keep (SlR.keep s2 k45 (by simp)) k6 fun c hc => ?_) k7 fun c hc hm => ?_
        · exact hk6 c (hvb c (hb2 c hc)).2
        · have := (hv6 c hm).1
          have := (hvb c (hb2 c hc)).2
          omega
      refine app_all (E := DotE) (ys := l.drop i) o7 (by omega) (by decide) s27 (by simp; omega) (by simp; omega) ?_
      intro v8 M8 o8 k8 n8 _
      refine hQ v8 M8 ?_ ?_
      · rw [hat]
        have := o8.mono (base' := base) (by have := k13.next; omega)
        have e : l.take i ++ [d] ++ l.drop i = l.take i ++ d :: l.drop i := by simp
        rw [e] at this
        exact this
      · have a1 : Keep [] M M5 := k13.trans k45
        have := k13.next
        refine ((a1.then_new k6 fun c hc => .inl (by simp [blkOf] at hc; omega)).then_new k7 fun c hc => .inl (by have := (hv6 c hc).1; omega)).then_new k8 fun c hc => .inl (by have := (hv7 c hc).1; omega)
    rw [SlR.len s3, intW_lss]
    by_cases hlt : i < l.length
    · rw [show decide ((i : Int) < (l.length : Int)) = true by simpa using hlt, guardM_TT]
      dsimp only
      obtain ⟨b1, o1, _, _, hidx, hld⟩ := Sl.at (E := DotE) (i := i) s3 2 (i : Int) hlt rfl rfl
      rw [hidx, loadN_ptr]
      refine ⟨_, hld, ?_⟩
      rw [loadN_at (n := 2) h33 rfl]
      refine ha fun M4 k4 => ?_
      rw [pickT]
      refine condB (fun hg => ?_) (fun hg => ?_)
      · rw [intW_add, i64_succ (by omega)]
        refine hnext _ _ _ (by omega) ⟨i + 1, rfl, rfl, by omega, k3.trans k4, fun k hk hki => ?_⟩
        rcases Nat.lt_or_ge k i with h | h
        · exact hah k hk h
        · have : k = i := by omega
          subst this; exact hg
      · exact fin M4 (k3.trans k4) (atL_char hi hah fun _ => hg)
    · rw [show decide ((i : Int) < (l.length : Int)) = false by simp; omega, guardM_FT]
      dsimp only
      rw [pickF, condF]
      exact fin M3 k3 (atL_char hi hah fun h => absurd h hlt)
end Go.Ab.Dot
/- A set of a list; bytes that are read again; the statement of bytes: the walks. By an AI agent. -/
set_option maxRecDepth 10000
set_option linter.unusedVariables false
set_option linter.unusedSimpArgs false
namespace Go.Ab.Dot
open Go Go.Ab

/-- One dot of a list goes into the set and into the document's list. -/
def ofStep (p : List Pt × List Dot) (d : Dot) : List Pt × List Dot := ((addS p.1 d).2, if (addS p.1 d).1 = 0 then addL p.2 d else p.2)
def ofP (l : List Dot) : List Pt × List Dot := l.foldl ofStep (emptyS, [])
theorem empty_wf : ∀ p ∈ emptyS, WfP p := fun p hp => by
  simp only [emptyS, List.mem_replicate] at hp
  rw [hp.2]
  exact ⟨.nil, fun x hx => by simp at hx, Nat.zero_le _, fun x hx => by simp at hx, Nat.zero_le _⟩
theorem getD_wf {ps : List Pt} (h : ∀ p ∈ ps, WfP p) (i : Nat) : WfP (ps.getD i (0, [])) := by
  rw [List.getD_eq_getElem?_getD]
  by_cases hj : i < ps.length
  · rw [List.getElem?_eq_getElem hj]
    exact h _ (List.getElem_mem hj)
  · rw [List.getElem?_eq_none (by omega)]
    exact ⟨.nil, fun x hx => by simp at hx, Nat.zero_le _, fun x hx => by simp at hx, Nat.zero_le _⟩
theorem addS_wf {ps : List Pt} {d : Dot} (h : ∀ p ∈ ps, WfP p) : ∀ p ∈ (addS ps d).2, WfP p := by
  unfold addS
  split
  · rename_i hg
    split
    · intro p hp
      rcases List.mem_or_eq_of_mem_set hp with hp | rfl
      · exact h p hp
      · refine addP_wf (getD_wf h _) ?_
        simp only [good, Bool.and_eq_true, decide_eq_true_eq] at hg
        exact hg.2
    · exact h
  · exact h

def OfC (TS TD : Nat) (c : CallT) : Prop := ∀ {M : RM} {v : AV} {l : List Dot} {Q : PostV}, Sl DotE M v l → l.length ≤ 10000 →
  (∀ s w M', M.next ≤ s → SetH TS (fun e => s < e) M' s (ofP l).1 → (∀ p ∈ (ofP l).1, WfP p) → Ow DotE M' (s + 1) TD w (ofP l).2 → (ofP l).2.length ≤ l.length → Keep [] M M' → Q (.tup [.ptr s 0, w]) M') → c [v] M Q
theorem of_spec {TS TD : Nat} {cn ca cr : CallT} (hn : NewC TS cn) (ha : AddSC TS ca) (hr : RefAddC TD cr) : OfC TS TD fun args M Q => ∃ a0, args = [a0] ∧ W_rolodex_rolodexlaw13_of cn ca cr a0 M Q := by
  intro M v l Q hs hl hQ
  refine ⟨_, rfl, ?_⟩
  unfold W_rolodex_rolodexlaw13_of
  simp only [joinW_shut]
  refine hn fun M1 hs1 k1 n1 => ?_
  generalize hsn : M.next = s at *
  refine loopW_ind (fun m ys M3 => ∃ (i : Nat) (w : AV) (p : List Pt × List Dot), m = l.length - i ∧ ys = [w, N .i64 (i : Int)] ∧ i ≤ l.length ∧ Keep [] M M3 ∧ s < M3.next ∧ SetH TS (fun e => s < e) M3 s p.1 ∧ (∀ q ∈ p.1, WfP q) ∧ Ow DotE M3 (s + 1) TD w p.2 ∧ p.2.length ≤ i ∧
      ofP l = (l.drop i).foldl ofStep p) _
    ⟨0, nilS, (emptyS, []), rfl, rfl, Nat.zero_le _, k1, by omega, hs1.mono (fun _ h => h.elim) (by omega), empty_wf, .nil, Nat.le_refl _, rfl⟩ ?_
  rintro next m ys M3 hnext ⟨i, w, p, rfl, rfl, hi, k3, n3, hs3, hw3, ho3, hpl, hof⟩
  dsimp only [nthD]
  have s3 : Sl DotE M3 v l := SlR.keep hs k3 (by simp)
  rw [SlR.len s3, intW_lss]
  refine condB (fun hlt => ?_) (fun hge => ?_)
  · have hlt : i < l.length := by simpa using hlt
    rw [List.drop_eq_getElem_cons hlt, List.foldl_cons] at hof
    refine joinV_spec (fun zs M' => ∃ w', zs = [w'] ∧ Keep [] M M' ∧ s < M'.next ∧ SetH TS (fun e => s < e) M' s (ofStep p l[i]).1 ∧ (∀ q ∈ (ofStep p l[i]).1, WfP q) ∧ Ow DotE M' (s + 1) TD w' (ofStep p l[i]).2 ∧ (ofStep p l[i]).2.length ≤ i + 1) ?_ ?_
    · rintro zs M' ⟨w', rfl, b1, b2, b3, b4, b5, b6⟩
      dsimp only [nthD]
      rw [intW_add, i64_succ (by omega)]
      exact hnext _ _ _ (by omega) ⟨i + 1, w', _, rfl, rfl, by omega, b1, b2, b3, b4, b5, b6, hof⟩
    intro J hJ
    obtain ⟨b1, o1, _, _, hidx, hld⟩ := Sl.at (E := DotE) (i := i) s3 2 (i : Int) hlt rfl rfl
    rw [hidx, loadN_ptr]
    refine ⟨_, hld, ?_⟩
    refine ha hs3 hw3 fun M4 hs4 k4 => ?_
    have n4 := k4.next
    have k34 : Keep [] M M4 := k3.then_new k4 (by simp; omega)
    have hs4' : SetH TS (fun e => s < e) M4 s (addS p.1 l[i]).2 := hs4.mono (fun e h => by rcases h with h | h <;> omega) (by omega)
    have ho4 := ho3.keep k4 (fun b hb hm => by have := (ho3.blk b hb).1; simp at hm; omega)
    have hw4 := addS_wf (d := l[i]) hw3
    rw [intW_eql]
    refine condB (fun he => ?_) (fun he => ?_)
    · have he : (addS p.1 l[i]).1 = 0 := by simpa using he
      have s4 : Sl DotE M4 v l := SlR.keep hs k34 (by simp)
      obtain ⟨b2, o2, _, _, hidx2, hld2⟩ := Sl.at (E := DotE) (i := i) s4 2 (i : Int) hlt rfl rfl
      rw [hidx2, loadN_ptr]
      refine ⟨_, hld2, ?_⟩
      refine hr ho4 (by omega) (by omega) fun w' M5 ho5 k5 => ?_
      have n5 := k5.next
      refine hJ _ _ ⟨w', rfl, k34.trans k5, by omega, ?_, hw4, ?_, ?_⟩
      · exact hs4'.keep k5 (by simp) (by simp)
      · rw [ofStep]; simp only [he, if_true]; exact ho5
      · rw [ofStep]; simp only [he, if_true]
        have := addL_len p.2 l[i]
        omega
    · have he : ¬ (addS p.1 l[i]).1 = 0 := by simpa using he
      refine hJ _ _ ⟨w, rfl, k34, by omega, hs4', hw4, ?_, ?_⟩
      · rw [ofStep]; simp only [he, if_false]; exact ho4
      · rw [ofStep]; simp only [he, if_false]; omega
  · have he : i = l.length := by simp at hge; omega
    subst he
    rw [List.drop_length, List.foldl_nil] at hof
    subst hof
    exact hQ s w M3 (Nat.le_refl _) hs3 hw3 ho3 hpl k3

theorem guardP_TT {f g : Prop → Prop} {k : Prop} : guardP (Bo true) true f g k = f k := rfl
def BytesC (c : CallT) : Prop := ∀ {M : RM} {v : AV} {bs : List UInt8} {Q : PostV}, Sl BY M v bs → bs.length ≤ 140737488355328 → (∀ M', Keep [] M M' → Q (Bo true) M') → c [v] M Q
theorem decode_enc {bs : List UInt8} {ps : List Pt} (h : decode bs = some ps) : encS ps = bs := by
  unfold decode at h
  split at h
  · cases h
  · split at h
    · cases h
    · rename_i h2
      cases h
      exact Classical.byContradiction fun hn => h2 (.inr (.inr (.inr hn)))
theorem bytes_spec {TS TU TB : Nat} {cd ce : CallT} (hd : DecodeC TS TU cd) (he : EncodeC TS TB ce) : BytesC fun args M Q => ∃ a0, args = [a0] ∧ W_rolodex_rolodexlaw13_bytes cd ce a0 M Q := by
  intro M v bs Q hs hl hQ
  refine ⟨_, rfl, ?_⟩
  unfold W_rolodex_rolodexlaw13_bytes
  simp only [fuseM, fuseK, fuseKM, fuseMK]
  refine hd hs hl (fun hnone M1 k1 => ?_) fun ps hsome hbi s M1 hs0 hso k1 => ?_
  · rw [extW0, extW1, intW_neq, show ((14 : Int) != 0) = true from rfl, condT, intW_eql, show ((14 : Int) == 14) = true from rfl, guardM_TT]
    dsimp only
    rw [refEqW_nilp_nil, pickT]
    exact hQ M1 k1
  · rw [extW0, extW1, intW_neq, show ((0 : Int) != 0) = false from rfl, condF, refEqW_ptr_nil]
    have s1 : Sl BY M1 v bs := SlR.keep hs k1 (by simp)
    rw [guardK_TT]
    dsimp only
    rw [guardK_TT]
    dsimp only
    rw [guardK_TT, Sl.str s1]
    dsimp only
    rw [guardM_TT]
    dsimp only
    refine he hso.setH (fun p hp => ⟨by have := (hbi p hp).1; omega, by have := (hbi p hp).2.1; omega, fun x hx => by have := (hbi p hp).2.2 x hx; omega⟩) fun w M2 ho2 hl2 k2 => ?_
    have k12 := k1.trans k2
    have s2 : Sl BY M2 v bs := SlR.keep hs k12 (by simp)
    rw [guardP_TT, Sl.str s2]
    refine ⟨rfl, ?_⟩
    rw [guardK_TT, Sl.str (Own.sl ho2), strW_eql, decode_enc hsome]
    dsimp only
    rw [pickT, show (bs == bs) = true by simp]
    exact hQ M2 k12

theorem Own.op_pos {M : RM} {base el size n : Nat} {v : AV} {cs : List AV} (h : Own M base el size v cs n) (hn : 0 < n) : ∃ b, v = .slc b 0 n (.op size) ∧ base ≤ b ∧ b < M.next ∧ M.heap b = some (.row cs true el 0) ∧ cs.length = n * size := by
  cases h with
  | nil => omega
  | ex0 => omega
  | op b n cs h1 h2 h3 h4 => exact ⟨b, rfl, h1, h2, h3, h4⟩
/-- The statement of bytes. -/
def DotBytesC (B : Base) (c : CallT) : Prop := ∀ {M : RM} {v w : AV} {bs : List UInt8} {l : List Dot} {n : Int} {k : UInt8} {Q : PostV}, M.base = B → Sl BY M v bs → bs.length ≤ 140737488355328 → Sl DotE M w l →
  (∀ M', Q (Bo true) M') → c [v, w, N .i64 n, By k] M Q
theorem ofP_bd {l : List Dot} (h : ∀ p ∈ (ofP l).1, WfP p) : ∀ p ∈ (ofP l).1, Bd p := fun p hp => (h p hp).bd
theorem dotBytes_spec {B : Base} {TS TD TB : Nat} {ca cb co ce : CallT} (ha : AwakeC B ca) (hb : BytesC cb) (ho : OfC TS TD co) (he : EncodeC TS TB ce) : DotBytesC B fun args M Q => ∃ a0 a1 a2 a3, args = [a0, a1, a2, a3] ∧ W_rolodex_rolodexlaw13_DotBytes ca cb co ce a0 a1 a2 a3 M Q := by
  intro M v w bs l n k Q hM hs hl hw hQ
  refine ⟨_, _, _, _, rfl, ?_⟩
  unfold W_rolodex_rolodexlaw13_DotBytes
  simp only [fuseM, joinW_eq]
  refine ha hM ?_
  rw [notW_Bo, Bool.not_true, guardM_FF]
  dsimp only
  refine hb hs hl fun M1 k1 => ?_
  rw [notW_Bo, Bool.not_true, pickF, condF]
  have w1 : Sl DotE M1 w l := SlR.keep hw k1 (by simp)
  rw [SlR.len w1, intW_gtr]
  refine condB (fun _ => hQ M1) (fun hle => ?_)
  have hle : l.length ≤ 40 := by
    have : ¬ ((l.length : Nat) : Int) > 40 := of_decide_eq_false hle
    omega
  refine ho w1 (by omega) fun s u M2 hsn hset hwf how hul k2 => ?_
  rw [extW0, extW1]
  refine he hset (ofP_bd hwf) fun c M3 hc hcl k3 => ?_
  have s3 := Own.sl hc
  generalize encS (ofP l).1 = L at *
  have fin : ∀ M4 L', Sl BY M4 c L' → L'.length ≤ 200000000 → cb [c] M4 fun t47 M_22 => Q t47 M_22 := fun M4 L' h4 hl4 => hb h4 (by omega) fun M5 _ => hQ M5
  rw [intW_geq]
  by_cases hn : n ≥ 0
  · rw [show decide (n ≥ 0) = true by simpa using hn, guardM_TT]
    dsimp only
    rw [SlR.len s3, intW_lss, pickT]
    refine condB (fun hlt => ?_) (fun _ => fin M3 L s3 (by omega))
    have hlt : n < (L.length : Int) := of_decide_eq_true hlt
    obtain ⟨i, rfl⟩ := Int.eq_ofNat_of_zero_le hn
    have hi : i < L.length := by omega
    generalize hLL : bytesC L = cs at *
    have hcsl : cs.length = L.length := by rw [← hLL]; simp
    obtain ⟨b, rfl, h1, h2, h3, h4⟩ := Own.op_pos hc (by omega)
    · skip
      have hci : cs[i]? = some (N .u8 (L[i].toNat : Int)) := by rw [← hLL]; simp [hi]
      have hidx : ∀ (K : AV → Prop), idxS (.slc b 0 L.length (.op 1)) (N .i64 (i : Int)) 1 K = K (.ptr b i) := fun K => by
        rw [idxS_slc]
        simp only [Int.toNat_natCast]
        rw [show 0 + i * 1 = i by omega]
        exact propext ⟨fun h => h.2.2, fun h => ⟨by omega, by omega, h⟩⟩
      rw [hidx, load1_at h3 hci, intW_xor, hidx, storeW_at h3 (by omega) rfl rfl]
      have hx : N .u8 (xorI .u8 (L[i].toNat : Int) (k.toNat : Int)) = By (L[i] ^^^ k) := by
        rw [xorI_nat rfl]
        simp only [ubits]
        congr 2
        rw [UInt8.toNat_xor, Nat.mod_eq_of_lt]
        exact Nat.xor_lt_two_pow (u8_lt _) (u8_lt _)
      refine fin _ (L.set i (L[i] ^^^ k)) ?_ (by simp; omega)
      refine Own.sl (base := M2.next) (T := TB) ?_
      rw [List.length_set]
      refine .op b _ _ h1 h2 ?_ (by simp)
      rw [heap_put_eq, hx]
      congr 2
      rw [← hLL]
      simp only [bytesC, List.map_set]
  · rw [show decide (n ≥ 0) = false by simpa using hn, guardM_FT]
    dsimp only
    rw [pickF, condF]
    exact fin M3 L s3 (by omega)
end Go.Ab.Dot
/- slices.Insert at the end of one's own. By an AI agent. -/
set_option maxRecDepth 10000
set_option linter.unusedVariables false
set_option linter.unusedSimpArgs false
namespace Go.Ab.Dot
open Go Go.Ab

theorem insL_end (x : Nat) (xs : List Nat) : insL xs.length x xs = xs ++ [x] := by simp [insL]
theorem insert_end {M : RM} {v : AV} {bx n0 T x ex : Nat} {xs : List Nat} {co cr : CallT} {Q : PostV} (ho : Ow U64 M n0 T v xs) (hn : n0 ≤ M.next) (hl : xs.length ≤ 100000) (hx : M.heap bx = some (.row [N .u64 (x : Int)] false ex 0)) (hxl : bx < M.next)
    (hQ : ∀ v' M', Sl U64 M' v' (insL xs.length x xs) → capOk v' → (∀ c ∈ blkOf v', n0 ≤ c) → Keep (blkOf v) M M' → Q v' M') : W_slices_Insert_uint64_uint64 T co cr v (N .i64 (xs.length : Int)) (.slc bx 0 1 (.ex 1)) M Q := by
  unfold W_slices_Insert_uint64_uint64
  obtain ⟨v1, v2, e1, s1, e2, s2, hb1, hb2⟩ := own_cut (E := U64) (k := xs.length) (by decide) ho (Nat.le_refl _)
  have e2 : subS 1 v (some (N .i64 (xs.length : Int))) none none = some v2 := e2
  have hs : Sl U64 M v xs := ho.slR
  rw [e2, getW_some, lenW_slc, intW_eql, show ((((1 : Nat) : Int)) == 0) = false from rfl, condF, SlR.len hs, intW_eql, show ((xs.length : Int) == (xs.length : Int)) = true by simp, condT]
  have sx : Sl U64 M (.slc bx 0 1 (.ex 1)) [x] := .slc _ _ _ _ _ hxl (by rw [RM.loads_row hx (by show 0 + 1 * 1 ≤ 1; omega)]; rfl)
  refine app_all (E := U64) (ys := [x]) ho hn (Nat.le_refl _) sx (by simp; omega) (by simp; omega) ?_
  intro v' M' o k _ _
  refine hQ v' M' ?_ (Own.capOk o) (fun c hc => (o.blk c hc).1) k
  rw [insL_end]
  exact o.slR
end Go.Ab.Dot
/- Within, Has: the walks. By an AI agent. -/
set_option maxRecDepth 10000
set_option linter.unusedVariables false
set_option linter.unusedSimpArgs false
namespace Go.Ab.Dot
open Go Go.Ab

def withinP (p q : Pt) : Bool := decide (p.1 ≤ q.1) && p.2.all (hasP q)
def withinS (ps qs : List Pt) : Bool := (List.range 16).all fun i => withinP (ps.getD i (0, [])) (qs.getD i (0, []))
theorem withinS_iff {ps qs : List Pt} : withinS ps qs = true ↔ ∀ i, i < 16 → withinP (ps.getD i (0, [])) (qs.getD i (0, [])) = true := by
  unfold withinS
  rw [List.all_eq_true]
  exact ⟨fun h i hi => h i (List.mem_range.2 hi), fun h i hi => h i (List.mem_range.1 hi)⟩
def WithinC (T : Nat) (c : CallT) : Prop := ∀ {M : RM} {a b : Nat} {ps qs : List Pt} {S S' : Nat → Prop} {Q : PostV}, SetH T S M a ps → SetH T S' M b qs → (∀ p ∈ ps, p.2.length ≤ 1000000) → (∀ q ∈ qs, Asc q.2 ∧ q.2.length ≤ 1000000) →
  (∀ M', Keep [] M M' → Q (Bo (withinS ps qs)) M') → c [.ptr a 0, .ptr b 0] M Q
theorem within_spec {TS T : Nat} {ch : CallT} (hh : HasPC ch) : WithinC TS fun args M Q => ∃ a0 a1, args = [a0, a1] ∧ W_rolodex_dot_Set_Within T ch a0 a1 M Q := by
  intro M a b ps qs S S' Q h h' hpl hql hQ
  refine ⟨_, _, rfl, ?_⟩
  unfold W_rolodex_dot_Set_Within
  obtain ⟨l, ha, hl32, hrow⟩ := h.row
  obtain ⟨l', hb, hl32', hrow'⟩ := h'.row
  rw [ptrW_ptr, fld0, loadN_at (n := 32) ha hl32]
  refine loopW_ind (fun m ys M3 => ∃ (i : Nat), m = 16 - i ∧ ys = [N .i64 (i : Int)] ∧ i ≤ 16 ∧ Keep [] M M3 ∧ ∀ j, j < i → withinP (ps.getD j (0, [])) (qs.getD j (0, [])) = true) _
    ⟨0, rfl, rfl, Nat.zero_le _, Keep.refl _ _, fun j hj => by omega⟩ ?_
  rintro next m ys M3 hnext ⟨i, rfl, rfl, hi, hK, hset⟩
  dsimp only [nthD]
  rw [intW_lss]
  refine condB (fun hlt => ?_) (fun hge => ?_)
  · have hlt : i < 16 := by
      have : (i : Int) < 16 := of_decide_eq_true hlt
      omega
    have hil : i < ps.length := by rw [h.len]; exact hlt
    have hil' : i < qs.length := by rw [h'.len]; exact hlt
    obtain ⟨w, a1, a2, a3, a4, a5⟩ := hrow i hil
    obtain ⟨w', b1, b2, b3, b4, b5⟩ := hrow' i hil'
    have hpD : ps.getD i (0, []) = ps[i] := by rw [List.getD_eq_getElem?_getD, List.getElem?_eq_getElem hil]; rfl
    have hqD : qs.getD i (0, []) = qs[i] := by rw [List.getD_eq_getElem?_getD, List.getElem?_eq_getElem hil']; rfl
    have hcut : (l.drop (2 * i)).take 2 = [N .u64 (ps[i].1 : Int), w] := by
      obtain ⟨q1, q2⟩ := List.getElem?_eq_some_iff.1 a1
      obtain ⟨r1, r2⟩ := List.getElem?_eq_some_iff.1 a2
      rw [List.drop_eq_getElem_cons q1, List.drop_eq_getElem_cons r1, q2, r2]; rfl
    rw [idxPN_agg]
    refine ⟨by omega, by omega, by simp only [Int.toNat_natCast]; omega, ?_⟩
    rw [Int.toNat_natCast, Nat.mul_comm i 2, hcut, newW_eq]
    have hw1 := SlR.one a3
    rw [storeW_all (n := 2) (x := .agg [N .u64 (ps[i].1 : Int), w]) (l := [N .u64 0, .sc (.slice none 0 0)]) (RM.push_new _) rfl rfl (by simp [AV.cells, hw1]; rfl)]
    have kk : Keep [] M3 ((M3.push (.row [N .u64 0, .sc (.slice none 0 0)] false T 0)).put M3.next (.row (AV.agg [N .u64 (ps[i].1 : Int), w]).cells false T 0)) := ((Keep.refl _ _).push _).new _ (Nat.le_refl _)
    have hh' : ((M3.push (.row [N .u64 0, .sc (.slice none 0 0)] false T 0)).put M3.next (.row (AV.agg [N .u64 (ps[i].1 : Int), w]).cells false T 0)).heap M3.next = some (.row [N .u64 (ps[i].1 : Int), w] false T 0) := heap_put_eq _
    generalize (M3.push (.row [N .u64 0, .sc (.slice none 0 0)] false T 0)).put M3.next (.row (AV.agg [N .u64 (ps[i].1 : Int), w]).cells false T 0) = M4 at *
    have k4 := hK.trans kk
    have s4 : Sl U64 M4 w ps[i].2 := SlR.keep a3 k4 (by simp)
    have t4 : Sl U64 M4 w' qs[i].2 := SlR.keep b3 k4 (by simp)
    have hb4 := k4.heap_of hb h'.lt (by simp)
    have hxl := hpl _ (List.getElem_mem hil)
    obtain ⟨hqa, hqn⟩ := hql _ (List.getElem_mem hil')
    rw [ptrW_ptr, fld0, idxA_ptr]
    refine ⟨by omega, by omega, ?_⟩
    rw [Int.toNat_natCast, Nat.zero_add, Nat.mul_comm i 2, fld0, load1_at hh' rfl, ptrW_ptr, fldW_ptr, Nat.add_zero, load1_at hb4 b1, intW_gtr]
    have fail : ∀ M5, Keep [] M4 M5 → withinP ps[i] qs[i] = false → Q (Bo false) M5 := fun M5 k5 hf => by
      have : withinS ps qs = false := by
        rw [Bool.eq_false_iff]
        intro hall
        have := withinS_iff.1 hall i hlt
        rw [hpD, hqD, hf] at this
        cases this
      rw [← this]
      exact hQ M5 (k4.trans k5)
    refine condB (fun hg => fail M4 (Keep.refl _ _) ?_) (fun hg => ?_)
    · have : ((ps[i].1 : Nat) : Int) > ((qs[i].1 : Nat) : Int) := of_decide_eq_true hg
      unfold withinP
      rw [show decide (ps[i].1 ≤ qs[i].1) = false by simp; omega, Bool.false_and]
    · have hle : ps[i].1 ≤ qs[i].1 := by
        have : ¬ ((ps[i].1 : Nat) : Int) > ((qs[i].1 : Nat) : Int) := of_decide_eq_false hg
        omega
      rw [fld0, load1_at hh' rfl, SlR.len s4]
      refine loopW_ind (fun m ys M5 => ∃ (j : Nat), m = ps[i].2.length - j ∧ ys = [N .i64 (j : Int)] ∧ j ≤ ps[i].2.length ∧ M5 = M4 ∧ ps[i].2.all (hasP qs[i]) = (ps[i].2.drop j).all (hasP qs[i])) _
        ⟨0, rfl, rfl, Nat.zero_le _, rfl, rfl⟩ ?_
      rintro next2 m ys M5 hnext2 ⟨j, rfl, rfl, hj, rfl, hall⟩
      dsimp only [nthD]
      rw [intW_lss]
      refine condB (fun hlt2 => ?_) (fun hge2 => ?_)
      · have hlt2 : j < ps[i].2.length := by simpa using hlt2
        obtain ⟨b9, o9, _, _, hidx, hc⟩ := Sl.at1 (E := U64) s4 (j : Int) hlt2
        rw [List.drop_eq_getElem_cons hlt2, List.all_cons] at hall
        rw [hidx, load1_ptr]
        refine ⟨_, hc _ rfl, ?_⟩
        refine hh hb4 b1 b2 t4 hqa hqn ?_
        rw [notW_Bo]
        cases hhas : hasP (qs[i].1, qs[i].2) ps[i].2[j] with
        | false =>
          have hhas : hasP qs[i] ps[i].2[j] = false := hhas
          rw [Bool.not_false, condT]
          refine fail M5 (Keep.refl _ _) ?_
          unfold withinP
          rw [hall, hhas, Bool.false_and, Bool.and_false]
        | true =>
          have hhas : hasP qs[i] ps[i].2[j] = true := hhas
          rw [Bool.not_true, condF, intW_add, i64_succ (by omega)]
          refine hnext2 _ _ _ (by omega) ⟨j + 1, rfl, rfl, by omega, rfl, ?_⟩
          rw [hall, hhas, Bool.true_and]
      · have he : j = ps[i].2.length := by simp at hge2; omega
        subst he
        rw [List.drop_length, List.all_nil] at hall
        rw [intW_add, i64_succ (by omega)]
        refine hnext _ _ _ (by omega) ⟨i + 1, rfl, rfl, by omega, k4, fun j hj => ?_⟩
        rcases Nat.lt_or_ge j i with h | h
        · exact hset j h
        · have : j = i := by omega
          subst this
          rw [hpD, hqD]
          unfold withinP
          rw [hall, Bool.and_true]
          simpa using hle
  · have he : i = 16 := by
      have : ¬ (i : Int) < 16 := of_decide_eq_false hge
      omega
    subst he
    have : withinS ps qs = true := withinS_iff.2 hset
    rw [← this]
    exact hQ M3 hK

def hasS (ps : List Pt) (d : Dot) : Bool := good d && hasP (ps.getD d.1.toNat (0, [])) d.2
def HasSC (T : Nat) (c : CallT) : Prop := ∀ {M : RM} {b : Nat} {ps : List Pt} {d : Dot} {S : Nat → Prop} {Q : PostV}, SetH T S M b ps → (∀ q ∈ ps, Asc q.2 ∧ q.2.length ≤ 1000000) →
  (∀ M', Keep [] M M' → Q (Bo (hasS ps d)) M') → c [.ptr b 0, .agg (dcells d)] M Q
theorem hasS_spec {TS T : Nat} {cg ch : CallT} (hg : GoodC cg) (hh : HasPC ch) : HasSC TS fun args M Q => ∃ a0 a1, args = [a0, a1] ∧ W_rolodex_dot_Set_Has T cg ch a0 a1 M Q := by
  intro M b ps d S Q h hql hQ
  refine ⟨_, _, rfl, ?_⟩
  unfold W_rolodex_dot_Set_Has
  simp only [fuseK, fuseKM]
  rw [boxW_agg rfl (by simp), newW_eq, loadN_at (n := 2) (RM.push_new _) rfl]
  have k1 : Keep [] M (M.push (.row (dcells d) false T 0)) := (Keep.refl _ _).push _
  have h3 : (M.push (.row (dcells d) false T 0)).heap M.next = some (.row (dcells d) false T 0) := RM.push_new _
  have n1 : (M.push (.row (dcells d) false T 0)).next = M.next + 1 := rfl
  generalize M.push (.row (dcells d) false T 0) = M1 at *
  refine hg fun M2 k2 => ?_
  have kk := k1.trans k2
  have h3 := k2.heap_of h3 (by omega) (by simp)
  have hQ := hQ M2 kk
  unfold hasS at hQ
  cases hgd : good d with
  | false =>
    rw [guardM_FT]
    dsimp only
    rw [pickF]
    rw [hgd, Bool.false_and] at hQ
    exact hQ
  | true =>
    rw [hgd, Bool.true_and] at hQ
    simp [good] at hgd
    obtain ⟨i, hi⟩ : ∃ i : Nat, d.1 = (i : Int) := ⟨d.1.toNat, by omega⟩
    have hi16 : i < 16 := by omega
    have s2 := h.keep kk (by simp) (by simp)
    have hil : i < ps.length := by rw [h.len]; exact hi16
    have hpD : ps.getD d.1.toNat (0, []) = ps[i] := by rw [hi, Int.toNat_natCast, List.getD_eq_getElem?_getD, List.getElem?_eq_getElem hil]; rfl
    rw [hpD] at hQ
    obtain ⟨l, hb, hl32, hrow⟩ := s2.row
    obtain ⟨v, a1, a2, a3, a4, a5⟩ := hrow i hil
    obtain ⟨hqa, hqn⟩ := hql _ (List.getElem_mem hil)
    rw [guardM_TT]
    dsimp only
    rw [fld0, load1_at h3 rfl, ptrW_ptr, fld0, hi, idxA_ptr]
    refine ⟨by omega, by omega, ?_⟩
    rw [fld0, load1_at h3 rfl, Int.toNat_natCast, Nat.zero_add, Nat.mul_comm i 2]
    refine hh hb a1 a2 a3 hqa hqn ?_
    rw [pickT]
    exact hQ
end Go.Ab.Dot
/- Sorting what is sorted: the walks. By an AI agent. -/
set_option maxRecDepth 10000
set_option linter.unusedVariables false
set_option linter.unusedSimpArgs false
namespace Go.Ab.Dot
open Go Go.Ab

/-- None falls. -/
def Up (xs : List Nat) : Prop := ∀ i j (hi : i < xs.length) (hj : j < xs.length), i ≤ j → xs[i] ≤ xs[j]
theorem Asc.up {xs : List Nat} (h : Asc xs) : Up xs := fun i j hi hj hij => by
  rcases Nat.lt_or_ge i j with h1 | h1
  · exact Nat.le_of_lt (h.lt h1 hj)
  · have : i = j := by omega
    subst this; exact Nat.le_refl _
theorem Own.u64 {M : RM} {base T : Nat} {v : AV} {xs : List Nat} (h : Ow U64 M base T v xs) : Sl U64 M v xs := h.slR

def Order2C (c : CallT) : Prop := ∀ {M : RM} {v sw : AV} {xs : List Nat} {i j : Nat} {Q : PostV}, Sl U64 M v xs → Up xs → i ≤ j → j < xs.length → Q (.tup [N .i64 (i : Int), N .i64 (j : Int)]) M → c [v, N .i64 (i : Int), N .i64 (j : Int), sw] M Q
theorem order2_spec {cl : CallT} (hl : LessC cl) : Order2C fun args M Q => ∃ a0 a1 a2 a3, args = [a0, a1, a2, a3] ∧ W_slices_order2Ordered_uint64 cl a0 a1 a2 a3 M Q := by
  intro M v sw xs i j Q hs hu hij hj hQ
  refine ⟨_, _, _, _, rfl, ?_⟩
  unfold W_slices_order2Ordered_uint64
  obtain ⟨b1, o1, _, _, hidx1, hc1⟩ := Sl.at1 (E := U64) hs (j : Int) hj
  obtain ⟨b2, o2, _, _, hidx2, hc2⟩ := Sl.at1 (E := U64) (i := i) hs (i : Int) (by omega)
  rw [hidx1, load1_ptr]
  refine ⟨_, hc1 _ rfl, ?_⟩
  rw [hidx2, load1_ptr]
  refine ⟨_, hc2 _ rfl, ?_⟩
  refine hl ?_
  have := hu i j (by omega) hj hij
  rw [show decide (xs[j] < xs[i]'(by omega)) = false by simp; omega, condF]
  exact hQ
def MedianC (c : CallT) : Prop := ∀ {M : RM} {v sw : AV} {xs : List Nat} {i j k : Nat} {Q : PostV}, Sl U64 M v xs → Up xs → i ≤ j → j ≤ k → k < xs.length → Q (N .i64 (j : Int)) M → c [v, N .i64 (i : Int), N .i64 (j : Int), N .i64 (k : Int), sw] M Q
theorem median_spec {c2 : CallT} (h2 : Order2C c2) : MedianC fun args M Q => ∃ a0 a1 a2 a3 a4, args = [a0, a1, a2, a3, a4] ∧ W_slices_medianOrdered_uint64 c2 a0 a1 a2 a3 a4 M Q := by
  intro M v sw xs i j k Q hs hu hij hjk hk hQ
  refine ⟨_, _, _, _, _, rfl, ?_⟩
  unfold W_slices_medianOrdered_uint64
  refine h2 hs hu hij (by omega) ?_
  rw [extW0, extW1]
  refine h2 hs hu hjk hk ?_
  rw [extW0, extW1]
  refine h2 hs hu hij (by omega) ?_
  rw [extW0, extW1]
  exact hQ
def MedAdjC (c : CallT) : Prop := ∀ {M : RM} {v sw : AV} {xs : List Nat} {i : Nat} {Q : PostV}, Sl U64 M v xs → Up xs → xs.length ≤ 1000000 → 1 ≤ i → i + 1 < xs.length → Q (N .i64 (i : Int)) M → c [v, N .i64 (i : Int), sw] M Q
theorem medAdj_spec {cm : CallT} (hm : MedianC cm) : MedAdjC fun args M Q => ∃ a0 a1 a2, args = [a0, a1, a2] ∧ W_slices_medianAdjacentOrdered_uint64 cm a0 a1 a2 M Q := by
  intro M v sw xs i Q hs hu hl h1 h2 hQ
  refine ⟨_, _, _, rfl, ?_⟩
  unfold W_slices_medianAdjacentOrdered_uint64
  rw [intW_sub, wrap_i64_id (by omega) (by omega), show (i : Int) - 1 = ((i - 1 : Nat) : Int) by omega, intW_add, i64_succ (by omega)]
  exact hm hs hu (by omega) (by omega) h2 hQ
def ChooseC (c : CallT) : Prop := ∀ {M : RM} {v : AV} {xs : List Nat} {Q : PostV}, Sl U64 M v xs → Up xs → xs.length ≤ 1000000 → 12 < xs.length → (∀ (p : Nat) M', p < xs.length → Keep [] M M' → Q (.tup [N .i64 (p : Int), N .i64 1]) M') → c [v, N .i64 0, N .i64 (xs.length : Int)] M Q
theorem quo_nat (a b : Nat) : (a : Int).tdiv (b : Int) = ((a / b : Nat) : Int) := by
  rw [Int.tdiv_eq_ediv_of_nonneg (by omega)]; rfl
theorem choose_spec {T : Nat} {ca cm : CallT} (ha : MedAdjC ca) (hm : MedianC cm) : ChooseC fun args M Q => ∃ a0 a1 a2, args = [a0, a1, a2] ∧ W_slices_choosePivotOrdered_uint64 T ca cm a0 a1 a2 M Q := by
  intro M v xs Q hs hu hl h12 hQ
  refine ⟨_, _, _, rfl, ?_⟩
  unfold W_slices_choosePivotOrdered_uint64
  simp only [joinW_eq]
  have hsub : intW .sub (N .i64 (xs.length : Int)) (N .i64 0) = fun K => K (N .i64 (xs.length : Int)) := by
    funext K
    rw [intW_sub, Int.sub_zero, wrap_i64_id (by omega) (by omega)]
  rw [hsub]
  dsimp only
  rw [newW_eq]
  have hh : (M.push (.row [(N .i64 0)] false T 0)).heap M.next = some (.row [(N .i64 0)] false T 0) := RM.push_new _
  have kk : Keep [] M (M.push (.row [(N .i64 0)] false T 0)) := (Keep.refl _ _).push _
  generalize M.push (.row [(N .i64 0)] false T 0) = M1 at *
  have s1 : Sl U64 M1 v xs := SlR.keep hs kk (by simp)
  have hq : ∀ (k : Nat) (c : Int), c = (k : Int) → k ≤ 3 → ∀ (K : AV → Prop), (intW .quo (N .i64 (xs.length : Int)) (N .i64 4) fun t18 => intW .mul t18 (N .i64 c) fun t19 => intW .add (N .i64 0) t19 K) = K (N .i64 ((xs.length / 4 * k : Nat) : Int)) := fun k c hc hk K => by
    subst hc
    have hb : xs.length / 4 * k ≤ xs.length * 3 := Nat.mul_le_mul (Nat.div_le_self _ _) hk
    rw [intW_quo, show (4 : Int) = ((4 : Nat) : Int) from rfl, quo_nat, wrap_i64_id (by omega) (by omega), intW_mul, ← Int.natCast_mul, wrap_i64_id (by omega) (by omega), intW_add, Int.zero_add, wrap_i64_id (by omega) (by omega)]
    exact propext ⟨fun h => h.2, fun h => ⟨by decide, h⟩⟩
  rw [hq 1 1 rfl (by omega), hq 2 2 rfl (by omega), hq 3 3 rfl (by omega), intW_geq, show decide ((xs.length : Int) ≥ 8) = true by simp; omega, condT, intW_geq]
  dsimp only [nthD]
  have fin : ∀ p : Nat, p < xs.length → load1 M1 (.ptr M.next 0) fun t49 => intW .eql t49 (N .i64 0) fun t52 => condW t52 (Q (.tup [N .i64 (p : Int), (N .i64 1)]) M1) (intW .eql t49 (N .i64 12) fun t55 => condW t55 (Q (.tup [N .i64 (p : Int), (N .i64 2)]) M1) (Q (.tup [N .i64 (p : Int), (N .i64 0)]) M1)) := fun p hp => by
    rw [load1_at hh rfl, intW_eql, show ((0 : Int) == 0) = true from rfl, condT]
    exact hQ p M1 hp kk
  have med : cm [v, N .i64 ((xs.length / 4 * 1 : Nat) : Int), N .i64 ((xs.length / 4 * 2 : Nat) : Int), N .i64 ((xs.length / 4 * 3 : Nat) : Int), .ptr M.next 0] M1 fun t48 M_5 => load1 M_5 (.ptr M.next 0) fun t49 => intW .eql t49 (N .i64 0) fun t52 => condW t52 (Q (.tup [t48, (N .i64 1)]) M_5) (intW .eql t49 (N .i64 12) fun t55 => condW t55 (Q (.tup [t48, (N .i64 2)]) M_5) (Q (.tup [t48, (N .i64 0)]) M_5)) :=
    hm s1 hu (by omega) (by omega) (by omega) (fin _ (by omega))
  refine condB (fun hg => ?_) (fun hg => ?_)
  · have hg : 50 ≤ xs.length := by
      have : (xs.length : Int) ≥ 50 := of_decide_eq_true hg
      omega
    refine ha s1 hu hl (by omega) (by omega) ?_
    refine ha s1 hu hl (by omega) (by omega) ?_
    refine ha s1 hu hl (by omega) (by omega) ?_
    exact med
  · exact med

def PartInsC (c : CallT) : Prop := ∀ {M : RM} {v : AV} {xs : List Nat} {Q : PostV}, Sl U64 M v xs → Up xs → xs.length ≤ 1000000 → 12 < xs.length → Q (Bo true) M → c [v, N .i64 0, N .i64 (xs.length : Int)] M Q
theorem partIns_spec {cl : CallT} (hl : LessC cl) : PartInsC fun args M Q => ∃ a0 a1 a2, args = [a0, a1, a2] ∧ W_slices_partialInsertionSortOrdered_uint64 cl a0 a1 a2 M Q := by
  intro M v xs Q hs hu hn h12 hQ
  refine ⟨_, _, _, rfl, ?_⟩
  unfold W_slices_partialInsertionSortOrdered_uint64
  simp only [fuseK, fuseKM, fuseMK]
  rw [intW_add, show (0 : Int) + 1 = ((1 : Nat) : Int) from rfl, wrap_i64_id (by omega) (by omega)]
  refine loopW_ind (fun m ys M3 => m = 0 ∧ ys = [N .i64 ((1 : Nat) : Int), N .i64 0] ∧ M3 = M) 0 ⟨rfl, rfl, rfl⟩ ?_
  rintro next m ys M3 hnext ⟨rfl, rfl, rfl⟩
  dsimp only [nthD]
  rw [intW_lss, show decide ((0 : Int) < 5) = true from rfl, condT, joinW_eq]
  refine loopW_ind (fun m ys M5 => ∃ i : Nat, m = xs.length - i ∧ ys = [N .i64 (i : Int)] ∧ 1 ≤ i ∧ i ≤ xs.length ∧ M5 = M3) _ ⟨1, rfl, rfl, Nat.le_refl _, by omega, rfl⟩ ?_
  rintro next2 m ys M5 hnext2 ⟨i, rfl, rfl, hi1, hi, rfl⟩
  dsimp only [nthD]
  rw [intW_lss]
  by_cases hlt : i < xs.length
  · rw [show decide ((i : Int) < (xs.length : Int)) = true by simpa using hlt, guardK_TT]
    dsimp only
    obtain ⟨b1, o1, _, _, hidx1, hc1⟩ := Sl.at1 (E := U64) hs (i : Int) hlt
    obtain ⟨b2, o2, _, _, hidx2, hc2⟩ := Sl.at1 (E := U64) (i := i - 1) hs ((i - 1 : Nat) : Int) (by omega)
    rw [hidx1, load1_ptr]
    refine ⟨_, hc1 _ rfl, ?_⟩
    rw [intW_sub, wrap_i64_id (by omega) (by omega), show (i : Int) - 1 = ((i - 1 : Nat) : Int) by omega, hidx2, load1_ptr]
    refine ⟨_, hc2 _ rfl, ?_⟩
    refine hl ?_
    have := hu (i - 1) i (by omega) hlt (by omega)
    rw [show decide (xs[i] < xs[i - 1]'(by omega)) = false by simp; omega, notW_Bo, Bool.not_false, pickT, condT, intW_add, i64_succ (by omega)]
    exact hnext2 _ _ _ (by omega) ⟨i + 1, rfl, rfl, by omega, hlt, rfl⟩
  · have he : i = xs.length := by omega
    rw [show decide ((i : Int) < (xs.length : Int)) = false by simp; omega, guardK_FT]
    dsimp only
    rw [pickF, condF, intW_eql, show ((i : Int) == (xs.length : Int)) = true by simp; omega, condT]
    exact hQ

def InsC (c : CallT) : Prop := ∀ {M : RM} {v : AV} {xs : List Nat} {Q : PostV}, Sl U64 M v xs → Up xs → xs.length ≤ 1000000 → Q (.tup []) M → c [v, N .i64 0, N .i64 (xs.length : Int)] M Q
theorem ins_spec {cl : CallT} (hl : LessC cl) : InsC fun args M Q => ∃ a0 a1 a2, args = [a0, a1, a2] ∧ W_slices_insertionSortOrdered_uint64 cl a0 a1 a2 M Q := by
  intro M v xs Q hs hu hn hQ
  refine ⟨_, _, _, rfl, ?_⟩
  unfold W_slices_insertionSortOrdered_uint64
  simp only [fuseK, fuseKM, fuseMK]
  rw [intW_add, show (0 : Int) + 1 = ((1 : Nat) : Int) from rfl, wrap_i64_id (by omega) (by omega)]
  refine loopW_ind (fun m ys M3 => ∃ i : Nat, m = xs.length - i ∧ ys = [N .i64 (i : Int)] ∧ 1 ≤ i ∧ i ≤ xs.length + 1 ∧ M3 = M) _ ⟨1, rfl, rfl, Nat.le_refl _, by omega, rfl⟩ ?_
  rintro next m ys M3 hnext ⟨i, rfl, rfl, hi1, hi, rfl⟩
  dsimp only [nthD]
  rw [intW_lss]
  refine condB (fun hlt => ?_) (fun _ => hQ)
  have hlt : i < xs.length := by simpa using hlt
  refine loopW_ind (fun m ys M5 => m = 0 ∧ ys = [N .i64 (i : Int)] ∧ M5 = M3) 0 ⟨rfl, rfl, rfl⟩ ?_
  rintro next2 m ys M5 hnext2 ⟨rfl, rfl, rfl⟩
  dsimp only [nthD]
  rw [intW_gtr, show decide ((i : Int) > 0) = true by simp; omega, guardM_TT]
  dsimp only
  obtain ⟨b1, o1, _, _, hidx1, hc1⟩ := Sl.at1 (E := U64) hs (i : Int) hlt
  obtain ⟨b2, o2, _, _, hidx2, hc2⟩ := Sl.at1 (E := U64) (i := i - 1) hs ((i - 1 : Nat) : Int) (by omega)
  rw [hidx1, load1_ptr]
  refine ⟨_, hc1 _ rfl, ?_⟩
  rw [intW_sub, wrap_i64_id (by omega) (by omega), show (i : Int) - 1 = ((i - 1 : Nat) : Int) by omega, hidx2, load1_ptr]
  refine ⟨_, hc2 _ rfl, ?_⟩
  refine hl ?_
  have := hu (i - 1) i (by omega) hlt (by omega)
  rw [show decide (xs[i] < xs[i - 1]'(by omega)) = false by simp; omega, pickT, condF, intW_add, i64_succ (by omega)]
  exact hnext _ _ _ (by omega) ⟨i + 1, rfl, rfl, by omega, by omega, rfl⟩

def PdqC (c : CallT) : Prop := ∀ {M : RM} {v : AV} {xs : List Nat} {n : Int} {Q : PostV}, Sl U64 M v xs → Up xs → xs.length ≤ 1000000 → (12 < xs.length → n ≠ 0) → (∀ M', Keep [] M M' → Q (.tup []) M') → c [v, N .i64 0, N .i64 (xs.length : Int), N .i64 n] M Q
theorem pdq_spec {ci c2 c3 cc c4 cp c5 c6 c7 c8 : CallT} (hi : InsC ci) (hc : ChooseC cc) (hp : PartInsC cp) : PdqC fun args M Q => ∃ a0 a1 a2 a3, args = [a0, a1, a2, a3] ∧ W_slices_pdqsortOrdered_uint64 ci c2 c3 cc c4 cp c5 c6 c7 c8 a0 a1 a2 a3 M Q := by
  intro M v xs n Q hs hu hl hn hQ
  refine ⟨_, _, _, _, rfl, ?_⟩
  unfold W_slices_pdqsortOrdered_uint64
  refine loopW_ind (fun m ys M3 => m = 0 ∧ ys = [N .i64 0, N .i64 (xs.length : Int), N .i64 n, Bo true, Bo true] ∧ M3 = M) 0 ⟨rfl, rfl, rfl⟩ ?_
  rintro next m ys M3 hnext ⟨rfl, rfl, rfl⟩
  dsimp only [nthD]
  rw [intW_sub, Int.sub_zero, wrap_i64_id (by omega) (by omega), intW_leq]
  refine condB (fun _ => hi hs hu hl (hQ _ (Keep.refl _ _))) (fun hg => ?_)
  have hg : 12 < xs.length := by
    have : ¬ (xs.length : Int) ≤ 12 := of_decide_eq_false hg
    omega
  rw [intW_eql, show (n == 0) = false by rw [beq_eq_false_iff_ne]; exact hn hg, condF, joinW_eq, notW_Bo, Bool.not_true, condF]
  dsimp only [nthD]
  refine hc hs hu hl hg fun p M4 hp4 k4 => ?_
  have s4 : Sl U64 M4 v xs := SlR.keep hs k4 (by simp)
  rw [extW0, extW1, joinW_eq, intW_eql, show ((1 : Int) == 2) = false from rfl, condF]
  dsimp only [nthD]
  rw [joinW_eq, guardM_TT]
  dsimp only
  rw [pickT, guardM_TT]
  dsimp only
  rw [guardM_TT]
  dsimp only
  rw [intW_eql, show ((1 : Int) == 1) = true from rfl, pickT, condT]
  refine hp s4 hu hl hg ?_
  rw [condT]
  exact hQ M4 k4
end Go.Ab.Dot
/- Sort, Compact, Grow, Concat of what is sorted: the walks. By an AI agent. -/
set_option maxRecDepth 10000
set_option linter.unusedVariables false
set_option linter.unusedSimpArgs false
namespace Go.Ab.Dot
open Go Go.Ab

theorem tab_ok {tab : List UInt8} {x : Nat} (h : tab.length = 256) (h2 : (tab.drop 1).all (fun b => b != 0) = true) (hx : x < 256) : ∃ b, tab[x]? = some b ∧ (0 < x → b.toNat ≠ 0) := by
  have hx' : x < tab.length := by omega
  refine ⟨tab[x], List.getElem?_eq_getElem hx', fun h0 hb => ?_⟩
  have hm : tab[x] ∈ tab.drop 1 := by
    have : x - 1 < (tab.drop 1).length := by simp; omega
    have e : (tab.drop 1)[x - 1] = tab[x] := by rw [List.getElem_drop]; congr 1; omega
    rw [← e]; exact List.getElem_mem this
  have h3 := List.all_eq_true.1 h2 _ hm
  have h4 : tab[x] = 0 := UInt8.toNat_inj.1 (by rw [hb]; rfl)
  rw [h4] at h3
  cases h3
theorem tab_use {tab : List UInt8} {x : Nat} {K : UInt8 → Prop} (hx : x < 256) (h : tab.length = 256) (h2 : (tab.drop 1).all (fun b => b != 0) = true) (hK : ∀ b, (0 < x → b.toNat ≠ 0) → K b) : ∃ b, tab[x]? = some b ∧ K b :=
  let ⟨b, h3, h4⟩ := tab_ok h h2 hx
  ⟨b, h3, hK b h4⟩
def LenC (c : CallT) : Prop := ∀ {M : RM} {x : Nat} {Q : PostV}, x < 256 → (∀ n : Int, (0 < x → n ≠ 0) → Q (N .i64 n) M) → c [N .u64 (x : Int)] M Q
theorem len64_spec : LenC fun args M Q => ∃ a0, args = [a0] ∧ W_math_bits_Len64 a0 M Q := by
  intro M x Q hx hQ
  refine ⟨_, rfl, ?_⟩
  unfold W_math_bits_Len64
  rw [joinW_eq, intW_geq, show decide ((x : Int) ≥ 4294967296) = false by simp; omega, condF]
  dsimp only [nthD]
  rw [joinW_eq, intW_geq, show decide ((x : Int) ≥ 65536) = false by simp; omega, condF]
  dsimp only [nthD]
  rw [joinW_eq, intW_geq, show decide ((x : Int) ≥ 256) = false by simp; omega, condF]
  dsimp only [nthD]
  rw [cvtW_N, wrap_u8_id (by omega) (by omega), idxB_St]
  refine ⟨by omega, ?_⟩
  rw [Int.toNat_natCast]
  refine tab_use hx (by rfl) (by rfl) fun b h2 => ?_
  have hb := u8_lt b
  rw [cvtW_N, wrap_i64_id (by omega) (by omega), intW_add, wrap_i64_id (by omega) (by omega)]
  exact hQ _ fun h => by have := h2 h; omega
theorem len_spec {c3 c6 : CallT} (h6 : LenC c6) : LenC fun args M Q => ∃ a0, args = [a0] ∧ W_math_bits_Len c3 c6 a0 M Q := by
  intro M x Q hx hQ
  refine ⟨_, rfl, ?_⟩
  unfold W_math_bits_Len
  rw [condF]
  exact h6 hx hQ

/-- Sorting, where it is said what comes of it. -/
def SortC (P : List Nat → Prop) (f : List Nat → List Nat) (T : Nat) (c : CallT) : Prop := ∀ {M : RM} {base : Nat} {v : AV} {xs : List Nat} {Q : PostV}, Ow U64 M base T v xs → P xs → (∀ M', Ow U64 M' base T v (f xs) → Keep (blkOf v) M M' → Q (.tup []) M') → c [v] M Q
theorem sortUp_spec {T : Nat} {cl cp : CallT} (hl : LenC cl) (hp : PdqC cp) : SortC (fun xs => Up xs ∧ xs.length < 256) id T fun args M Q => ∃ a0, args = [a0] ∧ W_slices_Sort_uint64_uint64 cl cp a0 M Q := by
  intro M base v xs Q ho hP hQ
  obtain ⟨hu, hx⟩ := hP
  have hs : Sl U64 M v xs := ho.slR
  refine ⟨_, rfl, ?_⟩
  unfold W_slices_Sort_uint64_uint64
  rw [SlR.len hs, cvtW_N, wrap_u64_id (by omega) (by omega)]
  refine hl hx fun n hn => ?_
  refine hp hs hu (by omega) (fun h => hn (by omega)) fun M' k => ?_
  exact hQ M' (ho.keep k (by simp)) (k.mono (by simp))

def CompactC (P : List Nat → Prop) (f : List Nat → List Nat) (T : Nat) (c : CallT) : Prop := ∀ {M : RM} {base : Nat} {v : AV} {xs : List Nat} {Q : PostV}, Ow U64 M base T v xs → P xs → (∀ v' M', Sl U64 M' v' (f xs) → capOk v' → (∀ d ∈ blkOf v', d ∈ blkOf v) → Keep (blkOf v) M M' → Q v' M') → c [v] M Q
theorem compactAsc_spec {T : Nat} : CompactC (fun xs => Asc xs ∧ xs.length ≤ 1000000) id T fun args M Q => ∃ a0, args = [a0] ∧ W_slices_Compact_uint64_uint64 a0 M Q := by
  intro M base v xs Q ho hP hQ
  obtain ⟨ha, hx⟩ := hP
  have hs : Sl U64 M v xs := ho.slR
  have hQ := hQ v M hs (Own.capOk ho) (fun d hd => hd) (Keep.refl _ _)
  refine ⟨_, rfl, ?_⟩
  unfold W_slices_Compact_uint64_uint64
  rw [SlR.len hs, intW_lss]
  refine condB (fun _ => hQ) (fun hg => ?_)
  have hg : 2 ≤ xs.length := by
    have : ¬ (xs.length : Int) < 2 := of_decide_eq_false hg
    omega
  refine loopW_ind (fun m ys M3 => ∃ i : Nat, m = xs.length - i ∧ ys = [N .i64 (i : Int)] ∧ 1 ≤ i ∧ i ≤ xs.length ∧ M3 = M) _ ⟨1, rfl, rfl, Nat.le_refl _, by omega, rfl⟩ ?_
  rintro next m ys M3 hnext ⟨i, rfl, rfl, hi1, hi, rfl⟩
  dsimp only [nthD]
  rw [SlR.len hs, intW_lss]
  refine condB (fun hlt => ?_) (fun _ => hQ)
  have hlt : i < xs.length := by simpa using hlt
  obtain ⟨b1, o1, _, _, hidx1, hc1⟩ := Sl.at1 (E := U64) hs (i : Int) hlt
  obtain ⟨b2, o2, _, _, hidx2, hc2⟩ := Sl.at1 (E := U64) (i := i - 1) hs ((i - 1 : Nat) : Int) (by omega)
  rw [hidx1, load1_ptr]
  refine ⟨_, hc1 _ rfl, ?_⟩
  rw [intW_sub, wrap_i64_id (by omega) (by omega), show (i : Int) - 1 = ((i - 1 : Nat) : Int) by omega, hidx2, load1_ptr]
  refine ⟨_, hc2 _ rfl, ?_⟩
  have := ha.lt (i := i - 1) (j := i) (by omega) hlt
  rw [intW_eql, show (((xs[i] : Nat) : Int) == ((xs[i - 1]'(by omega) : Nat) : Int)) = false by rw [beq_eq_false_iff_ne]; omega, condF, intW_add, i64_succ (by omega)]
  exact hnext _ _ _ (by omega) ⟨i + 1, rfl, rfl, by omega, hlt, rfl⟩

/-- Room is made for so many. -/
def GrowC (T : Nat) (c : CallT) : Prop := ∀ {M : RM} {n : Nat} {Q : PostV}, n ≤ 10000000 → (n = 0 → Q nilS M) →
  (0 < n → ∀ b M', M.next ≤ b → b < M'.next → M'.heap b = some (.row (repL [N .u64 0] n) true T 0) → Keep [] M M' → Q (.slc b 0 0 (.op 1)) M') → c [nilS, N .i64 (n : Int)] M Q
theorem grow_spec {TS T : Nat} : GrowC T fun args M Q => ∃ a0 a1, args = [a0, a1] ∧ W_slices_Grow_uint64_uint64 TS T a0 a1 M Q := by
  intro M n Q hn h0 h1
  refine ⟨_, _, rfl, ?_⟩
  unfold W_slices_Grow_uint64_uint64
  rw [joinW_eq, intW_lss, show decide ((n : Int) < 0) = false by simp, condF]
  dsimp only
  rw [joinW_eq]
  have hcap : ∀ K : AV → Prop, capW nilS K = K (N .i64 0) := fun K => by
    unfold capW
    exact propext ⟨fun ⟨m, h, k⟩ => by cases h; exact k, fun k => ⟨0, rfl, k⟩⟩
  rw [hcap, lenW_nil, intW_sub, show IntKind.wrap .i64 ((0 : Int) - 0) = 0 from by rw [wrap_i64_id] <;> decide, intW_sub, Int.sub_zero, wrap_i64_id (by omega) (by omega), intW_gtr]
  dsimp only [nthD]
  by_cases hz : n = 0
  · rw [show decide ((n : Int) > 0) = false by simp; omega, condF]
    exact h0 hz
  · rw [show decide ((n : Int) > 0) = true by simp; omega, condT, hcap, show subS 1 nilS none (some (N .i64 0)) none = some nilS by simp [subS, bnd], getW_some]
    have hr := repL_one n
    refine app_own (base := M.next) (m := n) (ds := repL [N .u64 0] n) .nil (Nat.le_refl _) (Nat.le_refl _) (by simp [newL]) (by rw [hr.1, Nat.mul_one]) hr.2 (by omega) (by omega) ?_
    intro v' M' o k _ _
    rw [Nat.zero_add] at o
    obtain ⟨b, rfl, q1, q2, q3, q4⟩ := Own.op_pos o (by omega)
    rw [lenW_nil, show subS 1 (.slc b 0 n (.op 1)) none (some (N .i64 0)) none = some (.slc b 0 0 (.op 1)) by simp [subS, bnd]; omega, getW_some]
    exact h1 (by omega) b M' q1 q2 (by simpa using q3) (by simpa [blkOf] using k)
end Go.Ab.Dot
/- Concat, Join, Copy: the walks. By an AI agent. -/
set_option maxRecDepth 10000
set_option linter.unusedVariables false
set_option linter.unusedSimpArgs false
namespace Go.Ab.Dot
open Go Go.Ab

theorem repL_add : ∀ (a b : Nat), repL [N .u64 0] (a + b) = repL [N .u64 0] a ++ repL [N .u64 0] b
  | 0, b => by simp [repL]
  | a + 1, b => by rw [show a + 1 + b = (a + b) + 1 by omega, repL, repL, repL_add a b]; simp
theorem fill_app {M : RM} {b T k : Nat} {ps ys : List Nat} {u : AV} {zs : List AV} {K : PostV} (hb : M.heap b = some (.row (U64.row ps ++ repL [N .u64 0] k) true T 0)) (hu : Sl U64 M u ys) (hk : ys.length ≤ k) (hl : ys.length ≤ 1000000)
    (hK : ∀ M', M'.heap b = some (.row (U64.row (ps ++ ys) ++ repL [N .u64 0] (k - ys.length)) true T 0) → Keep [b] M M' → M'.next = M.next → K (.slc b 0 (ps ++ ys).length (.op 1)) M') :
    appW T 1 8 zs false (.slc b 0 ps.length (.op 1)) u M K := by
  have hn := SlR.newL hu zs
  have hrl : (U64.row ys).length = ys.length := by rw [Enc.row_len]; simp [U64]
  have hpl : (U64.row ps).length = ps.length := by rw [Enc.row_len]; simp [U64]
  refine ⟨ys.length, U64.row ys, hn, by omega, by omega, ?_⟩
  by_cases h0 : ys.length = 0
  · have : ys = [] := List.length_eq_zero_iff.1 h0
    subst this
    refine ⟨.slc b 0 ps.length (.op 1), M, by simp [appM], ?_⟩
    have := hK M (by simpa using hb) (Keep.refl _ _) rfl
    simpa using this
  · have hfit : 0 + (ps.length + ys.length) * 1 ≤ (U64.row ps ++ repL [N .u64 0] k).length := by
      rw [List.length_append, hpl, (repL_one k).1]; omega
    refine ⟨.slc b 0 (ps.length + ys.length) (.op 1), M.put b (.row (U64.row (ps ++ ys) ++ repL [N .u64 0] (k - ys.length)) true T 0), ?_, ?_⟩
    · simp only [appM, if_neg h0, hb]
      rw [if_pos (by simp), if_pos hfit, RM.stores_of hb, storesL_some (by rw [hrl, List.length_append, hpl, (repL_one k).1]; omega) (by omega) (U64.row_all ys)]
      simp only [Option.map_some]
      congr 4
      rw [Enc.row_append]
      have e1 : (U64.row ps ++ repL [N .u64 0] k).take (0 + ps.length * 1) = U64.row ps := by rw [List.take_left' (by omega)]
      have e2 : (U64.row ps ++ repL [N .u64 0] k).drop (0 + ps.length * 1 + (U64.row ys).length) = repL [N .u64 0] (k - ys.length) := by
        have : k = ys.length + (k - ys.length) := by omega
        rw [show repL [N .u64 0] k = repL [N .u64 0] ys.length ++ repL [N .u64 0] (k - ys.length) by rw [← repL_add]; congr 1, ← List.append_assoc, List.drop_left' (by rw [List.length_append, hpl, (repL_one _).1, hrl]; omega)]
      rw [e1, e2]
    · have := hK _ (heap_put_eq _) ((Keep.refl _ _).put _ (.inr (by simp))) rfl
      rw [List.length_append] at this
      exact this

/-- Two slices, one behind the other. -/
def ConcatC (T : Nat) (c : CallT) : Prop := ∀ {M : RM} {bb TS : Nat} {v w : AV} {xs ys : List Nat} {Q : PostV}, M.heap bb = some (.row [v, w] false TS 0) → bb < M.next → Sl U64 M v xs → Sl U64 M w ys → xs.length ≤ 1000000 → ys.length ≤ 1000000 →
  (∀ r M', Ow U64 M' M.next T r (xs ++ ys) → Keep [] M M' → Q r M') → c [.slc bb 0 2 (.ex 2)] M Q
theorem concat_spec {TS T : Nat} {cg : CallT} (hg : GrowC T cg) : ConcatC T fun args M Q => ∃ a0, args = [a0] ∧ W_slices_Concat_uint64_uint64 TS cg T a0 M Q := by
  intro M bb TB v w xs ys Q hb hbl hv hw hx hy hQ
  refine ⟨_, rfl, ?_⟩
  unfold W_slices_Concat_uint64_uint64
  simp only [joinW_eq]
  have at0 : ∀ K : AV → Prop, idxS (.slc bb 0 2 (.ex 2)) (N .i64 ((0 : Nat) : Int)) 1 K = K (.ptr bb 0) := fun K => by
    rw [idxS_slc]; exact propext ⟨fun h => h.2.2, fun h => ⟨by decide, by decide, h⟩⟩
  have at1 : ∀ K : AV → Prop, idxS (.slc bb 0 2 (.ex 2)) (N .i64 ((1 : Nat) : Int)) 1 K = K (.ptr bb 1) := fun K => by
    rw [idxS_slc]; exact propext ⟨fun h => h.2.2, fun h => ⟨by decide, by decide, h⟩⟩
  rw [lenW_slc]
  have len3 : ∀ (p0 : Nat), p0 = 0 ∨ p0 = xs.length ∨ p0 = xs.length + ys.length → True := fun _ _ => trivial
  refine loopW_ind (fun m zs M3 => ∃ i : Nat, m = 2 - i ∧ i ≤ 2 ∧ zs = [N .i64 ((if i = 0 then 0 else if i = 1 then xs.length else xs.length + ys.length : Nat) : Int), N .i64 (i : Int)] ∧ M3 = M) _ ⟨0, rfl, by omega, rfl, rfl⟩ ?_
  rintro next m zs M3 hnext ⟨i, rfl, hi, rfl, rfl⟩
  dsimp only [nthD]
  rw [intW_lss]
  obtain rfl | rfl | rfl : i = 0 ∨ i = 1 ∨ i = 2 := by omega
  · rw [show decide (((0 : Nat) : Int) < ((2 : Nat) : Int)) = true from rfl, condT, at0, load1_at hb rfl, SlR.len hv]
    simp only [if_true]
    rw [intW_add, show ((0 : Nat) : Int) + (xs.length : Int) = (xs.length : Int) by omega, wrap_i64_id (by omega) (by omega), intW_lss, show decide ((xs.length : Int) < 0) = false by simp, condF, intW_add, i64_succ (by omega)]
    exact hnext _ _ _ (by omega) ⟨1, rfl, by omega, rfl, rfl⟩
  · rw [show decide (((1 : Nat) : Int) < ((2 : Nat) : Int)) = true from rfl, condT, at1, load1_at hb rfl, SlR.len hw]
    simp only [if_true, show ¬ (1 : Nat) = 0 by omega, if_false]
    rw [intW_add, show (xs.length : Int) + (ys.length : Int) = ((xs.length + ys.length : Nat) : Int) by omega, wrap_i64_id (by omega) (by omega), intW_lss, show decide (((xs.length + ys.length : Nat) : Int) < 0) = false by simp; omega, condF, intW_add, i64_succ (by omega)]
    exact hnext _ _ _ (by omega) ⟨2, rfl, by omega, rfl, rfl⟩
  · rw [show decide (((2 : Nat) : Int) < ((2 : Nat) : Int)) = false from rfl, condF]
    simp only [show ¬ (2 : Nat) = 0 by omega, show ¬ (2 : Nat) = 1 by omega, if_false]
    refine hg (by omega) (fun h0 => ?_) (fun hpos b M4 hb0 hb1 hrow k4 => ?_)
    · -- nothing
      have e1 : xs = [] := List.length_eq_zero_iff.1 (by omega)
      have e2 : ys = [] := List.length_eq_zero_iff.1 (by omega)
      subst e1 e2
      rw [lenW_slc]
      refine loopW_ind (fun m zs M5 => ∃ i : Nat, m = 2 - i ∧ i ≤ 2 ∧ zs = [nilS, N .i64 (i : Int)] ∧ M5 = M3) _ ⟨0, rfl, by omega, rfl, rfl⟩ ?_
      rintro next2 m zs M5 hnext2 ⟨i, rfl, hi, rfl, rfl⟩
      dsimp only [nthD]
      rw [intW_lss]
      have app : ∀ (u : AV) (K : PostV), Sl U64 M5 u [] → K nilS M5 → appW T 1 8 [N .u64 0] false nilS u M5 K := fun u K hu hK => by
        refine ⟨0, [], ?_, by omega, by omega, nilS, M5, by simp [appM], hK⟩
        exact SlR.newL hu _
      obtain rfl | rfl | rfl : i = 0 ∨ i = 1 ∨ i = 2 := by omega
      · rw [show decide (((0 : Nat) : Int) < ((2 : Nat) : Int)) = true from rfl, condT, at0, load1_at hb rfl]
        refine app _ _ hv ?_
        rw [intW_add, i64_succ (by omega)]
        exact hnext2 _ _ _ (by omega) ⟨1, rfl, by omega, rfl, rfl⟩
      · rw [show decide (((1 : Nat) : Int) < ((2 : Nat) : Int)) = true from rfl, condT, at1, load1_at hb rfl]
        refine app _ _ hw ?_
        rw [intW_add, i64_succ (by omega)]
        exact hnext2 _ _ _ (by omega) ⟨2, rfl, by omega, rfl, rfl⟩
      · rw [show decide (((2 : Nat) : Int) < ((2 : Nat) : Int)) = false from rfl, condF]
        exact hQ nilS M5 .nil (Keep.refl _ _)
    · rw [lenW_slc]
      have hbb : bb ≠ b := by omega
      refine loopW_ind (fun m zs M5 => ∃ i : Nat, m = 2 - i ∧ i ≤ 2 ∧ zs = [.slc b 0 (if i = 0 then ([] : List Nat) else if i = 1 then xs else xs ++ ys).length (.op 1), N .i64 (i : Int)] ∧ Keep [b] M4 M5 ∧ M5.next = M4.next ∧
          M5.heap b = some (.row (U64.row (if i = 0 then [] else if i = 1 then xs else xs ++ ys) ++ repL [N .u64 0] (xs.length + ys.length - (if i = 0 then ([] : List Nat) else if i = 1 then xs else xs ++ ys).length)) true T 0)) _
        ⟨0, rfl, by omega, rfl, Keep.refl _ _, rfl, by simpa [Enc.row] using hrow⟩ ?_
      rintro next2 m zs M5 hnext2 ⟨i, rfl, hi, rfl, k5, n5, hrow5⟩
      dsimp only [nthD]
      rw [intW_lss]
      have hb4 := k4.heap_of hb hbl (by simp)
      have hb5 := k5.heap_of hb4 (by omega) (by simp; exact hbb)
      have hv5 : Sl U64 M5 v xs := SlR.keep (SlR.keep hv k4 (by simp)) k5 (fun d hd hm => by have := SlR.lt hv d hd; simp at hm; omega)
      have hw5 : Sl U64 M5 w ys := SlR.keep (SlR.keep hw k4 (by simp)) k5 (fun d hd hm => by have := SlR.lt hw d hd; simp at hm; omega)
      obtain rfl | rfl | rfl : i = 0 ∨ i = 1 ∨ i = 2 := by omega
      · rw [show decide (((0 : Nat) : Int) < ((2 : Nat) : Int)) = true from rfl, condT, at0, load1_at hb5 rfl]
        simp only [if_true] at hrow5 ⊢
        refine fill_app hrow5 hv5 (by simp) hx fun M6 hrow6 k6 n6 => ?_
        rw [intW_add, i64_succ (by omega)]
        refine hnext2 _ _ _ (by omega) ⟨1, rfl, by omega, by simp, k5.trans k6, n6.trans n5, ?_⟩
        simp at hrow6 ⊢
        exact hrow6
      · rw [show decide (((1 : Nat) : Int) < ((2 : Nat) : Int)) = true from rfl, condT, at1, load1_at hb5 rfl]
        simp only [if_true, show ¬ (1 : Nat) = 0 by omega, if_false] at hrow5 ⊢
        refine fill_app hrow5 hw5 (by omega) hy fun M6 hrow6 k6 n6 => ?_
        rw [intW_add, i64_succ (by omega)]
        refine hnext2 _ _ _ (by omega) ⟨2, rfl, by omega, by simp, k5.trans k6, n6.trans n5, ?_⟩
        simp at hrow6 ⊢
        exact hrow6
      · rw [show decide (((2 : Nat) : Int) < ((2 : Nat) : Int)) = false from rfl, condF]
        simp only [show ¬ (2 : Nat) = 0 by omega, show ¬ (2 : Nat) = 1 by omega, if_false, List.length_append, Nat.sub_self, repL, List.append_nil] at hrow5 ⊢
        refine hQ _ M5 ?_ (k4.then_new k5 (by simp; omega))
        rw [Ow, List.length_append]
        exact .op b _ _ (by omega) (by omega) hrow5 (by rw [Enc.row_len, List.length_append])
end Go.Ab.Dot
/- Plain laws of sets of dots: bytes tell the set; the form tells the set; within one another is the same. By an AI agent. -/
set_option maxRecDepth 10000
set_option linter.unusedVariables false
set_option linter.unusedSimpArgs false
namespace Go.Ab.Dot
open Go Go.Ab

/-! ### bytes -/
theorem uintB_inj : ∀ (v w : Nat) (r s : List UInt8), uintB v ++ r = uintB w ++ s → v = w ∧ r = s := by
  intro v
  induction v using Nat.strongRecOn with
  | _ v ih =>
    intro w r s h
    have eqb : ∀ x y : Nat, UInt8.ofNat x = UInt8.ofNat y → x < 256 → y < 256 → x = y := fun x y h hx hy => by
      have := congrArg UInt8.toNat h
      rw [u8_nat, u8_nat] at this
      omega
    by_cases hv : v < 128 <;> by_cases hw : w < 128
    · rw [uintB_lt hv, uintB_lt hw] at h
      simp only [List.singleton_append, List.cons.injEq] at h
      exact ⟨eqb _ _ h.1 (by omega) (by omega), h.2⟩
    · rw [uintB_lt hv, uintB_ge hw] at h
      simp only [List.cons_append, List.nil_append, List.cons.injEq] at h
      have := eqb _ _ h.1 (by omega) (by omega)
      omega
    · rw [uintB_ge hv, uintB_lt hw] at h
      simp only [List.cons_append, List.nil_append, List.cons.injEq] at h
      have := eqb _ _ h.1 (by omega) (by omega)
      omega
    · rw [uintB_ge hv, uintB_ge hw] at h
      simp only [List.cons_append, List.cons.injEq] at h
      have h1 := eqb _ _ h.1 (by omega) (by omega)
      have h2 := ih (v / 128) (by omega) (w / 128) r s h.2
      exact ⟨by omega, h2.2⟩
theorem sub64_inj {x y a : Nat} (hx : x < 2 ^ 64) (hy : y < 2 ^ 64) (ha : a < 2 ^ 64) (h : sub64 x a = sub64 y a) : x = y := by
  unfold sub64 at h
  omega
theorem gapsB_inj : ∀ (xs ys : List Nat) (a : Nat) (r s : List UInt8), a < 2 ^ 64 → (∀ x ∈ xs, x < 2 ^ 64) → (∀ y ∈ ys, y < 2 ^ 64) → xs.length = ys.length → gapsB a xs ++ r = gapsB a ys ++ s → xs = ys ∧ r = s
  | [], [], _, _, _, _, _, _, _, h => ⟨rfl, h⟩
  | [], y :: ys, _, _, _, _, _, _, h, _ => by simp at h
  | x :: xs, [], _, _, _, _, _, _, h, _ => by simp at h
  | x :: xs, y :: ys, a, r, s, ha, hx, hy, hl, h => by
    rw [gapsB, gapsB, List.append_assoc, List.append_assoc] at h
    obtain ⟨h1, h2⟩ := uintB_inj _ _ _ _ h
    have hxy := sub64_inj (hx x (by simp)) (hy y (by simp)) ha h1
    subst hxy
    obtain ⟨h3, h4⟩ := gapsB_inj xs ys x r s (hx x (by simp)) (fun z hz => hx z (by simp [hz])) (fun z hz => hy z (by simp [hz])) (by simpa using hl) h2
    exact ⟨by rw [h3], h4⟩
theorem encP_inj {p q : PartT} {r s : List UInt8} (hp : Bd (p.1.2, p.2)) (hq : Bd (q.1.2, q.2)) (h : encP p ++ r = encP q ++ s) : p = q ∧ r = s := by
  unfold encP at h
  simp only [List.append_assoc] at h
  obtain ⟨h1, h⟩ := uintB_inj _ _ _ _ h
  obtain ⟨h2, h⟩ := uintB_inj _ _ _ _ h
  obtain ⟨h3, h⟩ := uintB_inj _ _ _ _ h
  rw [h2] at h
  obtain ⟨h4, h⟩ := gapsB_inj _ _ _ _ _ (hq.1) hp.2.2 hq.2.2 h3 h
  exact ⟨Prod.ext (Prod.ext h1 h2) h4, h⟩
theorem flat_inj : ∀ (ls ks : List PartT) (r s : List UInt8), (∀ x ∈ ls, Bd (x.1.2, x.2)) → (∀ x ∈ ks, Bd (x.1.2, x.2)) → ls.length = ks.length → ls.flatMap encP ++ r = ks.flatMap encP ++ s → ls = ks
  | [], [], _, _, _, _, _, _ => rfl
  | [], y :: ys, _, _, _, _, h, _ => by simp at h
  | x :: xs, [], _, _, _, _, h, _ => by simp at h
  | x :: xs, y :: ys, r, s, hx, hy, hl, h => by
    rw [List.flatMap_cons, List.flatMap_cons, List.append_assoc, List.append_assoc] at h
    obtain ⟨h1, h2⟩ := encP_inj (hx x (by simp)) (hy y (by simp)) h
    rw [h1, flat_inj xs ys r s (fun z hz => hx z (by simp [hz])) (fun z hz => hy z (by simp [hz])) (by simpa using hl) h2]
theorem encL_inj {ls ks : List PartT} (h1 : ∀ x ∈ ls, Bd (x.1.2, x.2)) (h2 : ∀ x ∈ ks, Bd (x.1.2, x.2)) (h : encL ls = encL ks) : ls = ks := by
  unfold encL at h
  obtain ⟨e1, e2⟩ := uintB_inj _ _ _ _ h
  refine flat_inj ls ks [] [] h1 h2 e1 ?_
  rw [List.append_nil, List.append_nil]; exact e2

/-! ### the form -/
theorem mem_partsT {ps : List Pt} {j : Nat} : ∀ {i : Nat}, j < i → (0 < (ps.getD j (0, [])).1 ∨ 0 < (ps.getD j (0, [])).2.length) → ((j, (ps.getD j (0, [])).1), (ps.getD j (0, [])).2) ∈ partsT ps i
  | 0, h, _ => by omega
  | i + 1, h, hn => by
    rw [partsT, List.mem_append]
    rcases Nat.lt_or_ge j i with hj | hj
    · exact .inl (mem_partsT hj hn)
    · have : j = i := by omega
      subst this
      rw [if_pos hn]
      exact .inr (by simp)
theorem getD_of_parts {ps : List Pt} {j : Nat} (hj : j < 16) (hn : ¬ (0 < (ps.getD j (0, [])).1 ∨ 0 < (ps.getD j (0, [])).2.length)) : ps.getD j (0, []) = (0, []) := by
  have h1 : (ps.getD j (0, [])).1 = 0 := by omega
  have h2 : (ps.getD j (0, [])).2 = [] := List.length_eq_zero_iff.1 (by omega)
  exact Prod.ext h1 h2
theorem parts_sub {ps qs : List Pt} {j : Nat} (h : parts ps = parts qs) (hj : j < 16) (hn : 0 < (ps.getD j (0, [])).1 ∨ 0 < (ps.getD j (0, [])).2.length) : ps.getD j (0, []) = qs.getD j (0, []) := by
  have h1 := mem_partsT (i := 16) hj hn
  rw [show partsT ps 16 = partsT qs 16 from h] at h1
  obtain ⟨k, h2, h3⟩ := partsT_mem h1
  simp only [Prod.mk.injEq] at h3
  obtain ⟨⟨rfl, h4⟩, h5⟩ := h3
  exact Prod.ext h4 h5
theorem ext16 {ps qs : List Pt} (h1 : ps.length = 16) (h2 : qs.length = 16) (h : ∀ j, j < 16 → ps.getD j (0, []) = qs.getD j (0, [])) : ps = qs := by
  refine List.ext_getElem (by omega) fun j hj hj' => ?_
  have := h j (by omega)
  rw [List.getD_eq_getElem?_getD, List.getD_eq_getElem?_getD, List.getElem?_eq_getElem hj, List.getElem?_eq_getElem hj'] at this
  exact this
theorem parts_inj {ps qs : List Pt} (h1 : ps.length = 16) (h2 : qs.length = 16) (h : parts ps = parts qs) : ps = qs := by
  refine ext16 h1 h2 fun j hj => ?_
  by_cases hp : 0 < (ps.getD j (0, [])).1 ∨ 0 < (ps.getD j (0, [])).2.length
  · exact parts_sub h hj hp
  · by_cases hq : 0 < (qs.getD j (0, [])).1 ∨ 0 < (qs.getD j (0, [])).2.length
    · exact (parts_sub h.symm hj hq).symm
    · rw [getD_of_parts hj hp, getD_of_parts hj hq]
theorem encS_inj {ps qs : List Pt} (h1 : ps.length = 16) (h2 : qs.length = 16) (b1 : ∀ p ∈ ps, Bd p) (b2 : ∀ p ∈ qs, Bd p) (h : encS ps = encS qs) : ps = qs :=
  parts_inj h1 h2 (encL_inj (fun x hx => (parts_bd b1 hx).2) (fun x hx => (parts_bd b2 hx).2) h)

/-! ### within one another -/
theorem asc_ext : ∀ {xs ys : List Nat}, Asc xs → Asc ys → (∀ x, x ∈ xs ↔ x ∈ ys) → xs = ys
  | [], [], _, _, _ => rfl
  | [], y :: ys, _, _, h => by have := (h y).2 (by simp); simp at this
  | x :: xs, [], _, _, h => by have := (h x).1 (by simp); simp at this
  | x :: xs, y :: ys, h1, h2, h => by
    have a1 := List.pairwise_cons.1 h1
    have a2 := List.pairwise_cons.1 h2
    have hxy : x = y := by
      rcases List.mem_cons.1 ((h x).1 (by simp)) with e | e
      · exact e
      · rcases List.mem_cons.1 ((h y).2 (by simp)) with e' | e'
        · exact e'.symm
        · have := a2.1 x e; have := a1.1 y e'; omega
    subst hxy
    refine congrArg (x :: ·) (asc_ext a1.2 a2.2 fun z => ⟨fun hz => ?_, fun hz => ?_⟩)
    · rcases List.mem_cons.1 ((h z).1 (by simp [hz])) with e | e
      · subst e; have := a1.1 z hz; omega
      · exact e
    · rcases List.mem_cons.1 ((h z).2 (by simp [hz])) with e | e
      · subst e; have := a2.1 z hz; omega
      · exact e
theorem within_sub {p q : Pt} (hp : WfP p) (h : withinP p q = true) (he : p.1 = q.1) : ∀ x ∈ p.2, x ∈ q.2 := fun x hx => by
  unfold withinP at h
  simp only [Bool.and_eq_true, List.all_eq_true, decide_eq_true_eq] at h
  have h1 := h.2 x hx
  have h2 := hp.2.1 x hx
  unfold hasP at h1
  simp only [Bool.or_eq_true, Bool.and_eq_true, decide_eq_true_eq] at h1
  rcases h1 with h1 | h1
  · omega
  · exact h1
theorem withinP_anti {p q : Pt} (hp : WfP p) (hq : WfP q) (h1 : withinP p q = true) (h2 : withinP q p = true) : p = q := by
  have e : p.1 = q.1 := by
    have a := h1
    have b := h2
    unfold withinP at a b
    simp only [Bool.and_eq_true, decide_eq_true_eq] at a b
    omega
  exact Prod.ext e (asc_ext hp.1 hq.1 fun x => ⟨within_sub hp h1 e x, within_sub hq h2 e.symm x⟩)
theorem withinP_refl (p : Pt) : withinP p p = true := by
  unfold withinP
  simp only [Bool.and_eq_true, List.all_eq_true, decide_eq_true_eq]
  refine ⟨Nat.le_refl _, fun x hx => ?_⟩
  unfold hasP
  simp [hx]
theorem withinS_refl (ps : List Pt) : withinS ps ps = true := withinS_iff.2 fun i _ => withinP_refl _
theorem same_law {ps qs : List Pt} (h1 : ps.length = 16) (h2 : qs.length = 16) (w1 : ∀ p ∈ ps, WfP p) (w2 : ∀ p ∈ qs, WfP p) : (encS ps == encS qs) = (withinS ps qs && withinS qs ps) := by
  by_cases h : ps = qs
  · subst h
    rw [withinS_refl]; simp
  · have e1 : (encS ps == encS qs) = false := by
      rw [beq_eq_false_iff_ne]
      exact fun he => h (encS_inj h1 h2 (fun p hp => (w1 p hp).bd) (fun p hp => (w2 p hp).bd) he)
    rw [e1]
    symm
    rw [Bool.eq_false_iff]
    intro hw
    simp only [Bool.and_eq_true] at hw
    exact h (ext16 h1 h2 fun j hj => withinP_anti (getD_wf w1 j) (getD_wf w2 j) (withinS_iff.1 hw.1 j hj) (withinS_iff.1 hw.2 j hj))

/-! ### a set made anew from its form -/
theorem below_all {x : Nat} {xs : List Nat} (h : ∀ y ∈ xs, y < x) : below x xs = xs.length :=
  below_char (Nat.le_refl _) (fun k hk _ => h _ (List.getElem_mem hk)) fun hi => absurd hi (Nat.lt_irrefl _)
theorem settle_none {u : Nat} {xs : List Nat} (h : ∀ y ∈ xs, u + 1 < y) : settle u xs = (u, xs) := by
  cases xs with
  | nil => rfl
  | cons x xs =>
    have := h x (by simp)
    unfold settle
    rw [settleK, if_neg (by omega)]; rfl
theorem addP_next (n : Nat) : addP (n, []) (n + 1) = (true, (n + 1, [])) := by
  unfold addP
  rw [if_neg (by simp)]
  have e : settle n (insL (below (n + 1) []) (n + 1) []) = (n + 1, []) := by
    show settle n [n + 1] = _
    unfold settle
    rw [settleK, if_pos (by omega), settleK, show max n (n + 1) = n + 1 by omega]; rfl
  simp only [e]
  simp
theorem addP_more {u x : Nat} {xs : List Nat} (h1 : ∀ y ∈ xs, y < x) (h2 : ∀ y ∈ xs, u + 1 < y) (h3 : u + 1 < x) (hl : xs.length < 4096) : addP (u, xs) x = (true, (u, xs ++ [x])) := by
  unfold addP
  rw [if_neg (by simp only [not_or]; exact ⟨fun hm => by have := h1 x hm; omega, by omega⟩)]
  have e : settle u (insL (below x xs) x xs) = (u, xs ++ [x]) := by
    rw [below_all h1]
    have : insL xs.length x xs = xs ++ [x] := by simp [insL]
    rw [this]
    exact settle_none fun y hy => by
      rcases List.mem_append.1 hy with hy | hy
      · exact h2 y hy
      · simp at hy; omega
  simp only [e]
  rw [if_pos (by simp; omega)]
theorem addS_at {u : List Pt} {dv n : Nat} {p q : Pt} (hd : dv < 16) (hn : 1 ≤ n) (hn2 : n ≤ 1099511627776) (hp : u.getD dv (0, []) = p) (h : addP p n = (true, q)) : addS u ((dv : Int), n) = (0, u.set dv q) := by
  unfold addS
  have hg : good ((dv : Int), n) = true := by
    simp [good]; omega
  rw [if_pos hg]
  simp only [Int.toNat_natCast]
  rw [hp, h]
  simp

/-- The set of some parts. -/
def setsOf (ls : List PartT) : List Pt := ls.foldl (fun u x => u.set x.1.1 (x.1.2, x.2)) emptyS
theorem setsOf_snoc (ls : List PartT) (x : PartT) : setsOf (ls ++ [x]) = (setsOf ls).set x.1.1 (x.1.2, x.2) := by simp [setsOf]
theorem setsOf_len (ls : List PartT) : (setsOf ls).length = 16 := by
  have : ∀ (ls : List PartT) (u : List Pt), u.length = 16 → (ls.foldl (fun u x => u.set x.1.1 (x.1.2, x.2)) u).length = 16 := by
    intro ls
    induction ls with
    | nil => intro u h; exact h
    | cons x xs ih => intro u h; exact ih _ (by rw [List.length_set]; exact h)
  exact this ls emptyS rfl
theorem getD_set_ne {u : List Pt} {i j : Nat} {p : Pt} (h : i ≠ j) : (u.set i p).getD j (0, []) = u.getD j (0, []) := by
  rw [List.getD_eq_getElem?_getD, List.getD_eq_getElem?_getD, List.getElem?_set_ne h]
theorem empty_getD (j : Nat) : emptyS.getD j (0, []) = (0, []) := by
  rw [List.getD_eq_getElem?_getD]
  unfold emptyS
  by_cases h : j < 16
  · rw [List.getElem?_replicate, if_pos h]; rfl
  · rw [List.getElem?_replicate, if_neg h]; rfl
theorem setsOf_parts {ps : List Pt} : ∀ (i : Nat), i ≤ 16 → ∀ j, (setsOf (partsT ps i)).getD j (0, []) = if j < i then ps.getD j (0, []) else (0, [])
  | 0, _, j => by
    rw [partsT, if_neg (by omega)]
    exact empty_getD j
  | i + 1, hi, j => by
    have ih := setsOf_parts (ps := ps) i (by omega)
    rw [partsT]
    by_cases hn : 0 < (ps.getD i (0, [])).1 ∨ 0 < (ps.getD i (0, [])).2.length
    · rw [if_pos hn, setsOf_snoc]
      by_cases hj : i = j
      · subst hj
        rw [getD_set_self (by rw [setsOf_len]; show i < 16; omega), if_pos (by omega)]
      · rw [getD_set_ne hj, ih j]
        by_cases h1 : j < i
        · rw [if_pos h1, if_pos (by omega)]
        · rw [if_neg h1, if_neg (by omega)]
    · rw [if_neg hn, List.append_nil, ih j]
      by_cases h1 : j < i
      · rw [if_pos h1, if_pos (by omega)]
      · rw [if_neg h1]
        by_cases h2 : j = i
        · subst h2
          rw [if_pos (by omega), getD_of_parts (by omega) hn]
        · rw [if_neg (by omega)]
theorem setsOf_all {ps : List Pt} (h : ps.length = 16) : setsOf (parts ps) = ps :=
  ext16 (setsOf_len _) h fun j hj => by rw [parts, setsOf_parts 16 (Nat.le_refl _) j, if_pos hj]
theorem parts_rise {ps : List Pt} : ∀ (i : Nat), (partsT ps i).Pairwise fun a b => a.1.1 < b.1.1
  | 0 => .nil
  | i + 1 => by
    rw [partsT, List.pairwise_append]
    refine ⟨parts_rise i, ?_, fun a ha b hb => ?_⟩
    · split
      · exact List.pairwise_singleton _ _
      · exact .nil
    · obtain ⟨k, h1, h2⟩ := partsT_mem ha
      split at hb
      · simp only [List.mem_singleton] at hb
        subst h2 hb
        exact h1
      · simp at hb
theorem setsOf_free : ∀ (ls : List PartT) (j : Nat), (∀ x ∈ ls, x.1.1 ≠ j) → (setsOf ls).getD j (0, []) = (0, []) := by
  intro ls
  have : ∀ (ls : List PartT) (u : List Pt) (j : Nat), (∀ x ∈ ls, x.1.1 ≠ j) → (ls.foldl (fun u x => u.set x.1.1 (x.1.2, x.2)) u).getD j (0, []) = u.getD j (0, []) := by
    intro ls
    induction ls with
    | nil => intro u j h; rfl
    | cons x xs ih =>
      intro u j h
      rw [List.foldl_cons, ih _ j (fun y hy => h y (by simp [hy])), getD_set_ne (h x (by simp))]
  intro j h
  rw [setsOf, this ls _ j h, empty_getD]
end Go.Ab.Dot
/- Join, Copy: the walks. By an AI agent. -/
set_option maxRecDepth 10000
set_option linter.unusedVariables false
set_option linter.unusedSimpArgs false
namespace Go.Ab.Dot
open Go Go.Ab

theorem SetH.put {T i u a : Nat} {S S' : Nat → Prop} {M M' : RM} {ps : List Pt} {l : List AV} {v' : AV} {xs : List Nat} {ks : List Nat} (h : SetH T S M a ps) (hl : M.heap a = some (.row l false T 0)) (hi : i < 16)
    (hb : M'.heap a = some (.row ((l.set (2 * i) (N .u64 (u : Int))).set (2 * i + 1) v') false T 0)) (hk : Keep ks M M') (hks : ∀ d ∈ ks, d = a ∨ ¬ S d) (hs : Sl U64 M' v' xs) (hc : capOk v') (hv : ∀ d ∈ blkOf v', S' d) (hS : ∀ d, S d → S' d) (ha : ¬ S' a) : SetH T S' M' a (ps.set i (u, xs)) := by
  obtain ⟨l0, h1, h2, h3⟩ := h.row
  rw [hl] at h1
  obtain rfl : l = l0 := by simpa using h1
  refine ⟨Nat.lt_of_lt_of_le h.lt hk.next, by rw [List.length_set]; exact h.len, ⟨_, hb, by simp [h2], fun j hj => ?_⟩, ha⟩
  have hj' : j < ps.length := by rw [List.length_set] at hj; exact hj
  have hj16 : j < 16 := by rw [← h.len]; exact hj'
  by_cases hji : j = i
  · subst hji
    refine ⟨v', ?_, ?_, ?_, hc, hv⟩
    · rw [List.getElem?_set_ne (by omega), List.getElem?_set_self (by omega), List.getElem_set_self]
    · rw [List.getElem?_set_self (by simp; omega)]
    · rw [List.getElem_set_self]; exact hs
  · obtain ⟨w, b1, b2, b3, b4, b5⟩ := h3 j hj'
    refine ⟨w, ?_, ?_, ?_, b4, fun d hd => hS d (b5 d hd)⟩
    · rw [List.getElem?_set_ne (by omega), List.getElem?_set_ne (by omega), List.getElem_set_ne (Ne.symm hji)]; exact b1
    · rw [List.getElem?_set_ne (by omega), List.getElem?_set_ne (by omega)]; exact b2
    · rw [List.getElem_set_ne (Ne.symm hji)]
      refine SlR.keep b3 hk fun d hd hm => ?_
      rcases hks d hm with rfl | h'
      · exact h.nb (b5 d hd)
      · exact h' (b5 d hd)

def joinPt (f g : List Nat → List Nat) (p q : Pt) : Pt := settle (max p.1 q.1) (g (f (p.2 ++ q.2)))
def joinT (f g : List Nat → List Nat) (ps qs : List Pt) : Nat → List Pt
  | 0 => ps
  | i + 1 => (joinT f g ps qs i).set i (joinPt f g (ps.getD i (0, [])) (qs.getD i (0, [])))
theorem joinT_ge {f g : List Nat → List Nat} {ps qs : List Pt} : ∀ {i j : Nat}, i ≤ j → (joinT f g ps qs i).getD j (0, []) = ps.getD j (0, [])
  | 0, j, _ => rfl
  | i + 1, j, h => by rw [joinT, getD_set_ne (by omega), joinT_ge (by omega)]

def JoinC (P : List Nat → Prop) (P2 : List Nat → Prop) (f g : List Nat → List Nat) (T : Nat) (c : CallT) : Prop := ∀ {M : RM} {a b : Nat} {ps qs : List Pt} {S S' : Nat → Prop} {Q : PostV}, SetH T S M a ps → SetH T S' M b qs → (a = b → ps = qs) → ¬ S' a →
  (∀ i, i < 16 → P ((ps.getD i (0, [])).2 ++ (qs.getD i (0, [])).2) ∧ P2 (f ((ps.getD i (0, [])).2 ++ (qs.getD i (0, [])).2))) → (∀ p ∈ ps, p.1 ≤ 4398046511104 ∧ p.2.length ≤ 100000) → (∀ p ∈ qs, p.1 ≤ 4398046511104 ∧ p.2.length ≤ 100000) →
  (∀ i, i < 16 → (g (f ((ps.getD i (0, [])).2 ++ (qs.getD i (0, [])).2))).length ≤ 1000000 ∧ ∀ x ∈ g (f ((ps.getD i (0, [])).2 ++ (qs.getD i (0, [])).2)), x ≤ 4398046511104) →
  (∀ M', SetH T (fun e => S e ∨ M.next ≤ e) M' a (joinT f g ps qs 16) → Keep [a] M M' → Q (.tup []) M') → c [.ptr a 0, .ptr b 0] M Q
theorem getD_all {ps : List Pt} {R : Pt → Prop} (h : ∀ p ∈ ps, R p) (h0 : R (0, [])) (i : Nat) : R (ps.getD i (0, [])) := by
  rw [List.getD_eq_getElem?_getD]
  by_cases hj : i < ps.length
  · rw [List.getElem?_eq_getElem hj]; exact h _ (List.getElem_mem hj)
  · rw [List.getElem?_eq_none (by omega)]; exact h0

theorem join_spec {TS TP TL TU : Nat} {P P2 : List Nat → Prop} {f g : List Nat → List Nat} {cc cs ck ct : CallT} (hc : ConcatC TU cc) (hs : SortC P f TU cs) (hk : CompactC P2 g TU ck) (ht : SettledC ct) :
    JoinC P P2 f g TS fun args M Q => ∃ a0 a1, args = [a0, a1] ∧ W_rolodex_dot_Set_Join TP TL cc cs ck ct a0 a1 M Q := by
  intro M a b ps qs S S' Q hA hB hab hSa hP hbp hbq hres hQ
  refine ⟨_, _, rfl, ?_⟩
  unfold W_rolodex_dot_Set_Join
  have hal := hA.lt
  have hbl := hB.lt
  refine loopW_ind (fun m ys M3 => ∃ (i : Nat), m = 16 - i ∧ ys = [N .i64 (i : Int)] ∧ i ≤ 16 ∧ Keep [a] M M3 ∧ SetH TS (fun e => S e ∨ M.next ≤ e) M3 a (joinT f g ps qs i)) _
    ⟨0, rfl, rfl, Nat.zero_le _, Keep.refl _ _, hA.mono (fun e h => .inl h) (fun h => by rcases h with h | h; exact hA.nb h; omega)⟩ ?_
  rintro next m ys M3 hnext ⟨i, rfl, rfl, hi, k3, hA3⟩
  dsimp only [nthD]
  rw [intW_lss]
  refine condB (fun hlt => ?_) (fun hge => ?_)
  · have hlt : i < 16 := by
      have : (i : Int) < 16 := of_decide_eq_true hlt
      omega
    have n3 := k3.next
    -- the second set's part
    have hB3 : ∃ l w, M3.heap b = some (.row l false TS 0) ∧ l.length = 32 ∧ l[2 * i]? = some (N .u64 ((qs.getD i (0, [])).1 : Int)) ∧ l[2 * i + 1]? = some w ∧ Sl U64 M3 w (qs.getD i (0, [])).2 ∧ a ∉ blkOf w := by
      by_cases e : a = b
      · subst e
        have e2 := hab rfl
        obtain ⟨l, h1, h2, h3⟩ := hA3.row
        have hil : i < (joinT f g ps qs i).length := by rw [hA3.len]; exact hlt
        obtain ⟨w, b1, b2, b3, b4, b5⟩ := h3 i hil
        have hD := joinT_ge (f := f) (g := g) (ps := ps) (qs := qs) (Nat.le_refl i)
        rw [List.getD_eq_getElem?_getD, List.getElem?_eq_getElem hil, Option.getD_some] at hD
        rw [hD, e2] at b1
        rw [hD, e2] at b3
        exact ⟨l, w, h1, h2, b1, b2, b3, fun hm => hA3.nb (b5 a hm)⟩
      · obtain ⟨l, h1, h2, h3⟩ := hB.row
        have hil : i < qs.length := by rw [hB.len]; exact hlt
        obtain ⟨w, b1, b2, b3, b4, b5⟩ := h3 i hil
        have hD : qs.getD i (0, []) = qs[i] := by rw [List.getD_eq_getElem?_getD, List.getElem?_eq_getElem hil]; rfl
        rw [hD]
        exact ⟨l, w, k3.heap_of h1 hbl (by simp; exact fun h => e h.symm), h2, b1, b2, SlR.keep b3 k3 (fun d hd hm => by simp at hm; subst hm; exact hSa (b5 d hd)), fun hm => hSa (b5 a hm)⟩
    obtain ⟨lb, qw, hb3, hlb32, q1, q2, q3, q4⟩ := hB3
    obtain ⟨la, ha3, hla32, hrow⟩ := hA3.row
    have hil : i < (joinT f g ps qs i).length := by rw [hA3.len]; exact hlt
    obtain ⟨pw, p1, p2, p3, p4, p5⟩ := hrow i hil
    have hD := joinT_ge (f := f) (g := g) (ps := ps) (qs := qs) (Nat.le_refl i)
    rw [List.getD_eq_getElem?_getD, List.getElem?_eq_getElem hil, Option.getD_some] at hD
    rw [hD] at p1 p3
    have bp := getD_all hbp ⟨by decide, by decide⟩ i
    have bq := getD_all hbq ⟨by decide, by decide⟩ i
    obtain ⟨hPi, hP2i⟩ := hP i hlt
    obtain ⟨hr1, hr2⟩ := hres i hlt
    have hnext' : ∀ M', Keep [a] M M' → SetH TS (fun e => S e ∨ M.next ≤ e) M' a ((joinT f g ps qs i).set i (joinPt f g (ps.getD i (0, [])) (qs.getD i (0, [])))) → next [N .i64 ((i + 1 : Nat) : Int)] M' := fun M' k h => hnext _ _ _ (by omega) ⟨i + 1, rfl, rfl, by omega, k, h⟩
    generalize ps.getD i (0, []) = p at *
    generalize qs.getD i (0, []) = q at *
    obtain ⟨pu, px⟩ := p
    obtain ⟨qu, qx⟩ := q
    simp only [joinPt] at *
    rw [ptrW_ptr, fld0, idxA_ptr]
    refine ⟨by omega, by omega, ?_⟩
    rw [ptrW_ptr, fld0, idxA_ptr]
    refine ⟨by omega, by omega, ?_⟩
    rw [Int.toNat_natCast, Nat.zero_add, Nat.mul_comm i 2, loadN_ptr]
    have hcut : M3.loads b (2 * i) 2 = some [N .u64 (qu : Int), qw] := by
      rw [RM.loads_row hb3 (by omega)]
      obtain ⟨r1, r2⟩ := List.getElem?_eq_some_iff.1 q1
      obtain ⟨r3, r4⟩ := List.getElem?_eq_some_iff.1 q2
      rw [List.drop_eq_getElem_cons r1, List.drop_eq_getElem_cons r3, r2, r4]; rfl
    refine ⟨_, hcut, ?_⟩
    have hq1 := SlR.one q3
    rw [newR_eq, storeW_all (n := 2) (x := .agg [N .u64 (qu : Int), qw]) (l := [N .u64 0, .sc (.slice none 0 0)]) (RM.push_new _) rfl rfl (by simp [AV.cells, hq1]; rfl)]
    have k4 : Keep [] M3 ((M3.push (.row [N .u64 0, .sc (.slice none 0 0)] false TP 0)).put M3.next (.row (AV.agg [N .u64 (qu : Int), qw]).cells false TP 0)) := ((Keep.refl _ _).push _).new _ (Nat.le_refl _)
    have h4 : ((M3.push (.row [N .u64 0, .sc (.slice none 0 0)] false TP 0)).put M3.next (.row (AV.agg [N .u64 (qu : Int), qw]).cells false TP 0)).heap M3.next = some (.row [N .u64 (qu : Int), qw] false TP 0) := heap_put_eq _
    have n4 : ((M3.push (.row [N .u64 0, .sc (.slice none 0 0)] false TP 0)).put M3.next (.row (AV.agg [N .u64 (qu : Int), qw]).cells false TP 0)).next = M3.next + 1 := rfl
    generalize (M3.push (.row [N .u64 0, .sc (.slice none 0 0)] false TP 0)).put M3.next (.row (AV.agg [N .u64 (qu : Int), qw]).cells false TP 0) = M4 at *
    have hal3 := hA3.lt
    have ha4 := k4.heap_of ha3 hal3 (by simp)
    rw [ptrW_ptr, fldW_ptr, Nat.add_zero, load1_at ha4 p1, fld0, load1_at h4 rfl, minW_N, if_pos rfl, max_wrap, ptrW_ptr, fldW_ptr, Nat.add_zero, storeW_at ha4 (by omega) rfl rfl]
    have k5 : Keep [a] M4 (M4.put a (.row (la.set (2 * i) (N .u64 ((max pu qu : Nat) : Int))) false TS 0)) := (Keep.refl _ _).put _ (.inr (by simp))
    have ha5 : (M4.put a (.row (la.set (2 * i) (N .u64 ((max pu qu : Nat) : Int))) false TS 0)).heap a = some (.row (la.set (2 * i) (N .u64 ((max pu qu : Nat) : Int))) false TS 0) := heap_put_eq _
    have n5 : (M4.put a (.row (la.set (2 * i) (N .u64 ((max pu qu : Nat) : Int))) false TS 0)).next = M4.next := rfl
    generalize M4.put a (.row (la.set (2 * i) (N .u64 ((max pu qu : Nat) : Int))) false TS 0) = M5 at *
    have h5 := k5.heap_of h4 (by omega) (by simp; omega)
    have p2' : (la.set (2 * i) (N .u64 ((max pu qu : Nat) : Int)))[2 * i + 1]? = some pw := by rw [List.getElem?_set_ne (by omega)]; exact p2
    rw [ptrW_ptr, fldW_ptr, load1_at ha5 p2', fld0, load1_at h5 rfl]
    have hapw : a ∉ blkOf pw := fun hm => hA3.nb (p5 a hm)
    have k35 : Keep [a] M3 M5 := (k4.mono (by simp)).trans k5
    have sp5 : Sl U64 M5 pw px := SlR.keep p3 k35 (fun d hd hm => by simp at hm; subst hm; exact hapw hd)
    have sq5 : Sl U64 M5 qw qx := SlR.keep q3 k35 (fun d hd hm => by simp at hm; subst hm; exact q4 hd)
    have hw1 := SlR.one sp5
    have hwc := SlR.cells sp5
    have hqc := SlR.cells sq5
    refine ⟨[pw, qw], by simp [fillO, repL, hwc, hqc, hw1, hq1], ?_⟩
    dsimp only
    rw [newR_eq]
    have k6 : Keep [] M5 (M5.push (.row [pw, qw] false TL 0)) := (Keep.refl _ _).push _
    have h6 : (M5.push (.row [pw, qw] false TL 0)).heap M5.next = some (.row [pw, qw] false TL 0) := RM.push_new _
    have n6 : (M5.push (.row [pw, qw] false TL 0)).next = M5.next + 1 := rfl
    generalize M5.push (.row [pw, qw] false TL 0) = M6 at *
    refine hc h6 (by omega) (SlR.keep sp5 k6 (by simp)) (SlR.keep sq5 k6 (by simp)) (by have := bp.2; omega) (by have := bq.2; omega) fun r M7 ho7 k7 => ?_
    have n7 := k7.next
    have k57 := k6.trans k7
    have ha7 := k57.heap_of ha5 (by omega) (by simp)
    rw [ptrW_ptr, fldW_ptr, storeW_at ha7 (by simp; omega) ho7.cells ho7.one]
    have k8 : Keep [a] M7 (M7.put a (.row ((la.set (2 * i) (N .u64 ((max pu qu : Nat) : Int))).set (2 * i + 1) r) false TS 0)) := (Keep.refl _ _).put _ (.inr (by simp))
    have ha8 : (M7.put a (.row ((la.set (2 * i) (N .u64 ((max pu qu : Nat) : Int))).set (2 * i + 1) r) false TS 0)).heap a = some (.row ((la.set (2 * i) (N .u64 ((max pu qu : Nat) : Int))).set (2 * i + 1) r) false TS 0) := heap_put_eq _
    have n8 : (M7.put a (.row ((la.set (2 * i) (N .u64 ((max pu qu : Nat) : Int))).set (2 * i + 1) r) false TS 0)).next = M7.next := rfl
    generalize M7.put a (.row ((la.set (2 * i) (N .u64 ((max pu qu : Nat) : Int))).set (2 * i + 1) r) false TS 0) = M8 at *
    have har : a ∉ blkOf r := fun hm => by have := (ho7.blk a hm).1; omega
    have ho8 := ho7.keep k8 (fun d hd hm => by simp at hm; subst hm; exact har hd)
    have g1 : ((la.set (2 * i) (N .u64 ((max pu qu : Nat) : Int))).set (2 * i + 1) r)[2 * i + 1]? = some r := by rw [List.getElem?_set_self (by simp; omega)]
    have g0 : ((la.set (2 * i) (N .u64 ((max pu qu : Nat) : Int))).set (2 * i + 1) r)[2 * i]? = some (N .u64 ((max pu qu : Nat) : Int)) := by rw [List.getElem?_set_ne (by omega), List.getElem?_set_self (by omega)]
    rw [ptrW_ptr, fldW_ptr, load1_at ha8 g1]
    refine hs ho8 hPi fun M9 ho9 k9 => ?_
    have ha9 := k9.heap_of ha8 (by omega) har
    have n9 := k9.next
    rw [ptrW_ptr, fldW_ptr, load1_at ha9 g1]
    refine hk ho9 hP2i fun r' M10 s10 c10 b10 k10 => ?_
    have n10 := k10.next
    have ha10 := k10.heap_of ha9 (by omega) har
    have har' : a ∉ blkOf r' := fun hm => har (b10 a hm)
    rw [ptrW_ptr, fldW_ptr, storeW_to ((la.set (2 * i) (N .u64 ((max pu qu : Nat) : Int))).set (2 * i + 1) r') ha10 (by simp; omega) (SlR.cells s10) (SlR.one s10) (by rw [List.set_set])]
    have k11 : Keep [a] M10 (M10.put a (.row ((la.set (2 * i) (N .u64 ((max pu qu : Nat) : Int))).set (2 * i + 1) r') false TS 0)) := (Keep.refl _ _).put _ (.inr (by simp))
    have ha11 : (M10.put a (.row ((la.set (2 * i) (N .u64 ((max pu qu : Nat) : Int))).set (2 * i + 1) r') false TS 0)).heap a = some (.row ((la.set (2 * i) (N .u64 ((max pu qu : Nat) : Int))).set (2 * i + 1) r') false TS 0) := heap_put_eq _
    have n11 : (M10.put a (.row ((la.set (2 * i) (N .u64 ((max pu qu : Nat) : Int))).set (2 * i + 1) r') false TS 0)).next = M10.next := rfl
    generalize M10.put a (.row ((la.set (2 * i) (N .u64 ((max pu qu : Nat) : Int))).set (2 * i + 1) r') false TS 0) = M11 at *
    have s11 : Sl U64 M11 r' (g (f (px ++ qx))) := SlR.keep s10 k11 (fun d hd hm => by simp at hm; subst hm; exact har' hd)
    have g0' : ((la.set (2 * i) (N .u64 ((max pu qu : Nat) : Int))).set (2 * i + 1) r')[2 * i]? = some (N .u64 ((max pu qu : Nat) : Int)) := by rw [List.getElem?_set_ne (by omega), List.getElem?_set_self (by omega)]
    have g1' : ((la.set (2 * i) (N .u64 ((max pu qu : Nat) : Int))).set (2 * i + 1) r')[2 * i + 1]? = some r' := by rw [List.getElem?_set_self (by simp; omega)]
    refine ht ha11 g0' g1' s11 har' c10 hr1 (by have := bp.1; have := bq.1; omega) hr2 fun v' M12 ha12 s12 c12 b12 k12 n12 => ?_
    rw [intW_add, i64_succ (by omega)]
    have kr : ∀ d ∈ blkOf r, M.next ≤ d ∧ M3.next ≤ d := fun d hd => by have := (ho7.blk d hd).1; omega
    -- all that was changed: the set's block, and new ones
    have kAll : Keep [a] M3 M12 := by
      have w7 : Keep [a] M3 M7 := k35.trans (k57.mono (by simp))
      have w8 := w7.trans k8
      have w9 := w8.then_new k9 fun d hd => .inl (kr d hd).2
      have w10 := w9.then_new k10 fun d hd => .inl (kr d hd).2
      exact (w10.trans k11).trans k12
    refine hnext' M12 (k3.trans kAll) (hA3.put ha3 hlt ?_ kAll (fun d hd => .inl (by simpa using hd)) s12 c12 (fun d hd => .inr (kr d (b10 d (b12 d hd))).1) (fun d h => h) (fun h => by rcases h with h | h; exact hA.nb h; omega))
    rw [ha12]
    rw [List.set_comm (i := 2 * i + 1) (j := 2 * i) _ _ (by omega), List.set_set, List.set_set]
    rfl
  · have he : i = 16 := by
      have : ¬ (i : Int) < 16 := of_decide_eq_false hge
      omega
    subst he
    exact hQ M3 hA3 k3

/-- A copy. -/
def CopyC (T : Nat) (c : CallT) : Prop := ∀ {M : RM} {b : Nat} {qs : List Pt} {S' : Nat → Prop} {Q : PostV}, SetH T S' M b qs → (∀ q ∈ qs, WfP q ∧ q.2.length < 256) →
  (∀ a M', M.next ≤ a → SetH T (fun e => a < e) M' a qs → Keep [] M M' → Q (.ptr a 0) M') → c [.ptr b 0] M Q
theorem joinPt_empty {q : Pt} (h : WfP q) : joinPt id id (0, []) q = q := by
  unfold joinPt
  simp only [List.nil_append, id, Nat.zero_max]
  exact settle_none h.2.1
theorem joinT_len {f g : List Nat → List Nat} {ps qs : List Pt} : ∀ i, (joinT f g ps qs i).length = ps.length
  | 0 => rfl
  | i + 1 => by rw [joinT, List.length_set, joinT_len i]
theorem joinT_lt {f g : List Nat → List Nat} {ps qs : List Pt} (hl : ps.length = 16) : ∀ {i j : Nat}, i ≤ 16 → j < i → (joinT f g ps qs i).getD j (0, []) = joinPt f g (ps.getD j (0, [])) (qs.getD j (0, []))
  | i + 1, j, hi, h => by
    rw [joinT]
    by_cases e : i = j
    · subst e
      rw [getD_set_self (by rw [joinT_len]; omega)]
    · rw [getD_set_ne e, joinT_lt hl (by omega) (by omega)]
theorem copy_spec {T : Nat} {cn cj : CallT} (hn : NewC T cn) (hj : JoinC (fun xs => Up xs ∧ xs.length < 256) (fun xs => Asc xs ∧ xs.length ≤ 1000000) id id T cj) : CopyC T fun args M Q => ∃ a0, args = [a0] ∧ W_rolodex_dot_Set_Copy cn cj a0 M Q := by
  intro M b qs S' Q hB hwf hQ
  refine ⟨_, rfl, ?_⟩
  unfold W_rolodex_dot_Set_Copy
  have hB0 := hB.below
  refine hn fun M1 hA1 k1 n1 => ?_
  have hB1 := hB0.keep k1 (by simp) (by simp)
  have hbl := hB.lt
  have wq : ∀ i, WfP (qs.getD i (0, [])) ∧ (qs.getD i (0, [])).2.length < 256 := fun i => getD_all hwf ⟨⟨.nil, fun x hx => by simp at hx, Nat.zero_le _, fun x hx => by simp at hx, Nat.zero_le _⟩, by decide⟩ i
  refine hj hA1 hB1 (fun e => by omega) (fun h => by omega) (fun i hi => ?_) (fun p hp => ?_) (fun q hq => ⟨by have := (hwf q hq).1.2.2.1; omega, by have := (hwf q hq).2; omega⟩) (fun i hi => ?_) fun M2 hA2 k2 => ?_
  · rw [empty_getD]
    have := wq i
    exact ⟨⟨this.1.1.up, this.2⟩, this.1.1, by have := this.2; simp only [List.nil_append, id]; omega⟩
  · simp only [emptyS, List.mem_replicate] at hp
    rw [hp.2]; exact ⟨by decide, by decide⟩
  · rw [empty_getD]
    have := wq i
    exact ⟨by have := this.2; simp only [List.nil_append, id]; omega, fun x hx => by have := this.1.2.2.2.1 x hx; omega⟩
  · have e : joinT id id emptyS qs 16 = qs := ext16 (by rw [joinT_len]; rfl) hB.len fun j hj => by
      rw [joinT_lt rfl (Nat.le_refl _) hj, empty_getD, joinPt_empty (wq j).1]
    rw [e] at hA2
    refine hQ M.next M2 (Nat.le_refl _) (hA2.mono (fun e h => ?_) (by omega)) (k1.then_new k2 (by simp))
    rcases h with h | h
    · exact h.elim
    · omega
end Go.Ab.Dot
/- The statement of parts: the walk. By an AI agent. -/
set_option maxRecDepth 10000
set_option linter.unusedVariables false
set_option linter.unusedSimpArgs false
namespace Go.Ab.Dot
open Go Go.Ab

theorem load1_cell {M : RM} {b o : Nat} {x : AV} {K : AV → Prop} (h : M.cell b o = some x) : load1 M (.ptr b o) K = K x := by
  rw [load1_ptr, h]; simp
theorem part_at {M : RM} {v : AV} {ls : List PartT} {S : Nat → Prop} (h : SlD PartR M v ls S) {i : Nat} (hi : i < ls.length) :
    ∃ b o w, (∀ (kd : IntKind) (K : AV → Prop), idxS v (N kd (i : Int)) 3 K = K (.ptr b o)) ∧ M.cell b o = some (N .i64 (ls[i].1.1 : Int)) ∧ M.cell b (o + 1) = some (N .u64 (ls[i].1.2 : Int)) ∧ M.cell b (o + 2) = some w ∧ SlD U64.rep M w ls[i].2 S := by
  obtain ⟨b, o, cs, _, _, hidx, hld, ds, rfl, w, rfl, hw⟩ := h.at (i := i) 3 (i : Int) hi rfl rfl
  exact ⟨b, o, w, hidx, cell0_of_loads hld rfl, cell_of_loads hld rfl, cell_of_loads hld rfl, hw⟩
theorem partsT_ne {ps : List Pt} : ∀ {i : Nat} {x : PartT}, x ∈ partsT ps i → 0 < x.1.2 ∨ 0 < x.2.length
  | 0, x, h => by simp [partsT] at h
  | i + 1, x, h => by
    rw [partsT, List.mem_append] at h
    rcases h with h | h
    · exact partsT_ne h
    · split at h
      · rename_i hn
        simp only [List.mem_singleton] at h
        subst h; exact hn
      · simp at h
theorem parts_wf {ps : List Pt} (h : ∀ p ∈ ps, WfP p) {x : PartT} (hx : x ∈ parts ps) : x.1.1 < 16 ∧ WfP (x.1.2, x.2) ∧ (0 < x.1.2 ∨ 0 < x.2.length) := by
  refine ⟨?_, ?_, partsT_ne hx⟩
  · obtain ⟨j, h1, rfl⟩ := partsT_mem hx; exact h1
  · obtain ⟨j, h1, rfl⟩ := partsT_mem hx; exact getD_wf h j
theorem set_getD {u : List Pt} {i : Nat} (h : i < u.length) {p : Pt} (hp : u.getD i (0, []) = p) : u.set i p = u := by
  subst hp
  rw [List.getD_eq_getElem?_getD, List.getElem?_eq_getElem h]
  exact List.set_getElem_self h
theorem wrap_succ {n : Nat} (h : n < 18446744073709551615) : IntKind.wrap .u64 ((n : Int) + 1) = ((n + 1 : Nat) : Int) := wrap_u64_id (by omega) (by omega)

theorem and_false {c : Bool} {f : KR → Prop} {M : RM} {Z : AV → RM → Prop} (hf : c = true → ∀ k : KR, k (Bo false) M none → f k) (hZ : Z (Bo false) M) :
    guardK (Bo c) true f (fun k => k .undef M none) (fun t M' b => pickW (Bo c) t (Bo false) fun t' => Z t' M') := by
  cases c with
  | false => rw [guardK_FT]; dsimp only; rw [pickF]; exact hZ
  | true => rw [guardK_TT]; exact hf rfl _ (by rw [pickT]; exact hZ)
theorem and_false2 {c : Bool} {f : KR → Prop} {M : RM} {Z : AV → RM → Prop} (hf : c = true → ∀ k : KR, k (Bo false) M none → f k) (hZ : Z (Bo false) M) :
    guardK (Bo c) true f (fun k => k .undef M none) (fun t M' b => guardK (Bo false) false (fun k_128 => pickW (Bo c) t (Bo false) fun t89 => k_128 t89 M' none) (fun k => k .undef M' none) fun t89 M'' b' => pickW (Bo false) (Bo true) t89 fun t' => Z t' M'') := by
  cases c with
  | false => rw [guardK_FT]; dsimp only; rw [guardK_FF]; dsimp only; rw [pickF, pickF]; exact hZ
  | true => rw [guardK_TT]; exact hf rfl _ (by rw [guardK_FF]; dsimp only; rw [pickT, pickF]; exact hZ)
theorem and_false3 {c : Bool} {f : PostV → Prop} {M : RM} {Z : AV → RM → Prop} (hf : c = true → ∀ k : PostV, k (Bo false) M → f k) (hZ : Z (Bo false) M) :
    guardM (Bo c) true f (fun k => k .undef M) (fun t M' => guardM (Bo false) false (fun k_128 => pickW (Bo c) t (Bo false) fun t89 => k_128 t89 M') (fun k => k .undef M') fun t89 M'' => pickW (Bo false) (Bo true) t89 fun t' => Z t' M'') := by
  cases c with
  | false => rw [guardM_FT]; dsimp only; rw [guardM_FF]; dsimp only; rw [pickF, pickF]; exact hZ
  | true => rw [guardM_TT]; exact hf rfl _ (by rw [guardM_FF]; dsimp only; rw [pickT, pickF]; exact hZ)
/-- The set that is made anew from the form. -/
def AnewQ (T u : Nat) (M : RM) (us : List Pt) : Prop := SetH T (fun e => u < e) M u us ∧ ∀ p ∈ us, WfP p
theorem anew_add {T u dv n : Nat} {c : CallT} {M : RM} {us : List Pt} {q : Pt} {Q : PostV} (hc : AddSC T c) (h : AnewQ T u M us) (e : addS us ((dv : Int), n) = (0, us.set dv q))
    (hQ : ∀ M', AnewQ T u M' (us.set dv q) → Keep [u] M M' → ∀ x, Q x M') : c [.ptr u 0, .agg [N .i64 (dv : Int), N .u64 (n : Int)]] M Q := by
  refine hc (d := ((dv : Int), n)) h.1 h.2 fun M' h1 h2 => ?_
  have hw := addS_wf (d := ((dv : Int), n)) h.2
  rw [e] at h1 hw
  refine hQ M' ⟨h1.mono (fun e h' => ?_) (by omega), hw⟩ h2 _
  have := h.1.lt
  rcases h' with h' | h' <;> omega

def DotPartsC (B : Base) (c : CallT) : Prop := ∀ {M : RM} {v w : AV} {l1 l2 : List Dot} {Q : PostV}, M.base = B → Sl DotE M v l1 → Sl DotE M w l2 → (∀ M', Q (Bo true) M') → c [v, w] M Q
theorem dotParts_spec {B : Base} {T TD TB TP : Nat} {ca co cp cn cA ce cW : CallT} (ha : AwakeC B ca) (ho : OfC T TD co) (hp : PartsC T TP cp) (hn : NewC T cn) (hA : AddSC T cA) (he : EncodeC T TB ce) (hW : WithinC T cW) :
    DotPartsC B fun args M Q => ∃ a0 a1, args = [a0, a1] ∧ W_rolodex_rolodexlaw13_DotParts ca co cp cn cA ce cW a0 a1 M Q := by
  intro M v w l1 l2 Q hM h1 h2 hQ
  refine ⟨_, _, rfl, ?_⟩
  unfold W_rolodex_rolodexlaw13_DotParts
  simp only [fuseM, fuseK]
  refine ha hM ?_
  rw [notW_Bo, Bool.not_true, condF, SlR.len h1, intW_gtr]
  by_cases hl1 : l1.length > 60
  · rw [show decide ((l1.length : Int) > 60) = true by simp; omega, guardM_TF]
    dsimp only
    rw [pickT, condT]
    exact hQ M
  rw [show decide ((l1.length : Int) > 60) = false by simp; omega, guardM_FF]
  dsimp only
  rw [SlR.len h2, intW_gtr, pickF]
  refine condB (fun _ => hQ M) (fun hl2 => ?_)
  have hl2 : ¬ l2.length > 60 := by
    have : ¬ (l2.length : Int) > 60 := of_decide_eq_false hl2
    omega
  refine ho h1 (by omega) fun s w1 M1 hs0 hs1 hwf1 how1 _ k1 => ?_
  rw [extW0, extW1]
  have h2' : Sl DotE M1 w l2 := SlR.keep h2 k1 (by simp)
  refine ho h2' (by omega) fun t w2 M2 ht0 ht2 hwf2 how2 _ k2 => ?_
  rw [extW0, extW1]
  have hs2 := hs1.keep k2 (by simp) (by simp)
  have len1 := hs1.len
  have len2 := ht2.len
  generalize (ofP l1).1 = ps at *
  generalize (ofP l2).1 = qs at *
  refine hp hs2 (fun p hp => by have := (hwf1 p hp).2.2.2.2; omega) fun pv M3 hop k3 => ?_
  have hs3 := (hs2.keep k3 (by simp) (by simp)).below
  have ht3 := (ht2.keep k3 (by simp) (by simp)).below
  have hls3 : SlD PartR M3 pv (parts ps) (fun d => M2.next ≤ d ∧ d < M3.next) := ((hop.mono (fun d h => h.1)).slD fun d h1 h2 => h1).lt
  have hsall := setsOf_all len1
  have hwfL : ∀ x ∈ parts ps, x.1.1 < 16 ∧ WfP (x.1.2, x.2) ∧ (0 < x.1.2 ∨ 0 < x.2.length) := fun x hx => parts_wf hwf1 hx
  have hrise : (parts ps).Pairwise fun a b => a.1.1 < b.1.1 := parts_rise 16
  have hpl : (parts ps).length ≤ 16 := partsT_len ps 16
  refine hn fun M4 hu4 k4 n4 => ?_
  have hs4 := hs3.keep k4 (by simp) (by simp)
  have ht4 := ht3.keep k4 (by simp) (by simp)
  have hls4 := hls3.keep k4 (by simp)
  generalize hun : M3.next = u at *
  generalize hls : parts ps = ls at *
  refine loopW_ind (fun m ys M5 => ∃ (i : Nat), m = ls.length - i ∧ ys = [N .i64 (i : Int)] ∧ i ≤ ls.length ∧ Keep [u] M4 M5 ∧ AnewQ T u M5 (setsOf (ls.take i))) _
    ⟨0, rfl, rfl, Nat.zero_le _, Keep.refl _ _, hu4.mono (fun e h => h.elim) (by omega), empty_wf⟩ ?_
  rintro next m ys M5 hnext ⟨i, rfl, rfl, hi, k5, hu5⟩
  dsimp only [nthD]
  have hls5 := hls4.keep k5 (by simp)
  rw [hls5.len, intW_lss]
  refine condB (fun hlt => ?_) (fun hge => ?_)
  · have hlt : i < ls.length := by simpa using hlt
    obtain ⟨b, o, mw, hidx, c0, c1, c2, hmw⟩ := part_at hls5 hlt
    obtain ⟨hd16, hwfx, hne⟩ := hwfL _ (List.getElem_mem hlt)
    have hfree : (setsOf (ls.take i)).getD ls[i].1.1 (0, []) = (0, []) := setsOf_free _ _ fun x hx => by
      obtain ⟨j, hj, rfl⟩ := List.getElem_of_mem hx
      rw [List.getElem_take]
      simp only [List.length_take] at hj
      have := List.pairwise_iff_getElem.1 hrise j i (by omega) hlt (by omega)
      omega
    have hnextS : setsOf (ls.take (i + 1)) = (setsOf (ls.take i)).set ls[i].1.1 (ls[i].1.2, ls[i].2) := by
      rw [List.take_succ_eq_append_getElem hlt, setsOf_snoc]
    have hBl := setsOf_len (ls.take i)
    have goOn : ∀ M6, Keep [u] M4 M6 → AnewQ T u M6 ((setsOf (ls.take i)).set ls[i].1.1 (ls[i].1.2, ls[i].2)) → (intW .add (N .i64 (i : Int)) (N .i64 1) fun t44 => next [t44] M6) := fun M6 k6 h6 => by
      rw [intW_add, i64_succ (by omega)]
      exact hnext _ _ _ (by omega) ⟨i + 1, rfl, rfl, by omega, k6, by rw [hnextS]; exact h6⟩
    generalize hB : setsOf (ls.take i) = Bs at *
    have hxeq : ls[i] = ((ls[i].1.1, ls[i].1.2), ls[i].2) := rfl
    generalize hdv : ls[i].1.1 = dv at *
    generalize hup : ls[i].1.2 = up at *
    generalize hmo : ls[i].2 = mo at *
    rw [hidx, fldW_ptr, load1_cell c1, intW_gtr]
    refine and_false (fun hc k hk => ?_) ?_
    · have hi0 : 0 < i := by
        have : (i : Int) > 0 := of_decide_eq_true hc
        omega
      obtain ⟨b', o', mw', hidx', c0', _, _, _⟩ := part_at hls5 (i := i - 1) (by omega)
      have hr := List.pairwise_iff_getElem.1 hrise (i - 1) i (by omega) hlt (by omega)
      rw [hdv] at hr
      rw [hidx, fldW_ptr, Nat.add_zero, load1_cell c0, intW_sub, wrap_i64_id (by omega) (by omega), show (i : Int) - 1 = ((i - 1 : Nat) : Int) by omega, hidx', fldW_ptr, Nat.add_zero, load1_cell c0', intW_leq, show decide (((dv : Nat) : Int) ≤ ((ls[i - 1].1.1 : Nat) : Int)) = false by simp; omega]
      exact hk
    rw [guardK_FF]
    dsimp only
    rw [hidx, fldW_ptr, load1_cell c1, intW_gtr, pickF]
    by_cases hup1 : up > 1000
    · rw [show decide ((up : Int) > 1000) = true by simp; omega, guardK_TF]
      dsimp only
      rw [guardK_U]
      dsimp only
      rw [guardK_TF]
      dsimp only
      rw [pickT, condT, hidx, fldW_ptr, load1_cell c1, intW_gtr, show decide ((up : Int) > 1000) = true by simp; omega]
      exact hQ M5
    rw [show decide ((up : Int) > 1000) = false by simp; omega, guardK_FF]
    dsimp only
    rw [hidx, fldW_ptr, load1_cell c1, intW_eql]
    have hmol : mo.length ≤ 4096 := hwfx.2.2.2.2
    refine and_false2 (fun hc k hk => ?_) ?_
    · have h0 : up = 0 := by simpa using hc
      have : 0 < mo.length := by omega
      rw [hidx, fldW_ptr, load1_cell c2, hmw.len, intW_eql, show (((mo.length : Nat) : Int) == 0) = false by rw [beq_eq_false_iff_ne]; omega]
      exact hk
    rw [condF]
    -- one dot after the other up to Upto
    refine loopW_ind (fun m ys M6 => ∃ (n : Nat), m = up - n ∧ ys = [N .u64 ((n + 1 : Nat) : Int)] ∧ n ≤ up ∧ Keep [u] M4 M6 ∧ AnewQ T u M6 (Bs.set dv (n, []))) _
      ⟨0, rfl, rfl, Nat.zero_le _, k5, by rw [set_getD (by omega) hfree]; exact hu5⟩ ?_
    rintro next2 m ys M6 hnext2 ⟨n, rfl, rfl, hnu, k6, hu6⟩
    dsimp only [nthD]
    have hls6 := hls4.keep k6 (by simp)
    obtain ⟨b, o, mw, hidx, c0, c1, c2, hmw⟩ := part_at hls6 hlt
    rw [hdv] at c0
    rw [hup] at c1
    rw [hidx, fldW_ptr, load1_cell c1, intW_leq]
    refine condB (fun hle => ?_) (fun hgt => ?_)
    · have hle : n + 1 ≤ up := by
        have : ((n + 1 : Nat) : Int) ≤ (up : Int) := of_decide_eq_true hle
        omega
      rw [hidx, fldW_ptr, Nat.add_zero, load1_cell c0, buildW_eq]
      refine ⟨_, build2 rfl rfl rfl rfl, ?_⟩
      refine anew_add hA hu6 (q := (n + 1, [])) (addS_at hd16 (by omega) (by omega) (getD_set_self (by omega) _) (addP_next n)) fun M7 hu7 k7 x => ?_
      rw [intW_add, wrap_succ (by omega)]
      rw [List.set_set] at hu7
      exact hnext2 _ _ _ (by omega) ⟨n + 1, rfl, rfl, hle, k6.trans k7, hu7⟩
    · have hn : n = up := by
        have : ¬ ((n + 1 : Nat) : Int) ≤ (up : Int) := of_decide_eq_false hgt
        omega
      subst hn
      -- and More's
      refine loopW_ind (fun m ys M7 => ∃ (k last : Nat), m = mo.length - k ∧ ys = [N .u64 (last : Int), N .i64 (k : Int)] ∧ k ≤ mo.length ∧ (n :: mo)[k]? = some last ∧ Keep [u] M4 M7 ∧ AnewQ T u M7 (Bs.set dv (n, mo.take k))) _
        ⟨0, n, rfl, rfl, Nat.zero_le _, rfl, k6, by rw [List.take_zero]; exact hu6⟩ ?_
      rintro next3 m ys M7 hnext3 ⟨k, last, rfl, rfl, hk, hlast, k7, hu7⟩
      dsimp only [nthD]
      have hls7 := hls4.keep k7 (by simp)
      obtain ⟨b, o, mw, hidx, c0, c1, c2, hmw⟩ := part_at hls7 hlt
      rw [hdv] at c0
      rw [hmo] at hmw
      have smw := hmw.sl
      rw [hidx, fldW_ptr, load1_cell c2, hmw.len, intW_lss]
      refine condB (fun hlt3 => ?_) (fun hge3 => ?_)
      · have hlt3 : k < mo.length := by simpa using hlt3
        obtain ⟨b3, o3, _, _, hidx3, hc3⟩ := Sl.at1 (E := U64) smw (k : Int) hlt3
        have hc3 := hc3 _ rfl
        have hxl := hwfx.2.1 _ (List.getElem_mem hlt3)
        have hxm := hwfx.2.2.2.1 _ (List.getElem_mem hlt3)
        have hprev : ∀ y ∈ mo.take k, y < mo[k] := fun y hy => by
          obtain ⟨j, hj, rfl⟩ := List.getElem_of_mem hy
          rw [List.getElem_take]
          simp only [List.length_take] at hj
          exact hwfx.1.lt (by omega) hlt3
        have hlast2 : last < mo[k] ∧ (k = 0 → last = n) := by
          rcases Nat.eq_zero_or_pos k with rfl | hk0
          · simp only [List.getElem?_cons_zero, Option.some.injEq] at hlast
            subst hlast
            exact ⟨by omega, fun _ => rfl⟩
          · obtain ⟨j, rfl⟩ : ∃ j, k = j + 1 := ⟨k - 1, by omega⟩
            rw [List.getElem?_cons_succ, List.getElem?_eq_getElem (by omega)] at hlast
            have hlast := Option.some.inj hlast
            subst hlast
            exact ⟨hwfx.1.lt (by omega) hlt3, fun h => by omega⟩
        generalize hx : mo[k] = x at *
        rw [hidx, fldW_ptr, load1_cell c2, hidx3, load1_cell hc3, intW_leq, show decide ((x : Int) ≤ (last : Int)) = false by simp; omega, guardM_FF]
        dsimp only
        rw [intW_eql]
        refine and_false3 (fun hc K hK => ?_) ?_
        · have hk0 : k = 0 := by simpa using hc
          have := hlast2.2 hk0
          rw [hidx, fldW_ptr, load1_cell c2, hidx3, load1_cell hc3, intW_add, wrap_succ (by omega), intW_eql, show ((x : Int) == ((last + 1 : Nat) : Int)) = false by simp; omega]
          exact hK
        rw [condF, hidx, fldW_ptr, load1_cell c2, hidx3, load1_cell hc3, hidx, fldW_ptr, Nat.add_zero, load1_cell c0, buildW_eq]
        refine ⟨_, build2 rfl rfl rfl rfl, ?_⟩
        refine anew_add hA hu7 (q := (n, mo.take k ++ [x])) (addS_at hd16 (by omega) hxm (getD_set_self (by omega) _) (addP_more hprev (fun y hy => hwfx.2.1 y (List.mem_of_mem_take hy)) (by omega) (by simp; omega))) fun M8 hu8 k8 z => ?_
        rw [intW_add, i64_succ (by omega)]
        rw [List.set_set, ← hx, ← List.take_succ_eq_append_getElem hlt3] at hu8
        exact hnext3 _ _ _ (by omega) ⟨k + 1, x, rfl, rfl, hlt3, by rw [List.getElem?_cons_succ, List.getElem?_eq_getElem hlt3, hx], k7.trans k8, hu8⟩
      · have he : k = mo.length := by simp at hge3; omega
        subst he
        rw [List.take_length] at hu7
        exact goOn M7 k7 hu7
  · have hei : i = ls.length := by simp at hge; omega
    subst hei
    rw [List.take_length, hsall] at hu5
    have hs5 := hs4.keep k5 (by simp; have := hs3.lt; omega) (by simp)
    have ht5 := ht4.keep k5 (by simp; have := ht3.lt; omega) (by simp)
    have hbd1 : ∀ p ∈ ps, Bd p := fun p hp => (hwf1 p hp).bd
    have hbd2 : ∀ p ∈ qs, Bd p := fun p hp => (hwf2 p hp).bd
    have hq1 : ∀ q ∈ ps, Asc q.2 ∧ q.2.length ≤ 1000000 := fun q hq => ⟨(hwf1 q hq).1, by have := (hwf1 q hq).2.2.2.2; omega⟩
    have hq2 : ∀ q ∈ qs, Asc q.2 ∧ q.2.length ≤ 1000000 := fun q hq => ⟨(hwf2 q hq).1, by have := (hwf2 q hq).2.2.2.2; omega⟩
    refine he hs5 hbd1 fun v6 M6 ho6 _ k6 => ?_
    rw [Sl.str (Own.sl ho6)]
    refine he (ht5.keep k6 (by simp) (by simp)) hbd2 fun v7 M7 ho7 _ k7 => ?_
    have k67 := k6.trans k7
    rw [Sl.str (Own.sl (ho6.keep k7 (by simp)))]
    refine ⟨rfl, ?_⟩
    rw [Sl.str (Own.sl ho7), strW_eql, same_law len1 len2 hwf1 hwf2]
    have hs7 := hs5.keep k67 (by simp) (by simp)
    have ht7 := ht5.keep k67 (by simp) (by simp)
    have hu7 := hu5.1.keep k67 (by simp) (by simp)
    refine hW hu7 hs7 (fun p hp => (hq1 p hp).2) hq1 fun M8 k8 => ?_
    have hs8 := hs7.keep k8 (by simp) (by simp)
    have ht8 := ht7.keep k8 (by simp) (by simp)
    have hu8 := hu7.keep k8 (by simp) (by simp)
    rw [withinS_refl, guardM_TT]
    dsimp only
    refine hW hs8 hu8 (fun p hp => (hq1 p hp).2) hq1 fun M9 k9 => ?_
    have hs9 := hs8.keep k9 (by simp) (by simp)
    have ht9 := ht8.keep k9 (by simp) (by simp)
    rw [withinS_refl, pickT, guardM_TT]
    dsimp only
    refine hW hs9 ht9 (fun p hp => (hq1 p hp).2) hq2 fun M10 k10 => ?_
    have hs10 := hs9.keep k10 (by simp) (by simp)
    have ht10 := ht9.keep k10 (by simp) (by simp)
    dsimp only
    generalize hy : withinS qs ps = y at *
    cases hx : withinS ps qs with
    | true =>
      rw [guardM_TT]
      dsimp only
      refine hW ht10 hs10 (fun p hp => (hq2 p hp).2) hq1 fun M11 _ => ?_
      rw [hy, guardM_TT]
      dsimp only
      rw [pickT, boolEqW_Bo, pickT]
      have := hQ M11
      cases y <;> exact this
    | false =>
      rw [guardM_FT]
      dsimp only
      rw [guardM_TT]
      dsimp only
      rw [pickF, boolEqW_Bo, pickT]
      have := hQ M10
      cases y <;> exact this
end Go.Ab.Dot
/- Plain laws of growing sets. By an AI agent. -/
set_option maxRecDepth 10000
set_option linter.unusedVariables false
set_option linter.unusedSimpArgs false
namespace Go.Ab.Dot
open Go Go.Ab

theorem hasP_iff {p : Pt} {x : Nat} : hasP p x = true ↔ (1 ≤ x ∧ x ≤ p.1) ∨ x ∈ p.2 := by
  unfold hasP
  simp only [Bool.or_eq_true, Bool.and_eq_true, decide_eq_true_eq]
theorem settle_has : ∀ (xs : List Nat) (u x : Nat), (∀ y ∈ xs, 1 ≤ y) → (hasP (settle u xs) x = true ↔ (1 ≤ x ∧ x ≤ u) ∨ x ∈ xs)
  | [], u, x, _ => by rw [hasP_iff]; simp [settle, settleK]
  | y :: xs, u, x, h => by
    by_cases hy : y ≤ u + 1
    · have e : settle u (y :: xs) = settle (max u y) xs := by
        unfold settle
        rw [settleK, if_pos hy]; rfl
      have h1 := h y (by simp)
      rw [e, settle_has xs (max u y) x (fun z hz => h z (by simp [hz])), List.mem_cons]
      constructor
      · rintro (⟨a, b⟩ | c)
        · by_cases hx : x ≤ u
          · exact .inl ⟨a, hx⟩
          · exact .inr (.inl (by omega))
        · exact .inr (.inr c)
      · rintro (⟨a, b⟩ | c | c)
        · exact .inl ⟨a, by omega⟩
        · exact .inl ⟨by omega, by omega⟩
        · exact .inr c
    · have e : settle u (y :: xs) = (u, y :: xs) := by
        unfold settle
        rw [settleK, if_neg hy]; rfl
      rw [e, hasP_iff]
theorem mem_insL {k n : Nat} {xs : List Nat} {x : Nat} : x ∈ insL k n xs ↔ x = n ∨ x ∈ xs := by
  refine ⟨insL_mem, fun h => ?_⟩
  unfold insL
  rcases h with h | h
  · simp [h]
  · rw [← List.take_append_drop k xs, List.mem_append] at h
    rw [List.mem_append, List.mem_cons]
    rcases h with h | h
    · exact .inl h
    · exact .inr (.inr h)
theorem addP_has {p : Pt} {n x : Nat} (hp : WfP p) (hn : 1 ≤ n) (hok : (addP p n).1 = true) : hasP (addP p n).2 x = true ↔ hasP p x = true ∨ x = n := by
  unfold addP at hok ⊢
  by_cases h : n ∈ p.2 ∨ n ≤ p.1
  · rw [if_pos h]
    constructor
    · exact .inl
    · rintro (h1 | rfl)
      · exact h1
      · rw [hasP_iff]
        rcases h with h | h
        · exact .inr h
        · exact .inl ⟨hn, h⟩
  · rw [if_neg h] at hok ⊢
    by_cases h2 : (settle p.1 (insL (below n p.2) n p.2)).2.length ≤ 4096
    · rw [if_pos h2]
      simp only
      rw [settle_has _ _ _ (fun y hy => by rcases mem_insL.1 hy with rfl | hy; exact hn; have := hp.2.1 y hy; omega), mem_insL, hasP_iff]
      constructor
      · rintro (a | b | c)
        · exact .inl (.inl a)
        · exact .inr b
        · exact .inl (.inr c)
      · rintro ((a | b) | c)
        · exact .inl a
        · exact .inr (.inr b)
        · exact .inr (.inl c)
    · rw [if_neg h2] at hok; cases hok
theorem withinP_iff {p q : Pt} (hp : WfP p) (hq : WfP q) : withinP p q = true ↔ ∀ x, hasP p x = true → hasP q x = true := by
  constructor
  · intro h x hx
    unfold withinP at h
    simp only [Bool.and_eq_true, List.all_eq_true, decide_eq_true_eq] at h
    rw [hasP_iff] at hx
    rcases hx with hx | hx
    · rw [hasP_iff]; exact .inl ⟨hx.1, by omega⟩
    · exact h.2 x hx
  · intro h
    unfold withinP
    simp only [Bool.and_eq_true, List.all_eq_true, decide_eq_true_eq]
    refine ⟨?_, fun x hx => h x (hasP_iff.2 (.inr hx))⟩
    rcases Nat.lt_or_ge q.1 p.1 with hlt | hle
    · have := hasP_iff.1 (h (q.1 + 1) (hasP_iff.2 (.inl ⟨by omega, by omega⟩)))
      rcases this with h1 | h1
      · omega
      · have := hq.2.1 _ h1; omega
    · exact hle
theorem addP_same {p : Pt} {n : Nat} (h : hasP p n = true) : (addP p n).2 = p := by
  unfold addP
  rw [if_pos]
  rcases hasP_iff.1 h with h | h
  · exact .inr h.2
  · exact .inl h
theorem addP_len {p : Pt} {n : Nat} : (addP p n).2.2.length ≤ p.2.length + 1 := by
  unfold addP
  split
  · exact Nat.le_succ _
  · split
    · have h1 := settle_len p.1 (insL (below n p.2) n p.2)
      have h2 := insL_len (x := n) (below_le n p.2)
      simp only; omega
    · exact Nat.le_succ _
theorem addP_ok {p : Pt} {n : Nat} (h : p.2.length < 4096) : (addP p n).1 = true := by
  unfold addP
  split
  · rfl
  · have h1 := settle_len p.1 (insL (below n p.2) n p.2)
    have h2 := insL_len (x := n) (below_le n p.2)
    rw [if_pos (by omega)]

theorem addS_good {ps : List Pt} {d : Dot} (hl : ∀ p ∈ ps, p.2.length < 4096) (hg : good d = true) : addS ps d = (0, ps.set d.1.toNat (addP (ps.getD d.1.toNat (0, [])) d.2).2) := by
  unfold addS
  rw [if_pos hg, addP_ok (getD_all (R := fun p => p.2.length < 4096) hl (by decide) _), if_pos rfl]
theorem addS_bad {ps : List Pt} {d : Dot} (hg : good d = false) : addS ps d = (1, ps) := by
  unfold addS
  rw [hg]; rfl
theorem addS_more {ps : List Pt} {d : Dot} {k : Nat} (hl : ∀ p ∈ ps, p.2.length ≤ k) : ∀ p ∈ (addS ps d).2, p.2.length ≤ k + 1 := by
  unfold addS
  split
  · split
    · intro p hp
      rcases List.mem_or_eq_of_mem_set hp with hp | rfl
      · have := hl p hp; omega
      · have h1 := addP_len (p := ps.getD d.1.toNat (0, [])) (n := d.2)
        have h2 := getD_all (R := fun p => p.2.length ≤ k) hl (Nat.zero_le _) d.1.toNat
        omega
    · intro p hp; have := hl p hp; omega
  · intro p hp; have := hl p hp; omega

section
variable {ps : List Pt} {d : Dot}
theorem good_num (hg : good d = true) : 1 ≤ d.2 ∧ d.2 ≤ 1099511627776 ∧ d.1.toNat < 16 := by
  simp only [good, Bool.and_eq_true, decide_eq_true_eq] at hg
  omega
theorem grow_has (h16 : ps.length = 16) (hw : ∀ p ∈ ps, WfP p) (hl : ∀ p ∈ ps, p.2.length < 4096) (hg : good d = true) (j x : Nat) :
    hasP ((addS ps d).2.getD j (0, [])) x = true ↔ hasP (ps.getD j (0, [])) x = true ∨ (j = d.1.toNat ∧ x = d.2) := by
  obtain ⟨h1, h2, h3⟩ := good_num hg
  rw [addS_good hl hg]
  simp only
  by_cases e : d.1.toNat = j
  · subst e
    rw [getD_set_self (by omega), addP_has (getD_wf hw _) h1 (addP_ok (getD_all (R := fun p => p.2.length < 4096) hl (by decide) _))]
    simp
  · rw [getD_set_ne e]
    simp [Ne.symm e]
theorem grow_within (h16 : ps.length = 16) (hw : ∀ p ∈ ps, WfP p) (hl : ∀ p ∈ ps, p.2.length < 4096) : withinS ps (addS ps d).2 = true := by
  cases hg : good d with
  | false => rw [addS_bad hg]; exact withinS_refl ps
  | true =>
    refine withinS_iff.2 fun i _ => (withinP_iff (getD_wf hw i) (getD_wf (addS_wf hw) i)).2 fun x hx => ?_
    exact (grow_has h16 hw hl hg i x).2 (.inl hx)
theorem grow_in (h16 : ps.length = 16) (hw : ∀ p ∈ ps, WfP p) (hl : ∀ p ∈ ps, p.2.length < 4096) (hg : good d = true) : hasS (addS ps d).2 d = true := by
  unfold hasS
  rw [hg, Bool.true_and]
  exact (grow_has h16 hw hl hg _ _).2 (.inr ⟨rfl, rfl⟩)
theorem grow_back (h16 : ps.length = 16) (hw : ∀ p ∈ ps, WfP p) (hl : ∀ p ∈ ps, p.2.length < 4096) (hg : good d = true) : withinS (addS ps d).2 ps = hasS ps d := by
  obtain ⟨h1, h2, h3⟩ := good_num hg
  cases hh : hasS ps d with
  | true =>
    unfold hasS at hh
    rw [hg, Bool.true_and] at hh
    rw [addS_good hl hg]
    simp only
    rw [addP_same hh, set_getD (by omega) rfl]
    exact withinS_refl ps
  | false =>
    rw [Bool.eq_false_iff]
    intro hw2
    have := withinS_iff.1 hw2 _ h3
    have := (withinP_iff (getD_wf (addS_wf hw) _) (getD_wf hw _)).1 this d.2 ((grow_has h16 hw hl hg _ _).2 (.inr ⟨rfl, rfl⟩))
    unfold hasS at hh
    rw [hg, Bool.true_and, this] at hh
    cases hh
theorem within_hasS {qs : List Pt} {e : Dot} (hw : ∀ p ∈ ps, WfP p) (hw2 : ∀ p ∈ qs, WfP p) (h : withinS ps qs = true) (he : hasS ps e = true) : hasS qs e = true := by
  unfold hasS at he ⊢
  simp only [Bool.and_eq_true] at he ⊢
  exact ⟨he.1, (withinP_iff (getD_wf hw _) (getD_wf hw2 _)).1 (withinS_iff.1 h _ (good_num he.1).2.2) _ he.2⟩
end
end Go.Ab.Dot
/- Plain law: numbers that are laid are read as they were. By an AI agent. -/
set_option maxRecDepth 10000
set_option linter.unusedVariables false
set_option linter.unusedSimpArgs false
namespace Go.Ab.Dot
open Go Go.Ab

theorem or_add {acc y k : Nat} (h : acc < 2 ^ k) (hs : acc + y * 2 ^ k < 2 ^ 64) : (acc ||| (y * 2 ^ k % 2 ^ 64)) % 2 ^ 64 = acc + y * 2 ^ k := by
  have e : y * 2 ^ k % 2 ^ 64 = 2 ^ k * y := by rw [Nat.mod_eq_of_lt (by omega), Nat.mul_comm]
  rw [e, Nat.or_comm, ← Nat.two_pow_add_eq_or_of_lt h, Nat.mul_comm, Nat.add_comm, Nat.mod_eq_of_lt hs]
theorem numF_uintB : ∀ (w i acc : Nat) (r : List UInt8), acc < 2 ^ (7 * i) → acc + w * 2 ^ (7 * i) < 2 ^ 64 → (0 < i → w ≠ 0) → i ≤ 9 → numF i acc (uintB w ++ r) = some (acc + w * 2 ^ (7 * i), i + (uintB w).length) := by
  intro w
  induction w using Nat.strongRecOn with
  | _ w ih =>
    intro i acc r ha hs h0 hi
    by_cases hw : w < 128
    · rw [uintB_lt hw, List.singleton_append, numF, u8_nat, show w % 256 = w by omega, if_neg (by omega)]
      rw [if_neg]
      · rw [show w % 128 = w by omega, or_add ha hs]; rfl
      · rintro (⟨h1, h2⟩ | ⟨h1, h2⟩)
        · exact h0 h2 h1
        · subst h1
          have : 2 * 2 ^ (7 * 9) ≤ w * 2 ^ (7 * 9) := Nat.mul_le_mul_right _ h2
          have e : 2 * 2 ^ (7 * 9) = 2 ^ 64 := by decide
          omega
    · rw [uintB_ge hw, List.cons_append, numF, u8_nat, show (w % 128 + 128) % 256 = w % 128 + 128 by omega, if_pos (by omega)]
      rw [show (w % 128 + 128) % 128 = w % 128 by omega]
      have hp : 2 ^ (7 * (i + 1)) = 128 * 2 ^ (7 * i) := by rw [show 7 * (i + 1) = 7 * i + 7 by omega, Nat.pow_add, Nat.mul_comm]
      have hsplit : w * 2 ^ (7 * i) = w % 128 * 2 ^ (7 * i) + w / 128 * 2 ^ (7 * (i + 1)) := by
        rw [hp, ← Nat.mul_assoc, ← Nat.add_mul]
        congr 1
        omega
      have hlow : w % 128 * 2 ^ (7 * i) + 2 ^ (7 * i) ≤ 2 ^ (7 * (i + 1)) := by
        rw [hp, ← Nat.succ_mul]
        exact Nat.mul_le_mul_right _ (by omega)
      have hpos : 0 < 2 ^ (7 * (i + 1)) := Nat.pos_of_ne_zero (by simp)
      have h1 : 2 ^ (7 * (i + 1)) ≤ w / 128 * 2 ^ (7 * (i + 1)) := Nat.le_mul_of_pos_left _ (by omega)
      have hi9 : i + 1 ≤ 9 := by
        rcases Nat.lt_or_ge i 9 with h | h
        · omega
        · have : i = 9 := by omega
          subst this
          have e : (2 : Nat) ^ (7 * (9 + 1)) = 2 ^ 64 * 64 := by decide
          omega
      rw [or_add ha (by omega), ih (w / 128) (by omega) (i + 1) _ r (by omega) (by omega) (fun _ => by omega) hi9]
      congr 2
      · omega
      · simp only [List.length_cons]; omega
theorem numB_uintB {v : Nat} (h : v < 2 ^ 64) (r : List UInt8) : numB (uintB v ++ r) = some (v, (uintB v).length) := by
  unfold numB
  have hl := uintB_10 h
  rw [List.take_append, List.take_of_length_le hl]
  have := numF_uintB v 0 0 (r.take (10 - (uintB v).length)) (by decide) (by simpa using h) (fun h => by omega) (by omega)
  rw [this]
  simp
theorem readInt_uintB {most v : Nat} (hv : v ≤ most) (h : v < 2 ^ 64) (r : List UInt8) : readInt most (uintB v ++ r) false = (v, r, false) := by
  unfold readInt
  rw [numB_uintB h r]
  simp only [Bool.false_or]
  rw [if_neg (by simp; omega), List.drop_left' rfl]
theorem readU_uintB {v : Nat} (h : v < 2 ^ 64) (r : List UInt8) : readU (uintB v ++ r) false = (v, r, false) := by
  unfold readU
  exact readInt_uintB (by omega) h r

/-- A part's others, laid and read. -/
theorem decIn_gaps : ∀ (xs : List Nat) (a : Nat) (r : List UInt8) (acc : List Nat), Asc xs → (∀ x ∈ xs, a < x ∧ x ≤ 1099511627776) → a ≤ 1099511627776 →
    decIn xs.length a (gapsB a xs ++ r) false acc = some ((xs.getLast?).getD a, r, false, acc ++ xs)
  | [], a, r, acc, _, _, _ => by simp [decIn, gapsB]
  | x :: xs, a, r, acc, hasc, hx, ha => by
    have h1 := hx x (by simp)
    have hs : sub64 x a = x - a := by unfold sub64; omega
    have a2 := List.pairwise_cons.1 hasc
    rw [List.length_cons, decIn, gapsB, List.append_assoc, hs, readU_uintB (by omega)]
    simp only
    rw [if_neg (by simp; omega), show a + (x - a) = x by omega, decIn_gaps xs x r (acc ++ [x]) a2.2 (fun y hy => ⟨a2.1 y hy, (hx y (by simp [hy])).2⟩) h1.2]
    congr 2
    · cases xs with
      | nil => rfl
      | cons y ys => simp [List.getLast?_cons]
    · simp

theorem chain_of : ∀ (xs : List Nat) (a : Nat), Asc xs → (∀ x ∈ xs, a < x) → chain a xs = true
  | [], _, _, _ => rfl
  | x :: xs, a, h, hx => by
    have a2 := List.pairwise_cons.1 h
    rw [chain, chain_of xs x a2.2 a2.1]
    simp only [Bool.and_true, decide_eq_true_eq]
    exact hx x (by simp)
theorem form_wf {p : Pt} (h : WfP p) : formP p = true := chain_of _ _ h.1 h.2.1
theorem decOut_parts : ∀ (ls : List PartT) (us : List Pt) (r : List UInt8), (∀ x ∈ ls, x.1.1 < 16 ∧ WfP (x.1.2, x.2)) → (ls.Pairwise fun a b => a.1.1 < b.1.1) → (∀ x ∈ ls, us.getD x.1.1 (0, []) = (0, [])) →
    decOut ls.length (ls.flatMap encP ++ r) false us = some (r, false, ls.foldl (fun u x => u.set x.1.1 (x.1.2, x.2)) us)
  | [], us, r, _, _, _ => by simp [decOut]
  | x :: ls, us, r, hw, hr, hf => by
    obtain ⟨⟨dv, u⟩, xs⟩ := x
    obtain ⟨h16, hwf⟩ := hw _ (List.mem_cons_self)
    have hfx := hf _ (List.mem_cons_self)
    simp only at h16 hwf hfx
    have hu : u ≤ 1099511627776 := hwf.2.2.1
    have hxl : xs.length ≤ 4096 := hwf.2.2.2.2
    have a2 := List.pairwise_cons.1 hr
    have e : (((dv, u), xs) :: ls).flatMap encP ++ r = uintB dv ++ (uintB u ++ (uintB xs.length ++ (gapsB u xs ++ (ls.flatMap encP ++ r)))) := by
      simp only [List.flatMap_cons, encP, List.append_assoc]
    rw [e, List.length_cons, decOut, readInt_uintB (by omega) (by omega)]
    simp only
    rw [readU_uintB (by omega)]
    simp only
    rw [readInt_uintB hxl (by omega)]
    simp only
    rw [hfx]
    rw [decIn_gaps xs u _ [] hwf.1 (fun y hy => ⟨by have := hwf.2.1 y hy; simp only at this; omega, hwf.2.2.2.1 y hy⟩) hu]
    simp only [List.nil_append]
    have hlast : (xs.getLast?).getD u ≤ 1099511627776 := by
      cases h : xs.getLast? with
      | none => exact hu
      | some y => exact hwf.2.2.2.1 y (List.mem_of_getLast? h)
    rw [if_neg (by omega), decOut_parts ls _ r (fun y hy => hw y (by simp [hy])) a2.2 (fun y hy => by
      have := a2.1 y hy
      simp only at this
      rw [getD_set_ne (by omega)]
      exact hf y (by simp [hy]))]
    rfl
theorem decode_encS {ps : List Pt} (h : ps.length = 16) (hw : ∀ p ∈ ps, WfP p) : decode (encS ps) = some ps := by
  have hpl := partsT_len ps 16
  have hall := setsOf_all h
  unfold decode
  have e : encS ps = uintB (parts ps).length ++ ((parts ps).flatMap encP ++ []) := by rw [List.append_nil]; rfl
  have e16 : readInt 16 (encS ps) false = ((parts ps).length, (parts ps).flatMap encP ++ [], false) := by
    rw [e]
    exact readInt_uintB hpl (by have : (parts ps).length ≤ 16 := hpl; omega) _
  rw [e16]
  simp only
  rw [decOut_parts (parts ps) emptyS [] (fun x hx => ⟨(parts_wf hw hx).1, (parts_wf hw hx).2.1⟩) (parts_rise 16) (fun x _ => empty_getD _)]
  simp only
  have e2 : (parts ps).foldl (fun u x => u.set x.1.1 (x.1.2, x.2)) emptyS = ps := hall
  rw [e2, if_neg]
  rintro (h1 | h1 | h1 | h1)
  · cases h1
  · exact h1 rfl
  · have : ps.all formP = true := List.all_eq_true.2 fun p hp => form_wf (hw p hp)
    rw [this] at h1; cases h1
  · exact h1 rfl
end Go.Ab.Dot
/- The document's numbers: the walk. By an AI agent. -/
set_option maxRecDepth 10000
set_option linter.unusedVariables false
set_option linter.unusedSimpArgs false
namespace Go.Ab.Dot
open Go Go.Ab

/-- Bytes of one's own, or a literal of bytes that is full. -/
def OwX (T : Nat) (M : RM) (base : Nat) (v : AV) (L : List UInt8) : Prop :=
  Own M base T 1 v (bytesC L) L.length ∨ ∃ b, v = .slc b 0 L.length (.ex L.length) ∧ base ≤ b ∧ b < M.next ∧ M.heap b = some (.row (bytesC L) false T 0)
theorem OwX.sl {T base : Nat} {M : RM} {v : AV} {L : List UInt8} (h : OwX T M base v L) : Sl BY M v L := by
  rcases h with h | ⟨b, rfl, h1, h2, h3⟩
  · exact Own.sl h
  · show SlR M 1 _ (BY.row L) L.length
    rw [BY_row]
    refine .slc _ _ _ _ _ h2 ?_
    rw [RM.loads_row h3 (by simp), Nat.mul_one, List.drop_zero, List.take_of_length_le (by simp)]
theorem OwX.keep {T base : Nat} {M M' : RM} {v : AV} {L : List UInt8} (h : OwX T M base v L) (hk : Keep [] M M') : OwX T M' base v L := by
  rcases h with h | ⟨b, rfl, h1, h2, h3⟩
  · exact .inl (h.keep hk (by simp))
  · exact .inr ⟨b, rfl, h1, Nat.lt_of_lt_of_le h2 hk.next, hk.heap_of h3 h2 (by simp)⟩
theorem OwX.app {T base : Nat} {M : RM} {v u : AV} {L L' : List UInt8} {zs : List AV} {K : PostV} (h : OwX T M base v L) (hb : base ≤ M.next) (hu : Sl BY M u L') (hl : L.length + L'.length ≤ 1000000000)
    (hK : ∀ v' M', OwX T M' base v' (L ++ L') → Keep (blkOf v) M M' → (∀ d ∈ blkOf v, base ≤ d) → K v' M') : appW T 1 1 zs false v u M K := by
  have hcs : BY.row L' = bytesC L' := BY_row L'
  have hu' : SlR M 1 u (bytesC L') L'.length := by rw [← hcs]; exact hu
  rcases h with h | ⟨b, rfl, h1, h2, h3⟩
  · refine app_own h hb (Nat.le_refl _) (hu'.newL _) (by simp) (bytesC_one _) (by omega) (by omega) ?_
    intro v' M' o k _ _
    refine hK v' M' (.inl ?_) k (fun d hd => (h.blk d hd).1)
    rw [bytesC_append, List.length_append]; exact o
  · refine ⟨L'.length, bytesC L', hu'.newL _, by omega, by omega, ?_⟩
    by_cases h0 : L'.length = 0
    · have : L' = [] := List.length_eq_zero_iff.1 h0
      subst this
      refine ⟨.slc b 0 L.length (.ex L.length), M, by simp [appM], hK _ _ (.inr ⟨b, by simp, h1, h2, by simpa using h3⟩) (Keep.refl _ _) (by simp [blkOf]; exact h1)⟩
    · have hld : M.loads b 0 (L.length * 1) = some (bytesC L) := by
        rw [RM.loads_row h3 (by simp), Nat.mul_one, List.drop_zero, List.take_of_length_le (by simp)]
      refine ⟨.slc M.next 0 (L.length + L'.length) (.op 1), M.push (.row (bytesC L ++ bytesC L') true T 0), ?_, hK _ _ (.inl ?_) ((Keep.refl _ _).push _) (by simp [blkOf]; exact h1)⟩
      · have hone : (bytesC L ++ bytesC L').all oneCell = true := by rw [List.all_append, bytesC_one, bytesC_one]; rfl
        simp only [appM, if_neg h0, if_neg (show ¬ L.length + L'.length ≤ L.length by omega), hld]
        rw [if_pos ⟨by omega, by omega, hone⟩]
      · rw [List.length_append, bytesC_append]
        exact .op _ _ _ hb (by simp [RM.push]) (RM.push_new _) (by simp)

/-- The document's number, of one value. -/
def RefUint1 (T v : Nat) (c : CallT) : Prop := ∀ {M : RM} {Q : PostV}, (∀ r M', OwX T M' M.next r (uintB v) → Keep [] M M' → Q r M') → c [N .u64 (v : Int)] M Q
theorem refUint_spec {T v : Nat} {c : CallT} (hv : v < 2 ^ 64) (ih : ∀ w, w < v → RefUint1 T w c) : RefUint1 T v fun args M Q => ∃ a0, args = [a0] ∧ W_rolodex_rolodexref3_Uint T c a0 M Q := by
  intro M Q hQ
  refine ⟨_, rfl, ?_⟩
  unfold W_rolodex_rolodexref3_Uint
  have lit : ∀ (x : UInt8), OwX T (M.push (.row [By x] false T 0)) M.next (.slc M.next 0 1 (.ex 1)) [x] := fun x => .inr ⟨M.next, rfl, Nat.le_refl _, by simp [RM.push], RM.push_new _⟩
  rw [intW_lss]
  refine condB (fun h => ?_) (fun h => ?_)
  · have h : v < 128 := by
      have : (v : Int) < 128 := of_decide_eq_true h
      omega
    rw [cvtW_N, uint_lo h, rows1 (x := By (UInt8.ofNat v)) (size := 1) rfl rfl rfl, newW_eq]
    refine hQ _ _ ?_ ((Keep.refl _ _).push _)
    rw [uintB_lt h]; exact lit _
  · have h : ¬ v < 128 := by
      have : ¬ (v : Int) < 128 := of_decide_eq_false h
      omega
    rw [intW_rem]
    refine ⟨by decide, ?_⟩
    have e1 : (v : Int).tmod 128 = ((v % 128 : Nat) : Int) := by rw [Int.tmod_eq_emod_of_nonneg (by omega)]; rfl
    rw [e1, cvtW_N, wrap_u8_id (by omega) (by omega), intW_add, show ((v % 128 : Nat) : Int) + 128 = ((v % 128 + 128 : Nat) : Int) by omega, wrap_u8_id (by omega) (by omega)]
    have e2 : N .u8 ((v % 128 + 128 : Nat) : Int) = By (UInt8.ofNat (v % 128 + 128)) := by rw [By, u8_nat]; congr 2; omega
    rw [e2, rows1 (x := By (UInt8.ofNat (v % 128 + 128))) (size := 1) rfl rfl rfl, newW_eq, intW_quo]
    refine ⟨by decide, ?_⟩
    rw [show (128 : Int) = ((128 : Nat) : Int) from rfl, quo_nat, wrap_u64_id (by omega) (by omega)]
    have k1 : Keep [] M (M.push (.row [By (UInt8.ofNat (v % 128 + 128))] false T 0)) := (Keep.refl _ _).push _
    have l1 := lit (UInt8.ofNat (v % 128 + 128))
    have n1 : (M.push (.row [By (UInt8.ofNat (v % 128 + 128))] false T 0)).next = M.next + 1 := rfl
    show c _ (M.push (.row [By (UInt8.ofNat (v % 128 + 128))] false T 0)) _
    generalize M.push (.row [By (UInt8.ofNat (v % 128 + 128))] false T 0) = M1 at *
    refine ih (v / 128) (by omega) fun r M2 h2 k2 => ?_
    have hlen := uintB_10 (v := v / 128) (by omega)
    have n2 := k2.next
    refine (l1.keep k2).app (by omega) h2.sl (by simp; omega) fun v' M3 h3 k3 hb3 => ?_
    refine hQ v' M3 ?_ ((k1.trans k2).then_new k3 fun d hd => .inl (hb3 d hd))
    rw [uintB_ge h]
    exact h3
end Go.Ab.Dot
/- The document's parts in memory. By an AI agent. -/
set_option maxRecDepth 10000
set_option linter.unusedVariables false
set_option linter.unusedSimpArgs false
namespace Go.Ab.Dot
open Go Go.Ab

/-- A list of parts that is being made: rows of one's own, their others of one's own, all apart. -/
structure PO (TP TU base : Nat) (M : RM) (v : AV) (out : List PartT) (cs : List AV) (ws : Nat → AV) : Prop where
  own : Own M base TP 3 v cs out.length
  row : ∀ (k : Nat) (hk : k < out.length), cs[3 * k]? = some (N .i64 (out[k].1.1 : Int)) ∧ cs[3 * k + 1]? = some (N .u64 (out[k].1.2 : Int)) ∧ cs[3 * k + 2]? = some (ws k) ∧ Ow U64 M base TU (ws k) out[k].2
  apart : ∀ i j, i < out.length → j < out.length → i ≠ j → ∀ d ∈ blkOf (ws i), d ∉ blkOf (ws j)
  off : ∀ i, i < out.length → ∀ d ∈ blkOf (ws i), d ∉ blkOf v
section
variable {TP TU base : Nat} {M M' : RM} {v : AV} {out : List PartT} {cs : List AV} {ws : Nat → AV}
theorem PO.empty (h : Own M base TP 3 v [] 0) : PO TP TU base M v [] [] (fun _ => nilS) :=
  ⟨h, fun k hk => absurd hk (Nat.not_lt_zero _), fun i j hi => absurd hi (Nat.not_lt_zero _), fun i hi => absurd hi (Nat.not_lt_zero _)⟩
theorem PO.keep {ks : List Nat} (h : PO TP TU base M v out cs ws) (hk : Keep ks M M') (hs : ∀ d ∈ ks, d < base ∨ M.next ≤ d) : PO TP TU base M' v out cs ws := by
  refine ⟨h.own.keep hk (fun d hd hm => by have := h.own.blk d hd; have := hs d hm; omega), fun k hk' => ?_, h.apart, h.off⟩
  obtain ⟨a1, a2, a3, a4⟩ := h.row k hk'
  exact ⟨a1, a2, a3, a4.keep hk fun d hd hm => by have := a4.blk d hd; have := hs d hm; omega⟩
theorem PO.at (h : PO TP TU base M v out cs ws) {i : Nat} (hi : i < out.length) :
    ∃ b, v = .slc b 0 out.length (.op 3) ∧ base ≤ b ∧ b < M.next ∧ M.heap b = some (.row cs true TP 0) ∧ cs.length = out.length * 3 ∧ ∀ (kd : IntKind) (K : AV → Prop), idxS v (N kd (i : Int)) 3 K = K (.ptr b (3 * i)) := by
  obtain ⟨b, h1, h2, h3, h4, h5⟩ := Own.op_pos h.own (by omega)
  refine ⟨b, h1, h2, h3, h4, h5, fun kd K => ?_⟩
  rw [h1, idxS_slc]
  simp only [Int.toNat_natCast]
  rw [show 0 + i * 3 = 3 * i by omega]
  exact propext ⟨fun h => h.2.2, fun h => ⟨by omega, by omega, h⟩⟩
/-- A part is changed. -/
theorem PO.set (h : PO TP TU base M v out cs ws) {i b u : Nat} {w : AV} {xs : List Nat} {M1 M2 : RM} {ks : List Nat} (hi : i < out.length) (hv : v = .slc b 0 out.length (.op 3)) (k1 : Keep ks M M1) (hks : ∀ d ∈ ks, d ∈ blkOf (ws i))
    (hw : Ow U64 M1 base TU w xs) (hw2 : w = ws i ∨ ∀ d ∈ blkOf w, M.next ≤ d) (hb : M2 = M1.put b (.row ((cs.set (3 * i + 1) (N .u64 (u : Int))).set (3 * i + 2) w) true TP 0)) :
    PO TP TU base M2 v (out.set i ((out[i].1.1, u), xs)) ((cs.set (3 * i + 1) (N .u64 (u : Int))).set (3 * i + 2) w) (fun j => if j = i then w else ws j) ∧ Keep (b :: ks) M M2 := by
  obtain ⟨b', e, hb1, hb2, hb3, hb4, _⟩ := h.at hi
  obtain rfl : b = b' := by rw [hv] at e; injection e
  have n1 := k1.next
  have kk : Keep [b] M1 M2 := by subst hb; exact (Keep.refl _ _).put _ (.inr (by simp))
  have hh : M2.heap b = some (.row ((cs.set (3 * i + 1) (N .u64 (u : Int))).set (3 * i + 2) w) true TP 0) := by subst hb; exact heap_put_eq _
  have hbv : ∀ j, j < out.length → b ∉ blkOf (ws j) := fun j hj hm => h.off j hj b hm (by rw [hv]; simp [blkOf])
  have hbw : b ∉ blkOf w := by
    rcases hw2 with rfl | hw2
    · exact hbv i hi
    · exact fun hm => by have := hw2 b hm; omega
  refine ⟨⟨?_, fun j hj => ?_, fun j1 j2 q1 q2 hne d (hd : d ∈ blkOf (if j1 = i then w else ws j1)) => show d ∉ blkOf (if j2 = i then w else ws j2) from ?_, fun j hj d hd => ?_⟩, (k1.mono (fun d hd => List.mem_cons_of_mem _ hd)).trans (kk.mono (by simp))⟩
  · rw [List.length_set, hv]
    exact .op _ _ _ hb1 (Nat.lt_of_lt_of_le hb2 (Nat.le_trans n1 kk.next)) hh (by simp; omega)
  · have hj' : j < out.length := by rw [List.length_set] at hj; exact hj
    obtain ⟨a1, a2, a3, a4⟩ := h.row j hj'
    by_cases hji : j = i
    · subst hji
      rw [List.getElem_set_self]
      simp only [if_true]
      refine ⟨?_, ?_, ?_, hw.keep kk fun d hd hm => ?_⟩
      · rw [List.getElem?_set_ne (by omega), List.getElem?_set_ne (by omega)]; exact a1
      · rw [List.getElem?_set_ne (by omega), List.getElem?_set_self (by omega)]
      · rw [List.getElem?_set_self (by rw [List.length_set]; omega)]
      · simp at hm; subst hm; exact hbw hd
    · rw [List.getElem_set_ne (Ne.symm hji)]
      simp only [if_neg hji]
      refine ⟨?_, ?_, ?_, (a4.keep k1 fun d hd hm => ?_).keep kk fun d hd hm => ?_⟩
      · rw [List.getElem?_set_ne (by omega), List.getElem?_set_ne (by omega)]; exact a1
      · rw [List.getElem?_set_ne (by omega), List.getElem?_set_ne (by omega)]; exact a2
      · rw [List.getElem?_set_ne (by omega), List.getElem?_set_ne (by omega)]; exact a3
      · exact h.apart j i hj' hi hji d hd (hks d hm)
      · simp at hm; subst hm; exact hbv j hj' hd
  · rw [List.length_set] at q1 q2
    by_cases e1 : j1 = i
    · rw [if_pos e1] at hd
      rw [if_neg (fun e => hne (e1.trans e.symm))]
      rcases hw2 with rfl | hw2
      · exact h.apart i j2 hi q2 (fun e => hne (e1.trans e)) d hd
      · intro hm
        have := hw2 d hd
        have := ((h.row j2 q2).2.2.2.blk d hm).2
        omega
    · rw [if_neg e1] at hd
      by_cases e2 : j2 = i
      · rw [if_pos e2]
        rcases hw2 with rfl | hw2
        · exact h.apart j1 i q1 hi e1 d hd
        · intro hm
          have := hw2 d hm
          have := ((h.row j1 q1).2.2.2.blk d hd).2
          omega
      · rw [if_neg e2]
        exact h.apart j1 j2 q1 q2 hne d hd
  · rw [List.length_set] at hj
    have hd : d ∈ blkOf (if j = i then w else ws j) := hd
    by_cases e1 : j = i
    · rw [if_pos e1] at hd
      intro hm
      rw [hv] at hm
      simp [blkOf] at hm
      subst hm; exact hbw hd
    · rw [if_neg e1] at hd
      exact h.off j hj d hd
/-- How far: stored. -/
theorem PO.upto (h : PO TP TU base M v out cs ws) {i b u : Nat} (hi : i < out.length) (hv : v = .slc b 0 out.length (.op 3)) {K : RM → Prop}
    (hK : ∀ M' cs', PO TP TU base M' v (out.set i ((out[i].1.1, u), out[i].2)) cs' (fun j => if j = i then ws i else ws j) → Keep [b] M M' → K M') : storeW M (.ptr b (3 * i + 1)) (N .u64 (u : Int)) 1 K := by
  obtain ⟨b', e, hb1, hb2, hb3, hb4, _⟩ := h.at hi
  obtain rfl : b = b' := by rw [hv] at e; injection e
  obtain ⟨a1, a2, a3, a4⟩ := h.row i hi
  have e2 : (cs.set (3 * i + 1) (N .u64 (u : Int))).set (3 * i + 2) (ws i) = cs.set (3 * i + 1) (N .u64 (u : Int)) := set_same (by rw [List.getElem?_set_ne (by omega)]; exact a3)
  rw [storeW_at hb3 (by omega) rfl rfl]
  obtain ⟨h1, h2⟩ := h.set (u := u) (w := ws i) (xs := out[i].2) (M1 := M) (ks := []) hi hv (Keep.refl _ _) (by simp) a4 (.inl rfl) rfl
  rw [e2] at h1 h2
  exact hK _ _ h1 h2
/-- One more: appended. -/
theorem PO.more (h : PO TP TU base M v out cs ws) {i b x : Nat} (hi : i < out.length) (hv : v = .slc b 0 out.length (.op 3)) (hlen : out[i].2.length ≤ 1000000) (hbase : base ≤ M.next) {K : RM → Prop}
    (hK : ∀ M' ks cs' ws', PO TP TU base M' v (out.set i (out[i].1, out[i].2 ++ [x])) cs' ws' → Keep ks M M' → (∀ d ∈ ks, base ≤ d) → K M') :
    appW TU 1 8 [(N .u64 0)] false (ws i) (.slc M.next 0 1 (.ex 1)) (M.push (.row [N .u64 (x : Int)] false TU 0)) fun t80 M_96 => storeW M_96 (.ptr b (3 * i + 2)) t80 1 K := by
  obtain ⟨b', e, hb1, hb2, hb3, hb4, _⟩ := h.at hi
  obtain rfl : b = b' := by rw [hv] at e; injection e
  obtain ⟨a1, a2, a3, a4⟩ := h.row i hi
  refine app_one (E := U64) (a := x) a4 hbase (Nat.le_refl _) (by omega) (by omega) ?_
  intro v' M' o1 k1 n1 hv'
  have hh : M'.heap b = some (.row cs true TP 0) := k1.heap_of hb3 hb2 (fun hm => h.off i hi b hm (by rw [hv]; simp [blkOf]))
  rw [storeW_at hh (by omega) o1.cells o1.one]
  have e2 : cs.set (3 * i + 1) (N .u64 (out[i].1.2 : Int)) = cs := set_same a2
  obtain ⟨h1, h2⟩ := h.set (u := out[i].1.2) (w := v') (xs := out[i].2 ++ [x]) (M1 := M') hi hv k1 (fun d hd => hd) o1 hv' rfl
  rw [e2] at h1 h2
  refine hK _ _ _ _ h1 h2 fun d hd => ?_
  rcases List.mem_cons.1 hd with rfl | hd
  · exact hb1
  · exact (a4.blk d hd).1
/-- A new part: appended. -/
theorem PO.app {dv u : Nat} {w : AV} {xs : List Nat} (h : PO TP TU base M v out cs ws) (hk : Keep [] M M') (hw : Ow U64 M' base TU w xs) (hw2 : ∀ d ∈ blkOf w, M.next ≤ d) (hbase : base ≤ M.next) (hlen : out.length ≤ 1000000) {zs : List AV} {K : PostV}
    (hK : ∀ v' M'' cs' ws', PO TP TU base M'' v' (out ++ [((dv, u), xs)]) cs' ws' → Keep (blkOf v) M' M'' → (∀ d ∈ blkOf v, base ≤ d) → K v' M'') :
    appW TP 3 40 zs false v (.slc M'.next 0 1 (.ex 1)) (M'.push (.row [N .i64 (dv : Int), N .u64 (u : Int), w] false TP 0)) K := by
  have n1 := hk.next
  have h' := h.keep hk (by simp)
  have hkp : Keep [] M' (M'.push (.row [N .i64 (dv : Int), N .u64 (u : Int), w] false TP 0)) := (Keep.refl _ _).push _
  have hp := h'.keep hkp (by simp)
  have hwp := hw.keep hkp (by simp)
  have hsl : SlR (M'.push (.row [N .i64 (dv : Int), N .u64 (u : Int), w] false TP 0)) 3 (.slc M'.next 0 1 (.ex 1)) [N .i64 (dv : Int), N .u64 (u : Int), w] 1 :=
    .slc _ _ _ _ _ (by simp [RM.push]) (by rw [RM.loads_row (RM.push_new _) (by simp)]; rfl)
  have hall : ([N .i64 (dv : Int), N .u64 (u : Int), w] : List AV).all oneCell = true := by simp [hw.one]; exact ⟨rfl, rfl⟩
  refine app_own hp.own (by rw [next_push]; omega) (by decide) (hsl.newL _) (by simp) hall (by omega) (by omega) ?_
  intro v' M'' o k n hv'
  have hbl := hp.own.blk
  rw [next_push] at n hv'
  have hcl : cs.length = out.length * 3 := hp.own.slR.length
  have hwv : ∀ j, j < out.length → ∀ d ∈ blkOf w, d ∉ blkOf (ws j) := fun j hj d hd hm => by
    have := hw2 d hd
    have := ((h.row j hj).2.2.2.blk d hm).2
    omega
  refine hK v' M'' (cs ++ [N .i64 (dv : Int), N .u64 (u : Int), w]) (fun j => if j = out.length then w else ws j) ⟨?_, fun j hj => ?_, fun j1 j2 q1 q2 hne d (hd : d ∈ blkOf (if j1 = out.length then w else ws j1)) => show d ∉ blkOf (if j2 = out.length then w else ws j2) from ?_, fun j hj d hd => ?_⟩ ((hkp.mono (by simp)).trans k) (fun d hd => (hbl d hd).1)
  · rw [List.length_append]; exact o
  · by_cases e : j = out.length
    · subst e
      rw [List.getElem_append_right (Nat.le_refl _)]
      simp only [Nat.sub_self, List.getElem_cons_zero, if_true]
      refine ⟨?_, ?_, ?_, hwp.keep k fun d hd hm => ?_⟩
      · rw [List.getElem?_append_right (by omega), show 3 * out.length - cs.length = 0 by omega]; rfl
      · rw [List.getElem?_append_right (by omega), show 3 * out.length + 1 - cs.length = 1 by omega]; rfl
      · rw [List.getElem?_append_right (by omega), show 3 * out.length + 2 - cs.length = 2 by omega]; rfl
      · have := hw2 d hd
        have := (h.own.blk d hm).2
        omega
    · have hj' : j < out.length := by rw [List.length_append] at hj; simp at hj; omega
      obtain ⟨a1, a2, a3, a4⟩ := hp.row j hj'
      rw [List.getElem_append_left hj']
      simp only [if_neg e]
      refine ⟨?_, ?_, ?_, a4.keep k fun d hd hm => hp.off j hj' d hd hm⟩
      · rw [List.getElem?_append_left (by omega)]; exact a1
      · rw [List.getElem?_append_left (by omega)]; exact a2
      · rw [List.getElem?_append_left (by omega)]; exact a3
  · rw [List.length_append] at q1 q2
    simp at q1 q2
    by_cases e1 : j1 = out.length
    · rw [if_pos e1] at hd
      rw [if_neg (fun e => hne (e1.trans e.symm))]
      exact hwv j2 (by omega) d hd
    · rw [if_neg e1] at hd
      by_cases e2 : j2 = out.length
      · rw [if_pos e2]
        exact fun hm => hwv j1 (by omega) d hm hd
      · rw [if_neg e2]
        exact h.apart j1 j2 (by omega) (by omega) hne d hd
  · rw [List.length_append] at hj
    simp at hj
    have hd : d ∈ blkOf (if j = out.length then w else ws j) := hd
    by_cases e1 : j = out.length
    · rw [if_pos e1] at hd
      rcases hv' with rfl | hv'
      · intro hm
        have := hw2 d hd
        have := (h.own.blk d hm).2
        omega
      · intro hm
        have := hv' d hm
        have := (hw.blk d hd).2
        omega
    · rw [if_neg e1] at hd
      rcases hv' with rfl | hv'
      · exact h.off j (by omega) d hd
      · intro hm
        have := hv' d hm
        have := ((h'.row j (by omega)).2.2.2.blk d hd).2
        omega
end
end Go.Ab.Dot
/- The form of a set with its blocks apart; the form of the document's list: the walks. By an AI agent. -/
set_option maxRecDepth 10000
set_option linter.unusedVariables false
set_option linter.unusedSimpArgs false
namespace Go.Ab.Dot
open Go Go.Ab

def PartsOC (T TP TU : Nat) (c : CallT) : Prop := ∀ {M : RM} {b : Nat} {ps : List Pt} {S : Nat → Prop} {Q : PostV}, SetH T S M b ps → (∀ p ∈ ps, p.2.length ≤ 1000000) →
  (∀ v M' cs ws, PO TP TU M.next M' v (parts ps) cs ws → Keep [] M M' → Q v M') → c [.ptr b 0] M Q
theorem partsO_spec {TS T TP TU : Nat} {cc : CallT} (hcl : CloneC TU 1 8 cc) : PartsOC TS TP TU fun args M Q => ∃ a0, args = [a0] ∧ W_rolodex_dot_Set_Parts T cc TP a0 M Q := by
  intro M b ps S Q h hlen hQ
  refine ⟨_, rfl, ?_⟩
  unfold W_rolodex_dot_Set_Parts
  simp only [fuseM, joinW_shut]
  obtain ⟨l, hb, hl32, hrow⟩ := h.row
  rw [ptrW_ptr, fld0, loadN_at (n := 32) hb hl32]
  refine loopW_ind (fun m ys M3 => ∃ (i : Nat) (v : AV), m = 16 - i ∧ ys = [v, N .i64 (i : Int)] ∧ i ≤ 16 ∧ Keep [] M M3 ∧ ∃ cs ws, PO TP TU M.next M3 v (partsT ps i) cs ws) _
    ⟨0, nilS, rfl, rfl, Nat.zero_le _, Keep.refl _ _, _, _, PO.empty .nil⟩ ?_
  rintro next m ys M3 hnext ⟨i, v, rfl, rfl, hi, hK, cs, ws, ho⟩
  dsimp only [nthD]
  rw [intW_lss]
  refine condB (fun hlt => ?_) (fun hge => ?_)
  · have hlt : i < 16 := by
      have : (i : Int) < 16 := of_decide_eq_true hlt
      omega
    refine joinV_spec (fun zs M' => ∃ w, zs = [w] ∧ Keep [] M M' ∧ ∃ cs ws, PO TP TU M.next M' w (partsT ps (i + 1)) cs ws) ?_ ?_
    · rintro zs M' ⟨w, rfl, hk', ho'⟩
      dsimp only [nthD]
      rw [intW_add, i64_succ (by omega)]
      exact hnext _ _ _ (by omega) ⟨i + 1, w, rfl, rfl, by omega, hk', ho'⟩
    intro J hJ
    have hil : i < ps.length := by rw [h.len]; exact hlt
    obtain ⟨w, a1, a2, a3, a4, a5⟩ := hrow i hil
    have hpD : ps.getD i (0, []) = ps[i] := by rw [List.getD_eq_getElem?_getD, List.getElem?_eq_getElem hil]; rfl
    have hcut : (l.drop (2 * i)).take 2 = [N .u64 (ps[i].1 : Int), w] := by
      have h1 := (List.getElem?_eq_some_iff.1 a1)
      have h2 := (List.getElem?_eq_some_iff.1 a2)
      obtain ⟨q1, q2⟩ := h1
      obtain ⟨r1, r2⟩ := h2
      rw [List.drop_eq_getElem_cons q1, List.drop_eq_getElem_cons r1, q2, r2]; rfl
    rw [idxPN_agg]
    refine ⟨by omega, by omega, by simp only [Int.toNat_natCast]; omega, ?_⟩
    rw [Int.toNat_natCast, Nat.mul_comm i 2, hcut, newW_eq]
    have hw1 := SlR.one a3
    have hwc := SlR.cells a3
    rw [storeW_all (n := 2) (x := .agg [N .u64 (ps[i].1 : Int), w]) (l := [N .u64 0, .sc (.slice none 0 0)]) (RM.push_new _) rfl rfl (by simp [AV.cells, hw1]; rfl)]
    have kk : Keep [] M3 ((M3.push (.row [N .u64 0, .sc (.slice none 0 0)] false T 0)).put M3.next (.row (AV.agg [N .u64 (ps[i].1 : Int), w]).cells false T 0)) := ((Keep.refl _ _).push _).new _ (Nat.le_refl _)
    have hh : ((M3.push (.row [N .u64 0, .sc (.slice none 0 0)] false T 0)).put M3.next (.row (AV.agg [N .u64 (ps[i].1 : Int), w]).cells false T 0)).heap M3.next = some (.row [N .u64 (ps[i].1 : Int), w] false T 0) := heap_put_eq _
    have hnx : ((M3.push (.row [N .u64 0, .sc (.slice none 0 0)] false T 0)).put M3.next (.row (AV.agg [N .u64 (ps[i].1 : Int), w]).cells false T 0)).next = M3.next + 1 := rfl
    generalize (M3.push (.row [N .u64 0, .sc (.slice none 0 0)] false T 0)).put M3.next (.row (AV.agg [N .u64 (ps[i].1 : Int), w]).cells false T 0) = M4 at *
    have n3 := hK.next
    have ho4 := ho.keep kk (by simp)
    have s4 : Sl U64 M4 w ps[i].2 := SlR.keep (SlR.keep a3 hK (by simp)) kk (by simp)
    rw [fld0, load1_at hh rfl, intW_gtr]
    have skip : ¬ (0 < ps[i].1 ∨ 0 < ps[i].2.length) → J [v] M4 := fun hn => hJ _ _ ⟨v, rfl, hK.trans kk, cs, ws, by
      rw [partsT, hpD, if_neg hn, List.append_nil]; exact ho4⟩
    have take : (0 < ps[i].1 ∨ 0 < ps[i].2.length) → fldW (.ptr M3.next 0) 0 fun t25 => load1 M4 t25 fun t26 => fldW (.ptr M3.next 0) 1 fun t27 => load1 M4 t27 fun t28 => cc [t28] M4 fun t29 M_13 => load1 M_13 t25 fun t26_16 =>
        (t26_16 = t26 ∧ buildW [(N .i64 0), (N .u64 0), (.sc (.slice none 0 0))] [(0, 1, N .i64 (i : Int)), (1, 1, t26), (2, 1, t29)] fun t30 =>
        rowsW TP 1 [(N .i64 0), (N .u64 0), (.sc (.slice none 0 0))] [(0, 3, t30)] fun r f => newR r f M_13 fun t31 M_14 b => appW TP 3 40 [(N .i64 0), (N .u64 0), (.sc (.slice none 0 0))] false v t31 M_14 fun t32 M_15 => J [t32] M_15) := fun hy => by
      rw [fld0, load1_at hh rfl, fld0, load1_at hh rfl]
      have hm := hlen _ (List.getElem_mem hil)
      refine hcl s4 (Enc.row_all _ _) (by omega) (by omega) fun y M5 hy5 k5 => ?_
      have n5 := k5.next
      rw [load1_at (k5.heap_of hh (by omega) (by simp)) rfl]
      refine ⟨rfl, ?_⟩
      rw [buildW_eq]
      refine ⟨_, build3 rfl rfl rfl rfl hy5.slR.known hy5.cells, ?_⟩
      have hall : ([N .i64 (i : Int), N .u64 (ps[i].1 : Int), y] : List AV).all oneCell = true := by simp [hy5.one]; exact ⟨rfl, rfl⟩
      rw [rows1 (x := .agg [N .i64 (i : Int), N .u64 (ps[i].1 : Int), y]) (size := 3) rfl hall rfl, newR_eq]
      refine ho4.app (dv := i) (u := ps[i].1) (xs := ps[i].2) k5 (hy5.mono (by omega)) (fun d hd => (hy5.blk d hd).1) (by omega) (by have := partsT_len ps i; omega) ?_
      intro w' M6 cs' ws' o6 k6 hd6
      refine hJ _ _ ⟨w', rfl, ?_, cs', ws', ?_⟩
      · exact ((hK.trans kk).trans k5).then_new k6 fun c hc => .inl (hd6 c hc)
      · rw [partsT, hpD, if_pos hy]
        exact o6
    by_cases hu : 0 < ps[i].1
    · rw [show decide ((ps[i].1 : Int) > 0) = true by simpa using hu, guardM_TF]
      dsimp only
      rw [pickT, condT]
      exact take (.inl hu)
    · rw [show decide ((ps[i].1 : Int) > 0) = false by simp; omega, guardM_FF]
      dsimp only
      rw [fld0, load1_at hh rfl, SlR.len s4, intW_gtr, pickF]
      refine condB (fun hg => take (.inr ?_)) (fun hg => ?_)
      · have : ((ps[i].2.length : Nat) : Int) > 0 := of_decide_eq_true hg
        omega
      · refine skip ?_
        have : ¬ ((ps[i].2.length : Nat) : Int) > 0 := of_decide_eq_false hg
        omega
  · have he : i = 16 := by
      have : ¬ (i : Int) < 16 := of_decide_eq_false hge
      omega
    subst he
    exact hQ v M3 cs ws ho hK

/-! ### The form of the document's list -/
def rnew (l : List Dot) (i : Nat) (o : List PartT) : List PartT := if i = 0 ∨ (l.getD i (0, 0)).1 ≠ (l.getD (i - 1) (0, 0)).1 then o ++ [(((l.getD i (0, 0)).1.toNat, 0), [])] else o
def bump (p : PartT) (n : Nat) : PartT := if p.2 = [] ∧ n = p.1.2 + 1 then ((p.1.1, n), []) else (p.1, p.2 ++ [n])
def bumpL (o : List PartT) (n : Nat) : List PartT := o.set (o.length - 1) (bump (o.getD (o.length - 1) ((0, 0), [])) n)
def rpartsT (l : List Dot) : Nat → List PartT
  | 0 => []
  | i + 1 => bumpL (rnew l i (rpartsT l i)) (l.getD i (0, 0)).2
def rparts (l : List Dot) : List PartT := rpartsT l l.length
/-- Bounds of a part that is made of i dots. -/
def BdR (i : Nat) (p : PartT) : Prop := p.1.1 < 16 ∧ p.1.2 ≤ 1099511627776 ∧ p.2.length ≤ i ∧ ∀ x ∈ p.2, x ≤ 1099511627776
theorem rnew_len (l : List Dot) (i : Nat) (o : List PartT) : o.length ≤ (rnew l i o).length ∧ (rnew l i o).length ≤ o.length + 1 := by
  unfold rnew; split <;> simp
theorem rpartsT_len (l : List Dot) : ∀ i, (rpartsT l i).length ≤ i ∧ (0 < i → 0 < (rpartsT l i).length)
  | 0 => ⟨Nat.le_refl _, fun h => absurd h (by omega)⟩
  | i + 1 => by
    have h1 := rpartsT_len l i
    have h2 := rnew_len l i (rpartsT l i)
    rw [rpartsT, bumpL, List.length_set]
    refine ⟨by omega, fun _ => ?_⟩
    by_cases h : i = 0
    · subst h; simp [rnew]
    · omega
theorem rnew_pos (l : List Dot) (i : Nat) : 0 < (rnew l i (rpartsT l i)).length := by
  have h1 := rpartsT_len l i
  have h2 := rnew_len l i (rpartsT l i)
  by_cases h : i = 0
  · subst h; simp [rnew]
  · omega
theorem getD_of {α : Type} {l : List α} {i : Nat} {d : α} (h : i < l.length) : l.getD i d = l[i] := by
  rw [List.getD_eq_getElem?_getD, List.getElem?_eq_getElem h]; rfl
theorem good_dev {d : Dot} (h : good d = true) : 0 ≤ d.1 ∧ d.1 < 16 ∧ d.2 ≤ 1099511627776 ∧ 1 ≤ d.2 := by
  simp only [good, Bool.and_eq_true, decide_eq_true_eq] at h
  omega
theorem bump_bd {i n : Nat} {p : PartT} (h : BdR i p) (hn : n ≤ 1099511627776) : BdR (i + 1) (bump p n) := by
  obtain ⟨h1, h2, h3, h4⟩ := h
  unfold bump
  split
  · exact ⟨h1, hn, by simp, by simp⟩
  · refine ⟨h1, h2, by simp; omega, fun x hx => ?_⟩
    rcases List.mem_append.1 hx with hx | hx
    · exact h4 x hx
    · simp at hx; omega
theorem rnew_bd {l : List Dot} {i : Nat} {o : List PartT} (hi : i < l.length) (hg : ∀ d ∈ l, good d = true) (h : ∀ p ∈ o, BdR i p) : ∀ p ∈ rnew l i o, BdR i p := by
  intro p hp
  have hd := good_dev (hg _ (List.getElem_mem hi))
  unfold rnew at hp
  split at hp
  · rcases List.mem_append.1 hp with hp | hp
    · exact h p hp
    · simp only [List.mem_singleton] at hp
      subst hp
      rw [getD_of hi]
      exact ⟨by show l[i].1.toNat < 16; omega, Nat.zero_le _, Nat.zero_le _, by simp⟩
  · exact h p hp
theorem rpartsT_bd {l : List Dot} (hg : ∀ d ∈ l, good d = true) : ∀ i, i ≤ l.length → ∀ p ∈ rpartsT l i, BdR i p
  | 0, _, p, hp => by simp [rpartsT] at hp
  | i + 1, hi, p, hp => by
    have h1 := rnew_bd (by omega) hg (rpartsT_bd hg i (by omega))
    have hpos := rnew_pos l i
    rw [rpartsT, bumpL] at hp
    rcases List.mem_or_eq_of_mem_set hp with hp | rfl
    · obtain ⟨q1, q2, q3, q4⟩ := h1 p hp
      exact ⟨q1, q2, by omega, q4⟩
    · have hd := good_dev (hg _ (List.getElem_mem (show i < l.length by omega)))
      refine bump_bd (h1 _ ?_) (by rw [getD_of (by omega)]; omega)
      rw [getD_of (by omega)]
      exact List.getElem_mem _
theorem fill1of3 {x a b c : AV} (h1 : known x = true) (h2 : x.cells = [x]) : fillL [a, b, c] [(0, 1, x)] = some [x, b, c] := by
  simp [fillL, h1, h2]
def RefPartsC (TP TU : Nat) (c : CallT) : Prop := ∀ {M : RM} {v : AV} {l : List Dot} {Q : PostV}, Sl DotE M v l → (∀ d ∈ l, good d = true) → l.length ≤ 100000 →
  (∀ w M' cs ws, PO TP TU M.next M' w (rparts l) cs ws → Keep [] M M' → Q w M') → c [v] M Q
theorem refParts_spec {TP TU : Nat} : RefPartsC TP TU fun args M Q => ∃ a0, args = [a0] ∧ W_rolodex_rolodexref13_Parts TP TU a0 M Q := by
  intro M v l Q hs hg hl hQ
  refine ⟨_, rfl, ?_⟩
  unfold W_rolodex_rolodexref13_Parts
  simp only [fuseM, fuseK, fuseKM, joinW_shut]
  refine ⟨_, _, _, _, rfl, rfl, by decide, by decide, by decide, by decide, ?_⟩
  dsimp only
  rw [newW_eq]
  have kM : Keep [] M (M.push (.row (repL [(N .i64 0), (N .u64 0), (.sc (.slice none 0 0))] 0) false TP 0)) := (Keep.refl _ _).push _
  have oM : Own (M.push (.row (repL [(N .i64 0), (N .u64 0), (.sc (.slice none 0 0))] 0) false TP 0)) M.next TP 3 (.slc M.next 0 0 (.ex 0)) [] 0 := Own.lit M (Nat.le_refl _)
  refine loopW_ind (fun m ys M3 => ∃ (i : Nat) (w : AV), m = l.length - i ∧ ys = [w, N .i64 (i : Int)] ∧ i ≤ l.length ∧ Keep [] M M3 ∧ ∃ cs ws, PO TP TU M.next M3 w (rpartsT l i) cs ws) _
    ⟨0, _, rfl, rfl, Nat.zero_le _, kM, _, _, PO.empty oM⟩ ?_
  rintro next m ys M3 hnext ⟨i, w, rfl, rfl, hi, hK, cs, ws, ho⟩
  dsimp only [nthD]
  have s3 : Sl DotE M3 v l := SlR.keep hs hK (by simp)
  rw [SlR.len s3, intW_lss]
  refine condB (fun hlt => ?_) (fun hge => ?_)
  · have hlt : i < l.length := by
      have : (i : Int) < (l.length : Int) := of_decide_eq_true hlt
      omega
    refine joinV_spec (fun zs M' => ∃ w, zs = [w] ∧ Keep [] M M' ∧ ∃ cs ws, PO TP TU M.next M' w (rpartsT l (i + 1)) cs ws) ?_ ?_
    · rintro zs M' ⟨w, rfl, hk', ho'⟩
      dsimp only [nthD]
      rw [intW_add, i64_succ (by omega)]
      exact hnext _ _ _ (by omega) ⟨i + 1, w, rfl, rfl, by omega, hk', ho'⟩
    intro J hJ
    have hDi : l.getD i (0, 0) = l[i] := getD_of hlt
    have hgi := good_dev (hg _ (List.getElem_mem hlt))
    have hlenT := rpartsT_len l i
    have hnewL := rnew_len l i (rpartsT l i)
    have hnewP := rnew_pos l i
    refine joinV_spec (fun zs M' => ∃ w, zs = [w] ∧ Keep [] M M' ∧ ∃ cs ws, PO TP TU M.next M' w (rnew l i (rpartsT l i)) cs ws) ?_ ?_
    · rintro zs M4 ⟨w4, rfl, k4, cs4, ws4, o4⟩
      dsimp only [nthD]
      have hbd := rnew_bd hlt hg (rpartsT_bd hg i (by omega))
      have hup : rpartsT l (i + 1) = bumpL (rnew l i (rpartsT l i)) l[i].2 := by rw [rpartsT, hDi]
      generalize rnew l i (rpartsT l i) = o at *
      have n4 := k4.next
      have s4 : Sl DotE M4 v l := SlR.keep hs k4 (by simp)
      have hk : o.length - 1 < o.length := by omega
      obtain ⟨b, hv, hb1, hb2, hb3, hb4, hidx⟩ := o4.at hk
      obtain ⟨a1, a2, a3, a4⟩ := o4.row _ hk
      have hp := hbd _ (List.getElem_mem hk)
      have hgD : o.getD (o.length - 1) ((0, 0), []) = o[o.length - 1] := getD_of hk
      rw [bumpL, hgD] at hup
      rw [SlR.len o4.own.slR, intW_sub, wrap_i64_id (by omega) (by omega), show (o.length : Int) - 1 = ((o.length - 1 : Nat) : Int) by omega, hidx, ptrW_ptr, fldW_ptr, load1_at hb3 a3, SlR.len a4.slR, intW_eql]
      obtain ⟨b2, o2, _, _, hidx2, hld2⟩ := Sl.at (i := i) s4 2 (i : Int) hlt
      have more : bump o[o.length - 1] l[i].2 = (o[o.length - 1].1, o[o.length - 1].2 ++ [l[i].2]) → ptrW (.ptr b (3 * (o.length - 1))) fun t71 => fldW t71 2 fun t72 => load1 M4 t72 fun t73 => idxS v (N .i64 (i : Int)) 2 fun t76 => fldW t76 1 fun t77 => load1 M4 t77 fun t78 =>
          rowsW TU 1 [(N .u64 0)] [(0, 1, t78)] fun r_92 f_93 => newR r_92 f_93 M4 fun t79 M_94 b_95 => appW TU 1 8 [(N .u64 0)] false t73 t79 M_94 fun t80 M_96 => ptrW (.ptr b (3 * (o.length - 1))) fun t81 => fldW t81 2 fun t82 => storeW M_96 t82 t80 1 fun M_97 => J [w4] M_97 := fun e => by
        rw [ptrW_ptr, fldW_ptr, load1_at hb3 a3, hidx2, fldW_ptr, load1_cell (cell_of_loads hld2 rfl), rows1 (x := N .u64 (l[i].2 : Int)) (size := 1) rfl rfl rfl, newR_eq]
        simp only [ptrW_ptr, fldW_ptr]
        refine o4.more hk hv (by have := hp.2.2.1; omega) (by omega) fun M5 ks cs5 ws5 o5 k5 hks => ?_
        refine hJ _ _ ⟨w4, rfl, k4.then_new k5 fun c hc => .inl (hks c hc), cs5, ws5, ?_⟩
        rw [hup, e]; exact o5
      by_cases hm : o[o.length - 1].2 = []
      · rw [show (((o[o.length - 1].2.length : Nat) : Int) == 0) = true by rw [hm]; rfl, guardK_TT]
        dsimp only
        rw [hidx2, fldW_ptr, load1_cell (cell_of_loads hld2 rfl), ptrW_ptr, fldW_ptr, load1_at hb3 a2, intW_add, wrap_u64_id (by omega) (by have := hp.2.1; omega), intW_eql, pickT]
        refine condB (fun he => ?_) (fun he => ?_)
        · have he : l[i].2 = o[o.length - 1].1.2 + 1 := by
            have := eq_of_beq he
            omega
          rw [ptrW_ptr, fldW_ptr, load1_at hb3 a2, intW_add, wrap_u64_id (by omega) (by have := hp.2.1; omega), ptrW_ptr, fldW_ptr, show (o[o.length - 1].1.2 : Int) + 1 = ((l[i].2 : Nat) : Int) by omega]
          refine o4.upto hk hv fun M5 cs5 o5 k5 => ?_
          refine hJ _ _ ⟨w4, rfl, k4.then_new k5 fun c hc => .inl (by simp at hc; omega), cs5, (fun j => if j = o.length - 1 then ws4 (o.length - 1) else ws4 j), ?_⟩
          rw [hup, bump, if_pos ⟨hm, he⟩]
          rw [hm] at o5; exact o5
        · have he : ¬ l[i].2 = o[o.length - 1].1.2 + 1 := fun e => by
            rw [beq_eq_false_iff_ne] at he
            omega
          exact more (by rw [bump, if_neg fun h => he h.2])
      · have : o[o.length - 1].2.length ≠ 0 := fun h => hm (List.length_eq_zero_iff.1 h)
        rw [show (((o[o.length - 1].2.length : Nat) : Int) == 0) = false by rw [beq_eq_false_iff_ne]; omega, guardK_FT]
        dsimp only
        rw [pickF, condF]
        exact more (by rw [bump, if_neg fun h => hm h.1])
    intro J1 hJ1
    have s3 : Sl DotE M3 v l := SlR.keep hs hK (by simp)
    have n3 := hK.next
    obtain ⟨b2, o2, _, _, hidx2, hld2⟩ := Sl.at (i := i) s3 2 (i : Int) hlt
    have mk : (i = 0 ∨ l[i].1 ≠ (l.getD (i - 1) (0, 0)).1) → idxS v (N .i64 (i : Int)) 2 fun t32 => fldW t32 0 fun t33 => load1 M3 t33 fun t34 => buildW [(N .i64 0), (N .u64 0), (.sc (.slice none 0 0))] [(0, 1, t34)] fun t35 =>
        rowsW TP 1 [(N .i64 0), (N .u64 0), (.sc (.slice none 0 0))] [(0, 3, t35)] fun r_44 f_45 => newW r_44 f_45 M3 fun t36 M_46 => appW TP 3 40 [(N .i64 0), (N .u64 0), (.sc (.slice none 0 0))] false w t36 M_46 fun t37 M_47 => J1 [t37] M_47 := fun hy => by
      rw [hidx2, fldW_ptr, load1_cell (cell_of_loads hld2 rfl), buildW_eq]
      refine ⟨_, fill1of3 rfl rfl, ?_⟩
      rw [rows1 (x := .agg [N .i64 l[i].1, N .u64 0, .sc (.slice none 0 0)]) (size := 3) rfl rfl rfl, newW_eq]
      have e : l[i].1 = ((l[i].1.toNat : Nat) : Int) := by omega
      have := ho.app (dv := l[i].1.toNat) (u := 0) (xs := []) (w := nilS) (Keep.refl [] _) .nil (fun d hd => by simp [blkOf] at hd) (by omega) (by omega) (zs := [(N .i64 0), (N .u64 0), (.sc (.slice none 0 0))]) (K := fun t37 M_47 => J1 [t37] M_47) ?_
      · rw [← e] at this; exact this
      intro v' M'' cs' ws' o' k' hd'
      refine hJ1 _ _ ⟨v', rfl, hK.then_new k' fun c hc => .inl (hd' c hc), cs', ws', ?_⟩
      rw [rnew, hDi, if_pos hy]; exact o'
    rw [intW_eql]
    by_cases h0 : i = 0
    · subst h0
      rw [show ((((0 : Nat) : Int)) == 0) = true from rfl, guardK_TF]
      dsimp only
      rw [pickT, condT]
      exact mk (.inl rfl)
    · rw [show ((i : Int) == 0) = false by rw [beq_eq_false_iff_ne]; omega, guardK_FF]
      dsimp only
      obtain ⟨b3, o3, _, _, hidx3, hld3⟩ := Sl.at (i := i - 1) s3 2 ((i - 1 : Nat) : Int) (by omega)
      rw [hidx2, fldW_ptr, load1_cell (cell_of_loads hld2 rfl), intW_sub, wrap_i64_id (by omega) (by omega), show (i : Int) - 1 = ((i - 1 : Nat) : Int) by omega, hidx3, fldW_ptr, load1_cell (cell_of_loads hld3 rfl), intW_neq, pickF]
      have hD1 : l.getD (i - 1) (0, 0) = l[i - 1] := getD_of (by omega)
      refine condB (fun he => mk (.inr ?_)) (fun he => ?_)
      · rw [hD1]
        intro e
        rw [e] at he
        simp at he
      · have he : l[i].1 = l[i - 1].1 := by simpa using he
        refine hJ1 _ _ ⟨w, rfl, hK, cs, ws, ?_⟩
        rw [rnew, hDi, hD1, if_neg (by rintro (h | h); exact h0 h; exact h he)]
        exact ho
  · have he : i = l.length := by
      have : ¬ (i : Int) < (l.length : Int) := of_decide_eq_false hge
      omega
    subst he
    exact hQ w M3 cs ws ho hK
end Go.Ab.Dot
/- The bytes of the document's list: the walk. By an AI agent. -/
set_option maxRecDepth 10000
set_option linter.unusedVariables false
set_option linter.unusedSimpArgs false
namespace Go.Ab.Dot
open Go Go.Ab

def RefEncodeC (T : Nat) (c : CallT) : Prop := ∀ {M : RM} {v : AV} {l : List Dot} {Q : PostV}, Sl DotE M v l → (∀ d ∈ l, good d = true) → l.length ≤ 5000 →
  (∀ w M', OwX T M' M.next w (encL (rparts l)) → Keep [] M M' → Q w M') → c [v] M Q
def RefUintC (T : Nat) (c : CallT) : Prop := ∀ v, v < 2 ^ 64 → RefUint1 T v c
/-- A number is laid behind bytes of one's own. -/
theorem refUint_app {T x : Nat} {c : CallT} (hc : RefUintC T c) {M0 M : RM} {b : AV} {L : List UInt8} {zs : List AV} {K : PostV} (k0 : Keep [] M0 M) (h : OwX T M M0.next b L) (hx : x < 2 ^ 64) (hl : L.length ≤ 900000000)
    (hK : ∀ v' M', OwX T M' M0.next v' (L ++ uintB x) → Keep [] M0 M' → Keep [] M M' ∨ True → K v' M') : c [N .u64 (x : Int)] M fun t M' => appW T 1 1 zs false b t M' K := by
  refine hc x hx fun r M1 h1 k1 => ?_
  have n0 := k0.next
  have n1 := k1.next
  have u10 := uintB_10 hx
  refine (h.keep k1).app (by omega) h1.sl (by omega) fun v' M2 h2 k2 hb => ?_
  exact hK v' M2 h2 ((k0.trans k1).then_new k2 fun d hd => .inl (hb d hd)) (.inr trivial)
theorem flat_len {o : List PartT} {k : Nat} (h : ∀ p ∈ o, (encP p).length ≤ k) : (o.flatMap encP).length ≤ o.length * k := by
  induction o with
  | nil => simp
  | cons p o ih =>
    rw [List.flatMap_cons, List.length_append, List.length_cons, Nat.succ_mul]
    have h1 := h p (by simp)
    have h2 := ih fun q hq => h q (by simp [hq])
    omega
theorem encP_lenR {n : Nat} {p : PartT} (hn : n ≤ 5000) (h : BdR n p) : (encP p).length ≤ 30 + 10 * n := by
  obtain ⟨h1, h2, h3, h4⟩ := h
  simp only [encP, List.length_append]
  have a1 := uintB_10 (v := p.1.1) (by omega)
  have a2 := uintB_10 (v := p.1.2) (by omega)
  have a3 := gapsB_len p.2 p.1.2
  have a4 := uintB_10 (v := p.2.length) (by omega)
  omega
theorem refEncode_spec {TP TU T : Nat} {cp cu : CallT} (hp : RefPartsC TP TU cp) (hu : RefUintC T cu) : RefEncodeC T fun args M Q => ∃ a0, args = [a0] ∧ W_rolodex_rolodexref13_Encode cp cu T a0 M Q := by
  intro M v l Q hs hg hl hQ
  refine ⟨_, rfl, ?_⟩
  unfold W_rolodex_rolodexref13_Encode
  refine hp hs hg (by omega) fun w M1 cs ws ho k1 => ?_
  have hlenT := (rpartsT_len l l.length).1
  have hbdT := rpartsT_bd hg l.length (Nat.le_refl _)
  unfold encL at hQ
  change (rparts l).length ≤ l.length at hlenT
  change ∀ p ∈ rparts l, BdR l.length p at hbdT
  generalize rparts l = ls at *
  have n1 := k1.next
  rw [SlR.len ho.own.slR, cvtW_N, wrap_u64_id (by omega) (by omega)]
  refine hu _ (by omega) fun r0 M2 h2 k2 => ?_
  have u10 := uintB_10 (v := ls.length) (by omega)
  refine loopW_ind (fun m ys M3 => ∃ (i : Nat) (v : AV), m = ls.length - i ∧ ys = [v, N .i64 (i : Int)] ∧ i ≤ ls.length ∧ Keep [] M1 M3 ∧ OwX T M3 M1.next v (uintB ls.length ++ (ls.take i).flatMap encP)) _
    ⟨0, r0, rfl, rfl, Nat.zero_le _, k2, by simpa using h2⟩ ?_
  rintro next m ys M3 hnext ⟨i, w3, rfl, rfl, hi, hK, ho3⟩
  dsimp only [nthD]
  have hlenW : ∀ K : AV → Prop, lenW w K = K (N .i64 (ls.length : Int)) := fun K => SlR.len ho.own.slR
  rw [hlenW, intW_lss]
  refine condB (fun hlt => ?_) (fun hge => ?_)
  · have hlt : i < ls.length := by simpa using hlt
    obtain ⟨b, hv, hb1, hb2, hb3, hb4, hidx⟩ := ho.at hlt
    obtain ⟨a1, a2, a3, a4⟩ := ho.row _ hlt
    obtain ⟨hdv, hub, hxl, hxb⟩ := hbdT _ (List.getElem_mem hlt)
    have hL : (uintB ls.length ++ (ls.take (i + 1)).flatMap encP) = (uintB ls.length ++ (ls.take i).flatMap encP) ++ encP ls[i] := by
      rw [List.take_succ_eq_append_getElem hlt, List.flatMap_append, List.append_assoc]; simp
    have hLl : (uintB ls.length ++ (ls.take i).flatMap encP).length ≤ 10 + 5000 * 50030 := by
      rw [List.length_append]
      have := flat_len (o := ls.take i) (k := 50030) fun p hp => by
        have := encP_lenR hl (hbdT p (List.mem_of_mem_take hp))
        omega
      have e : (ls.take i).length ≤ 5000 := by rw [List.length_take]; omega
      have := Nat.mul_le_mul_right 50030 e
      omega
    have hstep : ∀ w M', Keep [] M1 M' → OwX T M' M1.next w ((uintB ls.length ++ (ls.take i).flatMap encP) ++ encP ls[i]) → next [w, N .i64 ((i + 1 : Nat) : Int)] M' := fun w M' k o =>
      hnext _ _ _ (by omega) ⟨i + 1, w, rfl, rfl, by omega, k, by rw [hL]; exact o⟩
    generalize uintB ls.length ++ (ls.take i).flatMap encP = L at *
    generalize ls[i] = pt at *
    obtain ⟨⟨dv, u⟩, xs⟩ := pt
    simp only at hdv hub hxl hxb a1 a2 a4
    have hat : ∀ {M' : RM}, Keep [] M1 M' → M'.heap b = some (.row cs true TP 0) := fun k => k.heap_of hb3 hb2 (by simp)
    rw [hidx, fldW_ptr, load1_at (i := 3 * i + 0) (hat hK) a1, cvtW_N, wrap_u64_id (by omega) (by omega)]
    refine refUint_app hu hK ho3 (by omega) (by omega) fun w4 M4 ho4 k4 _ => ?_
    have e4 := uintB_10 (v := dv) (by omega)
    rw [hidx, fldW_ptr, load1_at (hat k4) a2]
    refine refUint_app hu k4 ho4 (by omega) (by simp; omega) fun w5 M5 ho5 k5 _ => ?_
    have e5 := uintB_10 (v := u) (by omega)
    rw [hidx, fldW_ptr, load1_at (hat k5) a3, SlR.len a4.slR, cvtW_N, wrap_u64_id (by omega) (by omega)]
    refine refUint_app hu k5 ho5 (by omega) (by simp only [List.length_append]; omega) fun w6 M6 ho6 k6 _ => ?_
    have e6 := uintB_10 (v := xs.length) (by omega)
    have hencP : L ++ encP ((dv, u), xs) = L ++ uintB dv ++ uintB u ++ uintB xs.length ++ gapsB u xs := by simp only [encP, List.append_assoc]
    rw [hencP] at hstep
    have hL7 : (L ++ uintB dv ++ uintB u ++ uintB xs.length).length ≤ 10 + 5000 * 50030 + 30 := by simp only [List.length_append]; omega
    generalize L ++ uintB dv ++ uintB u ++ uintB xs.length = L7 at *
    rw [hidx, fldW_ptr, load1_at (hat k6) a2]
    refine loopW_ind (fun m ys M8 => ∃ (j q : Nat) (w : AV), m = xs.length - j ∧ ys = [w, N .u64 (q : Int), N .i64 (j : Int)] ∧ j ≤ xs.length ∧ (u :: xs)[j]? = some q ∧ Keep [] M1 M8 ∧ OwX T M8 M1.next w (L7 ++ gapsB u (xs.take j))) _
      ⟨0, u, w6, rfl, rfl, Nat.zero_le _, rfl, k6, by simpa [gapsB] using ho6⟩ ?_
    rintro next2 m ys M8 hnext2 ⟨j, q, w8, rfl, rfl, hj, hq, hK8, ho8⟩
    dsimp only [nthD]
    rw [hidx, fldW_ptr, load1_at (hat hK8) a3, SlR.len a4.slR, intW_lss]
    refine condB (fun hlt2 => ?_) (fun hge2 => ?_)
    · have hlt2 : j < xs.length := by simpa using hlt2
      have s8 : Sl U64 M8 (ws i) xs := SlR.keep a4.slR hK8 (by simp)
      obtain ⟨b2, o2, hbn, _, hidx2, hc2⟩ := Sl.at1 (E := U64) s8 (j : Int) hlt2
      have hxj := hxb _ (List.getElem_mem hlt2)
      have hqb : q < 2 ^ 64 := by
        have := List.mem_of_getElem? hq
        rcases List.mem_cons.1 this with rfl | h
        · omega
        · have := hxb _ h; omega
      rw [hidx, fldW_ptr, load1_at (hat hK8) a3, hidx2, load1_cell (hc2 _ rfl), intW_sub, sub_u64 (by omega)]
      have hg10 := gapsB_len (xs.take j) u
      have htl : (xs.take j).length ≤ 5000 := by rw [List.length_take]; omega
      refine refUint_app hu hK8 ho8 (sub64_lt _ _) (by rw [List.length_append]; omega) fun w9 M9 ho9 k9 _ => ?_
      have s9 : Sl U64 M9 (ws i) xs := SlR.keep a4.slR k9 (by simp)
      obtain ⟨b3, o3, _, _, hidx3, hc3⟩ := Sl.at1 (E := U64) s9 (j : Int) hlt2
      rw [hidx, fldW_ptr, load1_at (hat k9) a3, hidx3, load1_cell (hc3 _ rfl), intW_add, i64_succ (by omega)]
      refine hnext2 _ _ _ (by omega) ⟨j + 1, xs[j], w9, rfl, rfl, by omega, by rw [List.getElem?_cons_succ, List.getElem?_eq_getElem hlt2], k9, ?_⟩
      rw [gaps_take hlt2 hq, ← List.append_assoc]; exact ho9
    · have he : j = xs.length := by simp at hge2; omega
      subst he
      rw [List.take_length] at ho8
      rw [intW_add, i64_succ (by omega)]
      exact hstep _ _ hK8 ho8
  · have he : i = ls.length := by simp at hge; omega
    subst he
    rw [List.take_length] at ho3
    refine hQ w3 M3 ?_ (k1.trans hK)
    rcases ho3 with h | ⟨b, rfl, h1, h2, h3⟩
    · exact .inl (h.mono n1)
    · exact .inr ⟨b, rfl, by omega, h2, h3⟩
end Go.Ab.Dot
/- Is a set that list: the walk. By an AI agent. -/
set_option maxRecDepth 10000
set_option linter.unusedVariables false
set_option linter.unusedSimpArgs false
namespace Go.Ab.Dot
open Go Go.Ab

theorem guardP_FF {f g : Prop → Prop} {k : Prop} : guardP (Bo false) false f g k = f k := rfl
theorem guardP_TF {f g : Prop → Prop} {k : Prop} : guardP (Bo true) false f g k = g k := rfl
section
variable {TP TU base : Nat} {M : RM} {v : AV} {out : List PartT} {cs : List AV} {ws : Nat → AV}
/-- One of a part's others is written. -/
theorem PO.write (h : PO TP TU base M v out cs ws) {i k x : Nat} (hi : i < out.length) (hk : k < out[i].2.length) :
    ∃ b, b ∈ blkOf (ws i) ∧ (∀ (kd : IntKind) (K : AV → Prop), idxS (ws i) (N kd (k : Int)) 1 K = K (.ptr b k)) ∧ ∀ K : RM → Prop,
      (∀ M', PO TP TU base M' v (out.set i (out[i].1, out[i].2.set k x)) cs ws → Keep [b] M M' → K M') → storeW M (.ptr b k) (N .u64 (x : Int)) 1 K := by
  obtain ⟨a1, a2, a3, a4⟩ := h.row i hi
  obtain ⟨b, e, h1, h2, h3, h4⟩ := Own.op_pos a4 (by omega)
  refine ⟨b, by rw [e]; simp [blkOf], fun kd K => ?_, fun K hK => ?_⟩
  · rw [e, idxS_slc]
    simp only [Int.toNat_natCast]
    rw [show 0 + k * 1 = k by omega]
    exact propext ⟨fun h => h.2.2, fun h => ⟨by omega, by omega, h⟩⟩
  have hrl : (U64.row out[i].2).length = out[i].2.length := by rw [Enc.row_len]; simp [U64]
  rw [storeW_at h3 (by omega) rfl rfl]
  have hrow : (U64.row out[i].2).set k (N .u64 (x : Int)) = U64.row (out[i].2.set k x) := by rw [U64_row, U64_row, List.map_set]
  have kk : Keep [b] M (M.put b (.row ((U64.row out[i].2).set k (N .u64 (x : Int))) true TU 0)) := (Keep.refl _ _).put _ (.inr (by simp))
  have hh : (M.put b (.row ((U64.row out[i].2).set k (N .u64 (x : Int))) true TU 0)).heap b = some (.row (U64.row (out[i].2.set k x)) true TU 0) := by rw [heap_put_eq, hrow]
  have hbw : b ∈ blkOf (ws i) := by rw [e]; simp [blkOf]
  refine hK _ ⟨?_, fun j hj => ?_, ?_, ?_⟩ kk
  · rw [List.length_set]
    exact h.own.keep kk fun d hd hm => by simp at hm; subst hm; exact h.off i hi _ hbw hd
  · have hj' : j < out.length := by rw [List.length_set] at hj; exact hj
    obtain ⟨c1, c2, c3, c4⟩ := h.row j hj'
    by_cases hji : j = i
    · subst hji
      rw [List.getElem_set_self]
      refine ⟨c1, c2, c3, ?_⟩
      rw [e]
      show Own _ base TU 1 _ (U64.row (out[j].2.set k x)) (out[j].2.set k x).length
      rw [List.length_set]
      exact .op _ _ _ h1 h2 hh (by rw [Enc.row_len, List.length_set]; rfl)
    · rw [List.getElem_set_ne (Ne.symm hji)]
      exact ⟨c1, c2, c3, c4.keep kk fun d hd hm => by simp at hm; subst hm; exact h.apart i j hi hj' (Ne.symm hji) _ hbw hd⟩
  · rw [List.length_set]; exact h.apart
  · rw [List.length_set]; exact h.off
end
def IsC (TS : Nat) (c : CallT) : Prop := ∀ {M : RM} {b : Nat} {ps : List Pt} {S : Nat → Prop} {v : AV} {l : List Dot} {Q : PostV}, SetH TS S M b ps → (∀ p ∈ ps, WfP p) → Sl DotE M v l → (∀ d ∈ l, good d = true) → l.length ≤ 5000 → parts ps = rparts l →
  (∀ M', Keep [] M M' → Q (Bo true) M') → c [.ptr b 0, v] M Q
theorem is_spec {TS TP TQ TU T : Nat} {cp cq ce cf : CallT} (hp : PartsOC TS TP TU cp) (hq : RefPartsC TQ TU cq) (he : EncodeC TS T ce) (hf : RefEncodeC T cf) :
    IsC TS fun args M Q => ∃ a0 a1, args = [a0, a1] ∧ W_rolodex_rolodexlaw13_is cp cq ce cf a0 a1 M Q := by
  intro M b ps S v l Q hset hwf hs hg hl heq hQ
  refine ⟨_, _, rfl, ?_⟩
  unfold W_rolodex_rolodexlaw13_is
  refine hp hset (fun p hp => by have := (hwf p hp).2.2.2.2; omega) fun vp M1 cs ws op k1 => ?_
  have n1 := k1.next
  refine hq (SlR.keep hs k1 (by simp)) hg (by omega) fun vq M2 cq wq oq k2 => ?_
  have n2 := k2.next
  have henc : encS ps = encL (rparts l) := by rw [encS, heq]
  have hbd := rpartsT_bd hg l.length (Nat.le_refl _)
  change ∀ p ∈ rparts l, BdR l.length p at hbd
  rw [heq] at op
  have hlen := (rpartsT_len l l.length).1
  change (rparts l).length ≤ l.length at hlen
  have lenP : ∀ K : AV → Prop, lenW vp K = K (N .i64 ((rparts l).length : Int)) := fun K => SlR.len op.own.slR
  have lenQ : ∀ K : AV → Prop, lenW vq K = K (N .i64 ((rparts l).length : Int)) := fun K => SlR.len oq.own.slR
  rw [lenP, lenQ, intW_neq, show (((rparts l).length : Int) != (rparts l).length) = false by simp]
  simp only [guardK_FF, guardM_FF, guardP_FF, pickF]
  have hset2 := (hset.below.keep k1 (by simp) (by simp)).keep k2 (by simp) (by simp)
  refine he hset2 (fun p hp => (hwf p hp).bd) fun r M3 o3 _ k3 => ?_
  have n3 := k3.next
  have s3 : Sl BY M3 r (encS ps) := Own.sl o3
  rw [Sl.str s3]
  have hs3 : Sl DotE M3 v l := SlR.keep hs ((k1.trans k2).trans k3) (by simp)
  refine hf hs3 hg hl fun r4 M4 o4 k4 => ?_
  rw [Sl.str (SlR.keep s3 k4 (by simp)), Sl.str o4.sl]
  refine ⟨rfl, ?_⟩
  rw [henc, strW_neq, show (encL (rparts l) != encL (rparts l)) = false by simp, condF]
  have n4 := k4.next
  have k24 := k3.trans k4
  have hwlt : ∀ i, i < (rparts l).length → ∀ d ∈ blkOf (ws i), M.next ≤ d ∧ d < M1.next := fun i hi d hd => (op.row i hi).2.2.2.blk d hd
  have op4 := op.keep (k2.trans k24) (by simp)
  have oq4 := oq.keep k24 (by simp)
  have k04 : Keep [] M M4 := (k1.trans k2).trans k24
  have n04 := k04.next
  generalize rparts l = ls at *
  refine loopW_ind (fun m ys M5 => ∃ (i : Nat) (out : List PartT), m = ls.length - i ∧ ys = [N .i64 (i : Int)] ∧ i ≤ ls.length ∧ Keep [] M M5 ∧ M1.next ≤ M5.next ∧ out.length = ls.length ∧ (∀ j, i ≤ j → out[j]? = ls[j]?) ∧ PO TP TU M.next M5 vp out cs ws ∧ PO TQ TU M1.next M5 vq ls cq wq) _
    ⟨0, ls, rfl, rfl, Nat.zero_le _, k04, by omega, rfl, fun _ _ => rfl, op4, oq4⟩ ?_
  rintro next m ys M5 hnext ⟨i, out, rfl, rfl, hi, k5, n5, hol, hoe, op5, oq5⟩
  dsimp only [nthD]
  rw [lenP, intW_lss]
  refine condB (fun hlt => ?_) (fun hge => ?_)
  · have hlt : i < ls.length := by simpa using hlt
    have hlto : i < out.length := by omega
    obtain ⟨hdv, hub, hxl, hxb⟩ := hbd _ (List.getElem_mem hlt)
    have hoi : out[i] = ls[i] := by
      have := hoe i (Nat.le_refl _)
      rw [List.getElem?_eq_getElem hlto, List.getElem?_eq_getElem hlt] at this
      exact Option.some.inj this
    obtain ⟨b1, hv1, _, hb12, hb13, _, hidx1⟩ := op5.at hlto
    obtain ⟨b2, hv2, hb21, hb22, hb23, _, hidx2⟩ := oq5.at hlt
    obtain ⟨p1, p2, p3, p4⟩ := op5.row i hlto
    obtain ⟨q1, q2, q3, q4⟩ := oq5.row i hlt
    rw [hoi] at p1 p2
    have hl1 : out[i].2.length = ls[i].2.length := by rw [hoi]
    rw [hidx1, fldW_ptr, load1_at (i := 3 * i + 0) hb13 p1, hidx2, fldW_ptr, load1_at (i := 3 * i + 0) hb23 q1, intW_neq, show ((ls[i].1.1 : Int) != ls[i].1.1) = false by simp]
    simp only [guardK_FF, guardM_FF, guardP_FF, pickF]
    rw [hidx1, fldW_ptr, load1_at hb13 p2, hidx2, fldW_ptr, load1_at hb23 q2, intW_neq, show ((ls[i].1.2 : Int) != ls[i].1.2) = false by simp]
    simp only [guardK_FF, guardM_FF, guardP_FF, pickF]
    rw [hidx1, fldW_ptr, load1_at hb13 p3, SlR.len p4.slR, hidx2, fldW_ptr, load1_at hb23 q3, SlR.len q4.slR, hl1, intW_neq, show ((ls[i].2.length : Int) != ls[i].2.length) = false by simp, condF]
    have hstep : ∀ M6 out', Keep [] M M6 → M1.next ≤ M6.next → out'.length = ls.length → (∀ j, i < j → out'[j]? = ls[j]?) → PO TP TU M.next M6 vp out' cs ws → PO TQ TU M1.next M6 vq ls cq wq → next [N .i64 ((i + 1 : Nat) : Int)] M6 := fun M6 out' a b c d e f =>
      hnext _ _ _ (by omega) ⟨i + 1, out', rfl, rfl, by omega, a, b, c, fun j hj => d j (by omega), e, f⟩
    refine loopW_ind (fun m ys M6 => ∃ (k : Nat) (out' : List PartT) (xs' : List Nat), m = ls[i].2.length - k ∧ ys = [N .i64 (k : Int)] ∧ k ≤ ls[i].2.length ∧ Keep [] M M6 ∧ M1.next ≤ M6.next ∧ out'.length = ls.length ∧ (∀ j, i < j → out'[j]? = ls[j]?) ∧ out'[i]? = some (ls[i].1, xs') ∧ xs'.length = ls[i].2.length ∧ (∀ j, k ≤ j → xs'[j]? = ls[i].2[j]?) ∧
        PO TP TU M.next M6 vp out' cs ws ∧ PO TQ TU M1.next M6 vq ls cq wq) _
      ⟨0, out, ls[i].2, rfl, rfl, Nat.zero_le _, k5, n5, hol, fun j hj => hoe j (by omega), by rw [List.getElem?_eq_getElem hlto, hoi], rfl, fun _ _ => rfl, op5, oq5⟩ ?_
    rintro next2 m ys M6 hnext2 ⟨k, out', xs', rfl, rfl, hk, k6, n6, hol6, hoe6, hoi6, hxl6, hxe6, op6, oq6⟩
    dsimp only [nthD]
    have hlt6 : i < out'.length := by omega
    have hoi6' : out'[i] = (ls[i].1, xs') := by
      rw [List.getElem?_eq_getElem hlt6] at hoi6
      exact Option.some.inj hoi6
    obtain ⟨b3, hv3, _, hb32, hb33, _, hidx3⟩ := op6.at hlt6
    obtain ⟨b4, hv4, hb41, hb42, hb43, _, hidx4⟩ := oq6.at hlt
    obtain ⟨c1, c2, c3, c4⟩ := op6.row i hlt6
    obtain ⟨d1, d2, d3, d4⟩ := oq6.row i hlt
    rw [hoi6'] at c4
    simp only at c4
    rw [hidx3, fldW_ptr, load1_at hb33 c3, SlR.len c4.slR, hxl6, intW_lss]
    refine condB (fun hlt2 => ?_) (fun hge2 => ?_)
    · have hlt2 : k < ls[i].2.length := by simpa using hlt2
      have hltx : k < xs'.length := by omega
      have hxk : xs'[k] = ls[i].2[k] := by
        have := hxe6 k (Nat.le_refl _)
        rw [List.getElem?_eq_getElem hltx, List.getElem?_eq_getElem hlt2] at this
        exact Option.some.inj this
      obtain ⟨e1, o1, _, _, hi1, hc1⟩ := Sl.at1 (E := U64) c4.slR (k : Int) hltx
      obtain ⟨e2, o2, _, _, hi2, hc2⟩ := Sl.at1 (E := U64) d4.slR (k : Int) hlt2
      rw [hidx3, fldW_ptr, load1_at hb33 c3, hi1, load1_cell (hc1 _ rfl), hidx4, fldW_ptr, load1_at hb43 d3, hi2, load1_cell (hc2 _ rfl), hxk, intW_neq, show ((ls[i].2[k] : Int) != ls[i].2[k]) = false by simp, condF]
      obtain ⟨b5, hb5, hi5, hst⟩ := op6.write (x := 99) hlt6 (k := k) (by rw [hoi6']; exact hltx)
      rw [hidx3, fldW_ptr, load1_at hb33 c3, hi5]
      refine hst _ fun M7 op7 k7 => ?_
      have hb5' := hwlt i hlt b5 hb5
      rw [hoi6'] at op7
      rw [intW_add, i64_succ (by omega)]
      have n7 := k7.next
      refine hnext2 _ _ _ (by omega) ⟨k + 1, _, xs'.set k 99, rfl, rfl, by omega, k6.then_new k7 (fun d hd => by simp at hd; omega), by omega, by rw [List.length_set]; exact hol6, fun j hj => ?_, ?_, by rw [List.length_set]; exact hxl6, fun j hj => ?_, op7, oq6.keep k7 (fun d hd => by simp at hd; omega)⟩
      · rw [List.getElem?_set_ne (by omega)]; exact hoe6 j hj
      · rw [List.getElem?_set_self hlt6]
      · rw [List.getElem?_set_ne (by omega)]; exact hxe6 j (by omega)
    · rw [intW_add, i64_succ (by omega)]
      exact hstep M6 out' k6 n6 hol6 hoe6 op6 oq6
  · exact hQ M5 k5
end Go.Ab.Dot
/- Sorting numbers: a memory in which a block holds them; insertion sort, heap sort, reversing: the walks. By an AI agent. -/
set_option maxRecDepth 10000
set_option linter.unusedVariables false
set_option linter.unusedSimpArgs false
namespace Go.Ab.Dot
open Go Go.Ab

abbrev lN : Nat → Nat → Bool := fun x y => decide (x < y)
/-- A memory in which a block holds these numbers. -/
def PM (M : RM) (b T : Nat) (d : Array Nat) : RM := M.put b (.row (U64.row d.toList) true T 0)
abbrev vv (b n : Nat) : AV := .slc b 0 n (.op 1)
section
variable {M : RM} {b T n i j : Nat} {d : Array Nat} {K : AV → Prop}
theorem PM.heap : (PM M b T d).heap b = some (.row (U64.row d.toList) true T 0) := RM.put_same _ _
theorem PM.cellsLen : (U64.row d.toList).length = d.size := by rw [Enc.row_len]; simp [U64]
theorem get_bang (hi : i < d.size) : d[i]! = d[i] := getElem!_pos d i hi
theorem PM.cellAt (hi : i < d.size) : (U64.row d.toList)[i]? = some (N .u64 ((d[i]! : Nat) : Int)) := by
  rw [U64_row, List.getElem?_map, Array.getElem?_toList, get_bang hi, Array.getElem?_eq_getElem hi]; rfl
theorem PM.idx {kd : IntKind} (hi : i < n) : idxS (vv b n) (N kd (i : Int)) 1 K = K (.ptr b i) := by
  rw [idxS_slc]
  simp only [Int.toNat_natCast]
  rw [show 0 + i * 1 = i by omega]
  exact propext ⟨fun h => h.2.2, fun h => ⟨by omega, by omega, h⟩⟩
theorem PM.rd {kd : IntKind} (hn : n = d.size) (hi : i < d.size) : (idxS (vv b n) (N kd (i : Int)) 1 fun p => load1 (PM M b T d) p K) = K (N .u64 ((d[i]! : Nat) : Int)) := by
  rw [PM.idx (by omega), load1_at PM.heap (PM.cellAt hi)]
theorem PM.put {x : Nat} (hi : i < d.size) {K : RM → Prop} : storeW (PM M b T d) (.ptr b i) (N .u64 (x : Int)) 1 K = K (PM M b T (d.setIfInBounds i x)) := by
  rw [storeW_at PM.heap (by rw [PM.cellsLen]; exact hi) rfl rfl]
  congr 1
  have e : (U64.row d.toList).set i (N .u64 (x : Int)) = U64.row (d.setIfInBounds i x).toList := by rw [U64_row, U64_row, Array.toList_setIfInBounds, List.map_set]
  rw [e, PM, PM]
  unfold RM.put
  congr 1
  funext c
  by_cases h : c = b <;> simp [h]
/-- Two are swapped. -/
theorem PM.swap {k1 k2 : IntKind} (hn : n = d.size) (hi : i < d.size) (hj : j < d.size) {K : RM → Prop} :
    (idxS (vv b n) (N k1 (i : Int)) 1 fun p => storeW (PM M b T d) p (N .u64 ((d[j]! : Nat) : Int)) 1 fun M1 => idxS (vv b n) (N k2 (j : Int)) 1 fun q => storeW M1 q (N .u64 ((d[i]! : Nat) : Int)) 1 K) = K (PM M b T (Sort.swp d i j)) := by
  rw [PM.idx (by omega), PM.put hi, PM.idx (by omega), PM.put (by simpa using hj)]
  rfl
theorem swp_sz (d : Array Nat) (i j : Nat) : (Sort.swp d i j).size = d.size := by simp [Sort.swp]
theorem PM.push {x : RB} (h : b < M.next) : (PM M b T d).push x = PM (M.push x) b T d := by
  unfold PM RM.push RM.put
  congr 1
  funext c
  simp only
  by_cases h1 : c = M.next <;> by_cases h2 : c = b <;> simp [h1, h2] <;> omega
theorem PM.putNe {x : RB} {c : Nat} (h : c ≠ b) : (PM M b T d).put c x = PM (M.put c x) b T d := by
  unfold PM RM.put
  congr 1
  funext e
  simp only
  by_cases h1 : e = c <;> by_cases h2 : e = b <;> simp [h1, h2] <;> omega
theorem PM.heapNe {c : Nat} (h : c ≠ b) : (PM M b T d).heap c = M.heap c := by
  unfold PM RM.put; simp [h]
theorem addN (h : i + j < 4611686018427387904) : intW .add (N .i64 (i : Int)) (N .i64 (j : Int)) K = K (N .i64 ((i + j : Nat) : Int)) := by
  rw [intW_add, wrap_i64_id (by omega) (by omega), Int.natCast_add]
theorem add1 (h : i < 4611686018427387904) : intW .add (N .i64 (i : Int)) (N .i64 1) K = K (N .i64 ((i + 1 : Nat) : Int)) := by
  rw [intW_add, i64_succ (by omega)]
theorem subN (h : j ≤ i) (hb : i < 4611686018427387904) : intW .sub (N .i64 (i : Int)) (N .i64 (j : Int)) K = K (N .i64 ((i - j : Nat) : Int)) := by
  rw [intW_sub, wrap_i64_id (by omega) (by omega), show (i : Int) - (j : Int) = ((i - j : Nat) : Int) by omega]
theorem sub1 (h : 1 ≤ i) (hb : i < 4611686018427387904) : intW .sub (N .i64 (i : Int)) (N .i64 1) K = K (N .i64 ((i - 1 : Nat) : Int)) := subN h hb
theorem mul2 (hb : i < 1152921504606846976) : intW .mul (N .i64 2) (N .i64 (i : Int)) K = K (N .i64 ((2 * i : Nat) : Int)) := by
  rw [intW_mul, wrap_i64_id (by omega) (by omega), show (2 : Int) * (i : Int) = ((2 * i : Nat) : Int) by omega]
theorem lssN : intW .lss (N .i64 (i : Int)) (N .i64 (j : Int)) K = K (Bo (decide (i < j))) := by rw [intW_lss, show decide ((i : Int) < (j : Int)) = decide (i < j) by simp]
theorem gtrN : intW .gtr (N .i64 (i : Int)) (N .i64 (j : Int)) K = K (Bo (decide (i > j))) := by rw [intW_gtr, show decide ((i : Int) > (j : Int)) = decide (i > j) by simp]
theorem leqN : intW .leq (N .i64 (i : Int)) (N .i64 (j : Int)) K = K (Bo (decide (i ≤ j))) := by rw [intW_leq, show decide ((i : Int) ≤ (j : Int)) = decide (i ≤ j) by simp]
theorem geqN : intW .geq (N .i64 (i : Int)) (N .i64 (j : Int)) K = K (Bo (decide (i ≥ j))) := by rw [intW_geq, show decide ((i : Int) ≥ (j : Int)) = decide (i ≥ j) by simp]
theorem eqlN : intW .eql (N .i64 (i : Int)) (N .i64 (j : Int)) K = K (Bo (decide (i = j))) := by
  rw [intW_eql, show ((i : Int) == (j : Int)) = decide (i = j) by by_cases h : i = j <;> simp [h]; omega]
end
/-- A walk over numbers in a block: what it leaves. -/
def SortW (T : Nat) (f : Array Nat → Nat → Nat → Array Nat) (P : Array Nat → Nat → Nat → Prop) (c : CallT) : Prop := ∀ {M : RM} {b a e : Nat} {d : Array Nat} {Q : PostV}, b < M.next → d.size ≤ 1000000 → a ≤ e → e ≤ d.size → P d a e → Q (.tup []) (PM M b T (f d a e)) →
  c [vv b d.size, N .i64 (a : Int), N .i64 (e : Int)] (PM M b T d) Q
theorem insInner_sz (a : Nat) : ∀ (j : Nat) (d : Array Nat), (Sort.insInner lN a j d).size = d.size
  | 0, d => rfl
  | j + 1, d => by
    rw [Sort.insInner]
    split
    · rw [insInner_sz a j, swp_sz]
    · rfl
theorem insS_spec {T : Nat} {cl : CallT} (hl : LessC cl) : SortW T (Sort.insertionSort lN) (fun _ _ _ => True) fun args M Q => ∃ a0 a1 a2, args = [a0, a1, a2] ∧ W_slices_insertionSortOrdered_uint64 cl a0 a1 a2 M Q := by
  intro M b a e d Q hb hsz hae he _ hQ
  refine ⟨_, _, _, rfl, ?_⟩
  unfold W_slices_insertionSortOrdered_uint64
  simp only [fuseK, fuseKM, fuseMK]
  rw [add1 (by omega)]
  rw [Sort.insertionSort] at hQ
  obtain ⟨R, hR⟩ : ∃ R, R = Sort.insOuter lN a e (a + 1) d := ⟨_, rfl⟩
  rw [← hR] at hQ
  refine loopW_ind (fun m ys M3 => ∃ (i : Nat) (d3 : Array Nat), m = d.size - i ∧ ys = [N .i64 (i : Int)] ∧ i ≤ d.size + 1 ∧ M3 = PM M b T d3 ∧ d3.size = d.size ∧ R = Sort.insOuter lN a e i d3) _ ⟨a + 1, d, rfl, rfl, by omega, rfl, rfl, hR⟩ ?_
  rintro next m ys M3 hnext ⟨i, d3, rfl, rfl, hi, rfl, hs3, hm⟩
  dsimp only [nthD]
  rw [lssN]
  refine condB (fun hlt => ?_) (fun hge => ?_)
  · have hlt : i < e := of_decide_eq_true hlt
    rw [Sort.insOuter, if_pos hlt] at hm
    obtain ⟨R5, hR5⟩ : ∃ R5, R5 = Sort.insInner lN a i d3 := ⟨_, rfl⟩
    rw [← hR5] at hm
    refine loopW_ind (fun m ys M5 => ∃ (j : Nat) (d5 : Array Nat), m = j + 1 ∧ ys = [N .i64 (j : Int)] ∧ j ≤ i ∧ M5 = PM M b T d5 ∧ d5.size = d.size ∧ R5 = Sort.insInner lN a j d5) _ ⟨i, d3, rfl, rfl, Nat.le_refl _, rfl, hs3, hR5⟩ ?_
    rintro next2 m ys M5 hnext2 ⟨j, d5, rfl, rfl, hj, rfl, hs5, hm5⟩
    dsimp only [nthD]
    rw [gtrN]
    have out : Sort.insInner lN a j d5 = d5 → intW .add (N .i64 (i : Int)) (N .i64 1) (fun t14 => next [t14] (PM M b T d5)) := fun h => by
      rw [add1 (by omega)]
      refine hnext _ _ _ (by omega) ⟨i + 1, d5, rfl, rfl, by omega, rfl, hs5, ?_⟩
      rw [hm, hm5, h]
    by_cases hg : j > a
    · obtain ⟨k, rfl⟩ : ∃ k, j = k + 1 := ⟨j - 1, by omega⟩
      rw [decide_eq_true hg, guardM_TT]
      dsimp only
      rw [PM.rd hs5.symm (by omega), sub1 (by omega) (by omega), Nat.add_sub_cancel, PM.rd hs5.symm (by omega)]
      refine hl ?_
      rw [pickT]
      rw [Sort.insInner] at hm5 out
      refine condB (fun h => ?_) (fun h => ?_)
      · rw [if_pos (by simp [hg, h])] at hm5
        rw [sub1 (by omega) (by omega), sub1 (by omega) (by omega), Nat.add_sub_cancel, PM.rd hs5.symm (by omega), PM.rd hs5.symm (by omega), PM.swap hs5.symm (by omega) (by omega), sub1 (by omega) (by omega), Nat.add_sub_cancel]
        exact hnext2 _ _ _ (by omega) ⟨k, _, rfl, rfl, by omega, rfl, by rw [swp_sz]; exact hs5, hm5⟩
      · exact out (by rw [if_neg (by simp [h])])
    · rw [decide_eq_false hg, guardM_FT]
      dsimp only
      rw [pickF, condF]
      refine out ?_
      cases j with
      | zero => rfl
      | succ k => rw [Sort.insInner, if_neg (by simp [hg])]
  · have hge : ¬ i < e := of_decide_eq_false hge
    rw [Sort.insOuter, if_neg hge] at hm
    rw [hm] at hQ
    exact hQ
theorem reverse_spec {T : Nat} : SortW T Sort.reverseRange (fun _ a e => a < e) fun args M Q => ∃ a0 a1 a2, args = [a0, a1, a2] ∧ W_slices_reverseRangeOrdered_uint64 a0 a1 a2 M Q := by
  intro M b a e d Q hb hsz hae he hP hQ
  refine ⟨_, _, _, rfl, ?_⟩
  unfold W_slices_reverseRangeOrdered_uint64
  rw [sub1 (by omega) (by omega)]
  rw [Sort.reverseRange] at hQ
  obtain ⟨R, hR⟩ : ∃ R, R = Sort.reverseLoop a (e - 1) d := ⟨_, rfl⟩
  rw [← hR] at hQ
  refine loopW_ind (fun m ys M3 => ∃ (i j : Nat) (d3 : Array Nat), m = j - i ∧ ys = [N .i64 (i : Int), N .i64 (j : Int)] ∧ j < d.size ∧ i ≤ d.size ∧ M3 = PM M b T d3 ∧ d3.size = d.size ∧ R = Sort.reverseLoop i j d3) _ ⟨a, e - 1, d, rfl, rfl, by omega, by omega, rfl, rfl, hR⟩ ?_
  rintro next m ys M3 hnext ⟨i, j, d3, rfl, rfl, hj, hi, rfl, hs3, hm⟩
  dsimp only [nthD]
  rw [lssN]
  rw [Sort.reverseLoop] at hm
  refine condB (fun hlt => ?_) (fun hge => ?_)
  · have hlt : i < j := of_decide_eq_true hlt
    rw [if_pos hlt] at hm
    rw [PM.rd hs3.symm (by omega), PM.rd hs3.symm (by omega), PM.swap hs3.symm (by omega) (by omega), add1 (by omega), sub1 (by omega) (by omega)]
    exact hnext _ _ _ (by omega) ⟨i + 1, j - 1, _, rfl, rfl, by omega, by omega, rfl, by rw [swp_sz]; exact hs3, hm⟩
  · have hge : ¬ i < j := of_decide_eq_false hge
    rw [if_neg hge] at hm
    rw [hm] at hQ
    exact hQ

/-! ### the heap -/
def SiftC (T : Nat) (c : CallT) : Prop := ∀ {M : RM} {b lo hi first : Nat} {d : Array Nat} {Q : PostV}, b < M.next → d.size ≤ 1000000 → first + hi ≤ d.size → lo ≤ 1000000 → Q (.tup []) (PM M b T (Sort.siftDown lN hi first lo d)) →
  c [vv b d.size, N .i64 (lo : Int), N .i64 (hi : Int), N .i64 (first : Int)] (PM M b T d) Q
theorem sift_sz (hi first : Nat) : ∀ (k lo : Nat) (d : Array Nat), hi - lo ≤ k → (Sort.siftDown lN hi first lo d).size = d.size
  | 0, lo, d, h => by rw [Sort.siftDown, dif_pos (by omega)]
  | k + 1, lo, d, h => by
    rw [Sort.siftDown]
    split
    · rfl
    · split
      · split
        · rfl
        · split
          · rw [sift_sz hi first k _ _ (by omega), swp_sz]
          · rfl
      · split
        · rfl
        · rw [sift_sz hi first k _ _ (by omega), swp_sz]
theorem sift_spec {T : Nat} {cl : CallT} (hl : LessC cl) : SiftC T fun args M Q => ∃ a0 a1 a2 a3, args = [a0, a1, a2, a3] ∧ W_slices_siftDownOrdered_uint64 cl a0 a1 a2 a3 M Q := by
  intro M b lo hi first d Q hb hsz hfe hlo hQ
  refine ⟨_, _, _, _, rfl, ?_⟩
  unfold W_slices_siftDownOrdered_uint64
  simp only [fuseK, fuseKM, fuseMK, joinW_shut]
  obtain ⟨R, hR⟩ : ∃ R, R = Sort.siftDown lN hi first lo d := ⟨_, rfl⟩
  rw [← hR] at hQ
  refine loopW_ind (fun m ys M3 => ∃ (r : Nat) (d3 : Array Nat), m = 1000000 + hi - r ∧ ys = [N .i64 (r : Int)] ∧ (r ≤ 1000000) ∧ M3 = PM M b T d3 ∧ d3.size = d.size ∧ R = Sort.siftDown lN hi first r d3) _ ⟨lo, d, rfl, rfl, hlo, rfl, rfl, hR⟩ ?_
  rintro next m ys M3 hnext ⟨r, d3, rfl, rfl, hr, rfl, hs3, hm⟩
  dsimp only [nthD]
  rw [mul2 (by omega), add1 (by omega), geqN]
  rw [Sort.siftDown] at hm
  refine condB (fun hg => ?_) (fun hg => ?_)
  · rw [dif_pos (of_decide_eq_true hg)] at hm
    rw [hm] at hQ
    exact hQ
  have hg : ¬ 2 * r + 1 ≥ hi := of_decide_eq_false hg
  rw [dif_neg hg] at hm
  -- the child that is taken
  refine joinV_spec (fun zs M' => ∃ c : Nat, zs = [N .i64 (c : Int)] ∧ M' = PM M b T d3 ∧ r < c ∧ c < hi ∧ R = if !lN d3[first + r]! d3[first + c]! then d3 else Sort.siftDown lN hi first c (Sort.swp d3 (first + r) (first + c))) ?_ ?_
  · rintro zs M' ⟨c, rfl, rfl, hrc, hchi, hm2⟩
    dsimp only [nthD]
    rw [addN (by omega), PM.rd hs3.symm (by omega), addN (by omega), PM.rd hs3.symm (by omega)]
    refine hl ?_
    rw [notW_Bo]
    refine condB (fun h => ?_) (fun h => ?_)
    · rw [if_pos h] at hm2
      rw [hm2] at hQ
      exact hQ
    · rw [if_neg (by simp only [lN, h]; decide)] at hm2
      rw [addN (by omega), addN (by omega), addN (by omega), PM.rd hs3.symm (by omega), addN (by omega), PM.rd hs3.symm (by omega), PM.swap hs3.symm (by omega) (by omega)]
      exact hnext _ _ _ (by omega) ⟨c, _, rfl, rfl, by omega, rfl, by rw [swp_sz]; exact hs3, hm2⟩
  intro J hJ
  rw [add1 (by omega), lssN]
  have one : ¬ (2 * r + 1 + 1 < hi ∧ lN d3[first + (2 * r + 1)]! d3[first + (2 * r + 1) + 1]! = true) → J [N .i64 ((2 * r + 1 : Nat) : Int)] (PM M b T d3) := fun h => by
    refine hJ _ _ ⟨2 * r + 1, rfl, rfl, by omega, by omega, ?_⟩
    rw [if_neg (by simpa using h)] at hm
    exact hm
  by_cases h1 : 2 * r + 1 + 1 < hi
  · rw [decide_eq_true h1, guardM_TT]
    dsimp only
    rw [addN (by omega), PM.rd hs3.symm (by omega), addN (by omega), add1 (by omega), PM.rd hs3.symm (by omega)]
    refine hl ?_
    rw [pickT]
    refine condB (fun h => ?_) (fun h => ?_)
    · rw [add1 (by omega)]
      refine hJ _ _ ⟨2 * r + 2, rfl, rfl, by omega, by omega, ?_⟩
      rw [if_pos (by simp only [lN, h, decide_eq_true h1, Bool.and_self]), dif_pos (by omega)] at hm
      exact hm
    · exact one (fun h' => by have := h'.2; rw [show lN d3[first + (2 * r + 1)]! d3[first + (2 * r + 1) + 1]! = false from h] at this; cases this)
  · rw [decide_eq_false h1, guardM_FT]
    dsimp only
    rw [pickF, condF]
    exact one (fun h => h1 h.1)
theorem build_sz (hi first : Nat) : ∀ (k : Nat) (d : Array Nat), (Sort.heapBuild lN hi first k d).size = d.size
  | 0, d => rfl
  | k + 1, d => by rw [Sort.heapBuild, build_sz hi first k, sift_sz hi first hi _ _ (by omega)]
theorem heap_spec {T : Nat} {cs : CallT} (hs : SiftC T cs) : SortW T (Sort.heapSort lN) (fun _ a e => a < e) fun args M Q => ∃ a0 a1 a2, args = [a0, a1, a2] ∧ W_slices_heapSortOrdered_uint64 cs a0 a1 a2 M Q := by
  intro M b a e d Q hb hsz hae he hP hQ
  refine ⟨_, _, _, rfl, ?_⟩
  unfold W_slices_heapSortOrdered_uint64
  rw [Sort.heapSort] at hQ
  rw [subN hae (by omega), sub1 (by omega) (by omega), intW_quo]
  refine ⟨by decide, ?_⟩
  rw [show (2 : Int) = ((2 : Nat) : Int) from rfl, show ((e - a - 1 : Nat) : Int).tdiv ((2 : Nat) : Int) = (((e - a - 1) / 2 : Nat) : Int) by rw [Int.tdiv_eq_ediv_of_nonneg (by omega)]; rfl, wrap_i64_id (by omega) (by omega)]
  obtain ⟨R, hR⟩ : ∃ R, R = Sort.heapBuild lN (e - a) a ((e - a - 1) / 2 + 1) d := ⟨_, rfl⟩
  rw [← hR] at hQ
  refine loopW_ind (fun m ys M3 => ∃ (k : Nat) (d3 : Array Nat), m = k + 1 ∧ ys = [N .i64 ((k : Int) - 1)] ∧ k ≤ (e - a - 1) / 2 + 1 ∧ M3 = PM M b T d3 ∧ d3.size = d.size ∧ R = Sort.heapBuild lN (e - a) a k d3) _ ⟨(e - a - 1) / 2 + 1, d, rfl, by congr 3; omega, Nat.le_refl _, rfl, rfl, hR⟩ ?_
  rintro next m ys M3 hnext ⟨k, d3, rfl, rfl, hk, rfl, hs3, hm⟩
  dsimp only [nthD]
  rw [intW_geq]
  refine condB (fun hg => ?_) (fun hg => ?_)
  · have hg : 1 ≤ k := by
      have : (k : Int) - 1 ≥ 0 := of_decide_eq_true hg
      omega
    obtain ⟨k', rfl⟩ : ∃ k', k = k' + 1 := ⟨k - 1, by omega⟩
    rw [Sort.heapBuild] at hm
    rw [show ((k' + 1 : Nat) : Int) - 1 = (k' : Int) by omega, ← hs3]
    refine hs hb (by omega) (by omega) (by omega) ?_
    rw [intW_sub, wrap_i64_id (by omega) (by omega)]
    exact hnext _ _ _ (by omega) ⟨k', _, rfl, rfl, by omega, rfl, by rw [sift_sz _ _ (e - a) _ _ (by omega)]; exact hs3, hm⟩
  · have hk0 : k = 0 := by
      have : ¬ (k : Int) - 1 ≥ 0 := of_decide_eq_false hg
      omega
    subst hk0
    rw [Sort.heapBuild] at hm
    rw [hm] at hQ
    rw [sub1 (by omega) (by omega)]
    obtain ⟨R4, hR4⟩ : ∃ R4, R4 = Sort.heapPop lN a (e - a) d3 := ⟨_, rfl⟩
    rw [← hR4] at hQ
    refine loopW_ind (fun m ys M4 => ∃ (k : Nat) (d4 : Array Nat), m = k + 1 ∧ ys = [N .i64 ((k : Int) - 1)] ∧ k ≤ e - a ∧ M4 = PM M b T d4 ∧ d4.size = d.size ∧ R4 = Sort.heapPop lN a k d4) _ ⟨e - a, d3, rfl, by congr 3; omega, Nat.le_refl _, rfl, hs3, hR4⟩ ?_
    rintro next2 m ys M4 hnext2 ⟨k, d4, rfl, rfl, hk, rfl, hs4, hm4⟩
    dsimp only [nthD]
    rw [intW_geq]
    refine condB (fun hg => ?_) (fun hg => ?_)
    · have hg : 1 ≤ k := by
        have : (k : Int) - 1 ≥ 0 := of_decide_eq_true hg
        omega
      obtain ⟨k', rfl⟩ : ∃ k', k = k' + 1 := ⟨k - 1, by omega⟩
      rw [Sort.heapPop] at hm4
      rw [show ((k' + 1 : Nat) : Int) - 1 = (k' : Int) by omega, addN (by omega), addN (by omega), PM.rd hs4.symm (by omega), PM.rd hs4.symm (by omega), PM.swap hs4.symm (by omega) (by omega), show d.size = (Sort.swp d4 a (a + k')).size by rw [swp_sz]; exact hs4.symm]
      refine hs (lo := 0) hb (by rw [swp_sz]; omega) (by rw [swp_sz]; omega) (by decide) ?_
      rw [intW_sub, wrap_i64_id (by omega) (by omega)]
      exact hnext2 _ _ _ (by omega) ⟨k', _, rfl, rfl, by omega, rfl, by rw [sift_sz _ _ k' _ _ (by omega), swp_sz]; exact hs4, hm4⟩
    · have hk0 : k = 0 := by
        have : ¬ (k : Int) - 1 ≥ 0 := of_decide_eq_false hg
        omega
      subst hk0
      rw [Sort.heapPop] at hm4
      rw [hm4] at hQ
      exact hQ
end Go.Ab.Dot
/- Sorting numbers: the partitions: the walks. By an AI agent. -/
set_option maxRecDepth 10000
set_option linter.unusedVariables false
set_option linter.unusedSimpArgs false
namespace Go.Ab.Dot
open Go Go.Ab

section
variable {body : (List AV → RM → Prop) → List AV → RM → Prop} {p : Nat → Bool} {d : Array Nat} {M : RM}
theorem scanUpW {J i0 : Nat} (h : ∀ (next : List AV → RM → Prop) (i : Nat), i0 ≤ i → i ≤ max (J + 1) i0 → ((decide (i ≤ J) && p d[i]!) = true → next [N .i64 ((i + 1 : Nat) : Int)] M) → ((decide (i ≤ J) && p d[i]!) = false → i = Sort.scanUp p d J i0) → body next [N .i64 (i : Int)] M) :
    loopW body [N .i64 (i0 : Int)] M := by
  obtain ⟨R, hR⟩ : ∃ R, R = Sort.scanUp p d J i0 := ⟨_, rfl⟩
  refine loopW_ind (fun m ys M3 => ∃ (i : Nat), m = J + 1 - i ∧ ys = [N .i64 (i : Int)] ∧ i0 ≤ i ∧ i ≤ max (J + 1) i0 ∧ M3 = M ∧ R = Sort.scanUp p d J i) _ ⟨i0, rfl, rfl, Nat.le_refl _, by omega, rfl, hR⟩ ?_
  rintro next m ys M3 hnext ⟨i, rfl, rfl, h0, hi, rfl, hm⟩
  rw [Sort.scanUp] at hm
  refine h next i h0 hi (fun hc => ?_) (fun hc => ?_)
  · rw [if_pos hc] at hm
    have hij : i ≤ J := by
      rw [Bool.and_eq_true] at hc
      exact of_decide_eq_true hc.1
    exact hnext _ _ _ (by omega) ⟨i + 1, rfl, rfl, by omega, by omega, rfl, hm⟩
  · rw [if_neg (by rw [hc]; decide)] at hm
    rw [← hR]; exact hm.symm
theorem scanDownW {i j0 : Nat} (h1 : 1 ≤ i) (h : ∀ (next : List AV → RM → Prop) (j : Nat), j ≤ j0 → (j = j0 ∨ i ≤ j + 1) → ((decide (i ≤ j) && p d[j]!) = true → next [N .i64 ((j - 1 : Nat) : Int)] M) → ((decide (i ≤ j) && p d[j]!) = false → j = Sort.scanDown p d i j0) → body next [N .i64 (j : Int)] M) :
    loopW body [N .i64 (j0 : Int)] M := by
  obtain ⟨R, hR⟩ : ∃ R, R = Sort.scanDown p d i j0 := ⟨_, rfl⟩
  refine loopW_ind (fun m ys M3 => ∃ (j : Nat), m = j + 1 ∧ ys = [N .i64 (j : Int)] ∧ j ≤ j0 ∧ (j = j0 ∨ i ≤ j + 1) ∧ M3 = M ∧ R = Sort.scanDown p d i j) _ ⟨j0, rfl, rfl, Nat.le_refl _, .inl rfl, rfl, hR⟩ ?_
  rintro next m ys M3 hnext ⟨j, rfl, rfl, h0, hi, rfl, hm⟩
  refine h next j h0 hi (fun hc => ?_) (fun hc => ?_)
  · have hij : i ≤ j := by
      rw [Bool.and_eq_true] at hc
      exact of_decide_eq_true hc.1
    obtain ⟨k, rfl⟩ : ∃ k, j = k + 1 := ⟨j - 1, by omega⟩
    rw [Sort.scanDown, if_pos hc] at hm
    exact hnext _ _ _ (by omega) ⟨k, rfl, rfl, by omega, by omega, rfl, hm⟩
  · rw [← hR]
    cases j with
    | zero => exact hm.symm
    | succ k => rw [Sort.scanDown, if_neg (by rw [hc]; decide)] at hm; exact hm.symm
end
theorem swp_szE {d d' : Array Nat} {i j : Nat} (h : d'.size = d.size) : (Sort.swp d' i j).size = d.size := by rw [swp_sz, h]

def PartEqC (T : Nat) (c : CallT) : Prop := ∀ {M : RM} {b a e pv : Nat} {d : Array Nat} {Q : PostV}, b < M.next → d.size ≤ 1000000 → a ≤ pv → pv < e → e ≤ d.size → Q (N .i64 (((Sort.partitionEqual lN d a e pv).1 : Nat) : Int)) (PM M b T (Sort.partitionEqual lN d a e pv).2) →
  c [vv b d.size, N .i64 (a : Int), N .i64 (e : Int), N .i64 (pv : Int)] (PM M b T d) Q
theorem andM {c p : Bool} {f : PostV → Prop} {M : RM} {G : AV → RM → Prop} (hf : c = true → ∀ k : PostV, k (Bo p) M → f k) (hG : G (Bo (c && p)) M) :
    guardM (Bo c) true f (fun k => k .undef M) (fun t M' => pickW (Bo c) t (Bo false) fun u => G u M') := by
  cases c with
  | false => rw [guardM_FT]; dsimp only; rw [pickF]; exact hG
  | true => rw [guardM_TT]; exact hf rfl _ (by rw [pickT]; exact hG)
theorem andK {c p : Bool} {f : KR → Prop} {M : RM} {G : AV → RM → Prop} (hf : c = true → ∀ k : KR, k (Bo p) M none → f k) (hG : G (Bo (c && p)) M) :
    guardK (Bo c) true f (fun k => k .undef M none) (fun t M' b => pickW (Bo c) t (Bo false) fun u => G u M') := by
  cases c with
  | false => rw [guardK_FT]; dsimp only; rw [pickF]; exact hG
  | true => rw [guardK_TT]; exact hf rfl _ (by rw [pickT]; exact hG)
theorem partEq_spec {T : Nat} {cl : CallT} (hl : LessC cl) : PartEqC T fun args M Q => ∃ a0 a1 a2 a3, args = [a0, a1, a2, a3] ∧ W_slices_partitionEqualOrdered_uint64 cl a0 a1 a2 a3 M Q := by
  intro M b a e pv d Q hb hsz hap hpe he hQ
  refine ⟨_, _, _, _, rfl, ?_⟩
  unfold W_slices_partitionEqualOrdered_uint64
  simp only [fuseK, fuseKM, fuseMK]
  rw [Sort.partitionEqual] at hQ
  rw [PM.rd rfl (by omega), PM.rd rfl (by omega), PM.swap rfl (by omega) (by omega), add1 (by omega), sub1 (by omega) (by omega)]
  obtain ⟨R, hR⟩ : ∃ R, R = Sort.partEqLoop lN a (a + 1) (e - 1) (Sort.swp d a pv) := ⟨_, rfl⟩
  rw [← hR] at hQ
  refine loopW_ind (fun m ys M3 => ∃ (i j : Nat) (d3 : Array Nat), m = j + 1 - i ∧ ys = [N .i64 (i : Int), N .i64 (j : Int)] ∧ a + 1 ≤ i ∧ i ≤ e + 1 ∧ j < e ∧ M3 = PM M b T d3 ∧ d3.size = d.size ∧ R = Sort.partEqLoop lN a i j d3) _ ⟨a + 1, e - 1, _, rfl, rfl, Nat.le_refl _, by omega, by omega, rfl, swp_sz _ _ _, hR⟩ ?_
  rintro next m ys M3 hnext ⟨i, j, d3, rfl, rfl, hai, hie, hje, rfl, hs3, hm⟩
  dsimp only [nthD]
  rw [Sort.partEqLoop] at hm
  refine scanUpW (p := fun x => !lN d3[a]! x) (d := d3) (J := j) fun next2 i2 h0 h1 hgo hstop => ?_
  dsimp only [nthD]
  rw [leqN]
  refine andK (p := !lN d3[a]! d3[i2]!) (fun hc k hk => ?_) ?_
  · have hc : i2 ≤ j := of_decide_eq_true hc
    rw [PM.rd hs3.symm (by omega), PM.rd hs3.symm (by omega)]
    refine hl ?_
    rw [notW_Bo]
    exact hk
  refine condB (fun h => ?_) (fun h => ?_)
  · rw [add1 (by omega)]
    exact hgo h
  have hi2 := hstop h
  rw [← hi2] at hm
  refine scanDownW (p := fun x => lN d3[a]! x) (d := d3) (i := i2) (by omega) fun next3 j2 q0 q1 hgo3 hstop3 => ?_
  dsimp only [nthD]
  rw [leqN]
  refine andM (p := lN d3[a]! d3[j2]!) (fun hc k hk => ?_) ?_
  · have hc : i2 ≤ j2 := of_decide_eq_true hc
    rw [PM.rd hs3.symm (by omega), PM.rd hs3.symm (by omega)]
    exact hl hk
  refine condB (fun h => ?_) (fun h => ?_)
  · have hc : i2 ≤ j2 := by
      rw [Bool.and_eq_true] at h
      exact of_decide_eq_true h.1
    rw [sub1 (by omega) (by omega)]
    exact hgo3 h
  have hj2 := hstop3 h
  simp only [← hj2] at hm
  rw [gtrN]
  refine condB (fun hg => ?_) (fun hg => ?_)
  · rw [if_pos (of_decide_eq_true hg)] at hm
    rw [hm] at hQ
    exact hQ
  · have hg : ¬ i2 > j2 := of_decide_eq_false hg
    rw [if_neg hg, dif_pos (by omega)] at hm
    rw [PM.rd hs3.symm (by omega), PM.rd hs3.symm (by omega), PM.swap hs3.symm (by omega) (by omega), add1 (by omega), sub1 (by omega) (by omega)]
    exact hnext _ _ _ (by omega) ⟨i2 + 1, j2 - 1, _, rfl, rfl, by omega, by omega, by omega, rfl, swp_szE hs3, hm⟩

def PartC (T : Nat) (c : CallT) : Prop := ∀ {M : RM} {b a e pv : Nat} {d : Array Nat} {Q : PostV}, b < M.next → d.size ≤ 1000000 → a ≤ pv → pv < e → e ≤ d.size → Q (.tup [N .i64 (((Sort.partition lN d a e pv).1 : Nat) : Int), Bo (Sort.partition lN d a e pv).2.1]) (PM M b T (Sort.partition lN d a e pv).2.2) →
  c [vv b d.size, N .i64 (a : Int), N .i64 (e : Int), N .i64 (pv : Int)] (PM M b T d) Q
theorem partition_eq (d : Array Nat) (a e pv : Nat) : Sort.partition lN d a e pv =
    if Sort.scanUp (fun x => lN x (Sort.swp d a pv)[a]!) (Sort.swp d a pv) (e - 1) (a + 1) > Sort.scanDown (fun x => !lN x (Sort.swp d a pv)[a]!) (Sort.swp d a pv) (Sort.scanUp (fun x => lN x (Sort.swp d a pv)[a]!) (Sort.swp d a pv) (e - 1) (a + 1)) (e - 1) then
      (Sort.scanDown (fun x => !lN x (Sort.swp d a pv)[a]!) (Sort.swp d a pv) (Sort.scanUp (fun x => lN x (Sort.swp d a pv)[a]!) (Sort.swp d a pv) (e - 1) (a + 1)) (e - 1), true, Sort.swp (Sort.swp d a pv) (Sort.scanDown (fun x => !lN x (Sort.swp d a pv)[a]!) (Sort.swp d a pv) (Sort.scanUp (fun x => lN x (Sort.swp d a pv)[a]!) (Sort.swp d a pv) (e - 1) (a + 1)) (e - 1)) a)
    else ((Sort.partLoop lN a (Sort.scanUp (fun x => lN x (Sort.swp d a pv)[a]!) (Sort.swp d a pv) (e - 1) (a + 1) + 1) (Sort.scanDown (fun x => !lN x (Sort.swp d a pv)[a]!) (Sort.swp d a pv) (Sort.scanUp (fun x => lN x (Sort.swp d a pv)[a]!) (Sort.swp d a pv) (e - 1) (a + 1)) (e - 1) - 1) (Sort.swp (Sort.swp d a pv) (Sort.scanUp (fun x => lN x (Sort.swp d a pv)[a]!) (Sort.swp d a pv) (e - 1) (a + 1)) (Sort.scanDown (fun x => !lN x (Sort.swp d a pv)[a]!) (Sort.swp d a pv) (Sort.scanUp (fun x => lN x (Sort.swp d a pv)[a]!) (Sort.swp d a pv) (e - 1) (a + 1)) (e - 1)))).1, false,
      Sort.swp (Sort.partLoop lN a (Sort.scanUp (fun x => lN x (Sort.swp d a pv)[a]!) (Sort.swp d a pv) (e - 1) (a + 1) + 1) (Sort.scanDown (fun x => !lN x (Sort.swp d a pv)[a]!) (Sort.swp d a pv) (Sort.scanUp (fun x => lN x (Sort.swp d a pv)[a]!) (Sort.swp d a pv) (e - 1) (a + 1)) (e - 1) - 1) (Sort.swp (Sort.swp d a pv) (Sort.scanUp (fun x => lN x (Sort.swp d a pv)[a]!) (Sort.swp d a pv) (e - 1) (a + 1)) (Sort.scanDown (fun x => !lN x (Sort.swp d a pv)[a]!) (Sort.swp d a pv) (Sort.scanUp (fun x => lN x (Sort.swp d a pv)[a]!) (Sort.swp d a pv) (e - 1) (a + 1)) (e - 1)))).2
        (Sort.partLoop lN a (Sort.scanUp (fun x => lN x (Sort.swp d a pv)[a]!) (Sort.swp d a pv) (e - 1) (a + 1) + 1) (Sort.scanDown (fun x => !lN x (Sort.swp d a pv)[a]!) (Sort.swp d a pv) (Sort.scanUp (fun x => lN x (Sort.swp d a pv)[a]!) (Sort.swp d a pv) (e - 1) (a + 1)) (e - 1) - 1) (Sort.swp (Sort.swp d a pv) (Sort.scanUp (fun x => lN x (Sort.swp d a pv)[a]!) (Sort.swp d a pv) (e - 1) (a + 1)) (Sort.scanDown (fun x => !lN x (Sort.swp d a pv)[a]!) (Sort.swp d a pv) (Sort.scanUp (fun x => lN x (Sort.swp d a pv)[a]!) (Sort.swp d a pv) (e - 1) (a + 1)) (e - 1)))).1 a) := rfl
theorem part_spec {T : Nat} {cl : CallT} (hl : LessC cl) : PartC T fun args M Q => ∃ a0 a1 a2 a3, args = [a0, a1, a2, a3] ∧ W_slices_partitionOrdered_uint64 cl a0 a1 a2 a3 M Q := by
  intro M b a e pv d Q hb hsz hap hpe he hQ
  refine ⟨_, _, _, _, rfl, ?_⟩
  unfold W_slices_partitionOrdered_uint64
  simp only [fuseK, fuseKM, fuseMK]
  have hs2 := swp_sz d a pv
  rw [partition_eq] at hQ
  rw [PM.rd rfl (by omega), PM.rd rfl (by omega), PM.swap rfl (by omega) (by omega), add1 (by omega), sub1 (by omega) (by omega)]
  generalize Sort.swp d a pv = d2 at *
  refine scanUpW (p := fun x => lN x d2[a]!) (d := d2) (J := e - 1) fun next2 i h0 h1 hgo hstop => ?_
  dsimp only [nthD]
  rw [leqN]
  refine andM (p := lN d2[i]! d2[a]!) (fun hc k hk => ?_) ?_
  · have hc : i ≤ e - 1 := of_decide_eq_true hc
    rw [PM.rd hs2.symm (by omega), PM.rd hs2.symm (by omega)]
    exact hl hk
  refine condB (fun h => ?_) (fun h => ?_)
  · rw [add1 (by omega)]
    exact hgo h
  have hi2 := hstop h
  simp only [← hi2] at hQ
  refine scanDownW (p := fun x => !lN x d2[a]!) (d := d2) (i := i) (by omega) fun next3 j q0 q1 hgo3 hstop3 => ?_
  dsimp only [nthD]
  rw [leqN]
  refine andK (p := !lN d2[j]! d2[a]!) (fun hc k hk => ?_) ?_
  · have hc : i ≤ j := of_decide_eq_true hc
    rw [PM.rd hs2.symm (by omega), PM.rd hs2.symm (by omega)]
    refine hl ?_
    rw [notW_Bo]
    exact hk
  refine condB (fun h => ?_) (fun h => ?_)
  · have hc : i ≤ j := by
      rw [Bool.and_eq_true] at h
      exact of_decide_eq_true h.1
    rw [sub1 (by omega) (by omega)]
    exact hgo3 h
  have hj2 := hstop3 h
  simp only [← hj2] at hQ
  rw [gtrN]
  refine condB (fun hg => ?_) (fun hg => ?_)
  · rw [if_pos (of_decide_eq_true hg)] at hQ
    rw [PM.rd hs2.symm (by omega), PM.rd hs2.symm (by omega), PM.swap hs2.symm (by omega) (by omega)]
    exact hQ
  have hg : ¬ i > j := of_decide_eq_false hg
  rw [if_neg hg] at hQ
  rw [PM.rd hs2.symm (by omega), PM.rd hs2.symm (by omega), PM.swap hs2.symm (by omega) (by omega), add1 (by omega), sub1 (by omega) (by omega)]
  obtain ⟨R, hR⟩ : ∃ R, R = Sort.partLoop lN a (i + 1) (j - 1) (Sort.swp d2 i j) := ⟨_, rfl⟩
  simp only [← hR] at hQ
  refine loopW_ind (fun m ys M3 => ∃ (i j : Nat) (d3 : Array Nat), m = j + 1 - i ∧ ys = [N .i64 (i : Int), N .i64 (j : Int)] ∧ a + 1 ≤ i ∧ i ≤ e + 1 ∧ j < e ∧ M3 = PM M b T d3 ∧ d3.size = d.size ∧ R = Sort.partLoop lN a i j d3) _ ⟨i + 1, j - 1, _, rfl, rfl, by omega, by omega, by omega, rfl, swp_szE hs2, hR⟩ ?_
  rintro next m ys M3 hnext ⟨i, j, d3, rfl, rfl, hai, hie, hje, rfl, hs3, hm⟩
  dsimp only [nthD]
  rw [Sort.partLoop] at hm
  refine scanUpW (p := fun x => lN x d3[a]!) (d := d3) (J := j) fun next2 i2 h0 h1 hgo hstop => ?_
  dsimp only [nthD]
  rw [leqN]
  refine andM (p := lN d3[i2]! d3[a]!) (fun hc k hk => ?_) ?_
  · have hc : i2 ≤ j := of_decide_eq_true hc
    rw [PM.rd hs3.symm (by omega), PM.rd hs3.symm (by omega)]
    exact hl hk
  refine condB (fun h => ?_) (fun h => ?_)
  · rw [add1 (by omega)]
    exact hgo h
  have hi2 := hstop h
  rw [← hi2] at hm
  refine scanDownW (p := fun x => !lN x d3[a]!) (d := d3) (i := i2) (by omega) fun next3 j2 q0 q1 hgo3 hstop3 => ?_
  dsimp only [nthD]
  rw [leqN]
  refine andK (p := !lN d3[j2]! d3[a]!) (fun hc k hk => ?_) ?_
  · have hc : i2 ≤ j2 := of_decide_eq_true hc
    rw [PM.rd hs3.symm (by omega), PM.rd hs3.symm (by omega)]
    refine hl ?_
    rw [notW_Bo]
    exact hk
  refine condB (fun h => ?_) (fun h => ?_)
  · have hc : i2 ≤ j2 := by
      rw [Bool.and_eq_true] at h
      exact of_decide_eq_true h.1
    rw [sub1 (by omega) (by omega)]
    exact hgo3 h
  have hj2 := hstop3 h
  simp only [← hj2] at hm
  rw [gtrN]
  refine condB (fun hg => ?_) (fun hg => ?_)
  · rw [if_pos (of_decide_eq_true hg)] at hm
    rw [hm] at hQ
    rw [PM.rd hs3.symm (by omega), PM.rd hs3.symm (by omega), PM.swap hs3.symm (by omega) (by omega)]
    exact hQ
  · have hg : ¬ i2 > j2 := of_decide_eq_false hg
    rw [if_neg hg, dif_pos (by omega)] at hm
    rw [PM.rd hs3.symm (by omega), PM.rd hs3.symm (by omega), PM.swap hs3.symm (by omega) (by omega), add1 (by omega), sub1 (by omega) (by omega)]
    exact hnext _ _ _ (by omega) ⟨i2 + 1, j2 - 1, _, rfl, rfl, by omega, by omega, by omega, rfl, swp_szE hs3, hm⟩
end Go.Ab.Dot
