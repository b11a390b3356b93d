/- Part 6 of the ground of the proofs of this seat (texts D10 to D12). By an AI agent. -/
import Derived.Test.YtkmkfgepdlkdkaaB5
/- The document's list of dots; a set of a list: the walks. By an AI agent. -/
set_option maxRecDepth 10000
set_option linter.unusedVariables false
set_option linter.unusedSimpArgs false
namespace Go.Ab.Dot
open Go Go.Ab

def aheadB (a b : Dot) : Bool := decide (a.1 < b.1) || (decide (a.1 = b.1) && decide (a.2 < b.2))
def AheadC (c : CallT) : Prop := ∀ {M : RM} {a b : Dot} {Q : PostV}, (∀ M', Keep [] M M' → Q (Bo (aheadB a b)) M') → c [.agg (dcells a), .agg (dcells b)] M Q
theorem ahead_spec {T : Nat} : AheadC fun args M Q => ∃ a0 a1, args = [a0, a1] ∧ W_rolodex_rolodexref13_ahead T a0 a1 M Q := by
  intro M a b Q hQ
  refine ⟨_, _, rfl, ?_⟩
  unfold W_rolodex_rolodexref13_ahead
  simp only [fuseM]
  rw [boxW_agg rfl (by simp), newW_eq, boxW_agg rfl (by simp), newW_eq]
  have h1 : ((M.push (.row (dcells a) false T 0)).push (.row (dcells b) false T 0)).heap M.next = some (.row (dcells a) false T 0) := heap_push_lt (RM.push_new _) (by simp [RM.push])
  have h2 : ((M.push (.row (dcells a) false T 0)).push (.row (dcells b) false T 0)).heap (M.push (.row (dcells a) false T 0)).next = some (.row (dcells b) false T 0) := RM.push_new _
  have kk : Keep [] M ((M.push (.row (dcells a) false T 0)).push (.row (dcells b) false T 0)) := ((Keep.refl _ _).push _).push _
  generalize (M.push (.row (dcells a) false T 0)).next = m at *
  generalize (M.push (.row (dcells a) false T 0)).push (.row (dcells b) false T 0) = M1 at *
  have hQ := hQ M1 kk
  unfold aheadB at hQ
  obtain ⟨d, n⟩ := a
  obtain ⟨e, k⟩ := b
  simp only at hQ
  rw [fld0, load1_at h1 rfl, fld0, load1_at h2 rfl, intW_lss]
  by_cases hlt : d < e
  · rw [show decide (d < e) = true by simpa using hlt, guardM_TF]
    dsimp only
    rw [guardM_U]
    dsimp only
    rw [guardM_TF]
    dsimp only
    rw [pickT]
    simpa [hlt] using hQ
  · rw [show decide (d < e) = false by simpa using hlt, guardM_FF]
    dsimp only
    rw [fld0, load1_at h1 rfl, fld0, load1_at h2 rfl, intW_eql]
    by_cases he : d = e
    · rw [show (d == e) = true by simpa using he, guardM_TT]
      dsimp only
      rw [fld0, load1_at h1 rfl, fld0, load1_at h2 rfl, intW_lss, guardM_FF]
      dsimp only
      rw [pickT, pickF]
      rw [show decide ((n : Int) < (k : Int)) = decide (n < k) by simp]
      simpa [hlt, he] using hQ
    · rw [show (d == e) = false by simpa using he, guardM_FT]
      dsimp only
      rw [guardM_FF]
      dsimp only
      rw [pickF, pickF]
      simpa [hlt, he] using hQ

def RefHasC (c : CallT) : Prop := ∀ {M : RM} {v : AV} {l : List Dot} {d : Dot} {Q : PostV}, Sl DotE M v l → l.length ≤ 1000000 → (∀ M', Keep [] M M' → Q (Bo (decide (d ∈ l))) M') → c [v, .agg (dcells d)] M Q
theorem dot_eq (a b : Dot) : flatEq [1, 1] (dcells a) (dcells b) = some (decide (a = b)) := by
  obtain ⟨d, n⟩ := a
  obtain ⟨e, k⟩ := b
  simp only [flatEq_int, flatEq_nil]
  by_cases h1 : d = e
  · by_cases h2 : n = k
    · simp [h1, h2]
    · have : ¬ (n : Int) = (k : Int) := by omega
      simp [h1, h2, this]
  · simp [h1]
theorem refHas_spec {T : Nat} : RefHasC fun args M Q => ∃ a0 a1, args = [a0, a1] ∧ W_rolodex_rolodexref13_Has T a0 a1 M Q := by
  intro M v l d Q hs hl hQ
  refine ⟨_, _, rfl, ?_⟩
  unfold W_rolodex_rolodexref13_Has
  rw [boxW_agg rfl (by simp), newW_eq]
  have hh : (M.push (.row (dcells d) false T 0)).heap M.next = some (.row (dcells d) false T 0) := RM.push_new _
  have kk : Keep [] M (M.push (.row (dcells d) false T 0)) := (Keep.refl _ _).push _
  generalize M.push (.row (dcells d) false T 0) = M1 at *
  have s1 : Sl DotE M1 v l := SlR.keep hs kk (by simp)
  have hQ := hQ M1 kk
  refine loopW_ind (fun m ys M3 => ∃ (i : Nat), m = l.length - i ∧ ys = [N .i64 (i : Int)] ∧ i ≤ l.length ∧ M3 = M1 ∧ decide (d ∈ l) = decide (d ∈ l.drop i)) _
    ⟨0, rfl, rfl, Nat.zero_le _, rfl, rfl⟩ ?_
  rintro next m ys M3 hnext ⟨i, rfl, rfl, hi, rfl, hset⟩
  dsimp only [nthD]
  rw [SlR.len s1, intW_lss]
  refine condB (fun hlt => ?_) (fun hge => ?_)
  · have hlt : i < l.length := by simpa using hlt
    obtain ⟨b1, o1, _, _, hidx, hld⟩ := Sl.at (E := DotE) (i := i) s1 2 (i : Int) hlt rfl rfl
    rw [hidx, loadN_ptr]
    refine ⟨_, hld, ?_⟩
    rw [loadN_at (n := 2) hh rfl]
    change aggEqW false [1, 1] (.agg (dcells l[i])) (.agg (dcells d)) _
    rw [aggEqW_of rfl rfl (dot_eq l[i] d)]
    rw [List.drop_eq_getElem_cons hlt] at hset
    by_cases he : l[i] = d
    · rw [show (decide (l[i] = d) != false) = true by simp [he], condT]
      rw [hset, show decide (d ∈ l[i] :: l.drop (i + 1)) = true by simp [he]] at hQ
      exact hQ
    · rw [show (decide (l[i] = d) != false) = false by simp [he], condF, intW_add, i64_succ (by omega)]
      refine hnext _ _ _ (by omega) ⟨i + 1, rfl, rfl, by omega, rfl, ?_⟩
      rw [hset]
      have : d ≠ l[i] := fun h => he h.symm
      exact decide_eq_decide.2 ⟨fun h => (List.mem_cons.1 h).resolve_left this, fun h => List.mem_cons_of_mem _ h⟩
  · have he : i = l.length := by simp at hge; omega
    subst he
    rw [List.drop_length] at hset
    rw [hset] at hQ
    exact hQ

section
variable {α : Type} {E : Enc α}
/-- One's own slice, cut in two. -/
theorem own_cut {M : RM} {base T k : Nat} {v : AV} {xs : List α} (hE : 1 ≤ E.size) (ho : Ow E M base T v xs) (hk : k ≤ xs.length) :
    ∃ v1 v2, subS E.size v none (some (N .i64 (k : Int))) none = some v1 ∧ Sl E M v1 (xs.take k) ∧ subS E.size v (some (N .i64 (k : Int))) none none = some v2 ∧ Sl E M v2 (xs.drop k) ∧ (∀ d ∈ blkOf v1, d ∈ blkOf v) ∧ ∀ d ∈ blkOf v2, d ∈ blkOf v := by
  have hs := ho.slR
  generalize hcs : E.row xs = cs at *
  have ho' : Own M base T E.size v cs xs.length := by rw [← hcs]; exact ho
  have hl : cs.length = xs.length * E.size := by rw [← hcs, Enc.row_len]
  have hd : E.row (xs.drop k) = cs.drop (k * E.size) := by rw [← hcs, ← E.row_drop]
  have ht : E.row (xs.take k) = cs.take (k * E.size) := by rw [← hcs, ← E.row_take]
  have g1 : ∀ v', Sl E M v' (xs.take k) ↔ SlR M E.size v' (cs.take (k * E.size)) k := fun v' => by simp only [Sl]; rw [ht, List.length_take, Nat.min_eq_left hk]
  have g2 : ∀ v', Sl E M v' (xs.drop k) ↔ SlR M E.size v' (cs.drop (k * E.size)) (xs.length - k) := fun v' => by simp only [Sl]; rw [hd, List.length_drop]
  generalize hn : xs.length = n at *
  cases ho' with
  | nil =>
    have : k = 0 := by omega
    subst this
    exact ⟨nilS, nilS, by simp [subS, bnd], (g1 _).2 (by simp; exact .nil), by simp [subS, bnd], (g2 _).2 (by simp; exact .nil), by simp, by simp⟩
  | ex0 b o h1 h2 h3 =>
    have : k = 0 := by omega
    subst this
    have e0 : SlR M E.size (.slc b o 0 (.ex 0)) [] 0 := hs
    exact ⟨.slc b o 0 (.ex 0), .slc b o 0 (.ex 0), by simp [subS, bnd], (g1 _).2 (by simpa using e0), by simp [subS, bnd], (g2 _).2 (by simpa using e0), by simp [blkOf], by simp [blkOf]⟩
  | op b n cs h1 h2 h3 h4 =>
    have hload : ∀ o m, o + m ≤ cs.length → M.loads b o m = some ((cs.drop o).take m) := fun o m h => RM.loads_row h3 h
    have hmul : k * E.size ≤ n * E.size := Nat.mul_le_mul_right _ hk
    by_cases hn0 : n = 0
    · have hk0 : k = 0 := by omega
      subst hk0 hn0
      have hc0 : cs = [] := List.length_eq_zero_iff.1 (by simpa using h4)
      subst hc0
      exact ⟨.emp b, .emp b, by simp [subS, bnd], (g1 _).2 (by simp; exact .emp b), by simp [subS, bnd], (g2 _).2 (by simp; exact .emp b), by simp [blkOf], by simp [blkOf]⟩
    · have p1 : SlR M E.size (.slc b (0 + 0 * E.size) (k - 0) (.op E.size)) (cs.take (k * E.size)) k := by
        rw [Nat.sub_zero, Nat.zero_mul]
        refine .slc _ _ _ _ _ h2 ?_
        have := hload 0 (k * E.size) (by omega)
        simpa using this
      by_cases hkn : n ≤ k
      · refine ⟨.slc b (0 + 0 * E.size) (k - 0) (.op E.size), .emp b, by simp only [subS, bnd]; simp [hk, hn0], (g1 _).2 p1, by simp only [subS, bnd]; simp [hk, hkn], (g2 _).2 ?_, by simp [blkOf], by simp [blkOf]⟩
        have : k = n := by omega
        subst this
        rw [Nat.sub_self, List.drop_of_length_le (by omega)]
        exact .emp b
      · refine ⟨.slc b (0 + 0 * E.size) (k - 0) (.op E.size), .slc b (0 + k * E.size) (n - k) (.op E.size), by simp only [subS, bnd]; simp [hk, hn0], (g1 _).2 p1, by simp only [subS, bnd]; simp [hk, hkn], (g2 _).2 ?_, by simp [blkOf], by simp [blkOf]⟩
        refine .slc _ _ _ _ _ h2 ?_
        have hs2 : k * E.size + (n - k) * E.size = n * E.size := by rw [← Nat.add_mul]; congr 1; omega
        rw [Nat.zero_add, hload (k * E.size) ((n - k) * E.size) (by omega), List.take_of_length_le (by simp; omega)]
end

def atL (d : Dot) (l : List Dot) : Nat := (l.takeWhile (fun x => aheadB x d)).length
def addL (l : List Dot) (d : Dot) : List Dot := if d ∈ l then l else l.take (atL d l) ++ d :: l.drop (atL d l)
theorem addL_len (l : List Dot) (d : Dot) : (addL l d).length ≤ l.length + 1 := by
  unfold addL
  split
  · omega
  · simp; omega
theorem atL_char {d : Dot} : ∀ {l : List Dot} {i : Nat}, i ≤ l.length → (∀ k (hk : k < l.length), k < i → aheadB l[k] d = true) → (∀ (hi : i < l.length), aheadB l[i] d = false) → atL d l = i
  | [], i, h, _, _ => by simp at h; subst h; rfl
  | x :: l, 0, _, _, h2 => by
    have := h2 (by simp)
    simp only [List.getElem_cons_zero] at this
    simp [atL, this]
  | x :: l, i + 1, h, h1, h2 => by
    have hx := h1 0 (by simp) (by omega)
    simp only [List.getElem_cons_zero] at hx
    have := atL_char (d := d) (l := l) (i := i) (by simpa using h) (fun k hk hki => by have := h1 (k + 1) (by simp; omega) (by omega); simpa using this) (fun hi => by have := h2 (by simp; omega); simpa using this)
    unfold atL at this ⊢
    rw [List.takeWhile_cons_of_pos (p := fun x => aheadB x d) hx, List.length_cons, this]
def RefAddC (T : Nat) (c : CallT) : Prop := ∀ {M : RM} {base : Nat} {v : AV} {l : List Dot} {d : Dot} {Q : PostV}, Ow DotE M base T v l → base ≤ M.next → l.length ≤ 100000 → (∀ v' M', Ow DotE M' base T v' (addL l d) → Keep [] M M' → Q v' M') → c [v, .agg (dcells d)] M Q
theorem refAdd_spec {T : Nat} {ch ca : CallT} (hh : RefHasC ch) (ha : AheadC ca) : RefAddC T fun args M Q => ∃ a0 a1, args = [a0, a1] ∧ W_rolodex_rolodexref13_Add T ch ca a0 a1 M Q := by
  intro M base v l d Q ho hb hl hQ
  refine ⟨_, _, rfl, ?_⟩
  unfold W_rolodex_rolodexref13_Add
  simp only [fuseK, fuseKM]
  rw [boxW_agg rfl (by simp), newW_eq, loadN_at (n := 2) (RM.push_new _) rfl]
  have h3 : (M.push (.row (dcells d) false T 0)).heap M.next = some (.row (dcells d) false T 0) := RM.push_new _
  have k1 : Keep [] M (M.push (.row (dcells d) false T 0)) := (Keep.refl _ _).push _
  have n1 : (M.push (.row (dcells d) false T 0)).next = M.next + 1 := rfl
  generalize M.push (.row (dcells d) false T 0) = M1 at *
  have ho1 := ho.keep k1 (by simp)
  refine hh ho1.slR (by omega) fun M2 k2 => ?_
  have k12 := k1.trans k2
  have n2 := k2.next
  have ho2 := ho1.keep k2 (by simp)
  have h3 := k2.heap_of h3 (by omega) (by simp)
  unfold addL at hQ
  refine condB (fun hm => ?_) (fun hm => ?_)
  · have hm : d ∈ l := of_decide_eq_true hm
    rw [if_pos hm] at hQ
    exact hQ v M2 ho2 k12
  · have hm : ¬ d ∈ l := of_decide_eq_false hm
    rw [if_neg hm] at hQ
    refine loopW_ind (fun m ys M3 => ∃ (i : Nat), m = l.length - i ∧ ys = [N .i64 (i : Int)] ∧ i ≤ l.length ∧ Keep [] M2 M3 ∧ ∀ k (hk : k < l.length), k < i → aheadB l[k] d = true) _
      ⟨0, rfl, rfl, Nat.zero_le _, Keep.refl _ _, fun k hk h => by omega⟩ ?_
    rintro next m ys M3 hnext ⟨i, rfl, rfl, hi, k3, hah⟩
    dsimp only [nthD]
    have k13 := k12.trans k3
    have ho3 := ho2.keep k3 (by simp)
    have s3 : Sl DotE M3 v l := ho3.slR
    have n3 := k3.next
    have h33 := k3.heap_of h3 (by omega) (by simp)
    -- the end: the list anew
    have fin : ∀ M3, Keep [] M2 M3 → atL d l = i → (rowsW T 0 [(N .i64 0), (N .u64 0)] [] fun r_22 f_23 => newR r_22 f_23 M3 fun t24 M_24 b_25 => getW (subS 2 v none (some (N .i64 (i : Int))) none) fun t27 => loadN M_24 (.ptr M.next 0) 2 fun t29 =>
        rowsW T 1 [(N .i64 0), (N .u64 0)] [(0, 2, t29)] fun r_26 f_27 => newR r_26 f_27 M_24 fun t30 M_28 b_29 => getW (subS 2 v (some (N .i64 (i : Int))) none none) fun t34 => appW T 2 16 [(N .i64 0), (N .u64 0)] false t24 t27 M_28 fun t28 M_30 =>
        loadN M_30 (.ptr M.next 0) 2 fun t29_37 => (t29_37 = t29 ∧ rowsW T 1 [(N .i64 0), (N .u64 0)] [(0, 2, t29)] fun r_35 f_36 => (sameB b_29 M_30 r_35 f_36 t30 ∧ getW (subS 2 v (some (N .i64 (i : Int))) none none) fun t34_34 => (t34_34 = t34 ∧ appW T 2 16 [(N .i64 0), (N .u64 0)] false t28 t30 M_30 fun t31 M_31 =>
        getW (subS 2 v (some (N .i64 (i : Int))) none none) fun t34_33 => (t34_33 = t34 ∧ appW T 2 16 [(N .i64 0), (N .u64 0)] false t31 t34 M_31 fun t35 M_32 => Q t35 M_32))))) := fun M3 k3 hat => by
      have k13 := k12.trans k3
      have ho3 := ho2.keep k3 (by simp)
      have n3 := k3.next
      have h33 := k3.heap_of h3 (by omega) (by simp)
      obtain ⟨v1, v2, e1, s1, e2, s2, hb1, hb2⟩ := own_cut (E := DotE) (k := i) (by decide) ho3 hi
      have e1 : subS 2 v none (some (N .i64 (i : Int))) none = some v1 := e1
      have e2 : subS 2 v (some (N .i64 (i : Int))) none none = some v2 := e2
      have hvb := ho3.blk
      rw [rows0, newR_eq, e1, getW_some]
      have o4 : Ow DotE (M3.push (.row [] false T 0)) M3.next T (.slc M3.next 0 0 (.ex 0)) [] := Ow.lit DotE M3
      have k4 : Keep [] M3 (M3.push (.row [] false T 0)) := (Keep.refl _ _).push _
      have n4 : (M3.push (.row [] false T 0)).next = M3.next + 1 := rfl
      generalize M3.push (.row [] false T 0) = M4 at *
      have h4 := k4.heap_of h33 (by omega) (by simp)
      rw [loadN_at (n := 2) h4 rfl, rows1 (x := .agg (dcells d)) (size := 2) rfl rfl rfl, newR_eq, e2, getW_some]
      have h5 : (M4.push (.row (AV.agg (dcells d)).cells false T 0)).heap M4.next = some (.row (dcells d) false T 0) := RM.push_new _
      have k5 : Keep [] M4 (M4.push (.row (AV.agg (dcells d)).cells false T 0)) := (Keep.refl _ _).push _
      have n5 : (M4.push (.row (AV.agg (dcells d)).cells false T 0)).next = M4.next + 1 := rfl
      generalize M4.push (.row (AV.agg (dcells d)).cells false T 0) = M5 at *
      have k45 := k4.trans k5
      refine app_all (E := DotE) (ys := l.take i) (o4.keep k5 (by simp)) (by omega) (by decide) (SlR.keep s1 k45 (by simp)) (by simp; omega) (by simp; omega) ?_
      intro v6 M6 o6 k6 n6 _
      have hk6 : ∀ c, c < M3.next → c ∉ blkOf (.slc M3.next 0 0 (.ex 0)) := fun c hc hm => by simp [blkOf] at hm; omega
      have h6 := k6.heap_of (k5.heap_of h4 (by omega) (by simp)) (by omega) (hk6 _ (by omega))
      have h66 := k6.heap_of h5 (by omega) (by simp [blkOf]; omega)
      rw [loadN_at (n := 2) h6 rfl]
      refine ⟨rfl, ?_⟩
      rw [rows1 (x := .agg (dcells d)) (size := 2) rfl rfl rfl]
      refine ⟨⟨h66, rfl⟩, ?_⟩
      rw [getW_some]
      refine ⟨rfl, ?_⟩
      rw [List.nil_append] at o6
      have sd : Sl DotE M6 (.slc M4.next 0 1 (.ex 1)) [d] := .slc _ _ _ _ _ (by omega) (by rw [RM.loads_row h66 (by show 0 + 1 * 2 ≤ 2; omega)]; rfl)
      refine app_all (E := DotE) (ys := [d]) o6 (by omega) (by decide) sd (by simp; omega) (by simp; omega) ?_
      intro v7 M7 o7 k7 n7 _
      rw [getW_some]
      refine ⟨rfl, ?_⟩
      have hv6 := o6.blk
      have hv7 := o7.blk
      have s27 : Sl DotE M7 v2 (l.drop i) := by
        refine SlR.keep (SlR.keep (SlR.keep s2 k45 (by simp)) k6 fun c hc => ?_) k7 fun c hc hm => ?_
        · exact hk6 c (hvb c (hb2 c hc)).2
        · have := (hv6 c hm).1
          have := (hvb c (hb2 c hc)).2
          omega
      refine app_all (E := DotE) (ys := l.drop i) o7 (by omega) (by decide) s27 (by simp; omega) (by simp; omega) ?_
      intro v8 M8 o8 k8 n8 _
      refine hQ v8 M8 ?_ ?_
      · rw [hat]
        have := o8.mono (base' := base) (by have := k13.next; omega)
        have e : l.take i ++ [d] ++ l.drop i = l.take i ++ d :: l.drop i := by simp
        rw [e] at this
        exact this
      · have a1 : Keep [] M M5 := k13.trans k45
        have := k13.next
        refine ((a1.then_new k6 fun c hc => .inl (by simp [blkOf] at hc; omega)).then_new k7 fun c hc => .inl (by have := (hv6 c hc).1; omega)).then_new k8 fun c hc => .inl (by have := (hv7 c hc).1; omega)
    rw [SlR.len s3, intW_lss]
    by_cases hlt : i < l.length
    · rw [show decide ((i : Int) < (l.length : Int)) = true by simpa using hlt, guardM_TT]
      dsimp only
      obtain ⟨b1, o1, _, _, hidx, hld⟩ := Sl.at (E := DotE) (i := i) s3 2 (i : Int) hlt rfl rfl
      rw [hidx, loadN_ptr]
      refine ⟨_, hld, ?_⟩
      rw [loadN_at (n := 2) h33 rfl]
      refine ha fun M4 k4 => ?_
      rw [pickT]
      refine condB (fun hg => ?_) (fun hg => ?_)
      · rw [intW_add, i64_succ (by omega)]
        refine hnext _ _ _ (by omega) ⟨i + 1, rfl, rfl, by omega, k3.trans k4, fun k hk hki => ?_⟩
        rcases Nat.lt_or_ge k i with h | h
        · exact hah k hk h
        · have : k = i := by omega
          subst this; exact hg
      · exact fin M4 (k3.trans k4) (atL_char hi hah fun _ => hg)
    · rw [show decide ((i : Int) < (l.length : Int)) = false by simp; omega, guardM_FT]
      dsimp only
      rw [pickF, condF]
      exact fin M3 k3 (atL_char hi hah fun h => absurd h hlt)
end Go.Ab.Dot
/- A set of a list; bytes that are read again; the statement of bytes: the walks. By an AI agent. -/
set_option maxRecDepth 10000
set_option linter.unusedVariables false
set_option linter.unusedSimpArgs false
namespace Go.Ab.Dot
open Go Go.Ab

/-- One dot of a list goes into the set and into the document's list. -/
def ofStep (p : List Pt × List Dot) (d : Dot) : List Pt × List Dot := ((addS p.1 d).2, if (addS p.1 d).1 = 0 then addL p.2 d else p.2)
def ofP (l : List Dot) : List Pt × List Dot := l.foldl ofStep (emptyS, [])
theorem empty_wf : ∀ p ∈ emptyS, WfP p := fun p hp => by
  simp only [emptyS, List.mem_replicate] at hp
  rw [hp.2]
  exact ⟨.nil, fun x hx => by simp at hx, Nat.zero_le _, fun x hx => by simp at hx, Nat.zero_le _⟩
theorem getD_wf {ps : List Pt} (h : ∀ p ∈ ps, WfP p) (i : Nat) : WfP (ps.getD i (0, [])) := by
  rw [List.getD_eq_getElem?_getD]
  by_cases hj : i < ps.length
  · rw [List.getElem?_eq_getElem hj]
    exact h _ (List.getElem_mem hj)
  · rw [List.getElem?_eq_none (by omega)]
    exact ⟨.nil, fun x hx => by simp at hx, Nat.zero_le _, fun x hx => by simp at hx, Nat.zero_le _⟩
theorem addS_wf {ps : List Pt} {d : Dot} (h : ∀ p ∈ ps, WfP p) : ∀ p ∈ (addS ps d).2, WfP p := by
  unfold addS
  split
  · rename_i hg
    split
    · intro p hp
      rcases List.mem_or_eq_of_mem_set hp with hp | rfl
      · exact h p hp
      · refine addP_wf (getD_wf h _) ?_
        simp only [good, Bool.and_eq_true, decide_eq_true_eq] at hg
        exact hg.2
    · exact h
  · exact h

def OfC (TS TD : Nat) (c : CallT) : Prop := ∀ {M : RM} {v : AV} {l : List Dot} {Q : PostV}, Sl DotE M v l → l.length ≤ 10000 →
  (∀ s w M', M.next ≤ s → SetH TS (fun e => s < e) M' s (ofP l).1 → (∀ p ∈ (ofP l).1, WfP p) → Ow DotE M' (s + 1) TD w (ofP l).2 → (ofP l).2.length ≤ l.length → Keep [] M M' → Q (.tup [.ptr s 0, w]) M') → c [v] M Q
theorem of_spec {TS TD : Nat} {cn ca cr : CallT} (hn : NewC TS cn) (ha : AddSC TS ca) (hr : RefAddC TD cr) : OfC TS TD fun args M Q => ∃ a0, args = [a0] ∧ W_rolodex_rolodexlaw13_of cn ca cr a0 M Q := by
  intro M v l Q hs hl hQ
  refine ⟨_, rfl, ?_⟩
  unfold W_rolodex_rolodexlaw13_of
  simp only [joinW_shut]
  refine hn fun M1 hs1 k1 n1 => ?_
  generalize hsn : M.next = s at *
  refine loopW_ind (fun m ys M3 => ∃ (i : Nat) (w : AV) (p : List Pt × List Dot), m = l.length - i ∧ ys = [w, N .i64 (i : Int)] ∧ i ≤ l.length ∧ Keep [] M M3 ∧ s < M3.next ∧ SetH TS (fun e => s < e) M3 s p.1 ∧ (∀ q ∈ p.1, WfP q) ∧ Ow DotE M3 (s + 1) TD w p.2 ∧ p.2.length ≤ i ∧
      ofP l = (l.drop i).foldl ofStep p) _
    ⟨0, nilS, (emptyS, []), rfl, rfl, Nat.zero_le _, k1, by omega, hs1.mono (fun _ h => h.elim) (by omega), empty_wf, .nil, Nat.le_refl _, rfl⟩ ?_
  rintro next m ys M3 hnext ⟨i, w, p, rfl, rfl, hi, k3, n3, hs3, hw3, ho3, hpl, hof⟩
  dsimp only [nthD]
  have s3 : Sl DotE M3 v l := SlR.keep hs k3 (by simp)
  rw [SlR.len s3, intW_lss]
  refine condB (fun hlt => ?_) (fun hge => ?_)
  · have hlt : i < l.length := by simpa using hlt
    rw [List.drop_eq_getElem_cons hlt, List.foldl_cons] at hof
    refine joinV_spec (fun zs M' => ∃ w', zs = [w'] ∧ Keep [] M M' ∧ s < M'.next ∧ SetH TS (fun e => s < e) M' s (ofStep p l[i]).1 ∧ (∀ q ∈ (ofStep p l[i]).1, WfP q) ∧ Ow DotE M' (s + 1) TD w' (ofStep p l[i]).2 ∧ (ofStep p l[i]).2.length ≤ i + 1) ?_ ?_
    · rintro zs M' ⟨w', rfl, b1, b2, b3, b4, b5, b6⟩
      dsimp only [nthD]
      rw [intW_add, i64_succ (by omega)]
      exact hnext _ _ _ (by omega) ⟨i + 1, w', _, rfl, rfl, by omega, b1, b2, b3, b4, b5, b6, hof⟩
    intro J hJ
    obtain ⟨b1, o1, _, _, hidx, hld⟩ := Sl.at (E := DotE) (i := i) s3 2 (i : Int) hlt rfl rfl
    rw [hidx, loadN_ptr]
    refine ⟨_, hld, ?_⟩
    refine ha hs3 hw3 fun M4 hs4 k4 => ?_
    have n4 := k4.next
    have k34 : Keep [] M M4 := k3.then_new k4 (by simp; omega)
    have hs4' : SetH TS (fun e => s < e) M4 s (addS p.1 l[i]).2 := hs4.mono (fun e h => by rcases h with h | h <;> omega) (by omega)
    have ho4 := ho3.keep k4 (fun b hb hm => by have := (ho3.blk b hb).1; simp at hm; omega)
    have hw4 := addS_wf (d := l[i]) hw3
    rw [intW_eql]
    refine condB (fun he => ?_) (fun he => ?_)
    · have he : (addS p.1 l[i]).1 = 0 := by simpa using he
      have s4 : Sl DotE M4 v l := SlR.keep hs k34 (by simp)
      obtain ⟨b2, o2, _, _, hidx2, hld2⟩ := Sl.at (E := DotE) (i := i) s4 2 (i : Int) hlt rfl rfl
      rw [hidx2, loadN_ptr]
      refine ⟨_, hld2, ?_⟩
      refine hr ho4 (by omega) (by omega) fun w' M5 ho5 k5 => ?_
      have n5 := k5.next
      refine hJ _ _ ⟨w', rfl, k34.trans k5, by omega, ?_, hw4, ?_, ?_⟩
      · exact hs4'.keep k5 (by simp) (by simp)
      · rw [ofStep]; simp only [he, if_true]; exact ho5
      · rw [ofStep]; simp only [he, if_true]
        have := addL_len p.2 l[i]
        omega
    · have he : ¬ (addS p.1 l[i]).1 = 0 := by simpa using he
      refine hJ _ _ ⟨w, rfl, k34, by omega, hs4', hw4, ?_, ?_⟩
      · rw [ofStep]; simp only [he, if_false]; exact ho4
      · rw [ofStep]; simp only [he, if_false]; omega
  · have he : i = l.length := by simp at hge; omega
    subst he
    rw [List.drop_length, List.foldl_nil] at hof
    subst hof
    exact hQ s w M3 (Nat.le_refl _) hs3 hw3 ho3 hpl k3

theorem guardP_TT {f g : Prop → Prop} {k : Prop} : guardP (Bo true) true f g k = f k := rfl
def BytesC (c : CallT) : Prop := ∀ {M : RM} {v : AV} {bs : List UInt8} {Q : PostV}, Sl BY M v bs → bs.length ≤ 140737488355328 → (∀ M', Keep [] M M' → Q (Bo true) M') → c [v] M Q
theorem decode_enc {bs : List UInt8} {ps : List Pt} (h : decode bs = some ps) : encS ps = bs := by
  unfold decode at h
  split at h
  · cases h
  · split at h
    · cases h
    · rename_i h2
      cases h
      exact Classical.byContradiction fun hn => h2 (.inr (.inr (.inr hn)))
theorem bytes_spec {TS TU TB : Nat} {cd ce : CallT} (hd : DecodeC TS TU cd) (he : EncodeC TS TB ce) : BytesC fun args M Q => ∃ a0, args = [a0] ∧ W_rolodex_rolodexlaw13_bytes cd ce a0 M Q := by
  intro M v bs Q hs hl hQ
  refine ⟨_, rfl, ?_⟩
  unfold W_rolodex_rolodexlaw13_bytes
  simp only [fuseM, fuseK, fuseKM, fuseMK]
  refine hd hs hl (fun hnone M1 k1 => ?_) fun ps hsome hbi s M1 hs0 hso k1 => ?_
  · rw [extW0, extW1, intW_neq, show ((14 : Int) != 0) = true from rfl, condT, intW_eql, show ((14 : Int) == 14) = true from rfl, guardM_TT]
    dsimp only
    rw [refEqW_nilp_nil, pickT]
    exact hQ M1 k1
  · rw [extW0, extW1, intW_neq, show ((0 : Int) != 0) = false from rfl, condF, refEqW_ptr_nil]
    have s1 : Sl BY M1 v bs := SlR.keep hs k1 (by simp)
    rw [guardK_TT]
    dsimp only
    rw [guardK_TT]
    dsimp only
    rw [guardK_TT, Sl.str s1]
    dsimp only
    rw [guardM_TT]
    dsimp only
    refine he hso.setH (fun p hp => ⟨by have := (hbi p hp).1; omega, by have := (hbi p hp).2.1; omega, fun x hx => by have := (hbi p hp).2.2 x hx; omega⟩) fun w M2 ho2 hl2 k2 => ?_
    have k12 := k1.trans k2
    have s2 : Sl BY M2 v bs := SlR.keep hs k12 (by simp)
    rw [guardP_TT, Sl.str s2]
    refine ⟨rfl, ?_⟩
    rw [guardK_TT, Sl.str (Own.sl ho2), strW_eql, decode_enc hsome]
    dsimp only
    rw [pickT, show (bs == bs) = true by simp]
    exact hQ M2 k12

theorem Own.op_pos {M : RM} {base el size n : Nat} {v : AV} {cs : List AV} (h : Own M base el size v cs n) (hn : 0 < n) : ∃ b, v = .slc b 0 n (.op size) ∧ base ≤ b ∧ b < M.next ∧ M.heap b = some (.row cs true el 0) ∧ cs.length = n * size := by
  cases h with
  | nil => omega
  | ex0 => omega
  | op b n cs h1 h2 h3 h4 => exact ⟨b, rfl, h1, h2, h3, h4⟩
/-- The statement of bytes. -/
def DotBytesC (B : Base) (c : CallT) : Prop := ∀ {M : RM} {v w : AV} {bs : List UInt8} {l : List Dot} {n : Int} {k : UInt8} {Q : PostV}, M.base = B → Sl BY M v bs → bs.length ≤ 140737488355328 → Sl DotE M w l →
  (∀ M', Q (Bo true) M') → c [v, w, N .i64 n, By k] M Q
theorem ofP_bd {l : List Dot} (h : ∀ p ∈ (ofP l).1, WfP p) : ∀ p ∈ (ofP l).1, Bd p := fun p hp => (h p hp).bd
theorem dotBytes_spec {B : Base} {TS TD TB : Nat} {ca cb co ce : CallT} (ha : AwakeC B ca) (hb : BytesC cb) (ho : OfC TS TD co) (he : EncodeC TS TB ce) : DotBytesC B fun args M Q => ∃ a0 a1 a2 a3, args = [a0, a1, a2, a3] ∧ W_rolodex_rolodexlaw13_DotBytes ca cb co ce a0 a1 a2 a3 M Q := by
  intro M v w bs l n k Q hM hs hl hw hQ
  refine ⟨_, _, _, _, rfl, ?_⟩
  unfold W_rolodex_rolodexlaw13_DotBytes
  simp only [fuseM, joinW_eq]
  refine ha hM ?_
  rw [notW_Bo, Bool.not_true, guardM_FF]
  dsimp only
  refine hb hs hl fun M1 k1 => ?_
  rw [notW_Bo, Bool.not_true, pickF, condF]
  have w1 : Sl DotE M1 w l := SlR.keep hw k1 (by simp)
  rw [SlR.len w1, intW_gtr]
  refine condB (fun _ => hQ M1) (fun hle => ?_)
  have hle : l.length ≤ 40 := by
    have : ¬ ((l.length : Nat) : Int) > 40 := of_decide_eq_false hle
    omega
  refine ho w1 (by omega) fun s u M2 hsn hset hwf how hul k2 => ?_
  rw [extW0, extW1]
  refine he hset (ofP_bd hwf) fun c M3 hc hcl k3 => ?_
  have s3 := Own.sl hc
  generalize encS (ofP l).1 = L at *
  have fin : ∀ M4 L', Sl BY M4 c L' → L'.length ≤ 200000000 → cb [c] M4 fun t47 M_22 => Q t47 M_22 := fun M4 L' h4 hl4 => hb h4 (by omega) fun M5 _ => hQ M5
  rw [intW_geq]
  by_cases hn : n ≥ 0
  · rw [show decide (n ≥ 0) = true by simpa using hn, guardM_TT]
    dsimp only
    rw [SlR.len s3, intW_lss, pickT]
    refine condB (fun hlt => ?_) (fun _ => fin M3 L s3 (by omega))
    have hlt : n < (L.length : Int) := of_decide_eq_true hlt
    obtain ⟨i, rfl⟩ := Int.eq_ofNat_of_zero_le hn
    have hi : i < L.length := by omega
    generalize hLL : bytesC L = cs at *
    have hcsl : cs.length = L.length := by rw [← hLL]; simp
    obtain ⟨b, rfl, h1, h2, h3, h4⟩ := Own.op_pos hc (by omega)
    · skip
      have hci : cs[i]? = some (N .u8 (L[i].toNat : Int)) := by rw [← hLL]; simp [hi]
      have hidx : ∀ (K : AV → Prop), idxS (.slc b 0 L.length (.op 1)) (N .i64 (i : Int)) 1 K = K (.ptr b i) := fun K => by
        rw [idxS_slc]
        simp only [Int.toNat_natCast]
        rw [show 0 + i * 1 = i by omega]
        exact propext ⟨fun h => h.2.2, fun h => ⟨by omega, by omega, h⟩⟩
      rw [hidx, load1_at h3 hci, intW_xor, hidx, storeW_at h3 (by omega) rfl rfl]
      have hx : N .u8 (xorI .u8 (L[i].toNat : Int) (k.toNat : Int)) = By (L[i] ^^^ k) := by
        rw [xorI_nat rfl]
        simp only [ubits]
        congr 2
        rw [UInt8.toNat_xor, Nat.mod_eq_of_lt]
        exact Nat.xor_lt_two_pow (u8_lt _) (u8_lt _)
      refine fin _ (L.set i (L[i] ^^^ k)) ?_ (by simp; omega)
      refine Own.sl (base := M2.next) (T := TB) ?_
      rw [List.length_set]
      refine .op b _ _ h1 h2 ?_ (by simp)
      rw [heap_put_eq, hx]
      congr 2
      rw [← hLL]
      simp only [bytesC, List.map_set]
  · rw [show decide (n ≥ 0) = false by simpa using hn, guardM_FT]
    dsimp only
    rw [pickF, condF]
    exact fin M3 L s3 (by omega)
end Go.Ab.Dot
/- slices.Insert at the end of one's own. By an AI agent. -/
set_option maxRecDepth 10000
set_option linter.unusedVariables false
set_option linter.unusedSimpArgs false
namespace Go.Ab.Dot
open Go Go.Ab

theorem insL_end (x : Nat) (xs : List Nat) : insL xs.length x xs = xs ++ [x] := by simp [insL]
theorem insert_end {M : RM} {v : AV} {bx n0 T x ex : Nat} {xs : List Nat} {co cr : CallT} {Q : PostV} (ho : Ow U64 M n0 T v xs) (hn : n0 ≤ M.next) (hl : xs.length ≤ 100000) (hx : M.heap bx = some (.row [N .u64 (x : Int)] false ex 0)) (hxl : bx < M.next)
    (hQ : ∀ v' M', Sl U64 M' v' (insL xs.length x xs) → capOk v' → (∀ c ∈ blkOf v', n0 ≤ c) → Keep (blkOf v) M M' → Q v' M') : W_slices_Insert_uint64_uint64 T co cr v (N .i64 (xs.length : Int)) (.slc bx 0 1 (.ex 1)) M Q := by
  unfold W_slices_Insert_uint64_uint64
  obtain ⟨v1, v2, e1, s1, e2, s2, hb1, hb2⟩ := own_cut (E := U64) (k := xs.length) (by decide) ho (Nat.le_refl _)
  have e2 : subS 1 v (some (N .i64 (xs.length : Int))) none none = some v2 := e2
  have hs : Sl U64 M v xs := ho.slR
  rw [e2, getW_some, lenW_slc, intW_eql, show ((((1 : Nat) : Int)) == 0) = false from rfl, condF, SlR.len hs, intW_eql, show ((xs.length : Int) == (xs.length : Int)) = true by simp, condT]
  have sx : Sl U64 M (.slc bx 0 1 (.ex 1)) [x] := .slc _ _ _ _ _ hxl (by rw [RM.loads_row hx (by show 0 + 1 * 1 ≤ 1; omega)]; rfl)
  refine app_all (E := U64) (ys := [x]) ho hn (Nat.le_refl _) sx (by simp; omega) (by simp; omega) ?_
  intro v' M' o k _ _
  refine hQ v' M' ?_ (Own.capOk o) (fun c hc => (o.blk c hc).1) k
  rw [insL_end]
  exact o.slR
end Go.Ab.Dot
