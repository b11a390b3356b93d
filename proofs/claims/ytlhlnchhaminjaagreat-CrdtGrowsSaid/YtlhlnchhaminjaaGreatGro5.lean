/- Part 5 of the ground of the proofs of this seat (texts D4 to E2). By an AI agent. -/
import Derived.Test.YtlhlnchhaminjaaGreatGro4
import Derived.Sort.AssemblyPlain
import Derived.KernelRfl
set_option maxRecDepth 10000
set_option linter.unusedVariables false
set_option linter.unusedSimpArgs false
namespace Go.Ab.Dot
open Go Go.Ab
def hasP (p : Pt) (n : Nat) : Bool := (decide (1 ≤ n) && decide (n ≤ p.1)) || decide (n ∈ p.2)
def HasPC (c : CallT) : Prop := ∀ {M : RM} {b o T u n : Nat} {l : List AV} {v : AV} {xs : List Nat} {Q : PostV}, M.heap b = some (.row l false T 0) → l[o]? = some (N .u64 (u : Int)) → l[o + 1]? = some v → Sl U64 M v xs → Asc xs → xs.length ≤ 1000000 →
  Q (Bo (hasP (u, xs) n)) M → c [.ptr b o, N .u64 (n : Int)] M Q
theorem hasP_spec {cb : CallT} (hsr : SearchC cb) : HasPC fun args M Q => ∃ a0 a1, args = [a0, a1] ∧ W_part_has cb a0 a1 M Q := by
  intro M b o T u n l v xs Q hb ho hv hs hasc hxl hQ
  refine ⟨_, _, rfl, ?_⟩
  unfold W_part_has
  simp only [fuseM]
  unfold hasP at hQ
  rw [ptrW_ptr, fldW_ptr, load1_at hb hv]
  refine hsr hs hxl hasc ?_
  rw [extW0, extW1, intW_geq]
  by_cases h1 : 1 ≤ n
  · rw [show decide ((n : Int) ≥ 1) = true by simp; omega, guardM_TT, ptrW_ptr, fldW_ptr, Nat.add_zero, load1_at hb ho, intW_leq]
    dsimp only
    rw [pickT]
    by_cases h2 : n ≤ u
    · rw [show decide ((n : Int) ≤ (u : Int)) = true by simpa using h2, guardM_TF]
      dsimp only
      rw [pickT]
      simpa [h1, h2] using hQ
    · rw [show decide ((n : Int) ≤ (u : Int)) = false by simp; omega, guardM_FF]
      dsimp only
      rw [pickF]
      simpa [h1, h2] using hQ
  · rw [show decide ((n : Int) ≥ 1) = false by simp; omega, guardM_FT]
    dsimp only
    rw [pickF, guardM_FF]
    dsimp only
    rw [pickF]
    simpa [h1] using hQ
abbrev Dot := Int × Nat
abbrev dcells (d : Dot) : List AV := [N .i64 d.1, N .u64 (d.2 : Int)]
def DotE : Enc Dot := ⟨2, dcells, fun _ => rfl, fun _ => rfl⟩
def good (d : Dot) : Bool := decide (0 ≤ d.1) && decide (d.1 < 16) && decide (1 ≤ d.2) && decide (d.2 ≤ 1099511627776)
def GoodC (c : CallT) : Prop := ∀ {M : RM} {d : Dot} {Q : PostV}, (∀ M', Keep [] M M' → Q (Bo (good d)) M') → c [.agg (dcells d)] M Q
theorem good_tail {M1 : RM} {K : PostV} {d : Dot} {T : Nat} {b : Nat} (h : M1.heap b = some (.row (dcells d) false T 0)) (hQ : K (Bo (good d)) M1) :
    fldW (.ptr b 0) 0 fun t3 => load1 M1 t3 fun t4 => intW .geq t4 (N .i64 0) fun t5 =>
      guardM t5 true (fun k' => fldW (.ptr b 0) 0 fun t7 => load1 M1 t7 fun t8 => intW .lss t8 (N .i64 16) fun t9 => k' t9 M1) (fun k => k .undef M1) fun t9 M2 => pickW t5 t9 (Bo false) fun t10 =>
      guardM t10 true (fun k' => fldW (.ptr b 0) 1 fun t12 => load1 M2 t12 fun t13 => intW .geq t13 (N .u64 1) fun t14 => k' t14 M2) (fun k => k .undef M2) fun t14 M3 => pickW t10 t14 (Bo false) fun t15 =>
      guardM t15 true (fun k' => fldW (.ptr b 0) 1 fun t17 => load1 M3 t17 fun t18 => intW .leq t18 (N .u64 1099511627776) fun t19 => k' t19 M3) (fun k => k .undef M3) fun t19 M4 => pickW t15 t19 (Bo false) fun t20 => K t20 M4 := by
  unfold good at hQ
  obtain ⟨dv, n⟩ := d
  simp only at hQ
  rw [fld0, load1_at h rfl, intW_geq]
  by_cases h1 : 0 ≤ dv
  · rw [show decide (dv ≥ 0) = true by simpa using h1, guardM_TT, fld0, load1_at h rfl, intW_lss]
    dsimp only
    rw [pickT]
    by_cases h2 : dv < 16
    · rw [show decide (dv < 16) = true by simpa using h2, guardM_TT, fld0, load1_at h rfl, intW_geq]
      dsimp only
      rw [pickT]
      by_cases h3 : 1 ≤ n
      · rw [show decide ((n : Int) ≥ 1) = true by simp; omega, guardM_TT, fld0, load1_at h rfl, intW_leq]
        dsimp only
        rw [pickT, show decide ((n : Int) ≤ 1099511627776) = decide (n ≤ 1099511627776) by simp; omega]
        simpa [h1, h2, h3] using hQ
      · rw [show decide ((n : Int) ≥ 1) = false by simp; omega, guardM_FT]
        dsimp only
        rw [pickF]
        simpa [h1, h2, h3] using hQ
    · rw [show decide (dv < 16) = false by simpa using h2, guardM_FT]
      dsimp only
      rw [pickF, guardM_FT]
      dsimp only
      rw [pickF]
      simpa [h1, h2] using hQ
  · rw [show decide (dv ≥ 0) = false by simpa using h1, guardM_FT]
    dsimp only
    rw [pickF, guardM_FT]
    dsimp only
    rw [pickF, guardM_FT]
    dsimp only
    rw [pickF]
    simpa [h1] using hQ
theorem good_spec {T : Nat} : GoodC fun args M Q => ∃ a0, args = [a0] ∧ W_Good_2 T a0 M Q := by
  intro M d Q hQ
  refine ⟨_, rfl, ?_⟩
  unfold W_Good_2
  simp only [fuseM]
  rw [boxW_agg rfl (by simp), newW_eq]
  exact good_tail (RM.push_new _) (hQ _ ((Keep.refl _ _).push _))
theorem refGood_spec {T : Nat} : GoodC fun args M Q => ∃ a0, args = [a0] ∧ W_Good_3 T a0 M Q := by
  intro M d Q hQ
  refine ⟨_, rfl, ?_⟩
  unfold W_Good_3
  simp only [fuseM]
  rw [boxW_agg rfl (by simp), newW_eq]
  exact good_tail (RM.push_new _) (hQ _ ((Keep.refl _ _).push _))
def WfP (p : Pt) : Prop := Asc p.2 ∧ (∀ x ∈ p.2, p.1 + 1 < x) ∧ p.1 ≤ 1099511627776 ∧ (∀ x ∈ p.2, x ≤ 1099511627776) ∧ p.2.length ≤ 4096
theorem insL_asc {n : Nat} {xs : List Nat} (h : Asc xs) (hn : n ∉ xs) : Asc (insL (below n xs) n xs) := by
  unfold insL Asc
  rw [List.pairwise_append]
  have ht := List.Pairwise.sublist (List.take_sublist (below n xs) xs) h
  have hd := List.Pairwise.sublist (List.drop_sublist (below n xs) xs) h
  have lt1 : ∀ a ∈ xs.take (below n xs), a < n := fun a ha => by
    obtain ⟨i, hi, rfl⟩ := List.getElem_of_mem ha
    rw [List.getElem_take]
    exact below_lt (by simp at hi; omega) (by simp at hi; omega)
  have gt1 : ∀ a ∈ xs.drop (below n xs), n < a := fun a ha => by
    obtain ⟨i, hi, rfl⟩ := List.getElem_of_mem ha
    rw [List.getElem_drop]
    simp only [List.length_drop] at hi
    have h0 : below n xs < xs.length := by omega
    have h1 := below_ge (n := n) h0
    have h2 : xs[below n xs] ≠ n := fun e => hn (by rw [← e]; exact List.getElem_mem h0)
    rcases Nat.eq_zero_or_pos i with rfl | hi0
    · simp only [Nat.add_zero]; omega
    · have := h.lt (i := below n xs) (j := below n xs + i) (by omega) (by omega); omega
  refine ⟨ht, List.pairwise_cons.2 ⟨gt1, hd⟩, fun a ha b hb => ?_⟩
  rcases List.mem_cons.1 hb with rfl | hb
  · exact lt1 a ha
  · have := lt1 a ha; have := gt1 b hb; omega
theorem settle_props : ∀ (xs : List Nat) (u N : Nat), Asc xs → u ≤ N → (∀ x ∈ xs, x ≤ N) → Asc (settle u xs).2 ∧ (∀ x ∈ (settle u xs).2, (settle u xs).1 + 1 < x) ∧ (settle u xs).1 ≤ N ∧ u ≤ (settle u xs).1
  | [], u, N, _, hu, _ => ⟨by simp [settle, settleK, Asc], by simp [settle, settleK], hu, Nat.le_refl _⟩
  | x :: xs, u, N, ha, hu, hx => by
    have ha2 := (List.pairwise_cons.1 ha).2
    by_cases h : x ≤ u + 1
    · have e : settle u (x :: xs) = settle (max u x) xs := by
        unfold settle
        rw [settleK, if_pos h]; rfl
      rw [e]
      have := settle_props xs (max u x) N ha2 (by have := hx x (by simp); omega) (fun y hy => hx y (by simp [hy]))
      exact ⟨this.1, this.2.1, this.2.2.1, by have := this.2.2.2; omega⟩
    · have e : settle u (x :: xs) = (u, x :: xs) := by
        unfold settle
        rw [settleK, if_neg h]; rfl
      rw [e]
      refine ⟨ha, fun y hy => ?_, hu, Nat.le_refl _⟩
      simp only at hy ⊢
      rcases List.mem_cons.1 hy with rfl | hy
      · omega
      · have := (List.pairwise_cons.1 ha).1 y hy; omega
theorem settle_mem {u : Nat} {xs : List Nat} {y : Nat} (h : y ∈ (settle u xs).2) : y ∈ xs := List.mem_of_mem_drop h
theorem addP_wf {p : Pt} {n : Nat} (hp : WfP p) (hn : n ≤ 1099511627776) : WfP (addP p n).2 := by
  unfold addP
  split
  · exact hp
  · rename_i h
    split
    · rename_i h2
      have hm : n ∉ p.2 := fun hm => h (.inl hm)
      have := settle_props (insL (below n p.2) n p.2) p.1 1099511627776 (insL_asc hp.1 hm) hp.2.2.1 (fun x hx => by rcases insL_mem hx with rfl | hx; exact hn; exact hp.2.2.2.1 x hx)
      exact ⟨this.1, this.2.1, this.2.2.1, fun x hx => by rcases insL_mem (settle_mem hx) with rfl | hx; exact hn; exact hp.2.2.2.1 x hx, h2⟩
    · exact hp
structure SetH (T : Nat) (S : Nat → Prop) (M : RM) (b : Nat) (ps : List Pt) : Prop where
  lt : b < M.next
  len : ps.length = 16
  row : ∃ l, M.heap b = some (.row l false T 0) ∧ l.length = 32 ∧ ∀ (i : Nat) (hi : i < ps.length), ∃ v, l[2 * i]? = some (N .u64 (ps[i].1 : Int)) ∧ l[2 * i + 1]? = some v ∧ Sl U64 M v ps[i].2 ∧ capOk v ∧ ∀ d ∈ blkOf v, S d
  nb : ¬ S b
theorem SetH.mono {T : Nat} {S S' : Nat → Prop} {M : RM} {b : Nat} {ps : List Pt} (h : SetH T S M b ps) (hs : ∀ d, S d → S' d) (hb : ¬ S' b) : SetH T S' M b ps := by
  obtain ⟨l, h1, h2, h3⟩ := h.row
  exact ⟨h.lt, h.len, ⟨l, h1, h2, fun i hi => let ⟨v, a1, a2, a3, a4, a5⟩ := h3 i hi; ⟨v, a1, a2, a3, a4, fun d hd => hs d (a5 d hd)⟩⟩, hb⟩
theorem SetH.keep {T : Nat} {S : Nat → Prop} {M M' : RM} {b : Nat} {ps : List Pt} {bs : List Nat} (h : SetH T S M b ps) (hk : Keep bs M M') (hb : b ∉ bs) (hs : ∀ d ∈ bs, ¬ S d) : SetH T S M' b ps := by
  obtain ⟨l, h1, h2, h3⟩ := h.row
  exact ⟨Nat.lt_of_lt_of_le h.lt hk.next, h.len, ⟨l, hk.heap_of h1 h.lt hb, h2, fun i hi => let ⟨v, a1, a2, a3, a4, a5⟩ := h3 i hi; ⟨v, a1, a2, SlR.keep a3 hk (fun d hd hm => hs d hm (a5 d hd)), a4, a5⟩⟩, h.nb⟩
theorem SetH.below {T : Nat} {S : Nat → Prop} {M : RM} {b : Nat} {ps : List Pt} (h : SetH T S M b ps) : SetH T (fun d => S d ∧ d < M.next) M b ps := by
  obtain ⟨l, h1, h2, h3⟩ := h.row
  exact ⟨h.lt, h.len, ⟨l, h1, h2, fun i hi => let ⟨v, a1, a2, a3, a4, a5⟩ := h3 i hi; ⟨v, a1, a2, a3, a4, fun d hd => ⟨a5 d hd, SlR.lt a3 d hd⟩⟩⟩, fun hb => h.nb hb.1⟩
def addS (ps : List Pt) (d : Dot) : Int × List Pt :=
  if good d then (if (addP (ps.getD d.1.toNat (0, [])) d.2).1 then (0, ps.set d.1.toNat (addP (ps.getD d.1.toNat (0, [])) d.2).2) else (2, ps)) else (1, ps)
def AddSC (T : Nat) (c : CallT) : Prop := ∀ {M : RM} {b : Nat} {ps : List Pt} {d : Dot} {S : Nat → Prop} {Q : PostV}, SetH T S M b ps → (∀ p ∈ ps, WfP p) →
  (∀ M', SetH T (fun e => S e ∨ M.next ≤ e) M' b (addS ps d).2 → Keep [b] M M' → Q (N .i64 (addS ps d).1) M') → c [.ptr b 0, .agg (dcells d)] M Q
theorem addP_false {p : Pt} {n : Nat} (h : (addP p n).1 = false) : (addP p n).2 = p := by
  unfold addP at h ⊢
  split
  · rfl
  · split
    · rename_i h1 h2
      rw [if_neg h1, if_pos h2] at h; cases h
    · rfl
theorem addS_spec {T TD : Nat} {cg ca : CallT} (hg : GoodC cg) (ha : AddPC ca) : AddSC T fun args M Q => ∃ a0 a1, args = [a0, a1] ∧ W_Set_Add TD cg ca a0 a1 M Q := by
  intro M b ps d S Q hset hwf hQ
  refine ⟨_, _, rfl, ?_⟩
  unfold W_Set_Add
  rw [boxW_agg rfl (by simp), newW_eq, loadN_at (n := 2) (RM.push_new _) rfl]
  have k1 : Keep [] M (M.push (.row (dcells d) false TD 0)) := (Keep.refl _ _).push _
  have h3 : (M.push (.row (dcells d) false TD 0)).heap M.next = some (.row (dcells d) false TD 0) := RM.push_new _
  have n1 : (M.push (.row (dcells d) false TD 0)).next = M.next + 1 := rfl
  generalize M.push (.row (dcells d) false TD 0) = M1 at *
  refine hg fun M2 k2 => ?_
  have kk := k1.trans k2
  have h3 := k2.heap_of h3 (by omega) (by simp)
  have s2 := hset.keep kk (by simp) (by simp)
  have hbl := hset.lt
  rw [notW_Bo]
  unfold addS at hQ
  have n2 := k2.next
  cases hgd : good d with
  | false =>
    simp only [hgd, Bool.false_eq_true, if_false] at hQ
    rw [Bool.not_false, condT]
    exact hQ M2 (s2.mono (fun e h => .inl h) (fun h => by rcases h with h | h; exact hset.nb h; omega)) (kk.mono (by simp))
  | true =>
    simp only [hgd, if_true] at hQ
    have hgd' := hgd
    simp [good] at hgd'
    obtain ⟨i, hi⟩ : ∃ i : Nat, d.1 = (i : Int) := ⟨d.1.toNat, by omega⟩
    have hi16 : i < 16 := by omega
    have hil : i < ps.length := by rw [hset.len]; exact hi16
    have hgetD : ps.getD d.1.toNat (0, []) = ps[i] := by rw [hi, Int.toNat_natCast, List.getD_eq_getElem?_getD, List.getElem?_eq_getElem hil]; rfl
    rw [hgetD] at hQ
    rw [hi, Int.toNat_natCast] at hQ
    rw [Bool.not_true, condF, fld0, load1_at h3 rfl, ptrW_ptr, fld0, hi, idxA_ptr]
    refine ⟨by omega, by omega, ?_⟩
    rw [fld0, load1_at h3 rfl, Int.toNat_natCast, Nat.zero_add, Nat.mul_comm i 2]
    obtain ⟨l, hb, hl32, hrow⟩ := s2.row
    obtain ⟨v, a1, a2, a3, a4, a5⟩ := hrow i hil
    have hwp := hwf _ (List.getElem_mem hil)
    have hk0 : ∀ b' ∈ ([b] : List Nat), b' = b := by simp
    refine ha hb s2.lt a1 a2 a3 (fun h => hset.nb (a5 b h)) a4 hwp.1 (by have := hwp.2.2.2.2; omega) (by have := hwp.2.2.1; omega) (fun x hx => by have := hwp.2.2.2.1 x hx; omega) (by omega) ?_ ?_
    · intro M3 he k3
      have s3 := s2.keep k3 (by simp) (by simp)
      rw [notW_Bo]
      cases hr : (addP (ps[i].1, ps[i].2) d.2).1 with
      | false =>
        have hr' : (addP ps[i] d.2).1 = false := hr
        simp only [hr', Bool.false_eq_true, if_false] at hQ
        rw [Bool.not_false, condT]
        exact hQ M3 (s3.mono (fun e h => .inl h) (fun h => by rcases h with h | h; exact hset.nb h; omega)) ((kk.trans k3).mono (by simp))
      | true =>
        have hr' : (addP ps[i] d.2).1 = true := hr
        have he2 : (addP ps[i] d.2).2 = ps[i] := by
          have := congrArg Prod.snd he
          exact this
        simp only [hr', if_true, he2, List.set_getElem_self] at hQ
        rw [Bool.not_true, condF]
        exact hQ M3 (s3.mono (fun e h => .inl h) (fun h => by rcases h with h | h; exact hset.nb h; omega)) ((kk.trans k3).mono (by simp))
    · intro v' M3 hb3 hs3 hc3 hbk k3
      rw [notW_Bo]
      have hb2n : ∀ b' ∈ blkOf v', b' ≠ b := fun b' hb' e => by have := hbk b' hb'; omega
      have set3 : SetH T (fun e => S e ∨ M.next ≤ e) M3 b (ps.set i (addP ps[i] d.2).2) := by
        refine ⟨Nat.lt_of_lt_of_le s2.lt k3.next, by rw [List.length_set]; exact hset.len, ⟨_, hb3, by simp [hl32]; omega, fun j hj => ?_⟩, fun h => by rcases h with h | h; exact hset.nb h; omega⟩
        rw [List.length_set] at hj
        have htl : (l.take (2 * i)).length = 2 * i := by simp; omega
        by_cases hji : j = i
        · subst hji
          refine ⟨v', ?_, ?_, ?_, hc3, fun e he => .inr (by have := hbk e he; omega)⟩
          · rw [List.append_assoc, List.getElem?_append_right (by omega), htl, Nat.sub_self]; simp
          · rw [List.append_assoc, List.getElem?_append_right (by omega), htl, show 2 * j + 1 - 2 * j = 1 by omega]; simp
          · simp only [List.getElem_set_self]; exact hs3
        · obtain ⟨w, e1, e2, e3, e4, e5⟩ := hrow j hj
          have same : ∀ k, (k = 2 * j ∨ k = 2 * j + 1) → (l.take (2 * i) ++ [N .u64 (((addP (ps[i].1, ps[i].2) d.2).2.1 : Nat) : Int), v'] ++ l.drop (2 * i + 2))[k]? = l[k]? := fun k hk => by
            rcases Nat.lt_or_ge k (2 * i) with h | h
            · rw [List.append_assoc, List.getElem?_append_left (by omega), List.getElem?_take_of_lt h]
            · rw [List.getElem?_append_right (by simp; omega), List.getElem?_drop]
              congr 1
              simp; omega
          refine ⟨w, ?_, ?_, ?_, e4, fun e he => .inl (e5 e he)⟩
          · rw [same _ (.inl rfl), e1, List.getElem_set_ne (Ne.symm hji)]
          · rw [same _ (.inr rfl), e2]
          · rw [List.getElem_set_ne (Ne.symm hji)]
            exact SlR.keep e3 k3 (fun e he hm => by simp at hm; subst hm; exact hset.nb (e5 _ he))
      cases hr : (addP (ps[i].1, ps[i].2) d.2).1 with
      | false =>
        have hr' : (addP ps[i] d.2).1 = false := hr
        simp only [hr', Bool.false_eq_true, if_false] at hQ
        rw [Bool.not_false, condT]
        have e := addP_false hr'
        rw [e, List.set_getElem_self] at set3
        exact hQ M3 set3 ((kk.mono (by simp)).trans k3)
      | true =>
        have hr' : (addP ps[i] d.2).1 = true := hr
        simp only [hr', if_true] at hQ
        rw [Bool.not_true, condF]
        exact hQ M3 set3 ((kk.mono (by simp)).trans k3)
def emptyS : List Pt := List.replicate 16 (0, [])
def NewC (T : Nat) (c : CallT) : Prop := ∀ {M : RM} {Q : PostV}, (∀ M', SetH T (fun _ => False) M' M.next emptyS → Keep [] M M' → M'.next = M.next + 1 → Q (.ptr M.next 0) M') → c [] M Q
theorem new_spec {T : Nat} : NewC T fun args M Q => args = [] ∧ W_New_2 T M Q := by
  intro M Q hQ
  refine ⟨rfl, ?_⟩
  unfold W_New_2
  rw [buildW_eq]
  refine ⟨_, rfl, ?_⟩
  rw [boxW_agg rfl (by simp), newW_eq]
  refine hQ _ ⟨by simp [RM.push], rfl, ⟨_, RM.push_new _, rfl, fun i hi => ?_⟩, id⟩ ((Keep.refl _ _).push _) rfl
  have hi : i < 16 := hi
  refine ⟨nilS, ?_, ?_, ?_, trivial, by simp [blkOf]⟩
  · obtain rfl | rfl | rfl | rfl | rfl | rfl | rfl | rfl | rfl | rfl | rfl | rfl | rfl | rfl | rfl | rfl : i = 0 ∨ i = 1 ∨ i = 2 ∨ i = 3 ∨ i = 4 ∨ i = 5 ∨ i = 6 ∨ i = 7 ∨ i = 8 ∨ i = 9 ∨ i = 10 ∨ i = 11 ∨ i = 12 ∨ i = 13 ∨ i = 14 ∨ i = 15 := by omega
    all_goals rfl
  · obtain rfl | rfl | rfl | rfl | rfl | rfl | rfl | rfl | rfl | rfl | rfl | rfl | rfl | rfl | rfl | rfl : i = 0 ∨ i = 1 ∨ i = 2 ∨ i = 3 ∨ i = 4 ∨ i = 5 ∨ i = 6 ∨ i = 7 ∨ i = 8 ∨ i = 9 ∨ i = 10 ∨ i = 11 ∨ i = 12 ∨ i = 13 ∨ i = 14 ∨ i = 15 := by omega
    all_goals rfl
  · simp only [emptyS, List.getElem_replicate]; exact .nil
end Go.Ab.Dot
set_option maxRecDepth 10000
set_option linter.unusedVariables false
set_option linter.unusedSimpArgs false
namespace Go.Ab.Dot
open Go Go.Ab
section
variable {α : Type} {E : Enc α}
end
def numF : Nat → Nat → List UInt8 → Option (Nat × Nat)
  | _, _, [] => none
  | i, v, x :: xs =>
    if x.toNat ≥ 128 then numF (i + 1) ((v ||| (x.toNat % 128 * 2 ^ (7 * i) % 2 ^ 64)) % 2 ^ 64) xs
    else if x.toNat = 0 ∧ i > 0 ∨ i = 9 ∧ x.toNat > 1 then none else some ((v ||| (x.toNat % 128 * 2 ^ (7 * i) % 2 ^ 64)) % 2 ^ 64, i + 1)
def numB (bs : List UInt8) : Option (Nat × Nat) := numF 0 0 (bs.take 10)
structure RdH (T : Nat) (S : Nat → Prop) (M : RM) (r : Nat) (bs : List UInt8) (f : Bool) : Prop where
  lt : r < M.next
  row : ∃ v, M.heap r = some (.row [v, Bo f] false T 0) ∧ Sl BY M v bs ∧ capOk v ∧ ∀ d ∈ blkOf v, S d
  nb : ¬ S r
theorem RdH.keep {T : Nat} {S : Nat → Prop} {M M' : RM} {r : Nat} {bs : List UInt8} {f : Bool} {ks : List Nat} (h : RdH T S M r bs f) (hk : Keep ks M M') (hr : r ∉ ks) (hs : ∀ d ∈ ks, ¬ S d) : RdH T S M' r bs f := by
  obtain ⟨v, h1, h2, h3, h4⟩ := h.row
  exact ⟨Nat.lt_of_lt_of_le h.lt hk.next, ⟨v, hk.heap_of h1 h.lt hr, SlR.keep h2 hk (fun d hd hm => hs d hm (h4 d hd)), h3, h4⟩, h.nb⟩
def readInt (most : Nat) (bs : List UInt8) (f : Bool) : Nat × List UInt8 × Bool :=
  match numB bs with
  | none => (0, bs, true)
  | some (v, n) => if f || decide (most < v) then (0, bs, true) else (v, bs.drop n, false)
end Go.Ab.Dot
set_option maxRecDepth 10000
set_option linter.unusedVariables false
set_option linter.unusedSimpArgs false
namespace Go.Ab.Dot
open Go Go.Ab
def joinV (f : (List AV → RM → Prop) → Prop) (g : List AV → RM → Prop) : Prop := f g
theorem joinW_shut (f : (List AV → RM → Prop) → Prop) (g : List AV → RM → Prop) : joinW f g = joinV f g := rfl
theorem joinV_spec {H : (List AV → RM → Prop) → Prop} {G : List AV → RM → Prop} (P : List AV → RM → Prop) (hT : ∀ xs M, P xs M → G xs M)
    (hH : ∀ J : List AV → RM → Prop, (∀ xs M, P xs M → J xs M) → H J) : joinV H G := hH G hT
abbrev PartT := (Nat × Nat) × List Nat
def partsT (ps : List Pt) : Nat → List PartT
  | 0 => []
  | i + 1 => partsT ps i ++ (if 0 < (ps.getD i (0, [])).1 ∨ 0 < (ps.getD i (0, [])).2.length then [((i, (ps.getD i (0, [])).1), (ps.getD i (0, [])).2)] else [])
def parts (ps : List Pt) : List PartT := partsT ps 16
@[irreducible] def sub64 (x a : Nat) : Nat := (x + 18446744073709551616 - a) % 18446744073709551616
end Go.Ab.Dot
set_option maxRecDepth 10000
set_option linter.unusedVariables false
set_option linter.unusedSimpArgs false
namespace Go.Ab.Dot
open Go Go.Ab
end Go.Ab.Dot
set_option maxRecDepth 10000
set_option linter.unusedVariables false
set_option linter.unusedSimpArgs false
namespace Go.Ab.Dot
open Go Go.Ab
structure SetO (T TU base : Nat) (M : RM) (b : Nat) (ps : List Pt) : Prop where
  lt : b < M.next
  len : ps.length = 16
  row : ∃ (l : List AV) (vs : Nat → AV), M.heap b = some (.row l false T 0) ∧ l.length = 32 ∧ (∀ (i : Nat) (hi : i < ps.length), l[2 * i]? = some (N .u64 (ps[i].1 : Int)) ∧ l[2 * i + 1]? = some (vs i) ∧ Ow U64 M base TU (vs i) ps[i].2) ∧
    ∀ i j, i < 16 → j < 16 → i ≠ j → ∀ d ∈ blkOf (vs i), d ∉ blkOf (vs j)
  nb : b < base
theorem SetO.keep {T TU base : Nat} {M M' : RM} {b : Nat} {ps : List Pt} {bs : List Nat} (h : SetO T TU base M b ps) (hk : Keep bs M M') (hb : b ∉ bs) (hs : ∀ d ∈ bs, d < base) : SetO T TU base M' b ps := by
  obtain ⟨l, vs, h1, h2, h3, h4⟩ := h.row
  refine ⟨Nat.lt_of_lt_of_le h.lt hk.next, h.len, ⟨l, vs, hk.heap_of h1 h.lt hb, h2, fun i hi => ⟨(h3 i hi).1, (h3 i hi).2.1, (h3 i hi).2.2.keep hk fun d hd hm => ?_⟩, h4⟩, h.nb⟩
  have := ((h3 i hi).2.2.blk d hd).1
  have := hs d hm
  omega
theorem Own.sl {M : RM} {base T : Nat} {v : AV} {L : List UInt8} (h : Own M base T 1 v (bytesC L) L.length) : Sl BY M v L := by
  have := h.slR
  show SlR M 1 v (BY.row L) L.length
  rw [BY_row]; exact this
end Go.Ab.Dot
set_option maxRecDepth 10000
set_option linter.unusedVariables false
set_option linter.unusedSimpArgs false
namespace Go.Ab.Dot
open Go Go.Ab
@[irreducible] def readU (bs : List UInt8) (f : Bool) : Nat × List UInt8 × Bool := readInt 18446744073709551615 bs f
theorem getD_set_self {ps : List Pt} {i : Nat} (h : i < ps.length) (p : Pt) : (ps.set i p).getD i (0, []) = p := by
  rw [List.getD_eq_getElem?_getD, List.getElem?_set_self h]; rfl
end Go.Ab.Dot
set_option maxRecDepth 10000
set_option linter.unusedVariables false
set_option linter.unusedSimpArgs false
namespace Go.Ab.Dot
open Go Go.Ab
def aheadB (a b : Dot) : Bool := decide (a.1 < b.1) || (decide (a.1 = b.1) && decide (a.2 < b.2))
theorem dot_eq (a b : Dot) : flatEq [1, 1] (dcells a) (dcells b) = some (decide (a = b)) := by
  obtain ⟨d, n⟩ := a
  obtain ⟨e, k⟩ := b
  simp only [flatEq_int, flatEq_nil]
  by_cases h1 : d = e
  · by_cases h2 : n = k
    · simp [h1, h2]
    · have : ¬ (n : Int) = (k : Int) := by omega
      simp [h1, h2, this]
  · simp [h1]
section
variable {α : Type} {E : Enc α}
theorem own_cut {M : RM} {base T k : Nat} {v : AV} {xs : List α} (hE : 1 ≤ E.size) (ho : Ow E M base T v xs) (hk : k ≤ xs.length) :
    ∃ v1 v2, subS E.size v none (some (N .i64 (k : Int))) none = some v1 ∧ Sl E M v1 (xs.take k) ∧ subS E.size v (some (N .i64 (k : Int))) none none = some v2 ∧ Sl E M v2 (xs.drop k) ∧ (∀ d ∈ blkOf v1, d ∈ blkOf v) ∧ ∀ d ∈ blkOf v2, d ∈ blkOf v := by
  have hs := ho.slR
  generalize hcs : E.row xs = cs at *
  have ho' : Own M base T E.size v cs xs.length := by rw [← hcs]; exact ho
  have hl : cs.length = xs.length * E.size := by rw [← hcs, Enc.row_len]
  have hd : E.row (xs.drop k) = cs.drop (k * E.size) := by rw [← hcs, ← E.row_drop]
  have ht : E.row (xs.take k) = cs.take (k * E.size) := by rw [← hcs, ← E.row_take]
  have g1 : ∀ v', Sl E M v' (xs.take k) ↔ SlR M E.size v' (cs.take (k * E.size)) k := fun v' => by simp only [Sl]; rw [ht, List.length_take, Nat.min_eq_left hk]
  have g2 : ∀ v', Sl E M v' (xs.drop k) ↔ SlR M E.size v' (cs.drop (k * E.size)) (xs.length - k) := fun v' => by simp only [Sl]; rw [hd, List.length_drop]
  generalize hn : xs.length = n at *
  cases ho' with
  | nil =>
    have : k = 0 := by omega
    subst this
    exact ⟨nilS, nilS, by simp [subS, bnd], (g1 _).2 (by simp; exact .nil), by simp [subS, bnd], (g2 _).2 (by simp; exact .nil), by simp, by simp⟩
  | ex0 b o h1 h2 h3 =>
    have : k = 0 := by omega
    subst this
    have e0 : SlR M E.size (.slc b o 0 (.ex 0)) [] 0 := hs
    exact ⟨.slc b o 0 (.ex 0), .slc b o 0 (.ex 0), by simp [subS, bnd], (g1 _).2 (by simpa using e0), by simp [subS, bnd], (g2 _).2 (by simpa using e0), by simp [blkOf], by simp [blkOf]⟩
  | op b n cs h1 h2 h3 h4 =>
    have hload : ∀ o m, o + m ≤ cs.length → M.loads b o m = some ((cs.drop o).take m) := fun o m h => RM.loads_row h3 h
    have hmul : k * E.size ≤ n * E.size := Nat.mul_le_mul_right _ hk
    by_cases hn0 : n = 0
    · have hk0 : k = 0 := by omega
      subst hk0 hn0
      have hc0 : cs = [] := List.length_eq_zero_iff.1 (by simpa using h4)
      subst hc0
      exact ⟨.emp b, .emp b, by simp [subS, bnd], (g1 _).2 (by simp; exact .emp b), by simp [subS, bnd], (g2 _).2 (by simp; exact .emp b), by simp [blkOf], by simp [blkOf]⟩
    · have p1 : SlR M E.size (.slc b (0 + 0 * E.size) (k - 0) (.op E.size)) (cs.take (k * E.size)) k := by
        rw [Nat.sub_zero, Nat.zero_mul]
        refine .slc _ _ _ _ _ h2 ?_
        have := hload 0 (k * E.size) (by omega)
        simpa using this
      by_cases hkn : n ≤ k
      · refine ⟨.slc b (0 + 0 * E.size) (k - 0) (.op E.size), .emp b, by simp only [subS, bnd]; simp [hk, hn0], (g1 _).2 p1, by simp only [subS, bnd]; simp [hk, hkn], (g2 _).2 ?_, by simp [blkOf], by simp [blkOf]⟩
        have : k = n := by omega
        subst this
        rw [Nat.sub_self, List.drop_of_length_le (by omega)]
        exact .emp b
      · refine ⟨.slc b (0 + 0 * E.size) (k - 0) (.op E.size), .slc b (0 + k * E.size) (n - k) (.op E.size), by simp only [subS, bnd]; simp [hk, hn0], (g1 _).2 p1, by simp only [subS, bnd]; simp [hk, hkn], (g2 _).2 ?_, by simp [blkOf], by simp [blkOf]⟩
        refine .slc _ _ _ _ _ h2 ?_
        have hs2 : k * E.size + (n - k) * E.size = n * E.size := by rw [← Nat.add_mul]; congr 1; omega
        rw [Nat.zero_add, hload (k * E.size) ((n - k) * E.size) (by omega), List.take_of_length_le (by simp; omega)]
end
end Go.Ab.Dot
set_option maxRecDepth 10000
set_option linter.unusedVariables false
set_option linter.unusedSimpArgs false
namespace Go.Ab.Dot
open Go Go.Ab
theorem empty_wf : ∀ p ∈ emptyS, WfP p := fun p hp => by
  simp only [emptyS, List.mem_replicate] at hp
  rw [hp.2]
  exact ⟨.nil, fun x hx => by simp at hx, Nat.zero_le _, fun x hx => by simp at hx, Nat.zero_le _⟩
theorem getD_wf {ps : List Pt} (h : ∀ p ∈ ps, WfP p) (i : Nat) : WfP (ps.getD i (0, [])) := by
  rw [List.getD_eq_getElem?_getD]
  by_cases hj : i < ps.length
  · rw [List.getElem?_eq_getElem hj]
    exact h _ (List.getElem_mem hj)
  · rw [List.getElem?_eq_none (by omega)]
    exact ⟨.nil, fun x hx => by simp at hx, Nat.zero_le _, fun x hx => by simp at hx, Nat.zero_le _⟩
theorem addS_wf {ps : List Pt} {d : Dot} (h : ∀ p ∈ ps, WfP p) : ∀ p ∈ (addS ps d).2, WfP p := by
  unfold addS
  split
  · rename_i hg
    split
    · intro p hp
      rcases List.mem_or_eq_of_mem_set hp with hp | rfl
      · exact h p hp
      · refine addP_wf (getD_wf h _) ?_
        simp only [good, Bool.and_eq_true, decide_eq_true_eq] at hg
        exact hg.2
    · exact h
  · exact h
theorem Own.op_pos {M : RM} {base el size n : Nat} {v : AV} {cs : List AV} (h : Own M base el size v cs n) (hn : 0 < n) : ∃ b, v = .slc b 0 n (.op size) ∧ base ≤ b ∧ b < M.next ∧ M.heap b = some (.row cs true el 0) ∧ cs.length = n * size := by
  cases h with
  | nil => omega
  | ex0 => omega
  | op b n cs h1 h2 h3 h4 => exact ⟨b, rfl, h1, h2, h3, h4⟩
end Go.Ab.Dot
set_option maxRecDepth 10000
set_option linter.unusedVariables false
set_option linter.unusedSimpArgs false
namespace Go.Ab.Dot
open Go Go.Ab
theorem insL_end (x : Nat) (xs : List Nat) : insL xs.length x xs = xs ++ [x] := by simp [insL]
theorem insert_end {M : RM} {v : AV} {bx n0 T x ex : Nat} {xs : List Nat} {co cr : CallT} {Q : PostV} (ho : Ow U64 M n0 T v xs) (hn : n0 ≤ M.next) (hl : xs.length ≤ 100000) (hx : M.heap bx = some (.row [N .u64 (x : Int)] false ex 0)) (hxl : bx < M.next)
    (hQ : ∀ v' M', Sl U64 M' v' (insL xs.length x xs) → capOk v' → (∀ c ∈ blkOf v', n0 ≤ c) → Keep (blkOf v) M M' → Q v' M') : W_Insert_uint64 T co cr v (N .i64 (xs.length : Int)) (.slc bx 0 1 (.ex 1)) M Q := by
  unfold W_Insert_uint64
  obtain ⟨v1, v2, e1, s1, e2, s2, hb1, hb2⟩ := own_cut (E := U64) (k := xs.length) (by decide) ho (Nat.le_refl _)
  have e2 : subS 1 v (some (N .i64 (xs.length : Int))) none none = some v2 := e2
  have hs : Sl U64 M v xs := ho.slR
  rw [e2, getW_some, lenW_slc, intW_eql, show ((((1 : Nat) : Int)) == 0) = false from rfl, condF, SlR.len hs, intW_eql, show ((xs.length : Int) == (xs.length : Int)) = true by simp, condT]
  have sx : Sl U64 M (.slc bx 0 1 (.ex 1)) [x] := .slc _ _ _ _ _ hxl (by rw [RM.loads_row hx (by show 0 + 1 * 1 ≤ 1; omega)]; rfl)
  refine app_all (E := U64) (ys := [x]) ho hn (Nat.le_refl _) sx (by simp; omega) (by simp; omega) ?_
  intro v' M' o k _ _
  refine hQ v' M' ?_ (Own.capOk o) (fun c hc => (o.blk c hc).1) k
  rw [insL_end]
  exact o.slR
end Go.Ab.Dot
set_option maxRecDepth 10000
set_option linter.unusedVariables false
set_option linter.unusedSimpArgs false
namespace Go.Ab.Dot
open Go Go.Ab
def withinP (p q : Pt) : Bool := decide (p.1 ≤ q.1) && p.2.all (hasP q)
def withinS (ps qs : List Pt) : Bool := (List.range 16).all fun i => withinP (ps.getD i (0, [])) (qs.getD i (0, []))
theorem withinS_iff {ps qs : List Pt} : withinS ps qs = true ↔ ∀ i, i < 16 → withinP (ps.getD i (0, [])) (qs.getD i (0, [])) = true := by
  unfold withinS
  rw [List.all_eq_true]
  exact ⟨fun h i hi => h i (List.mem_range.2 hi), fun h i hi => h i (List.mem_range.1 hi)⟩
def WithinC (T : Nat) (c : CallT) : Prop := ∀ {M : RM} {a b : Nat} {ps qs : List Pt} {S S' : Nat → Prop} {Q : PostV}, SetH T S M a ps → SetH T S' M b qs → (∀ p ∈ ps, p.2.length ≤ 1000000) → (∀ q ∈ qs, Asc q.2 ∧ q.2.length ≤ 1000000) →
  (∀ M', Keep [] M M' → Q (Bo (withinS ps qs)) M') → c [.ptr a 0, .ptr b 0] M Q
theorem within_spec {TS T : Nat} {ch : CallT} (hh : HasPC ch) : WithinC TS fun args M Q => ∃ a0 a1, args = [a0, a1] ∧ W_Set_Within T ch a0 a1 M Q := by
  intro M a b ps qs S S' Q h h' hpl hql hQ
  refine ⟨_, _, rfl, ?_⟩
  unfold W_Set_Within
  obtain ⟨l, ha, hl32, hrow⟩ := h.row
  obtain ⟨l', hb, hl32', hrow'⟩ := h'.row
  rw [ptrW_ptr, fld0, loadN_at (n := 32) ha hl32]
  refine loopW_ind (fun m ys M3 => ∃ (i : Nat), m = 16 - i ∧ ys = [N .i64 (i : Int)] ∧ i ≤ 16 ∧ Keep [] M M3 ∧ ∀ j, j < i → withinP (ps.getD j (0, [])) (qs.getD j (0, [])) = true) _
    ⟨0, rfl, rfl, Nat.zero_le _, Keep.refl _ _, fun j hj => by omega⟩ ?_
  rintro next m ys M3 hnext ⟨i, rfl, rfl, hi, hK, hset⟩
  dsimp only [nthD]
  rw [intW_lss]
  refine condB (fun hlt => ?_) (fun hge => ?_)
  · have hlt : i < 16 := by
      have : (i : Int) < 16 := of_decide_eq_true hlt
      omega
    have hil : i < ps.length := by rw [h.len]; exact hlt
    have hil' : i < qs.length := by rw [h'.len]; exact hlt
    obtain ⟨w, a1, a2, a3, a4, a5⟩ := hrow i hil
    obtain ⟨w', b1, b2, b3, b4, b5⟩ := hrow' i hil'
    have hpD : ps.getD i (0, []) = ps[i] := by rw [List.getD_eq_getElem?_getD, List.getElem?_eq_getElem hil]; rfl
    have hqD : qs.getD i (0, []) = qs[i] := by rw [List.getD_eq_getElem?_getD, List.getElem?_eq_getElem hil']; rfl
    have hcut : (l.drop (2 * i)).take 2 = [N .u64 (ps[i].1 : Int), w] := by
      obtain ⟨q1, q2⟩ := List.getElem?_eq_some_iff.1 a1
      obtain ⟨r1, r2⟩ := List.getElem?_eq_some_iff.1 a2
      rw [List.drop_eq_getElem_cons q1, List.drop_eq_getElem_cons r1, q2, r2]; rfl
    rw [idxPN_agg]
    refine ⟨by omega, by omega, by simp only [Int.toNat_natCast]; omega, ?_⟩
    rw [Int.toNat_natCast, Nat.mul_comm i 2, hcut, newW_eq]
    have hw1 := SlR.one a3
    rw [storeW_all (n := 2) (x := .agg [N .u64 (ps[i].1 : Int), w]) (l := [N .u64 0, .sc (.slice none 0 0)]) (RM.push_new _) rfl rfl (by simp [AV.cells, hw1]; rfl)]
    have kk : Keep [] M3 ((M3.push (.row [N .u64 0, .sc (.slice none 0 0)] false T 0)).put M3.next (.row (AV.agg [N .u64 (ps[i].1 : Int), w]).cells false T 0)) := ((Keep.refl _ _).push _).new _ (Nat.le_refl _)
    have hh' : ((M3.push (.row [N .u64 0, .sc (.slice none 0 0)] false T 0)).put M3.next (.row (AV.agg [N .u64 (ps[i].1 : Int), w]).cells false T 0)).heap M3.next = some (.row [N .u64 (ps[i].1 : Int), w] false T 0) := heap_put_eq _
    generalize (M3.push (.row [N .u64 0, .sc (.slice none 0 0)] false T 0)).put M3.next (.row (AV.agg [N .u64 (ps[i].1 : Int), w]).cells false T 0) = M4 at *
    have k4 := hK.trans kk
    have s4 : Sl U64 M4 w ps[i].2 := SlR.keep a3 k4 (by simp)
    have t4 : Sl U64 M4 w' qs[i].2 := SlR.keep b3 k4 (by simp)
    have hb4 := k4.heap_of hb h'.lt (by simp)
    have hxl := hpl _ (List.getElem_mem hil)
    obtain ⟨hqa, hqn⟩ := hql _ (List.getElem_mem hil')
    rw [ptrW_ptr, fld0, idxA_ptr]
    refine ⟨by omega, by omega, ?_⟩
    rw [Int.toNat_natCast, Nat.zero_add, Nat.mul_comm i 2, fld0, load1_at hh' rfl, ptrW_ptr, fldW_ptr, Nat.add_zero, load1_at hb4 b1, intW_gtr]
    have fail : ∀ M5, Keep [] M4 M5 → withinP ps[i] qs[i] = false → Q (Bo false) M5 := fun M5 k5 hf => by
      have : withinS ps qs = false := by
        rw [Bool.eq_false_iff]
        intro hall
        have := withinS_iff.1 hall i hlt
        rw [hpD, hqD, hf] at this
        cases this
      rw [← this]
      exact hQ M5 (k4.trans k5)
    refine condB (fun hg => fail M4 (Keep.refl _ _) ?_) (fun hg => ?_)
    · have : ((ps[i].1 : Nat) : Int) > ((qs[i].1 : Nat) : Int) := of_decide_eq_true hg
      unfold withinP
      rw [show decide (ps[i].1 ≤ qs[i].1) = false by simp; omega, Bool.false_and]
    · have hle : ps[i].1 ≤ qs[i].1 := by
        have : ¬ ((ps[i].1 : Nat) : Int) > ((qs[i].1 : Nat) : Int) := of_decide_eq_false hg
        omega
      rw [fld0, load1_at hh' rfl, SlR.len s4]
      refine loopW_ind (fun m ys M5 => ∃ (j : Nat), m = ps[i].2.length - j ∧ ys = [N .i64 (j : Int)] ∧ j ≤ ps[i].2.length ∧ M5 = M4 ∧ ps[i].2.all (hasP qs[i]) = (ps[i].2.drop j).all (hasP qs[i])) _
        ⟨0, rfl, rfl, Nat.zero_le _, rfl, rfl⟩ ?_
      rintro next2 m ys M5 hnext2 ⟨j, rfl, rfl, hj, rfl, hall⟩
      dsimp only [nthD]
      rw [intW_lss]
      refine condB (fun hlt2 => ?_) (fun hge2 => ?_)
      · have hlt2 : j < ps[i].2.length := by simpa using hlt2
        obtain ⟨b9, o9, _, _, hidx, hc⟩ := Sl.at1 (E := U64) s4 (j : Int) hlt2
        rw [List.drop_eq_getElem_cons hlt2, List.all_cons] at hall
        rw [hidx, load1_ptr]
        refine ⟨_, hc _ rfl, ?_⟩
        refine hh hb4 b1 b2 t4 hqa hqn ?_
        rw [notW_Bo]
        cases hhas : hasP (qs[i].1, qs[i].2) ps[i].2[j] with
        | false =>
          have hhas : hasP qs[i] ps[i].2[j] = false := hhas
          rw [Bool.not_false, condT]
          refine fail M5 (Keep.refl _ _) ?_
          unfold withinP
          rw [hall, hhas, Bool.false_and, Bool.and_false]
        | true =>
          have hhas : hasP qs[i] ps[i].2[j] = true := hhas
          rw [Bool.not_true, condF, intW_add, i64_succ (by omega)]
          refine hnext2 _ _ _ (by omega) ⟨j + 1, rfl, rfl, by omega, rfl, ?_⟩
          rw [hall, hhas, Bool.true_and]
      · have he : j = ps[i].2.length := by simp at hge2; omega
        subst he
        rw [List.drop_length, List.all_nil] at hall
        rw [intW_add, i64_succ (by omega)]
        refine hnext _ _ _ (by omega) ⟨i + 1, rfl, rfl, by omega, k4, fun j hj => ?_⟩
        rcases Nat.lt_or_ge j i with h | h
        · exact hset j h
        · have : j = i := by omega
          subst this
          rw [hpD, hqD]
          unfold withinP
          rw [hall, Bool.and_true]
          simpa using hle
  · have he : i = 16 := by
      have : ¬ (i : Int) < 16 := of_decide_eq_false hge
      omega
    subst he
    have : withinS ps qs = true := withinS_iff.2 hset
    rw [← this]
    exact hQ M3 hK
def hasS (ps : List Pt) (d : Dot) : Bool := good d && hasP (ps.getD d.1.toNat (0, [])) d.2
def HasSC (T : Nat) (c : CallT) : Prop := ∀ {M : RM} {b : Nat} {ps : List Pt} {d : Dot} {S : Nat → Prop} {Q : PostV}, SetH T S M b ps → (∀ q ∈ ps, Asc q.2 ∧ q.2.length ≤ 1000000) →
  (∀ M', Keep [] M M' → Q (Bo (hasS ps d)) M') → c [.ptr b 0, .agg (dcells d)] M Q
theorem hasS_spec {TS T : Nat} {cg ch : CallT} (hg : GoodC cg) (hh : HasPC ch) : HasSC TS fun args M Q => ∃ a0 a1, args = [a0, a1] ∧ W_Set_Has T cg ch a0 a1 M Q := by
  intro M b ps d S Q h hql hQ
  refine ⟨_, _, rfl, ?_⟩
  unfold W_Set_Has
  simp only [fuseK, fuseKM]
  rw [boxW_agg rfl (by simp), newW_eq, loadN_at (n := 2) (RM.push_new _) rfl]
  have k1 : Keep [] M (M.push (.row (dcells d) false T 0)) := (Keep.refl _ _).push _
  have h3 : (M.push (.row (dcells d) false T 0)).heap M.next = some (.row (dcells d) false T 0) := RM.push_new _
  have n1 : (M.push (.row (dcells d) false T 0)).next = M.next + 1 := rfl
  generalize M.push (.row (dcells d) false T 0) = M1 at *
  refine hg fun M2 k2 => ?_
  have kk := k1.trans k2
  have h3 := k2.heap_of h3 (by omega) (by simp)
  have hQ := hQ M2 kk
  unfold hasS at hQ
  cases hgd : good d with
  | false =>
    rw [guardM_FT]
    dsimp only
    rw [pickF]
    rw [hgd, Bool.false_and] at hQ
    exact hQ
  | true =>
    rw [hgd, Bool.true_and] at hQ
    simp [good] at hgd
    obtain ⟨i, hi⟩ : ∃ i : Nat, d.1 = (i : Int) := ⟨d.1.toNat, by omega⟩
    have hi16 : i < 16 := by omega
    have s2 := h.keep kk (by simp) (by simp)
    have hil : i < ps.length := by rw [h.len]; exact hi16
    have hpD : ps.getD d.1.toNat (0, []) = ps[i] := by rw [hi, Int.toNat_natCast, List.getD_eq_getElem?_getD, List.getElem?_eq_getElem hil]; rfl
    rw [hpD] at hQ
    obtain ⟨l, hb, hl32, hrow⟩ := s2.row
    obtain ⟨v, a1, a2, a3, a4, a5⟩ := hrow i hil
    obtain ⟨hqa, hqn⟩ := hql _ (List.getElem_mem hil)
    rw [guardM_TT]
    dsimp only
    rw [fld0, load1_at h3 rfl, ptrW_ptr, fld0, hi, idxA_ptr]
    refine ⟨by omega, by omega, ?_⟩
    rw [fld0, load1_at h3 rfl, Int.toNat_natCast, Nat.zero_add, Nat.mul_comm i 2]
    refine hh hb a1 a2 a3 hqa hqn ?_
    rw [pickT]
    exact hQ
end Go.Ab.Dot
set_option maxRecDepth 10000
set_option linter.unusedVariables false
set_option linter.unusedSimpArgs false
namespace Go.Ab.Dot
open Go Go.Ab
abbrev lN : Nat → Nat → Bool := fun x y => decide (x < y)
def PM (M : RM) (b T : Nat) (d : Array Nat) : RM := M.put b (.row (U64.row d.toList) true T 0)
abbrev vv (b n : Nat) : AV := .slc b 0 n (.op 1)
section
variable {M : RM} {b T n i j : Nat} {d : Array Nat} {K : AV → Prop}
theorem PM.heap : (PM M b T d).heap b = some (.row (U64.row d.toList) true T 0) := RM.put_same _ _
theorem PM.cellsLen : (U64.row d.toList).length = d.size := by rw [Enc.row_len]; simp [U64]
theorem get_bang (hi : i < d.size) : d[i]! = d[i] := getElem!_pos d i hi
theorem PM.cellAt (hi : i < d.size) : (U64.row d.toList)[i]? = some (N .u64 ((d[i]! : Nat) : Int)) := by
  rw [U64_row, List.getElem?_map, Array.getElem?_toList, get_bang hi, Array.getElem?_eq_getElem hi]; rfl
theorem PM.idx {kd : IntKind} (hi : i < n) : idxS (vv b n) (N kd (i : Int)) 1 K = K (.ptr b i) := by
  rw [idxS_slc]
  simp only [Int.toNat_natCast]
  rw [show 0 + i * 1 = i by omega]
  exact propext ⟨fun h => h.2.2, fun h => ⟨by omega, by omega, h⟩⟩
theorem PM.rd {kd : IntKind} (hn : n = d.size) (hi : i < d.size) : (idxS (vv b n) (N kd (i : Int)) 1 fun p => load1 (PM M b T d) p K) = K (N .u64 ((d[i]! : Nat) : Int)) := by
  rw [PM.idx (by omega), load1_at PM.heap (PM.cellAt hi)]
theorem PM.put {x : Nat} (hi : i < d.size) {K : RM → Prop} : storeW (PM M b T d) (.ptr b i) (N .u64 (x : Int)) 1 K = K (PM M b T (d.setIfInBounds i x)) := by
  rw [storeW_at PM.heap (by rw [PM.cellsLen]; exact hi) rfl rfl]
  congr 1
  have e : (U64.row d.toList).set i (N .u64 (x : Int)) = U64.row (d.setIfInBounds i x).toList := by rw [U64_row, U64_row, Array.toList_setIfInBounds, List.map_set]
  rw [e, PM, PM]
  unfold RM.put
  congr 1
  funext c
  by_cases h : c = b <;> simp [h]
theorem PM.swap {k1 k2 : IntKind} (hn : n = d.size) (hi : i < d.size) (hj : j < d.size) {K : RM → Prop} :
    (idxS (vv b n) (N k1 (i : Int)) 1 fun p => storeW (PM M b T d) p (N .u64 ((d[j]! : Nat) : Int)) 1 fun M1 => idxS (vv b n) (N k2 (j : Int)) 1 fun q => storeW M1 q (N .u64 ((d[i]! : Nat) : Int)) 1 K) = K (PM M b T (Sort.swp d i j)) := by
  rw [PM.idx (by omega), PM.put hi, PM.idx (by omega), PM.put (by simpa using hj)]
  rfl
theorem swp_sz (d : Array Nat) (i j : Nat) : (Sort.swp d i j).size = d.size := by simp [Sort.swp]
theorem PM.push {x : RB} (h : b < M.next) : (PM M b T d).push x = PM (M.push x) b T d := by
  unfold PM RM.push RM.put
  congr 1
  funext c
  simp only
  by_cases h1 : c = M.next <;> by_cases h2 : c = b <;> simp [h1, h2] <;> omega
theorem PM.putNe {x : RB} {c : Nat} (h : c ≠ b) : (PM M b T d).put c x = PM (M.put c x) b T d := by
  unfold PM RM.put
  congr 1
  funext e
  simp only
  by_cases h1 : e = c <;> by_cases h2 : e = b <;> simp [h1, h2] <;> omega
theorem PM.heapNe {c : Nat} (h : c ≠ b) : (PM M b T d).heap c = M.heap c := by
  unfold PM RM.put; simp [h]
theorem addN (h : i + j < 4611686018427387904) : intW .add (N .i64 (i : Int)) (N .i64 (j : Int)) K = K (N .i64 ((i + j : Nat) : Int)) := by
  rw [intW_add, wrap_i64_id (by omega) (by omega), Int.natCast_add]
theorem add1 (h : i < 4611686018427387904) : intW .add (N .i64 (i : Int)) (N .i64 1) K = K (N .i64 ((i + 1 : Nat) : Int)) := by
  rw [intW_add, i64_succ (by omega)]
theorem subN (h : j ≤ i) (hb : i < 4611686018427387904) : intW .sub (N .i64 (i : Int)) (N .i64 (j : Int)) K = K (N .i64 ((i - j : Nat) : Int)) := by
  rw [intW_sub, wrap_i64_id (by omega) (by omega), show (i : Int) - (j : Int) = ((i - j : Nat) : Int) by omega]
theorem sub1 (h : 1 ≤ i) (hb : i < 4611686018427387904) : intW .sub (N .i64 (i : Int)) (N .i64 1) K = K (N .i64 ((i - 1 : Nat) : Int)) := subN h hb
theorem mul2 (hb : i < 1152921504606846976) : intW .mul (N .i64 2) (N .i64 (i : Int)) K = K (N .i64 ((2 * i : Nat) : Int)) := by
  rw [intW_mul, wrap_i64_id (by omega) (by omega), show (2 : Int) * (i : Int) = ((2 * i : Nat) : Int) by omega]
theorem lssN : intW .lss (N .i64 (i : Int)) (N .i64 (j : Int)) K = K (Bo (decide (i < j))) := by rw [intW_lss, show decide ((i : Int) < (j : Int)) = decide (i < j) by simp]
theorem gtrN : intW .gtr (N .i64 (i : Int)) (N .i64 (j : Int)) K = K (Bo (decide (i > j))) := by rw [intW_gtr, show decide ((i : Int) > (j : Int)) = decide (i > j) by simp]
theorem leqN : intW .leq (N .i64 (i : Int)) (N .i64 (j : Int)) K = K (Bo (decide (i ≤ j))) := by rw [intW_leq, show decide ((i : Int) ≤ (j : Int)) = decide (i ≤ j) by simp]
theorem geqN : intW .geq (N .i64 (i : Int)) (N .i64 (j : Int)) K = K (Bo (decide (i ≥ j))) := by rw [intW_geq, show decide ((i : Int) ≥ (j : Int)) = decide (i ≥ j) by simp]
theorem eqlN : intW .eql (N .i64 (i : Int)) (N .i64 (j : Int)) K = K (Bo (decide (i = j))) := by
  rw [intW_eql, show ((i : Int) == (j : Int)) = decide (i = j) by by_cases h : i = j <;> simp [h]; omega]
end
def SortW (T : Nat) (f : Array Nat → Nat → Nat → Array Nat) (P : Array Nat → Nat → Nat → Prop) (c : CallT) : Prop := ∀ {M : RM} {b a e : Nat} {d : Array Nat} {Q : PostV}, b < M.next → d.size ≤ 1000000 → a ≤ e → e ≤ d.size → P d a e → Q (.tup []) (PM M b T (f d a e)) →
  c [vv b d.size, N .i64 (a : Int), N .i64 (e : Int)] (PM M b T d) Q
theorem insInner_sz (a : Nat) : ∀ (j : Nat) (d : Array Nat), (Sort.insInner lN a j d).size = d.size
  | 0, d => rfl
  | j + 1, d => by
    rw [Sort.insInner]
    split
    · rw [insInner_sz a j, swp_sz]
    · rfl
theorem insS_spec {T : Nat} {cl : CallT} (hl : LessC cl) : SortW T (Sort.insertionSort lN) (fun _ _ _ => True) fun args M Q => ∃ a0 a1 a2, args = [a0, a1, a2] ∧ W_insertionSortOrdered_uint64 cl a0 a1 a2 M Q := by
  intro M b a e d Q hb hsz hae he _ hQ
  refine ⟨_, _, _, rfl, ?_⟩
  unfold W_insertionSortOrdered_uint64
  simp only [fuseK, fuseKM, fuseMK]
  rw [add1 (by omega)]
  rw [Sort.insertionSort] at hQ
  obtain ⟨R, hR⟩ : ∃ R, R = Sort.insOuter lN a e (a + 1) d := ⟨_, rfl⟩
  rw [← hR] at hQ
  refine loopW_ind (fun m ys M3 => ∃ (i : Nat) (d3 : Array Nat), m = d.size - i ∧ ys = [N .i64 (i : Int)] ∧ i ≤ d.size + 1 ∧ M3 = PM M b T d3 ∧ d3.size = d.size ∧ R = Sort.insOuter lN a e i d3) _ ⟨a + 1, d, rfl, rfl, by omega, rfl, rfl, hR⟩ ?_
  rintro next m ys M3 hnext ⟨i, d3, rfl, rfl, hi, rfl, hs3, hm⟩
  dsimp only [nthD]
  rw [lssN]
  refine condB (fun hlt => ?_) (fun hge => ?_)
  · have hlt : i < e := of_decide_eq_true hlt
    rw [Sort.insOuter, if_pos hlt] at hm
    obtain ⟨R5, hR5⟩ : ∃ R5, R5 = Sort.insInner lN a i d3 := ⟨_, rfl⟩
    rw [← hR5] at hm
    refine loopW_ind (fun m ys M5 => ∃ (j : Nat) (d5 : Array Nat), m = j + 1 ∧ ys = [N .i64 (j : Int)] ∧ j ≤ i ∧ M5 = PM M b T d5 ∧ d5.size = d.size ∧ R5 = Sort.insInner lN a j d5) _ ⟨i, d3, rfl, rfl, Nat.le_refl _, rfl, hs3, hR5⟩ ?_
    rintro next2 m ys M5 hnext2 ⟨j, d5, rfl, rfl, hj, rfl, hs5, hm5⟩
    dsimp only [nthD]
    rw [gtrN]
    have out : Sort.insInner lN a j d5 = d5 → intW .add (N .i64 (i : Int)) (N .i64 1) (fun t14 => next [t14] (PM M b T d5)) := fun h => by
      rw [add1 (by omega)]
      refine hnext _ _ _ (by omega) ⟨i + 1, d5, rfl, rfl, by omega, rfl, hs5, ?_⟩
      rw [hm, hm5, h]
    by_cases hg : j > a
    · obtain ⟨k, rfl⟩ : ∃ k, j = k + 1 := ⟨j - 1, by omega⟩
      rw [decide_eq_true hg, guardM_TT]
      dsimp only
      rw [PM.rd hs5.symm (by omega), sub1 (by omega) (by omega), Nat.add_sub_cancel, PM.rd hs5.symm (by omega)]
      refine hl ?_
      rw [pickT]
      rw [Sort.insInner] at hm5 out
      refine condB (fun h => ?_) (fun h => ?_)
      · rw [if_pos (by simp [hg, h])] at hm5
        rw [sub1 (by omega) (by omega), sub1 (by omega) (by omega), Nat.add_sub_cancel, PM.rd hs5.symm (by omega), PM.rd hs5.symm (by omega), PM.swap hs5.symm (by omega) (by omega), sub1 (by omega) (by omega), Nat.add_sub_cancel]
        exact hnext2 _ _ _ (by omega) ⟨k, _, rfl, rfl, by omega, rfl, by rw [swp_sz]; exact hs5, hm5⟩
      · exact out (by rw [if_neg (by simp [h])])
    · rw [decide_eq_false hg, guardM_FT]
      dsimp only
      rw [pickF, condF]
      refine out ?_
      cases j with
      | zero => rfl
      | succ k => rw [Sort.insInner, if_neg (by simp [hg])]
  · have hge : ¬ i < e := of_decide_eq_false hge
    rw [Sort.insOuter, if_neg hge] at hm
    rw [hm] at hQ
    exact hQ
theorem reverse_spec {T : Nat} : SortW T Sort.reverseRange (fun _ a e => a < e) fun args M Q => ∃ a0 a1 a2, args = [a0, a1, a2] ∧ W_reverseRangeOrdered_uint64 a0 a1 a2 M Q := by
  intro M b a e d Q hb hsz hae he hP hQ
  refine ⟨_, _, _, rfl, ?_⟩
  unfold W_reverseRangeOrdered_uint64
  rw [sub1 (by omega) (by omega)]
  rw [Sort.reverseRange] at hQ
  obtain ⟨R, hR⟩ : ∃ R, R = Sort.reverseLoop a (e - 1) d := ⟨_, rfl⟩
  rw [← hR] at hQ
  refine loopW_ind (fun m ys M3 => ∃ (i j : Nat) (d3 : Array Nat), m = j - i ∧ ys = [N .i64 (i : Int), N .i64 (j : Int)] ∧ j < d.size ∧ i ≤ d.size ∧ M3 = PM M b T d3 ∧ d3.size = d.size ∧ R = Sort.reverseLoop i j d3) _ ⟨a, e - 1, d, rfl, rfl, by omega, by omega, rfl, rfl, hR⟩ ?_
  rintro next m ys M3 hnext ⟨i, j, d3, rfl, rfl, hj, hi, rfl, hs3, hm⟩
  dsimp only [nthD]
  rw [lssN]
  rw [Sort.reverseLoop] at hm
  refine condB (fun hlt => ?_) (fun hge => ?_)
  · have hlt : i < j := of_decide_eq_true hlt
    rw [if_pos hlt] at hm
    rw [PM.rd hs3.symm (by omega), PM.rd hs3.symm (by omega), PM.swap hs3.symm (by omega) (by omega), add1 (by omega), sub1 (by omega) (by omega)]
    exact hnext _ _ _ (by omega) ⟨i + 1, j - 1, _, rfl, rfl, by omega, by omega, rfl, by rw [swp_sz]; exact hs3, hm⟩
  · have hge : ¬ i < j := of_decide_eq_false hge
    rw [if_neg hge] at hm
    rw [hm] at hQ
    exact hQ
def SiftC (T : Nat) (c : CallT) : Prop := ∀ {M : RM} {b lo hi first : Nat} {d : Array Nat} {Q : PostV}, b < M.next → d.size ≤ 1000000 → first + hi ≤ d.size → lo ≤ 1000000 → Q (.tup []) (PM M b T (Sort.siftDown lN hi first lo d)) →
  c [vv b d.size, N .i64 (lo : Int), N .i64 (hi : Int), N .i64 (first : Int)] (PM M b T d) Q
theorem sift_sz (hi first : Nat) : ∀ (k lo : Nat) (d : Array Nat), hi - lo ≤ k → (Sort.siftDown lN hi first lo d).size = d.size
  | 0, lo, d, h => by rw [Sort.siftDown, dif_pos (by omega)]
  | k + 1, lo, d, h => by
    rw [Sort.siftDown]
    split
    · rfl
    · split
      · split
        · rfl
        · split
          · rw [sift_sz hi first k _ _ (by omega), swp_sz]
          · rfl
      · split
        · rfl
        · rw [sift_sz hi first k _ _ (by omega), swp_sz]
theorem sift_spec {T : Nat} {cl : CallT} (hl : LessC cl) : SiftC T fun args M Q => ∃ a0 a1 a2 a3, args = [a0, a1, a2, a3] ∧ W_siftDownOrdered_uint64 cl a0 a1 a2 a3 M Q := by
  intro M b lo hi first d Q hb hsz hfe hlo hQ
  refine ⟨_, _, _, _, rfl, ?_⟩
  unfold W_siftDownOrdered_uint64
  simp only [fuseK, fuseKM, fuseMK, joinW_shut]
  obtain ⟨R, hR⟩ : ∃ R, R = Sort.siftDown lN hi first lo d := ⟨_, rfl⟩
  rw [← hR] at hQ
  refine loopW_ind (fun m ys M3 => ∃ (r : Nat) (d3 : Array Nat), m = 1000000 + hi - r ∧ ys = [N .i64 (r : Int)] ∧ (r ≤ 1000000) ∧ M3 = PM M b T d3 ∧ d3.size = d.size ∧ R = Sort.siftDown lN hi first r d3) _ ⟨lo, d, rfl, rfl, hlo, rfl, rfl, hR⟩ ?_
  rintro next m ys M3 hnext ⟨r, d3, rfl, rfl, hr, rfl, hs3, hm⟩
  dsimp only [nthD]
  rw [mul2 (by omega), add1 (by omega), geqN]
  rw [Sort.siftDown] at hm
  refine condB (fun hg => ?_) (fun hg => ?_)
  · rw [dif_pos (of_decide_eq_true hg)] at hm
    rw [hm] at hQ
    exact hQ
  have hg : ¬ 2 * r + 1 ≥ hi := of_decide_eq_false hg
  rw [dif_neg hg] at hm
  -- the child that is taken
  refine joinV_spec (fun zs M' => ∃ c : Nat, zs = [N .i64 (c : Int)] ∧ M' = PM M b T d3 ∧ r < c ∧ c < hi ∧ R = if !lN d3[first + r]! d3[first + c]! then d3 else Sort.siftDown lN hi first c (Sort.swp d3 (first + r) (first + c))) ?_ ?_
  · rintro zs M' ⟨c, rfl, rfl, hrc, hchi, hm2⟩
    dsimp only [nthD]
    rw [addN (by omega), PM.rd hs3.symm (by omega), addN (by omega), PM.rd hs3.symm (by omega)]
    refine hl ?_
    rw [notW_Bo]
    refine condB (fun h => ?_) (fun h => ?_)
    · rw [if_pos h] at hm2
      rw [hm2] at hQ
      exact hQ
    · rw [if_neg (by simp only [lN, h]; decide)] at hm2
      rw [addN (by omega), addN (by omega), addN (by omega), PM.rd hs3.symm (by omega), addN (by omega), PM.rd hs3.symm (by omega), PM.swap hs3.symm (by omega) (by omega)]
      exact hnext _ _ _ (by omega) ⟨c, _, rfl, rfl, by omega, rfl, by rw [swp_sz]; exact hs3, hm2⟩
  intro J hJ
  rw [add1 (by omega), lssN]
  have one : ¬ (2 * r + 1 + 1 < hi ∧ lN d3[first + (2 * r + 1)]! d3[first + (2 * r + 1) + 1]! = true) → J [N .i64 ((2 * r + 1 : Nat) : Int)] (PM M b T d3) := fun h => by
    refine hJ _ _ ⟨2 * r + 1, rfl, rfl, by omega, by omega, ?_⟩
    rw [if_neg (by simpa using h)] at hm
    exact hm
  by_cases h1 : 2 * r + 1 + 1 < hi
  · rw [decide_eq_true h1, guardM_TT]
    dsimp only
    rw [addN (by omega), PM.rd hs3.symm (by omega), addN (by omega), add1 (by omega), PM.rd hs3.symm (by omega)]
    refine hl ?_
    rw [pickT]
    refine condB (fun h => ?_) (fun h => ?_)
    · rw [add1 (by omega)]
      refine hJ _ _ ⟨2 * r + 2, rfl, rfl, by omega, by omega, ?_⟩
      rw [if_pos (by simp only [lN, h, decide_eq_true h1, Bool.and_self]), dif_pos (by omega)] at hm
      exact hm
    · exact one (fun h' => by have := h'.2; rw [show lN d3[first + (2 * r + 1)]! d3[first + (2 * r + 1) + 1]! = false from h] at this; cases this)
  · rw [decide_eq_false h1, guardM_FT]
    dsimp only
    rw [pickF, condF]
    exact one (fun h => h1 h.1)
theorem build_sz (hi first : Nat) : ∀ (k : Nat) (d : Array Nat), (Sort.heapBuild lN hi first k d).size = d.size
  | 0, d => rfl
  | k + 1, d => by rw [Sort.heapBuild, build_sz hi first k, sift_sz hi first hi _ _ (by omega)]
theorem heap_spec {T : Nat} {cs : CallT} (hs : SiftC T cs) : SortW T (Sort.heapSort lN) (fun _ a e => a < e) fun args M Q => ∃ a0 a1 a2, args = [a0, a1, a2] ∧ W_heapSortOrdered_uint64 cs a0 a1 a2 M Q := by
  intro M b a e d Q hb hsz hae he hP hQ
  refine ⟨_, _, _, rfl, ?_⟩
  unfold W_heapSortOrdered_uint64
  rw [Sort.heapSort] at hQ
  rw [subN hae (by omega), sub1 (by omega) (by omega), intW_quo]
  refine ⟨by decide, ?_⟩
  rw [show (2 : Int) = ((2 : Nat) : Int) from rfl, show ((e - a - 1 : Nat) : Int).tdiv ((2 : Nat) : Int) = (((e - a - 1) / 2 : Nat) : Int) by rw [Int.tdiv_eq_ediv_of_nonneg (by omega)]; rfl, wrap_i64_id (by omega) (by omega)]
  obtain ⟨R, hR⟩ : ∃ R, R = Sort.heapBuild lN (e - a) a ((e - a - 1) / 2 + 1) d := ⟨_, rfl⟩
  rw [← hR] at hQ
  refine loopW_ind (fun m ys M3 => ∃ (k : Nat) (d3 : Array Nat), m = k + 1 ∧ ys = [N .i64 ((k : Int) - 1)] ∧ k ≤ (e - a - 1) / 2 + 1 ∧ M3 = PM M b T d3 ∧ d3.size = d.size ∧ R = Sort.heapBuild lN (e - a) a k d3) _ ⟨(e - a - 1) / 2 + 1, d, rfl, by congr 3; omega, Nat.le_refl _, rfl, rfl, hR⟩ ?_
  rintro next m ys M3 hnext ⟨k, d3, rfl, rfl, hk, rfl, hs3, hm⟩
  dsimp only [nthD]
  rw [intW_geq]
  refine condB (fun hg => ?_) (fun hg => ?_)
  · have hg : 1 ≤ k := by
      have : (k : Int) - 1 ≥ 0 := of_decide_eq_true hg
      omega
    obtain ⟨k', rfl⟩ : ∃ k', k = k' + 1 := ⟨k - 1, by omega⟩
    rw [Sort.heapBuild] at hm
    rw [show ((k' + 1 : Nat) : Int) - 1 = (k' : Int) by omega, ← hs3]
    refine hs hb (by omega) (by omega) (by omega) ?_
    rw [intW_sub, wrap_i64_id (by omega) (by omega)]
    exact hnext _ _ _ (by omega) ⟨k', _, rfl, rfl, by omega, rfl, by rw [sift_sz _ _ (e - a) _ _ (by omega)]; exact hs3, hm⟩
  · have hk0 : k = 0 := by
      have : ¬ (k : Int) - 1 ≥ 0 := of_decide_eq_false hg
      omega
    subst hk0
    rw [Sort.heapBuild] at hm
    rw [hm] at hQ
    rw [sub1 (by omega) (by omega)]
    obtain ⟨R4, hR4⟩ : ∃ R4, R4 = Sort.heapPop lN a (e - a) d3 := ⟨_, rfl⟩
    rw [← hR4] at hQ
    refine loopW_ind (fun m ys M4 => ∃ (k : Nat) (d4 : Array Nat), m = k + 1 ∧ ys = [N .i64 ((k : Int) - 1)] ∧ k ≤ e - a ∧ M4 = PM M b T d4 ∧ d4.size = d.size ∧ R4 = Sort.heapPop lN a k d4) _ ⟨e - a, d3, rfl, by congr 3; omega, Nat.le_refl _, rfl, hs3, hR4⟩ ?_
    rintro next2 m ys M4 hnext2 ⟨k, d4, rfl, rfl, hk, rfl, hs4, hm4⟩
    dsimp only [nthD]
    rw [intW_geq]
    refine condB (fun hg => ?_) (fun hg => ?_)
    · have hg : 1 ≤ k := by
        have : (k : Int) - 1 ≥ 0 := of_decide_eq_true hg
        omega
      obtain ⟨k', rfl⟩ : ∃ k', k = k' + 1 := ⟨k - 1, by omega⟩
      rw [Sort.heapPop] at hm4
      rw [show ((k' + 1 : Nat) : Int) - 1 = (k' : Int) by omega, addN (by omega), addN (by omega), PM.rd hs4.symm (by omega), PM.rd hs4.symm (by omega), PM.swap hs4.symm (by omega) (by omega), show d.size = (Sort.swp d4 a (a + k')).size by rw [swp_sz]; exact hs4.symm]
      refine hs (lo := 0) hb (by rw [swp_sz]; omega) (by rw [swp_sz]; omega) (by decide) ?_
      rw [intW_sub, wrap_i64_id (by omega) (by omega)]
      exact hnext2 _ _ _ (by omega) ⟨k', _, rfl, rfl, by omega, rfl, by rw [sift_sz _ _ k' _ _ (by omega), swp_sz]; exact hs4, hm4⟩
    · have hk0 : k = 0 := by
        have : ¬ (k : Int) - 1 ≥ 0 := of_decide_eq_false hg
        omega
      subst hk0
      rw [Sort.heapPop] at hm4
      rw [hm4] at hQ
      exact hQ
end Go.Ab.Dot
set_option maxRecDepth 10000
set_option linter.unusedVariables false
set_option linter.unusedSimpArgs false
namespace Go.Ab.Dot
open Go Go.Ab
section
variable {body : (List AV → RM → Prop) → List AV → RM → Prop} {p : Nat → Bool} {d : Array Nat} {M : RM}
theorem scanUpW {J i0 : Nat} (h : ∀ (next : List AV → RM → Prop) (i : Nat), i0 ≤ i → i ≤ max (J + 1) i0 → ((decide (i ≤ J) && p d[i]!) = true → next [N .i64 ((i + 1 : Nat) : Int)] M) → ((decide (i ≤ J) && p d[i]!) = false → i = Sort.scanUp p d J i0) → body next [N .i64 (i : Int)] M) :
    loopW body [N .i64 (i0 : Int)] M := by
  obtain ⟨R, hR⟩ : ∃ R, R = Sort.scanUp p d J i0 := ⟨_, rfl⟩
  refine loopW_ind (fun m ys M3 => ∃ (i : Nat), m = J + 1 - i ∧ ys = [N .i64 (i : Int)] ∧ i0 ≤ i ∧ i ≤ max (J + 1) i0 ∧ M3 = M ∧ R = Sort.scanUp p d J i) _ ⟨i0, rfl, rfl, Nat.le_refl _, by omega, rfl, hR⟩ ?_
  rintro next m ys M3 hnext ⟨i, rfl, rfl, h0, hi, rfl, hm⟩
  rw [Sort.scanUp] at hm
  refine h next i h0 hi (fun hc => ?_) (fun hc => ?_)
  · rw [if_pos hc] at hm
    have hij : i ≤ J := by
      rw [Bool.and_eq_true] at hc
      exact of_decide_eq_true hc.1
    exact hnext _ _ _ (by omega) ⟨i + 1, rfl, rfl, by omega, by omega, rfl, hm⟩
  · rw [if_neg (by rw [hc]; decide)] at hm
    rw [← hR]; exact hm.symm
theorem scanDownW {i j0 : Nat} (h1 : 1 ≤ i) (h : ∀ (next : List AV → RM → Prop) (j : Nat), j ≤ j0 → (j = j0 ∨ i ≤ j + 1) → ((decide (i ≤ j) && p d[j]!) = true → next [N .i64 ((j - 1 : Nat) : Int)] M) → ((decide (i ≤ j) && p d[j]!) = false → j = Sort.scanDown p d i j0) → body next [N .i64 (j : Int)] M) :
    loopW body [N .i64 (j0 : Int)] M := by
  obtain ⟨R, hR⟩ : ∃ R, R = Sort.scanDown p d i j0 := ⟨_, rfl⟩
  refine loopW_ind (fun m ys M3 => ∃ (j : Nat), m = j + 1 ∧ ys = [N .i64 (j : Int)] ∧ j ≤ j0 ∧ (j = j0 ∨ i ≤ j + 1) ∧ M3 = M ∧ R = Sort.scanDown p d i j) _ ⟨j0, rfl, rfl, Nat.le_refl _, .inl rfl, rfl, hR⟩ ?_
  rintro next m ys M3 hnext ⟨j, rfl, rfl, h0, hi, rfl, hm⟩
  refine h next j h0 hi (fun hc => ?_) (fun hc => ?_)
  · have hij : i ≤ j := by
      rw [Bool.and_eq_true] at hc
      exact of_decide_eq_true hc.1
    obtain ⟨k, rfl⟩ : ∃ k, j = k + 1 := ⟨j - 1, by omega⟩
    rw [Sort.scanDown, if_pos hc] at hm
    exact hnext _ _ _ (by omega) ⟨k, rfl, rfl, by omega, by omega, rfl, hm⟩
  · rw [← hR]
    cases j with
    | zero => exact hm.symm
    | succ k => rw [Sort.scanDown, if_neg (by rw [hc]; decide)] at hm; exact hm.symm
end
theorem swp_szE {d d' : Array Nat} {i j : Nat} (h : d'.size = d.size) : (Sort.swp d' i j).size = d.size := by rw [swp_sz, h]
def PartEqC (T : Nat) (c : CallT) : Prop := ∀ {M : RM} {b a e pv : Nat} {d : Array Nat} {Q : PostV}, b < M.next → d.size ≤ 1000000 → a ≤ pv → pv < e → e ≤ d.size → Q (N .i64 (((Sort.partitionEqual lN d a e pv).1 : Nat) : Int)) (PM M b T (Sort.partitionEqual lN d a e pv).2) →
  c [vv b d.size, N .i64 (a : Int), N .i64 (e : Int), N .i64 (pv : Int)] (PM M b T d) Q
theorem andM {c p : Bool} {f : PostV → Prop} {M : RM} {G : AV → RM → Prop} (hf : c = true → ∀ k : PostV, k (Bo p) M → f k) (hG : G (Bo (c && p)) M) :
    guardM (Bo c) true f (fun k => k .undef M) (fun t M' => pickW (Bo c) t (Bo false) fun u => G u M') := by
  cases c with
  | false => rw [guardM_FT]; dsimp only; rw [pickF]; exact hG
  | true => rw [guardM_TT]; exact hf rfl _ (by rw [pickT]; exact hG)
theorem andK {c p : Bool} {f : KR → Prop} {M : RM} {G : AV → RM → Prop} (hf : c = true → ∀ k : KR, k (Bo p) M none → f k) (hG : G (Bo (c && p)) M) :
    guardK (Bo c) true f (fun k => k .undef M none) (fun t M' b => pickW (Bo c) t (Bo false) fun u => G u M') := by
  cases c with
  | false => rw [guardK_FT]; dsimp only; rw [pickF]; exact hG
  | true => rw [guardK_TT]; exact hf rfl _ (by rw [pickT]; exact hG)
theorem partEq_spec {T : Nat} {cl : CallT} (hl : LessC cl) : PartEqC T fun args M Q => ∃ a0 a1 a2 a3, args = [a0, a1, a2, a3] ∧ W_partitionEqualOrdered_uint64 cl a0 a1 a2 a3 M Q := by
  intro M b a e pv d Q hb hsz hap hpe he hQ
  refine ⟨_, _, _, _, rfl, ?_⟩
  unfold W_partitionEqualOrdered_uint64
  simp only [fuseK, fuseKM, fuseMK]
  rw [Sort.partitionEqual] at hQ
  rw [PM.rd rfl (by omega), PM.rd rfl (by omega), PM.swap rfl (by omega) (by omega), add1 (by omega), sub1 (by omega) (by omega)]
  obtain ⟨R, hR⟩ : ∃ R, R = Sort.partEqLoop lN a (a + 1) (e - 1) (Sort.swp d a pv) := ⟨_, rfl⟩
  rw [← hR] at hQ
  refine loopW_ind (fun m ys M3 => ∃ (i j : Nat) (d3 : Array Nat), m = j + 1 - i ∧ ys = [N .i64 (i : Int), N .i64 (j : Int)] ∧ a + 1 ≤ i ∧ i ≤ e + 1 ∧ j < e ∧ M3 = PM M b T d3 ∧ d3.size = d.size ∧ R = Sort.partEqLoop lN a i j d3) _ ⟨a + 1, e - 1, _, rfl, rfl, Nat.le_refl _, by omega, by omega, rfl, swp_sz _ _ _, hR⟩ ?_
  rintro next m ys M3 hnext ⟨i, j, d3, rfl, rfl, hai, hie, hje, rfl, hs3, hm⟩
  dsimp only [nthD]
  rw [Sort.partEqLoop] at hm
  refine scanUpW (p := fun x => !lN d3[a]! x) (d := d3) (J := j) fun next2 i2 h0 h1 hgo hstop => ?_
  dsimp only [nthD]
  rw [leqN]
  refine andK (p := !lN d3[a]! d3[i2]!) (fun hc k hk => ?_) ?_
  · have hc : i2 ≤ j := of_decide_eq_true hc
    rw [PM.rd hs3.symm (by omega), PM.rd hs3.symm (by omega)]
    refine hl ?_
    rw [notW_Bo]
    exact hk
  refine condB (fun h => ?_) (fun h => ?_)
  · rw [add1 (by omega)]
    exact hgo h
  have hi2 := hstop h
  rw [← hi2] at hm
  refine scanDownW (p := fun x => lN d3[a]! x) (d := d3) (i := i2) (by omega) fun next3 j2 q0 q1 hgo3 hstop3 => ?_
  dsimp only [nthD]
  rw [leqN]
  refine andM (p := lN d3[a]! d3[j2]!) (fun hc k hk => ?_) ?_
  · have hc : i2 ≤ j2 := of_decide_eq_true hc
    rw [PM.rd hs3.symm (by omega), PM.rd hs3.symm (by omega)]
    exact hl hk
  refine condB (fun h => ?_) (fun h => ?_)
  · have hc : i2 ≤ j2 := by
      rw [Bool.and_eq_true] at h
      exact of_decide_eq_true h.1
    rw [sub1 (by omega) (by omega)]
    exact hgo3 h
  have hj2 := hstop3 h
  simp only [← hj2] at hm
  rw [gtrN]
  refine condB (fun hg => ?_) (fun hg => ?_)
  · rw [if_pos (of_decide_eq_true hg)] at hm
    rw [hm] at hQ
    exact hQ
  · have hg : ¬ i2 > j2 := of_decide_eq_false hg
    rw [if_neg hg, dif_pos (by omega)] at hm
    rw [PM.rd hs3.symm (by omega), PM.rd hs3.symm (by omega), PM.swap hs3.symm (by omega) (by omega), add1 (by omega), sub1 (by omega) (by omega)]
    exact hnext _ _ _ (by omega) ⟨i2 + 1, j2 - 1, _, rfl, rfl, by omega, by omega, by omega, rfl, swp_szE hs3, hm⟩
def PartC (T : Nat) (c : CallT) : Prop := ∀ {M : RM} {b a e pv : Nat} {d : Array Nat} {Q : PostV}, b < M.next → d.size ≤ 1000000 → a ≤ pv → pv < e → e ≤ d.size → Q (.tup [N .i64 (((Sort.partition lN d a e pv).1 : Nat) : Int), Bo (Sort.partition lN d a e pv).2.1]) (PM M b T (Sort.partition lN d a e pv).2.2) →
  c [vv b d.size, N .i64 (a : Int), N .i64 (e : Int), N .i64 (pv : Int)] (PM M b T d) Q
theorem partition_eq (d : Array Nat) (a e pv : Nat) : Sort.partition lN d a e pv =
    if Sort.scanUp (fun x => lN x (Sort.swp d a pv)[a]!) (Sort.swp d a pv) (e - 1) (a + 1) > Sort.scanDown (fun x => !lN x (Sort.swp d a pv)[a]!) (Sort.swp d a pv) (Sort.scanUp (fun x => lN x (Sort.swp d a pv)[a]!) (Sort.swp d a pv) (e - 1) (a + 1)) (e - 1) then
      (Sort.scanDown (fun x => !lN x (Sort.swp d a pv)[a]!) (Sort.swp d a pv) (Sort.scanUp (fun x => lN x (Sort.swp d a pv)[a]!) (Sort.swp d a pv) (e - 1) (a + 1)) (e - 1), true, Sort.swp (Sort.swp d a pv) (Sort.scanDown (fun x => !lN x (Sort.swp d a pv)[a]!) (Sort.swp d a pv) (Sort.scanUp (fun x => lN x (Sort.swp d a pv)[a]!) (Sort.swp d a pv) (e - 1) (a + 1)) (e - 1)) a)
    else ((Sort.partLoop lN a (Sort.scanUp (fun x => lN x (Sort.swp d a pv)[a]!) (Sort.swp d a pv) (e - 1) (a + 1) + 1) (Sort.scanDown (fun x => !lN x (Sort.swp d a pv)[a]!) (Sort.swp d a pv) (Sort.scanUp (fun x => lN x (Sort.swp d a pv)[a]!) (Sort.swp d a pv) (e - 1) (a + 1)) (e - 1) - 1) (Sort.swp (Sort.swp d a pv) (Sort.scanUp (fun x => lN x (Sort.swp d a pv)[a]!) (Sort.swp d a pv) (e - 1) (a + 1)) (Sort.scanDown (fun x => !lN x (Sort.swp d a pv)[a]!) (Sort.swp d a pv) (Sort.scanUp (fun x => lN x (Sort.swp d a pv)[a]!) (Sort.swp d a pv) (e - 1) (a + 1)) (e - 1)))).1, false,
      Sort.swp (Sort.partLoop lN a (Sort.scanUp (fun x => lN x (Sort.swp d a pv)[a]!) (Sort.swp d a pv) (e - 1) (a + 1) + 1) (Sort.scanDown (fun x => !lN x (Sort.swp d a pv)[a]!) (Sort.swp d a pv) (Sort.scanUp (fun x => lN x (Sort.swp d a pv)[a]!) (Sort.swp d a pv) (e - 1) (a + 1)) (e - 1) - 1) (Sort.swp (Sort.swp d a pv) (Sort.scanUp (fun x => lN x (Sort.swp d a pv)[a]!) (Sort.swp d a pv) (e - 1) (a + 1)) (Sort.scanDown (fun x => !lN x (Sort.swp d a pv)[a]!) (Sort.swp d a pv) (Sort.scanUp (fun x => lN x (Sort.swp d a pv)[a]!) (Sort.swp d a pv) (e - 1) (a + 1)) (e - 1)))).2
        (Sort.partLoop lN a (Sort.scanUp (fun x => lN x (Sort.swp d a pv)[a]!) (Sort.swp d a pv) (e - 1) (a + 1) + 1) (Sort.scanDown (fun x => !lN x (Sort.swp d a pv)[a]!) (Sort.swp d a pv) (Sort.scanUp (fun x => lN x (Sort.swp d a pv)[a]!) (Sort.swp d a pv) (e - 1) (a + 1)) (e - 1) - 1) (Sort.swp (Sort.swp d a pv) (Sort.scanUp (fun x => lN x (Sort.swp d a pv)[a]!) (Sort.swp d a pv) (e - 1) (a + 1)) (Sort.scanDown (fun x => !lN x (Sort.swp d a pv)[a]!) (Sort.swp d a pv) (Sort.scanUp (fun x => lN x (Sort.swp d a pv)[a]!) (Sort.swp d a pv) (e - 1) (a + 1)) (e - 1)))).1 a) := rfl
theorem part_spec {T : Nat} {cl : CallT} (hl : LessC cl) : PartC T fun args M Q => ∃ a0 a1 a2 a3, args = [a0, a1, a2, a3] ∧ W_partitionOrdered_uint64 cl a0 a1 a2 a3 M Q := by
  intro M b a e pv d Q hb hsz hap hpe he hQ
  refine ⟨_, _, _, _, rfl, ?_⟩
  unfold W_partitionOrdered_uint64
  simp only [fuseK, fuseKM, fuseMK]
  have hs2 := swp_sz d a pv
  rw [partition_eq] at hQ
  rw [PM.rd rfl (by omega), PM.rd rfl (by omega), PM.swap rfl (by omega) (by omega), add1 (by omega), sub1 (by omega) (by omega)]
  generalize Sort.swp d a pv = d2 at *
  refine scanUpW (p := fun x => lN x d2[a]!) (d := d2) (J := e - 1) fun next2 i h0 h1 hgo hstop => ?_
  dsimp only [nthD]
  rw [leqN]
  refine andM (p := lN d2[i]! d2[a]!) (fun hc k hk => ?_) ?_
  · have hc : i ≤ e - 1 := of_decide_eq_true hc
    rw [PM.rd hs2.symm (by omega), PM.rd hs2.symm (by omega)]
    exact hl hk
  refine condB (fun h => ?_) (fun h => ?_)
  · rw [add1 (by omega)]
    exact hgo h
  have hi2 := hstop h
  simp only [← hi2] at hQ
  refine scanDownW (p := fun x => !lN x d2[a]!) (d := d2) (i := i) (by omega) fun next3 j q0 q1 hgo3 hstop3 => ?_
  dsimp only [nthD]
  rw [leqN]
  refine andK (p := !lN d2[j]! d2[a]!) (fun hc k hk => ?_) ?_
  · have hc : i ≤ j := of_decide_eq_true hc
    rw [PM.rd hs2.symm (by omega), PM.rd hs2.symm (by omega)]
    refine hl ?_
    rw [notW_Bo]
    exact hk
  refine condB (fun h => ?_) (fun h => ?_)
  · have hc : i ≤ j := by
      rw [Bool.and_eq_true] at h
      exact of_decide_eq_true h.1
    rw [sub1 (by omega) (by omega)]
    exact hgo3 h
  have hj2 := hstop3 h
  simp only [← hj2] at hQ
  rw [gtrN]
  refine condB (fun hg => ?_) (fun hg => ?_)
  · rw [if_pos (of_decide_eq_true hg)] at hQ
    rw [PM.rd hs2.symm (by omega), PM.rd hs2.symm (by omega), PM.swap hs2.symm (by omega) (by omega)]
    exact hQ
  have hg : ¬ i > j := of_decide_eq_false hg
  rw [if_neg hg] at hQ
  rw [PM.rd hs2.symm (by omega), PM.rd hs2.symm (by omega), PM.swap hs2.symm (by omega) (by omega), add1 (by omega), sub1 (by omega) (by omega)]
  obtain ⟨R, hR⟩ : ∃ R, R = Sort.partLoop lN a (i + 1) (j - 1) (Sort.swp d2 i j) := ⟨_, rfl⟩
  simp only [← hR] at hQ
  refine loopW_ind (fun m ys M3 => ∃ (i j : Nat) (d3 : Array Nat), m = j + 1 - i ∧ ys = [N .i64 (i : Int), N .i64 (j : Int)] ∧ a + 1 ≤ i ∧ i ≤ e + 1 ∧ j < e ∧ M3 = PM M b T d3 ∧ d3.size = d.size ∧ R = Sort.partLoop lN a i j d3) _ ⟨i + 1, j - 1, _, rfl, rfl, by omega, by omega, by omega, rfl, swp_szE hs2, hR⟩ ?_
  rintro next m ys M3 hnext ⟨i, j, d3, rfl, rfl, hai, hie, hje, rfl, hs3, hm⟩
  dsimp only [nthD]
  rw [Sort.partLoop] at hm
  refine scanUpW (p := fun x => lN x d3[a]!) (d := d3) (J := j) fun next2 i2 h0 h1 hgo hstop => ?_
  dsimp only [nthD]
  rw [leqN]
  refine andM (p := lN d3[i2]! d3[a]!) (fun hc k hk => ?_) ?_
  · have hc : i2 ≤ j := of_decide_eq_true hc
    rw [PM.rd hs3.symm (by omega), PM.rd hs3.symm (by omega)]
    exact hl hk
  refine condB (fun h => ?_) (fun h => ?_)
  · rw [add1 (by omega)]
    exact hgo h
  have hi2 := hstop h
  rw [← hi2] at hm
  refine scanDownW (p := fun x => !lN x d3[a]!) (d := d3) (i := i2) (by omega) fun next3 j2 q0 q1 hgo3 hstop3 => ?_
  dsimp only [nthD]
  rw [leqN]
  refine andK (p := !lN d3[j2]! d3[a]!) (fun hc k hk => ?_) ?_
  · have hc : i2 ≤ j2 := of_decide_eq_true hc
    rw [PM.rd hs3.symm (by omega), PM.rd hs3.symm (by omega)]
    refine hl ?_
    rw [notW_Bo]
    exact hk
  refine condB (fun h => ?_) (fun h => ?_)
  · have hc : i2 ≤ j2 := by
      rw [Bool.and_eq_true] at h
      exact of_decide_eq_true h.1
    rw [sub1 (by omega) (by omega)]
    exact hgo3 h
  have hj2 := hstop3 h
  simp only [← hj2] at hm
  rw [gtrN]
  refine condB (fun hg => ?_) (fun hg => ?_)
  · rw [if_pos (of_decide_eq_true hg)] at hm
    rw [hm] at hQ
    rw [PM.rd hs3.symm (by omega), PM.rd hs3.symm (by omega), PM.swap hs3.symm (by omega) (by omega)]
    exact hQ
  · have hg : ¬ i2 > j2 := of_decide_eq_false hg
    rw [if_neg hg, dif_pos (by omega)] at hm
    rw [PM.rd hs3.symm (by omega), PM.rd hs3.symm (by omega), PM.swap hs3.symm (by omega) (by omega), add1 (by omega), sub1 (by omega) (by omega)]
    exact hnext _ _ _ (by omega) ⟨i2 + 1, j2 - 1, _, rfl, rfl, by omega, by omega, by omega, rfl, swp_szE hs3, hm⟩
end Go.Ab.Dot
set_option maxRecDepth 10000
set_option linter.unusedVariables false
set_option linter.unusedSimpArgs false
namespace Go.Ab.Dot
open Go Go.Ab
def Up (xs : List Nat) : Prop := ∀ i j (hi : i < xs.length) (hj : j < xs.length), i ≤ j → xs[i] ≤ xs[j]
theorem Asc.up {xs : List Nat} (h : Asc xs) : Up xs := fun i j hi hj hij => by
  rcases Nat.lt_or_ge i j with h1 | h1
  · exact Nat.le_of_lt (h.lt h1 hj)
  · have : i = j := by omega
    subst this; exact Nat.le_refl _
theorem Own.u64 {M : RM} {base T : Nat} {v : AV} {xs : List Nat} (h : Ow U64 M base T v xs) : Sl U64 M v xs := h.slR
theorem quo_nat (a b : Nat) : (a : Int).tdiv (b : Int) = ((a / b : Nat) : Int) := by
  rw [Int.tdiv_eq_ediv_of_nonneg (by omega)]; rfl
end Go.Ab.Dot
set_option maxRecDepth 10000
set_option linter.unusedVariables false
set_option linter.unusedSimpArgs false
namespace Go.Ab.Dot
open Go Go.Ab
def SM (M : RM) (s T k : Nat) : RM := M.put s (.row [N .i64 (k : Int)] false T 0)
theorem SM.put {M : RM} {s T k k' : Nat} : (SM M s T k).put s (.row [N .i64 (k' : Int)] false T 0) = SM M s T k' := by
  unfold SM RM.put
  congr 1
  funext c
  simp only
  by_cases h : c = s <;> simp [h]
theorem SM.new {M : RM} {T : Nat} : M.push (.row [N .i64 0] false T 0) = SM (M.push (.row [N .i64 0] false T 0)) M.next T 0 := by
  unfold SM RM.put RM.push
  congr 1
  funext c
  simp only
  by_cases h : c = M.next <;> simp [h]
def Order2X (T TI : Nat) (c : CallT) : Prop := ∀ {M : RM} {b s k i j : Nat} {d : Array Nat} {Q : PostV}, s ≠ b → i < d.size → j < d.size → k ≤ 1000 →
  Q (.tup [N .i64 (((Sort.order2 lN d i j k).1 : Nat) : Int), N .i64 (((Sort.order2 lN d i j k).2.1 : Nat) : Int)]) (PM (SM M s TI (Sort.order2 lN d i j k).2.2) b T d) → c [vv b d.size, N .i64 (i : Int), N .i64 (j : Int), .ptr s 0] (PM (SM M s TI k) b T d) Q
theorem order2x_spec {T TI : Nat} {cl : CallT} (hl : LessC cl) : Order2X T TI fun args M Q => ∃ a0 a1 a2 a3, args = [a0, a1, a2, a3] ∧ W_order2Ordered_uint64 cl a0 a1 a2 a3 M Q := by
  intro M b s k i j d Q hsb hi hj hk hQ
  refine ⟨_, _, _, _, rfl, ?_⟩
  unfold W_order2Ordered_uint64
  rw [PM.rd rfl (by omega), PM.rd rfl (by omega)]
  refine hl ?_
  unfold Sort.order2 at hQ
  refine condB (fun h => ?_) (fun h => ?_)
  · rw [if_pos (by exact h)] at hQ
    have hh : (PM (SM M s TI k) b T d).heap s = some (.row [N .i64 (k : Int)] false TI 0) := by
      rw [PM.heapNe hsb]; exact RM.put_same _ _
    rw [ptrW_ptr, load1_at hh rfl, add1 (by omega), ptrW_ptr, storeW_at hh (by simp) rfl rfl]
    rw [PM.putNe hsb]
    rw [show ([N .i64 (k : Int)] : List AV).set 0 (N .i64 ((k + 1 : Nat) : Int)) = [N .i64 ((k + 1 : Nat) : Int)] from rfl, SM.put]
    exact hQ
  · rw [if_neg (by rw [show lN d[j]! d[i]! = false from h]; decide)] at hQ
    exact hQ
theorem order2_in (d : Array Nat) (i j k : Nat) : (((Sort.order2 lN d i j k).1 = i ∧ (Sort.order2 lN d i j k).2.1 = j) ∨ ((Sort.order2 lN d i j k).1 = j ∧ (Sort.order2 lN d i j k).2.1 = i)) ∧ k ≤ (Sort.order2 lN d i j k).2.2 ∧ (Sort.order2 lN d i j k).2.2 ≤ k + 1 := by
  unfold Sort.order2
  split <;> simp
def MedianX (T TI : Nat) (c : CallT) : Prop := ∀ {M : RM} {b s k i j h : Nat} {d : Array Nat} {Q : PostV}, s ≠ b → i < d.size → j < d.size → h < d.size → k ≤ 900 →
  Q (N .i64 (((Sort.median lN d i j h k).1 : Nat) : Int)) (PM (SM M s TI (Sort.median lN d i j h k).2) b T d) → c [vv b d.size, N .i64 (i : Int), N .i64 (j : Int), N .i64 (h : Int), .ptr s 0] (PM (SM M s TI k) b T d) Q
theorem medianx_spec {T TI : Nat} {c2 : CallT} (h2 : Order2X T TI c2) : MedianX T TI fun args M Q => ∃ a0 a1 a2 a3 a4, args = [a0, a1, a2, a3, a4] ∧ W_medianOrdered_uint64 c2 a0 a1 a2 a3 a4 M Q := by
  intro M b s k i j h d Q hsb hi hj hh hk hQ
  refine ⟨_, _, _, _, _, rfl, ?_⟩
  unfold W_medianOrdered_uint64
  unfold Sort.median at hQ
  have o1 := order2_in d i j k
  refine h2 hsb hi hj (by omega) ?_
  rw [extW0, extW1]
  dsimp only at hQ
  generalize Sort.order2 lN d i j k = r1 at *
  have o2 := order2_in d r1.2.1 h r1.2.2
  refine h2 hsb (by omega) hh (by omega) ?_
  rw [extW0, extW1]
  generalize Sort.order2 lN d r1.2.1 h r1.2.2 = r2 at *
  refine h2 hsb (by omega) (by omega) (by omega) ?_
  rw [extW0, extW1]
  exact hQ
theorem median_in (d : Array Nat) {i j h k n : Nat} (hi : i < n) (hj : j < n) (hh : h < n) : (Sort.median lN d i j h k).1 < n ∧ (Sort.median lN d i j h k).2 ≤ k + 3 := by
  unfold Sort.median
  dsimp only
  have o1 := order2_in d i j k
  generalize Sort.order2 lN d i j k = r1 at *
  have o2 := order2_in d r1.2.1 h r1.2.2
  generalize Sort.order2 lN d r1.2.1 h r1.2.2 = r2 at *
  have o3 := order2_in d r1.1 r2.1 r2.2.2
  omega
def MedAdjX (T TI : Nat) (c : CallT) : Prop := ∀ {M : RM} {b s k i : Nat} {d : Array Nat} {Q : PostV}, s ≠ b → d.size ≤ 1000000 → 1 ≤ i → i + 1 < d.size → k ≤ 900 →
  Q (N .i64 (((Sort.medianAdjacent lN d i k).1 : Nat) : Int)) (PM (SM M s TI (Sort.medianAdjacent lN d i k).2) b T d) → c [vv b d.size, N .i64 (i : Int), .ptr s 0] (PM (SM M s TI k) b T d) Q
theorem medadjx_spec {T TI : Nat} {cm : CallT} (hm : MedianX T TI cm) : MedAdjX T TI fun args M Q => ∃ a0 a1 a2, args = [a0, a1, a2] ∧ W_medianAdjacentOrdered_uint64 cm a0 a1 a2 M Q := by
  intro M b s k i d Q hsb hsz h1 h2 hk hQ
  refine ⟨_, _, _, rfl, ?_⟩
  unfold W_medianAdjacentOrdered_uint64
  rw [sub1 (by omega) (by omega), add1 (by omega)]
  exact hm hsb (by omega) (by omega) (by omega) hk hQ
def hintV : Sort.Hint → Int
  | .unknown => 0
  | .increasing => 1
  | .decreasing => 2
def ChooseX (T : Nat) (c : CallT) : Prop := ∀ {M : RM} {b a e : Nat} {d : Array Nat} {Q : PostV}, b < M.next → d.size ≤ 1000000 → a < e → e ≤ d.size →
  (∀ M', Keep [] M M' → Q (.tup [N .i64 (((Sort.choosePivot lN d a e).1 : Nat) : Int), N .i64 (hintV (Sort.choosePivot lN d a e).2)]) (PM M' b T d)) → c [vv b d.size, N .i64 (a : Int), N .i64 (e : Int)] (PM M b T d) Q
theorem choosex_spec {T TI : Nat} {ca cm : CallT} (ha : MedAdjX T TI ca) (hm : MedianX T TI cm) : ChooseX T fun args M Q => ∃ a0 a1 a2, args = [a0, a1, a2] ∧ W_choosePivotOrdered_uint64 TI ca cm a0 a1 a2 M Q := by
  intro M b a e d Q hb hsz hae he hQ
  refine ⟨_, _, _, rfl, ?_⟩
  unfold W_choosePivotOrdered_uint64
  simp only [joinW_shut]
  rw [subN (by omega) (by omega), newW_eq, PM.push hb]
  have hnx : (PM M b T d).next = M.next := rfl
  rw [hnx]
  have kk : Keep [] M (M.push (.row [N .i64 0] false TI 0)) := (Keep.refl _ _).push _
  have kS : ∀ k, Keep [] M (SM (M.push (.row [N .i64 0] false TI 0)) M.next TI k) := fun k => kk.new _ (Nat.le_refl _)
  rw [show PM (M.push (.row [N .i64 0] false TI 0)) b T d = PM (SM (M.push (.row [N .i64 0] false TI 0)) M.next TI 0) b T d by rw [← SM.new]]
  generalize M.push (.row [N .i64 0] false TI 0) = M1 at *
  have hsb : M.next ≠ b := by omega
  generalize M.next = s at *
  have hq : ∀ (k : Nat) (c : Int), c = (k : Int) → k ≤ 3 → ∀ (K : AV → Prop), (intW .quo (N .i64 ((e - a : Nat) : Int)) (N .i64 4) fun t18 => intW .mul t18 (N .i64 c) fun t19 => intW .add (N .i64 (a : Int)) t19 K) = K (N .i64 ((a + (e - a) / 4 * k : Nat) : Int)) := fun k c hc hk K => by
    subst hc
    have hb : (e - a) / 4 * k ≤ (e - a) * 3 := Nat.mul_le_mul (Nat.div_le_self _ _) hk
    rw [intW_quo, show (4 : Int) = ((4 : Nat) : Int) from rfl, quo_nat, wrap_i64_id (by omega) (by omega), intW_mul, ← Int.natCast_mul, wrap_i64_id (by omega) (by omega), addN (by omega)]
    exact propext ⟨fun h => h.2, fun h => ⟨by decide, h⟩⟩
  rw [hq 1 1 rfl (by omega), hq 2 2 rfl (by omega), hq 3 3 rfl (by omega)]
  have hcp : Sort.choosePivot lN d a e = ((if e - a ≥ 8 then (if e - a ≥ 50 then Sort.median lN d (Sort.medianAdjacent lN d (a + (e - a) / 4 * 1) 0).1 (Sort.medianAdjacent lN d (a + (e - a) / 4 * 2) (Sort.medianAdjacent lN d (a + (e - a) / 4 * 1) 0).2).1 (Sort.medianAdjacent lN d (a + (e - a) / 4 * 3) (Sort.medianAdjacent lN d (a + (e - a) / 4 * 2) (Sort.medianAdjacent lN d (a + (e - a) / 4 * 1) 0).2).2).1 (Sort.medianAdjacent lN d (a + (e - a) / 4 * 3) (Sort.medianAdjacent lN d (a + (e - a) / 4 * 2) (Sort.medianAdjacent lN d (a + (e - a) / 4 * 1) 0).2).2).2
      else Sort.median lN d (a + (e - a) / 4 * 1) (a + (e - a) / 4 * 2) (a + (e - a) / 4 * 3) 0) else (a + (e - a) / 4 * 2, 0) : Nat × Nat).1,
      if (if e - a ≥ 8 then (if e - a ≥ 50 then Sort.median lN d (Sort.medianAdjacent lN d (a + (e - a) / 4 * 1) 0).1 (Sort.medianAdjacent lN d (a + (e - a) / 4 * 2) (Sort.medianAdjacent lN d (a + (e - a) / 4 * 1) 0).2).1 (Sort.medianAdjacent lN d (a + (e - a) / 4 * 3) (Sort.medianAdjacent lN d (a + (e - a) / 4 * 2) (Sort.medianAdjacent lN d (a + (e - a) / 4 * 1) 0).2).2).1 (Sort.medianAdjacent lN d (a + (e - a) / 4 * 3) (Sort.medianAdjacent lN d (a + (e - a) / 4 * 2) (Sort.medianAdjacent lN d (a + (e - a) / 4 * 1) 0).2).2).2
      else Sort.median lN d (a + (e - a) / 4 * 1) (a + (e - a) / 4 * 2) (a + (e - a) / 4 * 3) 0) else (a + (e - a) / 4 * 2, 0) : Nat × Nat).2 = 0 then .increasing else if (if e - a ≥ 8 then (if e - a ≥ 50 then Sort.median lN d (Sort.medianAdjacent lN d (a + (e - a) / 4 * 1) 0).1 (Sort.medianAdjacent lN d (a + (e - a) / 4 * 2) (Sort.medianAdjacent lN d (a + (e - a) / 4 * 1) 0).2).1 (Sort.medianAdjacent lN d (a + (e - a) / 4 * 3) (Sort.medianAdjacent lN d (a + (e - a) / 4 * 2) (Sort.medianAdjacent lN d (a + (e - a) / 4 * 1) 0).2).2).1 (Sort.medianAdjacent lN d (a + (e - a) / 4 * 3) (Sort.medianAdjacent lN d (a + (e - a) / 4 * 2) (Sort.medianAdjacent lN d (a + (e - a) / 4 * 1) 0).2).2).2
      else Sort.median lN d (a + (e - a) / 4 * 1) (a + (e - a) / 4 * 2) (a + (e - a) / 4 * 3) 0) else (a + (e - a) / 4 * 2, 0) : Nat × Nat).2 = 12 then .decreasing else .unknown) := rfl
  rw [hcp] at hQ
  generalize hr : (if e - a ≥ 8 then (if e - a ≥ 50 then Sort.median lN d (Sort.medianAdjacent lN d (a + (e - a) / 4 * 1) 0).1 (Sort.medianAdjacent lN d (a + (e - a) / 4 * 2) (Sort.medianAdjacent lN d (a + (e - a) / 4 * 1) 0).2).1 (Sort.medianAdjacent lN d (a + (e - a) / 4 * 3) (Sort.medianAdjacent lN d (a + (e - a) / 4 * 2) (Sort.medianAdjacent lN d (a + (e - a) / 4 * 1) 0).2).2).1 (Sort.medianAdjacent lN d (a + (e - a) / 4 * 3) (Sort.medianAdjacent lN d (a + (e - a) / 4 * 2) (Sort.medianAdjacent lN d (a + (e - a) / 4 * 1) 0).2).2).2
      else Sort.median lN d (a + (e - a) / 4 * 1) (a + (e - a) / 4 * 2) (a + (e - a) / 4 * 3) 0) else (a + (e - a) / 4 * 2, 0) : Nat × Nat) = r at hQ
  refine joinV_spec (fun zs M' => zs = [N .i64 ((r.1 : Nat) : Int)] ∧ M' = PM (SM M1 s TI r.2) b T d) ?_ ?_
  · rintro zs M' ⟨rfl, rfl⟩
    dsimp only [nthD]
    have hh : (PM (SM M1 s TI r.2) b T d).heap s = some (.row [N .i64 (r.2 : Int)] false TI 0) := by
      rw [PM.heapNe hsb]; exact RM.put_same _ _
    have := hQ _ (kS r.2)
    rw [load1_at hh rfl, intW_eql]
    by_cases h0 : r.2 = 0
    · rw [show ((r.2 : Int) == 0) = true by rw [h0]; rfl, condT]
      rw [if_pos h0] at this
      exact this
    · rw [show ((r.2 : Int) == 0) = false by rw [beq_eq_false_iff_ne]; omega, condF, intW_eql]
      rw [if_neg h0] at this
      by_cases h12 : r.2 = 12
      · rw [show ((r.2 : Int) == 12) = true by rw [h12]; rfl, condT]
        rw [if_pos h12] at this
        exact this
      · rw [show ((r.2 : Int) == 12) = false by rw [beq_eq_false_iff_ne]; omega, condF]
        rw [if_neg h12] at this
        exact this
  intro J hJ
  rw [show (8 : Int) = ((8 : Nat) : Int) from rfl, geqN]
  refine condB (fun h8 => ?_) (fun h8 => ?_)
  · have h8 : e - a ≥ 8 := of_decide_eq_true h8
    rw [if_pos h8] at hr
    refine joinV_spec (fun zs M' => ∃ x y z k : Nat, zs = [N .i64 (x : Int), N .i64 (y : Int), N .i64 (z : Int)] ∧ M' = PM (SM M1 s TI k) b T d ∧ x < d.size ∧ y < d.size ∧ z < d.size ∧ k ≤ 900 ∧ Sort.median lN d x y z k = r) ?_ ?_
    · rintro zs M' ⟨x, y, z, k, rfl, rfl, hx, hy, hz, hk, he⟩
      dsimp only [nthD]
      refine hm hsb hx hy hz hk ?_
      rw [he]
      exact hJ _ _ ⟨rfl, rfl⟩
    intro J0 hJ0
    rw [show (50 : Int) = ((50 : Nat) : Int) from rfl, geqN]
    refine condB (fun h50 => ?_) (fun h50 => ?_)
    · have h50 : e - a ≥ 50 := of_decide_eq_true h50
      rw [if_pos h50] at hr
      have m1 := median_in d (i := a + (e - a) / 4 * 1 - 1) (j := a + (e - a) / 4 * 1) (h := a + (e - a) / 4 * 1 + 1) (k := 0) (n := d.size) (by omega) (by omega) (by omega)
      have r1 : (Sort.medianAdjacent lN d (a + (e - a) / 4 * 1) 0).1 < d.size ∧ (Sort.medianAdjacent lN d (a + (e - a) / 4 * 1) 0).2 ≤ 0 + 3 := m1
      refine ha hsb hsz (by omega) (by omega) (by omega) ?_
      generalize Sort.medianAdjacent lN d (a + (e - a) / 4 * 1) 0 = q1 at *
      have m2 := median_in d (i := a + (e - a) / 4 * 2 - 1) (j := a + (e - a) / 4 * 2) (h := a + (e - a) / 4 * 2 + 1) (k := q1.2) (n := d.size) (by omega) (by omega) (by omega)
      have r2 : (Sort.medianAdjacent lN d (a + (e - a) / 4 * 2) q1.2).1 < d.size ∧ (Sort.medianAdjacent lN d (a + (e - a) / 4 * 2) q1.2).2 ≤ q1.2 + 3 := m2
      refine ha hsb hsz (by omega) (by omega) (by omega) ?_
      generalize Sort.medianAdjacent lN d (a + (e - a) / 4 * 2) q1.2 = q2 at *
      have m3 := median_in d (i := a + (e - a) / 4 * 3 - 1) (j := a + (e - a) / 4 * 3) (h := a + (e - a) / 4 * 3 + 1) (k := q2.2) (n := d.size) (by omega) (by omega) (by omega)
      have r3 : (Sort.medianAdjacent lN d (a + (e - a) / 4 * 3) q2.2).1 < d.size ∧ (Sort.medianAdjacent lN d (a + (e - a) / 4 * 3) q2.2).2 ≤ q2.2 + 3 := m3
      refine ha hsb hsz (by omega) (by omega) (by omega) ?_
      generalize Sort.medianAdjacent lN d (a + (e - a) / 4 * 3) q2.2 = q3 at *
      exact hJ0 _ _ ⟨q1.1, q2.1, q3.1, q3.2, rfl, rfl, r1.1, r2.1, r3.1, by omega, hr⟩
    · have h50 : ¬ e - a ≥ 50 := of_decide_eq_false h50
      rw [if_neg h50] at hr
      exact hJ0 _ _ ⟨_, _, _, 0, rfl, rfl, by omega, by omega, by omega, by omega, hr⟩
  · have h8 : ¬ e - a ≥ 8 := of_decide_eq_false h8
    rw [if_neg h8] at hr
    subst hr
    exact hJ _ _ ⟨rfl, rfl⟩
theorem shiftDown_sz : ∀ (j : Nat) (d : Array Nat), (Sort.shiftDown lN j d).size = d.size
  | 0, d => rfl
  | j + 1, d => by
    rw [Sort.shiftDown]
    split
    · rfl
    · rw [shiftDown_sz j, swp_sz]
theorem shiftUp_sz (e : Nat) : ∀ (k j : Nat) (d : Array Nat), e - j ≤ k → (Sort.shiftUp lN e j d).size = d.size
  | 0, j, d, h => by rw [Sort.shiftUp, if_neg (by omega)]
  | k + 1, j, d, h => by
    rw [Sort.shiftUp]
    split
    · split
      · rfl
      · rw [shiftUp_sz e k _ _ (by omega), swp_sz]
    · rfl
def PartInsX (T : Nat) (c : CallT) : Prop := ∀ {M : RM} {b a e : Nat} {d : Array Nat} {Q : PostV}, b < M.next → d.size ≤ 1000000 → a < e → e ≤ d.size → Q (Bo (Sort.partialInsertionSort lN d a e).2) (PM M b T (Sort.partialInsertionSort lN d a e).1) →
  c [vv b d.size, N .i64 (a : Int), N .i64 (e : Int)] (PM M b T d) Q
theorem partialIns_eq (a b s i : Nat) (d : Array Nat) : Sort.partialIns lN a b (s + 1) i d =
    if Sort.scanSorted lN d b i = b then (d, true) else if b - a < 50 then (d, false) else
      Sort.partialIns lN a b s (Sort.scanSorted lN d b i) (if b - Sort.scanSorted lN d b i ≥ 2 then Sort.shiftUp lN b (Sort.scanSorted lN d b i + 1) (if Sort.scanSorted lN d b i - a ≥ 2 then Sort.shiftDown lN (Sort.scanSorted lN d b i - 1) (Sort.swp d (Sort.scanSorted lN d b i) (Sort.scanSorted lN d b i - 1)) else Sort.swp d (Sort.scanSorted lN d b i) (Sort.scanSorted lN d b i - 1))
        else (if Sort.scanSorted lN d b i - a ≥ 2 then Sort.shiftDown lN (Sort.scanSorted lN d b i - 1) (Sort.swp d (Sort.scanSorted lN d b i) (Sort.scanSorted lN d b i - 1)) else Sort.swp d (Sort.scanSorted lN d b i) (Sort.scanSorted lN d b i - 1))) := rfl
theorem partInsx_spec {T : Nat} {cl : CallT} (hl : LessC cl) : PartInsX T fun args M Q => ∃ a0 a1 a2, args = [a0, a1, a2] ∧ W_partialInsertionSortOrdered_uint64 cl a0 a1 a2 M Q := by
  intro M b a e d Q hb hsz hae he hQ
  refine ⟨_, _, _, rfl, ?_⟩
  unfold W_partialInsertionSortOrdered_uint64
  simp only [fuseK, fuseKM, fuseMK, joinW_shut]
  rw [add1 (by omega)]
  unfold Sort.partialInsertionSort at hQ
  obtain ⟨R, hR⟩ : ∃ R, R = Sort.partialIns lN a e 5 (a + 1) d := ⟨_, rfl⟩
  rw [← hR] at hQ
  refine loopW_ind (fun m ys M3 => ∃ (i s : Nat) (d3 : Array Nat), m = s ∧ s ≤ 5 ∧ ys = [N .i64 (i : Int), N .i64 ((5 - s : Nat) : Int)] ∧ a + 1 ≤ i ∧ i ≤ e ∧ M3 = PM M b T d3 ∧ d3.size = d.size ∧ R = Sort.partialIns lN a e s i d3) _ ⟨a + 1, 5, d, rfl, by omega, rfl, by omega, by omega, rfl, rfl, hR⟩ ?_
  rintro next m ys M3 hnext ⟨i, s, d3, hms, hs5, rfl, hai, hie, rfl, hs3, hm⟩
  dsimp only [nthD]
  rw [show (5 : Int) = ((5 : Nat) : Int) from rfl, lssN]
  refine condB (fun hg => ?_) (fun hg => ?_)
  · have hg : 5 - s < 5 := of_decide_eq_true hg
    obtain ⟨s', rfl⟩ : ∃ s', s = s' + 1 := ⟨s - 1, by omega⟩
    rw [partialIns_eq] at hm
    refine joinV_spec (fun zs M' => ∃ (i' : Nat) (d4 : Array Nat), zs = [N .i64 (i' : Int)] ∧ a + 1 ≤ i' ∧ i' ≤ e ∧ M' = PM M b T d4 ∧ d4.size = d.size ∧ R = Sort.partialIns lN a e s' i' d4) ?_ ?_
    · rintro zs M' ⟨i', d4, rfl, h1, h2, rfl, h3, h4⟩
      dsimp only [nthD]
      rw [add1 (by omega)]
      exact hnext _ _ _ (by omega) ⟨i', s', d4, rfl, by omega, by congr 4; omega, h1, h2, rfl, h3, h4⟩
    intro J hJ
    obtain ⟨R5, hR5⟩ : ∃ R5, R5 = Sort.scanSorted lN d3 e i := ⟨_, rfl⟩
    rw [← hR5] at hm
    refine loopW_ind (fun m ys M5 => ∃ (j : Nat), m = e - j ∧ ys = [N .i64 (j : Int)] ∧ i ≤ j ∧ j ≤ e ∧ M5 = PM M b T d3 ∧ R5 = Sort.scanSorted lN d3 e j) _ ⟨i, rfl, rfl, Nat.le_refl _, hie, rfl, hR5⟩ ?_
    rintro next2 m ys M5 hnext2 ⟨j, rfl, rfl, hij, hje, rfl, hm5⟩
    dsimp only [nthD]
    rw [Sort.scanSorted] at hm5
    rw [lssN]
    refine andK (p := !lN d3[j]! d3[j - 1]!) (fun hc k hk => ?_) ?_
    · have hc : j < e := of_decide_eq_true hc
      rw [PM.rd hs3.symm (by omega), sub1 (by omega) (by omega), PM.rd hs3.symm (by omega)]
      refine hl ?_
      rw [notW_Bo]
      exact hk
    refine condB (fun h => ?_) (fun h => ?_)
    · have hc : j < e := by
        rw [Bool.and_eq_true] at h
        exact of_decide_eq_true h.1
      rw [if_pos h] at hm5
      rw [add1 (by omega)]
      exact hnext2 _ _ _ (by omega) ⟨j + 1, rfl, rfl, by omega, by omega, rfl, hm5⟩
    rw [if_neg (by rw [h]; decide)] at hm5
    subst hm5
    rw [eqlN]
    refine condB (fun hje2 => ?_) (fun hje2 => ?_)
    · rw [if_pos (of_decide_eq_true hje2)] at hm
      rw [hm] at hQ
      exact hQ
    have hje2 : ¬ R5 = e := of_decide_eq_false hje2
    rw [if_neg hje2] at hm
    rw [subN (by omega) (by omega), show (50 : Int) = ((50 : Nat) : Int) from rfl, lssN]
    refine condB (fun h50 => ?_) (fun h50 => ?_)
    · rw [if_pos (of_decide_eq_true h50)] at hm
      rw [hm] at hQ
      exact hQ
    rw [if_neg (of_decide_eq_false h50)] at hm
    rw [sub1 (by omega) (by omega), sub1 (by omega) (by omega), PM.rd hs3.symm (by omega), PM.rd hs3.symm (by omega), PM.swap hs3.symm (by omega) (by omega)]
    have hs6 := swp_szE (i := R5) (j := R5 - 1) hs3
    generalize Sort.swp d3 R5 (R5 - 1) = d6 at *
    refine joinV_spec (fun zs M' => zs = [] ∧ M' = PM M b T (if R5 - a ≥ 2 then Sort.shiftDown lN (R5 - 1) d6 else d6)) ?_ ?_
    · rintro zs M' ⟨rfl, rfl⟩
      have hs7 : (if R5 - a ≥ 2 then Sort.shiftDown lN (R5 - 1) d6 else d6).size = d.size := by
        split
        · rw [shiftDown_sz, hs6]
        · exact hs6
      generalize (if R5 - a ≥ 2 then Sort.shiftDown lN (R5 - 1) d6 else d6) = d7 at *
      rw [subN (by omega) (by omega), show (2 : Int) = ((2 : Nat) : Int) from rfl, geqN]
      refine condB (fun h2 => ?_) (fun h2 => ?_)
      · rw [if_pos (of_decide_eq_true h2)] at hm
        rw [add1 (by omega)]
        have hs8 := shiftUp_sz e e (R5 + 1) d7 (by omega)
        obtain ⟨R8, hR8⟩ : ∃ R8, R8 = Sort.shiftUp lN e (R5 + 1) d7 := ⟨_, rfl⟩
        rw [← hR8] at hm hs8
        refine loopW_ind (fun m ys M8 => ∃ (j : Nat) (d8 : Array Nat), m = e - j ∧ ys = [N .i64 (j : Int)] ∧ R5 + 1 ≤ j ∧ j ≤ e ∧ M8 = PM M b T d8 ∧ d8.size = d.size ∧ R8 = Sort.shiftUp lN e j d8) _ ⟨R5 + 1, d7, rfl, rfl, Nat.le_refl _, by omega, rfl, hs7, hR8⟩ ?_
        rintro next3 m ys M8 hnext3 ⟨j, d8, rfl, rfl, hj1, hj2, rfl, hs8', hm8⟩
        dsimp only [nthD]
        rw [Sort.shiftUp] at hm8
        rw [lssN]
        refine condB (fun hl1 => ?_) (fun hl1 => ?_)
        · have hl1 : j < e := of_decide_eq_true hl1
          rw [if_pos hl1] at hm8
          rw [PM.rd hs8'.symm (by omega), sub1 (by omega) (by omega), PM.rd hs8'.symm (by omega)]
          refine hl ?_
          rw [notW_Bo]
          refine condB (fun hn => ?_) (fun hn => ?_)
          · rw [if_pos hn] at hm8
            subst hm8
            exact hJ _ _ ⟨R5, R8, rfl, by omega, by omega, rfl, hs8', hm⟩
          · rw [if_neg (by rw [show (!lN d8[j]! d8[j - 1]!) = false from hn]; decide)] at hm8
            rw [sub1 (by omega) (by omega), sub1 (by omega) (by omega), PM.rd hs8'.symm (by omega), PM.rd hs8'.symm (by omega), PM.swap hs8'.symm (by omega) (by omega), add1 (by omega)]
            exact hnext3 _ _ _ (by omega) ⟨j + 1, _, rfl, rfl, by omega, by omega, rfl, swp_szE hs8', hm8⟩
        · rw [if_neg (of_decide_eq_false hl1)] at hm8
          subst hm8
          exact hJ _ _ ⟨R5, R8, rfl, by omega, by omega, rfl, hs8', hm⟩
      · rw [if_neg (of_decide_eq_false h2)] at hm
        exact hJ _ _ ⟨R5, d7, rfl, by omega, by omega, rfl, hs7, hm⟩
    intro J2 hJ2
    rw [subN (by omega) (by omega), show (2 : Int) = ((2 : Nat) : Int) from rfl, geqN]
    refine condB (fun h2 => ?_) (fun h2 => ?_)
    · rw [if_pos (of_decide_eq_true h2)] at hJ2
      rw [sub1 (by omega) (by omega)]
      obtain ⟨R8, hR8⟩ : ∃ R8, R8 = Sort.shiftDown lN (R5 - 1) d6 := ⟨_, rfl⟩
      rw [← hR8] at hJ2
      refine loopW_ind (fun m ys M8 => ∃ (j : Nat) (d8 : Array Nat), m = j + 1 ∧ ys = [N .i64 (j : Int)] ∧ j < R5 ∧ M8 = PM M b T d8 ∧ d8.size = d.size ∧ R8 = Sort.shiftDown lN j d8) _ ⟨R5 - 1, d6, rfl, rfl, by omega, rfl, hs6, hR8⟩ ?_
      rintro next3 m ys M8 hnext3 ⟨j, d8, rfl, rfl, hj1, rfl, hs8', hm8⟩
      dsimp only [nthD]
      rw [show (1 : Int) = ((1 : Nat) : Int) from rfl, geqN]
      refine condB (fun hl1 => ?_) (fun hl1 => ?_)
      · have hl1 : j ≥ 1 := of_decide_eq_true hl1
        obtain ⟨j', rfl⟩ : ∃ j', j = j' + 1 := ⟨j - 1, by omega⟩
        rw [Sort.shiftDown] at hm8
        rw [PM.rd hs8'.symm (by omega), subN (by omega) (by omega), Nat.add_sub_cancel, PM.rd hs8'.symm (by omega)]
        refine hl ?_
        rw [notW_Bo]
        refine condB (fun hn => ?_) (fun hn => ?_)
        · rw [if_pos hn] at hm8
          subst hm8
          exact hJ2 _ _ ⟨rfl, rfl⟩
        · rw [if_neg (by rw [show (!lN d8[j' + 1]! d8[j']!) = false from hn]; decide)] at hm8
          rw [subN (by omega) (by omega), subN (by omega) (by omega), Nat.add_sub_cancel, PM.rd hs8'.symm (by omega), PM.rd hs8'.symm (by omega), PM.swap hs8'.symm (by omega) (by omega), subN (by omega) (by omega), Nat.add_sub_cancel]
          exact hnext3 _ _ _ (by omega) ⟨j', _, rfl, rfl, by omega, rfl, swp_szE hs8', hm8⟩
      · have hl1 : ¬ j ≥ 1 := of_decide_eq_false hl1
        have h0 : j = 0 := by omega
        subst h0
        rw [Sort.shiftDown] at hm8
        subst hm8
        exact hJ2 _ _ ⟨rfl, rfl⟩
    · rw [if_neg (of_decide_eq_false h2)] at hJ2
      exact hJ2 _ _ ⟨rfl, rfl⟩
  · have hg : ¬ 5 - s < 5 := of_decide_eq_false hg
    have h0 : s = 0 := by omega
    subst h0
    rw [Sort.partialIns] at hm
    rw [hm] at hQ
    exact hQ
end Go.Ab.Dot
set_option maxRecDepth 10000
set_option linter.unusedVariables false
set_option linter.unusedSimpArgs false
namespace Go.Ab.Dot
open Go Go.Ab
def SortC (P : List Nat → Prop) (f : List Nat → List Nat) (T : Nat) (c : CallT) : Prop := ∀ {M : RM} {base : Nat} {v : AV} {xs : List Nat} {Q : PostV}, Ow U64 M base T v xs → P xs → (∀ M', Ow U64 M' base T v (f xs) → Keep (blkOf v) M M' → Q (.tup []) M') → c [v] M Q
def CompactC (P : List Nat → Prop) (f : List Nat → List Nat) (T : Nat) (c : CallT) : Prop := ∀ {M : RM} {base : Nat} {v : AV} {xs : List Nat} {Q : PostV}, Ow U64 M base T v xs → P xs → (∀ v' M', Sl U64 M' v' (f xs) → capOk v' → (∀ d ∈ blkOf v', d ∈ blkOf v) → Keep (blkOf v) M M' → Q v' M') → c [v] M Q
def GrowC (T : Nat) (c : CallT) : Prop := ∀ {M : RM} {n : Nat} {Q : PostV}, n ≤ 10000000 → (n = 0 → Q nilS M) →
  (0 < n → ∀ b M', M.next ≤ b → b < M'.next → M'.heap b = some (.row (repL [N .u64 0] n) true T 0) → Keep [] M M' → Q (.slc b 0 0 (.op 1)) M') → c [nilS, N .i64 (n : Int)] M Q
theorem grow_spec {TS T : Nat} : GrowC T fun args M Q => ∃ a0 a1, args = [a0, a1] ∧ W_Grow_uint64 TS T a0 a1 M Q := by
  intro M n Q hn h0 h1
  refine ⟨_, _, rfl, ?_⟩
  unfold W_Grow_uint64
  rw [joinW_eq, intW_lss, show decide ((n : Int) < 0) = false by simp, condF]
  dsimp only
  rw [joinW_eq]
  have hcap : ∀ K : AV → Prop, capW nilS K = K (N .i64 0) := fun K => by
    unfold capW
    exact propext ⟨fun ⟨m, h, k⟩ => by cases h; exact k, fun k => ⟨0, rfl, k⟩⟩
  rw [hcap, lenW_nil, intW_sub, show IntKind.wrap .i64 ((0 : Int) - 0) = 0 from by rw [wrap_i64_id] <;> decide, intW_sub, Int.sub_zero, wrap_i64_id (by omega) (by omega), intW_gtr]
  dsimp only [nthD]
  by_cases hz : n = 0
  · rw [show decide ((n : Int) > 0) = false by simp; omega, condF]
    exact h0 hz
  · rw [show decide ((n : Int) > 0) = true by simp; omega, condT, hcap, show subS 1 nilS none (some (N .i64 0)) none = some nilS by simp [subS, bnd], getW_some]
    have hr := repL_one n
    refine app_own (base := M.next) (m := n) (ds := repL [N .u64 0] n) .nil (Nat.le_refl _) (Nat.le_refl _) (by simp [newL]) (by rw [hr.1, Nat.mul_one]) hr.2 (by omega) (by omega) ?_
    intro v' M' o k _ _
    rw [Nat.zero_add] at o
    obtain ⟨b, rfl, q1, q2, q3, q4⟩ := Own.op_pos o (by omega)
    rw [lenW_nil, show subS 1 (.slc b 0 n (.op 1)) none (some (N .i64 0)) none = some (.slc b 0 0 (.op 1)) by simp [subS, bnd]; omega, getW_some]
    exact h1 (by omega) b M' q1 q2 (by simpa using q3) (by simpa [blkOf] using k)
end Go.Ab.Dot
set_option maxRecDepth 10000
set_option linter.unusedVariables false
set_option linter.unusedSimpArgs false
namespace Go.Ab.Dot
open Go Go.Ab
theorem scanUp_rng (p : Nat → Bool) (d : Array Nat) (J : Nat) : ∀ (n i : Nat), J + 1 - i ≤ n → i ≤ Sort.scanUp p d J i ∧ Sort.scanUp p d J i ≤ max (J + 1) i
  | 0, i, h => by
    rw [Sort.scanUp, if_neg (by simp; omega)]; omega
  | n + 1, i, h => by
    rw [Sort.scanUp]
    split
    · rename_i hc
      rw [Bool.and_eq_true] at hc
      have := of_decide_eq_true hc.1
      have := scanUp_rng p d J n (i + 1) (by omega)
      omega
    · omega
theorem scanDown_rng (p : Nat → Bool) (d : Array Nat) (i : Nat) : ∀ j, Sort.scanDown p d i j ≤ j
  | 0 => Nat.le_refl _
  | j + 1 => by
    rw [Sort.scanDown]
    split
    · have := scanDown_rng p d i j; omega
    · omega
theorem partEqLoop_rng (a : Nat) : ∀ (n i j : Nat) (d : Array Nat), j + 1 - i ≤ n → i ≤ (Sort.partEqLoop lN a i j d).1 ∧ (Sort.partEqLoop lN a i j d).1 ≤ max (j + 1) i ∧ (Sort.partEqLoop lN a i j d).2.size = d.size
  | n, i, j, d, h => by
    have h1 := scanUp_rng (fun x => !lN d[a]! x) d j _ i (Nat.le_refl _)
    have h2 := scanDown_rng (fun x => lN d[a]! x) d (Sort.scanUp (fun x => !lN d[a]! x) d j i) j
    rw [Sort.partEqLoop]
    generalize Sort.scanUp (fun x => !lN d[a]! x) d j i = i2 at *
    generalize Sort.scanDown (fun x => lN d[a]! x) d i2 j = j2 at *
    split
    · exact ⟨h1.1, h1.2, rfl⟩
    · split
      · cases n with
        | zero => omega
        | succ n =>
          have h3 := partEqLoop_rng a n (i2 + 1) (j2 - 1) (Sort.swp d i2 j2) (by omega)
          rw [swp_sz] at h3
          omega
      · exact ⟨h1.1, h1.2, rfl⟩
theorem partLoop_sz (a : Nat) : ∀ (n i j : Nat) (d : Array Nat), j + 1 - i ≤ n → (Sort.partLoop lN a i j d).1 ≤ j ∧ (Sort.partLoop lN a i j d).2.size = d.size
  | n, i, j, d, h => by
    have h1 := scanUp_rng (fun x => lN x d[a]!) d j _ i (Nat.le_refl _)
    have h2 := scanDown_rng (fun x => !lN x d[a]!) d (Sort.scanUp (fun x => lN x d[a]!) d j i) j
    rw [Sort.partLoop]
    generalize Sort.scanUp (fun x => lN x d[a]!) d j i = i2 at *
    generalize Sort.scanDown (fun x => !lN x d[a]!) d i2 j = j2 at *
    split
    · exact ⟨h2, rfl⟩
    · split
      · cases n with
        | zero => omega
        | succ n =>
          have h3 := partLoop_sz a n (i2 + 1) (j2 - 1) (Sort.swp d i2 j2) (by omega)
          rw [swp_sz] at h3
          exact ⟨by omega, h3.2⟩
      · exact ⟨h2, rfl⟩
theorem partIns_sz (a e : Nat) : ∀ (s i : Nat) (d : Array Nat), (Sort.partialIns lN a e s i d).1.size = d.size
  | 0, i, d => rfl
  | s + 1, i, d => by
    rw [partialIns_eq]
    split
    · rfl
    · split
      · rfl
      · rw [partIns_sz a e s]
        have h1 : ∀ x, (if x - a ≥ 2 then Sort.shiftDown lN (x - 1) (Sort.swp d x (x - 1)) else Sort.swp d x (x - 1)).size = d.size := fun x => by
          split
          · rw [shiftDown_sz, swp_sz]
          · rw [swp_sz]
        split
        · rw [shiftUp_sz e e _ _ (by omega), h1]
        · rw [h1]
theorem bits_256 {x : Nat} (h : 256 ≤ x) : Sort.bitsLen x = Sort.bitsLen (x / 256) + 8 := by
  have h0 : x / 256 ≠ 0 := by omega
  unfold Sort.bitsLen
  rw [if_neg (by omega), if_neg h0]
  have h1 := (Nat.log2_eq_iff h0 (k := (x / 256).log2)).1 rfl
  have h2 : x.log2 = (x / 256).log2 + 8 := by
    rw [Nat.log2_eq_iff (by omega)]
    rw [show (x / 256).log2 + 8 + 1 = ((x / 256).log2 + 1) + 8 by omega, Nat.pow_add, Nat.pow_add _ ((x / 256).log2 + 1)]
    generalize 2 ^ (x / 256).log2 = u at *
    generalize 2 ^ ((x / 256).log2 + 1) = v at *
    omega
  omega
theorem tab_exact {tab : List UInt8} {x : Nat} (h : (List.range 256).all (fun i => tab[i]? == some (UInt8.ofNat (Sort.bitsLen i))) = true) (hx : x < 256) : tab[x]? = some (UInt8.ofNat (Sort.bitsLen x)) := by
  have := List.all_eq_true.1 h x (List.mem_range.2 hx)
  exact eq_of_beq this
theorem bits_lt {x : Nat} (h : x < 256) : Sort.bitsLen x ≤ 8 := by
  unfold Sort.bitsLen
  split
  · omega
  · rename_i h0
    have := (Nat.log2_lt h0 (k := 8)).2 (by omega)
    omega
def LenX (c : CallT) : Prop := ∀ {M : RM} {x : Nat} {Q : PostV}, x < 65536 → Q (N .i64 (Sort.bitsLen x : Nat)) M → c [N .u64 (x : Int)] M Q
theorem len64x_spec : LenX fun args M Q => ∃ a0, args = [a0] ∧ W_math_bits_Len64 a0 M Q := by
  intro M x Q hx hQ
  refine ⟨_, rfl, ?_⟩
  unfold W_math_bits_Len64
  rw [joinW_eq, intW_geq, show decide ((x : Int) ≥ 4294967296) = false by simp; omega, condF]
  dsimp only [nthD]
  rw [joinW_eq, intW_geq, show decide ((x : Int) ≥ 65536) = false by simp; omega, condF]
  dsimp only [nthD]
  rw [joinW_eq, intW_geq]
  have fin : ∀ (y z : Nat), y < 256 → z ≤ 8 → Sort.bitsLen x = z + Sort.bitsLen y → cvtW .u8 (N .u64 (y : Int)) fun t21 => idxB (St [0, 1, 2, 2, 3, 3, 3, 3, 4, 4, 4, 4, 4, 4, 4, 4, 5, 5, 5, 5, 5, 5, 5, 5, 5, 5, 5, 5, 5, 5, 5, 5, 6, 6, 6, 6, 6, 6, 6, 6, 6, 6, 6, 6, 6, 6, 6, 6, 6, 6, 6, 6, 6, 6, 6, 6, 6, 6, 6, 6, 6, 6, 6, 6, 7, 7, 7, 7, 7, 7, 7, 7, 7, 7, 7, 7, 7, 7, 7, 7, 7, 7, 7, 7, 7, 7, 7, 7, 7, 7, 7, 7, 7, 7, 7, 7, 7, 7, 7, 7, 7, 7, 7, 7, 7, 7, 7, 7, 7, 7, 7, 7, 7, 7, 7, 7, 7, 7, 7, 7, 7, 7, 7, 7, 7, 7, 7, 7, 8, 8, 8, 8, 8, 8, 8, 8, 8, 8, 8, 8, 8, 8, 8, 8, 8, 8, 8, 8, 8, 8, 8, 8, 8, 8, 8, 8, 8, 8, 8, 8, 8, 8, 8, 8, 8, 8, 8, 8, 8, 8, 8, 8, 8, 8, 8, 8, 8, 8, 8, 8, 8, 8, 8, 8, 8, 8, 8, 8, 8, 8, 8, 8, 8, 8, 8, 8, 8, 8, 8, 8, 8, 8, 8, 8, 8, 8, 8, 8, 8, 8, 8, 8, 8, 8, 8, 8, 8, 8, 8, 8, 8, 8, 8, 8, 8, 8, 8, 8, 8, 8, 8, 8, 8, 8, 8, 8, 8, 8, 8, 8, 8, 8, 8, 8, 8, 8, 8, 8, 8, 8, 8, 8, 8, 8, 8, 8]) t21 fun t22 =>
      cvtW .i64 t22 fun t23 => intW .add (N .i64 (z : Int)) t23 fun t24 => Q t24 M := fun y z hy hz e => by
    rw [cvtW_N, wrap_u8_id (by omega) (by omega), idxB_St]
    refine ⟨by omega, ?_⟩
    rw [Int.toNat_natCast]
    refine ⟨_, tab_exact (by kernel_rfl) hy, ?_⟩
    have hb := bits_lt hy
    have hu : (UInt8.ofNat (Sort.bitsLen y)).toNat = Sort.bitsLen y := by rw [UInt8.toNat_ofNat']; omega
    rw [hu, cvtW_N, wrap_i64_id (by omega) (by omega), addN (by omega), ← e]
    exact hQ
  by_cases h : x ≥ 256
  · rw [show decide ((x : Int) ≥ 256) = true by simp; omega, condT]
    dsimp only [nthD]
    rw [shW_shr]
    refine ⟨by decide, ?_⟩
    rw [show (8 : Int) = ((8 : Nat) : Int) from rfl, shrI_nat _ _ _ (by decide), intW_add, Int.zero_add, wrap_i64_id (by omega) (by omega)]
    exact fin (x / 256) 8 (by omega) (by omega) (by rw [bits_256 h]; omega)
  · rw [show decide ((x : Int) ≥ 256) = false by simp; omega, condF]
    dsimp only [nthD]
    exact fin x 0 (by omega) (by omega) (by omega)
theorem lenx_spec {c3 c6 : CallT} (h6 : LenX c6) : LenX fun args M Q => ∃ a0, args = [a0] ∧ W_math_bits_Len c3 c6 a0 M Q := by
  intro M x Q hx hQ
  refine ⟨_, rfl, ?_⟩
  unfold W_math_bits_Len
  rw [condF]
  exact h6 hx hQ
end Go.Ab.Dot
set_option maxRecDepth 10000
set_option linter.unusedVariables false
set_option linter.unusedSimpArgs false
namespace Go.Ab.Dot
open Go Go.Ab
def XM (M : RM) (s T : Nat) (r : UInt64) : RM := M.put s (.row [N .u64 (r.toNat : Int)] false T 0)
theorem XM.put {M : RM} {s T : Nat} {r r' : UInt64} : (XM M s T r).put s (.row [N .u64 (r'.toNat : Int)] false T 0) = XM M s T r' := by
  unfold XM RM.put
  congr 1
  funext c
  simp only
  by_cases h : c = s <;> simp [h]
theorem XM.new {M : RM} {T : Nat} {x : RB} {r : UInt64} : (M.push x).put M.next (.row [N .u64 (r.toNat : Int)] false T 0) = XM (M.push x) M.next T r := rfl
theorem u64_shl {r k : UInt64} {n : Nat} (hk : k.toNat = n) (h : n < 64) : shlI .u64 (r.toNat : Int) (n : Int) = ((r <<< k).toNat : Int) := by
  rw [shlI_nat rfl _ _ (by show n ≤ 64; omega), UInt64.toNat_shiftLeft, hk, Nat.mod_eq_of_lt h, Nat.shiftLeft_eq]; rfl
theorem u64_shr {r k : UInt64} {n : Nat} (hk : k.toNat = n) (h : n < 64) : shrI .u64 (r.toNat : Int) (n : Int) = ((r >>> k).toNat : Int) := by
  rw [shrI_nat _ _ _ (by show n ≤ 64; omega), UInt64.toNat_shiftRight, hk, Nat.mod_eq_of_lt h, Nat.shiftRight_eq_div_pow]
theorem u64_xor (a b : UInt64) : xorI .u64 (a.toNat : Int) (b.toNat : Int) = ((a ^^^ b).toNat : Int) := by
  rw [xorI_nat rfl, ← UInt64.toNat_xor]
  have := (a ^^^ b).toNat_lt
  rw [Nat.mod_eq_of_lt (by show _ < 2 ^ 64; omega)]
def XorX (T TX : Nat) (c : CallT) : Prop := ∀ {M : RM} {b s : Nat} {r : UInt64} {d : Array Nat} {Q : PostV}, s ≠ b → Q (N .u64 ((Sort.xorNext r).toNat : Int)) (PM (XM M s TX (Sort.xorNext r)) b T d) → c [.ptr s 0] (PM (XM M s TX r) b T d) Q
theorem xor_spec {T TX : Nat} : XorX T TX fun args M Q => ∃ a0, args = [a0] ∧ W_xorshift_Next a0 M Q := by
  intro M b s r d Q hsb hQ
  refine ⟨_, rfl, ?_⟩
  unfold W_xorshift_Next
  have hh : ∀ r, (PM (XM M s TX r) b T d).heap s = some (.row [N .u64 (r.toNat : Int)] false TX 0) := fun r => by rw [PM.heapNe hsb]; exact RM.put_same _ _
  have st : ∀ (r r' : UInt64) (K : RM → Prop), storeW (PM (XM M s TX r) b T d) (.ptr s 0) (N .u64 (r'.toNat : Int)) 1 K = K (PM (XM M s TX r') b T d) := fun r r' K => by
    rw [storeW_at (hh r) (by simp) rfl rfl, PM.putNe hsb]
    rw [show ([N .u64 (r.toNat : Int)] : List AV).set 0 (N .u64 (r'.toNat : Int)) = [N .u64 (r'.toNat : Int)] from rfl, XM.put]
  rw [ptrW_ptr, load1_at (hh r) rfl, ptrW_ptr, load1_at (hh r) rfl, shW_shl]
  refine ⟨by decide, ?_⟩
  rw [show (13 : Int) = ((13 : Nat) : Int) from rfl, u64_shl (k := 13) (n := 13) rfl (by decide), intW_xor, u64_xor, ptrW_ptr, st]
  rw [ptrW_ptr, load1_at (hh _) rfl, ptrW_ptr, load1_at (hh _) rfl, shW_shr]
  refine ⟨by decide, ?_⟩
  rw [show (7 : Int) = ((7 : Nat) : Int) from rfl, u64_shr (k := 7) (n := 7) rfl (by decide), intW_xor, u64_xor, ptrW_ptr, st]
  rw [ptrW_ptr, load1_at (hh _) rfl, ptrW_ptr, load1_at (hh _) rfl, shW_shl]
  refine ⟨by decide, ?_⟩
  rw [show (17 : Int) = ((17 : Nat) : Int) from rfl, u64_shl (k := 17) (n := 17) rfl (by decide), intW_xor, u64_xor, ptrW_ptr, st]
  rw [ptrW_ptr, load1_at (hh _) rfl]
  exact hQ
def PowX (c : CallT) : Prop := ∀ {M : RM} {x : Nat} {Q : PostV}, 0 < x → x < 65536 → Q (N .u64 ((2 ^ Sort.bitsLen x : Nat) : Int)) M → c [N .i64 (x : Int)] M Q
theorem bits_le {x : Nat} (h0 : 0 < x) (h : x < 65536) : Sort.bitsLen x ≤ 16 ∧ 2 ^ Sort.bitsLen x ≤ 2 * x ∧ x < 2 ^ Sort.bitsLen x := by
  unfold Sort.bitsLen
  rw [if_neg (by omega)]
  have h1 := (Nat.log2_eq_iff (show x ≠ 0 by omega) (k := x.log2)).1 rfl
  have h2 := (Nat.log2_lt (show x ≠ 0 by omega) (k := 16)).2 (by omega)
  rw [Nat.pow_succ] at *
  omega
theorem pow_spec {cl : CallT} (hl : LenX cl) : PowX fun args M Q => ∃ a0, args = [a0] ∧ W_nextPowerOfTwo cl a0 M Q := by
  intro M x Q h0 hx hQ
  refine ⟨_, rfl, ?_⟩
  unfold W_nextPowerOfTwo
  have hb := bits_le h0 hx
  rw [cvtW_N, wrap_u64_id (by omega) (by omega)]
  refine hl hx ?_
  rw [shW_shl]
  refine ⟨by omega, ?_⟩
  rw [show (1 : Int) = ((1 : Nat) : Int) from rfl, shlI_nat rfl _ _ (by show Sort.bitsLen x ≤ 64; omega), Nat.one_mul]
  have : 2 ^ Sort.bitsLen x < 2 ^ 64 := Nat.pow_lt_pow_right (by decide) (by omega)
  rw [Nat.mod_eq_of_lt (by exact this)]
  exact hQ
def stK (a l m i0 : Nat) (d : Array Nat) : Nat → UInt64 × Array Nat
  | 0 => (UInt64.ofNat l, d)
  | k + 1 => Sort.breakStep a l m (stK a l m i0 d k) (i0 + k)
theorem stK_sz (a l m i0 : Nat) (d : Array Nat) : ∀ k, (stK a l m i0 d k).2.size = d.size
  | 0 => rfl
  | k + 1 => by
    rw [stK, Sort.breakStep]
    show (Sort.swp _ _ _).size = _
    rw [swp_sz, stK_sz a l m i0 d k]
def BreakX (T : Nat) (c : CallT) : Prop := ∀ {M : RM} {b a e : Nat} {d : Array Nat} {Q : PostV}, b < M.next → d.size ≤ 60000 → a ≤ e → e ≤ d.size → (∀ M', Keep [] M M' → Q (.tup []) (PM M' b T (Sort.breakPatterns d a e))) →
  c [vv b d.size, N .i64 (a : Int), N .i64 (e : Int)] (PM M b T d) Q
theorem break_spec {T TX : Nat} {cp cx : CallT} (hp : PowX cp) (hx : XorX T TX cx) : BreakX T fun args M Q => ∃ a0 a1 a2, args = [a0, a1, a2] ∧ W_breakPatternsOrdered_uint64 TX cp cx a0 a1 a2 M Q := by
  intro M b a e d Q hb hsz hae he hQ
  refine ⟨_, _, _, rfl, ?_⟩
  unfold W_breakPatternsOrdered_uint64
  simp only [joinW_shut]
  rw [subN hae (by omega), show (8 : Int) = ((8 : Nat) : Int) from rfl, geqN]
  unfold Sort.breakPatterns at hQ
  refine condB (fun h8 => ?_) (fun h8 => ?_)
  · have h8 : e - a ≥ 8 := of_decide_eq_true h8
    rw [if_pos h8] at hQ
    have hbl := bits_le (x := e - a) (by omega) (by omega)
    rw [cvtW_N, wrap_u64_id (by omega) (by omega), newW_eq, PM.push hb]
    have hnx : (PM M b T d).next = M.next := rfl
    rw [hnx]
    have hsb : M.next ≠ b := by omega
    have kk : Keep [] M (M.push (.row [(N .u64 0)] false TX 0)) := (Keep.refl _ _).push _
    have kS : ∀ r, Keep [] M (XM (M.push (.row [(N .u64 0)] false TX 0)) M.next TX r) := fun r => kk.new _ (Nat.le_refl _)
    have hh0 : (PM (M.push (.row [(N .u64 0)] false TX 0)) b T d).heap M.next = some (.row [N .u64 0] false TX 0) := by rw [PM.heapNe hsb]; exact RM.push_new _
    have hl64 : (UInt64.ofNat (e - a)).toNat = e - a := by rw [UInt64.toNat_ofNat']; omega
    rw [storeW_at hh0 (by simp) rfl rfl, PM.putNe hsb]
    rw [show ([N .u64 0] : List AV).set 0 (N .u64 ((e - a : Nat) : Int)) = [N .u64 ((UInt64.ofNat (e - a)).toNat : Int)] by rw [hl64]; rfl, XM.new]
    generalize M.push (.row [(N .u64 0)] false TX 0) = M1 at *
    generalize M.next = s at *
    refine hp (by omega) (by omega) ?_
    have hq : ∀ (c : Int), c = ((2 : Nat) : Int) → ∀ (K : AV → Prop), (intW .quo (N .i64 ((e - a : Nat) : Int)) (N .i64 4) fun t18 => intW .mul t18 (N .i64 c) fun t19 => intW .add (N .i64 (a : Int)) t19 K) = K (N .i64 ((a + (e - a) / 4 * 2 : Nat) : Int)) := fun c hc K => by
      subst hc
      rw [intW_quo, show (4 : Int) = ((4 : Nat) : Int) from rfl, quo_nat, wrap_i64_id (by omega) (by omega), intW_mul, ← Int.natCast_mul, wrap_i64_id (by omega) (by omega), addN (by omega)]
      exact propext ⟨fun h => h.2, fun h => ⟨by decide, h⟩⟩
    rw [hq 2 rfl, sub1 (by omega) (by omega)]
    have hst3 : (Sort.breakStep a (e - a) (1 <<< Sort.bitsLen (e - a)) (Sort.breakStep a (e - a) (1 <<< Sort.bitsLen (e - a)) (Sort.breakStep a (e - a) (1 <<< Sort.bitsLen (e - a)) (UInt64.ofNat (e - a), d) (a + (e - a) / 4 * 2 - 1)) (a + (e - a) / 4 * 2 - 1 + 1)) (a + (e - a) / 4 * 2 - 1 + 2)).2 = (stK a (e - a) (2 ^ Sort.bitsLen (e - a)) (a + (e - a) / 4 * 2 - 1) d 3).2 := by
      rw [Nat.shiftLeft_eq, Nat.one_mul]; rfl
    have hQ : ∀ M', Keep [] M M' → Q (.tup []) (PM M' b T (stK a (e - a) (2 ^ Sort.bitsLen (e - a)) (a + (e - a) / 4 * 2 - 1) d 3).2) := fun M' k => by
      have := hQ M' k
      rw [← hst3]; exact this
    generalize hmd : 2 ^ Sort.bitsLen (e - a) = md at *
    generalize hi0 : a + (e - a) / 4 * 2 - 1 = i0 at *
    refine loopW_ind (fun m ys M3 => ∃ (k : Nat), m = 3 - k ∧ k ≤ 3 ∧ ys = [N .i64 ((i0 + k : Nat) : Int)] ∧ M3 = PM (XM M1 s TX (stK a (e - a) md i0 d k).1) b T (stK a (e - a) md i0 d k).2) _ ⟨0, rfl, by omega, rfl, rfl⟩ ?_
    rintro next m ys M3 hnext ⟨k, rfl, hk, rfl, rfl⟩
    dsimp only [nthD]
    have hsk := stK_sz a (e - a) md i0 d k
    have hnx' : stK a (e - a) md i0 d (k + 1) = Sort.breakStep a (e - a) md (stK a (e - a) md i0 d k) (i0 + k) := rfl
    generalize hstk : stK a (e - a) md i0 d k = st at *
    rw [hq 2 rfl, add1 (by omega), leqN]
    refine condB (fun hg => ?_) (fun hg => ?_)
    · have hg : i0 + k ≤ a + (e - a) / 4 * 2 + 1 := of_decide_eq_true hg
      refine joinV_spec (fun zs M' => M' = PM (XM M1 s TX (stK a (e - a) md i0 d (k + 1)).1) b T (stK a (e - a) md i0 d (k + 1)).2) ?_ ?_
      · rintro zs M' rfl
        rw [add1 (by omega)]
        exact hnext _ _ _ (by omega) ⟨k + 1, rfl, by omega, rfl, rfl⟩
      intro J hJ
      refine hx hsb ?_
      rw [hnx'] at hJ
      unfold Sort.breakStep at hJ
      dsimp only at hJ
      generalize Sort.xorNext st.1 = r at *
      rw [intW_sub, wrap_u64_id (by omega) (by omega), show (md : Int) - 1 = ((md - 1 : Nat) : Int) by omega, intW_and, andI_nat rfl]
      have hlt : r.toNat &&& (md - 1) < md := by
        rw [← hmd, Nat.and_two_pow_sub_one_eq_mod]
        exact Nat.mod_lt _ (by rw [hmd]; omega)
      rw [Nat.mod_eq_of_lt (show r.toNat &&& (md - 1) < 2 ^ ubits .u64 by show _ < 2 ^ 64; omega)]
      generalize r.toNat &&& (md - 1) = o at *
      rw [cvtW_N, wrap_i64_id (by omega) (by omega)]
      refine joinV_spec (fun zs M' => zs = [N .i64 (((if o ≥ e - a then o - (e - a) else o) : Nat) : Int)] ∧ M' = PM (XM M1 s TX r) b T st.2) ?_ ?_
      · rintro zs M' ⟨rfl, rfl⟩
        dsimp only [nthD]
        have ho : (if o ≥ e - a then o - (e - a) else o) < e - a := by split <;> omega
        generalize (if o ≥ e - a then o - (e - a) else o) = o2 at *
        rw [addN (by omega), addN (by omega), PM.rd hsk.symm (by omega), PM.rd hsk.symm (by omega), PM.swap hsk.symm (by omega) (by omega)]
        exact hJ _ _ rfl
      intro J4 hJ4
      rw [geqN]
      refine condB (fun hg2 => ?_) (fun hg2 => ?_)
      · have hg2 : o ≥ e - a := of_decide_eq_true hg2
        rw [subN (by omega) (by omega)]
        exact hJ4 _ _ ⟨by rw [if_pos hg2], rfl⟩
      · exact hJ4 _ _ ⟨by rw [if_neg (of_decide_eq_false hg2)], rfl⟩
    · have hg : ¬ i0 + k ≤ a + (e - a) / 4 * 2 + 1 := of_decide_eq_false hg
      have h3 : k = 3 := by omega
      subst h3
      rw [hstk] at hQ
      exact hQ _ (kS _)
  · rw [if_neg (of_decide_eq_false h8)] at hQ
    exact hQ M (Keep.refl _ _)
end Go.Ab.Dot
set_option maxRecDepth 10000
set_option linter.unusedVariables false
set_option linter.unusedSimpArgs false
namespace Go.Ab.Dot
open Go Go.Ab
theorem swo_lN : Sort.SWO lN where
  irrefl x := by simp [lN]
  trans x y z := by simp [lN]; omega
  ntrans x y z := by simp [lN]; omega
def pdqC (d3 : Array Nat) (a e pv limit : Nat) (wb wp : Bool) : Array Nat :=
  if a > 0 && !lN d3[a - 1]! d3[pv]! then
    match Sort.partitionEqual lN d3 a e pv with
    | (mid, d4) => if _h : a < mid ∧ mid ≤ e then Sort.pdq lN d4 mid e limit wb wp else d4
  else
    match Sort.partition lN d3 a e pv with
    | (mid, ap, d4) =>
      if _h : a ≤ mid ∧ mid < e then
        if mid - a < e - mid then Sort.pdq lN (Sort.pdq lN d4 a mid limit true true) (mid + 1) e limit (decide (mid - a ≥ (e - a) / 8)) ap
        else Sort.pdq lN (Sort.pdq lN d4 (mid + 1) e limit true true) a mid limit (decide (e - mid ≥ (e - a) / 8)) ap
      else d4
def pdqP (pi : Array Nat × Bool) (a e pv limit : Nat) (wb wp : Bool) : Array Nat := if pi.2 then pi.1 else pdqC pi.1 a e pv limit wb wp
def pdqB (d2 : Array Nat) (a e pv : Nat) (hint : Sort.Hint) (limit : Nat) (wb wp : Bool) : Array Nat :=
  pdqP (if wb && wp && hint = .increasing then Sort.partialInsertionSort lN d2 a e else (d2, false)) a e pv limit wb wp
def pdqA (d1 : Array Nat) (a e limit : Nat) (wb wp : Bool) : Array Nat :=
  pdqB (if (Sort.choosePivot lN d1 a e).2 = .decreasing then Sort.reverseRange d1 a e else d1) a e (if (Sort.choosePivot lN d1 a e).2 = .decreasing then (e - 1) - ((Sort.choosePivot lN d1 a e).1 - a) else (Sort.choosePivot lN d1 a e).1)
    (if (Sort.choosePivot lN d1 a e).2 = .decreasing then .increasing else (Sort.choosePivot lN d1 a e).2) limit wb wp
theorem pdq_eq (d : Array Nat) (a e limit : Nat) (wb wp : Bool) : Sort.pdq lN d a e limit wb wp =
    if e - a ≤ 12 then Sort.insertionSort lN d a e else if limit = 0 then Sort.heapSort lN d a e else pdqA (if !wb then Sort.breakPatterns d a e else d) a e (if !wb then limit - 1 else limit) wb wp := by
  rw [Sort.pdq]; rfl
theorem insOuter_sz (a e : Nat) : ∀ (k i : Nat) (d : Array Nat), e - i ≤ k → (Sort.insOuter lN a e i d).size = d.size
  | 0, i, d, h => by rw [Sort.insOuter, if_neg (by omega)]
  | k + 1, i, d, h => by
    rw [Sort.insOuter]
    split
    · rw [insOuter_sz a e k _ _ (by omega), insInner_sz]
    · rfl
theorem ins_sz (d : Array Nat) (a e : Nat) : (Sort.insertionSort lN d a e).size = d.size := insOuter_sz a e _ _ _ (Nat.le_refl _)
theorem pop_sz (first : Nat) : ∀ (k : Nat) (d : Array Nat), (Sort.heapPop lN first k d).size = d.size
  | 0, d => rfl
  | k + 1, d => by rw [Sort.heapPop, pop_sz first k, sift_sz _ _ k _ _ (by omega), swp_sz]
theorem heapS_sz (d : Array Nat) (a e : Nat) : (Sort.heapSort lN d a e).size = d.size := by rw [Sort.heapSort, pop_sz, build_sz]
theorem revLoop_sz : ∀ (k i j : Nat) (d : Array Nat), j - i ≤ k → (Sort.reverseLoop i j d).size = d.size
  | 0, i, j, d, h => by rw [Sort.reverseLoop, if_neg (by omega)]
  | k + 1, i, j, d, h => by
    rw [Sort.reverseLoop]
    split
    · rw [revLoop_sz k _ _ _ (by omega), swp_sz]
    · rfl
theorem rev_sz (d : Array Nat) (a e : Nat) : (Sort.reverseRange d a e).size = d.size := revLoop_sz _ _ _ _ (Nat.le_refl _)
theorem breakStep_sz (a l m : Nat) (st : UInt64 × Array Nat) (i : Nat) : (Sort.breakStep a l m st i).2.size = st.2.size := swp_sz _ _ _
theorem break_sz (d : Array Nat) (a e : Nat) : (Sort.breakPatterns d a e).size = d.size := by
  unfold Sort.breakPatterns
  dsimp only
  split
  · rw [breakStep_sz, breakStep_sz, breakStep_sz]
  · rfl
theorem partE_sz (d : Array Nat) (a e pv : Nat) (h : a < e) : (Sort.partitionEqual lN d a e pv).2.size = d.size ∧ a < (Sort.partitionEqual lN d a e pv).1 ∧ (Sort.partitionEqual lN d a e pv).1 ≤ e := by
  unfold Sort.partitionEqual
  have := partEqLoop_rng a _ (a + 1) (e - 1) (Sort.swp d a pv) (Nat.le_refl _)
  rw [swp_sz] at this
  omega
theorem part_sz (d : Array Nat) (a e pv : Nat) : (Sort.partition lN d a e pv).2.2.size = d.size := by
  rw [partition_eq]
  split
  · show (Sort.swp _ _ _).size = _
    rw [swp_sz, swp_sz]
  · show (Sort.swp _ _ _).size = _
    rw [swp_sz, (partLoop_sz a _ _ _ _ (Nat.le_refl _)).2, swp_sz, swp_sz]
theorem pdq_sz : ∀ (n : Nat) (d : Array Nat) (a e limit : Nat) (wb wp : Bool), e - a ≤ n → (Sort.pdq lN d a e limit wb wp).size = d.size
  | n, d, a, e, limit, wb, wp, hn => by
    rw [pdq_eq]
    split
    · exact ins_sz d a e
    split
    · exact heapS_sz d a e
    have h1 : (if !wb then Sort.breakPatterns d a e else d).size = d.size := by split; exact break_sz d a e; rfl
    rw [← h1]
    generalize (if !wb then Sort.breakPatterns d a e else d) = d1
    unfold pdqA
    have h2 : (if (Sort.choosePivot lN d1 a e).2 = .decreasing then Sort.reverseRange d1 a e else d1).size = d1.size := by split; exact rev_sz d1 a e; rfl
    rw [← h2]
    generalize (if (Sort.choosePivot lN d1 a e).2 = .decreasing then Sort.reverseRange d1 a e else d1) = d2
    generalize (if (Sort.choosePivot lN d1 a e).2 = .decreasing then (e - 1) - ((Sort.choosePivot lN d1 a e).1 - a) else (Sort.choosePivot lN d1 a e).1) = pv
    generalize (if (Sort.choosePivot lN d1 a e).2 = .decreasing then Sort.Hint.increasing else (Sort.choosePivot lN d1 a e).2) = hint
    unfold pdqB
    have h3 : (if wb && wp && hint = .increasing then Sort.partialInsertionSort lN d2 a e else (d2, false)).1.size = d2.size := by
      split
      · exact partIns_sz a e _ _ _
      · rfl
    rw [← h3]
    generalize (if wb && wp && hint = .increasing then Sort.partialInsertionSort lN d2 a e else (d2, false)) = pi
    unfold pdqP
    split
    · rfl
    unfold pdqC
    have hE := partE_sz pi.1 a e pv
    have hP := part_sz pi.1 a e pv
    generalize Sort.partitionEqual lN pi.1 a e pv = pe at *
    generalize Sort.partition lN pi.1 a e pv = pp at *
    obtain ⟨mid, d4⟩ := pe
    obtain ⟨mid2, ap, d5⟩ := pp
    cases n with
    | zero => omega
    | succ n =>
      split
      · dsimp only
        split
        · rw [pdq_sz n _ _ _ _ _ _ (by omega)]
          exact (hE (by omega)).1
        · exact (hE (by omega)).1
      · dsimp only at hP ⊢
        split
        · split
          · rw [pdq_sz n _ _ _ _ _ _ (by omega), pdq_sz n _ _ _ _ _ _ (by omega)]; exact hP
          · rw [pdq_sz n _ _ _ _ _ _ (by omega), pdq_sz n _ _ _ _ _ _ (by omega)]; exact hP
        · exact hP
def PdqX (T m : Nat) (c : CallT) : Prop := ∀ {M : RM} {b a e limit : Nat} {d : Array Nat} {Q : PostV}, b < M.next → d.size ≤ 60000 → a ≤ e → e ≤ d.size → e - a < m → limit ≤ 1000000 → (∀ M', Keep [] M M' → Q (.tup []) (PM M' b T (Sort.pdq lN d a e limit true true))) →
  c [vv b d.size, N .i64 (a : Int), N .i64 (e : Int), N .i64 (limit : Int)] (PM M b T d) Q
theorem pdqx_spec {T m : Nat} {ci ch cb cc cr cp cl ce ct cq : CallT} (hi : SortW T (Sort.insertionSort lN) (fun _ _ _ => True) ci) (hh : SortW T (Sort.heapSort lN) (fun _ a e => a < e) ch) (hb : BreakX T cb) (hc : ChooseX T cc) (hr : SortW T Sort.reverseRange (fun _ a e => a < e) cr)
    (hp : PartInsX T cp) (hl : LessC cl) (he : PartEqC T ce) (ht : PartC T ct) (hq : PdqX T m cq) : PdqX T (m + 1) fun args M Q => ∃ a0 a1 a2 a3, args = [a0, a1, a2, a3] ∧ W_pdqsortOrdered_uint64 ci ch cb cc cr cp cl ce ct cq a0 a1 a2 a3 M Q := by
  intro M b a e limit d Q hbn hsz hae hed hm hlim hQ
  refine ⟨_, _, _, _, rfl, ?_⟩
  unfold W_pdqsortOrdered_uint64
  simp only [fuseK, fuseKM, fuseMK, joinW_shut]
  obtain ⟨R, hR⟩ : ∃ R, R = Sort.pdq lN d a e limit true true := ⟨_, rfl⟩
  rw [← hR] at hQ
  refine loopW_ind (fun m' ys M3 => ∃ (a e limit : Nat) (wb wp : Bool) (d3 : Array Nat) (M4 : RM), m' = e - a ∧ ys = [N .i64 (a : Int), N .i64 (e : Int), N .i64 (limit : Int), Bo wb, Bo wp] ∧ a ≤ e ∧ e ≤ d.size ∧ e - a < m + 1 ∧ limit ≤ 1000000 ∧ M3 = PM M4 b T d3 ∧ Keep [] M M4 ∧ d3.size = d.size ∧ R = Sort.pdq lN d3 a e limit wb wp) _
    ⟨a, e, limit, true, true, d, M, rfl, rfl, hae, hed, hm, hlim, rfl, Keep.refl _ _, rfl, hR⟩ ?_
  clear hR hae hed hm hlim
  rintro next m' ys M3 hnext ⟨a, e, limit, wb, wp, d3, M4, rfl, rfl, hae, hed, hm, hlim, rfl, k4, hs3, hR⟩
  dsimp only [nthD]
  have hb4 : b < M4.next := Nat.lt_of_lt_of_le hbn k4.next
  rw [pdq_eq] at hR
  rw [subN hae (by omega), show (12 : Int) = ((12 : Nat) : Int) from rfl, leqN]
  refine condB (fun hg => ?_) (fun hg => ?_)
  · rw [if_pos (of_decide_eq_true hg)] at hR
    rw [← hs3]
    refine hi hb4 (by omega) hae (by omega) trivial ?_
    rw [← hR]
    exact hQ M4 k4
  have hg : ¬ e - a ≤ 12 := of_decide_eq_false hg
  rw [if_neg hg] at hR
  rw [show (0 : Int) = ((0 : Nat) : Int) from rfl, eqlN]
  refine condB (fun hg0 => ?_) (fun hg0 => ?_)
  · rw [if_pos (of_decide_eq_true hg0)] at hR
    rw [← hs3]
    refine hh hb4 (by omega) hae (by omega) (by omega) ?_
    rw [← hR]
    exact hQ M4 k4
  have hg0 : ¬ limit = 0 := of_decide_eq_false hg0
  rw [if_neg hg0] at hR
  refine joinV_spec (fun zs M' => ∃ (M5 : RM), zs = [N .i64 (((if !wb then limit - 1 else limit) : Nat) : Int)] ∧ M' = PM M5 b T (if !wb then Sort.breakPatterns d3 a e else d3) ∧ Keep [] M M5) ?_ ?_
  · rintro zs M' ⟨M5, rfl, rfl, k5⟩
    dsimp only [nthD]
    have hs5 : (if !wb then Sort.breakPatterns d3 a e else d3).size = d.size := by
      split
      · rw [break_sz, hs3]
      · exact hs3
    have hl5 : (if !wb then limit - 1 else limit) ≤ 1000000 := by split <;> omega
    generalize (if !wb then Sort.breakPatterns d3 a e else d3) = d5 at *
    generalize (if !wb then limit - 1 else limit) = lim at *
    have hb5 : b < M5.next := Nat.lt_of_lt_of_le hbn k5.next
    rw [← hs5]
    refine hc hb5 (by omega) (by omega) (by omega) fun M6 k6 => ?_
    rw [hs5]
    have hcr := Sort.choosePivot_holds lN d5 a e (by omega)
    unfold pdqA at hR
    generalize Sort.choosePivot lN d5 a e = cpv at *
    have k6' := k5.trans k6
    have hb6 : b < M6.next := Nat.lt_of_lt_of_le hbn k6'.next
    rw [extW0, extW1]
    refine joinV_spec (fun zs M' => zs = [N .i64 (((if cpv.2 = .decreasing then (e - 1) - (cpv.1 - a) else cpv.1) : Nat) : Int), N .i64 (hintV (if cpv.2 = .decreasing then .increasing else cpv.2))] ∧ M' = PM M6 b T (if cpv.2 = .decreasing then Sort.reverseRange d5 a e else d5)) ?_ ?_
    · rintro zs M' ⟨rfl, rfl⟩
      dsimp only [nthD]
      have hs7 : (if cpv.2 = .decreasing then Sort.reverseRange d5 a e else d5).size = d.size := by
        split
        · rw [rev_sz, hs5]
        · exact hs5
      have hpv : a ≤ (if cpv.2 = .decreasing then (e - 1) - (cpv.1 - a) else cpv.1) ∧ (if cpv.2 = .decreasing then (e - 1) - (cpv.1 - a) else cpv.1) < e := by
        split <;> omega
      generalize (if cpv.2 = .decreasing then Sort.reverseRange d5 a e else d5) = d7 at *
      generalize (if cpv.2 = .decreasing then (e - 1) - (cpv.1 - a) else cpv.1) = pv at *
      generalize (if cpv.2 = .decreasing then Sort.Hint.increasing else cpv.2) = hint at *
      unfold pdqB pdqP at hR
      -- behind the short insertion sort
      have rest : ∀ d8 : Array Nat, d8.size = d.size → R = pdqC d8 a e pv lim wb wp → ∀ (J : PostV), True → intW .gtr (N .i64 (a : Int)) (N .i64 ((0 : Nat) : Int)) fun t74 =>
          guardK t74 true (fun k' => intW .sub (N .i64 (a : Int)) (N .i64 1) fun t78 => idxS (vv b d.size) t78 1 fun t79 => load1 (PM M6 b T d8) t79 fun t80 => idxS (vv b d.size) (N .i64 (pv : Int)) 1 fun t83 => load1 (PM M6 b T d8) t83 fun t84 => cl [t80, t84] (PM M6 b T d8) fun t85 M_52 => notW t85 fun t86 => k' t86 M_52 none) (fun k => k .undef (PM M6 b T d8) none) fun t86_56 M_57 b_58 =>
          pickW t74 t86_56 (Bo false) fun t87 => condW t87 (
            ce [vv b d.size, N .i64 (a : Int), N .i64 (e : Int), N .i64 (pv : Int)] M_57 fun t92 M_59 => next [t92, N .i64 (e : Int), N .i64 (lim : Int), Bo wb, Bo wp] M_59) (
            ct [vv b d.size, N .i64 (a : Int), N .i64 (e : Int), N .i64 (pv : Int)] M_57 fun t99 M_60 => extW t99 0 fun t100 => extW t99 1 fun t101 => intW .sub t100 (N .i64 (a : Int)) fun t105 => intW .sub (N .i64 (e : Int)) t100 fun t108 =>
            intW .quo (N .i64 ((e - a : Nat) : Int)) (N .i64 8) fun t110 => intW .lss t105 t108 fun t113 => condW t113 (intW .geq t105 t110 fun t116 => cq [vv b d.size, N .i64 (a : Int), t100, N .i64 (lim : Int)] M_60 fun t121 M_61 => intW .add t100 (N .i64 1) fun t123 => next [t123, N .i64 (e : Int), N .i64 (lim : Int), t116, t101] M_61) (
            intW .geq t108 t110 fun t126 => intW .add t100 (N .i64 1) fun t129 => cq [vv b d.size, t129, N .i64 (e : Int), N .i64 (lim : Int)] M_60 fun t132 M_62 => next [N .i64 (a : Int), t100, N .i64 (lim : Int), t126, t101] M_62)) := fun d8 hs8 hR8 _ _ => by
        unfold pdqC at hR8
        rw [gtrN]
        refine andK (p := !lN d8[a - 1]! d8[pv]!) (fun hc k hk => ?_) ?_
        · have hc : a > 0 := of_decide_eq_true hc
          rw [sub1 (by omega) (by omega), PM.rd hs8.symm (by omega), PM.rd hs8.symm (by omega)]
          refine hl ?_
          rw [notW_Bo]
          exact hk
        refine condB (fun h => ?_) (fun h => ?_)
        · rw [if_pos h] at hR8
          rw [← hs8]
          refine he hb6 (by omega) hpv.1 hpv.2 (by omega) ?_
          have hE := partE_sz d8 a e pv (by omega)
          generalize Sort.partitionEqual lN d8 a e pv = pe at *
          dsimp only at hR8
          rw [dif_pos ⟨hE.2.1, hE.2.2⟩] at hR8
          exact hnext _ _ _ (by omega) ⟨pe.1, e, lim, wb, wp, pe.2, M6, rfl, rfl, hE.2.2, hed, by omega, hl5, rfl, k6', by rw [hE.1, hs8], hR8⟩
        · rw [if_neg (by rw [h]; decide)] at hR8
          rw [← hs8]
          refine ht hb6 (by omega) hpv.1 hpv.2 (by omega) ?_
          have hT := Sort.partition_holds lN swo_lN d8 a e pv hpv.1 hpv.2 (by omega)
          have hTs := part_sz d8 a e pv
          generalize Sort.partition lN d8 a e pv = pp at *
          obtain ⟨mid, ap, d9⟩ := pp
          dsimp only at hR8 hT hTs ⊢
          rw [dif_pos ⟨hT.1, hT.2.1⟩] at hR8
          have hT1 := hT.1
          have hT2 := hT.2.1
          rw [extW0, extW1, subN hT1 (by omega), subN (by omega) (by omega), intW_quo]
          refine ⟨by decide, ?_⟩
          rw [show (8 : Int) = ((8 : Nat) : Int) from rfl, quo_nat, wrap_i64_id (by omega) (by omega), lssN]
          refine condB (fun hc1 => ?_) (fun hc1 => ?_)
          · have hc1 : mid - a < e - mid := of_decide_eq_true hc1
            rw [if_pos hc1] at hR8
            rw [geqN, ← hTs]
            refine hq hb6 (by omega) hT1 (by omega) (by omega) hl5 fun M7 k7 => ?_
            rw [add1 (by omega)]
            exact hnext _ _ _ (by omega) ⟨mid + 1, e, lim, _, ap, _, M7, rfl, rfl, by omega, hed, by omega, hl5, rfl, k6'.trans k7, by rw [pdq_sz _ _ _ _ _ _ _ (Nat.le_refl _), hTs, hs8], hR8⟩
          · have hc1 : ¬ mid - a < e - mid := of_decide_eq_false hc1
            rw [if_neg hc1] at hR8
            rw [geqN, add1 (by omega), ← hTs]
            refine hq hb6 (by omega) (by omega) (by omega) (by omega) hl5 fun M7 k7 => ?_
            exact hnext _ _ _ (by omega) ⟨a, mid, lim, _, ap, _, M7, rfl, rfl, hT1, by omega, by omega, hl5, rfl, k6'.trans k7, by rw [pdq_sz _ _ _ _ _ _ _ (Nat.le_refl _), hTs, hs8], hR8⟩
      refine joinV_spec (fun zs M' => ∃ d8 : Array Nat, M' = PM M6 b T d8 ∧ d8.size = d.size ∧ R = pdqC d8 a e pv lim wb wp) ?_ ?_
      · rintro zs M' ⟨d8, rfl, hs8, hR8⟩
        exact rest d8 hs8 hR8 (fun _ _ => True) trivial
      intro J10 hJ10
      have no : ¬ (wb && wp && decide (hint = .increasing)) = true → J10 [] (PM M6 b T d7) := fun hn => by
        have hpi : (if (wb && wp && decide (hint = .increasing)) = true then Sort.partialInsertionSort lN d7 a e else (d7, false)) = (d7, false) := if_neg hn
        rw [hpi] at hR
        exact hJ10 _ _ ⟨d7, rfl, hs7, hR⟩
      cases wb with
      | false =>
        rw [guardM_FT]
        dsimp only
        rw [pickF, guardM_FT]
        dsimp only
        rw [guardM_FT]
        dsimp only
        rw [pickF, condF]
        exact no (by simp)
      | true =>
        rw [guardM_TT]
        dsimp only
        rw [pickT]
        cases wp with
        | false =>
          rw [guardM_FT]
          dsimp only
          rw [guardM_FT]
          dsimp only
          rw [pickF, condF]
          exact no (by simp)
        | true =>
          rw [guardM_TT]
          dsimp only
          rw [guardM_TT]
          dsimp only
          rw [intW_eql, pickT]
          by_cases hin : hint = .increasing
          · rw [show (hintV hint == 1) = true by rw [hin]; rfl, condT]
            have hpi : (if (true && true && decide (hint = .increasing)) = true then Sort.partialInsertionSort lN d7 a e else (d7, false)) = Sort.partialInsertionSort lN d7 a e := if_pos (by simp [hin])
            rw [hpi] at hR
            rw [← hs7]
            refine hp hb6 (by omega) (by omega) (by omega) ?_
            have hs8 : (Sort.partialInsertionSort lN d7 a e).1.size = d.size := by
              rw [Sort.partialInsertionSort, partIns_sz, hs7]
            generalize Sort.partialInsertionSort lN d7 a e = pi at *
            refine condB (fun h => ?_) (fun h => ?_)
            · rw [if_pos h] at hR
              rw [← hR]
              exact hQ M6 k6'
            · rw [if_neg (by rw [h]; decide)] at hR
              exact hJ10 _ _ ⟨pi.1, rfl, hs8, hR⟩
          · rw [show (hintV hint == 1) = false by cases hint <;> first | rfl | exact absurd rfl hin, condF]
            exact no (by simp [hin])
    intro J6 hJ6
    rw [intW_eql]
    by_cases hdec : cpv.2 = .decreasing
    · rw [show (hintV cpv.2 == 2) = true by rw [hdec]; rfl, condT, ← hs5]
      refine hr hb6 (by omega) hae (by omega) (by omega) ?_
      rw [sub1 (by omega) (by omega), subN (by omega) (by omega), subN (by omega) (by omega)]
      exact hJ6 _ _ ⟨by rw [if_pos hdec, if_pos hdec]; rfl, by rw [if_pos hdec]⟩
    · rw [show (hintV cpv.2 == 2) = false by cases h : cpv.2 <;> first | rfl | exact absurd h hdec, condF]
      exact hJ6 _ _ ⟨by rw [if_neg hdec, if_neg hdec], by rw [if_neg hdec]⟩
  intro J hJ
  rw [notW_Bo]
  cases wb with
  | true =>
    rw [Bool.not_true, condF]
    exact hJ _ _ ⟨M4, rfl, rfl, k4⟩
  | false =>
    rw [Bool.not_false, condT, ← hs3]
    refine hb hb4 (by omega) hae (by omega) fun M5 k5 => ?_
    rw [sub1 (by omega) (by omega)]
    exact hJ _ _ ⟨M5, rfl, rfl, k4.trans k5⟩
end Go.Ab.Dot
set_option maxRecDepth 10000
set_option linter.unusedVariables false
set_option linter.unusedSimpArgs false
namespace Go.Ab.Crw
open Go Go.Ab Go.Ab.Dot
section
variable {α : Type} [Inhabited α] {E : Enc α} {M M' : RM} {T b z n i j : Nat} {d : Array α}
structure At (E : Enc α) (T b : Nat) (d : Array α) (M : RM) : Prop where
  heap : M.heap b = some (.row (E.row d.toList) true T 0)
  lt : b < M.next
abbrev sv (b n z : Nat) : AV := .slc b 0 n (.op z)
theorem At.keep {α : Type} {E : Enc α} {d : Array α} (h : At E T b d M) (k : Keep [] M M') : At E T b d M' := ⟨k.heap_of h.heap h.lt (by simp), Nat.lt_of_lt_of_le h.lt k.next⟩
theorem bang (hi : i < d.size) : d[i]! = d[i] := getElem!_pos d i hi
theorem At.idx {kd : IntKind} {K : AV → Prop} (hi : i < n) : idxS (sv b n z) (N kd (i : Int)) z K = K (.ptr b (i * z)) := by
  rw [idxS_slc]
  simp only [Int.toNat_natCast]
  rw [Nat.zero_add]
  exact propext ⟨fun h => h.2.2, fun h => ⟨by omega, by omega, h⟩⟩
theorem At.ld (h : At E T b d M) (hz : E.size = z) (hi : i < d.size) {K : AV → Prop} : loadN M (.ptr b (i * z)) z K = K (.agg (E.cells d[i]!)) := by
  subst hz
  have hl : M.loads b (i * E.size) E.size = some (E.cells d[i]!) := by
    have hlen : (E.row d.toList).length = d.size * E.size := by rw [Enc.row_len, Array.length_toList]
    have hsum : i * E.size + E.size ≤ d.size * E.size := by rw [← Nat.succ_mul]; exact Nat.mul_le_mul_right _ hi
    rw [RM.loads_row h.heap (by omega), E.row_get (by rw [Array.length_toList]; exact hi), bang hi]
    simp
  rw [loadN_ptr, hl]
  simp
theorem At.rd (h : At E T b d M) (hz : E.size = z) (hn : n = d.size) (hi : i < d.size) {kd : IntKind} {K : AV → Prop} : (idxS (sv b n z) (N kd (i : Int)) z fun p => loadN M p z K) = K (.agg (E.cells d[i]!)) := by
  rw [At.idx (by omega), h.ld hz hi]
theorem row_set {α : Type} {E : Enc α} {l : List α} {i : Nat} {x : α} (hi : i < l.length) : (E.row l).take (i * E.size) ++ E.cells x ++ (E.row l).drop (i * E.size + E.size) = E.row (l.set i x) := by
  rw [List.set_eq_take_append_cons_drop, if_pos hi, E.row_append, E.row_cons, E.row_take, ← Nat.succ_mul, E.row_drop, List.append_assoc]
theorem At.st {α : Type} {E : Enc α} {d : Array α} (h : At E T b d M) (hz : E.size = z) (hi : i < d.size) {x : α} {K : RM → Prop} (hK : ∀ M', At E T b (d.setIfInBounds i x) M' → Keep [b] M M' → M'.next = M.next → K M') : storeW M (.ptr b (i * z)) (.agg (E.cells x)) z K := by
  subst hz
  have hlen : (E.row d.toList).length = d.size * E.size := by rw [Enc.row_len, Array.length_toList]
  have hsum : i * E.size + E.size ≤ d.size * E.size := by rw [← Nat.succ_mul]; exact Nat.mul_le_mul_right _ hi
  rw [storeW_ptr]
  refine ⟨E.len x, _, RM.stores_row h.heap (by show i * E.size + (E.cells x).length ≤ _; rw [E.len]; omega) (Nat.zero_le _) (E.one x), ?_⟩
  refine hK _ ⟨?_, h.lt⟩ ((Keep.refl _ _).put _ (.inr (by simp))) rfl
  rw [heap_put_eq]
  have hi' : i < d.toList.length := by rw [Array.length_toList]; exact hi
  have := row_set (E := E) (x := x) hi'
  rw [Array.toList_setIfInBounds, ← this]
  show some (RB.row ((E.row d.toList).take (i * E.size) ++ E.cells x ++ (E.row d.toList).drop (i * E.size + (E.cells x).length)) true T 0) = _
  rw [E.len]
theorem sz_swp (d : Array α) (i j : Nat) : (Sort.swp d i j).size = d.size := by simp [Sort.swp]
theorem At.swap (h : At E T b d M) (hz : E.size = z) (hn : n = d.size) (hi : i < d.size) (hj : j < d.size) {k1 k2 : IntKind} {K : RM → Prop} (hK : ∀ M', At E T b (Sort.swp d i j) M' → Keep [b] M M' → K M') :
    idxS (sv b n z) (N k1 (i : Int)) z fun p => storeW M p (.agg (E.cells d[j]!)) z fun M1 => idxS (sv b n z) (N k2 (j : Int)) z fun q => storeW M1 q (.agg (E.cells d[i]!)) z K := by
  rw [At.idx (by omega)]
  refine h.st hz hi fun M1 h1 k1 _ => ?_
  rw [At.idx (by omega)]
  refine h1.st hz (by simpa using hj) fun M2 h2 k2 _ => ?_
  exact hK M2 h2 (k1.trans k2)
def CmpC (E : Enc α) (lt : α → α → Bool) (c : List AV → RM → PostV → Prop) : Prop := ∀ {M : RM} {x y : α} {Q : PostV}, (∀ (n : Int) M', decide (n < 0) = lt x y → Keep [] M M' → Q (N .i64 n) M') → c [.agg (E.cells x), .agg (E.cells y)] M Q
theorem CmpC.use {α : Type} {E : Enc α} {lt : α → α → Bool} {c : List AV → RM → PostV → Prop} (h : CmpC E lt c) {M : RM} {x y : α} {K : AV → RM → Prop} (hK : ∀ M', Keep [] M M' → K (Bo (lt x y)) M') :
    c [.agg (E.cells x), .agg (E.cells y)] M fun t M' => intW .lss t (N .i64 0) fun u => K u M' := by
  refine h fun n M' hn k => ?_
  rw [intW_lss, hn]
  exact hK M' k
def SortG (E : Enc α) (T z : Nat) (fv : AV) (f : Array α → Nat → Nat → Array α) (P : Array α → Nat → Nat → Prop) (c : CallT) : Prop := ∀ {M : RM} {b a e : Nat} {d : Array α} {Q : PostV}, At E T b d M → d.size ≤ 60000 → a ≤ e → e ≤ d.size → P d a e → (∀ M', At E T b (f d a e) M' → Keep [b] M M' → Q (.tup []) M') →
  c [sv b d.size z, N .i64 (a : Int), N .i64 (e : Int), fv] M Q
end
section
variable {α : Type} [Inhabited α] (lt : α → α → Bool)
theorem g_insInner (a : Nat) : ∀ (j : Nat) (d : Array α), (Sort.insInner lt a j d).size = d.size
  | 0, d => rfl
  | j + 1, d => by
    rw [Sort.insInner]
    split
    · rw [g_insInner a j, sz_swp]
    · rfl
theorem g_insOuter (a e : Nat) : ∀ (k i : Nat) (d : Array α), e - i ≤ k → (Sort.insOuter lt a e i d).size = d.size
  | 0, i, d, h => by rw [Sort.insOuter, if_neg (by omega)]
  | k + 1, i, d, h => by
    rw [Sort.insOuter]
    split
    · rw [g_insOuter a e k _ _ (by omega), g_insInner]
    · rfl
theorem g_ins (d : Array α) (a e : Nat) : (Sort.insertionSort lt d a e).size = d.size := g_insOuter lt a e _ _ _ (Nat.le_refl _)
theorem g_sift (hi first : Nat) : ∀ (k lo : Nat) (d : Array α), hi - lo ≤ k → (Sort.siftDown lt hi first lo d).size = d.size
  | 0, lo, d, h => by rw [Sort.siftDown, dif_pos (by omega)]
  | k + 1, lo, d, h => by
    rw [Sort.siftDown]
    split
    · rfl
    · split
      · split
        · rfl
        · split
          · rw [g_sift hi first k _ _ (by omega), sz_swp]
          · rfl
      · split
        · rfl
        · rw [g_sift hi first k _ _ (by omega), sz_swp]
theorem g_build (hi first : Nat) : ∀ (k : Nat) (d : Array α), (Sort.heapBuild lt hi first k d).size = d.size
  | 0, d => rfl
  | k + 1, d => by rw [Sort.heapBuild, g_build hi first k, g_sift lt hi first hi _ _ (by omega)]
theorem g_pop (first : Nat) : ∀ (k : Nat) (d : Array α), (Sort.heapPop lt first k d).size = d.size
  | 0, d => rfl
  | k + 1, d => by rw [Sort.heapPop, g_pop first k, g_sift lt _ _ k _ _ (by omega), sz_swp]
theorem g_heap (d : Array α) (a e : Nat) : (Sort.heapSort lt d a e).size = d.size := by rw [Sort.heapSort, g_pop, g_build]
theorem g_revLoop : ∀ (k i j : Nat) (d : Array α), j - i ≤ k → (Sort.reverseLoop i j d).size = d.size
  | 0, i, j, d, h => by rw [Sort.reverseLoop, if_neg (by omega)]
  | k + 1, i, j, d, h => by
    rw [Sort.reverseLoop]
    split
    · rw [g_revLoop k _ _ _ (by omega), sz_swp]
    · rfl
theorem g_rev (d : Array α) (a e : Nat) : (Sort.reverseRange d a e).size = d.size := g_revLoop _ _ _ _ (Nat.le_refl _)
theorem g_breakStep (a l m : Nat) (st : UInt64 × Array α) (i : Nat) : (Sort.breakStep a l m st i).2.size = st.2.size := sz_swp _ _ _
theorem g_break (d : Array α) (a e : Nat) : (Sort.breakPatterns d a e).size = d.size := by
  unfold Sort.breakPatterns
  dsimp only
  split
  · rw [g_breakStep, g_breakStep, g_breakStep]
  · rfl
theorem g_shiftDown : ∀ (j : Nat) (d : Array α), (Sort.shiftDown lt j d).size = d.size
  | 0, d => rfl
  | j + 1, d => by
    rw [Sort.shiftDown]
    split
    · rfl
    · rw [g_shiftDown j, sz_swp]
theorem g_shiftUp (e : Nat) : ∀ (k j : Nat) (d : Array α), e - j ≤ k → (Sort.shiftUp lt e j d).size = d.size
  | 0, j, d, h => by rw [Sort.shiftUp, if_neg (by omega)]
  | k + 1, j, d, h => by
    rw [Sort.shiftUp]
    split
    · split
      · rfl
      · rw [g_shiftUp e k _ _ (by omega), sz_swp]
    · rfl
theorem g_partialIns_eq (a b s i : Nat) (d : Array α) : Sort.partialIns lt a b (s + 1) i d =
    if Sort.scanSorted lt d b i = b then (d, true) else if b - a < 50 then (d, false) else
      Sort.partialIns lt a b s (Sort.scanSorted lt d b i) (if b - Sort.scanSorted lt d b i ≥ 2 then Sort.shiftUp lt b (Sort.scanSorted lt d b i + 1) (if Sort.scanSorted lt d b i - a ≥ 2 then Sort.shiftDown lt (Sort.scanSorted lt d b i - 1) (Sort.swp d (Sort.scanSorted lt d b i) (Sort.scanSorted lt d b i - 1)) else Sort.swp d (Sort.scanSorted lt d b i) (Sort.scanSorted lt d b i - 1))
        else (if Sort.scanSorted lt d b i - a ≥ 2 then Sort.shiftDown lt (Sort.scanSorted lt d b i - 1) (Sort.swp d (Sort.scanSorted lt d b i) (Sort.scanSorted lt d b i - 1)) else Sort.swp d (Sort.scanSorted lt d b i) (Sort.scanSorted lt d b i - 1))) := rfl
theorem g_partIns (a e : Nat) : ∀ (s i : Nat) (d : Array α), (Sort.partialIns lt a e s i d).1.size = d.size
  | 0, i, d => rfl
  | s + 1, i, d => by
    rw [g_partialIns_eq]
    split
    · rfl
    · split
      · rfl
      · rw [g_partIns a e s]
        have h1 : ∀ x, (if x - a ≥ 2 then Sort.shiftDown lt (x - 1) (Sort.swp d x (x - 1)) else Sort.swp d x (x - 1)).size = d.size := fun x => by
          split
          · rw [g_shiftDown, sz_swp]
          · rw [sz_swp]
        split
        · rw [g_shiftUp lt e e _ _ (by omega), h1]
        · rw [h1]
theorem g_scanUp (p : α → Bool) (d : Array α) (J : Nat) : ∀ (n i : Nat), J + 1 - i ≤ n → i ≤ Sort.scanUp p d J i ∧ Sort.scanUp p d J i ≤ max (J + 1) i
  | 0, i, h => by
    rw [Sort.scanUp, if_neg (by simp; omega)]; omega
  | n + 1, i, h => by
    rw [Sort.scanUp]
    split
    · rename_i hc
      rw [Bool.and_eq_true] at hc
      have := of_decide_eq_true hc.1
      have := g_scanUp p d J n (i + 1) (by omega)
      omega
    · omega
theorem g_scanDown (p : α → Bool) (d : Array α) (i : Nat) : ∀ j, Sort.scanDown p d i j ≤ j
  | 0 => Nat.le_refl _
  | j + 1 => by
    rw [Sort.scanDown]
    split
    · have := g_scanDown p d i j; omega
    · omega
theorem g_partEqLoop (a : Nat) : ∀ (n i j : Nat) (d : Array α), j + 1 - i ≤ n → i ≤ (Sort.partEqLoop lt a i j d).1 ∧ (Sort.partEqLoop lt a i j d).1 ≤ max (j + 1) i ∧ (Sort.partEqLoop lt a i j d).2.size = d.size
  | n, i, j, d, h => by
    have h1 := g_scanUp (fun x => !lt d[a]! x) d j _ i (Nat.le_refl _)
    have h2 := g_scanDown (fun x => lt d[a]! x) d (Sort.scanUp (fun x => !lt d[a]! x) d j i) j
    rw [Sort.partEqLoop]
    generalize Sort.scanUp (fun x => !lt d[a]! x) d j i = i2 at *
    generalize Sort.scanDown (fun x => lt d[a]! x) d i2 j = j2 at *
    split
    · exact ⟨h1.1, h1.2, rfl⟩
    · split
      · cases n with
        | zero => omega
        | succ n =>
          have h3 := g_partEqLoop a n (i2 + 1) (j2 - 1) (Sort.swp d i2 j2) (by omega)
          rw [sz_swp] at h3
          omega
      · exact ⟨h1.1, h1.2, rfl⟩
theorem g_partLoop (a : Nat) : ∀ (n i j : Nat) (d : Array α), j + 1 - i ≤ n → (Sort.partLoop lt a i j d).1 ≤ j ∧ (Sort.partLoop lt a i j d).2.size = d.size
  | n, i, j, d, h => by
    have h1 := g_scanUp (fun x => lt x d[a]!) d j _ i (Nat.le_refl _)
    have h2 := g_scanDown (fun x => !lt x d[a]!) d (Sort.scanUp (fun x => lt x d[a]!) d j i) j
    rw [Sort.partLoop]
    generalize Sort.scanUp (fun x => lt x d[a]!) d j i = i2 at *
    generalize Sort.scanDown (fun x => !lt x d[a]!) d i2 j = j2 at *
    split
    · exact ⟨h2, rfl⟩
    · split
      · cases n with
        | zero => omega
        | succ n =>
          have h3 := g_partLoop a n (i2 + 1) (j2 - 1) (Sort.swp d i2 j2) (by omega)
          rw [sz_swp] at h3
          exact ⟨by omega, h3.2⟩
      · exact ⟨h2, rfl⟩
theorem g_partE (d : Array α) (a e pv : Nat) (h : a < e) : (Sort.partitionEqual lt d a e pv).2.size = d.size ∧ a < (Sort.partitionEqual lt d a e pv).1 ∧ (Sort.partitionEqual lt d a e pv).1 ≤ e := by
  unfold Sort.partitionEqual
  have := g_partEqLoop lt a _ (a + 1) (e - 1) (Sort.swp d a pv) (Nat.le_refl _)
  rw [sz_swp] at this
  omega
def pI (d2 : Array α) (a e : Nat) : Nat := Sort.scanUp (fun x => lt x d2[a]!) d2 (e - 1) (a + 1)
def pJ (d2 : Array α) (a e : Nat) : Nat := Sort.scanDown (fun x => !lt x d2[a]!) d2 (pI lt d2 a e) (e - 1)
def pL (d2 : Array α) (a e : Nat) : Nat × Array α := Sort.partLoop lt a (pI lt d2 a e + 1) (pJ lt d2 a e - 1) (Sort.swp d2 (pI lt d2 a e) (pJ lt d2 a e))
theorem g_partition_eq (d : Array α) (a e pv : Nat) : Sort.partition lt d a e pv =
    if pI lt (Sort.swp d a pv) a e > pJ lt (Sort.swp d a pv) a e then (pJ lt (Sort.swp d a pv) a e, true, Sort.swp (Sort.swp d a pv) (pJ lt (Sort.swp d a pv) a e) a)
    else ((pL lt (Sort.swp d a pv) a e).1, false, Sort.swp (pL lt (Sort.swp d a pv) a e).2 (pL lt (Sort.swp d a pv) a e).1 a) := rfl
theorem g_part (d : Array α) (a e pv : Nat) : (Sort.partition lt d a e pv).2.2.size = d.size := by
  rw [g_partition_eq]
  split
  · show (Sort.swp _ _ _).size = _
    rw [sz_swp, sz_swp]
  · show (Sort.swp _ _ _).size = _
    rw [sz_swp, pL, (g_partLoop lt a _ _ _ _ (Nat.le_refl _)).2, sz_swp, sz_swp]
def gC (d3 : Array α) (a e pv limit : Nat) (wb wp : Bool) : Array α :=
  if a > 0 && !lt d3[a - 1]! d3[pv]! then
    match Sort.partitionEqual lt d3 a e pv with
    | (mid, d4) => if _h : a < mid ∧ mid ≤ e then Sort.pdq lt d4 mid e limit wb wp else d4
  else
    match Sort.partition lt d3 a e pv with
    | (mid, ap, d4) =>
      if _h : a ≤ mid ∧ mid < e then
        if mid - a < e - mid then Sort.pdq lt (Sort.pdq lt d4 a mid limit true true) (mid + 1) e limit (decide (mid - a ≥ (e - a) / 8)) ap
        else Sort.pdq lt (Sort.pdq lt d4 (mid + 1) e limit true true) a mid limit (decide (e - mid ≥ (e - a) / 8)) ap
      else d4
def gP (pi : Array α × Bool) (a e pv limit : Nat) (wb wp : Bool) : Array α := if pi.2 then pi.1 else gC lt pi.1 a e pv limit wb wp
def gB (d2 : Array α) (a e pv : Nat) (hint : Sort.Hint) (limit : Nat) (wb wp : Bool) : Array α :=
  gP lt (if wb && wp && hint = .increasing then Sort.partialInsertionSort lt d2 a e else (d2, false)) a e pv limit wb wp
def gA (d1 : Array α) (a e limit : Nat) (wb wp : Bool) : Array α :=
  gB lt (if (Sort.choosePivot lt d1 a e).2 = .decreasing then Sort.reverseRange d1 a e else d1) a e (if (Sort.choosePivot lt d1 a e).2 = .decreasing then (e - 1) - ((Sort.choosePivot lt d1 a e).1 - a) else (Sort.choosePivot lt d1 a e).1)
    (if (Sort.choosePivot lt d1 a e).2 = .decreasing then .increasing else (Sort.choosePivot lt d1 a e).2) limit wb wp
theorem g_pdq_eq (d : Array α) (a e limit : Nat) (wb wp : Bool) : Sort.pdq lt d a e limit wb wp =
    if e - a ≤ 12 then Sort.insertionSort lt d a e else if limit = 0 then Sort.heapSort lt d a e else gA lt (if !wb then Sort.breakPatterns d a e else d) a e (if !wb then limit - 1 else limit) wb wp := by
  rw [Sort.pdq]; rfl
theorem g_pdq : ∀ (n : Nat) (d : Array α) (a e limit : Nat) (wb wp : Bool), e - a ≤ n → (Sort.pdq lt d a e limit wb wp).size = d.size
  | n, d, a, e, limit, wb, wp, hn => by
    rw [g_pdq_eq]
    split
    · exact g_ins lt d a e
    split
    · exact g_heap lt d a e
    have h1 : (if !wb then Sort.breakPatterns d a e else d).size = d.size := by split; exact g_break d a e; rfl
    rw [← h1]
    generalize (if !wb then Sort.breakPatterns d a e else d) = d1
    unfold gA
    have h2 : (if (Sort.choosePivot lt d1 a e).2 = .decreasing then Sort.reverseRange d1 a e else d1).size = d1.size := by split; exact g_rev d1 a e; rfl
    rw [← h2]
    generalize (if (Sort.choosePivot lt d1 a e).2 = .decreasing then Sort.reverseRange d1 a e else d1) = d2
    generalize (if (Sort.choosePivot lt d1 a e).2 = .decreasing then (e - 1) - ((Sort.choosePivot lt d1 a e).1 - a) else (Sort.choosePivot lt d1 a e).1) = pv
    generalize (if (Sort.choosePivot lt d1 a e).2 = .decreasing then Sort.Hint.increasing else (Sort.choosePivot lt d1 a e).2) = hint
    unfold gB
    have h3 : (if wb && wp && hint = .increasing then Sort.partialInsertionSort lt d2 a e else (d2, false)).1.size = d2.size := by
      split
      · exact g_partIns lt a e _ _ _
      · rfl
    rw [← h3]
    generalize (if wb && wp && hint = .increasing then Sort.partialInsertionSort lt d2 a e else (d2, false)) = pi
    unfold gP
    split
    · rfl
    unfold gC
    have hE := g_partE lt pi.1 a e pv
    have hP := g_part lt pi.1 a e pv
    generalize Sort.partitionEqual lt pi.1 a e pv = pe at *
    generalize Sort.partition lt pi.1 a e pv = pp at *
    obtain ⟨mid, d4⟩ := pe
    obtain ⟨mid2, ap, d5⟩ := pp
    cases n with
    | zero => omega
    | succ n =>
      split
      · dsimp only
        split
        · rw [g_pdq n _ _ _ _ _ _ (by omega)]
          exact (hE (by omega)).1
        · exact (hE (by omega)).1
      · dsimp only at hP ⊢
        split
        · split
          · rw [g_pdq n _ _ _ _ _ _ (by omega), g_pdq n _ _ _ _ _ _ (by omega)]; exact hP
          · rw [g_pdq n _ _ _ _ _ _ (by omega), g_pdq n _ _ _ _ _ _ (by omega)]; exact hP
        · exact hP
theorem g_order2 (d : Array α) (i j k : Nat) : (((Sort.order2 lt d i j k).1 = i ∧ (Sort.order2 lt d i j k).2.1 = j) ∨ ((Sort.order2 lt d i j k).1 = j ∧ (Sort.order2 lt d i j k).2.1 = i)) ∧ k ≤ (Sort.order2 lt d i j k).2.2 ∧ (Sort.order2 lt d i j k).2.2 ≤ k + 1 := by
  unfold Sort.order2
  split <;> simp
theorem g_median (d : Array α) {i j h k n : Nat} (hi : i < n) (hj : j < n) (hh : h < n) : (Sort.median lt d i j h k).1 < n ∧ (Sort.median lt d i j h k).2 ≤ k + 3 := by
  unfold Sort.median
  dsimp only
  have o1 := g_order2 lt d i j k
  generalize Sort.order2 lt d i j k = r1 at *
  have o2 := g_order2 lt d r1.2.1 h r1.2.2
  generalize Sort.order2 lt d r1.2.1 h r1.2.2 = r2 at *
  have o3 := g_order2 lt d r1.1 r2.1 r2.2.2
  omega
end
end Go.Ab.Crw
set_option maxRecDepth 10000
set_option linter.unusedVariables false
set_option linter.unusedSimpArgs false
namespace Go.Ab.Crw
open Go Go.Ab Go.Ab.Dot
section
variable {α : Type} [Inhabited α] {E : Enc α} {M M' : RM} {T b z n i j : Nat} {d : Array α} {ks : List Nat}
theorem At.keep' {α : Type} {E : Enc α} {d : Array α} (h : At E T b d M) (k : Keep ks M M') (hb : b ∉ ks) : At E T b d M' := ⟨k.heap_of h.heap h.lt hb, Nat.lt_of_lt_of_le h.lt k.next⟩
theorem andP {c p : Bool} {f : KR → Prop} {P : RM → Prop} {G : AV → RM → Prop} (h0 : P M) (hf : c = true → ∀ k : KR, (∀ M', P M' → k (Bo p) M' none) → f k) (hG : ∀ M', P M' → G (Bo (c && p)) M') :
    guardK (Bo c) true f (fun k => k .undef M none) (fun t M' b => pickW (Bo c) t (Bo false) fun u => G u M') := by
  cases c with
  | false => rw [guardK_FT]; dsimp only; rw [pickF]; exact hG M h0
  | true => rw [guardK_TT]; exact hf rfl _ fun M' h => by rw [pickT]; exact hG M' h
variable {body : (List AV → RM → Prop) → List AV → RM → Prop} {p : α → Bool} {P : RM → Prop}
theorem scanUpP {J i0 : Nat} (hP : P M) (h : ∀ (next : List AV → RM → Prop) (i : Nat) (M' : RM), P M' → i0 ≤ i → i ≤ max (J + 1) i0 → ((decide (i ≤ J) && p d[i]!) = true → ∀ M'', P M'' → next [N .i64 ((i + 1 : Nat) : Int)] M'') → ((decide (i ≤ J) && p d[i]!) = false → i = Sort.scanUp p d J i0) → body next [N .i64 (i : Int)] M') :
    loopW body [N .i64 (i0 : Int)] M := by
  obtain ⟨R, hR⟩ : ∃ R, R = Sort.scanUp p d J i0 := ⟨_, rfl⟩
  refine loopW_ind (fun m ys M3 => ∃ (i : Nat), m = J + 1 - i ∧ ys = [N .i64 (i : Int)] ∧ i0 ≤ i ∧ i ≤ max (J + 1) i0 ∧ P M3 ∧ R = Sort.scanUp p d J i) _ ⟨i0, rfl, rfl, Nat.le_refl _, by omega, hP, hR⟩ ?_
  rintro next m ys M3 hnext ⟨i, rfl, rfl, h0, hi, h3, hm⟩
  rw [Sort.scanUp] at hm
  refine h next i M3 h3 h0 hi (fun hc M4 h4 => ?_) (fun hc => ?_)
  · rw [if_pos hc] at hm
    have hij : i ≤ J := by
      rw [Bool.and_eq_true] at hc
      exact of_decide_eq_true hc.1
    exact hnext _ _ _ (by omega) ⟨i + 1, rfl, rfl, by omega, by omega, h4, hm⟩
  · rw [if_neg (by rw [hc]; decide)] at hm
    rw [← hR]; exact hm.symm
theorem scanDownP {i j0 : Nat} (hP : P M) (h1 : 1 ≤ i) (h : ∀ (next : List AV → RM → Prop) (j : Nat) (M' : RM), P M' → j ≤ j0 → (j = j0 ∨ i ≤ j + 1) → ((decide (i ≤ j) && p d[j]!) = true → ∀ M'', P M'' → next [N .i64 ((j - 1 : Nat) : Int)] M'') → ((decide (i ≤ j) && p d[j]!) = false → j = Sort.scanDown p d i j0) → body next [N .i64 (j : Int)] M') :
    loopW body [N .i64 (j0 : Int)] M := by
  obtain ⟨R, hR⟩ : ∃ R, R = Sort.scanDown p d i j0 := ⟨_, rfl⟩
  refine loopW_ind (fun m ys M3 => ∃ (j : Nat), m = j + 1 ∧ ys = [N .i64 (j : Int)] ∧ j ≤ j0 ∧ (j = j0 ∨ i ≤ j + 1) ∧ P M3 ∧ R = Sort.scanDown p d i j) _ ⟨j0, rfl, rfl, Nat.le_refl _, .inl rfl, hP, hR⟩ ?_
  rintro next m ys M3 hnext ⟨j, rfl, rfl, h0, hi, h3, hm⟩
  refine h next j M3 h3 h0 hi (fun hc M4 h4 => ?_) (fun hc => ?_)
  · have hij : i ≤ j := by
      rw [Bool.and_eq_true] at hc
      exact of_decide_eq_true hc.1
    obtain ⟨k, rfl⟩ : ∃ k, j = k + 1 := ⟨j - 1, by omega⟩
    rw [Sort.scanDown, if_pos hc] at hm
    exact hnext _ _ _ (by omega) ⟨k, rfl, rfl, by omega, by omega, h4, hm⟩
  · rw [← hR]
    cases j with
    | zero => exact hm.symm
    | succ k => rw [Sort.scanDown, if_neg (by rw [hc]; decide)] at hm; exact hm.symm
end
def XorA (TX : Nat) (c : CallT) : Prop := ∀ {M : RM} {s : Nat} {r : UInt64} {Q : PostV}, M.heap s = some (.row [N .u64 (r.toNat : Int)] false TX 0) → s < M.next → (∀ M', M'.heap s = some (.row [N .u64 ((Sort.xorNext r).toNat : Int)] false TX 0) → Keep [s] M M' → M'.next = M.next → Q (N .u64 ((Sort.xorNext r).toNat : Int)) M') → c [.ptr s 0] M Q
theorem xorA_spec {TX : Nat} : XorA TX fun args M Q => ∃ a0, args = [a0] ∧ W_xorshift_Next a0 M Q := by
  intro M s r Q hh hlt hQ
  refine ⟨_, rfl, ?_⟩
  unfold W_xorshift_Next
  have st : ∀ (M : RM) (r r' : UInt64) (K : RM → Prop), M.heap s = some (.row [N .u64 (r.toNat : Int)] false TX 0) → (∀ M', M'.heap s = some (.row [N .u64 (r'.toNat : Int)] false TX 0) → Keep [s] M M' → M'.next = M.next → K M') → storeW M (.ptr s 0) (N .u64 (r'.toNat : Int)) 1 K := fun M r r' K h hK => by
    rw [storeW_at h (by simp) rfl rfl]
    exact hK _ (heap_put_eq _) ((Keep.refl _ _).put _ (.inr (by simp))) rfl
  rw [ptrW_ptr, load1_at hh rfl, ptrW_ptr, load1_at hh rfl, shW_shl]
  refine ⟨by decide, ?_⟩
  rw [show (13 : Int) = ((13 : Nat) : Int) from rfl, u64_shl (k := 13) (n := 13) rfl (by decide), intW_xor, u64_xor, ptrW_ptr]
  refine st _ _ _ _ hh fun M1 h1 k1 n1 => ?_
  rw [ptrW_ptr, load1_at h1 rfl, ptrW_ptr, load1_at h1 rfl, shW_shr]
  refine ⟨by decide, ?_⟩
  rw [show (7 : Int) = ((7 : Nat) : Int) from rfl, u64_shr (k := 7) (n := 7) rfl (by decide), intW_xor, u64_xor, ptrW_ptr]
  refine st _ _ _ _ h1 fun M2 h2 k2 n2 => ?_
  rw [ptrW_ptr, load1_at h2 rfl, ptrW_ptr, load1_at h2 rfl, shW_shl]
  refine ⟨by decide, ?_⟩
  rw [show (17 : Int) = ((17 : Nat) : Int) from rfl, u64_shl (k := 17) (n := 17) rfl (by decide), intW_xor, u64_xor, ptrW_ptr]
  refine st _ _ _ _ h2 fun M3 h3 k3 n3 => ?_
  rw [ptrW_ptr, load1_at h3 rfl]
  exact hQ M3 h3 ((k1.trans k2).trans k3) (by omega)
def stG {α : Type} [Inhabited α] (a l m i0 : Nat) (d : Array α) : Nat → UInt64 × Array α
  | 0 => (UInt64.ofNat l, d)
  | k + 1 => Sort.breakStep a l m (stG a l m i0 d k) (i0 + k)
theorem stG_sz {α : Type} [Inhabited α] (a l m i0 : Nat) (d : Array α) : ∀ k, (stG a l m i0 d k).2.size = d.size
  | 0 => rfl
  | k + 1 => by
    rw [stG, g_breakStep, stG_sz a l m i0 d k]
abbrev Ent := Dot × (List UInt8 × List UInt8 × List UInt8)
def EntE : Enc Ent := ⟨5, fun x => dcells x.1 ++ [St x.2.1, St x.2.2.1, St x.2.2.2], fun _ => rfl, fun _ => rfl⟩
end Go.Ab.Crw
set_option maxRecDepth 10000
set_option linter.unusedVariables false
set_option linter.unusedSimpArgs false
namespace Go.Ab.Crw
open Go Go.Ab Go.Ab.Dot
theorem insE {T : Nat} {fv : AV} {lt : Ent → Ent → Bool} {cv : FuncId → CallT} (hl : CmpC EntE lt (callV cv fv)) : SortG EntE T 5 fv (Sort.insertionSort lt) (fun _ _ _ => True) fun args M Q => ∃ a0 a1 a2 a3, args = [a0, a1, a2, a3] ∧ W_insertionSortCmpFunc_Entry cv a0 a1 a2 a3 M Q := by
  intro M b a e d Q hat hsz hae he _ hQ
  refine ⟨_, _, _, _, rfl, ?_⟩
  unfold W_insertionSortCmpFunc_Entry
  simp only [fuseK, fuseKM, fuseMK]
  rw [add1 (by omega)]
  rw [Sort.insertionSort] at hQ
  obtain ⟨R, hR⟩ : ∃ R, R = Sort.insOuter lt a e (a + 1) d := ⟨_, rfl⟩
  rw [← hR] at hQ
  refine loopW_ind (fun m ys M3 => ∃ (i : Nat) (d3 : Array Ent), m = d.size - i ∧ ys = [N .i64 (i : Int)] ∧ i ≤ d.size + 1 ∧ At EntE T b d3 M3 ∧ Keep [b] M M3 ∧ d3.size = d.size ∧ R = Sort.insOuter lt a e i d3) _ ⟨a + 1, d, rfl, rfl, by omega, hat, Keep.refl _ _, rfl, hR⟩ ?_
  rintro next m ys M3 hnext ⟨i, d3, rfl, rfl, hi, h3, k3, hs3, hm⟩
  dsimp only [nthD]
  rw [lssN]
  refine condB (fun hlt => ?_) (fun hge => ?_)
  · have hlt : i < e := of_decide_eq_true hlt
    rw [Sort.insOuter, if_pos hlt] at hm
    obtain ⟨R5, hR5⟩ : ∃ R5, R5 = Sort.insInner lt a i d3 := ⟨_, rfl⟩
    rw [← hR5] at hm
    refine loopW_ind (fun m ys M5 => ∃ (j : Nat) (d5 : Array Ent), m = j + 1 ∧ ys = [N .i64 (j : Int)] ∧ j ≤ i ∧ At EntE T b d5 M5 ∧ Keep [b] M M5 ∧ d5.size = d.size ∧ R5 = Sort.insInner lt a j d5) _ ⟨i, d3, rfl, rfl, Nat.le_refl _, h3, k3, hs3, hR5⟩ ?_
    rintro next2 m ys M5 hnext2 ⟨j, d5, rfl, rfl, hj, h5, k5, hs5, hm5⟩
    dsimp only [nthD]
    rw [gtrN]
    have out : ∀ M6, At EntE T b d5 M6 → Keep [b] M M6 → Sort.insInner lt a j d5 = d5 → intW .add (N .i64 (i : Int)) (N .i64 1) (fun t14 => next [t14] M6) := fun M6 h6 k6 h => by
      rw [add1 (by omega)]
      refine hnext _ _ _ (by omega) ⟨i + 1, d5, rfl, rfl, by omega, h6, k6, hs5, ?_⟩
      rw [hm, hm5, h]
    by_cases hg : j > a
    · obtain ⟨k, rfl⟩ : ∃ k, j = k + 1 := ⟨j - 1, by omega⟩
      rw [decide_eq_true hg, guardK_TT]
      dsimp only
      rw [h5.rd (z := 5) rfl hs5.symm (by omega), sub1 (by omega) (by omega), Nat.add_sub_cancel, h5.rd (z := 5) rfl hs5.symm (by omega)]
      refine hl.use fun M6 k6 => ?_
      have h6 := h5.keep k6
      have k6' := k5.trans (k6.mono (cs := [b]) (by simp))
      rw [pickT]
      rw [Sort.insInner] at hm5 out
      refine condB (fun h => ?_) (fun h => ?_)
      · rw [if_pos (by simp [hg, h])] at hm5
        rw [sub1 (by omega) (by omega), sub1 (by omega) (by omega), Nat.add_sub_cancel, h6.rd (z := 5) rfl hs5.symm (by omega), h6.rd (z := 5) rfl hs5.symm (by omega)]
        refine h6.swap (z := 5) rfl hs5.symm (by omega) (by omega) fun M7 h7 k7 => ?_
        rw [sub1 (by omega) (by omega), Nat.add_sub_cancel]
        exact hnext2 _ _ _ (by omega) ⟨k, _, rfl, rfl, by omega, h7, k6'.trans k7, by rw [sz_swp]; exact hs5, hm5⟩
      · exact out M6 h6 k6' (by rw [if_neg (by simp [h])])
    · rw [decide_eq_false hg, guardK_FT]
      dsimp only
      rw [pickF, condF]
      refine out M5 h5 k5 ?_
      cases j with
      | zero => rfl
      | succ k => rw [Sort.insInner, if_neg (by simp [hg])]
  · have hge : ¬ i < e := of_decide_eq_false hge
    rw [Sort.insOuter, if_neg hge] at hm
    subst hm
    exact hQ M3 h3 k3
theorem revE {T : Nat} {fv : AV} : SortG EntE T 5 fv Sort.reverseRange (fun _ a e => a < e) fun args M Q => ∃ a0 a1 a2 a3, args = [a0, a1, a2, a3] ∧ W_reverseRangeCmpFunc_Entry a0 a1 a2 a3 M Q := by
  intro M b a e d Q hat hsz hae he hP hQ
  refine ⟨_, _, _, _, rfl, ?_⟩
  unfold W_reverseRangeCmpFunc_Entry
  rw [sub1 (by omega) (by omega)]
  rw [Sort.reverseRange] at hQ
  obtain ⟨R, hR⟩ : ∃ R, R = Sort.reverseLoop a (e - 1) d := ⟨_, rfl⟩
  rw [← hR] at hQ
  refine loopW_ind (fun m ys M3 => ∃ (i j : Nat) (d3 : Array Ent), m = j - i ∧ ys = [N .i64 (i : Int), N .i64 (j : Int)] ∧ j < d.size ∧ i ≤ d.size ∧ At EntE T b d3 M3 ∧ Keep [b] M M3 ∧ d3.size = d.size ∧ R = Sort.reverseLoop i j d3) _ ⟨a, e - 1, d, rfl, rfl, by omega, by omega, hat, Keep.refl _ _, rfl, hR⟩ ?_
  rintro next m ys M3 hnext ⟨i, j, d3, rfl, rfl, hj, hi, h3, k3, hs3, hm⟩
  dsimp only [nthD]
  rw [lssN]
  rw [Sort.reverseLoop] at hm
  refine condB (fun hlt => ?_) (fun hge => ?_)
  · have hlt : i < j := of_decide_eq_true hlt
    rw [if_pos hlt] at hm
    rw [h3.rd (z := 5) rfl hs3.symm (by omega), h3.rd (z := 5) rfl hs3.symm (by omega)]
    refine h3.swap (z := 5) rfl hs3.symm (by omega) (by omega) fun M4 h4 k4 => ?_
    rw [add1 (by omega), sub1 (by omega) (by omega)]
    exact hnext _ _ _ (by omega) ⟨i + 1, j - 1, _, rfl, rfl, by omega, by omega, h4, k3.trans k4, by rw [sz_swp]; exact hs3, hm⟩
  · have hge : ¬ i < j := of_decide_eq_false hge
    rw [if_neg hge] at hm
    subst hm
    exact hQ M3 h3 k3
def SiftE (T : Nat) (fv : AV) (lt : Ent → Ent → Bool) (c : CallT) : Prop := ∀ {M : RM} {b lo hi first : Nat} {d : Array Ent} {Q : PostV}, At EntE T b d M → d.size ≤ 60000 → first + hi ≤ d.size → lo ≤ 1000000 → (∀ M', At EntE T b (Sort.siftDown lt hi first lo d) M' → Keep [b] M M' → Q (.tup []) M') →
  c [sv b d.size 5, N .i64 (lo : Int), N .i64 (hi : Int), N .i64 (first : Int), fv] M Q
theorem siftE {T : Nat} {fv : AV} {lt : Ent → Ent → Bool} {cv : FuncId → CallT} (hl : CmpC EntE lt (callV cv fv)) : SiftE T fv lt fun args M Q => ∃ a0 a1 a2 a3 a4, args = [a0, a1, a2, a3, a4] ∧ W_siftDownCmpFunc_Entry cv a0 a1 a2 a3 a4 M Q := by
  intro M b lo hi first d Q hat hsz hfe hlo hQ
  refine ⟨_, _, _, _, _, rfl, ?_⟩
  unfold W_siftDownCmpFunc_Entry
  simp only [fuseK, fuseKM, fuseMK, joinW_shut]
  obtain ⟨R, hR⟩ : ∃ R, R = Sort.siftDown lt hi first lo d := ⟨_, rfl⟩
  rw [← hR] at hQ
  refine loopW_ind (fun m ys M3 => ∃ (r : Nat) (d3 : Array Ent), m = 1000000 + hi - r ∧ ys = [N .i64 (r : Int)] ∧ (r ≤ 1000000) ∧ At EntE T b d3 M3 ∧ Keep [b] M M3 ∧ d3.size = d.size ∧ R = Sort.siftDown lt hi first r d3) _ ⟨lo, d, rfl, rfl, hlo, hat, Keep.refl _ _, rfl, hR⟩ ?_
  rintro next m ys M3 hnext ⟨r, d3, rfl, rfl, hr, h3, k3, hs3, hm⟩
  dsimp only [nthD]
  rw [mul2 (by omega), add1 (by omega), geqN]
  rw [Sort.siftDown] at hm
  refine condB (fun hg => ?_) (fun hg => ?_)
  · rw [dif_pos (of_decide_eq_true hg)] at hm
    subst hm
    exact hQ M3 h3 k3
  have hg : ¬ 2 * r + 1 ≥ hi := of_decide_eq_false hg
  rw [dif_neg hg] at hm
  refine joinV_spec (fun zs M' => ∃ c : Nat, zs = [N .i64 (c : Int)] ∧ At EntE T b d3 M' ∧ Keep [b] M M' ∧ r < c ∧ c < hi ∧ R = if !lt d3[first + r]! d3[first + c]! then d3 else Sort.siftDown lt hi first c (Sort.swp d3 (first + r) (first + c))) ?_ ?_
  · rintro zs M' ⟨c, rfl, h4, k4, hrc, hchi, hm2⟩
    dsimp only [nthD]
    rw [addN (by omega), h4.rd (z := 5) rfl hs3.symm (by omega), addN (by omega), h4.rd (z := 5) rfl hs3.symm (by omega)]
    refine hl.use fun M5 k5 => ?_
    have h5 := h4.keep k5
    have k5' := k4.trans (k5.mono (cs := [b]) (by simp))
    rw [notW_Bo]
    refine condB (fun h => ?_) (fun h => ?_)
    · rw [if_pos h] at hm2
      subst hm2
      exact hQ M5 h5 k5'
    · rw [if_neg (by rw [h]; decide)] at hm2
      rw [addN (by omega), addN (by omega), addN (by omega), h5.rd (z := 5) rfl hs3.symm (by omega), addN (by omega), h5.rd (z := 5) rfl hs3.symm (by omega)]
      refine h5.swap (z := 5) rfl hs3.symm (by omega) (by omega) fun M6 h6 k6 => ?_
      exact hnext _ _ _ (by omega) ⟨c, _, rfl, rfl, by omega, h6, k5'.trans k6, by rw [sz_swp]; exact hs3, hm2⟩
  intro J hJ
  rw [add1 (by omega), lssN]
  refine andP (P := fun M' => At EntE T b d3 M' ∧ Keep [b] M M') (p := lt d3[first + (2 * r + 1)]! d3[first + (2 * r + 1) + 1]!) ⟨h3, k3⟩ (fun hc k hk => ?_) fun M4 ⟨h4, k4⟩ => ?_
  · have hc : 2 * r + 1 + 1 < hi := of_decide_eq_true hc
    rw [addN (by omega), h3.rd (z := 5) rfl hs3.symm (by omega), addN (by omega), add1 (by omega), h3.rd (z := 5) rfl hs3.symm (by omega)]
    exact hl.use fun M5 k5 => hk M5 ⟨h3.keep k5, k3.trans (k5.mono (cs := [b]) (by simp))⟩
  refine condB (fun h => ?_) (fun h => ?_)
  · have hc : 2 * r + 1 + 1 < hi := by
      rw [Bool.and_eq_true] at h
      exact of_decide_eq_true h.1
    rw [add1 (by omega)]
    refine hJ _ _ ⟨2 * r + 2, rfl, h4, k4, by omega, by omega, ?_⟩
    rw [if_pos h, dif_pos (by omega)] at hm
    exact hm
  · refine hJ _ _ ⟨2 * r + 1, rfl, h4, k4, by omega, by omega, ?_⟩
    rw [if_neg (by rw [h]; decide)] at hm
    exact hm
theorem heapE {T : Nat} {fv : AV} {lt : Ent → Ent → Bool} {cs : CallT} (hs : SiftE T fv lt cs) : SortG EntE T 5 fv (Sort.heapSort lt) (fun _ a e => a < e) fun args M Q => ∃ a0 a1 a2 a3, args = [a0, a1, a2, a3] ∧ W_heapSortCmpFunc_Entry cs a0 a1 a2 a3 M Q := by
  intro M b a e d Q hat hsz hae he hP hQ
  refine ⟨_, _, _, _, rfl, ?_⟩
  unfold W_heapSortCmpFunc_Entry
  rw [Sort.heapSort] at hQ
  rw [subN hae (by omega), sub1 (by omega) (by omega), intW_quo]
  refine ⟨by decide, ?_⟩
  rw [show (2 : Int) = ((2 : Nat) : Int) from rfl, quo_nat, wrap_i64_id (by omega) (by omega)]
  obtain ⟨R, hR⟩ : ∃ R, R = Sort.heapBuild lt (e - a) a ((e - a - 1) / 2 + 1) d := ⟨_, rfl⟩
  rw [← hR] at hQ
  refine loopW_ind (fun m ys M3 => ∃ (k : Nat) (d3 : Array Ent), m = k + 1 ∧ ys = [N .i64 ((k : Int) - 1)] ∧ k ≤ (e - a - 1) / 2 + 1 ∧ At EntE T b d3 M3 ∧ Keep [b] M M3 ∧ d3.size = d.size ∧ R = Sort.heapBuild lt (e - a) a k d3) _ ⟨(e - a - 1) / 2 + 1, d, rfl, by congr 3; omega, Nat.le_refl _, hat, Keep.refl _ _, rfl, hR⟩ ?_
  rintro next m ys M3 hnext ⟨k, d3, rfl, rfl, hk, h3, k3, hs3, hm⟩
  dsimp only [nthD]
  rw [intW_geq]
  refine condB (fun hg => ?_) (fun hg => ?_)
  · have hg : 1 ≤ k := by
      have : (k : Int) - 1 ≥ 0 := of_decide_eq_true hg
      omega
    obtain ⟨k', rfl⟩ : ∃ k', k = k' + 1 := ⟨k - 1, by omega⟩
    rw [Sort.heapBuild] at hm
    rw [show ((k' + 1 : Nat) : Int) - 1 = (k' : Int) by omega, ← hs3]
    refine hs h3 (by omega) (by omega) (by omega) fun M4 h4 k4 => ?_
    rw [intW_sub, wrap_i64_id (by omega) (by omega)]
    exact hnext _ _ _ (by omega) ⟨k', _, rfl, rfl, by omega, h4, k3.trans k4, by rw [g_sift lt _ _ (e - a) _ _ (by omega)]; exact hs3, hm⟩
  · have hk0 : k = 0 := by
      have : ¬ (k : Int) - 1 ≥ 0 := of_decide_eq_false hg
      omega
    subst hk0
    rw [Sort.heapBuild] at hm
    rw [hm] at hQ
    rw [sub1 (by omega) (by omega)]
    obtain ⟨R4, hR4⟩ : ∃ R4, R4 = Sort.heapPop lt a (e - a) d3 := ⟨_, rfl⟩
    rw [← hR4] at hQ
    refine loopW_ind (fun m ys M4 => ∃ (k : Nat) (d4 : Array Ent), m = k + 1 ∧ ys = [N .i64 ((k : Int) - 1)] ∧ k ≤ e - a ∧ At EntE T b d4 M4 ∧ Keep [b] M M4 ∧ d4.size = d.size ∧ R4 = Sort.heapPop lt a k d4) _ ⟨e - a, d3, rfl, by congr 3; omega, Nat.le_refl _, h3, k3, hs3, hR4⟩ ?_
    rintro next2 m ys M4 hnext2 ⟨k, d4, rfl, rfl, hk, h4, k4, hs4, hm4⟩
    dsimp only [nthD]
    rw [intW_geq]
    refine condB (fun hg => ?_) (fun hg => ?_)
    · have hg : 1 ≤ k := by
        have : (k : Int) - 1 ≥ 0 := of_decide_eq_true hg
        omega
      obtain ⟨k', rfl⟩ : ∃ k', k = k' + 1 := ⟨k - 1, by omega⟩
      rw [Sort.heapPop] at hm4
      rw [show ((k' + 1 : Nat) : Int) - 1 = (k' : Int) by omega, addN (by omega), addN (by omega), h4.rd (z := 5) rfl hs4.symm (by omega), h4.rd (z := 5) rfl hs4.symm (by omega)]
      refine h4.swap (z := 5) rfl hs4.symm (by omega) (by omega) fun M5 h5 k5 => ?_
      rw [show d.size = (Sort.swp d4 a (a + k')).size by rw [sz_swp]; exact hs4.symm]
      refine hs (lo := 0) h5 (by rw [sz_swp]; omega) (by rw [sz_swp]; omega) (by decide) fun M6 h6 k6 => ?_
      rw [intW_sub, wrap_i64_id (by omega) (by omega)]
      exact hnext2 _ _ _ (by omega) ⟨k', _, rfl, rfl, by omega, h6, (k4.trans k5).trans k6, by rw [g_sift lt _ _ k' _ _ (by omega), sz_swp]; exact hs4, hm4⟩
    · have hk0 : k = 0 := by
        have : ¬ (k : Int) - 1 ≥ 0 := of_decide_eq_false hg
        omega
      subst hk0
      rw [Sort.heapPop] at hm4
      subst hm4
      exact hQ M4 h4 k4
def PartEqE (T : Nat) (fv : AV) (lt : Ent → Ent → Bool) (c : CallT) : Prop := ∀ {M : RM} {b a e pv : Nat} {d : Array Ent} {Q : PostV}, At EntE T b d M → d.size ≤ 60000 → a ≤ pv → pv < e → e ≤ d.size → (∀ M', At EntE T b (Sort.partitionEqual lt d a e pv).2 M' → Keep [b] M M' → Q (N .i64 (((Sort.partitionEqual lt d a e pv).1 : Nat) : Int)) M') →
  c [sv b d.size 5, N .i64 (a : Int), N .i64 (e : Int), N .i64 (pv : Int), fv] M Q
theorem partEqE {T : Nat} {fv : AV} {lt : Ent → Ent → Bool} {cv : FuncId → CallT} (hl : CmpC EntE lt (callV cv fv)) : PartEqE T fv lt fun args M Q => ∃ a0 a1 a2 a3 a4, args = [a0, a1, a2, a3, a4] ∧ W_partitionEqualCmpFunc_Entry cv a0 a1 a2 a3 a4 M Q := by
  intro M b a e pv d Q hat hsz hap hpe he hQ
  refine ⟨_, _, _, _, _, rfl, ?_⟩
  unfold W_partitionEqualCmpFunc_Entry
  simp only [fuseK, fuseKM, fuseMK]
  rw [Sort.partitionEqual] at hQ
  rw [hat.rd (z := 5) rfl rfl (by omega), hat.rd (z := 5) rfl rfl (by omega)]
  refine hat.swap (z := 5) rfl rfl (by omega) (by omega) fun M2 h2 k2 => ?_
  rw [add1 (by omega), sub1 (by omega) (by omega)]
  obtain ⟨R, hR⟩ : ∃ R, R = Sort.partEqLoop lt a (a + 1) (e - 1) (Sort.swp d a pv) := ⟨_, rfl⟩
  rw [← hR] at hQ
  refine loopW_ind (fun m ys M3 => ∃ (i j : Nat) (d3 : Array Ent), m = j + 1 - i ∧ ys = [N .i64 (i : Int), N .i64 (j : Int)] ∧ a + 1 ≤ i ∧ i ≤ e + 1 ∧ j < e ∧ At EntE T b d3 M3 ∧ Keep [b] M M3 ∧ d3.size = d.size ∧ R = Sort.partEqLoop lt a i j d3) _ ⟨a + 1, e - 1, _, rfl, rfl, Nat.le_refl _, by omega, by omega, h2, k2, sz_swp _ _ _, hR⟩ ?_
  rintro next m ys M3 hnext ⟨i, j, d3, rfl, rfl, hai, hie, hje, h3, k3, hs3, hm⟩
  dsimp only [nthD]
  rw [Sort.partEqLoop] at hm
  refine scanUpP (P := fun M' => At EntE T b d3 M' ∧ Keep [b] M M') (p := fun x => !lt d3[a]! x) (d := d3) (J := j) ⟨h3, k3⟩ fun next2 i2 M4 ⟨h4, k4⟩ h0 h1 hgo hstop => ?_
  dsimp only [nthD]
  rw [leqN]
  refine andP (P := fun M' => At EntE T b d3 M' ∧ Keep [b] M M') (p := !lt d3[a]! d3[i2]!) ⟨h4, k4⟩ (fun hc k hk => ?_) fun M5 h5 => ?_
  · have hc : i2 ≤ j := of_decide_eq_true hc
    rw [h4.rd (z := 5) rfl hs3.symm (by omega), h4.rd (z := 5) rfl hs3.symm (by omega)]
    refine hl.use fun M5 k5 => ?_
    rw [notW_Bo]
    exact hk M5 ⟨h4.keep k5, k4.trans (k5.mono (cs := [b]) (by simp))⟩
  refine condB (fun h => ?_) (fun h => ?_)
  · rw [add1 (by omega)]
    exact hgo h M5 h5
  have hi2 := hstop h
  rw [← hi2] at hm
  refine scanDownP (P := fun M' => At EntE T b d3 M' ∧ Keep [b] M M') (p := fun x => lt d3[a]! x) (d := d3) (i := i2) h5 (by omega) fun next3 j2 M6 ⟨h6, k6⟩ q0 q1 hgo3 hstop3 => ?_
  dsimp only [nthD]
  rw [leqN]
  refine andP (P := fun M' => At EntE T b d3 M' ∧ Keep [b] M M') (p := lt d3[a]! d3[j2]!) ⟨h6, k6⟩ (fun hc k hk => ?_) fun M7 ⟨h7, k7⟩ => ?_
  · have hc : i2 ≤ j2 := of_decide_eq_true hc
    rw [h6.rd (z := 5) rfl hs3.symm (by omega), h6.rd (z := 5) rfl hs3.symm (by omega)]
    exact hl.use fun M5 k5 => hk M5 ⟨h6.keep k5, k6.trans (k5.mono (cs := [b]) (by simp))⟩
  refine condB (fun h => ?_) (fun h => ?_)
  · have hc : i2 ≤ j2 := by
      rw [Bool.and_eq_true] at h
      exact of_decide_eq_true h.1
    rw [sub1 (by omega) (by omega)]
    exact hgo3 h M7 ⟨h7, k7⟩
  have hj2 := hstop3 h
  simp only [← hj2] at hm
  rw [gtrN]
  refine condB (fun hg => ?_) (fun hg => ?_)
  · rw [if_pos (of_decide_eq_true hg)] at hm
    rw [hm] at hQ
    exact hQ M7 h7 k7
  · have hg : ¬ i2 > j2 := of_decide_eq_false hg
    rw [if_neg hg, dif_pos (by omega)] at hm
    rw [h7.rd (z := 5) rfl hs3.symm (by omega), h7.rd (z := 5) rfl hs3.symm (by omega)]
    refine h7.swap (z := 5) rfl hs3.symm (by omega) (by omega) fun M8 h8 k8 => ?_
    rw [add1 (by omega), sub1 (by omega) (by omega)]
    exact hnext _ _ _ (by omega) ⟨i2 + 1, j2 - 1, _, rfl, rfl, by omega, by omega, by omega, h8, k7.trans k8, by rw [sz_swp, hs3], hm⟩
def PartE (T : Nat) (fv : AV) (lt : Ent → Ent → Bool) (c : CallT) : Prop := ∀ {M : RM} {b a e pv : Nat} {d : Array Ent} {Q : PostV}, At EntE T b d M → d.size ≤ 60000 → a ≤ pv → pv < e → e ≤ d.size → (∀ M', At EntE T b (Sort.partition lt d a e pv).2.2 M' → Keep [b] M M' → Q (.tup [N .i64 (((Sort.partition lt d a e pv).1 : Nat) : Int), Bo (Sort.partition lt d a e pv).2.1]) M') →
  c [sv b d.size 5, N .i64 (a : Int), N .i64 (e : Int), N .i64 (pv : Int), fv] M Q
theorem partE {T : Nat} {fv : AV} {lt : Ent → Ent → Bool} {cv : FuncId → CallT} (hl : CmpC EntE lt (callV cv fv)) : PartE T fv lt fun args M Q => ∃ a0 a1 a2 a3 a4, args = [a0, a1, a2, a3, a4] ∧ W_partitionCmpFunc_Entry cv a0 a1 a2 a3 a4 M Q := by
  intro M b a e pv d Q hat hsz hap hpe he hQ
  refine ⟨_, _, _, _, _, rfl, ?_⟩
  unfold W_partitionCmpFunc_Entry
  simp only [fuseK, fuseKM, fuseMK]
  have hs2 := sz_swp d a pv
  rw [g_partition_eq] at hQ
  rw [hat.rd (z := 5) rfl rfl (by omega), hat.rd (z := 5) rfl rfl (by omega)]
  refine hat.swap (z := 5) rfl rfl (by omega) (by omega) fun M2 h2 k2 => ?_
  rw [add1 (by omega), sub1 (by omega) (by omega)]
  generalize Sort.swp d a pv = d2 at *
  refine scanUpP (P := fun M' => At EntE T b d2 M' ∧ Keep [b] M M') (p := fun x => lt x d2[a]!) (d := d2) (J := e - 1) ⟨h2, k2⟩ fun next2 i M3 ⟨h3, k3⟩ h0 h1 hgo hstop => ?_
  dsimp only [nthD]
  rw [leqN]
  refine andP (P := fun M' => At EntE T b d2 M' ∧ Keep [b] M M') (p := lt d2[i]! d2[a]!) ⟨h3, k3⟩ (fun hc k hk => ?_) fun M4 h4 => ?_
  · have hc : i ≤ e - 1 := of_decide_eq_true hc
    rw [h3.rd (z := 5) rfl hs2.symm (by omega), h3.rd (z := 5) rfl hs2.symm (by omega)]
    exact hl.use fun M5 k5 => hk M5 ⟨h3.keep k5, k3.trans (k5.mono (cs := [b]) (by simp))⟩
  refine condB (fun h => ?_) (fun h => ?_)
  · rw [add1 (by omega)]
    exact hgo h M4 h4
  have hi2 : i = pI lt d2 a e := hstop h
  have hjdef : pJ lt d2 a e = Sort.scanDown (fun x => !lt x d2[a]!) d2 (pI lt d2 a e) (e - 1) := rfl
  have hldef : pL lt d2 a e = Sort.partLoop lt a (pI lt d2 a e + 1) (pJ lt d2 a e - 1) (Sort.swp d2 (pI lt d2 a e) (pJ lt d2 a e)) := rfl
  rw [← hi2] at hjdef hldef hQ
  refine scanDownP (P := fun M' => At EntE T b d2 M' ∧ Keep [b] M M') (p := fun x => !lt x d2[a]!) (d := d2) (i := i) h4 (by omega) fun next3 j M5 ⟨h5, k5⟩ q0 q1 hgo3 hstop3 => ?_
  dsimp only [nthD]
  rw [leqN]
  refine andP (P := fun M' => At EntE T b d2 M' ∧ Keep [b] M M') (p := !lt d2[j]! d2[a]!) ⟨h5, k5⟩ (fun hc k hk => ?_) fun M6 ⟨h6, k6⟩ => ?_
  · have hc : i ≤ j := of_decide_eq_true hc
    rw [h5.rd (z := 5) rfl hs2.symm (by omega), h5.rd (z := 5) rfl hs2.symm (by omega)]
    refine hl.use fun M7 k7 => ?_
    rw [notW_Bo]
    exact hk M7 ⟨h5.keep k7, k5.trans (k7.mono (cs := [b]) (by simp))⟩
  refine condB (fun h => ?_) (fun h => ?_)
  · have hc : i ≤ j := by
      rw [Bool.and_eq_true] at h
      exact of_decide_eq_true h.1
    rw [sub1 (by omega) (by omega)]
    exact hgo3 h M6 ⟨h6, k6⟩
  have hj2 := hstop3 h
  rw [← hj2] at hjdef
  rw [hjdef] at hldef hQ
  rw [gtrN]
  refine condB (fun hg => ?_) (fun hg => ?_)
  · rw [if_pos (of_decide_eq_true hg)] at hQ
    rw [h6.rd (z := 5) rfl hs2.symm (by omega), h6.rd (z := 5) rfl hs2.symm (by omega)]
    exact h6.swap (z := 5) rfl hs2.symm (by omega) (by omega) fun M7 h7 k7 => hQ M7 h7 (k6.trans k7)
  have hg : ¬ i > j := of_decide_eq_false hg
  rw [if_neg hg] at hQ
  rw [h6.rd (z := 5) rfl hs2.symm (by omega), h6.rd (z := 5) rfl hs2.symm (by omega)]
  refine h6.swap (z := 5) rfl hs2.symm (by omega) (by omega) fun M7 h7 k7 => ?_
  rw [add1 (by omega), sub1 (by omega) (by omega)]
  generalize pL lt d2 a e = R at *
  refine loopW_ind (fun m ys M3 => ∃ (i j : Nat) (d3 : Array Ent), m = j + 1 - i ∧ ys = [N .i64 (i : Int), N .i64 (j : Int)] ∧ a + 1 ≤ i ∧ i ≤ e + 1 ∧ j < e ∧ At EntE T b d3 M3 ∧ Keep [b] M M3 ∧ d3.size = d.size ∧ R = Sort.partLoop lt a i j d3) _ ⟨i + 1, j - 1, _, rfl, rfl, by omega, by omega, by omega, h7, k6.trans k7, by rw [sz_swp, hs2], hldef⟩ ?_
  rintro next m ys M3 hnext ⟨i, j, d3, rfl, rfl, hai, hie, hje, h3, k3, hs3, hm⟩
  dsimp only [nthD]
  rw [Sort.partLoop] at hm
  refine scanUpP (P := fun M' => At EntE T b d3 M' ∧ Keep [b] M M') (p := fun x => lt x d3[a]!) (d := d3) (J := j) ⟨h3, k3⟩ fun next2 i2 M4 ⟨h4, k4⟩ h0 h1 hgo hstop => ?_
  dsimp only [nthD]
  rw [leqN]
  refine andP (P := fun M' => At EntE T b d3 M' ∧ Keep [b] M M') (p := lt d3[i2]! d3[a]!) ⟨h4, k4⟩ (fun hc k hk => ?_) fun M5 h5 => ?_
  · have hc : i2 ≤ j := of_decide_eq_true hc
    rw [h4.rd (z := 5) rfl hs3.symm (by omega), h4.rd (z := 5) rfl hs3.symm (by omega)]
    exact hl.use fun M5 k5 => hk M5 ⟨h4.keep k5, k4.trans (k5.mono (cs := [b]) (by simp))⟩
  refine condB (fun h => ?_) (fun h => ?_)
  · rw [add1 (by omega)]
    exact hgo h M5 h5
  have hi2 := hstop h
  rw [← hi2] at hm
  refine scanDownP (P := fun M' => At EntE T b d3 M' ∧ Keep [b] M M') (p := fun x => !lt x d3[a]!) (d := d3) (i := i2) h5 (by omega) fun next3 j2 M6 ⟨h6, k6⟩ q0 q1 hgo3 hstop3 => ?_
  dsimp only [nthD]
  rw [leqN]
  refine andP (P := fun M' => At EntE T b d3 M' ∧ Keep [b] M M') (p := !lt d3[j2]! d3[a]!) ⟨h6, k6⟩ (fun hc k hk => ?_) fun M7 ⟨h7, k7⟩ => ?_
  · have hc : i2 ≤ j2 := of_decide_eq_true hc
    rw [h6.rd (z := 5) rfl hs3.symm (by omega), h6.rd (z := 5) rfl hs3.symm (by omega)]
    refine hl.use fun M8 k8 => ?_
    rw [notW_Bo]
    exact hk M8 ⟨h6.keep k8, k6.trans (k8.mono (cs := [b]) (by simp))⟩
  refine condB (fun h => ?_) (fun h => ?_)
  · have hc : i2 ≤ j2 := by
      rw [Bool.and_eq_true] at h
      exact of_decide_eq_true h.1
    rw [sub1 (by omega) (by omega)]
    exact hgo3 h M7 ⟨h7, k7⟩
  have hj2 := hstop3 h
  simp only [← hj2] at hm
  rw [gtrN]
  refine condB (fun hg => ?_) (fun hg => ?_)
  · rw [if_pos (of_decide_eq_true hg)] at hm
    rw [hm] at hQ
    rw [h7.rd (z := 5) rfl hs3.symm (by omega), h7.rd (z := 5) rfl hs3.symm (by omega)]
    exact h7.swap (z := 5) rfl hs3.symm (by omega) (by omega) fun M8 h8 k8 => hQ M8 h8 (k7.trans k8)
  · have hg : ¬ i2 > j2 := of_decide_eq_false hg
    rw [if_neg hg, dif_pos (by omega)] at hm
    rw [h7.rd (z := 5) rfl hs3.symm (by omega), h7.rd (z := 5) rfl hs3.symm (by omega)]
    refine h7.swap (z := 5) rfl hs3.symm (by omega) (by omega) fun M8 h8 k8 => ?_
    rw [add1 (by omega), sub1 (by omega) (by omega)]
    exact hnext _ _ _ (by omega) ⟨i2 + 1, j2 - 1, _, rfl, rfl, by omega, by omega, by omega, h8, k7.trans k8, by rw [sz_swp, hs3], hm⟩
end Go.Ab.Crw
set_option maxRecDepth 10000
set_option linter.unusedVariables false
set_option linter.unusedSimpArgs false
namespace Go.Ab.Crw
open Go Go.Ab Go.Ab.Dot
def SwE (T TI b s : Nat) (d : Array Ent) (k : Nat) (M : RM) : Prop := At EntE T b d M ∧ M.heap s = some (.row [N .i64 (k : Int)] false TI 0) ∧ s < M.next
def Order2E (T TI : Nat) (fv : AV) (lt : Ent → Ent → Bool) (c : CallT) : Prop := ∀ {M : RM} {b s k i j : Nat} {d : Array Ent} {Q : PostV}, SwE T TI b s d k M → s ≠ b → i < d.size → j < d.size → k ≤ 1000 →
  (∀ M', SwE T TI b s d (Sort.order2 lt d i j k).2.2 M' → Keep [s] M M' → Q (.tup [N .i64 (((Sort.order2 lt d i j k).1 : Nat) : Int), N .i64 (((Sort.order2 lt d i j k).2.1 : Nat) : Int)]) M') → c [sv b d.size 5, N .i64 (i : Int), N .i64 (j : Int), .ptr s 0, fv] M Q
theorem order2E {T TI : Nat} {fv : AV} {lt : Ent → Ent → Bool} {cv : FuncId → CallT} (hl : CmpC EntE lt (callV cv fv)) : Order2E T TI fv lt fun args M Q => ∃ a0 a1 a2 a3 a4, args = [a0, a1, a2, a3, a4] ∧ W_order2CmpFunc_Entry cv a0 a1 a2 a3 a4 M Q := by
  intro M b s k i j d Q ⟨hat, hh, hlt⟩ hsb hi hj hk hQ
  refine ⟨_, _, _, _, _, rfl, ?_⟩
  unfold W_order2CmpFunc_Entry
  rw [hat.rd (z := 5) rfl rfl (by omega), hat.rd (z := 5) rfl rfl (by omega)]
  refine hl.use fun M1 k1 => ?_
  have h1 := hat.keep k1
  have hh1 := k1.heap_of hh hlt (by simp)
  have n1 := k1.next
  unfold Sort.order2 at hQ
  refine condB (fun h => ?_) (fun h => ?_)
  · rw [if_pos h] at hQ
    rw [ptrW_ptr, load1_at hh1 rfl, add1 (by omega), ptrW_ptr, storeW_at hh1 (by simp) rfl rfl]
    have kk : Keep [s] M1 (M1.put s (.row ([N .i64 (k : Int)].set 0 (N .i64 ((k + 1 : Nat) : Int))) false TI 0)) := (Keep.refl _ _).put _ (.inr (by simp))
    refine hQ _ ⟨h1.keep' kk (by simp; omega), heap_put_eq _, by rw [next_put]; omega⟩ ((k1.mono (by simp)).trans kk)
  · rw [if_neg (by rw [h]; decide)] at hQ
    exact hQ M1 ⟨h1, hh1, by omega⟩ (k1.mono (by simp))
def MedianE (T TI : Nat) (fv : AV) (lt : Ent → Ent → Bool) (c : CallT) : Prop := ∀ {M : RM} {b s k i j h : Nat} {d : Array Ent} {Q : PostV}, SwE T TI b s d k M → s ≠ b → i < d.size → j < d.size → h < d.size → k ≤ 900 →
  (∀ M', SwE T TI b s d (Sort.median lt d i j h k).2 M' → Keep [s] M M' → Q (N .i64 (((Sort.median lt d i j h k).1 : Nat) : Int)) M') → c [sv b d.size 5, N .i64 (i : Int), N .i64 (j : Int), N .i64 (h : Int), .ptr s 0, fv] M Q
theorem medianE {T TI : Nat} {fv : AV} {lt : Ent → Ent → Bool} {c2 : CallT} (h2 : Order2E T TI fv lt c2) : MedianE T TI fv lt fun args M Q => ∃ a0 a1 a2 a3 a4 a5, args = [a0, a1, a2, a3, a4, a5] ∧ W_medianCmpFunc_Entry c2 a0 a1 a2 a3 a4 a5 M Q := by
  intro M b s k i j h d Q hsw hsb hi hj hh hk hQ
  refine ⟨_, _, _, _, _, _, rfl, ?_⟩
  unfold W_medianCmpFunc_Entry
  unfold Sort.median at hQ
  have o1 := g_order2 lt d i j k
  refine h2 hsw hsb hi hj (by omega) fun M1 s1 k1 => ?_
  rw [extW0, extW1]
  dsimp only at hQ
  generalize Sort.order2 lt d i j k = r1 at *
  have o2 := g_order2 lt d r1.2.1 h r1.2.2
  refine h2 s1 hsb (by omega) hh (by omega) fun M2 s2 k2 => ?_
  rw [extW0, extW1]
  generalize Sort.order2 lt d r1.2.1 h r1.2.2 = r2 at *
  refine h2 s2 hsb (by omega) (by omega) (by omega) fun M3 s3 k3 => ?_
  rw [extW0, extW1]
  exact hQ M3 s3 ((k1.trans k2).trans k3)
def MedAdjE (T TI : Nat) (fv : AV) (lt : Ent → Ent → Bool) (c : CallT) : Prop := ∀ {M : RM} {b s k i : Nat} {d : Array Ent} {Q : PostV}, SwE T TI b s d k M → s ≠ b → d.size ≤ 60000 → 1 ≤ i → i + 1 < d.size → k ≤ 900 →
  (∀ M', SwE T TI b s d (Sort.medianAdjacent lt d i k).2 M' → Keep [s] M M' → Q (N .i64 (((Sort.medianAdjacent lt d i k).1 : Nat) : Int)) M') → c [sv b d.size 5, N .i64 (i : Int), .ptr s 0, fv] M Q
theorem medadjE {T TI : Nat} {fv : AV} {lt : Ent → Ent → Bool} {cm : CallT} (hm : MedianE T TI fv lt cm) : MedAdjE T TI fv lt fun args M Q => ∃ a0 a1 a2 a3, args = [a0, a1, a2, a3] ∧ W_medianAdjacentCmpFunc_Entry cm a0 a1 a2 a3 M Q := by
  intro M b s k i d Q hsw hsb hsz h1 h2 hk hQ
  refine ⟨_, _, _, _, rfl, ?_⟩
  unfold W_medianAdjacentCmpFunc_Entry
  rw [sub1 (by omega) (by omega), add1 (by omega)]
  exact hm hsw hsb (by omega) (by omega) (by omega) hk fun M1 s1 k1 => hQ M1 s1 k1
def pivRE (lt : Ent → Ent → Bool) (d : Array Ent) (a e : Nat) : Nat × Nat :=
  if e - a ≥ 8 then (if e - a ≥ 50 then Sort.median lt d (Sort.medianAdjacent lt d (a + (e - a) / 4 * 1) 0).1 (Sort.medianAdjacent lt d (a + (e - a) / 4 * 2) (Sort.medianAdjacent lt d (a + (e - a) / 4 * 1) 0).2).1 (Sort.medianAdjacent lt d (a + (e - a) / 4 * 3) (Sort.medianAdjacent lt d (a + (e - a) / 4 * 2) (Sort.medianAdjacent lt d (a + (e - a) / 4 * 1) 0).2).2).1 (Sort.medianAdjacent lt d (a + (e - a) / 4 * 3) (Sort.medianAdjacent lt d (a + (e - a) / 4 * 2) (Sort.medianAdjacent lt d (a + (e - a) / 4 * 1) 0).2).2).2
    else Sort.median lt d (a + (e - a) / 4 * 1) (a + (e - a) / 4 * 2) (a + (e - a) / 4 * 3) 0) else (a + (e - a) / 4 * 2, 0)
theorem pivRE_eq (lt : Ent → Ent → Bool) (d : Array Ent) (a e : Nat) : Sort.choosePivot lt d a e = ((pivRE lt d a e).1, if (pivRE lt d a e).2 = 0 then .increasing else if (pivRE lt d a e).2 = 12 then .decreasing else .unknown) := rfl
def ChooseE (T : Nat) (fv : AV) (lt : Ent → Ent → Bool) (c : CallT) : Prop := ∀ {M : RM} {b a e : Nat} {d : Array Ent} {Q : PostV}, At EntE T b d M → d.size ≤ 60000 → a < e → e ≤ d.size →
  (∀ M', At EntE T b d M' → Keep [] M M' → Q (.tup [N .i64 (((Sort.choosePivot lt d a e).1 : Nat) : Int), N .i64 (hintV (Sort.choosePivot lt d a e).2)]) M') → c [sv b d.size 5, N .i64 (a : Int), N .i64 (e : Int), fv] M Q
theorem chooseE {T TI : Nat} {fv : AV} {lt : Ent → Ent → Bool} {ca cm : CallT} (ha : MedAdjE T TI fv lt ca) (hm : MedianE T TI fv lt cm) : ChooseE T fv lt fun args M Q => ∃ a0 a1 a2 a3, args = [a0, a1, a2, a3] ∧ W_choosePivotCmpFunc_Entry TI ca cm a0 a1 a2 a3 M Q := by
  intro M b a e d Q hat hsz hae he hQ
  refine ⟨_, _, _, _, rfl, ?_⟩
  unfold W_choosePivotCmpFunc_Entry
  simp only [joinW_shut]
  rw [subN (by omega) (by omega), newW_eq]
  have kk : Keep [] M (M.push (.row [N .i64 0] false TI 0)) := (Keep.refl _ _).push _
  have sw0 : SwE T TI b M.next d 0 (M.push (.row [N .i64 0] false TI 0)) := ⟨hat.keep kk, RM.push_new _, by simp [RM.push]⟩
  have hsb : M.next ≠ b := by have := hat.lt; omega
  have back : ∀ M', Keep [M.next] (M.push (.row [N .i64 0] false TI 0)) M' → Keep [] M M' := fun M' k => kk.then_new k fun c hc => .inl (by simp at hc; omega)
  generalize M.push (.row [N .i64 0] false TI 0) = M1 at *
  generalize M.next = s at *
  have hq : ∀ (k : Nat) (c : Int), c = (k : Int) → k ≤ 3 → ∀ (K : AV → Prop), (intW .quo (N .i64 ((e - a : Nat) : Int)) (N .i64 4) fun t18 => intW .mul t18 (N .i64 c) fun t19 => intW .add (N .i64 (a : Int)) t19 K) = K (N .i64 ((a + (e - a) / 4 * k : Nat) : Int)) := fun k c hc hk K => by
    subst hc
    have hb : (e - a) / 4 * k ≤ (e - a) * 3 := Nat.mul_le_mul (Nat.div_le_self _ _) hk
    rw [intW_quo, show (4 : Int) = ((4 : Nat) : Int) from rfl, quo_nat, wrap_i64_id (by omega) (by omega), intW_mul, ← Int.natCast_mul, wrap_i64_id (by omega) (by omega), addN (by omega)]
    exact propext ⟨fun h => h.2, fun h => ⟨by decide, h⟩⟩
  rw [hq 1 1 rfl (by omega), hq 2 2 rfl (by omega), hq 3 3 rfl (by omega)]
  rw [pivRE_eq] at hQ
  have hr : pivRE lt d a e = pivRE lt d a e := rfl
  conv at hr => rhs; unfold pivRE
  generalize pivRE lt d a e = r at *
  refine joinV_spec (fun zs M' => zs = [N .i64 ((r.1 : Nat) : Int)] ∧ SwE T TI b s d r.2 M' ∧ Keep [s] M1 M') ?_ ?_
  · rintro zs M' ⟨rfl, ⟨h3, hh, _⟩, k3⟩
    dsimp only [nthD]
    have := hQ M' h3 (back M' k3)
    rw [load1_at hh rfl, intW_eql]
    by_cases h0 : r.2 = 0
    · rw [show ((r.2 : Int) == 0) = true by rw [h0]; rfl, condT]
      rw [if_pos h0] at this
      exact this
    · rw [show ((r.2 : Int) == 0) = false by rw [beq_eq_false_iff_ne]; omega, condF, intW_eql]
      rw [if_neg h0] at this
      by_cases h12 : r.2 = 12
      · rw [show ((r.2 : Int) == 12) = true by rw [h12]; rfl, condT]
        rw [if_pos h12] at this
        exact this
      · rw [show ((r.2 : Int) == 12) = false by rw [beq_eq_false_iff_ne]; omega, condF]
        rw [if_neg h12] at this
        exact this
  intro J hJ
  rw [show (8 : Int) = ((8 : Nat) : Int) from rfl, geqN]
  refine condB (fun h8 => ?_) (fun h8 => ?_)
  · have h8 : e - a ≥ 8 := of_decide_eq_true h8
    rw [if_pos h8] at hr
    refine joinV_spec (fun zs M' => ∃ x y z k : Nat, zs = [N .i64 (x : Int), N .i64 (y : Int), N .i64 (z : Int)] ∧ SwE T TI b s d k M' ∧ Keep [s] M1 M' ∧ x < d.size ∧ y < d.size ∧ z < d.size ∧ k ≤ 900 ∧ r = Sort.median lt d x y z k) ?_ ?_
    · rintro zs M' ⟨x, y, z, k, rfl, s3, k3, hx, hy, hz, hk, rfl⟩
      dsimp only [nthD]
      exact hm s3 hsb hx hy hz hk fun M4 s4 k4 => hJ _ _ ⟨rfl, s4, k3.trans k4⟩
    intro J0 hJ0
    rw [show (50 : Int) = ((50 : Nat) : Int) from rfl, geqN]
    refine condB (fun h50 => ?_) (fun h50 => ?_)
    · have h50 : e - a ≥ 50 := of_decide_eq_true h50
      rw [if_pos h50] at hr
      have m1 := g_median lt d (i := a + (e - a) / 4 * 1 - 1) (j := a + (e - a) / 4 * 1) (h := a + (e - a) / 4 * 1 + 1) (k := 0) (n := d.size) (by omega) (by omega) (by omega)
      have r1 : (Sort.medianAdjacent lt d (a + (e - a) / 4 * 1) 0).1 < d.size ∧ (Sort.medianAdjacent lt d (a + (e - a) / 4 * 1) 0).2 ≤ 0 + 3 := m1
      refine ha sw0 hsb hsz (by omega) (by omega) (by omega) fun M2 s2 k2 => ?_
      generalize Sort.medianAdjacent lt d (a + (e - a) / 4 * 1) 0 = q1 at *
      have m2 := g_median lt d (i := a + (e - a) / 4 * 2 - 1) (j := a + (e - a) / 4 * 2) (h := a + (e - a) / 4 * 2 + 1) (k := q1.2) (n := d.size) (by omega) (by omega) (by omega)
      have r2 : (Sort.medianAdjacent lt d (a + (e - a) / 4 * 2) q1.2).1 < d.size ∧ (Sort.medianAdjacent lt d (a + (e - a) / 4 * 2) q1.2).2 ≤ q1.2 + 3 := m2
      refine ha s2 hsb hsz (by omega) (by omega) (by omega) fun M3 s3 k3 => ?_
      generalize Sort.medianAdjacent lt d (a + (e - a) / 4 * 2) q1.2 = q2 at *
      have m3 := g_median lt d (i := a + (e - a) / 4 * 3 - 1) (j := a + (e - a) / 4 * 3) (h := a + (e - a) / 4 * 3 + 1) (k := q2.2) (n := d.size) (by omega) (by omega) (by omega)
      have r3 : (Sort.medianAdjacent lt d (a + (e - a) / 4 * 3) q2.2).1 < d.size ∧ (Sort.medianAdjacent lt d (a + (e - a) / 4 * 3) q2.2).2 ≤ q2.2 + 3 := m3
      refine ha s3 hsb hsz (by omega) (by omega) (by omega) fun M4 s4 k4 => ?_
      generalize Sort.medianAdjacent lt d (a + (e - a) / 4 * 3) q2.2 = q3 at *
      exact hJ0 _ _ ⟨q1.1, q2.1, q3.1, q3.2, rfl, s4, (k2.trans k3).trans k4, r1.1, r2.1, r3.1, by omega, hr⟩
    · have h50 : ¬ e - a ≥ 50 := of_decide_eq_false h50
      rw [if_neg h50] at hr
      exact hJ0 _ _ ⟨_, _, _, 0, rfl, sw0, Keep.refl _ _, by omega, by omega, by omega, by omega, hr⟩
  · have h8 : ¬ e - a ≥ 8 := of_decide_eq_false h8
    rw [if_neg h8] at hr
    subst hr
    exact hJ _ _ ⟨rfl, sw0, Keep.refl _ _⟩
def PartInsE (T : Nat) (fv : AV) (lt : Ent → Ent → Bool) (c : CallT) : Prop := ∀ {M : RM} {b a e : Nat} {d : Array Ent} {Q : PostV}, At EntE T b d M → d.size ≤ 60000 → a < e → e ≤ d.size → (∀ M', At EntE T b (Sort.partialInsertionSort lt d a e).1 M' → Keep [b] M M' → Q (Bo (Sort.partialInsertionSort lt d a e).2) M') →
  c [sv b d.size 5, N .i64 (a : Int), N .i64 (e : Int), fv] M Q
theorem partInsE {T : Nat} {fv : AV} {lt : Ent → Ent → Bool} {cv : FuncId → CallT} (hl : CmpC EntE lt (callV cv fv)) : PartInsE T fv lt fun args M Q => ∃ a0 a1 a2 a3, args = [a0, a1, a2, a3] ∧ W_partialInsertionSortCmpFunc_Entry cv a0 a1 a2 a3 M Q := by
  intro M b a e d Q hat hsz hae he hQ
  refine ⟨_, _, _, _, rfl, ?_⟩
  unfold W_partialInsertionSortCmpFunc_Entry
  simp only [fuseK, fuseKM, fuseMK, joinW_shut]
  rw [add1 (by omega)]
  unfold Sort.partialInsertionSort at hQ
  obtain ⟨R, hR⟩ : ∃ R, R = Sort.partialIns lt a e 5 (a + 1) d := ⟨_, rfl⟩
  rw [← hR] at hQ
  refine loopW_ind (fun m ys M3 => ∃ (i s : Nat) (d3 : Array Ent), m = s ∧ s ≤ 5 ∧ ys = [N .i64 (i : Int), N .i64 ((5 - s : Nat) : Int)] ∧ a + 1 ≤ i ∧ i ≤ e ∧ At EntE T b d3 M3 ∧ Keep [b] M M3 ∧ d3.size = d.size ∧ R = Sort.partialIns lt a e s i d3) _ ⟨a + 1, 5, d, rfl, by omega, rfl, by omega, by omega, hat, Keep.refl _ _, rfl, hR⟩ ?_
  rintro next m ys M3 hnext ⟨i, s, d3, hms, hs5, rfl, hai, hie, h3, k3, hs3, hm⟩
  dsimp only [nthD]
  rw [show (5 : Int) = ((5 : Nat) : Int) from rfl, lssN]
  refine condB (fun hg => ?_) (fun hg => ?_)
  · have hg : 5 - s < 5 := of_decide_eq_true hg
    obtain ⟨s', rfl⟩ : ∃ s', s = s' + 1 := ⟨s - 1, by omega⟩
    rw [g_partialIns_eq] at hm
    refine joinV_spec (fun zs M' => ∃ (i' : Nat) (d4 : Array Ent), zs = [N .i64 (i' : Int)] ∧ a + 1 ≤ i' ∧ i' ≤ e ∧ At EntE T b d4 M' ∧ Keep [b] M M' ∧ d4.size = d.size ∧ R = Sort.partialIns lt a e s' i' d4) ?_ ?_
    · rintro zs M' ⟨i', d4, rfl, h1, h2, h4, k4, h5, h6⟩
      dsimp only [nthD]
      rw [add1 (by omega)]
      exact hnext _ _ _ (by omega) ⟨i', s', d4, rfl, by omega, by congr 4; omega, h1, h2, h4, k4, h5, h6⟩
    intro J hJ
    obtain ⟨R5, hR5⟩ : ∃ R5, R5 = Sort.scanSorted lt d3 e i := ⟨_, rfl⟩
    rw [← hR5] at hm
    refine loopW_ind (fun m ys M5 => ∃ (j : Nat), m = e - j ∧ ys = [N .i64 (j : Int)] ∧ i ≤ j ∧ j ≤ e ∧ At EntE T b d3 M5 ∧ Keep [b] M M5 ∧ R5 = Sort.scanSorted lt d3 e j) _ ⟨i, rfl, rfl, Nat.le_refl _, hie, h3, k3, hR5⟩ ?_
    rintro next2 m ys M5 hnext2 ⟨j, rfl, rfl, hij, hje, h5, k5, hm5⟩
    dsimp only [nthD]
    rw [Sort.scanSorted] at hm5
    rw [lssN]
    refine andP (P := fun M' => At EntE T b d3 M' ∧ Keep [b] M M') (p := !lt d3[j]! d3[j - 1]!) ⟨h5, k5⟩ (fun hc k hk => ?_) fun M6 ⟨h6, k6⟩ => ?_
    · have hc : j < e := of_decide_eq_true hc
      rw [h5.rd (z := 5) rfl hs3.symm (by omega), sub1 (by omega) (by omega), h5.rd (z := 5) rfl hs3.symm (by omega)]
      refine hl.use fun M7 k7 => ?_
      rw [notW_Bo]
      exact hk M7 ⟨h5.keep k7, k5.trans (k7.mono (cs := [b]) (by simp))⟩
    refine condB (fun h => ?_) (fun h => ?_)
    · have hc : j < e := by
        rw [Bool.and_eq_true] at h
        exact of_decide_eq_true h.1
      rw [if_pos h] at hm5
      rw [add1 (by omega)]
      exact hnext2 _ _ _ (by omega) ⟨j + 1, rfl, rfl, by omega, by omega, h6, k6, hm5⟩
    rw [if_neg (by rw [h]; decide)] at hm5
    subst hm5
    rw [eqlN]
    refine condB (fun hje2 => ?_) (fun hje2 => ?_)
    · rw [if_pos (of_decide_eq_true hje2)] at hm
      rw [hm] at hQ
      exact hQ M6 h6 k6
    have hje2 : ¬ R5 = e := of_decide_eq_false hje2
    rw [if_neg hje2] at hm
    rw [subN (by omega) (by omega), show (50 : Int) = ((50 : Nat) : Int) from rfl, lssN]
    refine condB (fun h50 => ?_) (fun h50 => ?_)
    · rw [if_pos (of_decide_eq_true h50)] at hm
      rw [hm] at hQ
      exact hQ M6 h6 k6
    rw [if_neg (of_decide_eq_false h50)] at hm
    rw [sub1 (by omega) (by omega), sub1 (by omega) (by omega), h6.rd (z := 5) rfl hs3.symm (by omega), h6.rd (z := 5) rfl hs3.symm (by omega)]
    refine h6.swap (z := 5) rfl hs3.symm (by omega) (by omega) fun M7 h7 k7' => ?_
    have k7 := k6.trans k7'
    have hs6 : (Sort.swp d3 R5 (R5 - 1)).size = d.size := by rw [sz_swp, hs3]
    generalize Sort.swp d3 R5 (R5 - 1) = d6 at *
    refine joinV_spec (fun zs M' => zs = [] ∧ At EntE T b (if R5 - a ≥ 2 then Sort.shiftDown lt (R5 - 1) d6 else d6) M' ∧ Keep [b] M M') ?_ ?_
    · rintro zs M8 ⟨rfl, h8, k8⟩
      have hs7 : (if R5 - a ≥ 2 then Sort.shiftDown lt (R5 - 1) d6 else d6).size = d.size := by
        split
        · rw [g_shiftDown, hs6]
        · exact hs6
      generalize (if R5 - a ≥ 2 then Sort.shiftDown lt (R5 - 1) d6 else d6) = d7 at *
      rw [subN (by omega) (by omega), show (2 : Int) = ((2 : Nat) : Int) from rfl, geqN]
      refine condB (fun h2 => ?_) (fun h2 => ?_)
      · rw [if_pos (of_decide_eq_true h2)] at hm
        rw [add1 (by omega)]
        obtain ⟨R8, hR8⟩ : ∃ R8, R8 = Sort.shiftUp lt e (R5 + 1) d7 := ⟨_, rfl⟩
        rw [← hR8] at hm
        refine loopW_ind (fun m ys M8 => ∃ (j : Nat) (d8 : Array Ent), m = e - j ∧ ys = [N .i64 (j : Int)] ∧ R5 + 1 ≤ j ∧ j ≤ e ∧ At EntE T b d8 M8 ∧ Keep [b] M M8 ∧ d8.size = d.size ∧ R8 = Sort.shiftUp lt e j d8) _ ⟨R5 + 1, d7, rfl, rfl, Nat.le_refl _, by omega, h8, k8, hs7, hR8⟩ ?_
        rintro next3 m ys M9 hnext3 ⟨j, d8, rfl, rfl, hj1, hj2, h9, k9, hs8', hm8⟩
        dsimp only [nthD]
        rw [Sort.shiftUp] at hm8
        rw [lssN]
        refine condB (fun hl1 => ?_) (fun hl1 => ?_)
        · have hl1 : j < e := of_decide_eq_true hl1
          rw [if_pos hl1] at hm8
          rw [h9.rd (z := 5) rfl hs8'.symm (by omega), sub1 (by omega) (by omega), h9.rd (z := 5) rfl hs8'.symm (by omega)]
          refine hl.use fun M10 k10' => ?_
          have h10 := h9.keep k10'
          have k10 := k9.trans (k10'.mono (cs := [b]) (by simp))
          rw [notW_Bo]
          refine condB (fun hn => ?_) (fun hn => ?_)
          · rw [if_pos hn] at hm8
            subst hm8
            exact hJ _ _ ⟨R5, R8, rfl, by omega, by omega, h10, k10, hs8', hm⟩
          · rw [if_neg (by rw [hn]; decide)] at hm8
            rw [sub1 (by omega) (by omega), sub1 (by omega) (by omega), h10.rd (z := 5) rfl hs8'.symm (by omega), h10.rd (z := 5) rfl hs8'.symm (by omega)]
            refine h10.swap (z := 5) rfl hs8'.symm (by omega) (by omega) fun M11 h11 k11 => ?_
            rw [add1 (by omega)]
            exact hnext3 _ _ _ (by omega) ⟨j + 1, _, rfl, rfl, by omega, by omega, h11, k10.trans k11, by rw [sz_swp, hs8'], hm8⟩
        · rw [if_neg (of_decide_eq_false hl1)] at hm8
          subst hm8
          exact hJ _ _ ⟨R5, R8, rfl, by omega, by omega, h9, k9, hs8', hm⟩
      · rw [if_neg (of_decide_eq_false h2)] at hm
        exact hJ _ _ ⟨R5, d7, rfl, by omega, by omega, h8, k8, hs7, hm⟩
    intro J2 hJ2
    rw [subN (by omega) (by omega), show (2 : Int) = ((2 : Nat) : Int) from rfl, geqN]
    refine condB (fun h2 => ?_) (fun h2 => ?_)
    · rw [if_pos (of_decide_eq_true h2)] at hJ2
      rw [sub1 (by omega) (by omega)]
      obtain ⟨R8, hR8⟩ : ∃ R8, R8 = Sort.shiftDown lt (R5 - 1) d6 := ⟨_, rfl⟩
      rw [← hR8] at hJ2
      refine loopW_ind (fun m ys M8 => ∃ (j : Nat) (d8 : Array Ent), m = j + 1 ∧ ys = [N .i64 (j : Int)] ∧ j < R5 ∧ At EntE T b d8 M8 ∧ Keep [b] M M8 ∧ d8.size = d.size ∧ R8 = Sort.shiftDown lt j d8) _ ⟨R5 - 1, d6, rfl, rfl, by omega, h7, k7, hs6, hR8⟩ ?_
      rintro next3 m ys M8 hnext3 ⟨j, d8, rfl, rfl, hj1, h8, k8, hs8', hm8⟩
      dsimp only [nthD]
      rw [show (1 : Int) = ((1 : Nat) : Int) from rfl, geqN]
      refine condB (fun hl1 => ?_) (fun hl1 => ?_)
      · have hl1 : j ≥ 1 := of_decide_eq_true hl1
        obtain ⟨j', rfl⟩ : ∃ j', j = j' + 1 := ⟨j - 1, by omega⟩
        rw [Sort.shiftDown] at hm8
        rw [h8.rd (z := 5) rfl hs8'.symm (by omega), subN (by omega) (by omega), Nat.add_sub_cancel, h8.rd (z := 5) rfl hs8'.symm (by omega)]
        refine hl.use fun M10 k10' => ?_
        have h10 := h8.keep k10'
        have k10 := k8.trans (k10'.mono (cs := [b]) (by simp))
        rw [notW_Bo]
        refine condB (fun hn => ?_) (fun hn => ?_)
        · rw [if_pos hn] at hm8
          subst hm8
          exact hJ2 _ _ ⟨rfl, h10, k10⟩
        · rw [if_neg (by rw [hn]; decide)] at hm8
          rw [subN (by omega) (by omega), subN (by omega) (by omega), Nat.add_sub_cancel, h10.rd (z := 5) rfl hs8'.symm (by omega), h10.rd (z := 5) rfl hs8'.symm (by omega)]
          refine h10.swap (z := 5) rfl hs8'.symm (by omega) (by omega) fun M11 h11 k11 => ?_
          rw [subN (by omega) (by omega), Nat.add_sub_cancel]
          exact hnext3 _ _ _ (by omega) ⟨j', _, rfl, rfl, by omega, h11, k10.trans k11, by rw [sz_swp, hs8'], hm8⟩
      · have hl1 : ¬ j ≥ 1 := of_decide_eq_false hl1
        have h0 : j = 0 := by omega
        subst h0
        rw [Sort.shiftDown] at hm8
        subst hm8
        exact hJ2 _ _ ⟨rfl, h8, k8⟩
    · rw [if_neg (of_decide_eq_false h2)] at hJ2
      exact hJ2 _ _ ⟨rfl, h7, k7⟩
  · have hg : ¬ 5 - s < 5 := of_decide_eq_false hg
    have h0 : s = 0 := by omega
    subst h0
    rw [Sort.partialIns] at hm
    rw [hm] at hQ
    exact hQ M3 h3 k3
theorem breakE {T TX : Nat} {fv : AV} {cp cx : CallT} (hp : PowX cp) (hx : XorA TX cx) : SortG EntE T 5 fv Sort.breakPatterns (fun _ _ _ => True) fun args M Q => ∃ a0 a1 a2 a3, args = [a0, a1, a2, a3] ∧ W_breakPatternsCmpFunc_Entry TX cp cx a0 a1 a2 a3 M Q := by
  intro M b a e d Q hat hsz hae he _ hQ
  refine ⟨_, _, _, _, rfl, ?_⟩
  unfold W_breakPatternsCmpFunc_Entry
  simp only [joinW_shut]
  rw [subN hae (by omega), show (8 : Int) = ((8 : Nat) : Int) from rfl, geqN]
  unfold Sort.breakPatterns at hQ
  refine condB (fun h8 => ?_) (fun h8 => ?_)
  · have h8 : e - a ≥ 8 := of_decide_eq_true h8
    rw [if_pos h8] at hQ
    have hbl := bits_le (x := e - a) (by omega) (by omega)
    rw [cvtW_N, wrap_u64_id (by omega) (by omega), newW_eq]
    have kk : Keep [] M (M.push (.row [(N .u64 0)] false TX 0)) := (Keep.refl _ _).push _
    have hsb : M.next ≠ b := by have := hat.lt; omega
    have hh0 : (M.push (.row [(N .u64 0)] false TX 0)).heap M.next = some (.row [N .u64 0] false TX 0) := RM.push_new _
    have hl64 : (UInt64.ofNat (e - a)).toNat = e - a := by rw [UInt64.toNat_ofNat']; omega
    have hn0 : M.next < (M.push (.row [(N .u64 0)] false TX 0)).next := by simp [RM.push]
    rw [storeW_at hh0 (by simp) rfl rfl]
    have kS : Keep [] M ((M.push (.row [(N .u64 0)] false TX 0)).put M.next (.row (([N .u64 0] : List AV).set 0 (N .u64 ((e - a : Nat) : Int))) false TX 0)) := kk.new _ (Nat.le_refl _)
    have hs1 : ((M.push (.row [(N .u64 0)] false TX 0)).put M.next (.row (([N .u64 0] : List AV).set 0 (N .u64 ((e - a : Nat) : Int))) false TX 0)).heap M.next = some (.row [N .u64 ((UInt64.ofNat (e - a)).toNat : Int)] false TX 0) := by
      rw [heap_put_eq, hl64]; rfl
    have hn1 : M.next < ((M.push (.row [(N .u64 0)] false TX 0)).put M.next (.row (([N .u64 0] : List AV).set 0 (N .u64 ((e - a : Nat) : Int))) false TX 0)).next := hn0
    generalize (M.push (.row [(N .u64 0)] false TX 0)).put M.next (.row (([N .u64 0] : List AV).set 0 (N .u64 ((e - a : Nat) : Int))) false TX 0) = M1 at *
    have hat1 := hat.keep kS
    have back : ∀ M', Keep [b, M.next] M1 M' → Keep [b] M M' := fun M' k => (kS.mono (cs := [b]) (by simp)).then_new k fun c hc => by simp at hc; rcases hc with h | h <;> simp [h]
    generalize M.next = s at *
    refine hp (by omega) (by omega) ?_
    have hq : ∀ (c : Int), c = ((2 : Nat) : Int) → ∀ (K : AV → Prop), (intW .quo (N .i64 ((e - a : Nat) : Int)) (N .i64 4) fun t18 => intW .mul t18 (N .i64 c) fun t19 => intW .add (N .i64 (a : Int)) t19 K) = K (N .i64 ((a + (e - a) / 4 * 2 : Nat) : Int)) := fun c hc K => by
      subst hc
      rw [intW_quo, show (4 : Int) = ((4 : Nat) : Int) from rfl, quo_nat, wrap_i64_id (by omega) (by omega), intW_mul, ← Int.natCast_mul, wrap_i64_id (by omega) (by omega), addN (by omega)]
      exact propext ⟨fun h => h.2, fun h => ⟨by decide, h⟩⟩
    rw [hq 2 rfl, sub1 (by omega) (by omega)]
    have hst3 : (Sort.breakStep a (e - a) (1 <<< Sort.bitsLen (e - a)) (Sort.breakStep a (e - a) (1 <<< Sort.bitsLen (e - a)) (Sort.breakStep a (e - a) (1 <<< Sort.bitsLen (e - a)) (UInt64.ofNat (e - a), d) (a + (e - a) / 4 * 2 - 1)) (a + (e - a) / 4 * 2 - 1 + 1)) (a + (e - a) / 4 * 2 - 1 + 2)).2 = (stG a (e - a) (2 ^ Sort.bitsLen (e - a)) (a + (e - a) / 4 * 2 - 1) d 3).2 := by
      rw [Nat.shiftLeft_eq, Nat.one_mul]; rfl
    have hQ : ∀ M', At EntE T b (stG a (e - a) (2 ^ Sort.bitsLen (e - a)) (a + (e - a) / 4 * 2 - 1) d 3).2 M' → Keep [b] M M' → Q (.tup []) M' := fun M' h k => hQ M' (by rw [hst3]; exact h) k
    generalize hmd : 2 ^ Sort.bitsLen (e - a) = md at *
    generalize hi0 : a + (e - a) / 4 * 2 - 1 = i0 at *
    refine loopW_ind (fun m ys M3 => ∃ (k : Nat), m = 3 - k ∧ k ≤ 3 ∧ ys = [N .i64 ((i0 + k : Nat) : Int)] ∧ At EntE T b (stG a (e - a) md i0 d k).2 M3 ∧ M3.heap s = some (.row [N .u64 ((stG a (e - a) md i0 d k).1.toNat : Int)] false TX 0) ∧ s < M3.next ∧ Keep [b, s] M1 M3) _ ⟨0, rfl, by omega, rfl, hat1, hs1, hn1, Keep.refl _ _⟩ ?_
    rintro next m ys M3 hnext ⟨k, rfl, hk, rfl, h3, hh3, hn3, k3⟩
    dsimp only [nthD]
    have hsk := stG_sz a (e - a) md i0 d k
    have hnx' : stG a (e - a) md i0 d (k + 1) = Sort.breakStep a (e - a) md (stG a (e - a) md i0 d k) (i0 + k) := rfl
    generalize hstk : stG a (e - a) md i0 d k = st at *
    rw [hq 2 rfl, add1 (by omega), leqN]
    refine condB (fun hg => ?_) (fun hg => ?_)
    · have hg : i0 + k ≤ a + (e - a) / 4 * 2 + 1 := of_decide_eq_true hg
      refine joinV_spec (fun zs M' => At EntE T b (stG a (e - a) md i0 d (k + 1)).2 M' ∧ M'.heap s = some (.row [N .u64 ((stG a (e - a) md i0 d (k + 1)).1.toNat : Int)] false TX 0) ∧ s < M'.next ∧ Keep [b, s] M1 M') ?_ ?_
      · rintro zs M' ⟨c1, c2, c3, c4⟩
        rw [add1 (by omega)]
        exact hnext _ _ _ (by omega) ⟨k + 1, rfl, by omega, rfl, c1, c2, c3, c4⟩
      intro J hJ
      refine hx hh3 hn3 fun M4 hh4 k4 n4 => ?_
      have h4 := h3.keep' k4 (by simp; omega)
      rw [hnx'] at hJ
      unfold Sort.breakStep at hJ
      dsimp only at hJ
      generalize Sort.xorNext st.1 = r at *
      rw [intW_sub, wrap_u64_id (by omega) (by omega), show (md : Int) - 1 = ((md - 1 : Nat) : Int) by omega, intW_and, andI_nat rfl]
      have hlt : r.toNat &&& (md - 1) < md := by
        rw [← hmd, Nat.and_two_pow_sub_one_eq_mod]
        exact Nat.mod_lt _ (by rw [hmd]; omega)
      rw [Nat.mod_eq_of_lt (show r.toNat &&& (md - 1) < 2 ^ ubits .u64 by show _ < 2 ^ 64; omega)]
      generalize r.toNat &&& (md - 1) = o at *
      rw [cvtW_N, wrap_i64_id (by omega) (by omega)]
      refine joinV_spec (fun zs M' => zs = [N .i64 (((if o ≥ e - a then o - (e - a) else o) : Nat) : Int)] ∧ M' = M4) ?_ ?_
      · rintro zs M' ⟨rfl, rfl⟩
        dsimp only [nthD]
        have ho : (if o ≥ e - a then o - (e - a) else o) < e - a := by split <;> omega
        generalize (if o ≥ e - a then o - (e - a) else o) = o2 at *
        rw [addN (by omega), addN (by omega), h4.rd (z := 5) rfl hsk.symm (by omega), h4.rd (z := 5) rfl hsk.symm (by omega)]
        refine h4.swap (z := 5) rfl hsk.symm (by omega) (by omega) fun M5 h5 k5 => ?_
        exact hJ _ _ ⟨h5, k5.heap_of hh4 (by omega) (by simp; omega), by have := k5.next; omega, (k3.trans (k4.mono (cs := [b, s]) (by simp))).trans (k5.mono (cs := [b, s]) (by simp))⟩
      intro J4 hJ4
      rw [geqN]
      refine condB (fun hg2 => ?_) (fun hg2 => ?_)
      · have hg2 : o ≥ e - a := of_decide_eq_true hg2
        rw [subN (by omega) (by omega)]
        exact hJ4 _ _ ⟨by rw [if_pos hg2], rfl⟩
      · exact hJ4 _ _ ⟨by rw [if_neg (of_decide_eq_false hg2)], rfl⟩
    · have hg : ¬ i0 + k ≤ a + (e - a) / 4 * 2 + 1 := of_decide_eq_false hg
      have hk3 : k = 3 := by omega
      subst hk3
      rw [hstk] at hQ
      exact hQ M3 h3 (back M3 k3)
  · rw [if_neg (of_decide_eq_false h8)] at hQ
    exact hQ M hat (Keep.refl _ _)
def PdqE (T m : Nat) (fv : AV) (lt : Ent → Ent → Bool) (c : CallT) : Prop := ∀ {M : RM} {b a e limit : Nat} {d : Array Ent} {Q : PostV}, At EntE T b d M → d.size ≤ 60000 → a ≤ e → e ≤ d.size → e - a < m → limit ≤ 1000000 → (∀ M', At EntE T b (Sort.pdq lt d a e limit true true) M' → Keep [b] M M' → Q (.tup []) M') →
  c [sv b d.size 5, N .i64 (a : Int), N .i64 (e : Int), N .i64 (limit : Int), fv] M Q
theorem pdqE {T m : Nat} {fv : AV} {lt : Ent → Ent → Bool} {cv : FuncId → CallT} {ci ch cb cc cr cp ce ct cq : CallT} (hlt : Sort.SWO lt) (hi : SortG EntE T 5 fv (Sort.insertionSort lt) (fun _ _ _ => True) ci) (hh : SortG EntE T 5 fv (Sort.heapSort lt) (fun _ a e => a < e) ch) (hb : SortG EntE T 5 fv Sort.breakPatterns (fun _ _ _ => True) cb) (hc : ChooseE T fv lt cc) (hr : SortG EntE T 5 fv Sort.reverseRange (fun _ a e => a < e) cr)
    (hp : PartInsE T fv lt cp) (hl : CmpC EntE lt (callV cv fv)) (he : PartEqE T fv lt ce) (ht : PartE T fv lt ct) (hq : PdqE T m fv lt cq) : PdqE T (m + 1) fv lt fun args M Q => ∃ a0 a1 a2 a3 a4, args = [a0, a1, a2, a3, a4] ∧ W_pdqsortCmpFunc_Entry ci ch cb cc cr cp cv ce ct cq a0 a1 a2 a3 a4 M Q := by
  intro M b a e limit d Q hat hsz hae hed hm hlim hQ
  refine ⟨_, _, _, _, _, rfl, ?_⟩
  unfold W_pdqsortCmpFunc_Entry
  simp only [fuseK, fuseKM, fuseMK, joinW_shut]
  obtain ⟨R, hR⟩ : ∃ R, R = Sort.pdq lt d a e limit true true := ⟨_, rfl⟩
  rw [← hR] at hQ
  refine loopW_ind (fun m' ys M3 => ∃ (a e limit : Nat) (wb wp : Bool) (d3 : Array Ent), m' = e - a ∧ ys = [N .i64 (a : Int), N .i64 (e : Int), N .i64 (limit : Int), Bo wb, Bo wp] ∧ a ≤ e ∧ e ≤ d.size ∧ e - a < m + 1 ∧ limit ≤ 1000000 ∧ At EntE T b d3 M3 ∧ Keep [b] M M3 ∧ d3.size = d.size ∧ R = Sort.pdq lt d3 a e limit wb wp) _
    ⟨a, e, limit, true, true, d, rfl, rfl, hae, hed, hm, hlim, hat, Keep.refl _ _, rfl, hR⟩ ?_
  clear hR hae hed hm hlim
  rintro next m' ys M4 hnext ⟨a, e, limit, wb, wp, d3, rfl, rfl, hae, hed, hm, hlim, h4, k4, hs3, hR⟩
  dsimp only [nthD]
  rw [g_pdq_eq] at hR
  rw [subN hae (by omega), show (12 : Int) = ((12 : Nat) : Int) from rfl, leqN]
  refine condB (fun hg => ?_) (fun hg => ?_)
  · rw [if_pos (of_decide_eq_true hg)] at hR
    rw [← hs3]
    refine hi h4 (by omega) hae (by omega) trivial fun M5 h5 k5 => ?_
    rw [← hR] at h5
    exact hQ M5 h5 (k4.trans k5)
  have hg : ¬ e - a ≤ 12 := of_decide_eq_false hg
  rw [if_neg hg] at hR
  rw [show (0 : Int) = ((0 : Nat) : Int) from rfl, eqlN]
  refine condB (fun hg0 => ?_) (fun hg0 => ?_)
  · rw [if_pos (of_decide_eq_true hg0)] at hR
    rw [← hs3]
    refine hh h4 (by omega) hae (by omega) (by omega) fun M5 h5 k5 => ?_
    rw [← hR] at h5
    exact hQ M5 h5 (k4.trans k5)
  have hg0 : ¬ limit = 0 := of_decide_eq_false hg0
  rw [if_neg hg0] at hR
  refine joinV_spec (fun zs M' => zs = [N .i64 (((if !wb then limit - 1 else limit) : Nat) : Int)] ∧ At EntE T b (if !wb then Sort.breakPatterns d3 a e else d3) M' ∧ Keep [b] M M') ?_ ?_
  · rintro zs M5 ⟨rfl, h5, k5⟩
    dsimp only [nthD]
    have hs5 : (if !wb then Sort.breakPatterns d3 a e else d3).size = d.size := by
      split
      · rw [g_break, hs3]
      · exact hs3
    have hl5 : (if !wb then limit - 1 else limit) ≤ 1000000 := by split <;> omega
    generalize (if !wb then Sort.breakPatterns d3 a e else d3) = d5 at *
    generalize (if !wb then limit - 1 else limit) = lim at *
    rw [← hs5]
    refine hc h5 (by omega) (by omega) (by omega) fun M6 h6 k6 => ?_
    rw [hs5]
    have hcr := Sort.choosePivot_holds lt d5 a e (by omega)
    unfold gA at hR
    generalize Sort.choosePivot lt d5 a e = cpv at *
    have k6' := k5.trans (k6.mono (cs := [b]) (by simp))
    rw [extW0, extW1]
    refine joinV_spec (fun zs M' => zs = [N .i64 (((if cpv.2 = .decreasing then (e - 1) - (cpv.1 - a) else cpv.1) : Nat) : Int), N .i64 (hintV (if cpv.2 = .decreasing then .increasing else cpv.2))] ∧ At EntE T b (if cpv.2 = .decreasing then Sort.reverseRange d5 a e else d5) M' ∧ Keep [b] M M') ?_ ?_
    · rintro zs M7 ⟨rfl, h7, k7⟩
      dsimp only [nthD]
      have hs7 : (if cpv.2 = .decreasing then Sort.reverseRange d5 a e else d5).size = d.size := by
        split
        · rw [g_rev, hs5]
        · exact hs5
      have hpv : a ≤ (if cpv.2 = .decreasing then (e - 1) - (cpv.1 - a) else cpv.1) ∧ (if cpv.2 = .decreasing then (e - 1) - (cpv.1 - a) else cpv.1) < e := by
        split <;> omega
      generalize (if cpv.2 = .decreasing then Sort.reverseRange d5 a e else d5) = d7 at *
      generalize (if cpv.2 = .decreasing then (e - 1) - (cpv.1 - a) else cpv.1) = pv at *
      generalize (if cpv.2 = .decreasing then Sort.Hint.increasing else cpv.2) = hint at *
      unfold gB gP at hR
      refine joinV_spec (fun zs M' => ∃ d8 : Array Ent, At EntE T b d8 M' ∧ Keep [b] M M' ∧ d8.size = d.size ∧ R = gC lt d8 a e pv lim wb wp) ?_ ?_
      · rintro zs M8 ⟨d8, h8, k8, hs8, hR8⟩
        unfold gC at hR8
        rw [gtrN]
        refine andP (P := fun M' => At EntE T b d8 M' ∧ Keep [b] M M') (p := !lt d8[a - 1]! d8[pv]!) ⟨h8, k8⟩ (fun hc k hk => ?_) fun M9 ⟨h9, k9⟩ => ?_
        · have hc : a > 0 := of_decide_eq_true hc
          rw [sub1 (by omega) (by omega), h8.rd (z := 5) rfl hs8.symm (by omega), h8.rd (z := 5) rfl hs8.symm (by omega)]
          refine hl.use fun M10 k10 => ?_
          rw [notW_Bo]
          exact hk M10 ⟨h8.keep k10, k8.trans (k10.mono (cs := [b]) (by simp))⟩
        refine condB (fun h => ?_) (fun h => ?_)
        · rw [if_pos h] at hR8
          rw [← hs8]
          have hE := g_partE lt d8 a e pv (by omega)
          refine he h9 (by omega) hpv.1 hpv.2 (by omega) fun M10 h10 k10 => ?_
          generalize Sort.partitionEqual lt d8 a e pv = pe at *
          dsimp only at hR8
          rw [dif_pos ⟨hE.2.1, hE.2.2⟩] at hR8
          exact hnext _ _ _ (by omega) ⟨pe.1, e, lim, wb, wp, pe.2, rfl, rfl, hE.2.2, hed, by omega, hl5, h10, k9.trans k10, by rw [hE.1, hs8], hR8⟩
        · rw [if_neg (by rw [h]; decide)] at hR8
          rw [← hs8]
          have hT := Sort.partition_holds lt hlt d8 a e pv hpv.1 hpv.2 (by omega)
          have hTs := g_part lt d8 a e pv
          refine ht h9 (by omega) hpv.1 hpv.2 (by omega) fun M10 h10 k10 => ?_
          have k10' := k9.trans k10
          generalize Sort.partition lt d8 a e pv = pp at *
          obtain ⟨mid, ap, d9⟩ := pp
          dsimp only at hR8 hT hTs h10 ⊢
          rw [dif_pos ⟨hT.1, hT.2.1⟩] at hR8
          have hT1 := hT.1
          have hT2 := hT.2.1
          rw [extW0, extW1, subN hT1 (by omega), subN (by omega) (by omega), intW_quo]
          refine ⟨by decide, ?_⟩
          rw [show (8 : Int) = ((8 : Nat) : Int) from rfl, quo_nat, wrap_i64_id (by omega) (by omega), lssN]
          refine condB (fun hc1 => ?_) (fun hc1 => ?_)
          · have hc1 : mid - a < e - mid := of_decide_eq_true hc1
            rw [if_pos hc1] at hR8
            rw [geqN, ← hTs]
            refine hq h10 (by omega) hT1 (by omega) (by omega) hl5 fun M11 h11 k11 => ?_
            rw [add1 (by omega)]
            exact hnext _ _ _ (by omega) ⟨mid + 1, e, lim, _, ap, _, rfl, rfl, by omega, hed, by omega, hl5, h11, k10'.trans k11, by rw [g_pdq lt _ _ _ _ _ _ _ (Nat.le_refl _), hTs, hs8], hR8⟩
          · have hc1 : ¬ mid - a < e - mid := of_decide_eq_false hc1
            rw [if_neg hc1] at hR8
            rw [geqN, add1 (by omega), ← hTs]
            refine hq h10 (by omega) (by omega) (by omega) (by omega) hl5 fun M11 h11 k11 => ?_
            exact hnext _ _ _ (by omega) ⟨a, mid, lim, _, ap, _, rfl, rfl, hT1, by omega, by omega, hl5, h11, k10'.trans k11, by rw [g_pdq lt _ _ _ _ _ _ _ (Nat.le_refl _), hTs, hs8], hR8⟩
      intro J10 hJ10
      have no : ¬ (wb && wp && decide (hint = .increasing)) = true → J10 [] M7 := fun hn => by
        have hpi : (if (wb && wp && decide (hint = .increasing)) = true then Sort.partialInsertionSort lt d7 a e else (d7, false)) = (d7, false) := if_neg hn
        rw [hpi] at hR
        exact hJ10 _ _ ⟨d7, h7, k7, hs7, hR⟩
      cases wb with
      | false =>
        rw [guardM_FT]
        dsimp only
        rw [pickF, guardM_FT]
        dsimp only
        rw [guardM_FT]
        dsimp only
        rw [pickF, condF]
        exact no (by simp)
      | true =>
        rw [guardM_TT]
        dsimp only
        rw [pickT]
        cases wp with
        | false =>
          rw [guardM_FT]
          dsimp only
          rw [guardM_FT]
          dsimp only
          rw [pickF, condF]
          exact no (by simp)
        | true =>
          rw [guardM_TT]
          dsimp only
          rw [guardM_TT]
          dsimp only
          rw [intW_eql, pickT]
          by_cases hin : hint = .increasing
          · rw [show (hintV hint == 1) = true by rw [hin]; rfl, condT]
            have hpi : (if (true && true && decide (hint = .increasing)) = true then Sort.partialInsertionSort lt d7 a e else (d7, false)) = Sort.partialInsertionSort lt d7 a e := if_pos (by simp [hin])
            rw [hpi] at hR
            rw [← hs7]
            have hs8 : (Sort.partialInsertionSort lt d7 a e).1.size = d.size := by
              rw [Sort.partialInsertionSort, g_partIns, hs7]
            refine hp h7 (by omega) (by omega) (by omega) fun M8 h8 k8 => ?_
            generalize Sort.partialInsertionSort lt d7 a e = pi at *
            refine condB (fun h => ?_) (fun h => ?_)
            · rw [if_pos h] at hR
              rw [← hR] at h8
              exact hQ M8 h8 (k7.trans k8)
            · rw [if_neg (by rw [h]; decide)] at hR
              exact hJ10 _ _ ⟨pi.1, h8, k7.trans k8, hs8, hR⟩
          · rw [show (hintV hint == 1) = false by cases hint <;> first | rfl | exact absurd rfl hin, condF]
            exact no (by simp [hin])
    intro J6 hJ6
    rw [intW_eql]
    by_cases hdec : cpv.2 = .decreasing
    · rw [show (hintV cpv.2 == 2) = true by rw [hdec]; rfl, condT, ← hs5]
      refine hr h6 (by omega) hae (by omega) (by omega) fun M7 h7 k7 => ?_
      rw [sub1 (by omega) (by omega), subN (by omega) (by omega), subN (by omega) (by omega)]
      exact hJ6 _ _ ⟨by rw [if_pos hdec, if_pos hdec]; rfl, by rw [if_pos hdec]; exact h7, k6'.trans k7⟩
    · rw [show (hintV cpv.2 == 2) = false by cases h : cpv.2 <;> first | rfl | exact absurd h hdec, condF]
      exact hJ6 _ _ ⟨by rw [if_neg hdec, if_neg hdec], by rw [if_neg hdec]; exact h6, k6'⟩
  intro J hJ
  rw [notW_Bo]
  cases wb with
  | true =>
    rw [Bool.not_true, condF]
    exact hJ _ _ ⟨rfl, h4, k4⟩
  | false =>
    rw [Bool.not_false, condT, ← hs3]
    refine hb h4 (by omega) hae (by omega) trivial fun M5 h5 k5 => ?_
    rw [sub1 (by omega) (by omega)]
    exact hJ _ _ ⟨rfl, h5, k4.trans k5⟩
def InsNilE (c : CallT) : Prop := ∀ {M : RM} {v fv : AV} {Q : PostV}, Q (.tup []) M → c [v, N .i64 0, N .i64 ((0 : Nat) : Int), fv] M Q
theorem insNilE {cv : FuncId → CallT} : InsNilE fun args M Q => ∃ a0 a1 a2 a3, args = [a0, a1, a2, a3] ∧ W_insertionSortCmpFunc_Entry cv a0 a1 a2 a3 M Q := by
  intro M v fv Q hQ
  refine ⟨_, _, _, _, rfl, ?_⟩
  unfold W_insertionSortCmpFunc_Entry
  rw [intW_add, show IntKind.i64.wrap ((0 : Int) + 1) = 1 from rfl]
  refine loopW_ind (fun m ys M3 => m = 0 ∧ ys = [N .i64 1] ∧ M3 = M) 0 ⟨rfl, rfl, rfl⟩ ?_
  rintro next m ys M3 hnext ⟨rfl, rfl, rfl⟩
  dsimp only [nthD]
  rw [intW_lss, show decide ((1 : Int) < ((0 : Nat) : Int)) = false from rfl, condF]
  exact hQ
def PdqNilE (c : CallT) : Prop := ∀ {M : RM} {v fv : AV} {Q : PostV}, Q (.tup []) M → c [v, N .i64 0, N .i64 ((0 : Nat) : Int), N .i64 ((0 : Nat) : Int), fv] M Q
theorem pdqNilE {cv : FuncId → CallT} {ci c2 c3 cc c4 cp c6 c7 c8 : CallT} (hi : InsNilE ci) : PdqNilE fun args M Q => ∃ a0 a1 a2 a3 a4, args = [a0, a1, a2, a3, a4] ∧ W_pdqsortCmpFunc_Entry ci c2 c3 cc c4 cp cv c6 c7 c8 a0 a1 a2 a3 a4 M Q := by
  intro M v fv Q hQ
  refine ⟨_, _, _, _, _, rfl, ?_⟩
  unfold W_pdqsortCmpFunc_Entry
  refine loopW_ind (fun m ys M3 => m = 0 ∧ ys = [N .i64 0, N .i64 ((0 : Nat) : Int), N .i64 ((0 : Nat) : Int), Bo true, Bo true] ∧ M3 = M) 0 ⟨rfl, rfl, rfl⟩ ?_
  rintro next m ys M3 hnext ⟨rfl, rfl, rfl⟩
  dsimp only [nthD]
  rw [intW_sub, show IntKind.i64.wrap (((0 : Nat) : Int) - 0) = 0 from rfl, intW_leq, show decide ((0 : Int) ≤ 12) = true from rfl, condT]
  exact hi hQ
def sortE (lt : Ent → Ent → Bool) (xs : List Ent) : List Ent := (Sort.sort lt xs.toArray).toList
theorem sortE_nil (lt : Ent → Ent → Bool) : sortE lt [] = [] := by
  unfold sortE Sort.sort
  rw [g_pdq_eq, if_pos (by simp), Sort.insertionSort, Sort.insOuter, if_neg (by simp)]
theorem sortE_perm {lt : Ent → Ent → Bool} (hlt : Sort.SWO lt) (xs : List Ent) : (sortE lt xs).Perm xs := by
  have h := (Sort.sort_sorts lt hlt xs.toArray).1
  have h2 := h.2.2
  rw [Array.extract_eq_self_of_le (by rw [h.1]; exact Nat.le_refl _), Array.extract_eq_self_of_le (Nat.le_refl _)] at h2
  exact h2
theorem sortE_up {lt : Ent → Ent → Bool} (hlt : Sort.SWO lt) (xs : List Ent) : (sortE lt xs).Pairwise fun x y => lt y x = false := by
  rw [List.pairwise_iff_getElem]
  intro i j hi hj hij
  have h := (Sort.sort_sorts lt hlt xs.toArray)
  have hs : (Sort.sort lt xs.toArray).size = xs.toArray.size := h.1.1
  unfold sortE at hi hj ⊢
  rw [Array.length_toList] at hi hj
  have := h.2 i j (Nat.zero_le _) hij (by omega)
  rw [bang hj, bang hi] at this
  rw [Array.getElem_toList, Array.getElem_toList]
  exact this
def SortFnE (fv : AV) (lt : Ent → Ent → Bool) (T : Nat) (c : CallT) : Prop := ∀ {M : RM} {base : Nat} {v : AV} {xs : List Ent} {Q : PostV}, Ow EntE M base T v xs → xs.length ≤ 60000 → (∀ M', Ow EntE M' base T v (sortE lt xs) → Keep (blkOf v) M M' → Q (.tup []) M') → c [v, fv] M Q
theorem sortFnE {T : Nat} {fv : AV} {lt : Ent → Ent → Bool} {cl cp : CallT} (hlt : Sort.SWO lt) (hl : LenX cl) (hp : ∀ m, PdqE T m fv lt cp) (h0 : PdqNilE cp) : SortFnE fv lt T fun args M Q => ∃ a0 a1, args = [a0, a1] ∧ W_SortFunc_Entry cl cp a0 a1 M Q := by
  intro M base v xs Q ho hx hQ
  have hs : Sl EntE M v xs := ho.slR
  refine ⟨_, _, rfl, ?_⟩
  unfold W_SortFunc_Entry
  rw [SlR.len hs, cvtW_N, wrap_u64_id (by omega) (by omega)]
  refine hl (by omega) ?_
  rcases Nat.eq_zero_or_pos xs.length with hn | hn
  · rw [hn, show Sort.bitsLen 0 = 0 from rfl]
    refine h0 ?_
    have := List.length_eq_zero_iff.1 hn
    subst this
    exact hQ M (by rw [sortE_nil]; exact ho) (Keep.refl _ _)
  · obtain ⟨b, rfl, h1, h2, h3, h4⟩ := Own.op_pos ho hn
    have hb := bits_le hn (by omega)
    have hsz : xs.toArray.size = xs.length := by simp
    have hat : At EntE T b xs.toArray M := ⟨by rw [h3], h2⟩
    have hsl : (sortE lt xs).length = xs.length := (sortE_perm hlt xs).length_eq
    have := hp (xs.length + 1) (M := M) (b := b) (a := 0) (e := xs.toArray.size) (limit := Sort.bitsLen xs.length) (d := xs.toArray) (Q := fun t10 M_0 => Q (.tup []) M_0) hat (by omega) (by omega) (Nat.le_refl _) (by omega) (by omega) fun M' h' k' => ?_
    · have e5 : EntE.size = 5 := rfl
      rw [e5]
      simpa using this
    · have e : (Sort.pdq lt xs.toArray 0 xs.toArray.size (Sort.bitsLen xs.length) true true) = Sort.sort lt xs.toArray := by rw [Sort.sort]; simp
      rw [e] at h'
      refine hQ _ ?_ (by simpa [blkOf] using k')
      have hlast : Own M' base T 5 (.slc b 0 xs.length (.op 5)) (EntE.row (sortE lt xs)) xs.length := .op _ _ _ h1 h'.lt h'.heap (by rw [Enc.row_len, hsl]; rfl)
      show Own M' base T 5 (.slc b 0 xs.length (.op 5)) (EntE.row (sortE lt xs)) (sortE lt xs).length
      rw [hsl]; exact hlast
end Go.Ab.Crw
set_option maxRecDepth 10000
set_option linter.unusedVariables false
set_option linter.unusedSimpArgs false
namespace Go.Ab.Crw
open Go Go.Ab Go.Ab.Dot
end Go.Ab.Crw
set_option maxRecDepth 10000
set_option linter.unusedVariables false
set_option linter.unusedSimpArgs false
namespace Go.Ab.Crw
open Go Go.Ab Go.Ab.Dot
end Go.Ab.Crw
set_option maxRecDepth 10000
set_option linter.unusedVariables false
set_option linter.unusedSimpArgs false
namespace Go.Ab.Dot
open Go Go.Ab
theorem ext16 {ps qs : List Pt} (h1 : ps.length = 16) (h2 : qs.length = 16) (h : ∀ j, j < 16 → ps.getD j (0, []) = qs.getD j (0, [])) : ps = qs := by
  refine List.ext_getElem (by omega) fun j hj hj' => ?_
  have := h j (by omega)
  rw [List.getD_eq_getElem?_getD, List.getD_eq_getElem?_getD, List.getElem?_eq_getElem hj, List.getElem?_eq_getElem hj'] at this
  exact this
theorem asc_ext : ∀ {xs ys : List Nat}, Asc xs → Asc ys → (∀ x, x ∈ xs ↔ x ∈ ys) → xs = ys
  | [], [], _, _, _ => rfl
  | [], y :: ys, _, _, h => by have := (h y).2 (by simp); simp at this
  | x :: xs, [], _, _, h => by have := (h x).1 (by simp); simp at this
  | x :: xs, y :: ys, h1, h2, h => by
    have a1 := List.pairwise_cons.1 h1
    have a2 := List.pairwise_cons.1 h2
    have hxy : x = y := by
      rcases List.mem_cons.1 ((h x).1 (by simp)) with e | e
      · exact e
      · rcases List.mem_cons.1 ((h y).2 (by simp)) with e' | e'
        · exact e'.symm
        · have := a2.1 x e; have := a1.1 y e'; omega
    subst hxy
    refine congrArg (x :: ·) (asc_ext a1.2 a2.2 fun z => ⟨fun hz => ?_, fun hz => ?_⟩)
    · rcases List.mem_cons.1 ((h z).1 (by simp [hz])) with e | e
      · subst e; have := a1.1 z hz; omega
      · exact e
    · rcases List.mem_cons.1 ((h z).2 (by simp [hz])) with e | e
      · subst e; have := a2.1 z hz; omega
      · exact e
theorem withinP_refl (p : Pt) : withinP p p = true := by
  unfold withinP
  simp only [Bool.and_eq_true, List.all_eq_true, decide_eq_true_eq]
  refine ⟨Nat.le_refl _, fun x hx => ?_⟩
  unfold hasP
  simp [hx]
theorem withinS_refl (ps : List Pt) : withinS ps ps = true := withinS_iff.2 fun i _ => withinP_refl _
theorem settle_none {u : Nat} {xs : List Nat} (h : ∀ y ∈ xs, u + 1 < y) : settle u xs = (u, xs) := by
  cases xs with
  | nil => rfl
  | cons x xs =>
    have := h x (by simp)
    unfold settle
    rw [settleK, if_neg (by omega)]; rfl
theorem getD_set_ne {u : List Pt} {i j : Nat} {p : Pt} (h : i ≠ j) : (u.set i p).getD j (0, []) = u.getD j (0, []) := by
  rw [List.getD_eq_getElem?_getD, List.getD_eq_getElem?_getD, List.getElem?_set_ne h]
theorem empty_getD (j : Nat) : emptyS.getD j (0, []) = (0, []) := by
  rw [List.getD_eq_getElem?_getD]
  unfold emptyS
  by_cases h : j < 16
  · rw [List.getElem?_replicate, if_pos h]; rfl
  · rw [List.getElem?_replicate, if_neg h]; rfl
end Go.Ab.Dot
set_option maxRecDepth 10000
set_option linter.unusedVariables false
set_option linter.unusedSimpArgs false
namespace Go.Ab.Dot
open Go Go.Ab
theorem load1_cell {M : RM} {b o : Nat} {x : AV} {K : AV → Prop} (h : M.cell b o = some x) : load1 M (.ptr b o) K = K x := by
  rw [load1_ptr, h]; simp
theorem and_false {c : Bool} {f : KR → Prop} {M : RM} {Z : AV → RM → Prop} (hf : c = true → ∀ k : KR, k (Bo false) M none → f k) (hZ : Z (Bo false) M) :
    guardK (Bo c) true f (fun k => k .undef M none) (fun t M' b => pickW (Bo c) t (Bo false) fun t' => Z t' M') := by
  cases c with
  | false => rw [guardK_FT]; dsimp only; rw [pickF]; exact hZ
  | true => rw [guardK_TT]; exact hf rfl _ (by rw [pickT]; exact hZ)
end Go.Ab.Dot
