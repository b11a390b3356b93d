/- Part 6 of the ground of the proofs of this seat (texts G4E to C5). By an AI agent. -/
import Derived.Test.YtlhlnchhaminjaaGreatHold5
set_option maxRecDepth 10000
set_option linter.unusedVariables false
set_option linter.unusedSimpArgs false
namespace Go.Ab.Crw
open Go Go.Ab Go.Ab.Dot
def SwE (T TI b s : Nat) (d : Array Ent) (k : Nat) (M : RM) : Prop := At EntE T b d M ∧ M.heap s = some (.row [N .i64 (k : Int)] false TI 0) ∧ s < M.next
def Order2E (T TI : Nat) (fv : AV) (lt : Ent → Ent → Bool) (c : CallT) : Prop := ∀ {M : RM} {b s k i j : Nat} {d : Array Ent} {Q : PostV}, SwE T TI b s d k M → s ≠ b → i < d.size → j < d.size → k ≤ 1000 →
  (∀ M', SwE T TI b s d (Sort.order2 lt d i j k).2.2 M' → Keep [s] M M' → Q (.tup [N .i64 (((Sort.order2 lt d i j k).1 : Nat) : Int), N .i64 (((Sort.order2 lt d i j k).2.1 : Nat) : Int)]) M') → c [sv b d.size 5, N .i64 (i : Int), N .i64 (j : Int), .ptr s 0, fv] M Q
theorem order2E {T TI : Nat} {fv : AV} {lt : Ent → Ent → Bool} {cv : FuncId → CallT} (hl : CmpC EntE lt (callV cv fv)) : Order2E T TI fv lt fun args M Q => ∃ a0 a1 a2 a3 a4, args = [a0, a1, a2, a3, a4] ∧ W_slices_order2CmpFunc_rolodex_api_Entry cv a0 a1 a2 a3 a4 M Q := by
  intro M b s k i j d Q ⟨hat, hh, hlt⟩ hsb hi hj hk hQ
  refine ⟨_, _, _, _, _, rfl, ?_⟩
  unfold W_slices_order2CmpFunc_rolodex_api_Entry
  rw [hat.rd (z := 5) rfl rfl (by omega), hat.rd (z := 5) rfl rfl (by omega)]
  refine hl.use fun M1 k1 => ?_
  have h1 := hat.keep k1
  have hh1 := k1.heap_of hh hlt (by simp)
  have n1 := k1.next
  unfold Sort.order2 at hQ
  refine condB (fun h => ?_) (fun h => ?_)
  · rw [if_pos h] at hQ
    rw [ptrW_ptr, load1_at hh1 rfl, add1 (by omega), ptrW_ptr, storeW_at hh1 (by simp) rfl rfl]
    have kk : Keep [s] M1 (M1.put s (.row ([N .i64 (k : Int)].set 0 (N .i64 ((k + 1 : Nat) : Int))) false TI 0)) := (Keep.refl _ _).put _ (.inr (by simp))
    refine hQ _ ⟨h1.keep' kk (by simp; omega), heap_put_eq _, by rw [next_put]; omega⟩ ((k1.mono (by simp)).trans kk)
  · rw [if_neg (by rw [h]; decide)] at hQ
    exact hQ M1 ⟨h1, hh1, by omega⟩ (k1.mono (by simp))
def MedianE (T TI : Nat) (fv : AV) (lt : Ent → Ent → Bool) (c : CallT) : Prop := ∀ {M : RM} {b s k i j h : Nat} {d : Array Ent} {Q : PostV}, SwE T TI b s d k M → s ≠ b → i < d.size → j < d.size → h < d.size → k ≤ 900 →
  (∀ M', SwE T TI b s d (Sort.median lt d i j h k).2 M' → Keep [s] M M' → Q (N .i64 (((Sort.median lt d i j h k).1 : Nat) : Int)) M') → c [sv b d.size 5, N .i64 (i : Int), N .i64 (j : Int), N .i64 (h : Int), .ptr s 0, fv] M Q
theorem medianE {T TI : Nat} {fv : AV} {lt : Ent → Ent → Bool} {c2 : CallT} (h2 : Order2E T TI fv lt c2) : MedianE T TI fv lt fun args M Q => ∃ a0 a1 a2 a3 a4 a5, args = [a0, a1, a2, a3, a4, a5] ∧ W_slices_medianCmpFunc_rolodex_api_Entry c2 a0 a1 a2 a3 a4 a5 M Q := by
  intro M b s k i j h d Q hsw hsb hi hj hh hk hQ
  refine ⟨_, _, _, _, _, _, rfl, ?_⟩
  unfold W_slices_medianCmpFunc_rolodex_api_Entry
  unfold Sort.median at hQ
  have o1 := g_order2 lt d i j k
  refine h2 hsw hsb hi hj (by omega) fun M1 s1 k1 => ?_
  rw [extW0, extW1]
  dsimp only at hQ
  generalize Sort.order2 lt d i j k = r1 at *
  have o2 := g_order2 lt d r1.2.1 h r1.2.2
  refine h2 s1 hsb (by omega) hh (by omega) fun M2 s2 k2 => ?_
  rw [extW0, extW1]
  generalize Sort.order2 lt d r1.2.1 h r1.2.2 = r2 at *
  refine h2 s2 hsb (by omega) (by omega) (by omega) fun M3 s3 k3 => ?_
  rw [extW0, extW1]
  exact hQ M3 s3 ((k1.trans k2).trans k3)
def MedAdjE (T TI : Nat) (fv : AV) (lt : Ent → Ent → Bool) (c : CallT) : Prop := ∀ {M : RM} {b s k i : Nat} {d : Array Ent} {Q : PostV}, SwE T TI b s d k M → s ≠ b → d.size ≤ 60000 → 1 ≤ i → i + 1 < d.size → k ≤ 900 →
  (∀ M', SwE T TI b s d (Sort.medianAdjacent lt d i k).2 M' → Keep [s] M M' → Q (N .i64 (((Sort.medianAdjacent lt d i k).1 : Nat) : Int)) M') → c [sv b d.size 5, N .i64 (i : Int), .ptr s 0, fv] M Q
theorem medadjE {T TI : Nat} {fv : AV} {lt : Ent → Ent → Bool} {cm : CallT} (hm : MedianE T TI fv lt cm) : MedAdjE T TI fv lt fun args M Q => ∃ a0 a1 a2 a3, args = [a0, a1, a2, a3] ∧ W_slices_medianAdjacentCmpFunc_rolodex_api_Entry cm a0 a1 a2 a3 M Q := by
  intro M b s k i d Q hsw hsb hsz h1 h2 hk hQ
  refine ⟨_, _, _, _, rfl, ?_⟩
  unfold W_slices_medianAdjacentCmpFunc_rolodex_api_Entry
  rw [sub1 (by omega) (by omega), add1 (by omega)]
  exact hm hsw hsb (by omega) (by omega) (by omega) hk fun M1 s1 k1 => hQ M1 s1 k1
def pivRE (lt : Ent → Ent → Bool) (d : Array Ent) (a e : Nat) : Nat × Nat :=
  if e - a ≥ 8 then (if e - a ≥ 50 then Sort.median lt d (Sort.medianAdjacent lt d (a + (e - a) / 4 * 1) 0).1 (Sort.medianAdjacent lt d (a + (e - a) / 4 * 2) (Sort.medianAdjacent lt d (a + (e - a) / 4 * 1) 0).2).1 (Sort.medianAdjacent lt d (a + (e - a) / 4 * 3) (Sort.medianAdjacent lt d (a + (e - a) / 4 * 2) (Sort.medianAdjacent lt d (a + (e - a) / 4 * 1) 0).2).2).1 (Sort.medianAdjacent lt d (a + (e - a) / 4 * 3) (Sort.medianAdjacent lt d (a + (e - a) / 4 * 2) (Sort.medianAdjacent lt d (a + (e - a) / 4 * 1) 0).2).2).2
    else Sort.median lt d (a + (e - a) / 4 * 1) (a + (e - a) / 4 * 2) (a + (e - a) / 4 * 3) 0) else (a + (e - a) / 4 * 2, 0)
theorem pivRE_eq (lt : Ent → Ent → Bool) (d : Array Ent) (a e : Nat) : Sort.choosePivot lt d a e = ((pivRE lt d a e).1, if (pivRE lt d a e).2 = 0 then .increasing else if (pivRE lt d a e).2 = 12 then .decreasing else .unknown) := rfl
def ChooseE (T : Nat) (fv : AV) (lt : Ent → Ent → Bool) (c : CallT) : Prop := ∀ {M : RM} {b a e : Nat} {d : Array Ent} {Q : PostV}, At EntE T b d M → d.size ≤ 60000 → a < e → e ≤ d.size →
  (∀ M', At EntE T b d M' → Keep [] M M' → Q (.tup [N .i64 (((Sort.choosePivot lt d a e).1 : Nat) : Int), N .i64 (hintV (Sort.choosePivot lt d a e).2)]) M') → c [sv b d.size 5, N .i64 (a : Int), N .i64 (e : Int), fv] M Q
theorem chooseE {T TI : Nat} {fv : AV} {lt : Ent → Ent → Bool} {ca cm : CallT} (ha : MedAdjE T TI fv lt ca) (hm : MedianE T TI fv lt cm) : ChooseE T fv lt fun args M Q => ∃ a0 a1 a2 a3, args = [a0, a1, a2, a3] ∧ W_slices_choosePivotCmpFunc_rolodex_api_Entry TI ca cm a0 a1 a2 a3 M Q := by
  intro M b a e d Q hat hsz hae he hQ
  refine ⟨_, _, _, _, rfl, ?_⟩
  unfold W_slices_choosePivotCmpFunc_rolodex_api_Entry
  simp only [joinW_shut]
  rw [subN (by omega) (by omega), newW_eq]
  have kk : Keep [] M (M.push (.row [N .i64 0] false TI 0)) := (Keep.refl _ _).push _
  have sw0 : SwE T TI b M.next d 0 (M.push (.row [N .i64 0] false TI 0)) := ⟨hat.keep kk, RM.push_new _, by simp [RM.push]⟩
  have hsb : M.next ≠ b := by have := hat.lt; omega
  have back : ∀ M', Keep [M.next] (M.push (.row [N .i64 0] false TI 0)) M' → Keep [] M M' := fun M' k => kk.then_new k fun c hc => .inl (by simp at hc; omega)
  generalize M.push (.row [N .i64 0] false TI 0) = M1 at *
  generalize M.next = s at *
  have hq : ∀ (k : Nat) (c : Int), c = (k : Int) → k ≤ 3 → ∀ (K : AV → Prop), (intW .quo (N .i64 ((e - a : Nat) : Int)) (N .i64 4) fun t18 => intW .mul t18 (N .i64 c) fun t19 => intW .add (N .i64 (a : Int)) t19 K) = K (N .i64 ((a + (e - a) / 4 * k : Nat) : Int)) := fun k c hc hk K => by
    subst hc
    have hb : (e - a) / 4 * k ≤ (e - a) * 3 := Nat.mul_le_mul (Nat.div_le_self _ _) hk
    rw [intW_quo, show (4 : Int) = ((4 : Nat) : Int) from rfl, quo_nat, wrap_i64_id (by omega) (by omega), intW_mul, ← Int.natCast_mul, wrap_i64_id (by omega) (by omega), addN (by omega)]
    exact propext ⟨fun h => h.2, fun h => ⟨by decide, h⟩⟩
  rw [hq 1 1 rfl (by omega), hq 2 2 rfl (by omega), hq 3 3 rfl (by omega)]
  rw [pivRE_eq] at hQ
  have hr : pivRE lt d a e = pivRE lt d a e := rfl
  conv at hr => rhs; unfold pivRE
  generalize pivRE lt d a e = r at *
  refine joinV_spec (fun zs M' => zs = [N .i64 ((r.1 : Nat) : Int)] ∧ SwE T TI b s d r.2 M' ∧ Keep [s] M1 M') ?_ ?_
  · rintro zs M' ⟨rfl, ⟨h3, hh, _⟩, k3⟩
    dsimp only [nthD]
    have := hQ M' h3 (back M' k3)
    rw [load1_at hh rfl, intW_eql]
    by_cases h0 : r.2 = 0
    · rw [show ((r.2 : Int) == 0) = true by rw [h0]; rfl, condT]
      rw [if_pos h0] at this
      exact this
    · rw [show ((r.2 : Int) == 0) = false by rw [beq_eq_false_iff_ne]; omega, condF, intW_eql]
      rw [if_neg h0] at this
      by_cases h12 : r.2 = 12
      · rw [show ((r.2 : Int) == 12) = true by rw [h12]; rfl, condT]
        rw [if_pos h12] at this
        exact this
      · rw [show ((r.2 : Int) == 12) = false by rw [beq_eq_false_iff_ne]; omega, condF]
        rw [if_neg h12] at this
        exact this
  intro J hJ
  rw [show (8 : Int) = ((8 : Nat) : Int) from rfl, geqN]
  refine condB (fun h8 => ?_) (fun h8 => ?_)
  · have h8 : e - a ≥ 8 := of_decide_eq_true h8
    rw [if_pos h8] at hr
    refine joinV_spec (fun zs M' => ∃ x y z k : Nat, zs = [N .i64 (x : Int), N .i64 (y : Int), N .i64 (z : Int)] ∧ SwE T TI b s d k M' ∧ Keep [s] M1 M' ∧ x < d.size ∧ y < d.size ∧ z < d.size ∧ k ≤ 900 ∧ r = Sort.median lt d x y z k) ?_ ?_
    · rintro zs M' ⟨x, y, z, k, rfl, s3, k3, hx, hy, hz, hk, rfl⟩
      dsimp only [nthD]
      exact hm s3 hsb hx hy hz hk fun M4 s4 k4 => hJ _ _ ⟨rfl, s4, k3.trans k4⟩
    intro J0 hJ0
    rw [show (50 : Int) = ((50 : Nat) : Int) from rfl, geqN]
    refine condB (fun h50 => ?_) (fun h50 => ?_)
    · have h50 : e - a ≥ 50 := of_decide_eq_true h50
      rw [if_pos h50] at hr
      have m1 := g_median lt d (i := a + (e - a) / 4 * 1 - 1) (j := a + (e - a) / 4 * 1) (h := a + (e - a) / 4 * 1 + 1) (k := 0) (n := d.size) (by omega) (by omega) (by omega)
      have r1 : (Sort.medianAdjacent lt d (a + (e - a) / 4 * 1) 0).1 < d.size ∧ (Sort.medianAdjacent lt d (a + (e - a) / 4 * 1) 0).2 ≤ 0 + 3 := m1
      refine ha sw0 hsb hsz (by omega) (by omega) (by omega) fun M2 s2 k2 => ?_
      generalize Sort.medianAdjacent lt d (a + (e - a) / 4 * 1) 0 = q1 at *
      have m2 := g_median lt d (i := a + (e - a) / 4 * 2 - 1) (j := a + (e - a) / 4 * 2) (h := a + (e - a) / 4 * 2 + 1) (k := q1.2) (n := d.size) (by omega) (by omega) (by omega)
      have r2 : (Sort.medianAdjacent lt d (a + (e - a) / 4 * 2) q1.2).1 < d.size ∧ (Sort.medianAdjacent lt d (a + (e - a) / 4 * 2) q1.2).2 ≤ q1.2 + 3 := m2
      refine ha s2 hsb hsz (by omega) (by omega) (by omega) fun M3 s3 k3 => ?_
      generalize Sort.medianAdjacent lt d (a + (e - a) / 4 * 2) q1.2 = q2 at *
      have m3 := g_median lt d (i := a + (e - a) / 4 * 3 - 1) (j := a + (e - a) / 4 * 3) (h := a + (e - a) / 4 * 3 + 1) (k := q2.2) (n := d.size) (by omega) (by omega) (by omega)
      have r3 : (Sort.medianAdjacent lt d (a + (e - a) / 4 * 3) q2.2).1 < d.size ∧ (Sort.medianAdjacent lt d (a + (e - a) / 4 * 3) q2.2).2 ≤ q2.2 + 3 := m3
      refine ha s3 hsb hsz (by omega) (by omega) (by omega) fun M4 s4 k4 => ?_
      generalize Sort.medianAdjacent lt d (a + (e - a) / 4 * 3) q2.2 = q3 at *
      exact hJ0 _ _ ⟨q1.1, q2.1, q3.1, q3.2, rfl, s4, (k2.trans k3).trans k4, r1.1, r2.1, r3.1, by omega, hr⟩
    · have h50 : ¬ e - a ≥ 50 := of_decide_eq_false h50
      rw [if_neg h50] at hr
      exact hJ0 _ _ ⟨_, _, _, 0, rfl, sw0, Keep.refl _ _, by omega, by omega, by omega, by omega, hr⟩
  · have h8 : ¬ e - a ≥ 8 := of_decide_eq_false h8
    rw [if_neg h8] at hr
    subst hr
    exact hJ _ _ ⟨rfl, sw0, Keep.refl _ _⟩
def PartInsE (T : Nat) (fv : AV) (lt : Ent → Ent → Bool) (c : CallT) : Prop := ∀ {M : RM} {b a e : Nat} {d : Array Ent} {Q : PostV}, At EntE T b d M → d.size ≤ 60000 → a < e → e ≤ d.size → (∀ M', At EntE T b (Sort.partialInsertionSort lt d a e).1 M' → Keep [b] M M' → Q (Bo (Sort.partialInsertionSort lt d a e).2) M') →
  c [sv b d.size 5, N .i64 (a : Int), N .i64 (e : Int), fv] M Q
theorem partInsE {T : Nat} {fv : AV} {lt : Ent → Ent → Bool} {cv : FuncId → CallT} (hl : CmpC EntE lt (callV cv fv)) : PartInsE T fv lt fun args M Q => ∃ a0 a1 a2 a3, args = [a0, a1, a2, a3] ∧ W_slices_partialInsertionSortCmpFunc_rolodex_api_Entry cv a0 a1 a2 a3 M Q := by
  intro M b a e d Q hat hsz hae he hQ
  refine ⟨_, _, _, _, rfl, ?_⟩
  unfold W_slices_partialInsertionSortCmpFunc_rolodex_api_Entry
  simp only [fuseK, fuseKM, fuseMK, joinW_shut]
  rw [add1 (by omega)]
  unfold Sort.partialInsertionSort at hQ
  obtain ⟨R, hR⟩ : ∃ R, R = Sort.partialIns lt a e 5 (a + 1) d := ⟨_, rfl⟩
  rw [← hR] at hQ
  refine loopW_ind (fun m ys M3 => ∃ (i s : Nat) (d3 : Array Ent), m = s ∧ s ≤ 5 ∧ ys = [N .i64 (i : Int), N .i64 ((5 - s : Nat) : Int)] ∧ a + 1 ≤ i ∧ i ≤ e ∧ At EntE T b d3 M3 ∧ Keep [b] M M3 ∧ d3.size = d.size ∧ R = Sort.partialIns lt a e s i d3) _ ⟨a + 1, 5, d, rfl, by omega, rfl, by omega, by omega, hat, Keep.refl _ _, rfl, hR⟩ ?_
  rintro next m ys M3 hnext ⟨i, s, d3, hms, hs5, rfl, hai, hie, h3, k3, hs3, hm⟩
  dsimp only [nthD]
  rw [show (5 : Int) = ((5 : Nat) : Int) from rfl, lssN]
  refine condB (fun hg => ?_) (fun hg => ?_)
  · have hg : 5 - s < 5 := of_decide_eq_true hg
    obtain ⟨s', rfl⟩ : ∃ s', s = s' + 1 := ⟨s - 1, by omega⟩
    rw [g_partialIns_eq] at hm
    refine joinV_spec (fun zs M' => ∃ (i' : Nat) (d4 : Array Ent), zs = [N .i64 (i' : Int)] ∧ a + 1 ≤ i' ∧ i' ≤ e ∧ At EntE T b d4 M' ∧ Keep [b] M M' ∧ d4.size = d.size ∧ R = Sort.partialIns lt a e s' i' d4) ?_ ?_
    · rintro zs M' ⟨i', d4, rfl, h1, h2, h4, k4, h5, h6⟩
      dsimp only [nthD]
      rw [add1 (by omega)]
      exact hnext _ _ _ (by omega) ⟨i', s', d4, rfl, by omega, by congr 4; omega, h1, h2, h4, k4, h5, h6⟩
    intro J hJ
    obtain ⟨R5, hR5⟩ : ∃ R5, R5 = Sort.scanSorted lt d3 e i := ⟨_, rfl⟩
    rw [← hR5] at hm
    refine loopW_ind (fun m ys M5 => ∃ (j : Nat), m = e - j ∧ ys = [N .i64 (j : Int)] ∧ i ≤ j ∧ j ≤ e ∧ At EntE T b d3 M5 ∧ Keep [b] M M5 ∧ R5 = Sort.scanSorted lt d3 e j) _ ⟨i, rfl, rfl, Nat.le_refl _, hie, h3, k3, hR5⟩ ?_
    rintro next2 m ys M5 hnext2 ⟨j, rfl, rfl, hij, hje, h5, k5, hm5⟩
    dsimp only [nthD]
    rw [Sort.scanSorted] at hm5
    rw [lssN]
    refine andP (P := fun M' => At EntE T b d3 M' ∧ Keep [b] M M') (p := !lt d3[j]! d3[j - 1]!) ⟨h5, k5⟩ (fun hc k hk => ?_) fun M6 ⟨h6, k6⟩ => ?_
    · have hc : j < e := of_decide_eq_true hc
      rw [h5.rd (z := 5) rfl hs3.symm (by omega), sub1 (by omega) (by omega), h5.rd (z := 5) rfl hs3.symm (by omega)]
      refine hl.use fun M7 k7 => ?_
      rw [notW_Bo]
      exact hk M7 ⟨h5.keep k7, k5.trans (k7.mono (cs := [b]) (by simp))⟩
    refine condB (fun h => ?_) (fun h => ?_)
    · have hc : j < e := by
        rw [Bool.and_eq_true] at h
        exact of_decide_eq_true h.1
      rw [if_pos h] at hm5
      rw [add1 (by omega)]
      exact hnext2 _ _ _ (by omega) ⟨j + 1, rfl, rfl, by omega, by omega, h6, k6, hm5⟩
    rw [if_neg (by rw [h]; decide)] at hm5
    subst hm5
    rw [eqlN]
    refine condB (fun hje2 => ?_) (fun hje2 => ?_)
    · rw [if_pos (of_decide_eq_true hje2)] at hm
      rw [hm] at hQ
      exact hQ M6 h6 k6
    have hje2 : ¬ R5 = e := of_decide_eq_false hje2
    rw [if_neg hje2] at hm
    rw [subN (by omega) (by omega), show (50 : Int) = ((50 : Nat) : Int) from rfl, lssN]
    refine condB (fun h50 => ?_) (fun h50 => ?_)
    · rw [if_pos (of_decide_eq_true h50)] at hm
      rw [hm] at hQ
      exact hQ M6 h6 k6
    rw [if_neg (of_decide_eq_false h50)] at hm
    rw [sub1 (by omega) (by omega), sub1 (by omega) (by omega), h6.rd (z := 5) rfl hs3.symm (by omega), h6.rd (z := 5) rfl hs3.symm (by omega)]
    refine h6.swap (z := 5) rfl hs3.symm (by omega) (by omega) fun M7 h7 k7' => ?_
    have k7 := k6.trans k7'
    have hs6 : (Sort.swp d3 R5 (R5 - 1)).size = d.size := by rw [sz_swp, hs3]
    generalize Sort.swp d3 R5 (R5 - 1) = d6 at *
    refine joinV_spec (fun zs M' => zs = [] ∧ At EntE T b (if R5 - a ≥ 2 then Sort.shiftDown lt (R5 - 1) d6 else d6) M' ∧ Keep [b] M M') ?_ ?_
    · rintro zs M8 ⟨rfl, h8, k8⟩
      have hs7 : (if R5 - a ≥ 2 then Sort.shiftDown lt (R5 - 1) d6 else d6).size = d.size := by
        split
        · rw [g_shiftDown, hs6]
        · exact hs6
      generalize (if R5 - a ≥ 2 then Sort.shiftDown lt (R5 - 1) d6 else d6) = d7 at *
      rw [subN (by omega) (by omega), show (2 : Int) = ((2 : Nat) : Int) from rfl, geqN]
      refine condB (fun h2 => ?_) (fun h2 => ?_)
      · rw [if_pos (of_decide_eq_true h2)] at hm
        rw [add1 (by omega)]
        obtain ⟨R8, hR8⟩ : ∃ R8, R8 = Sort.shiftUp lt e (R5 + 1) d7 := ⟨_, rfl⟩
        rw [← hR8] at hm
        refine loopW_ind (fun m ys M8 => ∃ (j : Nat) (d8 : Array Ent), m = e - j ∧ ys = [N .i64 (j : Int)] ∧ R5 + 1 ≤ j ∧ j ≤ e ∧ At EntE T b d8 M8 ∧ Keep [b] M M8 ∧ d8.size = d.size ∧ R8 = Sort.shiftUp lt e j d8) _ ⟨R5 + 1, d7, rfl, rfl, Nat.le_refl _, by omega, h8, k8, hs7, hR8⟩ ?_
        rintro next3 m ys M9 hnext3 ⟨j, d8, rfl, rfl, hj1, hj2, h9, k9, hs8', hm8⟩
        dsimp only [nthD]
        rw [Sort.shiftUp] at hm8
        rw [lssN]
        refine condB (fun hl1 => ?_) (fun hl1 => ?_)
        · have hl1 : j < e := of_decide_eq_true hl1
          rw [if_pos hl1] at hm8
          rw [h9.rd (z := 5) rfl hs8'.symm (by omega), sub1 (by omega) (by omega), h9.rd (z := 5) rfl hs8'.symm (by omega)]
          refine hl.use fun M10 k10' => ?_
          have h10 := h9.keep k10'
          have k10 := k9.trans (k10'.mono (cs := [b]) (by simp))
          rw [notW_Bo]
          refine condB (fun hn => ?_) (fun hn => ?_)
          · rw [if_pos hn] at hm8
            subst hm8
            exact hJ _ _ ⟨R5, R8, rfl, by omega, by omega, h10, k10, hs8', hm⟩
          · rw [if_neg (by rw [hn]; decide)] at hm8
            rw [sub1 (by omega) (by omega), sub1 (by omega) (by omega), h10.rd (z := 5) rfl hs8'.symm (by omega), h10.rd (z := 5) rfl hs8'.symm (by omega)]
            refine h10.swap (z := 5) rfl hs8'.symm (by omega) (by omega) fun M11 h11 k11 => ?_
            rw [add1 (by omega)]
            exact hnext3 _ _ _ (by omega) ⟨j + 1, _, rfl, rfl, by omega, by omega, h11, k10.trans k11, by rw [sz_swp, hs8'], hm8⟩
        · rw [if_neg (of_decide_eq_false hl1)] at hm8
          subst hm8
          exact hJ _ _ ⟨R5, R8, rfl, by omega, by omega, h9, k9, hs8', hm⟩
      · rw [if_neg (of_decide_eq_false h2)] at hm
        exact hJ _ _ ⟨R5, d7, rfl, by omega, by omega, h8, k8, hs7, hm⟩
    intro J2 hJ2
    rw [subN (by omega) (by omega), show (2 : Int) = ((2 : Nat) : Int) from rfl, geqN]
    refine condB (fun h2 => ?_) (fun h2 => ?_)
    · rw [if_pos (of_decide_eq_true h2)] at hJ2
      rw [sub1 (by omega) (by omega)]
      obtain ⟨R8, hR8⟩ : ∃ R8, R8 = Sort.shiftDown lt (R5 - 1) d6 := ⟨_, rfl⟩
      rw [← hR8] at hJ2
      refine loopW_ind (fun m ys M8 => ∃ (j : Nat) (d8 : Array Ent), m = j + 1 ∧ ys = [N .i64 (j : Int)] ∧ j < R5 ∧ At EntE T b d8 M8 ∧ Keep [b] M M8 ∧ d8.size = d.size ∧ R8 = Sort.shiftDown lt j d8) _ ⟨R5 - 1, d6, rfl, rfl, by omega, h7, k7, hs6, hR8⟩ ?_
      rintro next3 m ys M8 hnext3 ⟨j, d8, rfl, rfl, hj1, h8, k8, hs8', hm8⟩
      dsimp only [nthD]
      rw [show (1 : Int) = ((1 : Nat) : Int) from rfl, geqN]
      refine condB (fun hl1 => ?_) (fun hl1 => ?_)
      · have hl1 : j ≥ 1 := of_decide_eq_true hl1
        obtain ⟨j', rfl⟩ : ∃ j', j = j' + 1 := ⟨j - 1, by omega⟩
        rw [Sort.shiftDown] at hm8
        rw [h8.rd (z := 5) rfl hs8'.symm (by omega), subN (by omega) (by omega), Nat.add_sub_cancel, h8.rd (z := 5) rfl hs8'.symm (by omega)]
        refine hl.use fun M10 k10' => ?_
        have h10 := h8.keep k10'
        have k10 := k8.trans (k10'.mono (cs := [b]) (by simp))
        rw [notW_Bo]
        refine condB (fun hn => ?_) (fun hn => ?_)
        · rw [if_pos hn] at hm8
          subst hm8
          exact hJ2 _ _ ⟨rfl, h10, k10⟩
        · rw [if_neg (by rw [hn]; decide)] at hm8
          rw [subN (by omega) (by omega), subN (by omega) (by omega), Nat.add_sub_cancel, h10.rd (z := 5) rfl hs8'.symm (by omega), h10.rd (z := 5) rfl hs8'.symm (by omega)]
          refine h10.swap (z := 5) rfl hs8'.symm (by omega) (by omega) fun M11 h11 k11 => ?_
          rw [subN (by omega) (by omega), Nat.add_sub_cancel]
          exact hnext3 _ _ _ (by omega) ⟨j', _, rfl, rfl, by omega, h11, k10.trans k11, by rw [sz_swp, hs8'], hm8⟩
      · have hl1 : ¬ j ≥ 1 := of_decide_eq_false hl1
        have h0 : j = 0 := by omega
        subst h0
        rw [Sort.shiftDown] at hm8
        subst hm8
        exact hJ2 _ _ ⟨rfl, h8, k8⟩
    · rw [if_neg (of_decide_eq_false h2)] at hJ2
      exact hJ2 _ _ ⟨rfl, h7, k7⟩
  · have hg : ¬ 5 - s < 5 := of_decide_eq_false hg
    have h0 : s = 0 := by omega
    subst h0
    rw [Sort.partialIns] at hm
    rw [hm] at hQ
    exact hQ M3 h3 k3
theorem breakE {T TX : Nat} {fv : AV} {cp cx : CallT} (hp : PowX cp) (hx : XorA TX cx) : SortG EntE T 5 fv Sort.breakPatterns (fun _ _ _ => True) fun args M Q => ∃ a0 a1 a2 a3, args = [a0, a1, a2, a3] ∧ W_slices_breakPatternsCmpFunc_rolodex_api_Entry TX cp cx a0 a1 a2 a3 M Q := by
  intro M b a e d Q hat hsz hae he _ hQ
  refine ⟨_, _, _, _, rfl, ?_⟩
  unfold W_slices_breakPatternsCmpFunc_rolodex_api_Entry
  simp only [joinW_shut]
  rw [subN hae (by omega), show (8 : Int) = ((8 : Nat) : Int) from rfl, geqN]
  unfold Sort.breakPatterns at hQ
  refine condB (fun h8 => ?_) (fun h8 => ?_)
  · have h8 : e - a ≥ 8 := of_decide_eq_true h8
    rw [if_pos h8] at hQ
    have hbl := bits_le (x := e - a) (by omega) (by omega)
    rw [cvtW_N, wrap_u64_id (by omega) (by omega), newW_eq]
    have kk : Keep [] M (M.push (.row [(N .u64 0)] false TX 0)) := (Keep.refl _ _).push _
    have hsb : M.next ≠ b := by have := hat.lt; omega
    have hh0 : (M.push (.row [(N .u64 0)] false TX 0)).heap M.next = some (.row [N .u64 0] false TX 0) := RM.push_new _
    have hl64 : (UInt64.ofNat (e - a)).toNat = e - a := by rw [UInt64.toNat_ofNat']; omega
    have hn0 : M.next < (M.push (.row [(N .u64 0)] false TX 0)).next := by simp [RM.push]
    rw [storeW_at hh0 (by simp) rfl rfl]
    have kS : Keep [] M ((M.push (.row [(N .u64 0)] false TX 0)).put M.next (.row (([N .u64 0] : List AV).set 0 (N .u64 ((e - a : Nat) : Int))) false TX 0)) := kk.new _ (Nat.le_refl _)
    have hs1 : ((M.push (.row [(N .u64 0)] false TX 0)).put M.next (.row (([N .u64 0] : List AV).set 0 (N .u64 ((e - a : Nat) : Int))) false TX 0)).heap M.next = some (.row [N .u64 ((UInt64.ofNat (e - a)).toNat : Int)] false TX 0) := by
      rw [heap_put_eq, hl64]; rfl
    have hn1 : M.next < ((M.push (.row [(N .u64 0)] false TX 0)).put M.next (.row (([N .u64 0] : List AV).set 0 (N .u64 ((e - a : Nat) : Int))) false TX 0)).next := hn0
    generalize (M.push (.row [(N .u64 0)] false TX 0)).put M.next (.row (([N .u64 0] : List AV).set 0 (N .u64 ((e - a : Nat) : Int))) false TX 0) = M1 at *
    have hat1 := hat.keep kS
    have back : ∀ M', Keep [b, M.next] M1 M' → Keep [b] M M' := fun M' k => (kS.mono (cs := [b]) (by simp)).then_new k fun c hc => by simp at hc; rcases hc with h | h <;> simp [h]
    generalize M.next = s at *
    refine hp (by omega) (by omega) ?_
    have hq : ∀ (c : Int), c = ((2 : Nat) : Int) → ∀ (K : AV → Prop), (intW .quo (N .i64 ((e - a : Nat) : Int)) (N .i64 4) fun t18 => intW .mul t18 (N .i64 c) fun t19 => intW .add (N .i64 (a : Int)) t19 K) = K (N .i64 ((a + (e - a) / 4 * 2 : Nat) : Int)) := fun c hc K => by
      subst hc
      rw [intW_quo, show (4 : Int) = ((4 : Nat) : Int) from rfl, quo_nat, wrap_i64_id (by omega) (by omega), intW_mul, ← Int.natCast_mul, wrap_i64_id (by omega) (by omega), addN (by omega)]
      exact propext ⟨fun h => h.2, fun h => ⟨by decide, h⟩⟩
    rw [hq 2 rfl, sub1 (by omega) (by omega)]
    have hst3 : (Sort.breakStep a (e - a) (1 <<< Sort.bitsLen (e - a)) (Sort.breakStep a (e - a) (1 <<< Sort.bitsLen (e - a)) (Sort.breakStep a (e - a) (1 <<< Sort.bitsLen (e - a)) (UInt64.ofNat (e - a), d) (a + (e - a) / 4 * 2 - 1)) (a + (e - a) / 4 * 2 - 1 + 1)) (a + (e - a) / 4 * 2 - 1 + 2)).2 = (stG a (e - a) (2 ^ Sort.bitsLen (e - a)) (a + (e - a) / 4 * 2 - 1) d 3).2 := by
      rw [Nat.shiftLeft_eq, Nat.one_mul]; rfl
    have hQ : ∀ M', At EntE T b (stG a (e - a) (2 ^ Sort.bitsLen (e - a)) (a + (e - a) / 4 * 2 - 1) d 3).2 M' → Keep [b] M M' → Q (.tup []) M' := fun M' h k => hQ M' (by rw [hst3]; exact h) k
    generalize hmd : 2 ^ Sort.bitsLen (e - a) = md at *
    generalize hi0 : a + (e - a) / 4 * 2 - 1 = i0 at *
    refine loopW_ind (fun m ys M3 => ∃ (k : Nat), m = 3 - k ∧ k ≤ 3 ∧ ys = [N .i64 ((i0 + k : Nat) : Int)] ∧ At EntE T b (stG a (e - a) md i0 d k).2 M3 ∧ M3.heap s = some (.row [N .u64 ((stG a (e - a) md i0 d k).1.toNat : Int)] false TX 0) ∧ s < M3.next ∧ Keep [b, s] M1 M3) _ ⟨0, rfl, by omega, rfl, hat1, hs1, hn1, Keep.refl _ _⟩ ?_
    rintro next m ys M3 hnext ⟨k, rfl, hk, rfl, h3, hh3, hn3, k3⟩
    dsimp only [nthD]
    have hsk := stG_sz a (e - a) md i0 d k
    have hnx' : stG a (e - a) md i0 d (k + 1) = Sort.breakStep a (e - a) md (stG a (e - a) md i0 d k) (i0 + k) := rfl
    generalize hstk : stG a (e - a) md i0 d k = st at *
    rw [hq 2 rfl, add1 (by omega), leqN]
    refine condB (fun hg => ?_) (fun hg => ?_)
    · have hg : i0 + k ≤ a + (e - a) / 4 * 2 + 1 := of_decide_eq_true hg
      refine joinV_spec (fun zs M' => At EntE T b (stG a (e - a) md i0 d (k + 1)).2 M' ∧ M'.heap s = some (.row [N .u64 ((stG a (e - a) md i0 d (k + 1)).1.toNat : Int)] false TX 0) ∧ s < M'.next ∧ Keep [b, s] M1 M') ?_ ?_
      · rintro zs M' ⟨c1, c2, c3, c4⟩
        rw [add1 (by omega)]
        exact hnext _ _ _ (by omega) ⟨k + 1, rfl, by omega, rfl, c1, c2, c3, c4⟩
      intro J hJ
      refine hx hh3 hn3 fun M4 hh4 k4 n4 => ?_
      have h4 := h3.keep' k4 (by simp; omega)
      rw [hnx'] at hJ
      unfold Sort.breakStep at hJ
      dsimp only at hJ
      generalize Sort.xorNext st.1 = r at *
      rw [intW_sub, wrap_u64_id (by omega) (by omega), show (md : Int) - 1 = ((md - 1 : Nat) : Int) by omega, intW_and, andI_nat rfl]
      have hlt : r.toNat &&& (md - 1) < md := by
        rw [← hmd, Nat.and_two_pow_sub_one_eq_mod]
        exact Nat.mod_lt _ (by rw [hmd]; omega)
      rw [Nat.mod_eq_of_lt (show r.toNat &&& (md - 1) < 2 ^ ubits .u64 by show _ < 2 ^ 64; omega)]
      generalize r.toNat &&& (md - 1) = o at *
      rw [cvtW_N, wrap_i64_id (by omega) (by omega)]
      refine joinV_spec (fun zs M' => zs = [N .i64 (((if o ≥ e - a then o - (e - a) else o) : Nat) : Int)] ∧ M' = M4) ?_ ?_
      · rintro zs M' ⟨rfl, rfl⟩
        dsimp only [nthD]
        have ho : (if o ≥ e - a then o - (e - a) else o) < e - a := by split <;> omega
        generalize (if o ≥ e - a then o - (e - a) else o) = o2 at *
        rw [addN (by omega), addN (by omega), h4.rd (z := 5) rfl hsk.symm (by omega), h4.rd (z := 5) rfl hsk.symm (by omega)]
        refine h4.swap (z := 5) rfl hsk.symm (by omega) (by omega) fun M5 h5 k5 => ?_
        exact hJ _ _ ⟨h5, k5.heap_of hh4 (by omega) (by simp; omega), by have := k5.next; omega, (k3.trans (k4.mono (cs := [b, s]) (by simp))).trans (k5.mono (cs := [b, s]) (by simp))⟩
      intro J4 hJ4
      rw [geqN]
      refine condB (fun hg2 => ?_) (fun hg2 => ?_)
      · have hg2 : o ≥ e - a := of_decide_eq_true hg2
        rw [subN (by omega) (by omega)]
        exact hJ4 _ _ ⟨by rw [if_pos hg2], rfl⟩
      · exact hJ4 _ _ ⟨by rw [if_neg (of_decide_eq_false hg2)], rfl⟩
    · have hg : ¬ i0 + k ≤ a + (e - a) / 4 * 2 + 1 := of_decide_eq_false hg
      have hk3 : k = 3 := by omega
      subst hk3
      rw [hstk] at hQ
      exact hQ M3 h3 (back M3 k3)
  · rw [if_neg (of_decide_eq_false h8)] at hQ
    exact hQ M hat (Keep.refl _ _)
def PdqE (T m : Nat) (fv : AV) (lt : Ent → Ent → Bool) (c : CallT) : Prop := ∀ {M : RM} {b a e limit : Nat} {d : Array Ent} {Q : PostV}, At EntE T b d M → d.size ≤ 60000 → a ≤ e → e ≤ d.size → e - a < m → limit ≤ 1000000 → (∀ M', At EntE T b (Sort.pdq lt d a e limit true true) M' → Keep [b] M M' → Q (.tup []) M') →
  c [sv b d.size 5, N .i64 (a : Int), N .i64 (e : Int), N .i64 (limit : Int), fv] M Q
theorem pdqE {T m : Nat} {fv : AV} {lt : Ent → Ent → Bool} {cv : FuncId → CallT} {ci ch cb cc cr cp ce ct cq : CallT} (hlt : Sort.SWO lt) (hi : SortG EntE T 5 fv (Sort.insertionSort lt) (fun _ _ _ => True) ci) (hh : SortG EntE T 5 fv (Sort.heapSort lt) (fun _ a e => a < e) ch) (hb : SortG EntE T 5 fv Sort.breakPatterns (fun _ _ _ => True) cb) (hc : ChooseE T fv lt cc) (hr : SortG EntE T 5 fv Sort.reverseRange (fun _ a e => a < e) cr)
    (hp : PartInsE T fv lt cp) (hl : CmpC EntE lt (callV cv fv)) (he : PartEqE T fv lt ce) (ht : PartE T fv lt ct) (hq : PdqE T m fv lt cq) : PdqE T (m + 1) fv lt fun args M Q => ∃ a0 a1 a2 a3 a4, args = [a0, a1, a2, a3, a4] ∧ W_slices_pdqsortCmpFunc_rolodex_api_Entry ci ch cb cc cr cp cv ce ct cq a0 a1 a2 a3 a4 M Q := by
  intro M b a e limit d Q hat hsz hae hed hm hlim hQ
  refine ⟨_, _, _, _, _, rfl, ?_⟩
  unfold W_slices_pdqsortCmpFunc_rolodex_api_Entry
  simp only [fuseK, fuseKM, fuseMK, joinW_shut]
  obtain ⟨R, hR⟩ : ∃ R, R = Sort.pdq lt d a e limit true true := ⟨_, rfl⟩
  rw [← hR] at hQ
  refine loopW_ind (fun m' ys M3 => ∃ (a e limit : Nat) (wb wp : Bool) (d3 : Array Ent), m' = e - a ∧ ys = [N .i64 (a : Int), N .i64 (e : Int), N .i64 (limit : Int), Bo wb, Bo wp] ∧ a ≤ e ∧ e ≤ d.size ∧ e - a < m + 1 ∧ limit ≤ 1000000 ∧ At EntE T b d3 M3 ∧ Keep [b] M M3 ∧ d3.size = d.size ∧ R = Sort.pdq lt d3 a e limit wb wp) _
    ⟨a, e, limit, true, true, d, rfl, rfl, hae, hed, hm, hlim, hat, Keep.refl _ _, rfl, hR⟩ ?_
  clear hR hae hed hm hlim
  rintro next m' ys M4 hnext ⟨a, e, limit, wb, wp, d3, rfl, rfl, hae, hed, hm, hlim, h4, k4, hs3, hR⟩
  dsimp only [nthD]
  rw [g_pdq_eq] at hR
  rw [subN hae (by omega), show (12 : Int) = ((12 : Nat) : Int) from rfl, leqN]
  refine condB (fun hg => ?_) (fun hg => ?_)
  · rw [if_pos (of_decide_eq_true hg)] at hR
    rw [← hs3]
    refine hi h4 (by omega) hae (by omega) trivial fun M5 h5 k5 => ?_
    rw [← hR] at h5
    exact hQ M5 h5 (k4.trans k5)
  have hg : ¬ e - a ≤ 12 := of_decide_eq_false hg
  rw [if_neg hg] at hR
  rw [show (0 : Int) = ((0 : Nat) : Int) from rfl, eqlN]
  refine condB (fun hg0 => ?_) (fun hg0 => ?_)
  · rw [if_pos (of_decide_eq_true hg0)] at hR
    rw [← hs3]
    refine hh h4 (by omega) hae (by omega) (by omega) fun M5 h5 k5 => ?_
    rw [← hR] at h5
    exact hQ M5 h5 (k4.trans k5)
  have hg0 : ¬ limit = 0 := of_decide_eq_false hg0
  rw [if_neg hg0] at hR
  refine joinV_spec (fun zs M' => zs = [N .i64 (((if !wb then limit - 1 else limit) : Nat) : Int)] ∧ At EntE T b (if !wb then Sort.breakPatterns d3 a e else d3) M' ∧ Keep [b] M M') ?_ ?_
  · rintro zs M5 ⟨rfl, h5, k5⟩
    dsimp only [nthD]
    have hs5 : (if !wb then Sort.breakPatterns d3 a e else d3).size = d.size := by
      split
      · rw [g_break, hs3]
      · exact hs3
    have hl5 : (if !wb then limit - 1 else limit) ≤ 1000000 := by split <;> omega
    generalize (if !wb then Sort.breakPatterns d3 a e else d3) = d5 at *
    generalize (if !wb then limit - 1 else limit) = lim at *
    rw [← hs5]
    refine hc h5 (by omega) (by omega) (by omega) fun M6 h6 k6 => ?_
    rw [hs5]
    have hcr := Sort.choosePivot_holds lt d5 a e (by omega)
    unfold gA at hR
    generalize Sort.choosePivot lt d5 a e = cpv at *
    have k6' := k5.trans (k6.mono (cs := [b]) (by simp))
    rw [extW0, extW1]
    refine joinV_spec (fun zs M' => zs = [N .i64 (((if cpv.2 = .decreasing then (e - 1) - (cpv.1 - a) else cpv.1) : Nat) : Int), N .i64 (hintV (if cpv.2 = .decreasing then .increasing else cpv.2))] ∧ At EntE T b (if cpv.2 = .decreasing then Sort.reverseRange d5 a e else d5) M' ∧ Keep [b] M M') ?_ ?_
    · rintro zs M7 ⟨rfl, h7, k7⟩
      dsimp only [nthD]
      have hs7 : (if cpv.2 = .decreasing then Sort.reverseRange d5 a e else d5).size = d.size := by
        split
        · rw [g_rev, hs5]
        · exact hs5
      have hpv : a ≤ (if cpv.2 = .decreasing then (e - 1) - (cpv.1 - a) else cpv.1) ∧ (if cpv.2 = .decreasing then (e - 1) - (cpv.1 - a) else cpv.1) < e := by
        split <;> omega
      generalize (if cpv.2 = .decreasing then Sort.reverseRange d5 a e else d5) = d7 at *
      generalize (if cpv.2 = .decreasing then (e - 1) - (cpv.1 - a) else cpv.1) = pv at *
      generalize (if cpv.2 = .decreasing then Sort.Hint.increasing else cpv.2) = hint at *
      unfold gB gP at hR
      refine joinV_spec (fun zs M' => ∃ d8 : Array Ent, At EntE T b d8 M' ∧ Keep [b] M M' ∧ d8.size = d.size ∧ R = gC lt d8 a e pv lim wb wp) ?_ ?_
      · rintro zs M8 ⟨d8, h8, k8, hs8, hR8⟩
        unfold gC at hR8
        rw [gtrN]
        refine andP (P := fun M' => At EntE T b d8 M' ∧ Keep [b] M M') (p := !lt d8[a - 1]! d8[pv]!) ⟨h8, k8⟩ (fun hc k hk => ?_) fun M9 ⟨h9, k9⟩ => ?_
        · have hc : a > 0 := of_decide_eq_true hc
          rw [sub1 (by omega) (by omega), h8.rd (z := 5) rfl hs8.symm (by omega), h8.rd (z := 5) rfl hs8.symm (by omega)]
          refine hl.use fun M10 k10 => ?_
          rw [notW_Bo]
          exact hk M10 ⟨h8.keep k10, k8.trans (k10.mono (cs := [b]) (by simp))⟩
        refine condB (fun h => ?_) (fun h => ?_)
        · rw [if_pos h] at hR8
          rw [← hs8]
          have hE := g_partE lt d8 a e pv (by omega)
          refine he h9 (by omega) hpv.1 hpv.2 (by omega) fun M10 h10 k10 => ?_
          generalize Sort.partitionEqual lt d8 a e pv = pe at *
          dsimp only at hR8
          rw [dif_pos ⟨hE.2.1, hE.2.2⟩] at hR8
          exact hnext _ _ _ (by omega) ⟨pe.1, e, lim, wb, wp, pe.2, rfl, rfl, hE.2.2, hed, by omega, hl5, h10, k9.trans k10, by rw [hE.1, hs8], hR8⟩
        · rw [if_neg (by rw [h]; decide)] at hR8
          rw [← hs8]
          have hT := Sort.partition_holds lt hlt d8 a e pv hpv.1 hpv.2 (by omega)
          have hTs := g_part lt d8 a e pv
          refine ht h9 (by omega) hpv.1 hpv.2 (by omega) fun M10 h10 k10 => ?_
          have k10' := k9.trans k10
          generalize Sort.partition lt d8 a e pv = pp at *
          obtain ⟨mid, ap, d9⟩ := pp
          dsimp only at hR8 hT hTs h10 ⊢
          rw [dif_pos ⟨hT.1, hT.2.1⟩] at hR8
          have hT1 := hT.1
          have hT2 := hT.2.1
          rw [extW0, extW1, subN hT1 (by omega), subN (by omega) (by omega), intW_quo]
          refine ⟨by decide, ?_⟩
          rw [show (8 : Int) = ((8 : Nat) : Int) from rfl, quo_nat, wrap_i64_id (by omega) (by omega), lssN]
          refine condB (fun hc1 => ?_) (fun hc1 => ?_)
          · have hc1 : mid - a < e - mid := of_decide_eq_true hc1
            rw [if_pos hc1] at hR8
            rw [geqN, ← hTs]
            refine hq h10 (by omega) hT1 (by omega) (by omega) hl5 fun M11 h11 k11 => ?_
            rw [add1 (by omega)]
            exact hnext _ _ _ (by omega) ⟨mid + 1, e, lim, _, ap, _, rfl, rfl, by omega, hed, by omega, hl5, h11, k10'.trans k11, by rw [g_pdq lt _ _ _ _ _ _ _ (Nat.le_refl _), hTs, hs8], hR8⟩
          · have hc1 : ¬ mid - a < e - mid := of_decide_eq_false hc1
            rw [if_neg hc1] at hR8
            rw [geqN, add1 (by omega), ← hTs]
            refine hq h10 (by omega) (by omega) (by omega) (by omega) hl5 fun M11 h11 k11 => ?_
            exact hnext _ _ _ (by omega) ⟨a, mid, lim, _, ap, _, rfl, rfl, hT1, by omega, by omega, hl5, h11, k10'.trans k11, by rw [g_pdq lt _ _ _ _ _ _ _ (Nat.le_refl _), hTs, hs8], hR8⟩
      intro J10 hJ10
      have no : ¬ (wb && wp && decide (hint = .increasing)) = true → J10 [] M7 := fun hn => by
        have hpi : (if (wb && wp && decide (hint = .increasing)) = true then Sort.partialInsertionSort lt d7 a e else (d7, false)) = (d7, false) := if_neg hn
        rw [hpi] at hR
        exact hJ10 _ _ ⟨d7, h7, k7, hs7, hR⟩
      cases wb with
      | false =>
        rw [guardM_FT]
        dsimp only
        rw [pickF, guardM_FT]
        dsimp only
        rw [guardM_FT]
        dsimp only
        rw [pickF, condF]
        exact no (by simp)
      | true =>
        rw [guardM_TT]
        dsimp only
        rw [pickT]
        cases wp with
        | false =>
          rw [guardM_FT]
          dsimp only
          rw [guardM_FT]
          dsimp only
          rw [pickF, condF]
          exact no (by simp)
        | true =>
          rw [guardM_TT]
          dsimp only
          rw [guardM_TT]
          dsimp only
          rw [intW_eql, pickT]
          by_cases hin : hint = .increasing
          · rw [show (hintV hint == 1) = true by rw [hin]; rfl, condT]
            have hpi : (if (true && true && decide (hint = .increasing)) = true then Sort.partialInsertionSort lt d7 a e else (d7, false)) = Sort.partialInsertionSort lt d7 a e := if_pos (by simp [hin])
            rw [hpi] at hR
            rw [← hs7]
            have hs8 : (Sort.partialInsertionSort lt d7 a e).1.size = d.size := by
              rw [Sort.partialInsertionSort, g_partIns, hs7]
            refine hp h7 (by omega) (by omega) (by omega) fun M8 h8 k8 => ?_
            generalize Sort.partialInsertionSort lt d7 a e = pi at *
            refine condB (fun h => ?_) (fun h => ?_)
            · rw [if_pos h] at hR
              rw [← hR] at h8
              exact hQ M8 h8 (k7.trans k8)
            · rw [if_neg (by rw [h]; decide)] at hR
              exact hJ10 _ _ ⟨pi.1, h8, k7.trans k8, hs8, hR⟩
          · rw [show (hintV hint == 1) = false by cases hint <;> first | rfl | exact absurd rfl hin, condF]
            exact no (by simp [hin])
    intro J6 hJ6
    rw [intW_eql]
    by_cases hdec : cpv.2 = .decreasing
    · rw [show (hintV cpv.2 == 2) = true by rw [hdec]; rfl, condT, ← hs5]
      refine hr h6 (by omega) hae (by omega) (by omega) fun M7 h7 k7 => ?_
      rw [sub1 (by omega) (by omega), subN (by omega) (by omega), subN (by omega) (by omega)]
      exact hJ6 _ _ ⟨by rw [if_pos hdec, if_pos hdec]; rfl, by rw [if_pos hdec]; exact h7, k6'.trans k7⟩
    · rw [show (hintV cpv.2 == 2) = false by cases h : cpv.2 <;> first | rfl | exact absurd h hdec, condF]
      exact hJ6 _ _ ⟨by rw [if_neg hdec, if_neg hdec], by rw [if_neg hdec]; exact h6, k6'⟩
  intro J hJ
  rw [notW_Bo]
  cases wb with
  | true =>
    rw [Bool.not_true, condF]
    exact hJ _ _ ⟨rfl, h4, k4⟩
  | false =>
    rw [Bool.not_false, condT, ← hs3]
    refine hb h4 (by omega) hae (by omega) trivial fun M5 h5 k5 => ?_
    rw [sub1 (by omega) (by omega)]
    exact hJ _ _ ⟨rfl, h5, k4.trans k5⟩
def InsNilE (c : CallT) : Prop := ∀ {M : RM} {v fv : AV} {Q : PostV}, Q (.tup []) M → c [v, N .i64 0, N .i64 ((0 : Nat) : Int), fv] M Q
theorem insNilE {cv : FuncId → CallT} : InsNilE fun args M Q => ∃ a0 a1 a2 a3, args = [a0, a1, a2, a3] ∧ W_slices_insertionSortCmpFunc_rolodex_api_Entry cv a0 a1 a2 a3 M Q := by
  intro M v fv Q hQ
  refine ⟨_, _, _, _, rfl, ?_⟩
  unfold W_slices_insertionSortCmpFunc_rolodex_api_Entry
  rw [intW_add, show IntKind.i64.wrap ((0 : Int) + 1) = 1 from rfl]
  refine loopW_ind (fun m ys M3 => m = 0 ∧ ys = [N .i64 1] ∧ M3 = M) 0 ⟨rfl, rfl, rfl⟩ ?_
  rintro next m ys M3 hnext ⟨rfl, rfl, rfl⟩
  dsimp only [nthD]
  rw [intW_lss, show decide ((1 : Int) < ((0 : Nat) : Int)) = false from rfl, condF]
  exact hQ
def PdqNilE (c : CallT) : Prop := ∀ {M : RM} {v fv : AV} {Q : PostV}, Q (.tup []) M → c [v, N .i64 0, N .i64 ((0 : Nat) : Int), N .i64 ((0 : Nat) : Int), fv] M Q
theorem pdqNilE {cv : FuncId → CallT} {ci c2 c3 cc c4 cp c6 c7 c8 : CallT} (hi : InsNilE ci) : PdqNilE fun args M Q => ∃ a0 a1 a2 a3 a4, args = [a0, a1, a2, a3, a4] ∧ W_slices_pdqsortCmpFunc_rolodex_api_Entry ci c2 c3 cc c4 cp cv c6 c7 c8 a0 a1 a2 a3 a4 M Q := by
  intro M v fv Q hQ
  refine ⟨_, _, _, _, _, rfl, ?_⟩
  unfold W_slices_pdqsortCmpFunc_rolodex_api_Entry
  refine loopW_ind (fun m ys M3 => m = 0 ∧ ys = [N .i64 0, N .i64 ((0 : Nat) : Int), N .i64 ((0 : Nat) : Int), Bo true, Bo true] ∧ M3 = M) 0 ⟨rfl, rfl, rfl⟩ ?_
  rintro next m ys M3 hnext ⟨rfl, rfl, rfl⟩
  dsimp only [nthD]
  rw [intW_sub, show IntKind.i64.wrap (((0 : Nat) : Int) - 0) = 0 from rfl, intW_leq, show decide ((0 : Int) ≤ 12) = true from rfl, condT]
  exact hi hQ
def sortE (lt : Ent → Ent → Bool) (xs : List Ent) : List Ent := (Sort.sort lt xs.toArray).toList
theorem sortE_nil (lt : Ent → Ent → Bool) : sortE lt [] = [] := by
  unfold sortE Sort.sort
  rw [g_pdq_eq, if_pos (by simp), Sort.insertionSort, Sort.insOuter, if_neg (by simp)]
theorem sortE_perm {lt : Ent → Ent → Bool} (hlt : Sort.SWO lt) (xs : List Ent) : (sortE lt xs).Perm xs := by
  have h := (Sort.sort_sorts lt hlt xs.toArray).1
  have h2 := h.2.2
  rw [Array.extract_eq_self_of_le (by rw [h.1]; exact Nat.le_refl _), Array.extract_eq_self_of_le (Nat.le_refl _)] at h2
  exact h2
def SortFnE (fv : AV) (lt : Ent → Ent → Bool) (T : Nat) (c : CallT) : Prop := ∀ {M : RM} {base : Nat} {v : AV} {xs : List Ent} {Q : PostV}, Ow EntE M base T v xs → xs.length ≤ 60000 → (∀ M', Ow EntE M' base T v (sortE lt xs) → Keep (blkOf v) M M' → Q (.tup []) M') → c [v, fv] M Q
theorem sortFnE {T : Nat} {fv : AV} {lt : Ent → Ent → Bool} {cl cp : CallT} (hlt : Sort.SWO lt) (hl : LenX cl) (hp : ∀ m, PdqE T m fv lt cp) (h0 : PdqNilE cp) : SortFnE fv lt T fun args M Q => ∃ a0 a1, args = [a0, a1] ∧ W_slices_SortFunc_rolodex_api_Entry_rolodex_api_Entry cl cp a0 a1 M Q := by
  intro M base v xs Q ho hx hQ
  have hs : Sl EntE M v xs := ho.slR
  refine ⟨_, _, rfl, ?_⟩
  unfold W_slices_SortFunc_rolodex_api_Entry_rolodex_api_Entry
  rw [SlR.len hs, cvtW_N, wrap_u64_id (by omega) (by omega)]
  refine hl (by omega) ?_
  rcases Nat.eq_zero_or_pos xs.length with hn | hn
  · rw [hn, show Sort.bitsLen 0 = 0 from rfl]
    refine h0 ?_
    have := List.length_eq_zero_iff.1 hn
    subst this
    exact hQ M (by rw [sortE_nil]; exact ho) (Keep.refl _ _)
  · obtain ⟨b, rfl, h1, h2, h3, h4⟩ := Own.op_pos ho hn
    have hb := bits_le hn (by omega)
    have hsz : xs.toArray.size = xs.length := by simp
    have hat : At EntE T b xs.toArray M := ⟨by rw [h3], h2⟩
    have hsl : (sortE lt xs).length = xs.length := (sortE_perm hlt xs).length_eq
    have := hp (xs.length + 1) (M := M) (b := b) (a := 0) (e := xs.toArray.size) (limit := Sort.bitsLen xs.length) (d := xs.toArray) (Q := fun t10 M_0 => Q (.tup []) M_0) hat (by omega) (by omega) (Nat.le_refl _) (by omega) (by omega) fun M' h' k' => ?_
    · have e5 : EntE.size = 5 := rfl
      rw [e5]
      simpa using this
    · have e : (Sort.pdq lt xs.toArray 0 xs.toArray.size (Sort.bitsLen xs.length) true true) = Sort.sort lt xs.toArray := by rw [Sort.sort]; simp
      rw [e] at h'
      refine hQ _ ?_ (by simpa [blkOf] using k')
      have hlast : Own M' base T 5 (.slc b 0 xs.length (.op 5)) (EntE.row (sortE lt xs)) xs.length := .op _ _ _ h1 h'.lt h'.heap (by rw [Enc.row_len, hsl]; rfl)
      show Own M' base T 5 (.slc b 0 xs.length (.op 5)) (EntE.row (sortE lt xs)) (sortE lt xs).length
      rw [hsl]; exact hlast
end Go.Ab.Crw
set_option maxRecDepth 10000
set_option linter.unusedVariables false
set_option linter.unusedSimpArgs false
namespace Go.Ab.Crw
open Go Go.Ab Go.Ab.Dot
end Go.Ab.Crw
set_option maxRecDepth 10000
set_option linter.unusedVariables false
set_option linter.unusedSimpArgs false
namespace Go.Ab.Crw
open Go Go.Ab Go.Ab.Dot
end Go.Ab.Crw
set_option maxRecDepth 10000
set_option linter.unusedVariables false
set_option linter.unusedSimpArgs false
namespace Go.Ab.Dot
open Go Go.Ab
theorem ext16 {ps qs : List Pt} (h1 : ps.length = 16) (h2 : qs.length = 16) (h : ∀ j, j < 16 → ps.getD j (0, []) = qs.getD j (0, [])) : ps = qs := by
  refine List.ext_getElem (by omega) fun j hj hj' => ?_
  have := h j (by omega)
  rw [List.getD_eq_getElem?_getD, List.getD_eq_getElem?_getD, List.getElem?_eq_getElem hj, List.getElem?_eq_getElem hj'] at this
  exact this
theorem asc_ext : ∀ {xs ys : List Nat}, Asc xs → Asc ys → (∀ x, x ∈ xs ↔ x ∈ ys) → xs = ys
  | [], [], _, _, _ => rfl
  | [], y :: ys, _, _, h => by have := (h y).2 (by simp); simp at this
  | x :: xs, [], _, _, h => by have := (h x).1 (by simp); simp at this
  | x :: xs, y :: ys, h1, h2, h => by
    have a1 := List.pairwise_cons.1 h1
    have a2 := List.pairwise_cons.1 h2
    have hxy : x = y := by
      rcases List.mem_cons.1 ((h x).1 (by simp)) with e | e
      · exact e
      · rcases List.mem_cons.1 ((h y).2 (by simp)) with e' | e'
        · exact e'.symm
        · have := a2.1 x e; have := a1.1 y e'; omega
    subst hxy
    refine congrArg (x :: ·) (asc_ext a1.2 a2.2 fun z => ⟨fun hz => ?_, fun hz => ?_⟩)
    · rcases List.mem_cons.1 ((h z).1 (by simp [hz])) with e | e
      · subst e; have := a1.1 z hz; omega
      · exact e
    · rcases List.mem_cons.1 ((h z).2 (by simp [hz])) with e | e
      · subst e; have := a2.1 z hz; omega
      · exact e
theorem withinP_refl (p : Pt) : withinP p p = true := by
  unfold withinP
  simp only [Bool.and_eq_true, List.all_eq_true, decide_eq_true_eq]
  refine ⟨Nat.le_refl _, fun x hx => ?_⟩
  unfold hasP
  simp [hx]
theorem withinS_refl (ps : List Pt) : withinS ps ps = true := withinS_iff.2 fun i _ => withinP_refl _
theorem settle_none {u : Nat} {xs : List Nat} (h : ∀ y ∈ xs, u + 1 < y) : settle u xs = (u, xs) := by
  cases xs with
  | nil => rfl
  | cons x xs =>
    have := h x (by simp)
    unfold settle
    rw [settleK, if_neg (by omega)]; rfl
theorem getD_set_ne {u : List Pt} {i j : Nat} {p : Pt} (h : i ≠ j) : (u.set i p).getD j (0, []) = u.getD j (0, []) := by
  rw [List.getD_eq_getElem?_getD, List.getD_eq_getElem?_getD, List.getElem?_set_ne h]
theorem empty_getD (j : Nat) : emptyS.getD j (0, []) = (0, []) := by
  rw [List.getD_eq_getElem?_getD]
  unfold emptyS
  by_cases h : j < 16
  · rw [List.getElem?_replicate, if_pos h]; rfl
  · rw [List.getElem?_replicate, if_neg h]; rfl
end Go.Ab.Dot
set_option maxRecDepth 10000
set_option linter.unusedVariables false
set_option linter.unusedSimpArgs false
namespace Go.Ab.Dot
open Go Go.Ab
theorem load1_cell {M : RM} {b o : Nat} {x : AV} {K : AV → Prop} (h : M.cell b o = some x) : load1 M (.ptr b o) K = K x := by
  rw [load1_ptr, h]; simp
theorem and_false {c : Bool} {f : KR → Prop} {M : RM} {Z : AV → RM → Prop} (hf : c = true → ∀ k : KR, k (Bo false) M none → f k) (hZ : Z (Bo false) M) :
    guardK (Bo c) true f (fun k => k .undef M none) (fun t M' b => pickW (Bo c) t (Bo false) fun t' => Z t' M') := by
  cases c with
  | false => rw [guardK_FT]; dsimp only; rw [pickF]; exact hZ
  | true => rw [guardK_TT]; exact hf rfl _ (by rw [pickT]; exact hZ)
end Go.Ab.Dot
set_option maxRecDepth 10000
set_option linter.unusedVariables false
set_option linter.unusedSimpArgs false
namespace Go.Ab.Crw
open Go Go.Ab Go.Ab.Dot
theorem bytesLess_lt : ∀ (x y : List UInt8), Op.bytesLess x y = decide (x < y)
  | [], [] => by simp [Op.bytesLess]
  | _ :: _, [] => by simp [Op.bytesLess]
  | [], _ :: _ => by simp [Op.bytesLess]
  | a :: x, b :: y => by
    rw [Op.bytesLess, bytesLess_lt x y]
    simp only [List.cons_lt_cons_iff]
    by_cases h1 : a < b <;> by_cases h2 : a = b <;> by_cases h3 : x < y <;> simp [h1, h2, h3]
structure LO {β : Type} (lt : β → β → Bool) : Prop where
  irrefl : ∀ x, lt x x = false
  trans : ∀ x y z, lt x y = true → lt y z = true → lt x z = true
  tri : ∀ x y, lt x y = false → lt y x = false → x = y
def lex {α β : Type} [DecidableEq β] (k : α → β) (lt1 : β → β → Bool) (lt2 : α → α → Bool) (x y : α) : Bool := lt1 (k x) (k y) || (decide (k x = k y) && lt2 x y)
theorem lex_swo {α β : Type} [DecidableEq β] {k : α → β} {lt1 : β → β → Bool} {lt2 : α → α → Bool} (h1 : LO lt1) (h2 : Sort.SWO lt2) : Sort.SWO (lex k lt1 lt2) where
  irrefl x := by simp [lex, h1.irrefl, h2.irrefl]
  trans x y z a b := by
    simp only [lex, Bool.or_eq_true, Bool.and_eq_true, decide_eq_true_eq] at *
    rcases a with a | ⟨a, a'⟩ <;> rcases b with b | ⟨b, b'⟩
    · exact .inl (h1.trans _ _ _ a b)
    · exact .inl (by rw [← b]; exact a)
    · exact .inl (by rw [a]; exact b)
    · exact .inr ⟨a.trans b, h2.trans _ _ _ a' b'⟩
  ntrans x y z a b := by
    simp only [lex, Bool.or_eq_false_iff, Bool.and_eq_false_iff, decide_eq_false_iff_not] at *
    obtain ⟨a1, a2⟩ := a
    obtain ⟨b1, b2⟩ := b
    have c1 : lt1 (k x) (k z) = false := by
      cases h : lt1 (k x) (k z) with
      | false => rfl
      | true =>
        by_cases e : k x = k y
        · rw [e, b1] at h; cases h
        · have : lt1 (k y) (k x) = true := by
            cases h' : lt1 (k y) (k x) with
            | true => rfl
            | false => exact absurd (h1.tri _ _ a1 h') e
          have := h1.trans _ _ _ this h
          rw [b1] at this; cases this
    refine ⟨c1, ?_⟩
    by_cases e : k x = k z
    · right
      by_cases e2 : k x = k y
      · have e3 : k y = k z := e2.symm.trans e
        rcases a2 with a2 | a2
        · exact absurd e2 a2
        · rcases b2 with b2 | b2
          · exact absurd e3 b2
          · exact h2.ntrans _ _ _ a2 b2
      · have h3 : lt1 (k y) (k x) = false := by rw [e]; exact b1
        exact absurd (h1.tri _ _ a1 h3) e2
    · exact .inl e
theorem lo_nat : LO (fun x y : Nat => decide (x < y)) := ⟨by simp, by simp; omega, by simp; omega⟩
theorem lo_int : LO (fun x y : Int => decide (x < y)) := ⟨by simp, by simp; omega, by simp; omega⟩
theorem lo_str : LO (fun x y : List UInt8 => decide (x < y)) where
  irrefl x := by simp [List.lt_irrefl]
  trans x y z h1 h2 := by simp only [decide_eq_true_eq] at *; exact List.lt_trans h1 h2
  tri x y h1 h2 := by
    simp only [decide_eq_false_iff_not, List.not_lt] at *
    exact List.le_antisymm h2 h1
theorem swo_none {α : Type} : Sort.SWO (fun _ _ : α => false) := ⟨fun _ => rfl, (fun _ _ _ h _ => by cases h), (fun _ _ _ _ _ => rfl)⟩
def ltE : Ent → Ent → Bool := lex (fun x : Ent => x.2.1) (fun x y => decide (x < y)) (lex (fun x : Ent => x.2.2.1) (fun x y => decide (x < y)) (lex (fun x : Ent => x.1.2) (fun x y : Nat => decide (x < y)) (lex (fun x : Ent => x.1.1) (fun x y : Int => decide (x < y)) fun _ _ => false)))
theorem swo_ltE : Sort.SWO ltE := lex_swo lo_str (lex_swo lo_str (lex_swo lo_nat (lex_swo lo_int swo_none)))
def c3 {β : Type} (lt : β → β → Bool) (x y : β) : Int := if lt x y then -1 else if lt y x then 1 else 0
theorem c3_cases {β : Type} {lt : β → β → Bool} (h : LO lt) (x y : β) : (c3 lt x y = -1 ∧ lt x y = true ∧ x ≠ y) ∨ (c3 lt x y = 1 ∧ lt x y = false ∧ x ≠ y) ∨ (c3 lt x y = 0 ∧ lt x y = false ∧ x = y) := by
  unfold c3
  cases h1 : lt x y with
  | true => exact .inl ⟨rfl, rfl, fun e => by rw [e, h.irrefl] at h1; cases h1⟩
  | false =>
    cases h2 : lt y x with
    | true => exact .inr (.inl ⟨rfl, rfl, fun e => by rw [e, h.irrefl] at h2; cases h2⟩)
    | false => exact .inr (.inr ⟨rfl, rfl, h.tri _ _ h1 h2⟩)
def or3 (a b : Int) : Int := if a ≠ 0 then a else b
def Is3 {α : Type} (lt : α → α → Bool) (f : α → α → Int) : Prop := ∀ x y, decide (f x y < 0) = lt x y
theorem is3_lex {α β : Type} [DecidableEq β] {k : α → β} {lt1 : β → β → Bool} {lt2 : α → α → Bool} {f : α → α → Int} (h1 : LO lt1) (h2 : Is3 lt2 f) : Is3 (lex k lt1 lt2) (fun x y => or3 (c3 lt1 (k x) (k y)) (f x y)) := by
  intro x y
  unfold lex
  show decide (or3 (c3 lt1 (k x) (k y)) (f x y) < 0) = _
  unfold or3
  rcases c3_cases h1 (k x) (k y) with ⟨a, b, c⟩ | ⟨a, b, c⟩ | ⟨a, b, c⟩
  · rw [a, b]; rfl
  · rw [a, b, decide_eq_false c]; rfl
  · rw [a, b, decide_eq_true c, if_neg (by simp), h2 x y]; rfl
theorem is3_none {α : Type} : Is3 (fun _ _ : α => false) (fun _ _ => 0) := fun _ _ => rfl
def Cmp3C {α : Type} (mk : α → AV) (lt : α → α → Bool) (c : CallT) : Prop := ∀ {M : RM} {x y : α} {Q : PostV}, Q (N .i64 (c3 lt x y)) M → c [mk x, mk y] M Q
def NaNF {α : Type} (mk : α → AV) (c : CallT) : Prop := ∀ {M : RM} {x : α} {Q : PostV}, Q (Bo false) M → c [mk x] M Q
theorem nanS_spec : NaNF (α := List UInt8) (fun s => St s) fun args M Q => ∃ a0, args = [a0] ∧ W_cmp_isNaN_string a0 M Q := by
  intro M x Q hQ
  refine ⟨_, rfl, ?_⟩
  unfold W_cmp_isNaN_string
  rw [strW_neq, show (x != x) = false by simp]
  exact hQ
theorem nanU_spec : NaNF (α := Nat) (fun n => N .u64 (n : Int)) fun args M Q => ∃ a0, args = [a0] ∧ Dot.W_cmp_isNaN_uint64 a0 M Q := by
  intro M x Q hQ
  exact ⟨_, rfl, isNaN_spec hQ⟩
theorem nanI_spec : NaNF (α := Int) (fun n => N .i64 n) fun args M Q => ∃ a0, args = [a0] ∧ W_cmp_isNaN_int a0 M Q := by
  intro M x Q hQ
  refine ⟨_, rfl, ?_⟩
  unfold W_cmp_isNaN_int
  rw [intW_neq, show (x != x) = false by simp]
  exact hQ
theorem cmpS_spec {cn : CallT} (hn : NaNF (α := List UInt8) (fun s => St s) cn) : Cmp3C (α := List UInt8) (fun s => St s) (fun x y => decide (x < y)) fun args M Q => ∃ a0 a1, args = [a0, a1] ∧ W_cmp_Compare_string cn a0 a1 M Q := by
  intro M x y Q hQ
  refine ⟨_, _, rfl, ?_⟩
  unfold W_cmp_Compare_string
  refine hn (hn ?_)
  rw [condF, condF, strW_lss, bytesLess_lt]
  unfold c3 at hQ
  by_cases h1 : x < y
  · rw [decide_eq_true h1, condT]
    rw [if_pos (by simpa using h1)] at hQ; exact hQ
  · rw [decide_eq_false h1, condF, strW_gtr, bytesLess_lt, decide_eq_false h1, Bool.false_or]
    rw [if_neg (by simpa using h1)] at hQ
    by_cases h2 : y < x
    · have hne : x ≠ y := fun e => by subst e; exact List.lt_irrefl _ h2
      rw [show (x == y) = false by simpa using hne, Bool.not_false, condT]
      rw [if_pos (by simpa using h2)] at hQ; exact hQ
    · have he : x = y := lo_str.tri x y (by simpa using h1) (by simpa using h2)
      rw [show (x == y) = true by simpa using he, Bool.not_true, condF]
      rw [if_neg (by simpa using h2)] at hQ; exact hQ
theorem cmpU_spec {cn : CallT} (hn : NaNF (α := Nat) (fun n => N .u64 (n : Int)) cn) : Cmp3C (α := Nat) (fun n => N .u64 (n : Int)) (fun x y => decide (x < y)) fun args M Q => ∃ a0 a1, args = [a0, a1] ∧ W_cmp_Compare_uint64 cn a0 a1 M Q := by
  intro M x y Q hQ
  refine ⟨_, _, rfl, ?_⟩
  unfold W_cmp_Compare_uint64
  refine hn (hn ?_)
  rw [condF, condF, intW_lss]
  unfold c3 at hQ
  by_cases h1 : x < y
  · rw [show decide ((x : Int) < (y : Int)) = true by simpa using h1, condT]
    rw [if_pos (by simpa using h1)] at hQ; exact hQ
  · rw [show decide ((x : Int) < (y : Int)) = false by simpa using h1, condF, intW_gtr]
    rw [if_neg (by simpa using h1)] at hQ
    by_cases h2 : y < x
    · rw [show decide ((x : Int) > (y : Int)) = true by simpa using h2, condT]
      rw [if_pos (by simpa using h2)] at hQ; exact hQ
    · rw [show decide ((x : Int) > (y : Int)) = false by simpa using h2, condF]
      rw [if_neg (by simpa using h2)] at hQ; exact hQ
theorem cmpI_spec {cn : CallT} (hn : NaNF (α := Int) (fun n => N .i64 n) cn) : Cmp3C (α := Int) (fun n => N .i64 n) (fun x y => decide (x < y)) fun args M Q => ∃ a0 a1, args = [a0, a1] ∧ W_cmp_Compare_int cn a0 a1 M Q := by
  intro M x y Q hQ
  refine ⟨_, _, rfl, ?_⟩
  unfold W_cmp_Compare_int
  refine hn (hn ?_)
  rw [condF, condF, intW_lss]
  unfold c3 at hQ
  by_cases h1 : x < y
  · rw [show decide (x < y) = true by simpa using h1, condT]
    rw [if_pos (by simpa using h1)] at hQ; exact hQ
  · rw [show decide (x < y) = false by simpa using h1, condF, intW_gtr]
    rw [if_neg (by simpa using h1)] at hQ
    by_cases h2 : y < x
    · rw [show decide (x > y) = true by simpa using h2, condT]
      rw [if_pos (by simpa using h2)] at hQ; exact hQ
    · rw [show decide (x > y) = false by simpa using h2, condF]
      rw [if_neg (by simpa using h2)] at hQ; exact hQ
def INT : Enc Int := ⟨1, fun n => [N .i64 n], fun _ => rfl, fun _ => rfl⟩
def or3L : List Int → Int
  | [] => 0
  | x :: xs => or3 x (or3L xs)
def OrC (c : CallT) : Prop := ∀ {M : RM} {v : AV} {xs : List Int} {Q : PostV}, Sl INT M v xs → xs.length ≤ 100 → Q (N .i64 (or3L xs)) M → c [v] M Q
theorem or_spec : OrC fun args M Q => ∃ a0, args = [a0] ∧ W_cmp_Or_int a0 M Q := by
  intro M v xs Q hs hl hQ
  refine ⟨_, rfl, ?_⟩
  unfold W_cmp_Or_int
  rw [SlR.len hs]
  refine loopW_ind (fun m ys M3 => ∃ i : Nat, m = xs.length - i ∧ ys = [N .i64 (i : Int)] ∧ i ≤ xs.length ∧ M3 = M ∧ or3L xs = or3L (xs.drop i)) _ ⟨0, rfl, rfl, Nat.zero_le _, rfl, rfl⟩ ?_
  rintro next m ys M3 hnext ⟨i, rfl, rfl, hi, rfl, hm⟩
  dsimp only [nthD]
  rw [intW_lss]
  refine condB (fun hlt => ?_) (fun hge => ?_)
  · have hlt : i < xs.length := by simpa using hlt
    obtain ⟨b1, o1, _, _, hidx1, hc1⟩ := Sl.at1 (E := INT) hs (i : Int) hlt
    rw [hidx1, load1_cell (hc1 _ rfl), intW_neq]
    rw [List.drop_eq_getElem_cons hlt, or3L, or3] at hm
    by_cases h0 : xs[i] = 0
    · rw [show (xs[i] != 0) = false by simp [h0], condF, intW_add, i64_succ (by omega)]
      rw [if_neg (by simp [h0])] at hm
      exact hnext _ _ _ (by omega) ⟨i + 1, rfl, rfl, hlt, rfl, hm⟩
    · rw [show (xs[i] != 0) = true by simp [h0], condT]
      rw [if_pos (by simp [h0])] at hm
      rw [hm] at hQ
      exact hQ
  · have he : i = xs.length := by simp at hge; omega
    subst he
    rw [List.drop_length] at hm
    rw [hm] at hQ
    exact hQ
theorem rowI2 {T : Nat} {M : RM} {x y : Int} {K : RB → (Nat → AV) → Prop} : rowsW T 2 [(N .i64 0)] [(0, 1, N .i64 x), (1, 1, N .i64 y)] K = K (.row [N .i64 x, N .i64 y] false T 0) (fun b => .slc b 0 2 (.ex 2)) := by
  apply propext; unfold rowsW
  constructor
  · rintro ⟨l, h, hk⟩; cases h; exact hk
  · intro hk; exact ⟨_, rfl, hk⟩
theorem rowI3 {T : Nat} {M : RM} {x y z : Int} {K : RB → (Nat → AV) → Prop} : rowsW T 3 [(N .i64 0)] [(0, 1, N .i64 x), (1, 1, N .i64 y), (2, 1, N .i64 z)] K = K (.row [N .i64 x, N .i64 y, N .i64 z] false T 0) (fun b => .slc b 0 3 (.ex 3)) := by
  apply propext; unfold rowsW
  constructor
  · rintro ⟨l, h, hk⟩; cases h; exact hk
  · intro hk; exact ⟨_, rfl, hk⟩
def f3D (x y : Dot) : Int := or3 (c3 (fun x y : Nat => decide (x < y)) x.2 y.2) (or3 (c3 (fun x y : Int => decide (x < y)) x.1 y.1) 0)
def f3E (x y : Ent) : Int := or3 (c3 (fun x y : List UInt8 => decide (x < y)) x.2.1 y.2.1) (or3 (c3 (fun x y : List UInt8 => decide (x < y)) x.2.2.1 y.2.2.1) (f3D x.1 y.1))
theorem is3E : Is3 ltE f3E := is3_lex (k := fun x : Ent => x.2.1) lo_str (is3_lex (k := fun x : Ent => x.2.2.1) lo_str (is3_lex (k := fun x : Ent => x.1.2) lo_nat (is3_lex (k := fun x : Ent => x.1.1) lo_int is3_none)))
def ByDotC (c : CallT) : Prop := ∀ {M : RM} {x y : Dot} {Q : PostV}, (∀ M', Keep [] M M' → Q (N .i64 (f3D x y)) M') → c [.agg (dcells x), .agg (dcells y)] M Q
theorem byDot_spec {TD TI : Nat} {cu ci co : CallT} (hu : Cmp3C (α := Nat) (fun n => N .u64 (n : Int)) (fun x y => decide (x < y)) cu) (hi : Cmp3C (α := Int) (fun n => N .i64 n) (fun x y => decide (x < y)) ci) (ho : OrC co) :
    ByDotC fun args M Q => ∃ a0 a1, args = [a0, a1] ∧ W_rolodex_crdt_byDot TD cu ci TI co a0 a1 M Q := by
  intro M x y Q hQ
  refine ⟨_, _, rfl, ?_⟩
  unfold W_rolodex_crdt_byDot
  rw [boxW_agg rfl (by simp), newW_eq, boxW_agg rfl (by simp), newW_eq]
  have k1 : Keep [] M (M.push (.row (dcells x) false TD 0)) := (Keep.refl _ _).push _
  have k2 : Keep [] M ((M.push (.row (dcells x) false TD 0)).push (.row (dcells y) false TD 0)) := k1.push _
  have h2 : ((M.push (.row (dcells x) false TD 0)).push (.row (dcells y) false TD 0)).heap (M.push (.row (dcells x) false TD 0)).next = some (.row (dcells y) false TD 0) := RM.push_new _
  have h1 : ((M.push (.row (dcells x) false TD 0)).push (.row (dcells y) false TD 0)).heap M.next = some (.row (dcells x) false TD 0) := heap_push_lt (RM.push_new _) (by simp [RM.push])
  generalize (M.push (.row (dcells x) false TD 0)).push (.row (dcells y) false TD 0) = M2 at *
  generalize (M.push (.row (dcells x) false TD 0)).next = s at *
  rw [fld0, load1_at h1 rfl, fld0, load1_at h2 rfl, fld0, load1_at h1 rfl, fld0, load1_at h2 rfl]
  refine hu ?_
  rw [load1_at h1 rfl]
  refine ⟨rfl, ?_⟩
  rw [load1_at h2 rfl]
  refine ⟨rfl, ?_⟩
  refine hi ?_
  rw [rowI2 (M := M2), newR_eq]
  refine ho (xs := [_, _]) ?_ (by simp) (hQ _ (k2.push _))
  exact Sl.new (E := INT) [_, _]
def CompareC (c : CallT) : Prop := ∀ {M : RM} {x y : Ent} {Q : PostV}, (∀ M', Keep [] M M' → Q (N .i64 (f3E x y)) M') → c [.agg (EntE.cells x), .agg (EntE.cells y)] M Q
theorem compare_spec {TE TI : Nat} {cs cd co : CallT} (hs : Cmp3C (α := List UInt8) (fun s => St s) (fun x y => decide (x < y)) cs) (hd : ByDotC cd) (ho : OrC co) :
    CompareC fun args M Q => ∃ a0 a1, args = [a0, a1] ∧ W_rolodex_crdt_compare TE cs cd TI co a0 a1 M Q := by
  intro M x y Q hQ
  refine ⟨_, _, rfl, ?_⟩
  unfold W_rolodex_crdt_compare
  rw [boxW_agg rfl (by rw [EntE.len]; decide), newW_eq, boxW_agg rfl (by rw [EntE.len]; decide), newW_eq]
  have k1 : Keep [] M (M.push (.row (EntE.cells x) false TE 0)) := (Keep.refl _ _).push _
  have k2 : Keep [] M ((M.push (.row (EntE.cells x) false TE 0)).push (.row (EntE.cells y) false TE 0)) := k1.push _
  have h2 : ((M.push (.row (EntE.cells x) false TE 0)).push (.row (EntE.cells y) false TE 0)).heap (M.push (.row (EntE.cells x) false TE 0)).next = some (.row (EntE.cells y) false TE 0) := RM.push_new _
  have h1 : ((M.push (.row (EntE.cells x) false TE 0)).push (.row (EntE.cells y) false TE 0)).heap M.next = some (.row (EntE.cells x) false TE 0) := heap_push_lt (RM.push_new _) (by simp [RM.push])
  have n1 : M.next < ((M.push (.row (EntE.cells x) false TE 0)).push (.row (EntE.cells y) false TE 0)).next := by simp [RM.push]; omega
  have n2 : (M.push (.row (EntE.cells x) false TE 0)).next < ((M.push (.row (EntE.cells x) false TE 0)).push (.row (EntE.cells y) false TE 0)).next := by simp [RM.push]
  generalize (M.push (.row (EntE.cells x) false TE 0)).push (.row (EntE.cells y) false TE 0) = M2 at *
  generalize (M.push (.row (EntE.cells x) false TE 0)).next = s at *
  have ld : ∀ {M' : RM} {b : Nat} {z : Ent}, M'.heap b = some (.row (EntE.cells z) false TE 0) → ∀ K : AV → Prop, loadN M' (.ptr b 0) 2 K = K (.agg (dcells z.1)) := fun {M' b z} h K => by
    rw [loadN_ptr, RM.loads_row h (by show 0 + 2 ≤ 5; decide)]
    simp [EntE]
  rw [fld0, load1_at h1 rfl, fld0, load1_at h2 rfl, fld0, load1_at h1 rfl, fld0, load1_at h2 rfl, fld0, ld h1, fld0, ld h2]
  refine hs ?_
  rw [load1_at h1 rfl]
  refine ⟨rfl, ?_⟩
  rw [load1_at h2 rfl]
  refine ⟨rfl, ?_⟩
  rw [ld h1]
  refine ⟨rfl, ?_⟩
  rw [ld h2]
  refine ⟨rfl, ?_⟩
  refine hs ?_
  rw [ld h1]
  refine ⟨rfl, ?_⟩
  rw [ld h2]
  refine ⟨rfl, ?_⟩
  refine hd fun M3 k3 => ?_
  rw [rowI3 (M := M3), newR_eq]
  refine ho (xs := [_, _, _]) (Sl.new (E := INT) [_, _, _]) (by simp) ?_
  have e : or3L [c3 (fun x y : List UInt8 => decide (x < y)) x.2.1 y.2.1, c3 (fun x y : List UInt8 => decide (x < y)) x.2.2.1 y.2.2.1, f3D x.1 y.1] = f3E x y := by
    simp only [or3L, f3E]
    congr 2
    unfold or3; split <;> simp_all
  rw [e]
  exact hQ _ ((k2.trans k3).push _)
theorem cmpE_of {cv : FuncId → CallT} {n : Nat} (h : CompareC (cv n)) : CmpC EntE ltE (callV cv (.fn (.func n) [] [])) := by
  intro M x y Q hQ
  exact ⟨n, [], [], rfl, h fun M' k => hQ _ _ (is3E x y) k⟩
end Go.Ab.Crw
set_option maxRecDepth 10000
set_option linter.unusedVariables false
set_option linter.unusedSimpArgs false
namespace Go.Ab.Crw
open Go Go.Ab Go.Ab.Dot
abbrev EvT := Dot × (Int × (List UInt8 × (List UInt8 × List UInt8)))
def EvE : Enc EvT := ⟨6, fun e => dcells e.1 ++ [N .i64 e.2.1, St e.2.2.1, St e.2.2.2.1, St e.2.2.2.2], fun _ => rfl, fun _ => rfl⟩
abbrev evRow (e : EvT) (kv : AV) : List AV := EvE.cells e ++ [kv]
theorem orP {M : RM} {c p : Bool} {f : KR → Prop} {P : RM → Prop} {G : AV → RM → Prop} (h0 : P M) (hf : c = false → ∀ k : KR, (∀ M', P M' → k (Bo p) M' none) → f k) (hG : ∀ M', P M' → G (Bo (c || p)) M') :
    guardK (Bo c) false f (fun k => k .undef M none) (fun t M' b => pickW (Bo c) (Bo true) t fun u => G u M') := by
  cases c with
  | true => rw [guardK_TF]; dsimp only; rw [pickT]; exact hG M h0
  | false => rw [guardK_FF]; exact hf rfl _ fun M' h => by rw [pickF]; exact hG M' h
theorem orM' {M : RM} {c p : Bool} {f : PostV → Prop} {G : AV → RM → Prop} (hf : c = false → ∀ k : PostV, k (Bo p) M → f k) (hG : G (Bo (c || p)) M) :
    guardM (Bo c) false f (fun k => k .undef M) (fun t M' => pickW (Bo c) (Bo true) t fun u => G u M') := by
  cases c with
  | true => rw [guardM_TF]; dsimp only; rw [pickT]; exact hG
  | false => rw [guardM_FF]; exact hf rfl _ (by rw [pickF]; exact hG)
theorem tailP {M : RM} {c q r : Bool} {f0 : KR → Prop} {f : RM → KR → Prop} {P : RM → Prop} {G : AV → RM → Prop} (h0 : P M) (hf0 : c = false → ∀ k : KR, k (Bo q) M none → f0 k) (hf : c = false → q = true → ∀ k : KR, (∀ M', P M' → k (Bo r) M' none) → f M k) (hG : ∀ M', P M' → G (Bo (c || (q && r))) M') :
    guardK (Bo c) false f0 (fun k => k .undef M none) fun t45 M1 b1 => guardK t45 true (f M1) (fun k => k .undef M1 none) fun t54 M2 b2 => guardK (Bo c) false (fun k3 => pickW t45 t54 (Bo false) fun t55 => k3 t55 M2 none) (fun k => k .undef M2 none) fun t55 M3 b3 => pickW (Bo c) (Bo true) t55 fun t56 => G t56 M3 := by
  cases c with
  | true => rw [guardK_TF]; dsimp only; rw [guardK_U]; dsimp only; rw [guardK_TF]; dsimp only; rw [pickT]; exact hG M h0
  | false =>
    rw [guardK_FF]
    refine hf0 rfl _ ?_
    cases q with
    | false => rw [guardK_FT]; dsimp only; rw [guardK_FF]; dsimp only; rw [pickF, pickF]; exact hG M h0
    | true =>
      rw [guardK_TT]
      refine hf rfl rfl _ fun M' h => ?_
      rw [guardK_FF]; dsimp only; rw [pickT, pickF]; exact hG M' h
theorem tailM {M : RM} {c q r : Bool} {f0 : PostV → Prop} {f : RM → PostV → Prop} {G : AV → RM → Prop} (hf0 : c = false → ∀ k : PostV, k (Bo q) M → f0 k) (hf : c = false → q = true → ∀ k : PostV, k (Bo r) M → f M k) (hG : G (Bo (c || (q && r))) M) :
    guardM (Bo c) false f0 (fun k => k .undef M) fun t45 M1 => guardM t45 true (f M1) (fun k => k .undef M1) fun t54 M2 => guardM (Bo c) false (fun k3 => pickW t45 t54 (Bo false) fun t55 => k3 t55 M2) (fun k => k .undef M2) fun t55 M3 => pickW (Bo c) (Bo true) t55 fun t56 => G t56 M3 := by
  cases c with
  | true => rw [guardM_TF]; dsimp only; rw [guardM_U]; dsimp only; rw [guardM_TF]; dsimp only; rw [pickT]; exact hG
  | false =>
    rw [guardM_FF]
    refine hf0 rfl _ ?_
    cases q with
    | false => rw [guardM_FT]; dsimp only; rw [guardM_FF]; dsimp only; rw [pickF, pickF]; exact hG
    | true =>
      rw [guardM_TT]
      refine hf rfl rfl _ ?_
      rw [guardM_FF]; dsimp only; rw [pickT, pickF]; exact hG
def lessB (a b : Dot) : Bool := decide (a.2 < b.2) || (decide (a.2 = b.2) && decide (a.1 < b.1))
def LessDC (c : CallT) : Prop := ∀ {M : RM} {a b : Dot} {Q : PostV}, (∀ M', Keep [] M M' → Q (Bo (lessB a b)) M') → c [.agg (dcells a), .agg (dcells b)] M Q
theorem less_tail {M1 : RM} {T m1 m2 : Nat} {a b : Dot} {K : AV → RM → Prop} (h1 : M1.heap m1 = some (.row (dcells a) false T 0)) (h2 : M1.heap m2 = some (.row (dcells b) false T 0)) (hK : K (Bo (lessB a b)) M1) :
    fldW (.ptr m1 0) 1 fun t5 => load1 M1 t5 fun t6 => fldW (.ptr m2 0) 1 fun t7 => load1 M1 t7 fun t8 => intW .lss t6 t8 fun t9 =>
    guardM t9 false (fun k' => fldW (.ptr m1 0) 1 fun t11 => load1 M1 t11 fun t12 => fldW (.ptr m2 0) 1 fun t13 => load1 M1 t13 fun t14 => intW .eql t12 t14 fun t15 => k' t15 M1) (fun k => k .undef M1) fun t16 M_18 =>
    guardM t16 true (fun k' => fldW (.ptr m1 0) 0 fun t17 => load1 M_18 t17 fun t18 => fldW (.ptr m2 0) 0 fun t19 => load1 M_18 t19 fun t20 => intW .lss t18 t20 fun t21 => k' t21 M_18) (fun k => k .undef M_18) fun t21_32 M_33 =>
    guardM t9 false (fun k_34 => pickW t16 t21_32 (Bo false) fun t22 => k_34 t22 M_33) (fun k => k .undef M_33) fun t22_35 M_36 =>
    pickW t9 (Bo true) t22_35 fun t23 => K t23 M_36 := by
  rw [fld0, load1_at h1 rfl, fld0, load1_at h2 rfl, intW_lss, show decide ((a.2 : Int) < (b.2 : Int)) = decide (a.2 < b.2) by simp]
  refine tailM (q := decide (a.2 = b.2)) (r := decide (a.1 < b.1)) (fun _ k hk => ?_) (fun _ _ k hk => ?_) hK
  · rw [fld0, load1_at h1 rfl, fld0, load1_at h2 rfl, intW_eql, show ((a.2 : Int) == (b.2 : Int)) = decide (a.2 = b.2) by by_cases h : a.2 = b.2 <;> simp [h]; omega]
    exact hk
  · rw [fld0, load1_at h1 rfl, fld0, load1_at h2 rfl, intW_lss]
    exact hk
theorem lessD_spec {T : Nat} : LessDC fun args M Q => ∃ a0 a1, args = [a0, a1] ∧ W_rolodex_dot_Less T a0 a1 M Q := by
  intro M a b Q hQ
  refine ⟨_, _, rfl, ?_⟩
  unfold W_rolodex_dot_Less
  simp only [fuseM]
  rw [boxW_agg rfl (by simp), newW_eq, boxW_agg rfl (by simp), newW_eq]
  exact less_tail (heap_push_lt (RM.push_new _) (by simp [RM.push])) (RM.push_new _) (hQ _ (((Keep.refl _ _).push _).push _))
theorem refLess_spec {T : Nat} : LessDC fun args M Q => ∃ a0 a1, args = [a0, a1] ∧ W_rolodex_rolodexref13_Less T a0 a1 M Q := by
  intro M a b Q hQ
  refine ⟨_, _, rfl, ?_⟩
  unfold W_rolodex_rolodexref13_Less
  simp only [fuseM]
  rw [boxW_agg rfl (by simp), newW_eq, boxW_agg rfl (by simp), newW_eq]
  exact less_tail (heap_push_lt (RM.push_new _) (by simp [RM.push])) (RM.push_new _) (hQ _ (((Keep.refl _ _).push _).push _))
def names (c f v : List UInt8) : Bool := decide (1 ≤ c.length) && decide (c.length ≤ 64) && decide (f.length ≤ 64) && decide (v.length ≤ 512)
def prevOk : Option Dot → Dot → Bool
  | none, _ => true
  | some q, k => lessB q k
def killsOk (d : Dot) (p : Option Dot) : List Dot → Bool
  | [] => true
  | k :: ks => good k && !decide (k = d) && prevOk p k && killsOk d (some k) ks
def opOk (e : EvT) : Bool := (decide (e.2.1 = 1) && decide (e.2.2.2.1 ≠ [])) || (decide (e.2.1 = 2) && decide (e.2.2.2.2 = []))
def goodEv (e : EvT) (ks : List Dot) : Bool := good e.1 && names e.2.2.1 e.2.2.2.1 e.2.2.2.2 && decide (ks.length ≤ 64) && killsOk e.1 none ks && opOk e
def NamesC (c : CallT) : Prop := ∀ {M : RM} {x y z : List UInt8} {Q : PostV}, Q (Bo (names x y z)) M → c [St x, St y, St z] M Q
theorem names_spec : NamesC fun args M Q => ∃ a0 a1 a2, args = [a0, a1, a2] ∧ W_rolodex_crdt_goodNames a0 a1 a2 M Q := by
  intro M x y z Q hQ
  refine ⟨_, _, _, rfl, ?_⟩
  unfold W_rolodex_crdt_goodNames
  simp only [fuseM]
  rw [lenStr_St, intW_geq]
  refine andM (p := decide (x.length ≤ 64)) (fun _ k hk => ?_) ?_
  · rw [lenStr_St, intW_leq, show decide ((x.length : Int) ≤ 64) = decide (x.length ≤ 64) by simp; omega]; exact hk
  refine andM (p := decide (y.length ≤ 64)) (fun _ k hk => ?_) ?_
  · rw [lenStr_St, intW_leq, show decide ((y.length : Int) ≤ 64) = decide (y.length ≤ 64) by simp; omega]; exact hk
  refine andM (p := decide (z.length ≤ 512)) (fun _ k hk => ?_) ?_
  · rw [lenStr_St, intW_leq, show decide ((z.length : Int) ≤ 512) = decide (z.length ≤ 512) by simp; omega]; exact hk
  rw [show decide ((x.length : Int) ≥ 1) = decide (1 ≤ x.length) by simp; omega]
  exact hQ
def GoodEvC (c : CallT) : Prop := ∀ {M : RM} {e : EvT} {kv : AV} {ks : List Dot} {Q : PostV}, Sl DotE M kv ks → (∀ M', Keep [] M M' → Q (Bo (goodEv e ks)) M') → c [.agg (evRow e kv)] M Q
theorem ev_ld {M : RM} {b T : Nat} {e : EvT} {kv : AV} (h : M.heap b = some (.row (evRow e kv) false T 0)) {K : AV → Prop} : loadN M (.ptr b 0) 2 K = K (.agg (dcells e.1)) := by
  have e2 : ((evRow e kv).drop 0).take 2 = dcells e.1 := rfl
  rw [loadN_ptr, RM.loads_row h (by show 0 + 2 ≤ 7; decide), e2]
  simp
theorem ev_one {M : RM} {e : EvT} {kv : AV} {ks : List Dot} (h : Sl DotE M kv ks) : (evRow e kv).all oneCell = true := by
  rw [List.all_append, EvE.one, List.all_cons, SlR.one h]; rfl
theorem kill_at {M : RM} {kv : AV} {ks : List Dot} (h : Sl DotE M kv ks) {i : Nat} (hi : i < ks.length) {kd : IntKind} {K : AV → Prop} : (idxS kv (N kd (i : Int)) 2 fun p => loadN M p 2 K) = K (.agg (dcells ks[i])) := by
  obtain ⟨b, o, _, _, hidx, hld⟩ := Sl.at (E := DotE) (i := i) h 2 (i : Int) hi rfl rfl
  rw [hidx, loadN_ptr, hld]
  simp [DotE]
def prevK (ks : List Dot) (i : Nat) : Option Dot := if i = 0 then none else ks[i - 1]?
theorem killsOk_step {d : Dot} {ks : List Dot} {i : Nat} (hi : i < ks.length) : killsOk d (prevK ks i) (ks.drop i) =
    (good ks[i] && !decide (ks[i] = d) && (if h : 0 < i then lessB (ks[i - 1]'(by omega)) ks[i] else true) && killsOk d (prevK ks (i + 1)) (ks.drop (i + 1))) := by
  rw [List.drop_eq_getElem_cons hi, killsOk]
  have e2 : prevK ks (i + 1) = some ks[i] := by rw [prevK, if_neg (by omega), Nat.add_sub_cancel, List.getElem?_eq_getElem hi]
  rw [e2]
  by_cases h0 : i = 0
  · subst h0; rfl
  · have e1 : prevK ks i = some (ks[i - 1]'(by omega)) := by rw [prevK, if_neg h0, List.getElem?_eq_getElem (by omega)]
    rw [e1, dif_pos (by omega)]; rfl
theorem goodEv_spec {TE TD : Nat} {cg cn cl : CallT} (hg : GoodC cg) (hn : NamesC cn) (hl : LessDC cl) : GoodEvC fun args M Q => ∃ a0, args = [a0] ∧ W_rolodex_crdt_Good TE cg cn TD cl a0 M Q := by
  intro M0 e kv ks Q hs0 hQ
  refine ⟨_, rfl, ?_⟩
  unfold W_rolodex_crdt_Good
  simp only [fuseM, fuseK, fuseKM, fuseMK]
  rw [boxW_agg (ev_one hs0) (by simp), newW_eq]
  have k0 : Keep [] M0 (M0.push (.row (evRow e kv) false TE 0)) := (Keep.refl _ _).push _
  have h0 : (M0.push (.row (evRow e kv) false TE 0)).heap M0.next = some (.row (evRow e kv) false TE 0) := RM.push_new _
  have hlt : M0.next < (M0.push (.row (evRow e kv) false TE 0)).next := by simp [RM.push]
  have hs := SlR.keep hs0 k0 (by simp)
  generalize M0.push (.row (evRow e kv) false TE 0) = M at *
  generalize M0.next = b at *
  have hs : Sl DotE M kv ks := hs
  rw [fld0, ev_ld h0]
  refine hg fun M1 k1 => ?_
  have h1 := k1.heap_of h0 hlt (by simp)
  have s1 : Sl DotE M1 kv ks := SlR.keep hs k1 (by simp)
  rw [notW_Bo]
  refine orM' (p := !names e.2.2.1 e.2.2.2.1 e.2.2.2.2) (fun _ k hk => ?_) ?_
  · rw [fld0, load1_at h1 rfl, fld0, load1_at h1 rfl, fld0, load1_at h1 rfl]
    refine hn ?_
    rw [notW_Bo]
    exact hk
  refine orM' (p := decide (ks.length > 64)) (fun _ k hk => ?_) ?_
  · rw [fld0, load1_at h1 rfl, SlR.len s1, intW_gtr, show decide ((ks.length : Int) > 64) = decide (ks.length > 64) by simp; omega]
    exact hk
  refine condB (fun hc => ?_) (fun hc => ?_)
  · have : goodEv e ks = false := by
      unfold goodEv
      simp only [Bool.or_eq_true, Bool.not_eq_true', decide_eq_true_eq] at hc
      rcases hc with (hc | hc) | hc
      · rw [hc]; rfl
      · rw [hc, Bool.and_false]; rfl
      · rw [decide_eq_false (show ¬ (ks.length ≤ 64) by omega), Bool.and_false]; rfl
    rw [this] at hQ
    exact hQ M1 (k0.trans k1)
  simp only [Bool.or_eq_false_iff, Bool.not_eq_false', decide_eq_false_iff_not] at hc
  obtain ⟨⟨hc1, hc2⟩, hc3⟩ := hc
  have hgoal : goodEv e ks = (killsOk e.1 none ks && opOk e) := by
    unfold goodEv
    rw [hc1, hc2, decide_eq_true (show (ks.length ≤ 64) by omega)]; simp
  rw [fld0, load1_at h1 rfl, SlR.len s1]
  refine loopW_ind (fun m ys M3 => ∃ i : Nat, m = ks.length - i ∧ ys = [N .i64 (i : Int)] ∧ i ≤ ks.length ∧ Keep [] M1 M3 ∧ killsOk e.1 none ks = killsOk e.1 (prevK ks i) (ks.drop i)) _ ⟨0, rfl, rfl, Nat.zero_le _, Keep.refl _ _, rfl⟩ ?_
  rintro next m ys M3 hnext ⟨i, rfl, rfl, hi, k3, hm⟩
  dsimp only [nthD]
  have n1 := k1.next
  have h3 := k3.heap_of h1 (by omega) (by simp)
  have s3 : Sl DotE M3 kv ks := SlR.keep s1 k3 (by simp)
  have kk3 := (k0.trans k1).trans k3
  rw [lssN]
  refine condB (fun hlt2 => ?_) (fun hge => ?_)
  · have hlt2 : i < ks.length := of_decide_eq_true hlt2
    rw [killsOk_step hlt2] at hm
    rw [kill_at s3 hlt2, newW_eq, storeW_all (n := 2) (x := .agg (dcells ks[i])) (l := [N .i64 0, N .u64 0]) (RM.push_new _) rfl rfl rfl]
    have k4 : Keep [] M3 ((M3.push (.row [N .i64 0, N .u64 0] false TD 0)).put M3.next (.row (AV.agg (dcells ks[i])).cells false TD 0)) := ((Keep.refl _ _).push _).new _ (Nat.le_refl _)
    have hk4 : ((M3.push (.row [N .i64 0, N .u64 0] false TD 0)).put M3.next (.row (AV.agg (dcells ks[i])).cells false TD 0)).heap M3.next = some (.row (dcells ks[i]) false TD 0) := heap_put_eq _
    have hn4 : M3.next < ((M3.push (.row [N .i64 0, N .u64 0] false TD 0)).put M3.next (.row (AV.agg (dcells ks[i])).cells false TD 0)).next := by simp [RM.push, RM.put]
    generalize (M3.push (.row [N .i64 0, N .u64 0] false TD 0)).put M3.next (.row (AV.agg (dcells ks[i])).cells false TD 0) = M4 at *
    generalize M3.next = s at *
    rw [loadN_at (n := 2) hk4 rfl]
    refine hg fun M5 k5 => ?_
    have hk5 := k5.heap_of hk4 hn4 (by simp)
    have h5 := (k4.trans k5).heap_of h3 (by have := k3.next; omega) (by simp)
    have s5 : Sl DotE M5 kv ks := SlR.keep s3 (k4.trans k5) (by simp)
    have kk5 := (k3.trans k4).trans k5
    rw [notW_Bo]
    refine orP (P := fun M' => M' = M5) (p := decide (ks[i] = e.1)) rfl (fun _ k hk => ?_) fun M' hM' => ?_
    · rw [loadN_at (n := 2) hk5 rfl, fld0, ev_ld h5, aggEqW_of rfl rfl (dot_eq _ _), Bool.bne_false]
      exact hk M5 rfl
    subst hM'
    refine tailP (P := fun M6 => Keep [] M1 M6) (q := decide (i > 0)) (r := !(if h : 0 < i then lessB (ks[i - 1]'(by omega)) ks[i] else true)) kk5 (fun _ k hk => ?_) (fun _ hq k hk => ?_) fun M6 k6 => ?_
    · rw [show (0 : Int) = ((0 : Nat) : Int) from rfl, gtrN]
      exact hk
    · have hq : 0 < i := of_decide_eq_true hq
      rw [fld0, load1_at h5 rfl, sub1 (by omega) (by omega), kill_at s5 (by omega), loadN_at (n := 2) hk5 rfl]
      refine hl fun M7 k7 => ?_
      rw [notW_Bo, ← dif_pos (c := 0 < i) (t := fun h => lessB (ks[i - 1]'(by omega)) ks[i]) (e := fun _ => true) hq]
      exact hk M7 (kk5.trans k7)
    refine condB (fun hb => ?_) (fun hb => ?_)
    · have : killsOk e.1 none ks = false := by
        rw [hm]
        simp only [Bool.or_eq_true, Bool.and_eq_true, Bool.not_eq_true', decide_eq_true_eq] at hb
        rcases hb with (hb | hb) | ⟨_, hb⟩
        · rw [hb]; rfl
        · rw [show decide (ks[i] = e.1) = true by simpa using hb]; simp
        · rw [hb]; simp
      rw [hgoal, this] at hQ
      exact hQ M6 ((k0.trans k1).trans k6)
    · rw [add1 (by omega)]
      refine hnext _ _ _ (by omega) ⟨i + 1, rfl, rfl, by omega, k6, ?_⟩
      simp only [Bool.or_eq_false_iff, Bool.and_eq_false_iff, Bool.not_eq_false', decide_eq_false_iff_not] at hb
      obtain ⟨⟨hb1, hb2⟩, hb3⟩ := hb
      rw [hm, hb1, show decide (ks[i] = e.1) = false by simpa using hb2]
      rcases hb3 with hb3 | hb3
      · rw [dif_neg hb3]; simp
      · rw [hb3]; simp
  · have he : i = ks.length := by
      have : ¬ i < ks.length := of_decide_eq_false hge
      omega
    subst he
    rw [List.drop_length, killsOk] at hm
    rw [hgoal, hm, Bool.true_and] at hQ
    have op1 : ∀ n : Int, ((e.2.1 : Int) == n) = decide (e.2.1 = n) := fun n => by by_cases h : e.2.1 = n <;> simp [h]
    rw [fld0, load1_at h3 rfl, intW_eql, op1]
    refine andM (p := decide (e.2.2.2.1 ≠ [])) (fun _ k hk => ?_) ?_
    · rw [fld0, load1_at h3 rfl, strW_neq, show (e.2.2.2.1 != []) = decide (e.2.2.2.1 ≠ []) by by_cases h : e.2.2.2.1 = [] <;> simp [h]]
      exact hk
    refine tailM (q := decide (e.2.1 = 2)) (r := decide (e.2.2.2.2 = [])) (fun _ k hk => ?_) (fun _ _ k hk => ?_) (hQ M3 kk3)
    · rw [fld0, load1_at h3 rfl, intW_eql, op1]
      exact hk
    · rw [fld0, load1_at h3 rfl, strW_eql, show (e.2.2.2.2 == []) = decide (e.2.2.2.2 = []) by by_cases h : e.2.2.2.2 = [] <;> simp [h]]
      exact hk
theorem refGoodEv_spec {TE : Nat} {cg cl : CallT} (hg : GoodC cg) (hl : LessDC cl) : GoodEvC fun args M Q => ∃ a0, args = [a0] ∧ W_rolodex_rolodexref13_GoodEvent TE cg cl a0 M Q := by
  intro M0 e kv ks Q hs0 hQ
  refine ⟨_, rfl, ?_⟩
  unfold W_rolodex_rolodexref13_GoodEvent
  simp only [fuseM, fuseK, fuseKM, fuseMK]
  rw [boxW_agg (ev_one hs0) (by simp), newW_eq]
  have k0 : Keep [] M0 (M0.push (.row (evRow e kv) false TE 0)) := (Keep.refl _ _).push _
  have h0 : (M0.push (.row (evRow e kv) false TE 0)).heap M0.next = some (.row (evRow e kv) false TE 0) := RM.push_new _
  have hlt : M0.next < (M0.push (.row (evRow e kv) false TE 0)).next := by simp [RM.push]
  have hs := SlR.keep hs0 k0 (by simp)
  generalize M0.push (.row (evRow e kv) false TE 0) = M at *
  generalize M0.next = b at *
  have hs : Sl DotE M kv ks := hs
  rw [fld0, ev_ld h0]
  refine hg fun M1 k1 => ?_
  have h1 := k1.heap_of h0 hlt (by simp)
  have s1 : Sl DotE M1 kv ks := SlR.keep hs k1 (by simp)
  have op1 : ∀ n : Int, ((e.2.1 : Int) == n) = decide (e.2.1 = n) := fun n => by by_cases h : e.2.1 = n <;> simp [h]
  have op2 : ∀ n : Int, ((e.2.1 : Int) != n) = decide (e.2.1 ≠ n) := fun n => by by_cases h : e.2.1 = n <;> simp [h]
  rw [notW_Bo]
  refine tailM (q := decide (e.2.1 ≠ 1)) (r := decide (e.2.1 ≠ 2)) (fun _ k hk => ?_) (fun _ _ k hk => ?_) ?_
  · rw [fld0, load1_at h1 rfl, intW_neq, op2]; exact hk
  · rw [fld0, load1_at h1 rfl, intW_neq, op2]; exact hk
  refine orM' (p := decide (e.2.2.1.length < 1)) (fun _ k hk => ?_) ?_
  · rw [fld0, load1_at h1 rfl, lenStr_St, intW_lss, show decide ((e.2.2.1.length : Int) < 1) = decide (e.2.2.1.length < 1) from decide_eq_decide.2 (by omega)]; exact hk
  refine orM' (p := decide (e.2.2.1.length > 64)) (fun _ k hk => ?_) ?_
  · rw [fld0, load1_at h1 rfl, lenStr_St, intW_gtr, show decide ((e.2.2.1.length : Int) > 64) = decide (e.2.2.1.length > 64) by simp; omega]; exact hk
  refine orM' (p := decide (e.2.2.2.1.length > 64)) (fun _ k hk => ?_) ?_
  · rw [fld0, load1_at h1 rfl, lenStr_St, intW_gtr, show decide ((e.2.2.2.1.length : Int) > 64) = decide (e.2.2.2.1.length > 64) by simp; omega]; exact hk
  refine orM' (p := decide (e.2.2.2.2.length > 512)) (fun _ k hk => ?_) ?_
  · rw [fld0, load1_at h1 rfl, lenStr_St, intW_gtr, show decide ((e.2.2.2.2.length : Int) > 512) = decide (e.2.2.2.2.length > 512) by simp; omega]; exact hk
  refine orM' (p := decide (ks.length > 64)) (fun _ k hk => ?_) ?_
  · rw [fld0, load1_at h1 rfl, SlR.len s1, intW_gtr, show decide ((ks.length : Int) > 64) = decide (ks.length > 64) by simp; omega]; exact hk
  have kk1 := k0.trans k1
  refine condB (fun hc => ?_) (fun hc => ?_)
  · have : goodEv e ks = false := by
      simp only [Bool.or_eq_true, Bool.and_eq_true, Bool.not_eq_true', decide_eq_true_eq] at hc
      simp only [goodEv, names, opOk]
      rcases hc with (((((hc | ⟨hc1, hc2⟩) | hc) | hc) | hc) | hc) | hc
      · rw [hc]; rfl
      · simp [hc1, hc2]
      · rw [decide_eq_false (show ¬ (1 ≤ e.2.2.1.length) by omega)]; simp
      · rw [decide_eq_false (show ¬ (e.2.2.1.length ≤ 64) by omega)]; simp
      · rw [decide_eq_false (show ¬ (e.2.2.2.1.length ≤ 64) by omega)]; simp
      · rw [decide_eq_false (show ¬ (e.2.2.2.2.length ≤ 512) by omega)]; simp
      · rw [decide_eq_false (show ¬ (ks.length ≤ 64) by omega)]; simp
    rw [this] at hQ
    exact hQ M1 kk1
  simp only [Bool.or_eq_false_iff, Bool.and_eq_false_iff, Bool.not_eq_false', decide_eq_false_iff_not, Decidable.not_not] at hc
  obtain ⟨⟨⟨⟨⟨⟨hc1, hop⟩, hc2⟩, hc3⟩, hc4⟩, hc5⟩, hc6⟩ := hc
  have hgoal : goodEv e ks = (killsOk e.1 none ks && opOk e) := by
    simp only [goodEv, names]
    rw [hc1, decide_eq_true (show (1 ≤ e.2.2.1.length) by omega), decide_eq_true (show (e.2.2.1.length ≤ 64) by omega), decide_eq_true (show (e.2.2.2.1.length ≤ 64) by omega), decide_eq_true (show (e.2.2.2.2.length ≤ 512) by omega), decide_eq_true (show (ks.length ≤ 64) by omega)]
    simp
  rw [hgoal] at hQ
  rw [fld0, load1_at h1 rfl, intW_eql, op1]
  refine andM (p := decide (e.2.2.2.1 = [])) (fun _ k hk => ?_) ?_
  · rw [fld0, load1_at h1 rfl, strW_eql, show (e.2.2.2.1 == []) = decide (e.2.2.2.1 = []) by by_cases h : e.2.2.2.1 = [] <;> simp [h]]
    exact hk
  refine tailM (q := decide (e.2.1 = 2)) (r := decide (e.2.2.2.2 ≠ [])) (fun _ k hk => ?_) (fun _ _ k hk => ?_) ?_
  · rw [fld0, load1_at h1 rfl, intW_eql, op1]
    exact hk
  · rw [fld0, load1_at h1 rfl, strW_neq, show (e.2.2.2.2 != []) = decide (e.2.2.2.2 ≠ []) by by_cases h : e.2.2.2.2 = [] <;> simp [h]]
    exact hk
  have hopv : ((decide (e.2.1 = 1) && decide (e.2.2.2.1 = [])) || (decide (e.2.1 = 2) && decide (e.2.2.2.2 ≠ []))) = !opOk e := by
    unfold opOk
    rcases hop with hop | hop
    · simp [hop]
    · simp [hop]
  rw [hopv]
  refine condB (fun hb => ?_) (fun hb => ?_)
  · rw [show opOk e = false by simpa using hb, Bool.and_false] at hQ
    exact hQ M1 kk1
  rw [show opOk e = true by simpa using hb, Bool.and_true] at hQ
  refine loopW_ind (fun m ys M3 => ∃ i : Nat, m = ks.length - i ∧ ys = [N .i64 (i : Int)] ∧ i ≤ ks.length ∧ Keep [] M1 M3 ∧ killsOk e.1 none ks = killsOk e.1 (prevK ks i) (ks.drop i)) _ ⟨0, rfl, rfl, Nat.zero_le _, Keep.refl _ _, rfl⟩ ?_
  rintro next m ys M3 hnext ⟨i, rfl, rfl, hi, k3, hm⟩
  dsimp only [nthD]
  have n1 := k1.next
  have h3 := k3.heap_of h1 (by omega) (by simp)
  have s3 : Sl DotE M3 kv ks := SlR.keep s1 k3 (by simp)
  rw [fld0, load1_at h3 rfl, SlR.len s3, lssN]
  refine condB (fun hlt2 => ?_) (fun hge => ?_)
  · have hlt2 : i < ks.length := of_decide_eq_true hlt2
    rw [killsOk_step hlt2] at hm
    rw [fld0, load1_at h3 rfl, kill_at s3 hlt2]
    refine hg fun M5 k5 => ?_
    have h5 := k5.heap_of h3 (by have := k3.next; omega) (by simp)
    have s5 : Sl DotE M5 kv ks := SlR.keep s3 k5 (by simp)
    have kk5 := k3.trans k5
    rw [notW_Bo]
    refine orP (P := fun M' => M' = M5) (p := decide (ks[i] = e.1)) rfl (fun _ k hk => ?_) fun M' hM' => ?_
    · rw [fld0, load1_at h5 rfl, kill_at s5 hlt2, fld0, ev_ld h5, aggEqW_of rfl rfl (dot_eq _ _), Bool.bne_false]
      exact hk M5 rfl
    subst hM'
    refine tailP (P := fun M6 => Keep [] M1 M6) (q := decide (i > 0)) (r := !(if h : 0 < i then lessB (ks[i - 1]'(by omega)) ks[i] else true)) kk5 (fun _ k hk => ?_) (fun _ hq k hk => ?_) fun M6 k6 => ?_
    · rw [show (0 : Int) = ((0 : Nat) : Int) from rfl, gtrN]
      exact hk
    · have hq : 0 < i := of_decide_eq_true hq
      rw [fld0, load1_at h5 rfl, sub1 (by omega) (by omega), kill_at s5 (by omega), fld0, load1_at h5 rfl, kill_at s5 hlt2]
      refine hl fun M7 k7 => ?_
      rw [notW_Bo, ← dif_pos (c := 0 < i) (t := fun h => lessB (ks[i - 1]'(by omega)) ks[i]) (e := fun _ => true) hq]
      exact hk M7 (kk5.trans k7)
    refine condB (fun hb => ?_) (fun hb => ?_)
    · have : killsOk e.1 none ks = false := by
        rw [hm]
        simp only [Bool.or_eq_true, Bool.and_eq_true, Bool.not_eq_true', decide_eq_true_eq] at hb
        rcases hb with (hb | hb) | ⟨_, hb⟩
        · rw [hb]; rfl
        · rw [show decide (ks[i] = e.1) = true by simpa using hb]; simp
        · rw [hb]; simp
      rw [this] at hQ
      exact hQ M6 (kk1.trans k6)
    · rw [add1 (by omega)]
      refine hnext _ _ _ (by omega) ⟨i + 1, rfl, rfl, by omega, k6, ?_⟩
      simp only [Bool.or_eq_false_iff, Bool.and_eq_false_iff, Bool.not_eq_false', decide_eq_false_iff_not] at hb
      obtain ⟨⟨hb1, hb2⟩, hb3⟩ := hb
      rw [hm, hb1, show decide (ks[i] = e.1) = false by simpa using hb2]
      rcases hb3 with hb3 | hb3
      · rw [dif_neg hb3]; simp
      · rw [hb3]; simp
  · have he : i = ks.length := by
      have : ¬ i < ks.length := of_decide_eq_false hge
      omega
    subst he
    rw [List.drop_length, killsOk] at hm
    rw [hm] at hQ
    exact hQ M3 (kk1.trans k3)
end Go.Ab.Crw
set_option maxRecDepth 10000
set_option linter.unusedVariables false
set_option linter.unusedSimpArgs false
namespace Go.Ab.Crw
open Go Go.Ab Go.Ab.Dot
def CloneEC (T : Nat) (c : CallT) : Prop := ∀ {M : RM} {v : AV} {xs : List Ent} {Q : PostV}, Sl EntE M v xs → xs.length ≤ 1000000 → (∀ v' M', Ow EntE M' M.next T v' xs → Keep [] M M' → Q v' M') → c [v] M Q
theorem cloneE_spec {T : Nat} : CloneEC T fun args M Q => ∃ a0, args = [a0] ∧ W_slices_Clone_rolodex_api_Entry_rolodex_api_Entry T a0 M Q := by
  intro M v xs Q hs hl hQ
  refine ⟨_, rfl, ?_⟩
  unfold W_slices_Clone_rolodex_api_Entry_rolodex_api_Entry
  have h5 : SlR M 5 v (EntE.row xs) xs.length := hs
  exact clone_any (size := 5) (bytes := 64) h5 (Enc.row_all _ _) (by decide) (by omega) (by omega) fun v' M' ho k => hQ v' M' ho k
def IndexDC (c : CallT) : Prop := ∀ {M : RM} {v : AV} {l : List Dot} {d : Dot} {Q : PostV}, Sl DotE M v l → l.length ≤ 1000000 → (∀ (n : Int) M', (decide (n ≥ 0) = decide (d ∈ l)) → Keep [] M M' → Q (N .i64 n) M') → c [v, .agg (dcells d)] M Q
theorem indexD_spec {T : Nat} : IndexDC fun args M Q => ∃ a0 a1, args = [a0, a1] ∧ W_slices_Index_rolodex_api_Dot_rolodex_api_Dot T a0 a1 M Q := by
  intro M0 v l d Q hs0 hl hQ
  refine ⟨_, _, rfl, ?_⟩
  unfold W_slices_Index_rolodex_api_Dot_rolodex_api_Dot
  rw [boxW_agg rfl (by simp), newW_eq]
  have k0 : Keep [] M0 (M0.push (.row (dcells d) false T 0)) := (Keep.refl _ _).push _
  have h0 : (M0.push (.row (dcells d) false T 0)).heap M0.next = some (.row (dcells d) false T 0) := RM.push_new _
  have hs : Sl DotE (M0.push (.row (dcells d) false T 0)) v l := SlR.keep hs0 k0 (by simp)
  generalize M0.push (.row (dcells d) false T 0) = M at *
  generalize M0.next = b at *
  rw [SlR.len hs]
  refine loopW_ind (fun m ys M3 => ∃ i : Nat, m = l.length - i ∧ ys = [N .i64 (i : Int)] ∧ i ≤ l.length ∧ M3 = M ∧ (d ∈ l ↔ d ∈ l.drop i)) _ ⟨0, rfl, rfl, Nat.zero_le _, rfl, Iff.rfl⟩ ?_
  rintro next m ys M3 hnext ⟨i, rfl, rfl, hi, rfl, hm⟩
  dsimp only [nthD]
  rw [lssN]
  refine condB (fun hlt => ?_) (fun hge => ?_)
  · have hlt : i < l.length := of_decide_eq_true hlt
    rw [List.drop_eq_getElem_cons hlt, List.mem_cons] at hm
    rw [loadN_at (n := 2) h0 rfl, kill_at hs hlt, aggEqW_of rfl rfl (dot_eq _ _), Bool.bne_false]
    refine condB (fun he => ?_) (fun he => ?_)
    · have he : d = l[i] := of_decide_eq_true he
      refine hQ _ _ ?_ k0
      rw [decide_eq_true (show (i : Int) ≥ 0 by omega), decide_eq_true (hm.2 (.inl he))]
    · have he : ¬ d = l[i] := of_decide_eq_false he
      rw [add1 (by omega)]
      exact hnext _ _ _ (by omega) ⟨i + 1, rfl, rfl, by omega, rfl, hm.trans ⟨fun h => h.resolve_left he, .inr⟩⟩
  · have he : i = l.length := by
      have : ¬ i < l.length := of_decide_eq_false hge
      omega
    subst he
    rw [List.drop_length] at hm
    refine hQ _ _ ?_ k0
    rw [decide_eq_false (show ¬ (-1 : Int) ≥ 0 by decide), decide_eq_false (fun h => by simpa using hm.1 h)]
def ContainsDC (c : CallT) : Prop := ∀ {M : RM} {v : AV} {l : List Dot} {d : Dot} {Q : PostV}, Sl DotE M v l → l.length ≤ 1000000 → (∀ M', Keep [] M M' → Q (Bo (decide (d ∈ l))) M') → c [v, .agg (dcells d)] M Q
theorem containsD_spec {T : Nat} {ci : CallT} (hi : IndexDC ci) : ContainsDC fun args M Q => ∃ a0 a1, args = [a0, a1] ∧ W_slices_Contains_rolodex_api_Dot_rolodex_api_Dot T ci a0 a1 M Q := by
  intro M0 v l d Q hs0 hl hQ
  refine ⟨_, _, rfl, ?_⟩
  unfold W_slices_Contains_rolodex_api_Dot_rolodex_api_Dot
  rw [boxW_agg rfl (by simp), newW_eq]
  have k0 : Keep [] M0 (M0.push (.row (dcells d) false T 0)) := (Keep.refl _ _).push _
  rw [loadN_at (n := 2) (RM.push_new _) rfl]
  refine hi (SlR.keep hs0 k0 (by simp)) hl fun n M' hn k => ?_
  rw [intW_geq, hn]
  exact hQ M' (k0.trans k)
def PredC (P : RM → Prop) (p : Ent → Bool) (c : List AV → RM → PostV → Prop) : Prop := ∀ {M : RM} {x : Ent} {Q : PostV}, P M → (∀ M', Keep [] M M' → Q (Bo (p x)) M') → c [.agg (EntE.cells x)] M Q
theorem ent_at {M : RM} {v : AV} {xs : List Ent} (h : Sl EntE M v xs) {i : Nat} (hi : i < xs.length) {kd : IntKind} {K : AV → Prop} : (idxS v (N kd (i : Int)) 5 fun p => loadN M p 5 K) = K (.agg (EntE.cells xs[i])) := by
  obtain ⟨b, o, _, _, hidx, hld⟩ := Sl.at (E := EntE) (i := i) h 5 (i : Int) hi rfl rfl
  rw [hidx, loadN_ptr, hld]
  simp
def IndexFC (P : RM → Prop) (p : Ent → Bool) (fv : AV) (c : CallT) : Prop := ∀ {M : RM} {v : AV} {xs : List Ent} {Q : PostV}, P M → (∀ M M', P M → Keep [] M M' → P M') → Sl EntE M v xs → xs.length ≤ 1000000 →
  (xs.any p = false → ∀ M', Keep [] M M' → Q (N .i64 (-1)) M') → (∀ (i : Nat) (hi : i < xs.length), p xs[i] = true → (∀ x ∈ xs.take i, p x = false) → ∀ M', Keep [] M M' → Q (N .i64 (i : Int)) M') → c [v, fv] M Q
theorem indexF_spec {P : RM → Prop} {p : Ent → Bool} {fv : AV} {cv : FuncId → CallT} (hp : PredC P p (callV cv fv)) : IndexFC P p fv fun args M Q => ∃ a0 a1, args = [a0, a1] ∧ W_slices_IndexFunc_rolodex_api_Entry_rolodex_api_Entry cv a0 a1 M Q := by
  intro M v xs Q hP hPk hs hl h0 h1
  refine ⟨_, _, rfl, ?_⟩
  unfold W_slices_IndexFunc_rolodex_api_Entry_rolodex_api_Entry
  rw [SlR.len hs]
  refine loopW_ind (fun m ys M3 => ∃ i : Nat, m = xs.length - i ∧ ys = [N .i64 (i : Int)] ∧ i ≤ xs.length ∧ Keep [] M M3 ∧ ∀ x ∈ xs.take i, p x = false) _ ⟨0, rfl, rfl, Nat.zero_le _, Keep.refl _ _, by simp⟩ ?_
  rintro next m ys M3 hnext ⟨i, rfl, rfl, hi, k3, hm⟩
  dsimp only [nthD]
  rw [lssN]
  refine condB (fun hlt => ?_) (fun hge => ?_)
  · have hlt : i < xs.length := of_decide_eq_true hlt
    rw [ent_at (SlR.keep hs k3 (by simp)) hlt]
    refine hp (hPk _ _ hP k3) fun M4 k4 => ?_
    refine condB (fun he => h1 i hlt he hm M4 (k3.trans k4)) (fun he => ?_)
    rw [add1 (by omega)]
    refine hnext _ _ _ (by omega) ⟨i + 1, rfl, rfl, by omega, k3.trans k4, fun x hx => ?_⟩
    rw [List.take_succ_eq_append_getElem hlt, List.mem_append] at hx
    rcases hx with hx | hx
    · exact hm x hx
    · simp at hx; subst hx; exact he
  · have he : i = xs.length := by
      have : ¬ i < xs.length := of_decide_eq_false hge
      omega
    subst he
    rw [List.take_length] at hm
    exact h0 (by simpa using hm) M3 k3
theorem subS_to_z {b o n k z : Nat} (h : k ≤ n) (h0 : 0 < n) : subS z (.slc b o n (.op z)) none (some (N .i64 (k : Int))) none = some (.slc b o k (.op z)) := by
  simp only [subS, bnd]
  simp [h]
  omega
theorem repL_len (zs : List AV) : ∀ k, (repL zs k).length = k * zs.length
  | 0 => by simp [repL]
  | k + 1 => by rw [repL, List.length_append, repL_len zs k, Nat.succ_mul, Nat.add_comm]
theorem repL_all {zs : List AV} (h : zs.all oneCell = true) : ∀ k, (repL zs k).all oneCell = true
  | 0 => by simp [repL]
  | k + 1 => by rw [repL, List.all_append, h, repL_all h k]; rfl
def DeleteFC (T : Nat) (P : RM → Prop) (p : Ent → Bool) (fv : AV) (c : CallT) : Prop := ∀ {M : RM} {base : Nat} {v : AV} {xs : List Ent} {Q : PostV}, P M → (∀ M M' ks, P M → Keep ks M M' → (∀ d ∈ ks, d ∈ blkOf v) → P M') → Ow EntE M base T v xs → xs.length ≤ 60000 →
  (∀ v' M', Sl EntE M' v' (xs.filter fun x => !p x) → (∀ d ∈ blkOf v', d ∈ blkOf v) → Keep (blkOf v) M M' → Q v' M') → c [v, fv] M Q
theorem deleteF_spec {T TE : Nat} {P : RM → Prop} {p : Ent → Bool} {fv : AV} {cv : FuncId → CallT} {ci : CallT} (hi : IndexFC P p fv ci) (hp : PredC P p (callV cv fv)) : DeleteFC T P p fv fun args M Q => ∃ a0 a1, args = [a0, a1] ∧ W_slices_DeleteFunc_rolodex_api_Entry_rolodex_api_Entry ci TE cv a0 a1 M Q := by
  intro M base v xs Q hP hPk ho hl hQ
  refine ⟨_, _, rfl, ?_⟩
  unfold W_slices_DeleteFunc_rolodex_api_Entry_rolodex_api_Entry
  simp only [joinW_shut]
  have hs : Sl EntE M v xs := ho.slR
  refine hi hP (fun M M' h k => hPk M M' [] h k (by simp)) hs (by omega) (fun hn M1 k1 => ?_) (fun i hlt hpi hm M1 k1 => ?_)
  · rw [intW_eql, show ((-1 : Int) == -1) = true from rfl, condT]
    have e : (xs.filter fun x => !p x) = xs := List.filter_eq_self.2 fun x hx => by
      have := List.any_eq_false.1 hn x hx
      simpa using this
    exact hQ v M1 (by rw [e]; exact SlR.keep hs k1 (by simp)) (fun d hd => hd) (k1.mono (by simp))
  rw [intW_eql, show ((i : Int) == -1) = false by rw [beq_eq_false_iff_ne]; omega, condF, add1 (by omega)]
  obtain ⟨b, rfl, h1, h2, h3, h4⟩ := Own.op_pos ho (by omega)
  have hsz : xs.toArray.size = xs.length := by simp
  have hat : At EntE T b xs.toArray M := ⟨by rw [h3], h2⟩
  have hel : ∀ j (h : j < xs.length), xs.toArray[j]! = xs[j] := fun j h => by rw [bang (by simpa using h)]; simp
  have hpre0 : xs.toArray.toList.take i = (xs.take (i + 1)).filter fun x => !p x := by
    rw [List.take_succ_eq_append_getElem hlt, List.filter_append, List.filter_eq_self.2 fun x hx => by simpa using hm x hx]
    simp [hpi]
  refine loopW_ind (fun m ys M3 => ∃ (k j : Nat) (d : Array Ent), m = xs.length - j ∧ ys = [N .i64 (k : Int), N .i64 (j : Int)] ∧ j ≤ xs.length ∧ k < j ∧ At EntE T b d M3 ∧ Keep [b] M M3 ∧ d.size = xs.length ∧ d.toList.take k = (xs.take j).filter (fun x => !p x) ∧ ∀ q (h : q < xs.length), j ≤ q → d[q]! = xs[q]) _
    ⟨i, i + 1, xs.toArray, rfl, rfl, by omega, by omega, hat.keep k1, k1.mono (by simp), hsz, hpre0, fun q h _ => hel q h⟩ ?_
  rintro next m ys M3 hnext ⟨k, j, d, rfl, rfl, hj, hkj, h3', k3, hds, hpre, hold⟩
  dsimp only [nthD]
  have lenV : ∀ K : AV → Prop, lenW (AV.slc b 0 xs.length (.op EntE.size)) K = K (N .i64 (xs.length : Int)) := fun K => by simp [lenW_slc]
  rw [lenV, lssN]
  have e5 : EntE.size = 5 := rfl
  rw [e5] at *
  refine condB (fun hlt2 => ?_) (fun hge2 => ?_)
  · have hlt2 : j < xs.length := of_decide_eq_true hlt2
    refine joinV_spec (fun zs M' => ∃ (k' : Nat) (d' : Array Ent), zs = [N .i64 (k' : Int)] ∧ k' < j + 1 ∧ At EntE T b d' M' ∧ Keep [b] M M' ∧ d'.size = xs.length ∧ d'.toList.take k' = (xs.take (j + 1)).filter (fun x => !p x) ∧ ∀ q (h : q < xs.length), j + 1 ≤ q → d'[q]! = xs[q]) ?_ ?_
    · rintro zs M' ⟨k', d', rfl, c1, c2, c3, c4, c5, c6⟩
      dsimp only [nthD]
      rw [add1 (by omega)]
      exact hnext _ _ _ (by omega) ⟨k', j + 1, d', rfl, rfl, by omega, c1, c2, c3, c4, c5, c6⟩
    intro J hJ
    rw [h3'.rd (z := 5) rfl hds.symm (by omega), hold j hlt2 (Nat.le_refl _), newW_eq, storeW_all (n := 5) (x := .agg (EntE.cells xs[j])) (l := [(N .i64 0), (N .u64 0), (St []), (St []), (St [])]) (RM.push_new _) rfl rfl rfl]
    have k4 : Keep [] M3 ((M3.push (.row [(N .i64 0), (N .u64 0), (St []), (St []), (St [])] false TE 0)).put M3.next (.row (AV.agg (EntE.cells xs[j])).cells false TE 0)) := ((Keep.refl _ _).push _).new _ (Nat.le_refl _)
    have hk4 : ((M3.push (.row [(N .i64 0), (N .u64 0), (St []), (St []), (St [])] false TE 0)).put M3.next (.row (AV.agg (EntE.cells xs[j])).cells false TE 0)).heap M3.next = some (.row (EntE.cells xs[j]) false TE 0) := heap_put_eq _
    have hn4 : M3.next < ((M3.push (.row [(N .i64 0), (N .u64 0), (St []), (St []), (St [])] false TE 0)).put M3.next (.row (AV.agg (EntE.cells xs[j])).cells false TE 0)).next := by simp [RM.push, RM.put]
    generalize (M3.push (.row [(N .i64 0), (N .u64 0), (St []), (St []), (St [])] false TE 0)).put M3.next (.row (AV.agg (EntE.cells xs[j])).cells false TE 0) = M4 at *
    generalize M3.next = s at *
    rw [loadN_at (n := 5) hk4 rfl]
    have kk4 : Keep [b] M M4 := k3.trans (k4.mono (cs := [b]) (by simp))
    have hP4 : P M4 := hPk M M4 [b] hP kk4 (by simp [blkOf])
    refine hp hP4 fun M5 k5 => ?_
    have kk5 : Keep [b] M M5 := kk4.trans (k5.mono (cs := [b]) (by simp))
    have hat5 := h3'.keep (k4.trans k5)
    have hflt : (xs.take (j + 1)).filter (fun x => !p x) = if p xs[j] then (xs.take j).filter (fun x => !p x) else (xs.take j).filter (fun x => !p x) ++ [xs[j]] := by
      rw [List.take_succ_eq_append_getElem hlt2, List.filter_append]
      by_cases hpj : p xs[j] = true <;> simp [hpj]
    rw [notW_Bo]
    refine condB (fun hn => ?_) (fun hn => ?_)
    · have hpj : p xs[j] = false := by simpa using hn
      rw [loadN_at (n := 5) (k5.heap_of hk4 hn4 (by simp)) rfl, At.idx (by omega)]
      refine hat5.st (z := 5) rfl (by omega) fun M6 h6 k6 _ => ?_
      rw [add1 (by omega)]
      refine hJ _ _ ⟨k + 1, _, rfl, by omega, h6, kk5.trans k6, by simpa using hds, ?_, fun q h hq => ?_⟩
      · have hkl : k < d.toList.length := by rw [Array.length_toList]; omega
        rw [hflt, hpj, ← hpre, Array.toList_setIfInBounds, List.take_succ_eq_append_getElem (by rw [List.length_set]; exact hkl), List.getElem_set_self, List.take_set_of_le (Nat.le_refl _)]
        rfl
      · rw [← hold q h (by omega), bang (by rw [Array.size_setIfInBounds]; omega), bang (by omega), Array.getElem_setIfInBounds_ne (by omega) (by omega)]
    · have hpj : p xs[j] = true := by simpa using hn
      exact hJ _ _ ⟨k, d, rfl, by omega, hat5, kk5, hds, by rw [hflt, hpj]; exact hpre, fun q h hq => hold q h (by omega)⟩
  · have hj2 : j = xs.length := by
      have : ¬ j < xs.length := of_decide_eq_false hge2
      omega
    subst hj2
    rw [List.take_length] at hpre
    have hrl : (EntE.row d.toList).length = xs.length * 5 := by rw [Enc.row_len, Array.length_toList, hds]; rfl
    have hst : M3.stores b (0 + k * 5) (repL [(N .i64 0), (N .u64 0), (St []), (St []), (St [])] (xs.length - k)) = some (M3.put b (.row ((EntE.row d.toList).take (0 + k * 5) ++ repL [(N .i64 0), (N .u64 0), (St []), (St []), (St [])] (xs.length - k) ++ (EntE.row d.toList).drop (0 + k * 5 + (repL [(N .i64 0), (N .u64 0), (St []), (St []), (St [])] (xs.length - k)).length)) true T 0)) := by
      refine RM.stores_row h3'.heap ?_ (Nat.zero_le _) (repL_all rfl _)
      rw [repL_len, hrl]
      show 0 + k * 5 + (xs.length - k) * 5 ≤ xs.length * 5
      omega
    rw [subS_from_op (by omega), getW_some]
    refine .inl ⟨_, _, _, _, _, rfl, hst, ?_⟩
    dsimp only
    rw [subS_to_z (by omega) (by omega), getW_some]
    have hlk : (xs.filter fun x => !p x).length = k := by rw [← hpre, List.length_take, Array.length_toList]; omega
    refine hQ _ _ ?_ (fun e he => by simpa [blkOf] using he) ?_
    · have hrow : ((EntE.row d.toList).take (0 + k * 5)) = EntE.row (xs.filter fun x => !p x) := by
        rw [← hpre, show 0 + k * 5 = k * EntE.size by show 0 + k * 5 = k * 5; omega, Enc.row_take]
      show SlR _ 5 (.slc b 0 k (.op 5)) (EntE.row (xs.filter fun x => !p x)) (xs.filter fun x => !p x).length
      rw [hlk]
      refine .slc _ _ _ _ _ h3'.lt ?_
      have hl : (EntE.row (xs.filter fun x => !p x)).length = k * 5 := by rw [Enc.row_len, hlk]; rfl
      rw [RM.loads_row (heap_put_eq _) (by rw [hrow]; simp [hl]), List.drop_zero, hrow, List.append_assoc, List.take_left' hl]
    · have : Keep [b] M3 (M3.put b (.row ((EntE.row d.toList).take (0 + k * 5) ++ repL [(N .i64 0), (N .u64 0), (St []), (St []), (St [])] (xs.length - k) ++ (EntE.row d.toList).drop (0 + k * 5 + (repL [(N .i64 0), (N .u64 0), (St []), (St []), (St [])] (xs.length - k)).length)) true T 0)) := (Keep.refl _ _).put _ (.inr (by simp))
      simpa [blkOf] using k3.trans this
def EvAt (TE : Nat) (b : Nat) (e : EvT) (kv : AV) (ks : List Dot) (M : RM) : Prop := b < M.next ∧ M.heap b = some (.row (evRow e kv) false TE 0) ∧ Sl DotE M kv ks
theorem EvAt.keep {TE b : Nat} {e : EvT} {kv : AV} {ks : List Dot} {M M' : RM} {bs : List Nat} (h : EvAt TE b e kv ks M) (k : Keep bs M M') (hb : b ∉ bs) (hk : ∀ d ∈ blkOf kv, d ∉ bs) : EvAt TE b e kv ks M' := by
  obtain ⟨h1, h2, h3⟩ := h
  exact ⟨Nat.lt_of_lt_of_le h1 k.next, k.heap_of h2 h1 hb, SlR.keep h3 k hk⟩
theorem apply1_spec {TE T b : Nat} {e : EvT} {kv : AV} {ks : List Dot} {cc : CallT} (hc : ContainsDC cc) (hl : ks.length ≤ 1000000) {M : RM} {x : Ent} {Q : PostV} (hP : EvAt TE b e kv ks M) (hQ : ∀ M', Keep [] M M' → Q (Bo (decide (x.1 ∈ ks))) M') :
    ∃ a0 a1, [AV.agg (EntE.cells x), .ptr b 0] = [a0, a1] ∧ W_rolodex_crdt_State_Apply_1 T cc a0 a1 M Q := by
  obtain ⟨h1, h2, h3⟩ := hP
  refine ⟨_, _, rfl, ?_⟩
  unfold W_rolodex_crdt_State_Apply_1
  rw [boxW_agg rfl (by rw [EntE.len]; decide), newW_eq]
  have k0 : Keep [] M (M.push (.row (EntE.cells x) false T 0)) := (Keep.refl _ _).push _
  have hx : (M.push (.row (EntE.cells x) false T 0)).heap M.next = some (.row (EntE.cells x) false T 0) := RM.push_new _
  have h2' := k0.heap_of h2 h1 (by simp)
  have h3' : Sl DotE (M.push (.row (EntE.cells x) false T 0)) kv ks := SlR.keep h3 k0 (by simp)
  generalize M.push (.row (EntE.cells x) false T 0) = M1 at *
  generalize M.next = s at *
  have e2 : ((EntE.cells x).drop 0).take 2 = dcells x.1 := rfl
  have ld : ∀ K : AV → Prop, loadN M1 (.ptr s 0) 2 K = K (.agg (dcells x.1)) := fun K => by
    rw [loadN_ptr, RM.loads_row hx (by rw [EntE.len]; decide), e2]
    simp
  rw [fld0, load1_at h2' rfl, fld0, ld]
  exact hc h3' hl fun M' k => hQ M' (k0.trans k)
theorem ent_eq (a b : Ent) : flatEq [1, 1, 2, 2, 2] (EntE.cells a) (EntE.cells b) = some (decide (a = b)) := by
  obtain ⟨⟨d, n⟩, x, y, z⟩ := a
  obtain ⟨⟨d', n'⟩, x', y', z'⟩ := b
  show flatEq [1, 1, 2, 2, 2] [N .i64 d, N .u64 (n : Int), St x, St y, St z] [N .i64 d', N .u64 (n' : Int), St x', St y', St z'] = _
  simp only [flatEq_int, flatEq_str, flatEq_nil]
  by_cases h1 : d = d' <;> by_cases h2 : n = n' <;> by_cases h3 : x = x' <;> by_cases h4 : y = y' <;> by_cases h5 : z = z' <;> simp [h1, h2, h3, h4, h5]
  all_goals omega
def EqualEC (c : CallT) : Prop := ∀ {M : RM} {v w : AV} {xs ys : List Ent} {Q : PostV}, Sl EntE M v xs → Sl EntE M w ys → xs.length ≤ 1000000 → Q (Bo (decide (xs = ys))) M → c [v, w] M Q
theorem equalE_spec : EqualEC fun args M Q => ∃ a0 a1, args = [a0, a1] ∧ W_slices_Equal_rolodex_api_Entry_rolodex_api_Entry a0 a1 M Q := by
  intro M v w xs ys Q h1 h2 hl hQ
  refine ⟨_, _, rfl, ?_⟩
  unfold W_slices_Equal_rolodex_api_Entry_rolodex_api_Entry
  rw [SlR.len h1, SlR.len h2, intW_neq, SlR.len h1]
  refine condB (fun hn => ?_) (fun hn => ?_)
  · have : ¬ xs = ys := fun e => by subst e; simp at hn
    rw [decide_eq_false this] at hQ
    exact hQ
  have hn : xs.length = ys.length := by
    simp only [bne_eq_false_iff_eq] at hn
    omega
  refine loopW_ind (fun m zs M3 => ∃ i : Nat, m = xs.length - i ∧ zs = [N .i64 (i : Int)] ∧ i ≤ xs.length ∧ M3 = M ∧ (xs = ys ↔ xs.drop i = ys.drop i)) _ ⟨0, rfl, rfl, Nat.zero_le _, rfl, Iff.rfl⟩ ?_
  rintro next m zs M3 hnext ⟨i, rfl, rfl, hi, rfl, hm⟩
  dsimp only [nthD]
  rw [lssN]
  refine condB (fun hlt => ?_) (fun hge => ?_)
  · have hlt : i < xs.length := of_decide_eq_true hlt
    rw [List.drop_eq_getElem_cons hlt, List.drop_eq_getElem_cons (show i < ys.length by omega), List.cons.injEq] at hm
    rw [ent_at h1 hlt, ent_at h2 (by omega), aggEqW_of rfl rfl (ent_eq _ _)]
    refine condB (fun he => ?_) (fun he => ?_)
    · have he : ¬ xs[i] = ys[i]'(by omega) := by simpa using he
      rw [decide_eq_false (fun e => he (hm.1 e).1)] at hQ
      exact hQ
    · have he : xs[i] = ys[i]'(by omega) := by simpa using he
      rw [add1 (by omega)]
      exact hnext _ _ _ (by omega) ⟨i + 1, rfl, rfl, by omega, rfl, hm.trans ⟨fun h => h.2, fun h => ⟨he, h⟩⟩⟩
  · have he : i = xs.length := by
      have : ¬ i < xs.length := of_decide_eq_false hge
      omega
    subst he
    rw [List.drop_length, hn, List.drop_length] at hm
    rw [decide_eq_true (hm.2 rfl)] at hQ
    exact hQ
end Go.Ab.Crw
set_option maxRecDepth 10000
set_option linter.unusedVariables false
set_option linter.unusedSimpArgs false
namespace Go.Ab.Dot
open Go Go.Ab
theorem repL_add : ∀ (a b : Nat), repL [N .u64 0] (a + b) = repL [N .u64 0] a ++ repL [N .u64 0] b
  | 0, b => by simp [repL]
  | a + 1, b => by rw [show a + 1 + b = (a + b) + 1 by omega, repL, repL, repL_add a b]; simp
theorem fill_app {M : RM} {b T k : Nat} {ps ys : List Nat} {u : AV} {zs : List AV} {K : PostV} (hb : M.heap b = some (.row (U64.row ps ++ repL [N .u64 0] k) true T 0)) (hu : Sl U64 M u ys) (hk : ys.length ≤ k) (hl : ys.length ≤ 1000000)
    (hK : ∀ M', M'.heap b = some (.row (U64.row (ps ++ ys) ++ repL [N .u64 0] (k - ys.length)) true T 0) → Keep [b] M M' → M'.next = M.next → K (.slc b 0 (ps ++ ys).length (.op 1)) M') :
    appW T 1 8 zs false (.slc b 0 ps.length (.op 1)) u M K := by
  have hn := SlR.newL hu zs
  have hrl : (U64.row ys).length = ys.length := by rw [Enc.row_len]; simp [U64]
  have hpl : (U64.row ps).length = ps.length := by rw [Enc.row_len]; simp [U64]
  refine ⟨ys.length, U64.row ys, hn, by omega, by omega, ?_⟩
  by_cases h0 : ys.length = 0
  · have : ys = [] := List.length_eq_zero_iff.1 h0
    subst this
    refine ⟨.slc b 0 ps.length (.op 1), M, by simp [appM], ?_⟩
    have := hK M (by simpa using hb) (Keep.refl _ _) rfl
    simpa using this
  · have hfit : 0 + (ps.length + ys.length) * 1 ≤ (U64.row ps ++ repL [N .u64 0] k).length := by
      rw [List.length_append, hpl, (repL_one k).1]; omega
    refine ⟨.slc b 0 (ps.length + ys.length) (.op 1), M.put b (.row (U64.row (ps ++ ys) ++ repL [N .u64 0] (k - ys.length)) true T 0), ?_, ?_⟩
    · simp only [appM, if_neg h0, hb]
      rw [if_pos (by simp), if_pos hfit, RM.stores_of hb, storesL_some (by rw [hrl, List.length_append, hpl, (repL_one k).1]; omega) (by omega) (U64.row_all ys)]
      simp only [Option.map_some]
      congr 4
      rw [Enc.row_append]
      have e1 : (U64.row ps ++ repL [N .u64 0] k).take (0 + ps.length * 1) = U64.row ps := by rw [List.take_left' (by omega)]
      have e2 : (U64.row ps ++ repL [N .u64 0] k).drop (0 + ps.length * 1 + (U64.row ys).length) = repL [N .u64 0] (k - ys.length) := by
        have : k = ys.length + (k - ys.length) := by omega
        rw [show repL [N .u64 0] k = repL [N .u64 0] ys.length ++ repL [N .u64 0] (k - ys.length) by rw [← repL_add]; congr 1, ← List.append_assoc, List.drop_left' (by rw [List.length_append, hpl, (repL_one _).1, hrl]; omega)]
      rw [e1, e2]
    · have := hK _ (heap_put_eq _) ((Keep.refl _ _).put _ (.inr (by simp))) rfl
      rw [List.length_append] at this
      exact this
def ConcatC (T : Nat) (c : CallT) : Prop := ∀ {M : RM} {bb TS : Nat} {v w : AV} {xs ys : List Nat} {Q : PostV}, M.heap bb = some (.row [v, w] false TS 0) → bb < M.next → Sl U64 M v xs → Sl U64 M w ys → xs.length ≤ 1000000 → ys.length ≤ 1000000 →
  (∀ r M', Ow U64 M' M.next T r (xs ++ ys) → Keep [] M M' → Q r M') → c [.slc bb 0 2 (.ex 2)] M Q
theorem concat_spec {TS T : Nat} {cg : CallT} (hg : GrowC T cg) : ConcatC T fun args M Q => ∃ a0, args = [a0] ∧ W_slices_Concat_uint64_uint64 TS cg T a0 M Q := by
  intro M bb TB v w xs ys Q hb hbl hv hw hx hy hQ
  refine ⟨_, rfl, ?_⟩
  unfold W_slices_Concat_uint64_uint64
  simp only [joinW_eq]
  have at0 : ∀ K : AV → Prop, idxS (.slc bb 0 2 (.ex 2)) (N .i64 ((0 : Nat) : Int)) 1 K = K (.ptr bb 0) := fun K => by
    rw [idxS_slc]; exact propext ⟨fun h => h.2.2, fun h => ⟨by decide, by decide, h⟩⟩
  have at1 : ∀ K : AV → Prop, idxS (.slc bb 0 2 (.ex 2)) (N .i64 ((1 : Nat) : Int)) 1 K = K (.ptr bb 1) := fun K => by
    rw [idxS_slc]; exact propext ⟨fun h => h.2.2, fun h => ⟨by decide, by decide, h⟩⟩
  rw [lenW_slc]
  have len3 : ∀ (p0 : Nat), p0 = 0 ∨ p0 = xs.length ∨ p0 = xs.length + ys.length → True := fun _ _ => trivial
  refine loopW_ind (fun m zs M3 => ∃ i : Nat, m = 2 - i ∧ i ≤ 2 ∧ zs = [N .i64 ((if i = 0 then 0 else if i = 1 then xs.length else xs.length + ys.length : Nat) : Int), N .i64 (i : Int)] ∧ M3 = M) _ ⟨0, rfl, by omega, rfl, rfl⟩ ?_
  rintro next m zs M3 hnext ⟨i, rfl, hi, rfl, rfl⟩
  dsimp only [nthD]
  rw [intW_lss]
  obtain rfl | rfl | rfl : i = 0 ∨ i = 1 ∨ i = 2 := by omega
  · rw [show decide (((0 : Nat) : Int) < ((2 : Nat) : Int)) = true from rfl, condT, at0, load1_at hb rfl, SlR.len hv]
    simp only [if_true]
    rw [intW_add, show ((0 : Nat) : Int) + (xs.length : Int) = (xs.length : Int) by omega, wrap_i64_id (by omega) (by omega), intW_lss, show decide ((xs.length : Int) < 0) = false by simp, condF, intW_add, i64_succ (by omega)]
    exact hnext _ _ _ (by omega) ⟨1, rfl, by omega, rfl, rfl⟩
  · rw [show decide (((1 : Nat) : Int) < ((2 : Nat) : Int)) = true from rfl, condT, at1, load1_at hb rfl, SlR.len hw]
    simp only [if_true, show ¬ (1 : Nat) = 0 by omega, if_false]
    rw [intW_add, show (xs.length : Int) + (ys.length : Int) = ((xs.length + ys.length : Nat) : Int) by omega, wrap_i64_id (by omega) (by omega), intW_lss, show decide (((xs.length + ys.length : Nat) : Int) < 0) = false by simp; omega, condF, intW_add, i64_succ (by omega)]
    exact hnext _ _ _ (by omega) ⟨2, rfl, by omega, rfl, rfl⟩
  · rw [show decide (((2 : Nat) : Int) < ((2 : Nat) : Int)) = false from rfl, condF]
    simp only [show ¬ (2 : Nat) = 0 by omega, show ¬ (2 : Nat) = 1 by omega, if_false]
    refine hg (by omega) (fun h0 => ?_) (fun hpos b M4 hb0 hb1 hrow k4 => ?_)
    · -- nothing
      have e1 : xs = [] := List.length_eq_zero_iff.1 (by omega)
      have e2 : ys = [] := List.length_eq_zero_iff.1 (by omega)
      subst e1 e2
      rw [lenW_slc]
      refine loopW_ind (fun m zs M5 => ∃ i : Nat, m = 2 - i ∧ i ≤ 2 ∧ zs = [nilS, N .i64 (i : Int)] ∧ M5 = M3) _ ⟨0, rfl, by omega, rfl, rfl⟩ ?_
      rintro next2 m zs M5 hnext2 ⟨i, rfl, hi, rfl, rfl⟩
      dsimp only [nthD]
      rw [intW_lss]
      have app : ∀ (u : AV) (K : PostV), Sl U64 M5 u [] → K nilS M5 → appW T 1 8 [N .u64 0] false nilS u M5 K := fun u K hu hK => by
        refine ⟨0, [], ?_, by omega, by omega, nilS, M5, by simp [appM], hK⟩
        exact SlR.newL hu _
      obtain rfl | rfl | rfl : i = 0 ∨ i = 1 ∨ i = 2 := by omega
      · rw [show decide (((0 : Nat) : Int) < ((2 : Nat) : Int)) = true from rfl, condT, at0, load1_at hb rfl]
        refine app _ _ hv ?_
        rw [intW_add, i64_succ (by omega)]
        exact hnext2 _ _ _ (by omega) ⟨1, rfl, by omega, rfl, rfl⟩
      · rw [show decide (((1 : Nat) : Int) < ((2 : Nat) : Int)) = true from rfl, condT, at1, load1_at hb rfl]
        refine app _ _ hw ?_
        rw [intW_add, i64_succ (by omega)]
        exact hnext2 _ _ _ (by omega) ⟨2, rfl, by omega, rfl, rfl⟩
      · rw [show decide (((2 : Nat) : Int) < ((2 : Nat) : Int)) = false from rfl, condF]
        exact hQ nilS M5 .nil (Keep.refl _ _)
    · rw [lenW_slc]
      have hbb : bb ≠ b := by omega
      refine loopW_ind (fun m zs M5 => ∃ i : Nat, m = 2 - i ∧ i ≤ 2 ∧ zs = [.slc b 0 (if i = 0 then ([] : List Nat) else if i = 1 then xs else xs ++ ys).length (.op 1), N .i64 (i : Int)] ∧ Keep [b] M4 M5 ∧ M5.next = M4.next ∧
          M5.heap b = some (.row (U64.row (if i = 0 then [] else if i = 1 then xs else xs ++ ys) ++ repL [N .u64 0] (xs.length + ys.length - (if i = 0 then ([] : List Nat) else if i = 1 then xs else xs ++ ys).length)) true T 0)) _
        ⟨0, rfl, by omega, rfl, Keep.refl _ _, rfl, by simpa [Enc.row] using hrow⟩ ?_
      rintro next2 m zs M5 hnext2 ⟨i, rfl, hi, rfl, k5, n5, hrow5⟩
      dsimp only [nthD]
      rw [intW_lss]
      have hb4 := k4.heap_of hb hbl (by simp)
      have hb5 := k5.heap_of hb4 (by omega) (by simp; exact hbb)
      have hv5 : Sl U64 M5 v xs := SlR.keep (SlR.keep hv k4 (by simp)) k5 (fun d hd hm => by have := SlR.lt hv d hd; simp at hm; omega)
      have hw5 : Sl U64 M5 w ys := SlR.keep (SlR.keep hw k4 (by simp)) k5 (fun d hd hm => by have := SlR.lt hw d hd; simp at hm; omega)
      obtain rfl | rfl | rfl : i = 0 ∨ i = 1 ∨ i = 2 := by omega
      · rw [show decide (((0 : Nat) : Int) < ((2 : Nat) : Int)) = true from rfl, condT, at0, load1_at hb5 rfl]
        simp only [if_true] at hrow5 ⊢
        refine fill_app hrow5 hv5 (by simp) hx fun M6 hrow6 k6 n6 => ?_
        rw [intW_add, i64_succ (by omega)]
        refine hnext2 _ _ _ (by omega) ⟨1, rfl, by omega, by simp, k5.trans k6, n6.trans n5, ?_⟩
        simp at hrow6 ⊢
        exact hrow6
      · rw [show decide (((1 : Nat) : Int) < ((2 : Nat) : Int)) = true from rfl, condT, at1, load1_at hb5 rfl]
        simp only [if_true, show ¬ (1 : Nat) = 0 by omega, if_false] at hrow5 ⊢
        refine fill_app hrow5 hw5 (by omega) hy fun M6 hrow6 k6 n6 => ?_
        rw [intW_add, i64_succ (by omega)]
        refine hnext2 _ _ _ (by omega) ⟨2, rfl, by omega, by simp, k5.trans k6, n6.trans n5, ?_⟩
        simp at hrow6 ⊢
        exact hrow6
      · rw [show decide (((2 : Nat) : Int) < ((2 : Nat) : Int)) = false from rfl, condF]
        simp only [show ¬ (2 : Nat) = 0 by omega, show ¬ (2 : Nat) = 1 by omega, if_false, List.length_append, Nat.sub_self, repL, List.append_nil] at hrow5 ⊢
        refine hQ _ M5 ?_ (k4.then_new k5 (by simp; omega))
        rw [Ow, List.length_append]
        exact .op b _ _ (by omega) (by omega) hrow5 (by rw [Enc.row_len, List.length_append])
end Go.Ab.Dot
set_option maxRecDepth 10000
set_option linter.unusedVariables false
set_option linter.unusedSimpArgs false
namespace Go.Ab.Dot
open Go Go.Ab
theorem SetH.put {T i u a : Nat} {S S' : Nat → Prop} {M M' : RM} {ps : List Pt} {l : List AV} {v' : AV} {xs : List Nat} {ks : List Nat} (h : SetH T S M a ps) (hl : M.heap a = some (.row l false T 0)) (hi : i < 16)
    (hb : M'.heap a = some (.row ((l.set (2 * i) (N .u64 (u : Int))).set (2 * i + 1) v') false T 0)) (hk : Keep ks M M') (hks : ∀ d ∈ ks, d = a ∨ ¬ S d) (hs : Sl U64 M' v' xs) (hc : capOk v') (hv : ∀ d ∈ blkOf v', S' d) (hS : ∀ d, S d → S' d) (ha : ¬ S' a) : SetH T S' M' a (ps.set i (u, xs)) := by
  obtain ⟨l0, h1, h2, h3⟩ := h.row
  rw [hl] at h1
  obtain rfl : l = l0 := by simpa using h1
  refine ⟨Nat.lt_of_lt_of_le h.lt hk.next, by rw [List.length_set]; exact h.len, ⟨_, hb, by simp [h2], fun j hj => ?_⟩, ha⟩
  have hj' : j < ps.length := by rw [List.length_set] at hj; exact hj
  have hj16 : j < 16 := by rw [← h.len]; exact hj'
  by_cases hji : j = i
  · subst hji
    refine ⟨v', ?_, ?_, ?_, hc, hv⟩
    · rw [List.getElem?_set_ne (by omega), List.getElem?_set_self (by omega), List.getElem_set_self]
    · rw [List.getElem?_set_self (by simp; omega)]
    · rw [List.getElem_set_self]; exact hs
  · obtain ⟨w, b1, b2, b3, b4, b5⟩ := h3 j hj'
    refine ⟨w, ?_, ?_, ?_, b4, fun d hd => hS d (b5 d hd)⟩
    · rw [List.getElem?_set_ne (by omega), List.getElem?_set_ne (by omega), List.getElem_set_ne (Ne.symm hji)]; exact b1
    · rw [List.getElem?_set_ne (by omega), List.getElem?_set_ne (by omega)]; exact b2
    · rw [List.getElem_set_ne (Ne.symm hji)]
      refine SlR.keep b3 hk fun d hd hm => ?_
      rcases hks d hm with rfl | h'
      · exact h.nb (b5 d hd)
      · exact h' (b5 d hd)
def joinPt (f g : List Nat → List Nat) (p q : Pt) : Pt := settle (max p.1 q.1) (g (f (p.2 ++ q.2)))
def joinT (f g : List Nat → List Nat) (ps qs : List Pt) : Nat → List Pt
  | 0 => ps
  | i + 1 => (joinT f g ps qs i).set i (joinPt f g (ps.getD i (0, [])) (qs.getD i (0, [])))
theorem joinT_ge {f g : List Nat → List Nat} {ps qs : List Pt} : ∀ {i j : Nat}, i ≤ j → (joinT f g ps qs i).getD j (0, []) = ps.getD j (0, [])
  | 0, j, _ => rfl
  | i + 1, j, h => by rw [joinT, getD_set_ne (by omega), joinT_ge (by omega)]
def JoinC (P : List Nat → Prop) (P2 : List Nat → Prop) (f g : List Nat → List Nat) (T : Nat) (c : CallT) : Prop := ∀ {M : RM} {a b : Nat} {ps qs : List Pt} {S S' : Nat → Prop} {Q : PostV}, SetH T S M a ps → SetH T S' M b qs → (a = b → ps = qs) → ¬ S' a →
  (∀ i, i < 16 → P ((ps.getD i (0, [])).2 ++ (qs.getD i (0, [])).2) ∧ P2 (f ((ps.getD i (0, [])).2 ++ (qs.getD i (0, [])).2))) → (∀ p ∈ ps, p.1 ≤ 4398046511104 ∧ p.2.length ≤ 100000) → (∀ p ∈ qs, p.1 ≤ 4398046511104 ∧ p.2.length ≤ 100000) →
  (∀ i, i < 16 → (g (f ((ps.getD i (0, [])).2 ++ (qs.getD i (0, [])).2))).length ≤ 1000000 ∧ ∀ x ∈ g (f ((ps.getD i (0, [])).2 ++ (qs.getD i (0, [])).2)), x ≤ 4398046511104) →
  (∀ M', SetH T (fun e => S e ∨ M.next ≤ e) M' a (joinT f g ps qs 16) → Keep [a] M M' → Q (.tup []) M') → c [.ptr a 0, .ptr b 0] M Q
theorem getD_all {ps : List Pt} {R : Pt → Prop} (h : ∀ p ∈ ps, R p) (h0 : R (0, [])) (i : Nat) : R (ps.getD i (0, [])) := by
  rw [List.getD_eq_getElem?_getD]
  by_cases hj : i < ps.length
  · rw [List.getElem?_eq_getElem hj]; exact h _ (List.getElem_mem hj)
  · rw [List.getElem?_eq_none (by omega)]; exact h0
theorem join_spec {TS TP TL TU : Nat} {P P2 : List Nat → Prop} {f g : List Nat → List Nat} {cc cs ck ct : CallT} (hc : ConcatC TU cc) (hs : SortC P f TU cs) (hk : CompactC P2 g TU ck) (ht : SettledC ct) :
    JoinC P P2 f g TS fun args M Q => ∃ a0 a1, args = [a0, a1] ∧ W_rolodex_dot_Set_Join TP TL cc cs ck ct a0 a1 M Q := by
  intro M a b ps qs S S' Q hA hB hab hSa hP hbp hbq hres hQ
  refine ⟨_, _, rfl, ?_⟩
  unfold W_rolodex_dot_Set_Join
  have hal := hA.lt
  have hbl := hB.lt
  refine loopW_ind (fun m ys M3 => ∃ (i : Nat), m = 16 - i ∧ ys = [N .i64 (i : Int)] ∧ i ≤ 16 ∧ Keep [a] M M3 ∧ SetH TS (fun e => S e ∨ M.next ≤ e) M3 a (joinT f g ps qs i)) _
    ⟨0, rfl, rfl, Nat.zero_le _, Keep.refl _ _, hA.mono (fun e h => .inl h) (fun h => by rcases h with h | h; exact hA.nb h; omega)⟩ ?_
  rintro next m ys M3 hnext ⟨i, rfl, rfl, hi, k3, hA3⟩
  dsimp only [nthD]
  rw [intW_lss]
  refine condB (fun hlt => ?_) (fun hge => ?_)
  · have hlt : i < 16 := by
      have : (i : Int) < 16 := of_decide_eq_true hlt
      omega
    have n3 := k3.next
    -- the second set's part
    have hB3 : ∃ l w, M3.heap b = some (.row l false TS 0) ∧ l.length = 32 ∧ l[2 * i]? = some (N .u64 ((qs.getD i (0, [])).1 : Int)) ∧ l[2 * i + 1]? = some w ∧ Sl U64 M3 w (qs.getD i (0, [])).2 ∧ a ∉ blkOf w := by
      by_cases e : a = b
      · subst e
        have e2 := hab rfl
        obtain ⟨l, h1, h2, h3⟩ := hA3.row
        have hil : i < (joinT f g ps qs i).length := by rw [hA3.len]; exact hlt
        obtain ⟨w, b1, b2, b3, b4, b5⟩ := h3 i hil
        have hD := joinT_ge (f := f) (g := g) (ps := ps) (qs := qs) (Nat.le_refl i)
        rw [List.getD_eq_getElem?_getD, List.getElem?_eq_getElem hil, Option.getD_some] at hD
        rw [hD, e2] at b1
        rw [hD, e2] at b3
        exact ⟨l, w, h1, h2, b1, b2, b3, fun hm => hA3.nb (b5 a hm)⟩
      · obtain ⟨l, h1, h2, h3⟩ := hB.row
        have hil : i < qs.length := by rw [hB.len]; exact hlt
        obtain ⟨w, b1, b2, b3, b4, b5⟩ := h3 i hil
        have hD : qs.getD i (0, []) = qs[i] := by rw [List.getD_eq_getElem?_getD, List.getElem?_eq_getElem hil]; rfl
        rw [hD]
        exact ⟨l, w, k3.heap_of h1 hbl (by simp; exact fun h => e h.symm), h2, b1, b2, SlR.keep b3 k3 (fun d hd hm => by simp at hm; subst hm; exact hSa (b5 d hd)), fun hm => hSa (b5 a hm)⟩
    obtain ⟨lb, qw, hb3, hlb32, q1, q2, q3, q4⟩ := hB3
    obtain ⟨la, ha3, hla32, hrow⟩ := hA3.row
    have hil : i < (joinT f g ps qs i).length := by rw [hA3.len]; exact hlt
    obtain ⟨pw, p1, p2, p3, p4, p5⟩ := hrow i hil
    have hD := joinT_ge (f := f) (g := g) (ps := ps) (qs := qs) (Nat.le_refl i)
    rw [List.getD_eq_getElem?_getD, List.getElem?_eq_getElem hil, Option.getD_some] at hD
    rw [hD] at p1 p3
    have bp := getD_all hbp ⟨by decide, by decide⟩ i
    have bq := getD_all hbq ⟨by decide, by decide⟩ i
    obtain ⟨hPi, hP2i⟩ := hP i hlt
    obtain ⟨hr1, hr2⟩ := hres i hlt
    have hnext' : ∀ M', Keep [a] M M' → SetH TS (fun e => S e ∨ M.next ≤ e) M' a ((joinT f g ps qs i).set i (joinPt f g (ps.getD i (0, [])) (qs.getD i (0, [])))) → next [N .i64 ((i + 1 : Nat) : Int)] M' := fun M' k h => hnext _ _ _ (by omega) ⟨i + 1, rfl, rfl, by omega, k, h⟩
    generalize ps.getD i (0, []) = p at *
    generalize qs.getD i (0, []) = q at *
    obtain ⟨pu, px⟩ := p
    obtain ⟨qu, qx⟩ := q
    simp only [joinPt] at *
    rw [ptrW_ptr, fld0, idxA_ptr]
    refine ⟨by omega, by omega, ?_⟩
    rw [ptrW_ptr, fld0, idxA_ptr]
    refine ⟨by omega, by omega, ?_⟩
    rw [Int.toNat_natCast, Nat.zero_add, Nat.mul_comm i 2, loadN_ptr]
    have hcut : M3.loads b (2 * i) 2 = some [N .u64 (qu : Int), qw] := by
      rw [RM.loads_row hb3 (by omega)]
      obtain ⟨r1, r2⟩ := List.getElem?_eq_some_iff.1 q1
      obtain ⟨r3, r4⟩ := List.getElem?_eq_some_iff.1 q2
      rw [List.drop_eq_getElem_cons r1, List.drop_eq_getElem_cons r3, r2, r4]; rfl
    refine ⟨_, hcut, ?_⟩
    have hq1 := SlR.one q3
    rw [newR_eq, storeW_all (n := 2) (x := .agg [N .u64 (qu : Int), qw]) (l := [N .u64 0, .sc (.slice none 0 0)]) (RM.push_new _) rfl rfl (by simp [AV.cells, hq1]; rfl)]
    have k4 : Keep [] M3 ((M3.push (.row [N .u64 0, .sc (.slice none 0 0)] false TP 0)).put M3.next (.row (AV.agg [N .u64 (qu : Int), qw]).cells false TP 0)) := ((Keep.refl _ _).push _).new _ (Nat.le_refl _)
    have h4 : ((M3.push (.row [N .u64 0, .sc (.slice none 0 0)] false TP 0)).put M3.next (.row (AV.agg [N .u64 (qu : Int), qw]).cells false TP 0)).heap M3.next = some (.row [N .u64 (qu : Int), qw] false TP 0) := heap_put_eq _
    have n4 : ((M3.push (.row [N .u64 0, .sc (.slice none 0 0)] false TP 0)).put M3.next (.row (AV.agg [N .u64 (qu : Int), qw]).cells false TP 0)).next = M3.next + 1 := rfl
    generalize (M3.push (.row [N .u64 0, .sc (.slice none 0 0)] false TP 0)).put M3.next (.row (AV.agg [N .u64 (qu : Int), qw]).cells false TP 0) = M4 at *
    have hal3 := hA3.lt
    have ha4 := k4.heap_of ha3 hal3 (by simp)
    rw [ptrW_ptr, fldW_ptr, Nat.add_zero, load1_at ha4 p1, fld0, load1_at h4 rfl, minW_N, if_pos rfl, max_wrap, ptrW_ptr, fldW_ptr, Nat.add_zero, storeW_at ha4 (by omega) rfl rfl]
    have k5 : Keep [a] M4 (M4.put a (.row (la.set (2 * i) (N .u64 ((max pu qu : Nat) : Int))) false TS 0)) := (Keep.refl _ _).put _ (.inr (by simp))
    have ha5 : (M4.put a (.row (la.set (2 * i) (N .u64 ((max pu qu : Nat) : Int))) false TS 0)).heap a = some (.row (la.set (2 * i) (N .u64 ((max pu qu : Nat) : Int))) false TS 0) := heap_put_eq _
    have n5 : (M4.put a (.row (la.set (2 * i) (N .u64 ((max pu qu : Nat) : Int))) false TS 0)).next = M4.next := rfl
    generalize M4.put a (.row (la.set (2 * i) (N .u64 ((max pu qu : Nat) : Int))) false TS 0) = M5 at *
    have h5 := k5.heap_of h4 (by omega) (by simp; omega)
    have p2' : (la.set (2 * i) (N .u64 ((max pu qu : Nat) : Int)))[2 * i + 1]? = some pw := by rw [List.getElem?_set_ne (by omega)]; exact p2
    rw [ptrW_ptr, fldW_ptr, load1_at ha5 p2', fld0, load1_at h5 rfl]
    have hapw : a ∉ blkOf pw := fun hm => hA3.nb (p5 a hm)
    have k35 : Keep [a] M3 M5 := (k4.mono (by simp)).trans k5
    have sp5 : Sl U64 M5 pw px := SlR.keep p3 k35 (fun d hd hm => by simp at hm; subst hm; exact hapw hd)
    have sq5 : Sl U64 M5 qw qx := SlR.keep q3 k35 (fun d hd hm => by simp at hm; subst hm; exact q4 hd)
    have hw1 := SlR.one sp5
    have hwc := SlR.cells sp5
    have hqc := SlR.cells sq5
    refine ⟨[pw, qw], by simp [fillO, repL, hwc, hqc, hw1, hq1], ?_⟩
    dsimp only
    rw [newR_eq]
    have k6 : Keep [] M5 (M5.push (.row [pw, qw] false TL 0)) := (Keep.refl _ _).push _
    have h6 : (M5.push (.row [pw, qw] false TL 0)).heap M5.next = some (.row [pw, qw] false TL 0) := RM.push_new _
    have n6 : (M5.push (.row [pw, qw] false TL 0)).next = M5.next + 1 := rfl
    generalize M5.push (.row [pw, qw] false TL 0) = M6 at *
    refine hc h6 (by omega) (SlR.keep sp5 k6 (by simp)) (SlR.keep sq5 k6 (by simp)) (by have := bp.2; omega) (by have := bq.2; omega) fun r M7 ho7 k7 => ?_
    have n7 := k7.next
    have k57 := k6.trans k7
    have ha7 := k57.heap_of ha5 (by omega) (by simp)
    rw [ptrW_ptr, fldW_ptr, storeW_at ha7 (by simp; omega) ho7.cells ho7.one]
    have k8 : Keep [a] M7 (M7.put a (.row ((la.set (2 * i) (N .u64 ((max pu qu : Nat) : Int))).set (2 * i + 1) r) false TS 0)) := (Keep.refl _ _).put _ (.inr (by simp))
    have ha8 : (M7.put a (.row ((la.set (2 * i) (N .u64 ((max pu qu : Nat) : Int))).set (2 * i + 1) r) false TS 0)).heap a = some (.row ((la.set (2 * i) (N .u64 ((max pu qu : Nat) : Int))).set (2 * i + 1) r) false TS 0) := heap_put_eq _
    have n8 : (M7.put a (.row ((la.set (2 * i) (N .u64 ((max pu qu : Nat) : Int))).set (2 * i + 1) r) false TS 0)).next = M7.next := rfl
    generalize M7.put a (.row ((la.set (2 * i) (N .u64 ((max pu qu : Nat) : Int))).set (2 * i + 1) r) false TS 0) = M8 at *
    have har : a ∉ blkOf r := fun hm => by have := (ho7.blk a hm).1; omega
    have ho8 := ho7.keep k8 (fun d hd hm => by simp at hm; subst hm; exact har hd)
    have g1 : ((la.set (2 * i) (N .u64 ((max pu qu : Nat) : Int))).set (2 * i + 1) r)[2 * i + 1]? = some r := by rw [List.getElem?_set_self (by simp; omega)]
    have g0 : ((la.set (2 * i) (N .u64 ((max pu qu : Nat) : Int))).set (2 * i + 1) r)[2 * i]? = some (N .u64 ((max pu qu : Nat) : Int)) := by rw [List.getElem?_set_ne (by omega), List.getElem?_set_self (by omega)]
    rw [ptrW_ptr, fldW_ptr, load1_at ha8 g1]
    refine hs ho8 hPi fun M9 ho9 k9 => ?_
    have ha9 := k9.heap_of ha8 (by omega) har
    have n9 := k9.next
    rw [ptrW_ptr, fldW_ptr, load1_at ha9 g1]
    refine hk ho9 hP2i fun r' M10 s10 c10 b10 k10 => ?_
    have n10 := k10.next
    have ha10 := k10.heap_of ha9 (by omega) har
    have har' : a ∉ blkOf r' := fun hm => har (b10 a hm)
    rw [ptrW_ptr, fldW_ptr, storeW_to ((la.set (2 * i) (N .u64 ((max pu qu : Nat) : Int))).set (2 * i + 1) r') ha10 (by simp; omega) (SlR.cells s10) (SlR.one s10) (by rw [List.set_set])]
    have k11 : Keep [a] M10 (M10.put a (.row ((la.set (2 * i) (N .u64 ((max pu qu : Nat) : Int))).set (2 * i + 1) r') false TS 0)) := (Keep.refl _ _).put _ (.inr (by simp))
    have ha11 : (M10.put a (.row ((la.set (2 * i) (N .u64 ((max pu qu : Nat) : Int))).set (2 * i + 1) r') false TS 0)).heap a = some (.row ((la.set (2 * i) (N .u64 ((max pu qu : Nat) : Int))).set (2 * i + 1) r') false TS 0) := heap_put_eq _
    have n11 : (M10.put a (.row ((la.set (2 * i) (N .u64 ((max pu qu : Nat) : Int))).set (2 * i + 1) r') false TS 0)).next = M10.next := rfl
    generalize M10.put a (.row ((la.set (2 * i) (N .u64 ((max pu qu : Nat) : Int))).set (2 * i + 1) r') false TS 0) = M11 at *
    have s11 : Sl U64 M11 r' (g (f (px ++ qx))) := SlR.keep s10 k11 (fun d hd hm => by simp at hm; subst hm; exact har' hd)
    have g0' : ((la.set (2 * i) (N .u64 ((max pu qu : Nat) : Int))).set (2 * i + 1) r')[2 * i]? = some (N .u64 ((max pu qu : Nat) : Int)) := by rw [List.getElem?_set_ne (by omega), List.getElem?_set_self (by omega)]
    have g1' : ((la.set (2 * i) (N .u64 ((max pu qu : Nat) : Int))).set (2 * i + 1) r')[2 * i + 1]? = some r' := by rw [List.getElem?_set_self (by simp; omega)]
    refine ht ha11 g0' g1' s11 har' c10 hr1 (by have := bp.1; have := bq.1; omega) hr2 fun v' M12 ha12 s12 c12 b12 k12 n12 => ?_
    rw [intW_add, i64_succ (by omega)]
    have kr : ∀ d ∈ blkOf r, M.next ≤ d ∧ M3.next ≤ d := fun d hd => by have := (ho7.blk d hd).1; omega
    -- all that was changed: the set's block, and new ones
    have kAll : Keep [a] M3 M12 := by
      have w7 : Keep [a] M3 M7 := k35.trans (k57.mono (by simp))
      have w8 := w7.trans k8
      have w9 := w8.then_new k9 fun d hd => .inl (kr d hd).2
      have w10 := w9.then_new k10 fun d hd => .inl (kr d hd).2
      exact (w10.trans k11).trans k12
    refine hnext' M12 (k3.trans kAll) (hA3.put ha3 hlt ?_ kAll (fun d hd => .inl (by simpa using hd)) s12 c12 (fun d hd => .inr (kr d (b10 d (b12 d hd))).1) (fun d h => h) (fun h => by rcases h with h | h; exact hA.nb h; omega))
    rw [ha12]
    rw [List.set_comm (i := 2 * i + 1) (j := 2 * i) _ _ (by omega), List.set_set, List.set_set]
    rfl
  · have he : i = 16 := by
      have : ¬ (i : Int) < 16 := of_decide_eq_false hge
      omega
    subst he
    exact hQ M3 hA3 k3
theorem joinT_len {f g : List Nat → List Nat} {ps qs : List Pt} : ∀ i, (joinT f g ps qs i).length = ps.length
  | 0 => rfl
  | i + 1 => by rw [joinT, List.length_set, joinT_len i]
theorem joinT_lt {f g : List Nat → List Nat} {ps qs : List Pt} (hl : ps.length = 16) : ∀ {i j : Nat}, i ≤ 16 → j < i → (joinT f g ps qs i).getD j (0, []) = joinPt f g (ps.getD j (0, [])) (qs.getD j (0, []))
  | i + 1, j, hi, h => by
    rw [joinT]
    by_cases e : i = j
    · subst e
      rw [getD_set_self (by rw [joinT_len]; omega)]
    · rw [getD_set_ne e, joinT_lt hl (by omega) (by omega)]
end Go.Ab.Dot
set_option maxRecDepth 10000
set_option linter.unusedVariables false
set_option linter.unusedSimpArgs false
namespace Go.Ab.Dot
open Go Go.Ab
theorem hasP_iff {p : Pt} {x : Nat} : hasP p x = true ↔ (1 ≤ x ∧ x ≤ p.1) ∨ x ∈ p.2 := by
  unfold hasP
  simp only [Bool.or_eq_true, Bool.and_eq_true, decide_eq_true_eq]
theorem settle_has : ∀ (xs : List Nat) (u x : Nat), (∀ y ∈ xs, 1 ≤ y) → (hasP (settle u xs) x = true ↔ (1 ≤ x ∧ x ≤ u) ∨ x ∈ xs)
  | [], u, x, _ => by rw [hasP_iff]; simp [settle, settleK]
  | y :: xs, u, x, h => by
    by_cases hy : y ≤ u + 1
    · have e : settle u (y :: xs) = settle (max u y) xs := by
        unfold settle
        rw [settleK, if_pos hy]; rfl
      have h1 := h y (by simp)
      rw [e, settle_has xs (max u y) x (fun z hz => h z (by simp [hz])), List.mem_cons]
      constructor
      · rintro (⟨a, b⟩ | c)
        · by_cases hx : x ≤ u
          · exact .inl ⟨a, hx⟩
          · exact .inr (.inl (by omega))
        · exact .inr (.inr c)
      · rintro (⟨a, b⟩ | c | c)
        · exact .inl ⟨a, by omega⟩
        · exact .inl ⟨by omega, by omega⟩
        · exact .inr c
    · have e : settle u (y :: xs) = (u, y :: xs) := by
        unfold settle
        rw [settleK, if_neg hy]; rfl
      rw [e, hasP_iff]
theorem mem_insL {k n : Nat} {xs : List Nat} {x : Nat} : x ∈ insL k n xs ↔ x = n ∨ x ∈ xs := by
  refine ⟨insL_mem, fun h => ?_⟩
  unfold insL
  rcases h with h | h
  · simp [h]
  · rw [← List.take_append_drop k xs, List.mem_append] at h
    rw [List.mem_append, List.mem_cons]
    rcases h with h | h
    · exact .inl h
    · exact .inr (.inr h)
theorem addP_has {p : Pt} {n x : Nat} (hp : WfP p) (hn : 1 ≤ n) (hok : (addP p n).1 = true) : hasP (addP p n).2 x = true ↔ hasP p x = true ∨ x = n := by
  unfold addP at hok ⊢
  by_cases h : n ∈ p.2 ∨ n ≤ p.1
  · rw [if_pos h]
    constructor
    · exact .inl
    · rintro (h1 | rfl)
      · exact h1
      · rw [hasP_iff]
        rcases h with h | h
        · exact .inr h
        · exact .inl ⟨hn, h⟩
  · rw [if_neg h] at hok ⊢
    by_cases h2 : (settle p.1 (insL (below n p.2) n p.2)).2.length ≤ 4096
    · rw [if_pos h2]
      simp only
      rw [settle_has _ _ _ (fun y hy => by rcases mem_insL.1 hy with rfl | hy; exact hn; have := hp.2.1 y hy; omega), mem_insL, hasP_iff]
      constructor
      · rintro (a | b | c)
        · exact .inl (.inl a)
        · exact .inr b
        · exact .inl (.inr c)
      · rintro ((a | b) | c)
        · exact .inl a
        · exact .inr (.inr b)
        · exact .inr (.inl c)
    · rw [if_neg h2] at hok; cases hok
theorem withinP_iff {p q : Pt} (hp : WfP p) (hq : WfP q) : withinP p q = true ↔ ∀ x, hasP p x = true → hasP q x = true := by
  constructor
  · intro h x hx
    unfold withinP at h
    simp only [Bool.and_eq_true, List.all_eq_true, decide_eq_true_eq] at h
    rw [hasP_iff] at hx
    rcases hx with hx | hx
    · rw [hasP_iff]; exact .inl ⟨hx.1, by omega⟩
    · exact h.2 x hx
  · intro h
    unfold withinP
    simp only [Bool.and_eq_true, List.all_eq_true, decide_eq_true_eq]
    refine ⟨?_, fun x hx => h x (hasP_iff.2 (.inr hx))⟩
    rcases Nat.lt_or_ge q.1 p.1 with hlt | hle
    · have := hasP_iff.1 (h (q.1 + 1) (hasP_iff.2 (.inl ⟨by omega, by omega⟩)))
      rcases this with h1 | h1
      · omega
      · have := hq.2.1 _ h1; omega
    · exact hle
theorem addP_len {p : Pt} {n : Nat} : (addP p n).2.2.length ≤ p.2.length + 1 := by
  unfold addP
  split
  · exact Nat.le_succ _
  · split
    · have h1 := settle_len p.1 (insL (below n p.2) n p.2)
      have h2 := insL_len (x := n) (below_le n p.2)
      simp only; omega
    · exact Nat.le_succ _
theorem addP_ok {p : Pt} {n : Nat} (h : p.2.length < 4096) : (addP p n).1 = true := by
  unfold addP
  split
  · rfl
  · have h1 := settle_len p.1 (insL (below n p.2) n p.2)
    have h2 := insL_len (x := n) (below_le n p.2)
    rw [if_pos (by omega)]
theorem addS_good {ps : List Pt} {d : Dot} (hl : ∀ p ∈ ps, p.2.length < 4096) (hg : good d = true) : addS ps d = (0, ps.set d.1.toNat (addP (ps.getD d.1.toNat (0, [])) d.2).2) := by
  unfold addS
  rw [if_pos hg, addP_ok (getD_all (R := fun p => p.2.length < 4096) hl (by decide) _), if_pos rfl]
theorem addS_bad {ps : List Pt} {d : Dot} (hg : good d = false) : addS ps d = (1, ps) := by
  unfold addS
  rw [hg]; rfl
theorem addS_more {ps : List Pt} {d : Dot} {k : Nat} (hl : ∀ p ∈ ps, p.2.length ≤ k) : ∀ p ∈ (addS ps d).2, p.2.length ≤ k + 1 := by
  unfold addS
  split
  · split
    · intro p hp
      rcases List.mem_or_eq_of_mem_set hp with hp | rfl
      · have := hl p hp; omega
      · have h1 := addP_len (p := ps.getD d.1.toNat (0, [])) (n := d.2)
        have h2 := getD_all (R := fun p => p.2.length ≤ k) hl (Nat.zero_le _) d.1.toNat
        omega
    · intro p hp; have := hl p hp; omega
  · intro p hp; have := hl p hp; omega
section
variable {ps : List Pt} {d : Dot}
theorem good_num (hg : good d = true) : 1 ≤ d.2 ∧ d.2 ≤ 1099511627776 ∧ d.1.toNat < 16 := by
  simp only [good, Bool.and_eq_true, decide_eq_true_eq] at hg
  omega
theorem grow_has (h16 : ps.length = 16) (hw : ∀ p ∈ ps, WfP p) (hl : ∀ p ∈ ps, p.2.length < 4096) (hg : good d = true) (j x : Nat) :
    hasP ((addS ps d).2.getD j (0, [])) x = true ↔ hasP (ps.getD j (0, [])) x = true ∨ (j = d.1.toNat ∧ x = d.2) := by
  obtain ⟨h1, h2, h3⟩ := good_num hg
  rw [addS_good hl hg]
  simp only
  by_cases e : d.1.toNat = j
  · subst e
    rw [getD_set_self (by omega), addP_has (getD_wf hw _) h1 (addP_ok (getD_all (R := fun p => p.2.length < 4096) hl (by decide) _))]
    simp
  · rw [getD_set_ne e]
    simp [Ne.symm e]
theorem grow_within (h16 : ps.length = 16) (hw : ∀ p ∈ ps, WfP p) (hl : ∀ p ∈ ps, p.2.length < 4096) : withinS ps (addS ps d).2 = true := by
  cases hg : good d with
  | false => rw [addS_bad hg]; exact withinS_refl ps
  | true =>
    refine withinS_iff.2 fun i _ => (withinP_iff (getD_wf hw i) (getD_wf (addS_wf hw) i)).2 fun x hx => ?_
    exact (grow_has h16 hw hl hg i x).2 (.inl hx)
theorem grow_in (h16 : ps.length = 16) (hw : ∀ p ∈ ps, WfP p) (hl : ∀ p ∈ ps, p.2.length < 4096) (hg : good d = true) : hasS (addS ps d).2 d = true := by
  unfold hasS
  rw [hg, Bool.true_and]
  exact (grow_has h16 hw hl hg _ _).2 (.inr ⟨rfl, rfl⟩)
theorem within_hasS {qs : List Pt} {e : Dot} (hw : ∀ p ∈ ps, WfP p) (hw2 : ∀ p ∈ qs, WfP p) (h : withinS ps qs = true) (he : hasS ps e = true) : hasS qs e = true := by
  unfold hasS at he ⊢
  simp only [Bool.and_eq_true] at he ⊢
  exact ⟨he.1, (withinP_iff (getD_wf hw _) (getD_wf hw2 _)).1 (withinS_iff.1 h _ (good_num he.1).2.2) _ he.2⟩
end
end Go.Ab.Dot
set_option maxRecDepth 10000
set_option linter.unusedVariables false
set_option linter.unusedSimpArgs false
namespace Go.Ab.Dot
open Go Go.Ab
end Go.Ab.Dot
set_option maxRecDepth 10000
set_option linter.unusedVariables false
set_option linter.unusedSimpArgs false
namespace Go.Ab.Dot
open Go Go.Ab
def OwX (T : Nat) (M : RM) (base : Nat) (v : AV) (L : List UInt8) : Prop :=
  Own M base T 1 v (bytesC L) L.length ∨ ∃ b, v = .slc b 0 L.length (.ex L.length) ∧ base ≤ b ∧ b < M.next ∧ M.heap b = some (.row (bytesC L) false T 0)
theorem OwX.sl {T base : Nat} {M : RM} {v : AV} {L : List UInt8} (h : OwX T M base v L) : Sl BY M v L := by
  rcases h with h | ⟨b, rfl, h1, h2, h3⟩
  · exact Own.sl h
  · show SlR M 1 _ (BY.row L) L.length
    rw [BY_row]
    refine .slc _ _ _ _ _ h2 ?_
    rw [RM.loads_row h3 (by simp), Nat.mul_one, List.drop_zero, List.take_of_length_le (by simp)]
theorem OwX.keep {T base : Nat} {M M' : RM} {v : AV} {L : List UInt8} (h : OwX T M base v L) (hk : Keep [] M M') : OwX T M' base v L := by
  rcases h with h | ⟨b, rfl, h1, h2, h3⟩
  · exact .inl (h.keep hk (by simp))
  · exact .inr ⟨b, rfl, h1, Nat.lt_of_lt_of_le h2 hk.next, hk.heap_of h3 h2 (by simp)⟩
theorem OwX.app {T base : Nat} {M : RM} {v u : AV} {L L' : List UInt8} {zs : List AV} {K : PostV} (h : OwX T M base v L) (hb : base ≤ M.next) (hu : Sl BY M u L') (hl : L.length + L'.length ≤ 1000000000)
    (hK : ∀ v' M', OwX T M' base v' (L ++ L') → Keep (blkOf v) M M' → (∀ d ∈ blkOf v, base ≤ d) → K v' M') : appW T 1 1 zs false v u M K := by
  have hcs : BY.row L' = bytesC L' := BY_row L'
  have hu' : SlR M 1 u (bytesC L') L'.length := by rw [← hcs]; exact hu
  rcases h with h | ⟨b, rfl, h1, h2, h3⟩
  · refine app_own h hb (Nat.le_refl _) (hu'.newL _) (by simp) (bytesC_one _) (by omega) (by omega) ?_
    intro v' M' o k _ _
    refine hK v' M' (.inl ?_) k (fun d hd => (h.blk d hd).1)
    rw [bytesC_append, List.length_append]; exact o
  · refine ⟨L'.length, bytesC L', hu'.newL _, by omega, by omega, ?_⟩
    by_cases h0 : L'.length = 0
    · have : L' = [] := List.length_eq_zero_iff.1 h0
      subst this
      refine ⟨.slc b 0 L.length (.ex L.length), M, by simp [appM], hK _ _ (.inr ⟨b, by simp, h1, h2, by simpa using h3⟩) (Keep.refl _ _) (by simp [blkOf]; exact h1)⟩
    · have hld : M.loads b 0 (L.length * 1) = some (bytesC L) := by
        rw [RM.loads_row h3 (by simp), Nat.mul_one, List.drop_zero, List.take_of_length_le (by simp)]
      refine ⟨.slc M.next 0 (L.length + L'.length) (.op 1), M.push (.row (bytesC L ++ bytesC L') true T 0), ?_, hK _ _ (.inl ?_) ((Keep.refl _ _).push _) (by simp [blkOf]; exact h1)⟩
      · have hone : (bytesC L ++ bytesC L').all oneCell = true := by rw [List.all_append, bytesC_one, bytesC_one]; rfl
        simp only [appM, if_neg h0, if_neg (show ¬ L.length + L'.length ≤ L.length by omega), hld]
        rw [if_pos ⟨by omega, by omega, hone⟩]
      · rw [List.length_append, bytesC_append]
        exact .op _ _ _ hb (by simp [RM.push]) (RM.push_new _) (by simp)
end Go.Ab.Dot
set_option maxRecDepth 10000
set_option linter.unusedVariables false
set_option linter.unusedSimpArgs false
namespace Go.Ab.Dot
open Go Go.Ab
structure PO (TP TU base : Nat) (M : RM) (v : AV) (out : List PartT) (cs : List AV) (ws : Nat → AV) : Prop where
  own : Own M base TP 3 v cs out.length
  row : ∀ (k : Nat) (hk : k < out.length), cs[3 * k]? = some (N .i64 (out[k].1.1 : Int)) ∧ cs[3 * k + 1]? = some (N .u64 (out[k].1.2 : Int)) ∧ cs[3 * k + 2]? = some (ws k) ∧ Ow U64 M base TU (ws k) out[k].2
  apart : ∀ i j, i < out.length → j < out.length → i ≠ j → ∀ d ∈ blkOf (ws i), d ∉ blkOf (ws j)
  off : ∀ i, i < out.length → ∀ d ∈ blkOf (ws i), d ∉ blkOf v
section
variable {TP TU base : Nat} {M M' : RM} {v : AV} {out : List PartT} {cs : List AV} {ws : Nat → AV}
theorem PO.keep {ks : List Nat} (h : PO TP TU base M v out cs ws) (hk : Keep ks M M') (hs : ∀ d ∈ ks, d < base ∨ M.next ≤ d) : PO TP TU base M' v out cs ws := by
  refine ⟨h.own.keep hk (fun d hd hm => by have := h.own.blk d hd; have := hs d hm; omega), fun k hk' => ?_, h.apart, h.off⟩
  obtain ⟨a1, a2, a3, a4⟩ := h.row k hk'
  exact ⟨a1, a2, a3, a4.keep hk fun d hd hm => by have := a4.blk d hd; have := hs d hm; omega⟩
theorem PO.at (h : PO TP TU base M v out cs ws) {i : Nat} (hi : i < out.length) :
    ∃ b, v = .slc b 0 out.length (.op 3) ∧ base ≤ b ∧ b < M.next ∧ M.heap b = some (.row cs true TP 0) ∧ cs.length = out.length * 3 ∧ ∀ (kd : IntKind) (K : AV → Prop), idxS v (N kd (i : Int)) 3 K = K (.ptr b (3 * i)) := by
  obtain ⟨b, h1, h2, h3, h4, h5⟩ := Own.op_pos h.own (by omega)
  refine ⟨b, h1, h2, h3, h4, h5, fun kd K => ?_⟩
  rw [h1, idxS_slc]
  simp only [Int.toNat_natCast]
  rw [show 0 + i * 3 = 3 * i by omega]
  exact propext ⟨fun h => h.2.2, fun h => ⟨by omega, by omega, h⟩⟩
theorem PO.set (h : PO TP TU base M v out cs ws) {i b u : Nat} {w : AV} {xs : List Nat} {M1 M2 : RM} {ks : List Nat} (hi : i < out.length) (hv : v = .slc b 0 out.length (.op 3)) (k1 : Keep ks M M1) (hks : ∀ d ∈ ks, d ∈ blkOf (ws i))
    (hw : Ow U64 M1 base TU w xs) (hw2 : w = ws i ∨ ∀ d ∈ blkOf w, M.next ≤ d) (hb : M2 = M1.put b (.row ((cs.set (3 * i + 1) (N .u64 (u : Int))).set (3 * i + 2) w) true TP 0)) :
    PO TP TU base M2 v (out.set i ((out[i].1.1, u), xs)) ((cs.set (3 * i + 1) (N .u64 (u : Int))).set (3 * i + 2) w) (fun j => if j = i then w else ws j) ∧ Keep (b :: ks) M M2 := by
  obtain ⟨b', e, hb1, hb2, hb3, hb4, _⟩ := h.at hi
  obtain rfl : b = b' := by rw [hv] at e; injection e
  have n1 := k1.next
  have kk : Keep [b] M1 M2 := by subst hb; exact (Keep.refl _ _).put _ (.inr (by simp))
  have hh : M2.heap b = some (.row ((cs.set (3 * i + 1) (N .u64 (u : Int))).set (3 * i + 2) w) true TP 0) := by subst hb; exact heap_put_eq _
  have hbv : ∀ j, j < out.length → b ∉ blkOf (ws j) := fun j hj hm => h.off j hj b hm (by rw [hv]; simp [blkOf])
  have hbw : b ∉ blkOf w := by
    rcases hw2 with rfl | hw2
    · exact hbv i hi
    · exact fun hm => by have := hw2 b hm; omega
  refine ⟨⟨?_, fun j hj => ?_, fun j1 j2 q1 q2 hne d (hd : d ∈ blkOf (if j1 = i then w else ws j1)) => show d ∉ blkOf (if j2 = i then w else ws j2) from ?_, fun j hj d hd => ?_⟩, (k1.mono (fun d hd => List.mem_cons_of_mem _ hd)).trans (kk.mono (by simp))⟩
  · rw [List.length_set, hv]
    exact .op _ _ _ hb1 (Nat.lt_of_lt_of_le hb2 (Nat.le_trans n1 kk.next)) hh (by simp; omega)
  · have hj' : j < out.length := by rw [List.length_set] at hj; exact hj
    obtain ⟨a1, a2, a3, a4⟩ := h.row j hj'
    by_cases hji : j = i
    · subst hji
      rw [List.getElem_set_self]
      simp only [if_true]
      refine ⟨?_, ?_, ?_, hw.keep kk fun d hd hm => ?_⟩
      · rw [List.getElem?_set_ne (by omega), List.getElem?_set_ne (by omega)]; exact a1
      · rw [List.getElem?_set_ne (by omega), List.getElem?_set_self (by omega)]
      · rw [List.getElem?_set_self (by rw [List.length_set]; omega)]
      · simp at hm; subst hm; exact hbw hd
    · rw [List.getElem_set_ne (Ne.symm hji)]
      simp only [if_neg hji]
      refine ⟨?_, ?_, ?_, (a4.keep k1 fun d hd hm => ?_).keep kk fun d hd hm => ?_⟩
      · rw [List.getElem?_set_ne (by omega), List.getElem?_set_ne (by omega)]; exact a1
      · rw [List.getElem?_set_ne (by omega), List.getElem?_set_ne (by omega)]; exact a2
      · rw [List.getElem?_set_ne (by omega), List.getElem?_set_ne (by omega)]; exact a3
      · exact h.apart j i hj' hi hji d hd (hks d hm)
      · simp at hm; subst hm; exact hbv j hj' hd
  · rw [List.length_set] at q1 q2
    by_cases e1 : j1 = i
    · rw [if_pos e1] at hd
      rw [if_neg (fun e => hne (e1.trans e.symm))]
      rcases hw2 with rfl | hw2
      · exact h.apart i j2 hi q2 (fun e => hne (e1.trans e)) d hd
      · intro hm
        have := hw2 d hd
        have := ((h.row j2 q2).2.2.2.blk d hm).2
        omega
    · rw [if_neg e1] at hd
      by_cases e2 : j2 = i
      · rw [if_pos e2]
        rcases hw2 with rfl | hw2
        · exact h.apart j1 i q1 hi e1 d hd
        · intro hm
          have := hw2 d hm
          have := ((h.row j1 q1).2.2.2.blk d hd).2
          omega
      · rw [if_neg e2]
        exact h.apart j1 j2 q1 q2 hne d hd
  · rw [List.length_set] at hj
    have hd : d ∈ blkOf (if j = i then w else ws j) := hd
    by_cases e1 : j = i
    · rw [if_pos e1] at hd
      intro hm
      rw [hv] at hm
      simp [blkOf] at hm
      subst hm; exact hbw hd
    · rw [if_neg e1] at hd
      exact h.off j hj d hd
theorem PO.app {dv u : Nat} {w : AV} {xs : List Nat} (h : PO TP TU base M v out cs ws) (hk : Keep [] M M') (hw : Ow U64 M' base TU w xs) (hw2 : ∀ d ∈ blkOf w, M.next ≤ d) (hbase : base ≤ M.next) (hlen : out.length ≤ 1000000) {zs : List AV} {K : PostV}
    (hK : ∀ v' M'' cs' ws', PO TP TU base M'' v' (out ++ [((dv, u), xs)]) cs' ws' → Keep (blkOf v) M' M'' → (∀ d ∈ blkOf v, base ≤ d) → K v' M'') :
    appW TP 3 40 zs false v (.slc M'.next 0 1 (.ex 1)) (M'.push (.row [N .i64 (dv : Int), N .u64 (u : Int), w] false TP 0)) K := by
  have n1 := hk.next
  have h' := h.keep hk (by simp)
  have hkp : Keep [] M' (M'.push (.row [N .i64 (dv : Int), N .u64 (u : Int), w] false TP 0)) := (Keep.refl _ _).push _
  have hp := h'.keep hkp (by simp)
  have hwp := hw.keep hkp (by simp)
  have hsl : SlR (M'.push (.row [N .i64 (dv : Int), N .u64 (u : Int), w] false TP 0)) 3 (.slc M'.next 0 1 (.ex 1)) [N .i64 (dv : Int), N .u64 (u : Int), w] 1 :=
    .slc _ _ _ _ _ (by simp [RM.push]) (by rw [RM.loads_row (RM.push_new _) (by simp)]; rfl)
  have hall : ([N .i64 (dv : Int), N .u64 (u : Int), w] : List AV).all oneCell = true := by simp [hw.one]; exact ⟨rfl, rfl⟩
  refine app_own hp.own (by rw [next_push]; omega) (by decide) (hsl.newL _) (by simp) hall (by omega) (by omega) ?_
  intro v' M'' o k n hv'
  have hbl := hp.own.blk
  rw [next_push] at n hv'
  have hcl : cs.length = out.length * 3 := hp.own.slR.length
  have hwv : ∀ j, j < out.length → ∀ d ∈ blkOf w, d ∉ blkOf (ws j) := fun j hj d hd hm => by
    have := hw2 d hd
    have := ((h.row j hj).2.2.2.blk d hm).2
    omega
  refine hK v' M'' (cs ++ [N .i64 (dv : Int), N .u64 (u : Int), w]) (fun j => if j = out.length then w else ws j) ⟨?_, fun j hj => ?_, fun j1 j2 q1 q2 hne d (hd : d ∈ blkOf (if j1 = out.length then w else ws j1)) => show d ∉ blkOf (if j2 = out.length then w else ws j2) from ?_, fun j hj d hd => ?_⟩ ((hkp.mono (by simp)).trans k) (fun d hd => (hbl d hd).1)
  · rw [List.length_append]; exact o
  · by_cases e : j = out.length
    · subst e
      rw [List.getElem_append_right (Nat.le_refl _)]
      simp only [Nat.sub_self, List.getElem_cons_zero, if_true]
      refine ⟨?_, ?_, ?_, hwp.keep k fun d hd hm => ?_⟩
      · rw [List.getElem?_append_right (by omega), show 3 * out.length - cs.length = 0 by omega]; rfl
      · rw [List.getElem?_append_right (by omega), show 3 * out.length + 1 - cs.length = 1 by omega]; rfl
      · rw [List.getElem?_append_right (by omega), show 3 * out.length + 2 - cs.length = 2 by omega]; rfl
      · have := hw2 d hd
        have := (h.own.blk d hm).2
        omega
    · have hj' : j < out.length := by rw [List.length_append] at hj; simp at hj; omega
      obtain ⟨a1, a2, a3, a4⟩ := hp.row j hj'
      rw [List.getElem_append_left hj']
      simp only [if_neg e]
      refine ⟨?_, ?_, ?_, a4.keep k fun d hd hm => hp.off j hj' d hd hm⟩
      · rw [List.getElem?_append_left (by omega)]; exact a1
      · rw [List.getElem?_append_left (by omega)]; exact a2
      · rw [List.getElem?_append_left (by omega)]; exact a3
  · rw [List.length_append] at q1 q2
    simp at q1 q2
    by_cases e1 : j1 = out.length
    · rw [if_pos e1] at hd
      rw [if_neg (fun e => hne (e1.trans e.symm))]
      exact hwv j2 (by omega) d hd
    · rw [if_neg e1] at hd
      by_cases e2 : j2 = out.length
      · rw [if_pos e2]
        exact fun hm => hwv j1 (by omega) d hm hd
      · rw [if_neg e2]
        exact h.apart j1 j2 (by omega) (by omega) hne d hd
  · rw [List.length_append] at hj
    simp at hj
    have hd : d ∈ blkOf (if j = out.length then w else ws j) := hd
    by_cases e1 : j = out.length
    · rw [if_pos e1] at hd
      rcases hv' with rfl | hv'
      · intro hm
        have := hw2 d hd
        have := (h.own.blk d hm).2
        omega
      · intro hm
        have := hv' d hm
        have := (hw.blk d hd).2
        omega
    · rw [if_neg e1] at hd
      rcases hv' with rfl | hv'
      · exact h.off j (by omega) d hd
      · intro hm
        have := hv' d hm
        have := ((h'.row j (by omega)).2.2.2.blk d hd).2
        omega
end
end Go.Ab.Dot
set_option maxRecDepth 10000
set_option linter.unusedVariables false
set_option linter.unusedSimpArgs false
namespace Go.Ab.Dot
open Go Go.Ab
theorem getD_of {α : Type} {l : List α} {i : Nat} {d : α} (h : i < l.length) : l.getD i d = l[i] := by
  rw [List.getD_eq_getElem?_getD, List.getElem?_eq_getElem h]; rfl
theorem good_dev {d : Dot} (h : good d = true) : 0 ≤ d.1 ∧ d.1 < 16 ∧ d.2 ≤ 1099511627776 ∧ 1 ≤ d.2 := by
  simp only [good, Bool.and_eq_true, decide_eq_true_eq] at h
  omega
end Go.Ab.Dot
set_option maxRecDepth 10000
set_option linter.unusedVariables false
set_option linter.unusedSimpArgs false
namespace Go.Ab.Dot
open Go Go.Ab
end Go.Ab.Dot
set_option maxRecDepth 10000
set_option linter.unusedVariables false
set_option linter.unusedSimpArgs false
namespace Go.Ab.Dot
open Go Go.Ab
section
variable {TP TU base : Nat} {M : RM} {v : AV} {out : List PartT} {cs : List AV} {ws : Nat → AV}
end
end Go.Ab.Dot
set_option maxRecDepth 10000
set_option linter.unusedVariables false
set_option linter.unusedSimpArgs false
namespace Go.Ab.Dot
open Go Go.Ab
theorem addS_len {ps : List Pt} {d : Dot} : (addS ps d).2.length = ps.length := by
  unfold addS
  split
  · split
    · simp only; rw [List.length_set]
    · rfl
  · rfl
structure GrowI (l : List Dot) (i : Nat) (ps : List Pt) : Prop where
  len : ps.length = 16
  wf : ∀ p ∈ ps, WfP p
  few : ∀ p ∈ ps, p.2.length ≤ i
  has : ∀ k (hk : k < l.length), k < i → good l[k] = true → hasS ps l[k] = true
theorem GrowI.step {l : List Dot} {i : Nat} {ps : List Pt} (h : GrowI l i ps) (hi : i < l.length) (h60 : i ≤ 100) : GrowI l (i + 1) (addS ps l[i]).2 := by
  have hl : ∀ p ∈ ps, p.2.length < 4096 := fun p hp => by have := h.few p hp; omega
  refine ⟨by rw [addS_len]; exact h.len, addS_wf h.wf, addS_more h.few, fun k hk hki hg => ?_⟩
  rcases Nat.lt_or_ge k i with h1 | h1
  · exact within_hasS h.wf (addS_wf h.wf) (grow_within h.len h.wf hl) (h.has k hk h1 hg)
  · have : k = i := by omega
    subst this
    exact grow_in h.len h.wf hl hg
end Go.Ab.Dot
set_option maxRecDepth 10000
set_option linter.unusedVariables false
set_option linter.unusedSimpArgs false
namespace Go.Ab.Dot
open Go Go.Ab
def Srt (l : List Dot) : Prop := l.Pairwise fun a b => aheadB a b = true
structure DocI (ps : List Pt) (w : List Dot) : Prop where
  len : ps.length = 16
  wf : ∀ p ∈ ps, WfP p
  srt : Srt w
  mem : ∀ d, d ∈ w ↔ hasS ps d = true
theorem DocI.good {ps : List Pt} {w : List Dot} (h : DocI ps w) : ∀ d ∈ w, good d = true := fun d hd => by
  have := (h.mem d).1 hd
  rw [hasS, Bool.and_eq_true] at this
  exact this.1
end Go.Ab.Dot
set_option maxRecDepth 10000
set_option linter.unusedVariables false
set_option linter.unusedSimpArgs false
namespace Go.Ab.Dot
open Go Go.Ab
theorem own_pm {M : RM} {base T : Nat} {v : AV} {xs : List Nat} (h : Ow U64 M base T v xs) (hn : 0 < xs.length) : ∃ b, v = vv b xs.length ∧ base ≤ b ∧ b < M.next ∧ M = PM M b T xs.toArray := by
  obtain ⟨b, h1, h2, h3, h4, h5⟩ := Own.op_pos h hn
  refine ⟨b, h1, h2, h3, ?_⟩
  unfold PM RM.put
  obtain ⟨n, hp, lo⟩ := M
  simp only at h4 ⊢
  congr 1
  funext c
  by_cases hc : c = b
  · subst hc; rw [if_pos rfl, h4]
  · rw [if_neg hc]
theorem pm_own {M : RM} {b T base : Nat} {d : Array Nat} (h1 : base ≤ b) (h2 : b < M.next) : Ow U64 (PM M b T d) base T (vv b d.size) d.toList := by
  have : Own (PM M b T d) base T 1 (.slc b 0 d.size (.op 1)) (U64.row d.toList) d.size := .op _ _ _ h1 h2 PM.heap (by rw [PM.cellsLen]; omega)
  show Own (PM M b T d) base T 1 (.slc b 0 d.size (.op 1)) (U64.row d.toList) d.toList.length
  rw [Array.length_toList]; exact this
theorem pm_keep {M M' : RM} {b T : Nat} {d : Array Nat} (k : Keep [] M M') : Keep [b] M (PM M' b T d) := (k.mono (by simp)).put _ (.inr (by simp))
def sortN (xs : List Nat) : List Nat := (Sort.sort lN xs.toArray).toList
theorem sortN_nil : sortN [] = [] := by
  unfold sortN Sort.sort
  rw [pdq_eq, if_pos (by simp), Sort.insertionSort, Sort.insOuter, if_neg (by simp)]
theorem sortN_perm (xs : List Nat) : (sortN xs).Perm xs := by
  have h := (Sort.sort_sorts lN swo_lN xs.toArray).1
  have h2 := h.2.2
  rw [Array.extract_eq_self_of_le (by rw [h.1]; exact Nat.le_refl _), Array.extract_eq_self_of_le (Nat.le_refl _)] at h2
  exact h2
theorem sortN_len (xs : List Nat) : (sortN xs).length = xs.length := (sortN_perm xs).length_eq
theorem sortN_up (xs : List Nat) : Up (sortN xs) := by
  intro i j hi hj hij
  have h := (Sort.sort_sorts lN swo_lN xs.toArray)
  have hs : (Sort.sort lN xs.toArray).size = xs.toArray.size := h.1.1
  unfold sortN at hi hj ⊢
  rw [Array.length_toList] at hi hj
  rcases Nat.lt_or_ge i j with h1 | h1
  · have := h.2 i j (Nat.zero_le _) h1 (by omega)
    rw [get_bang hj, get_bang hi] at this
    rw [Array.getElem_toList, Array.getElem_toList]
    have := of_decide_eq_false this
    omega
  · have : i = j := by omega
    subst this; exact Nat.le_refl _
def PdqNil (c : CallT) : Prop := ∀ {M : RM} {v : AV} {Q : PostV}, Q (.tup []) M → c [v, N .i64 0, N .i64 ((0 : Nat) : Int), N .i64 ((0 : Nat) : Int)] M Q
def InsNil (c : CallT) : Prop := ∀ {M : RM} {v : AV} {Q : PostV}, Q (.tup []) M → c [v, N .i64 0, N .i64 ((0 : Nat) : Int)] M Q
theorem insNil_spec {cl : CallT} : InsNil fun args M Q => ∃ a0 a1 a2, args = [a0, a1, a2] ∧ W_slices_insertionSortOrdered_uint64 cl a0 a1 a2 M Q := by
  intro M v Q hQ
  refine ⟨_, _, _, rfl, ?_⟩
  unfold W_slices_insertionSortOrdered_uint64
  rw [intW_add, show IntKind.i64.wrap ((0 : Int) + 1) = 1 from rfl]
  refine loopW_ind (fun m ys M3 => m = 0 ∧ ys = [N .i64 1] ∧ M3 = M) 0 ⟨rfl, rfl, rfl⟩ ?_
  rintro next m ys M3 hnext ⟨rfl, rfl, rfl⟩
  dsimp only [nthD]
  rw [intW_lss, show decide ((1 : Int) < ((0 : Nat) : Int)) = false from rfl, condF]
  exact hQ
theorem pdqNil_spec {ci c2 c3 cc c4 cp c5 c6 c7 c8 : CallT} (hi : InsNil ci) : PdqNil fun args M Q => ∃ a0 a1 a2 a3, args = [a0, a1, a2, a3] ∧ W_slices_pdqsortOrdered_uint64 ci c2 c3 cc c4 cp c5 c6 c7 c8 a0 a1 a2 a3 M Q := by
  intro M v Q hQ
  refine ⟨_, _, _, _, rfl, ?_⟩
  unfold W_slices_pdqsortOrdered_uint64
  refine loopW_ind (fun m ys M3 => m = 0 ∧ ys = [N .i64 0, N .i64 ((0 : Nat) : Int), N .i64 ((0 : Nat) : Int), Bo true, Bo true] ∧ M3 = M) 0 ⟨rfl, rfl, rfl⟩ ?_
  rintro next m ys M3 hnext ⟨rfl, rfl, rfl⟩
  dsimp only [nthD]
  rw [intW_sub, show IntKind.i64.wrap (((0 : Nat) : Int) - 0) = 0 from rfl, intW_leq, show decide ((0 : Int) ≤ 12) = true from rfl, condT]
  exact hi hQ
theorem sortN_spec {T : Nat} {cl cp : CallT} (hl : LenX cl) (hp : ∀ m, PdqX T m cp) (h0 : PdqNil cp) : SortC (fun xs => xs.length ≤ 60000) sortN T fun args M Q => ∃ a0, args = [a0] ∧ W_slices_Sort_uint64_uint64 cl cp a0 M Q := by
  intro M base v xs Q ho hx hQ
  have hs : Sl U64 M v xs := ho.slR
  refine ⟨_, rfl, ?_⟩
  unfold W_slices_Sort_uint64_uint64
  have hx : xs.length ≤ 60000 := hx
  rw [SlR.len hs, cvtW_N, wrap_u64_id (by omega) (by omega)]
  refine hl (by omega) ?_
  rcases Nat.eq_zero_or_pos xs.length with hn | hn
  · rw [hn, show Sort.bitsLen 0 = 0 from rfl]
    refine h0 ?_
    have := List.length_eq_zero_iff.1 hn
    subst this
    exact hQ M (by rw [sortN_nil]; exact ho) (Keep.refl _ _)
  · obtain ⟨b, rfl, h1, h2, h3⟩ := own_pm ho hn
    have hb := bits_le hn (by omega)
    have hsz : xs.toArray.size = xs.length := by simp
    have := hp (xs.length + 1) (M := M) (b := b) (a := 0) (e := xs.toArray.size) (limit := Sort.bitsLen xs.length) (d := xs.toArray) (Q := fun t10 M_0 => Q (.tup []) M_0) h2 (by omega) (by omega) (Nat.le_refl _) (by omega) (by omega) fun M' k => ?_
    · rw [← h3] at this
      simpa using this
    · have e : (Sort.pdq lN xs.toArray 0 xs.toArray.size (Sort.bitsLen xs.length) true true) = Sort.sort lN xs.toArray := by rw [Sort.sort]; simp
      rw [e]
      refine hQ _ ?_ (pm_keep k)
      have hsz2 : (Sort.sort lN xs.toArray).size = xs.length := by
        have := sortN_len xs
        unfold sortN at this
        rw [Array.length_toList] at this; exact this
      have := pm_own (M := M') (T := T) (d := Sort.sort lN xs.toArray) h1 (Nat.lt_of_lt_of_le h2 k.next)
      rw [hsz2] at this
      exact this
def ddA : Nat → List Nat → List Nat
  | _, [] => []
  | p, x :: xs => if x = p then ddA x xs else x :: ddA x xs
def dd : List Nat → List Nat
  | [] => []
  | x :: xs => x :: ddA x xs
theorem ddA_snoc : ∀ (ys : List Nat) (p x : Nat), ddA p (ys ++ [x]) = if x = ys.getLastD p then ddA p ys else ddA p ys ++ [x]
  | [], p, x => rfl
  | y :: ys, p, x => by
    rw [List.cons_append, ddA, ddA, ddA_snoc ys y x, List.getLastD_cons]
    by_cases hy : y = p
    · rw [if_pos hy, if_pos hy]
    · rw [if_neg hy, if_neg hy]
      split
      · rfl
      · rfl
theorem last_take : ∀ (k : Nat) (ys : List Nat) (y : Nat) (h : k < (y :: ys).length), (ys.take k).getLastD y = (y :: ys)[k]
  | 0, ys, y, h => rfl
  | k + 1, [], y, h => by simp at h
  | k + 1, z :: zs, y, h => by
    rw [List.take_succ_cons, List.getLastD_cons, last_take k zs z (by simpa using h)]
    rfl
theorem dd_take {xs : List Nat} {m : Nat} (h1 : 1 ≤ m) (h : m < xs.length) : dd (xs.take (m + 1)) = if xs[m] = xs[m - 1] then dd (xs.take m) else dd (xs.take m) ++ [xs[m]] := by
  rw [List.take_succ_eq_append_getElem h]
  cases xs with
  | nil => simp at h
  | cons y ys =>
    obtain ⟨k, rfl⟩ : ∃ k, m = k + 1 := ⟨m - 1, by omega⟩
    have hk : k < (y :: ys).length := by omega
    rw [List.take_succ_cons, List.cons_append, dd, dd, ddA_snoc, last_take k ys y hk]
    simp only [Nat.add_sub_cancel]
    split <;> simp
theorem dd_len : ∀ (xs : List Nat), (dd xs).length ≤ xs.length
  | [] => Nat.le_refl _
  | x :: xs => by
    have : ∀ (p : Nat) (l : List Nat), (ddA p l).length ≤ l.length := by
      intro p l
      induction l generalizing p with
      | nil => exact Nat.le_refl _
      | cons y l ih => rw [ddA]; split <;> simp <;> have := ih y <;> omega
    rw [dd]; simp; exact this x xs
theorem subS_to_op {b o n k : Nat} (h : k ≤ n) (h0 : 0 < n) : subS 1 (.slc b o n (.op 1)) none (some (N .i64 (k : Int))) none = some (.slc b o k (.op 1)) := by
  simp only [subS, bnd]
  simp [h]
  omega
theorem compactN_spec {T : Nat} : CompactC (fun xs => xs.length ≤ 60000) dd T fun args M Q => ∃ a0, args = [a0] ∧ W_slices_Compact_uint64_uint64 a0 M Q := by
  intro M base v xs Q ho hx hQ
  have hx : xs.length ≤ 60000 := hx
  have hs : Sl U64 M v xs := ho.slR
  refine ⟨_, rfl, ?_⟩
  unfold W_slices_Compact_uint64_uint64
  have hself : dd xs = xs → Q v M := fun e => hQ v M (by rw [e]; exact hs) (Own.capOk ho) (fun d hd => hd) (Keep.refl _ _)
  rw [SlR.len hs, intW_lss]
  refine condB (fun hg => ?_) (fun hg => ?_)
  · have hg : xs.length < 2 := by
      have : (xs.length : Int) < 2 := of_decide_eq_true hg
      omega
    refine hself ?_
    match xs, hg with
    | [], _ => rfl
    | [x], _ => rfl
  have hg : 2 ≤ xs.length := by
    have : ¬ (xs.length : Int) < 2 := of_decide_eq_false hg
    omega
  obtain ⟨b, rfl, h1, h2, h3⟩ := own_pm ho (by omega)
  have hsz : xs.toArray.size = xs.length := by simp
  have hat : ∀ i (h : i < xs.length), xs.toArray[i]! = xs[i] := fun i h => by rw [get_bang (by simpa using h)]; simp
  clear hs
  have hself := hself
  simp only [joinW_shut]
  refine loopW_ind (fun m ys M3 => ∃ i : Nat, m = xs.length - i ∧ ys = [N .i64 (i : Int)] ∧ 1 ≤ i ∧ i ≤ xs.length ∧ M3 = PM M b T xs.toArray ∧ dd (xs.take i) = xs.take i) _ ⟨1, rfl, rfl, Nat.le_refl _, by omega, h3, by
    match xs, hg with
    | x :: y :: l, _ => rfl⟩ ?_
  rintro next m ys M3 hnext ⟨i, rfl, rfl, hi1, hi, rfl, hdd⟩
  dsimp only [nthD]
  have lenV : ∀ K : AV → Prop, lenW (vv b xs.length) K = K (N .i64 (xs.length : Int)) := fun K => by simp [lenW_slc]
  rw [lenV, lssN]
  refine condB (fun hlt => ?_) (fun hge => ?_)
  rotate_left
  · have he : i = xs.length := by
      have : ¬ i < xs.length := of_decide_eq_false hge
      omega
    subst he
    rw [List.take_length] at hdd
    rw [← h3]
    exact hself hdd
  have hlt : i < xs.length := of_decide_eq_true hlt
  rw [PM.rd hsz.symm (by omega), sub1 (by omega) (by omega), PM.rd hsz.symm (by omega), hat i hlt, hat (i - 1) (by omega), intW_eql]
  have hstep := dd_take hi1 hlt
  by_cases heq : xs[i] = xs[i - 1]
  rotate_left
  · rw [show (((xs[i] : Nat) : Int) == ((xs[i - 1]'(by omega) : Nat) : Int)) = false by rw [beq_eq_false_iff_ne]; omega, condF, add1 (by omega)]
    rw [if_neg heq, hdd] at hstep
    exact hnext _ _ _ (by omega) ⟨i + 1, rfl, rfl, by omega, hlt, rfl, by rw [hstep, ← List.take_succ_eq_append_getElem hlt]⟩
  rw [show (((xs[i] : Nat) : Int) == ((xs[i - 1]'(by omega) : Nat) : Int)) = true by rw [beq_iff_eq]; omega, condT]
  rw [if_pos heq, hdd] at hstep
  rw [subS_from_op hlt, getW_some]
  have lenV2 : ∀ K : AV → Prop, lenW (.slc b (0 + i * 1) (xs.length - i) (.op 1)) K = K (N .i64 ((xs.length - i : Nat) : Int)) := fun K => by simp [lenW_slc]
  have idx2 : ∀ (j : Nat), j < xs.length - i → ∀ (K : AV → Prop), idxS (.slc b (0 + i * 1) (xs.length - i) (.op 1)) (N .i64 (j : Int)) 1 K = K (.ptr b (i + j)) := fun j hj K => by
    rw [idxS_slc]
    simp only [Int.toNat_natCast]
    rw [show 0 + i * 1 + j * 1 = i + j by omega]
    exact propext ⟨fun h => h.2.2, fun h => ⟨by omega, by omega, h⟩⟩
  -- the rest: moved down
  refine loopW_ind (fun m ys M5 => ∃ (k j : Nat) (d : Array Nat), m = xs.length - j ∧ ys = [N .i64 (k : Int), N .i64 (j : Int)] ∧ 1 ≤ j ∧ i + j ≤ xs.length ∧ 1 ≤ k ∧ k + 1 ≤ i + j ∧ M5 = PM M b T d ∧ d.size = xs.length ∧ d.toList.take k = dd (xs.take (i + j)) ∧ (∀ q (h : q < xs.length), i + j ≤ q + 1 → d[q]! = xs[q])) _
    ⟨i, 1, xs.toArray, rfl, rfl, by omega, by omega, by omega, by omega, rfl, hsz, by rw [hstep], fun q h _ => hat q h⟩ ?_
  rintro next2 m ys M5 hnext2 ⟨k, j, d, rfl, rfl, hj1, hij, hk1, hk, rfl, hds, hpre, hold⟩
  dsimp only [nthD]
  rw [lenV2, lssN]
  refine condB (fun hlt2 => ?_) (fun hge2 => ?_)
  · have hlt2 : j < xs.length - i := of_decide_eq_true hlt2
    have hij' : i + j < xs.length := by omega
    refine joinV_spec (fun zs M' => ∃ (k' : Nat) (d' : Array Nat), zs = [N .i64 (k' : Int)] ∧ 1 ≤ k' ∧ k' ≤ i + j ∧ M' = PM M b T d' ∧ d'.size = xs.length ∧ d'.toList.take k' = dd (xs.take (i + j + 1)) ∧ (∀ q (h : q < xs.length), i + j ≤ q → d'[q]! = xs[q])) ?_ ?_
    · rintro zs M' ⟨k', d', rfl, c1, c2, rfl, c3, c4, c5⟩
      dsimp only [nthD]
      rw [add1 (by omega)]
      exact hnext2 _ _ _ (by omega) ⟨k', j + 1, d', rfl, rfl, by omega, by omega, c1, by omega, rfl, c3, c4, fun q h hq => c5 q h (by omega)⟩
    intro J hJ
    have hst2 := dd_take (xs := xs) (m := i + j) (by omega) hij'
    have ld : ∀ q (h : q < xs.length) (K : AV → Prop), load1 (PM M b T d) (.ptr b q) K = K (N .u64 ((d[q]! : Nat) : Int)) := fun q h K => load1_at PM.heap (PM.cellAt (by omega))
    rw [idx2 j hlt2, ld _ hij', sub1 (by omega) (by omega), idx2 (j - 1) (by omega), ld _ (by omega), hold (i + j) hij' (by omega), hold (i + (j - 1)) (by omega) (by omega), intW_neq]
    have hpe : xs[i + (j - 1)]'(by omega) = xs[i + j - 1]'(by omega) := by congr 1; omega
    rw [hpe]
    by_cases hne : xs[i + j] = xs[i + j - 1]'(by omega)
    · rw [show (((xs[i + j] : Nat) : Int) != ((xs[i + j - 1]'(by omega) : Nat) : Int)) = false by rw [hne]; simp, condF]
      rw [if_pos hne] at hst2
      exact hJ _ _ ⟨k, d, rfl, hk1, by omega, rfl, hds, by rw [hst2]; exact hpre, fun q h hq => hold q h (by omega)⟩
    · rw [show (((xs[i + j] : Nat) : Int) != ((xs[i + j - 1]'(by omega) : Nat) : Int)) = true by simp only [bne_iff_ne, ne_eq]; omega, condT]
      rw [if_neg hne] at hst2
      rw [idx2 j hlt2, ld _ hij', hold (i + j) hij' (by omega), PM.idx (by omega), PM.put (by omega), add1 (by omega)]
      refine hJ _ _ ⟨k + 1, _, rfl, by omega, by omega, rfl, by simpa using hds, ?_, fun q h hq => ?_⟩
      · have hkl : k < d.toList.length := by rw [Array.length_toList]; omega
        rw [hst2, ← hpre, Array.toList_setIfInBounds, List.take_succ_eq_append_getElem (by rw [List.length_set]; exact hkl), List.getElem_set_self, List.take_set_of_le (Nat.le_refl _)]
      · rw [← hold q h (by omega)]
        rw [get_bang (by rw [Array.size_setIfInBounds]; omega), get_bang (by omega), Array.getElem_setIfInBounds_ne (by omega) (by omega)]
  · have hij' : i + j = xs.length := by
      have : ¬ j < xs.length - i := of_decide_eq_false hge2
      omega
    rw [hij', List.take_length] at hpre
    have hst : (PM M b T d).stores b (0 + k * 1) (repL [N .u64 0] (xs.length - k)) = some ((PM M b T d).put b (.row ((U64.row d.toList).take (0 + k * 1) ++ repL [N .u64 0] (xs.length - k) ++ (U64.row d.toList).drop (0 + k * 1 + (repL [N .u64 0] (xs.length - k)).length)) true T 0)) := by
      refine RM.stores_row PM.heap ?_ (Nat.zero_le _) (repL_one _).2
      rw [(repL_one _).1, PM.cellsLen]; omega
    rw [subS_from_op (by omega), getW_some]
    refine .inl ⟨_, _, _, _, _, rfl, hst, ?_⟩
    dsimp only
    rw [subS_to_op (by omega) (by omega), getW_some]
    have hlk : (dd xs).length = k := by rw [← hpre, List.length_take, Array.length_toList]; omega
    refine hQ _ _ ?_ (show (1 : Nat) = 1 from rfl) (fun e he => by simpa [blkOf] using he) ?_
    · have hrow : ((U64.row d.toList).take (0 + k * 1)) = U64.row (dd xs) := by
        rw [← hpre, show 0 + k * 1 = k * U64.size by simp [U64], Enc.row_take]
      show SlR _ 1 (.slc b 0 k (.op 1)) (U64.row (dd xs)) (dd xs).length
      rw [hlk]
      refine .slc _ _ _ _ _ h2 ?_
      have hl : (U64.row (dd xs)).length = k := by rw [Enc.row_len, hlk]; simp [U64]
      rw [RM.loads_row (heap_put_eq _) (by rw [hrow]; simp [hl]), List.drop_zero, hrow, Nat.mul_one, List.append_assoc, List.take_left' hl]
    · refine Keep.put ?_ _ (.inr (by simp [blkOf]))
      exact pm_keep (Keep.refl _ _)
end Go.Ab.Dot
set_option maxRecDepth 10000
set_option linter.unusedVariables false
set_option linter.unusedSimpArgs false
namespace Go.Ab.Dot
open Go Go.Ab
theorem up_pw {xs : List Nat} (h : Up xs) : xs.Pairwise (· ≤ ·) := List.pairwise_iff_getElem.2 fun i j hi hj hij => h i j hi hj (Nat.le_of_lt hij)
theorem ddA_props : ∀ (ys : List Nat) (p : Nat), (p :: ys).Pairwise (· ≤ ·) → Asc (ddA p ys) ∧ (∀ x ∈ ddA p ys, p < x) ∧ ∀ x, x ∈ ddA p ys ↔ x ∈ ys ∧ x ≠ p
  | [], p, _ => ⟨.nil, by simp [ddA], by simp [ddA]⟩
  | y :: ys, p, h => by
    have a1 := List.pairwise_cons.1 h
    have a2 := List.pairwise_cons.1 a1.2
    obtain ⟨i1, i2, i3⟩ := ddA_props ys y a1.2
    have hpy : p ≤ y := a1.1 y (by simp)
    rw [ddA]
    by_cases hy : y = p
    · rw [if_pos hy]
      subst hy
      refine ⟨i1, i2, fun x => ?_⟩
      rw [i3, List.mem_cons]
      constructor
      · rintro ⟨h1, h2⟩; exact ⟨.inr h1, h2⟩
      · rintro ⟨h1 | h1, h2⟩
        · exact absurd h1 h2
        · exact ⟨h1, h2⟩
    · rw [if_neg hy]
      refine ⟨List.pairwise_cons.2 ⟨i2, i1⟩, fun x hx => ?_, fun x => ?_⟩
      · rcases List.mem_cons.1 hx with rfl | hx
        · omega
        · have := i2 x hx; omega
      · rw [List.mem_cons, i3, List.mem_cons]
        constructor
        · rintro (rfl | ⟨h1, h2⟩)
          · exact ⟨.inl rfl, hy⟩
          · have := a2.1 x h1
            exact ⟨.inr h1, by omega⟩
        · rintro ⟨h1 | h1, h2⟩
          · exact .inl h1
          · by_cases hxy : x = y
            · exact .inl hxy
            · exact .inr ⟨h1, hxy⟩
theorem dd_props {ys : List Nat} (h : Up ys) : Asc (dd ys) ∧ ∀ x, x ∈ dd ys ↔ x ∈ ys := by
  have hp := up_pw h
  cases ys with
  | nil => exact ⟨.nil, fun x => Iff.rfl⟩
  | cons y ys =>
    obtain ⟨i1, i2, i3⟩ := ddA_props ys y hp
    refine ⟨List.pairwise_cons.2 ⟨i2, i1⟩, fun x => ?_⟩
    rw [dd, List.mem_cons, i3, List.mem_cons]
    constructor
    · rintro (h | ⟨h, _⟩)
      · exact .inl h
      · exact .inr h
    · rintro (h | h)
      · exact .inl h
      · by_cases hxy : x = y
        · exact .inl hxy
        · exact .inr ⟨h, hxy⟩
def jl (p q : Pt) : List Nat := dd (sortN (p.2 ++ q.2))
theorem jl_props (p q : Pt) : Asc (jl p q) ∧ (∀ x, x ∈ jl p q ↔ x ∈ p.2 ∨ x ∈ q.2) ∧ (jl p q).length ≤ p.2.length + q.2.length := by
  obtain ⟨h1, h2⟩ := dd_props (sortN_up (p.2 ++ q.2))
  refine ⟨h1, fun x => ?_, ?_⟩
  · unfold jl
    rw [h2, (sortN_perm _).mem_iff, List.mem_append]
  · have := dd_len (sortN (p.2 ++ q.2))
    rw [sortN_len, List.length_append] at this
    exact this
theorem joinPt_props {p q : Pt} (hp : WfP p) (hq : WfP q) (hl : p.2.length + q.2.length ≤ 4096) :
    WfP (joinPt sortN dd p q) ∧ (∀ x, hasP (joinPt sortN dd p q) x = true ↔ hasP p x = true ∨ hasP q x = true) ∧ (joinPt sortN dd p q).2.length ≤ p.2.length + q.2.length := by
  obtain ⟨h1, h2, h3⟩ := jl_props p q
  have he : joinPt sortN dd p q = settle (max p.1 q.1) (jl p q) := rfl
  rw [he]
  have hpos : ∀ y ∈ jl p q, 1 ≤ y := fun y hy => by
    rcases (h2 y).1 hy with h | h
    · have := hp.2.1 y h; omega
    · have := hq.2.1 y h; omega
  have hle : ∀ y ∈ jl p q, y ≤ 1099511627776 := fun y hy => by
    rcases (h2 y).1 hy with h | h
    · exact hp.2.2.2.1 y h
    · exact hq.2.2.2.1 y h
  have hm : max p.1 q.1 ≤ 1099511627776 := by have := hp.2.2.1; have := hq.2.2.1; omega
  obtain ⟨s1, s2, s3, s4⟩ := settle_props (jl p q) (max p.1 q.1) 1099511627776 h1 hm hle
  have hsl := settle_len (max p.1 q.1) (jl p q)
  refine ⟨⟨s1, s2, s3, fun x hx => hle x (settle_mem hx), by omega⟩, fun x => ?_, by omega⟩
  rw [settle_has _ _ _ hpos, h2, hasP_iff, hasP_iff]
  constructor
  · rintro (h | h | h)
    · by_cases hx : x ≤ p.1
      · exact .inl (.inl ⟨h.1, hx⟩)
      · exact .inr (.inl ⟨h.1, by omega⟩)
    · exact .inl (.inr h)
    · exact .inr (.inr h)
  · rintro ((h | h) | (h | h))
    · exact .inl ⟨h.1, by omega⟩
    · exact .inr (.inl h)
    · exact .inl ⟨h.1, by omega⟩
    · exact .inr (.inr h)
def joinS (ps qs : List Pt) : List Pt := joinT sortN dd ps qs 16
structure SI (k : Nat) (ps : List Pt) : Prop where
  len : ps.length = 16
  wf : ∀ p ∈ ps, WfP p
  few : ∀ p ∈ ps, p.2.length ≤ k
theorem SI.at {k : Nat} {ps : List Pt} (h : SI k ps) (i : Nat) : WfP (ps.getD i (0, [])) ∧ (ps.getD i (0, [])).2.length ≤ k :=
  ⟨getD_wf h.wf i, getD_all (R := fun p => p.2.length ≤ k) h.few (Nat.zero_le _) i⟩
theorem joinS_at {ps qs : List Pt} {a c : Nat} (h1 : SI a ps) (h2 : SI c qs) {j : Nat} (hj : j < 16) : (joinS ps qs).getD j (0, []) = joinPt sortN dd (ps.getD j (0, [])) (qs.getD j (0, [])) := joinT_lt h1.len (Nat.le_refl _) hj
theorem joinS_SI {ps qs : List Pt} {a c : Nat} (h1 : SI a ps) (h2 : SI c qs) (hk : a + c ≤ 4096) : SI (a + c) (joinS ps qs) := by
  have hlen : (joinS ps qs).length = 16 := by rw [joinS, joinT_len, h1.len]
  have all : ∀ p ∈ joinS ps qs, WfP p ∧ p.2.length ≤ a + c := fun p hp => by
    obtain ⟨i, hi, rfl⟩ := List.getElem_of_mem hp
    rw [hlen] at hi
    have e := joinS_at h1 h2 hi
    rw [getD_of (by omega)] at e
    rw [e]
    obtain ⟨w1, l1⟩ := h1.at i
    obtain ⟨w2, l2⟩ := h2.at i
    obtain ⟨r1, _, r3⟩ := joinPt_props w1 w2 (by omega)
    exact ⟨r1, by omega⟩
  exact ⟨hlen, fun p hp => (all p hp).1, fun p hp => (all p hp).2⟩
theorem DocI.of {k : Nat} {ps : List Pt} {w : List Dot} (h : SI k ps) (hs : Srt w) (hm : ∀ d, d ∈ w ↔ hasS ps d = true) : DocI ps w := ⟨h.len, h.wf, hs, hm⟩
end Go.Ab.Dot
set_option maxRecDepth 10000
set_option linter.unusedVariables false
set_option linter.unusedSimpArgs false
namespace Go.Ab.Dot
open Go Go.Ab
end Go.Ab.Dot
set_option maxRecDepth 10000
set_option linter.unusedVariables false
set_option linter.unusedSimpArgs false
namespace Go.Ab.Dot
open Go Go.Ab
def JoinAC (T : Nat) (c : CallT) : Prop := JoinC (fun xs => xs.length ≤ 60000) (fun xs => xs.length ≤ 60000) sortN dd T c
theorem JoinAC.use {T : Nat} {c : CallT} (h : JoinAC T c) {M : RM} {a b : Nat} {ps qs : List Pt} {S S' : Nat → Prop} {k l : Nat} {Q : PostV} (h1 : SetH T S M a ps) (h2 : SetH T S' M b qs) (he : a = b → ps = qs) (hn : ¬ S' a) (i1 : SI k ps) (i2 : SI l qs) (hkl : k + l ≤ 4096)
    (hQ : ∀ M', SetH T (fun e => S e ∨ M.next ≤ e) M' a (joinS ps qs) → Keep [a] M M' → Q (.tup []) M') : c [.ptr a 0, .ptr b 0] M Q := by
  refine h h1 h2 he hn (fun i hi => ?_) (fun p hp => ?_) (fun p hp => ?_) (fun i hi => ?_) hQ
  · have a1 := (i1.at i).2
    have a2 := (i2.at i).2
    show ((ps.getD i (0, [])).2 ++ (qs.getD i (0, [])).2).length ≤ 60000 ∧ (sortN ((ps.getD i (0, [])).2 ++ (qs.getD i (0, [])).2)).length ≤ 60000
    rw [sortN_len, List.length_append]
    omega
  · have := (i1.wf p hp).2.2.1
    have := i1.few p hp
    omega
  · have := (i2.wf p hp).2.2.1
    have := i2.few p hp
    omega
  · have a1 := i1.at i
    have a2 := i2.at i
    obtain ⟨_, j2, j3⟩ := jl_props (ps.getD i (0, [])) (qs.getD i (0, []))
    refine ⟨by have := j3; unfold jl at this; omega, fun x hx => ?_⟩
    rcases (j2 x).1 hx with h | h
    · have := a1.1.2.2.2.1 x h; omega
    · have := a2.1.2.2.2.1 x h; omega
end Go.Ab.Dot
set_option maxRecDepth 10000
set_option linter.unusedVariables false
set_option linter.unusedSimpArgs false
namespace Go.Ab.Crw
open Go Go.Ab Go.Ab.Dot
def CopyAC (T : Nat) (c : CallT) : Prop := ∀ {M : RM} {b : Nat} {qs : List Pt} {S' : Nat → Prop} {k : Nat} {Q : PostV}, SetH T S' M b qs → SI k qs → k ≤ 4096 →
  (∀ a M', M.next ≤ a → SetH T (fun e => a < e) M' a qs → Keep [] M M' → Q (.ptr a 0) M') → c [.ptr b 0] M Q
theorem joinPt_none {q : Pt} (h : WfP q) : joinPt sortN dd (0, []) q = q := by
  have e : jl (0, []) q = q.2 := asc_ext (jl_props _ _).1 h.1 fun x => by rw [(jl_props _ _).2.1]; simp
  show Go.Ab.Dot.settle (max 0 q.1) (jl (0, []) q) = q
  rw [e, Nat.zero_max]
  exact settle_none h.2.1
theorem empty_SI : SI 0 emptyS := ⟨rfl, empty_wf, fun p hp => by
  rw [emptyS, List.mem_replicate] at hp
  rw [hp.2]; exact Nat.le_refl _⟩
theorem copyA_spec {T : Nat} {cn cj : CallT} (hn : NewC T cn) (hj : JoinAC T cj) : CopyAC T fun args M Q => ∃ a0, args = [a0] ∧ Dot.W_rolodex_dot_Set_Copy cn cj a0 M Q := by
  intro M b qs S' k Q hB hi hk hQ
  refine ⟨_, rfl, ?_⟩
  unfold Dot.W_rolodex_dot_Set_Copy
  have hB0 := hB.below
  refine hn fun M1 hA1 k1 n1 => ?_
  have hB1 := hB0.keep k1 (by simp) (by simp)
  have hbl := hB.lt
  refine hj.use hA1 hB1 (fun e => by omega) (fun h => by omega) empty_SI hi (by omega) fun M2 hA2 k2 => ?_
  have e : joinS emptyS qs = qs := ext16 (joinS_SI empty_SI hi (by omega)).len hB.len fun j hj => by
    rw [joinS_at empty_SI hi hj, empty_getD, joinPt_none (hi.at j).1]
  rw [e] at hA2
  refine hQ M.next M2 (Nat.le_refl _) (hA2.mono (fun e h => ?_) (by omega)) (k1.then_new k2 (by simp))
  rcases h with h | h
  · exact h.elim
  · omega
section
variable {α : Type} {E : Enc α}
theorem app_full {M : RM} {b T bytes : Nat} {zs : List AV} {u : AV} {xs ys : List α} {K : PostV} (hb : b < M.next) (hh : M.heap b = some (.row (E.row xs) false T 0)) (hu : Sl E M u ys) (hx : 1 ≤ xs.length) (hs : 1 ≤ E.size)
    (hn : (xs.length + ys.length) * bytes ≤ 140737488355328) (hn2 : xs.length + ys.length ≤ 140737488355328)
    (hK : ∀ v' M', Sl E M' v' (xs ++ ys) → (∀ d ∈ blkOf v', d = b ∨ M.next ≤ d) → Keep [] M M' → K v' M') : appW T E.size bytes zs false (.slc b 0 xs.length (.ex xs.length)) u M K := by
  refine ⟨ys.length, E.row ys, SlR.newL hu _, ?_, by omega, ?_⟩
  · exact Nat.le_trans (Nat.mul_le_mul_right _ (Nat.le_add_left _ _)) hn
  have hlen : (E.row xs).length = xs.length * E.size := E.row_len xs
  have hld : M.loads b 0 (xs.length * E.size) = some (E.row xs) := by
    rw [RM.loads_row hh (by omega), List.drop_zero, ← hlen, List.take_length]
  by_cases h0 : ys.length = 0
  · have : ys = [] := List.length_eq_zero_iff.1 h0
    subst this
    refine ⟨.slc b 0 xs.length (.ex xs.length), M, by simp [appM], hK _ _ ?_ (by simp [blkOf]) (Keep.refl _ _)⟩
    rw [List.append_nil]
    exact .slc _ _ _ _ _ hb hld
  · refine ⟨.slc M.next 0 (xs.length + ys.length) (.op E.size), M.push (.row (E.row xs ++ E.row ys) true T 0), ?_, hK _ _ ?_ (by simp [blkOf]) ((Keep.refl _ _).push _)⟩
    · have hone : (E.row xs ++ E.row ys).all oneCell = true := by rw [List.all_append, E.row_all, E.row_all]; rfl
      simp only [appM, if_neg h0, if_neg (show ¬ xs.length + ys.length ≤ xs.length by omega), hld]
      rw [if_pos ⟨hn, by omega, hone⟩]
    · have hl2 : (E.row (xs ++ ys)).length = (xs.length + ys.length) * E.size := by rw [E.row_len, List.length_append]
      show SlR _ E.size _ (E.row (xs ++ ys)) (xs ++ ys).length
      rw [List.length_append]
      refine .slc _ _ _ _ _ (by simp [RM.push]) ?_
      rw [← E.row_append, RM.loads_row (RM.push_new _) (by omega), List.drop_zero, ← hl2, List.take_length]
end
structure StH (TS T : Nat) (B : Nat → Prop) (M : RM) (t : Nat) (ps : List Pt) (es : List Ent) : Prop where
  lt : t < M.next
  row : ∃ s v, M.heap t = some (.row [.ptr s 0, v] false TS 0) ∧ (∃ S : Nat → Prop, SetH T S M s ps ∧ ∀ d, S d → B d) ∧ Sl EntE M v es ∧ B s ∧ ∀ d ∈ blkOf v, B d
  nb : ¬ B t
theorem StH.keep {TS T t : Nat} {B : Nat → Prop} {M M' : RM} {ps : List Pt} {es : List Ent} {bs : List Nat} (h : StH TS T B M t ps es) (k : Keep bs M M') (ht : t ∉ bs) (hb : ∀ d ∈ bs, ¬ B d) : StH TS T B M' t ps es := by
  obtain ⟨s, v, h1, ⟨S, h2, h2'⟩, h3, h4, h5⟩ := h.row
  exact ⟨Nat.lt_of_lt_of_le h.lt k.next, ⟨s, v, k.heap_of h1 h.lt ht, ⟨S, h2.keep k (fun hs => hb s hs h4) (fun d hd hS => hb d hd (h2' d hS)), h2'⟩, SlR.keep h3 k (fun d hd hm => hb d hm (h5 d hd)), h4, h5⟩, h.nb⟩
theorem StH.mono {TS T t : Nat} {B B' : Nat → Prop} {M : RM} {ps : List Pt} {es : List Ent} (h : StH TS T B M t ps es) (hB : ∀ d, B d → B' d) (hn : ¬ B' t) : StH TS T B' M t ps es := by
  obtain ⟨s, v, h1, ⟨S, h2, h2'⟩, h3, h4, h5⟩ := h.row
  exact ⟨h.lt, ⟨s, v, h1, ⟨S, h2, fun d hd => hB d (h2' d hd)⟩, h3, hB s h4, fun d hd => hB d (h5 d hd)⟩, hn⟩
theorem StH.below {TS T t : Nat} {B : Nat → Prop} {M : RM} {ps : List Pt} {es : List Ent} (h : StH TS T B M t ps es) : StH TS T (fun d => B d ∧ d < M.next) M t ps es := by
  obtain ⟨s, v, h1, ⟨S, h2, h2'⟩, h3, h4, h5⟩ := h.row
  exact ⟨h.lt, ⟨s, v, h1, ⟨_, h2.below, fun d hd => ⟨h2' d hd.1, hd.2⟩⟩, h3, ⟨h4, h2.lt⟩, fun d hd => ⟨h5 d hd, SlR.lt h3 d hd⟩⟩, fun hh => h.nb hh.1⟩
def NewStC (TS T : Nat) (c : CallT) : Prop := ∀ {M : RM} {Q : PostV}, (∀ t M', M.next ≤ t → StH TS T (fun d => M.next ≤ d ∧ d < t) M' t emptyS [] → Keep [] M M' → Q (.ptr t 0) M') → c [] M Q
theorem newSt_spec {TS T : Nat} {cn : CallT} (hn : NewC T cn) : NewStC TS T fun args M Q => args = [] ∧ W_rolodex_crdt_New cn TS M Q := by
  intro M Q hQ
  refine ⟨rfl, ?_⟩
  unfold W_rolodex_crdt_New
  refine hn fun M1 h1 k1 n1 => ?_
  rw [buildW_eq]
  refine ⟨[.ptr M.next 0, nilS], rfl, ?_⟩
  rw [boxW_agg rfl (by simp), newW_eq]
  have k2 : Keep [] M1 (M1.push (.row [.ptr M.next 0, nilS] false TS 0)) := (Keep.refl _ _).push _
  refine hQ _ _ (by omega) ⟨by simp [RM.push], ⟨M.next, nilS, RM.push_new _, ⟨fun _ => False, h1.keep k2 (by simp) (by simp), fun d hd => hd.elim⟩, .nil, ⟨Nat.le_refl _, by omega⟩, by simp [blkOf]⟩, fun h => by omega⟩ (k1.trans k2)
def addAll (ps : List Pt) (ds : List Dot) : List Pt := ds.foldl (fun u d => (addS u d).2) ps
theorem addAll_take {ps : List Pt} {ds : List Dot} {i : Nat} (h : i < ds.length) : addAll ps (ds.take (i + 1)) = (addS (addAll ps (ds.take i)) ds[i]).2 := by
  rw [List.take_succ_eq_append_getElem h, addAll, List.foldl_append]; rfl
theorem addS_SI {k : Nat} {ps : List Pt} {d : Dot} (h : SI k ps) : SI (k + 1) (addS ps d).2 := ⟨by rw [addS_len, h.len], addS_wf h.wf, addS_more h.few⟩
theorem _root_.Go.Ab.Dot.SI.mono {k l : Nat} {ps : List Pt} (h : SI k ps) (hl : k ≤ l) : SI l ps := ⟨h.len, h.wf, fun p hp => Nat.le_trans (h.few p hp) hl⟩
theorem addAll_SI {k : Nat} : ∀ {ds : List Dot} {ps : List Pt}, SI k ps → SI (k + ds.length) (addAll ps ds)
  | [], ps, h => h
  | d :: ds, ps, h => by
    have := addAll_SI (ds := ds) (addS_SI (d := d) h)
    exact this.mono (by simp; omega)
def entOf (e : EvT) : Ent := (e.1, (e.2.2.1, (e.2.2.2.1, e.2.2.2.2)))
def applyE (ps : List Pt) (es : List Ent) (e : EvT) (ks : List Dot) : List Ent :=
  (if decide (e.2.1 = 1) && !hasS ps e.1 then sortE ltE (es ++ [entOf e]) else es).filter fun x => !decide (x.1 ∈ ks)
def applyP (ps : List Pt) (e : EvT) (ks : List Dot) : List Pt := addAll ps (e.1 :: ks)
theorem kills_good : ∀ {ks : List Dot} {d : Dot} {p : Option Dot}, killsOk d p ks = true → ∀ k ∈ ks, good k = true
  | [], _, _, _, k, hk => by simp at hk
  | x :: ks, d, p, h, k, hk => by
    simp only [killsOk, Bool.and_eq_true] at h
    rcases List.mem_cons.1 hk with rfl | hk
    · exact h.1.1.1
    · exact kills_good h.2 k hk
theorem goodEv_parts {e : EvT} {ks : List Dot} (h : goodEv e ks = true) : good e.1 = true ∧ ks.length ≤ 64 ∧ (∀ k ∈ ks, good k = true) ∧ killsOk e.1 none ks = true ∧ opOk e = true := by
  simp only [goodEv, Bool.and_eq_true, decide_eq_true_eq] at h
  exact ⟨h.1.1.1.1, h.1.1.2, kills_good h.1.2, h.1.2, h.2⟩
theorem fillEntOf (e : EvT) : fillL [(N .i64 0), (N .u64 0), (St []), (St []), (St [])] [(0, 2, .agg (dcells e.1)), (2, 1, St e.2.2.1), (3, 1, St e.2.2.2.1), (4, 1, St e.2.2.2.2)] = some (EntE.cells (entOf e)) := rfl
def ApplyC (TS T : Nat) (c : CallT) : Prop := ∀ {M : RM} {t k : Nat} {B : Nat → Prop} {ps : List Pt} {es : List Ent} {e : EvT} {kv : AV} {ks : List Dot} {Q : PostV}, StH TS T B M t ps es → SI k ps → k + 65 ≤ 4000 → es.length ≤ 50000 → Sl DotE M kv ks → t ∉ blkOf kv →
  (goodEv e ks = false → ∀ M', Keep [] M M' → Q (.tup [Bo false, N .i64 1]) M') →
  (goodEv e ks = true → ∀ M', StH TS T (fun d => B d ∨ M.next ≤ d) M' t (applyP ps e ks) (applyE ps es e ks) → Keep [t] M M' → Q (.tup [Bo (!withinS (applyP ps e ks) ps || !decide (applyE ps es e ks = es)), N .i64 0]) M') → c [.ptr t 0, .agg (evRow e kv)] M Q
theorem apply_spec {TS T TE TD TN nc nd : Nat} {cG cC cA cH cL cS cD cW cQ : CallT} {cv : FuncId → CallT} (hG : GoodEvC cG) (hC : CopyAC T cC) (hA : AddSC T cA) (hH : HasSC T cH) (hL : CloneEC TN cL) (hS : SortFnE (.fn (.func nc) [] []) ltE TN cS)
    (hD : ∀ b e kv ks, ks.length ≤ 1000000 → DeleteFC TN (EvAt TE b e kv ks) (fun x => decide (x.1 ∈ ks)) (.fn (.func nd) [] [.ptr b 0]) cD) (hW : WithinC T cW) (hQ' : EqualEC cQ) :
    ApplyC TS T fun args M Q => ∃ a0 a1, args = [a0, a1] ∧ W_rolodex_crdt_State_Apply TE cG cC TD cA cH TN cL cS nc nd cD cW cQ a0 a1 M Q := by
  intro M0 t k B ps es e kv ks Q hst hsi hk hes hkv0 htk hbad hok
  refine ⟨_, _, rfl, ?_⟩
  unfold W_rolodex_crdt_State_Apply
  simp only [fuseM, fuseK, fuseKM, fuseMK, joinW_shut]
  rw [boxW_agg (ev_one hkv0) (by simp), newW_eq]
  have k0 : Keep [] M0 (M0.push (.row (evRow e kv) false TE 0)) := (Keep.refl _ _).push _
  have h0 : (M0.push (.row (evRow e kv) false TE 0)).heap M0.next = some (.row (evRow e kv) false TE 0) := RM.push_new _
  have hlt : M0.next < (M0.push (.row (evRow e kv) false TE 0)).next := by simp [RM.push]
  have hs : Sl DotE (M0.push (.row (evRow e kv) false TE 0)) kv ks := SlR.keep hkv0 k0 (by simp)
  have hkl : ∀ d ∈ blkOf kv, d < M0.next := SlR.lt hkv0
  have n0 := k0.next
  generalize M0.push (.row (evRow e kv) false TE 0) = M at *
  generalize hb0 : M0.next = b at *
  rw [loadN_at (n := 7) h0 (by simp [EvE.len]; rfl)]
  refine hG hs fun M1 k1 => ?_
  have k01 := k0.trans k1
  rw [notW_Bo]
  refine condB (fun hg => ?_) (fun hg => ?_)
  · exact hbad (by simpa using hg) M1 k01
  have hge : goodEv e ks = true := by simpa using hg
  obtain ⟨hgd, hkl64, hkg, _, _⟩ := goodEv_parts hge
  have hok := hok hge
  have n1 := k1.next
  obtain ⟨s, v, r1, ⟨S, r2, r2'⟩, r3, r4, r5⟩ := hst.row
  have htl := hst.lt
  have e1 := k1.heap_of h0 hlt (by simp)
  have t1 := k01.heap_of r1 htl (by simp)
  have set1 := (r2.below).keep k01 (by simp) (by simp)
  have slt := r2.lt
  rw [ptrW_ptr, fld0, load1_at t1 rfl]
  -- the set is copied
  refine hC set1 hsi (by omega) fun s' M2 hs' set2 k2 => ?_
  have n2 := k2.next
  have hs'lt := set2.lt
  have e2 := k2.heap_of e1 (by omega) (by simp)
  have k02 := k01.trans k2
  rw [fld0, ev_ld e2, rows1 (x := .agg (dcells e.1)) (size := 2) rfl rfl rfl, newW_eq]
  have k3 : Keep [] M2 (M2.push (.row (AV.agg (dcells e.1)).cells false TD 0)) := (Keep.refl _ _).push _
  have l3 : (M2.push (.row (AV.agg (dcells e.1)).cells false TD 0)).heap M2.next = some (.row (DotE.row [e.1]) false TD 0) := by
    rw [RM.push_new]; rfl
  have n3 : M2.next < (M2.push (.row (AV.agg (dcells e.1)).cells false TD 0)).next := by simp [RM.push]
  have e3 := k3.heap_of e2 (by omega) (by simp)
  have set3 := set2.keep k3 (by simp) (by simp)
  have kv3 : Sl DotE (M2.push (.row (AV.agg (dcells e.1)).cells false TD 0)) kv ks := SlR.keep hkv0 (k02.trans k3) (by simp)
  have k03 := k02.trans k3
  generalize M2.push (.row (AV.agg (dcells e.1)).cells false TD 0) = M3 at *
  generalize hb2 : M2.next = b2 at *
  rw [fld0, load1_at e3 rfl]
  refine app_full (E := DotE) (xs := [e.1]) (by omega) l3 kv3 (by simp) (by decide) (by simp; omega) (by simp; omega) fun dv M4 hdv hdb k4 => ?_
  have hds : (e.1 :: ks).length ≤ 65 := by simp; omega
  have k34 : Keep [] M3 M4 := k4
  have n4 := k4.next
  have e4 := k4.heap_of e3 (by omega) (by simp)
  have set4 := set3.keep k4 (by simp) (by simp)
  have k04 := k03.trans k4
  have hdv : Sl DotE M4 dv (e.1 :: ks) := hdv
  have hdl := SlR.lt hdv
  have hdg : ∀ d ∈ e.1 :: ks, good d = true := fun d hd => by
    rcases List.mem_cons.1 hd with rfl | hd
    · exact hgd
    · exact hkg d hd
  have hdne : s' ∉ blkOf dv := fun hm => by
    rcases hdb s' hm with h | h <;> omega
  generalize hds' : e.1 :: ks = ds at *
  rw [SlR.len hdv]
  refine loopW_ind (fun m ys M6 => ∃ i : Nat, m = ds.length - i ∧ ys = [N .i64 (i : Int)] ∧ i ≤ ds.length ∧ Keep [s'] M4 M6 ∧ SetH T (fun e => s' < e) M6 s' (addAll ps (ds.take i))) _ ⟨0, rfl, rfl, Nat.zero_le _, Keep.refl _ _, set4⟩ ?_
  rintro next m ys M6 hnext ⟨i, rfl, rfl, hi, k6, set6⟩
  dsimp only [nthD]
  have hdv6 : Sl DotE M6 dv ds := SlR.keep hdv k6 (fun b hb hm => by simp at hm; subst hm; exact hdne hb)
  have si6 : SI (k + (ds.take i).length) (addAll ps (ds.take i)) := addAll_SI hsi
  have hti : (ds.take i).length ≤ 65 := by rw [List.length_take]; omega
  rw [lssN]
  refine condB (fun hlti => ?_) (fun hge2 => ?_)
  · have hlti : i < ds.length := of_decide_eq_true hlti
    rw [kill_at hdv6 hlti, newW_eq, storeW_all (n := 2) (x := .agg (dcells ds[i])) (l := [N .i64 0, N .u64 0]) (RM.push_new _) rfl rfl rfl]
    have k7 : Keep [] M6 ((M6.push (.row [N .i64 0, N .u64 0] false TD 0)).put M6.next (.row (AV.agg (dcells ds[i])).cells false TD 0)) := ((Keep.refl _ _).push _).new _ (Nat.le_refl _)
    have hk7 : ((M6.push (.row [N .i64 0, N .u64 0] false TD 0)).put M6.next (.row (AV.agg (dcells ds[i])).cells false TD 0)).heap M6.next = some (.row (dcells ds[i]) false TD 0) := heap_put_eq _
    generalize (M6.push (.row [N .i64 0, N .u64 0] false TD 0)).put M6.next (.row (AV.agg (dcells ds[i])).cells false TD 0) = M7 at *
    rw [loadN_at (n := 2) hk7 rfl]
    have set7 := set6.keep k7 (by simp) (by simp)
    have n7 := k7.next
    have s6 := set6.lt
    refine hA set7 si6.wf fun M8 set8 k8 => ?_
    have hgood := addS_good (ps := addAll ps (ds.take i)) (d := ds[i]) (fun p hp => by have := si6.few p hp; omega) (hdg _ (List.getElem_mem hlti))
    have h10 : (addS (addAll ps (ds.take i)) ds[i]).1 = 0 := by rw [hgood]
    rw [h10, intW_neq, show ((0 : Int) != 0) = false from rfl, condF, add1 (by omega)]
    refine hnext _ _ _ (by omega) ⟨i + 1, rfl, rfl, by omega, (k6.trans (k7.mono (cs := [s']) (by simp))).trans k8, ?_⟩
    rw [addAll_take hlti]
    exact set8.mono (fun d hd => by rcases hd with hd | hd <;> omega) (by omega)
  have hie : i = ds.length := by
    have : ¬ i < ds.length := of_decide_eq_false hge2
    omega
  subst hie
  rw [List.take_length] at set6 si6
  clear hnext hge2
  have hps' : addAll ps ds = applyP ps e ks := by rw [← hds']; rfl
  rw [hps'] at set6 si6
  have si6 := si6.mono (l := k + 65) (by omega)
  have n6 := k6.next
  have k06 : Keep [] M0 M6 := k04.then_new k6 (fun d hd => by simp at hd; omega)
  have e6 := k6.heap_of e4 (by omega) (by simp; omega)
  have t6 := k06.heap_of r1 htl (by simp)
  have v6 : Sl EntE M6 v es := SlR.keep r3 k06 (by simp)
  have old6 := (r2.below).keep k06 (by simp) (by simp)
  have kv6 : Sl DotE M6 kv ks := SlR.keep hkv0 k06 (by simp)
  rw [ptrW_ptr, fldW_ptr, load1_at (i := 0 + 1) t6 rfl]
  have set6b := set6.below
  refine joinV_spec (fun zs M' => ∃ (w : AV) (es1 : List Ent), zs = [w] ∧ Sl EntE M' w es1 ∧ es1.length ≤ 50001 ∧ es1 = (if decide (e.2.1 = 1) && !hasS ps e.1 then sortE ltE (es ++ [entOf e]) else es) ∧ Keep [] M6 M') ?_ ?_
  · rintro zs M9 ⟨w, es1, rfl, hw, hwl, hes1, k9⟩
    dsimp only [nthD]
    have n9 := k9.next
    refine hL hw (by omega) fun c M10 oc k10 => ?_
    have n10 := k10.next
    have k610 := k9.trans k10
    have k010 := k06.trans k610
    have ev10 : EvAt TE b e kv ks M10 := ⟨by omega, k610.heap_of e6 (by omega) (by simp), SlR.keep kv6 k610 (by simp)⟩
    refine hD b e kv ks (by omega) ev10 (fun Ma Mb ks' hP kk hsub => hP.keep kk (fun hm => by have := (oc.blk b (hsub b hm)).1; omega) (fun d hd hm => by have := hkl d hd; have := (oc.blk d (hsub d hm)).1; omega)) oc (by omega) fun x M11 hx hxb k11 => ?_
    have k611 : Keep [] M6 M11 := k610.then_new k11 (fun d hd => .inl (by have := (oc.blk d hd).1; omega))
    have k011 := k06.trans k611
    have t11 := k611.heap_of t6 (by omega) (by simp)
    have new11 := set6b.keep k611 (by simp) (by simp)
    have old11 := old6.keep k611 (by simp) (by simp)
    have v11 : Sl EntE M11 v es := SlR.keep v6 k611 (by simp)
    rw [ptrW_ptr, fld0, load1_at t11 rfl]
    refine hW new11 old11 (fun p hp => by have := si6.few p hp; omega) (fun q hq => ⟨(hsi.wf q hq).1, by have := hsi.few q hq; omega⟩) fun M12 k12 => ?_
    have hxl : (es1.filter fun x => !decide (x.1 ∈ ks)).length ≤ es1.length := List.length_filter_le _ _
    have t12 := k12.heap_of t11 (by have := k611.next; omega) (by simp)
    have hfin : es1.filter (fun x => !decide (x.1 ∈ ks)) = applyE ps es e ks := by rw [hes1]; rfl
    rw [hfin] at hx hxl
    rw [notW_Bo]
    refine orM' (p := !decide (applyE ps es e ks = es)) (fun _ k hk => ?_) ?_
    · rw [ptrW_ptr, fldW_ptr, load1_at (i := 0 + 1) t12 rfl]
      refine hQ' (SlR.keep hx k12 (by simp)) (SlR.keep v11 k12 (by simp)) (by omega) ?_
      rw [notW_Bo]
      exact hk
    have x12 : Sl EntE M12 x (applyE ps es e ks) := SlR.keep hx k12 (by simp)
    rw [ptrW_ptr, fld0, storeW_at t12 (by simp) rfl rfl, ptrW_ptr, fldW_ptr]
    rw [storeW_at (heap_put_eq _) (by simp) (SlR.cells x12) (SlR.one x12)]
    have kk : Keep [t] M12 ((M12.put t (.row ([AV.ptr s 0, v].set 0 (.ptr s' 0)) false TS 0)).put t (.row (([AV.ptr s 0, v].set 0 (.ptr s' 0)).set (0 + 1) x) false TS 0)) := ((Keep.refl _ _).put _ (.inr (by simp))).put _ (.inr (by simp))
    have hh : ((M12.put t (.row ([AV.ptr s 0, v].set 0 (.ptr s' 0)) false TS 0)).put t (.row (([AV.ptr s 0, v].set 0 (.ptr s' 0)).set (0 + 1) x) false TS 0)).heap t = some (.row [.ptr s' 0, x] false TS 0) := heap_put_eq _
    have hnx : ((M12.put t (.row ([AV.ptr s 0, v].set 0 (.ptr s' 0)) false TS 0)).put t (.row (([AV.ptr s 0, v].set 0 (.ptr s' 0)).set (0 + 1) x) false TS 0)).next = M12.next := rfl
    generalize (M12.put t (.row ([AV.ptr s 0, v].set 0 (.ptr s' 0)) false TS 0)).put t (.row (([AV.ptr s 0, v].set 0 (.ptr s' 0)).set (0 + 1) x) false TS 0) = M13 at *
    have n12 := k12.next
    have n611 := k611.next
    refine hok M13 ⟨by omega, ⟨s', x, hh, ⟨fun d => s' < d ∧ d < M6.next, (new11.keep k12 (by simp) (by simp)).keep kk (by simp; omega) (fun d hd h => by simp at hd; omega), fun d hd => .inr (by omega)⟩, SlR.keep x12 kk (fun d hd hm => ?_), .inr (by omega), fun d hd => .inr (by have := (oc.blk d (hxb d hd)).1; omega)⟩, fun hB => ?_⟩ ((k011.trans k12).mono (by simp) |>.trans kk)
    · simp at hm
      subst hm
      have := (oc.blk d (hxb d hd)).1
      omega
    · rcases hB with hB | hB
      · exact hst.nb hB
      · omega
  intro J hJ
  have e2v : ∀ {M' : RM}, Keep [] M6 M' → M'.heap b = some (.row (evRow e kv) false TE 0) := fun k => k.heap_of e6 (by omega) (by simp)
  have op1 : ((e.2.1 : Int) == 1) = decide (e.2.1 = 1) := by by_cases h : e.2.1 = 1 <;> simp [h]
  rw [fld0, load1_at e6 rfl, intW_eql, op1]
  refine andP (P := fun M' => Keep [] M6 M') (p := !hasS ps e.1) (Keep.refl _ _) (fun _ k hk => ?_) fun M7 k7 => ?_
  · rw [ptrW_ptr, fld0, load1_at t6 rfl, fld0, ev_ld e6]
    refine hH old6 (fun q hq => ⟨(hsi.wf q hq).1, by have := hsi.few q hq; omega⟩) fun M7 k7 => ?_
    rw [notW_Bo]
    exact hk M7 k7
  refine condB (fun hc => ?_) (fun hc => ?_)
  · have e7 := e2v k7
    rw [fld0, ev_ld e7, fld0, load1_at e7 rfl, fld0, load1_at e7 rfl, fld0, load1_at e7 rfl, buildW_eq]
    refine ⟨_, fillEntOf e, ?_⟩
    rw [rows1 (x := .agg (EntE.cells (entOf e))) (size := 5) rfl rfl rfl, newR_eq]
    have k8 : Keep [] M7 (M7.push (.row (AV.agg (EntE.cells (entOf e))).cells false TN 0)) := (Keep.refl _ _).push _
    have h8 : (M7.push (.row (AV.agg (EntE.cells (entOf e))).cells false TN 0)).heap M7.next = some (.row (EntE.cells (entOf e)) false TN 0) := RM.push_new _
    have n8 : M7.next < (M7.push (.row (AV.agg (EntE.cells (entOf e))).cells false TN 0)).next := by simp [RM.push]
    generalize M7.push (.row (AV.agg (EntE.cells (entOf e))).cells false TN 0) = M8 at *
    generalize hb7 : M7.next = b7 at *
    have k68 := k7.trans k8
    refine hL (SlR.keep v6 k68 (by simp)) (by omega) fun c M9 oc k9 => ?_
    have k69 := k68.trans k9
    have e9 := e2v k69
    have n9 := k9.next
    rw [ev_ld e9]
    refine ⟨rfl, ?_⟩
    rw [load1_at e9 rfl]
    refine ⟨rfl, ?_⟩
    rw [load1_at e9 rfl]
    refine ⟨rfl, ?_⟩
    rw [load1_at e9 rfl]
    refine ⟨rfl, ?_⟩
    rw [rows1 (x := .agg (EntE.cells (entOf e))) (size := 5) rfl rfl rfl, sameB_some]
    have h9 := k9.heap_of h8 n8 (by simp)
    refine ⟨⟨h9, rfl⟩, ?_⟩
    have slx : Sl EntE M9 (.slc b7 0 1 (.ex 1)) [entOf e] := by
      refine .slc _ _ _ _ _ (by omega) ?_
      rw [RM.loads_row h9 (by rw [EntE.len]; decide), List.drop_zero, Enc.row_one]
      have : (EntE.cells (entOf e)).length = 1 * EntE.size := by rw [EntE.len, Nat.one_mul]
      rw [← this, List.take_length]
    refine app_all (E := EntE) oc n9 (by decide) slx (by simp; omega) (by simp; omega) fun c2 M10 oc2 k10 n10 _ => ?_
    have k610 : Keep [] M6 M10 := k69.then_new k10 (fun d hd => .inl (by have := (oc.blk d hd).1; have := k68.next; omega))
    refine hS oc2 (by simp; omega) fun M11 oc3 k11 => ?_
    have k611 : Keep [] M6 M11 := k610.then_new k11 (fun d hd => .inl (by have := (oc2.blk d hd).1; have := k68.next; omega))
    have hsl : (sortE ltE (es ++ [entOf e])).length = (es ++ [entOf e]).length := (sortE_perm swo_ltE _).length_eq
    exact hJ _ _ ⟨c2, _, rfl, oc3.slR, by rw [hsl]; simp; omega, by rw [if_pos hc], k611⟩
  · exact hJ _ _ ⟨v, es, rfl, SlR.keep v6 k7 (by simp), by omega, by rw [if_neg (by rw [hc]; decide)], k7⟩
end Go.Ab.Crw
set_option maxRecDepth 10000
set_option linter.unusedVariables false
set_option linter.unusedSimpArgs false
namespace Go.Ab.Crw
open Go Go.Ab Go.Ab.Dot
abbrev Ev := EvT × List Dot
def EvR : Rep Ev := Rep.pre EvE (DotE.rep.slice)
theorem ev_at {M : RM} {v : AV} {l : List Ev} {S : Nat → Prop} (h : SlD EvR M v l S) {i : Nat} (hi : i < l.length) :
    ∃ b o kv, (∀ (kd : IntKind) (K : AV → Prop), idxS v (N kd (i : Int)) 7 K = K (.ptr b o)) ∧ (∀ K : AV → Prop, loadN M (.ptr b o) 7 K = K (.agg (evRow l[i].1 kv))) ∧ (∀ K : AV → Prop, loadN M (.ptr b o) 2 K = K (.agg (dcells l[i].1.1))) ∧ Sl DotE M kv l[i].2 ∧ ∀ d ∈ blkOf kv, S d := by
  obtain ⟨b, o, cs, _, _, hidx, hld, ds, hcs, kv, hds, hkv⟩ := h.at (i := i) 7 (i : Int) hi rfl rfl
  subst hds
  subst hcs
  refine ⟨b, o, kv, hidx, fun K => ?_, fun K => ?_, SlD.sl hkv, ?_⟩
  · rw [loadN_ptr, hld]
    simp
  · have e2 : (evRow l[i].1 kv).take 2 = dcells l[i].1.1 := rfl
    rw [loadN_ptr, loads_head hld 2 (by decide), e2]
    simp
  · obtain ⟨_, _, h2, _⟩ := hkv
    exact h2
theorem ev_rel {M : RM} {e : EvT} {kv : AV} {ks : List Dot} {S : Nat → Prop} (h : Sl DotE M kv ks) (hS : ∀ d ∈ blkOf kv, S d) : EvR.rel M (evRow e kv) (e, ks) S := ⟨[kv], rfl, kv, rfl, SlD.of_sl h hS⟩
def EntriesC (TS T TN : Nat) (c : CallT) : Prop := ∀ {M : RM} {t : Nat} {B : Nat → Prop} {ps : List Pt} {es : List Ent} {Q : PostV}, StH TS T B M t ps es → es.length ≤ 1000000 → (∀ v M', Ow EntE M' M.next TN v es → Keep [] M M' → Q v M') → c [.ptr t 0] M Q
theorem entries_spec {TS T TN : Nat} {cL : CallT} (hL : CloneEC TN cL) : EntriesC TS T TN fun args M Q => ∃ a0, args = [a0] ∧ W_rolodex_crdt_State_Entries cL a0 M Q := by
  intro M t B ps es Q h hl hQ
  refine ⟨_, rfl, ?_⟩
  unfold W_rolodex_crdt_State_Entries
  obtain ⟨s, v, r1, _, r3, _, _⟩ := h.row
  rw [ptrW_ptr, fldW_ptr, load1_at (i := 0 + 1) r1 rfl]
  exact hL r3 hl hQ
def ownStep (out : List Ev) (x : Ev) : List Ev := if !(!goodEv x.1 x.2 || out.any fun y => decide (y.1.1 = x.1.1)) then out ++ [x] else out
def ownP (l : List Ev) : List Ev := l.foldl ownStep []
theorem ownP_take {l : List Ev} {i : Nat} (h : i < l.length) : ownP (l.take (i + 1)) = ownStep (ownP (l.take i)) l[i] := by
  rw [List.take_succ_eq_append_getElem h, ownP, List.foldl_append]; rfl
theorem ownStep_len (out : List Ev) (x : Ev) : (ownStep out x).length ≤ out.length + 1 := by
  unfold ownStep; split <;> simp
theorem ownP_len (l : List Ev) : ∀ i, (ownP (l.take i)).length ≤ i
  | 0 => Nat.le_refl _
  | i + 1 => by
    by_cases h : i < l.length
    · rw [ownP_take h]
      have := ownP_len l i
      have := ownStep_len (ownP (l.take i)) l[i]
      omega
    · rw [List.take_of_length_le (by omega)]
      have := ownP_len l i
      rw [List.take_of_length_le (by omega)] at this
      omega
theorem ownP_good : ∀ (l : List Ev) (out : List Ev), (∀ x ∈ out, goodEv x.1 x.2 = true) → ∀ x ∈ l.foldl ownStep out, goodEv x.1 x.2 = true
  | [], out, h => h
  | y :: l, out, h => ownP_good l (ownStep out y) fun x hx => by
    unfold ownStep at hx
    split at hx
    · rename_i hc
      rcases List.mem_append.1 hx with hx | hx
      · exact h x hx
      · simp only [List.mem_singleton] at hx
        subst hx
        simp only [Bool.not_eq_true', Bool.or_eq_false_iff, Bool.not_eq_false'] at hc
        exact hc.1
    · exact h x hx
def OwnC (TE : Nat) (c : CallT) : Prop := ∀ {M : RM} {v : AV} {l : List Ev} {Q : PostV}, SlD EvR M v l (fun d => d < M.next) → l.length ≤ 10000 →
  (∀ v' M', SlD EvR M' v' (ownP l) (fun d => d < M'.next) → Keep [] M M' → Q v' M') → c [v] M Q
theorem own_spec {TE : Nat} {cG : CallT} (hG : GoodEvC cG) : OwnC TE fun args M Q => ∃ a0, args = [a0] ∧ W_rolodex_rolodexlaw14_own TE cG a0 M Q := by
  intro M v l Q hv hl hQ
  refine ⟨_, rfl, ?_⟩
  unfold W_rolodex_rolodexlaw14_own
  simp only [fuseM, fuseK, fuseKM, joinW_shut]
  refine ⟨_, _, _, _, rfl, rfl, by decide, by decide, by decide, by decide, ?_⟩
  dsimp only
  rw [newW_eq]
  have kM : Keep [] M (M.push (.row (repL [(N .i64 0), (N .u64 0), (N .i64 0), (St []), (St []), (St []), (.sc (.slice none 0 0))] 0) false TE 0)) := (Keep.refl _ _).push _
  have oM : OwD EvR (M.push (.row (repL [(N .i64 0), (N .u64 0), (N .i64 0), (St []), (St []), (St []), (.sc (.slice none 0 0))] 0) false TE 0)) M.next TE (.slc M.next 0 0 (.ex 0)) [] (fun d => d < M.next) := ⟨[], Own.lit M (Nat.le_refl _), .nil⟩
  refine loopW_ind (fun m ys M3 => ∃ (i : Nat) (w : AV), m = l.length - i ∧ ys = [w, N .i64 (i : Int)] ∧ i ≤ l.length ∧ Keep [] M M3 ∧ OwD EvR M3 M.next TE w (ownP (l.take i)) (fun d => d < M.next)) _ ⟨0, _, rfl, rfl, Nat.zero_le _, kM, oM⟩ ?_
  rintro next m ys M3 hnext ⟨i, w, rfl, rfl, hi, k3, ow⟩
  dsimp only [nthD]
  have hv3 : SlD EvR M3 v l (fun d => d < M.next) := hv.keep k3 (by simp)
  have n3 := k3.next
  rw [hv3.len, lssN]
  refine condB (fun hlt => ?_) (fun hge => ?_)
  · have hlt : i < l.length := of_decide_eq_true hlt
    refine joinV_spec (fun zs M' => ∃ w', zs = [w'] ∧ Keep [] M M' ∧ OwD EvR M' M.next TE w' (ownP (l.take (i + 1))) (fun d => d < M.next)) ?_ ?_
    · rintro zs M' ⟨w', rfl, k', o'⟩
      dsimp only [nthD]
      rw [add1 (by omega)]
      exact hnext _ _ _ (by omega) ⟨i + 1, w', rfl, rfl, by omega, k', o'⟩
    intro J hJ
    rw [ownP_take hlt] at hJ
    have hol := ownP_len l i
    obtain ⟨b, o, kv, hidx, hl7, hl2, hkv, hkb⟩ := ev_at hv3 hlt
    rw [hidx, hl7]
    refine hG hkv fun M4 k4 => ?_
    rw [notW_Bo]
    have ow4 := ow.keep k4 (by simp) (by simp)
    generalize ownP (l.take i) = out at *
    have k34 := k3.trans k4
    have n4 := k34.next
    have hv4 : SlD EvR M4 v l (fun d => d < M.next) := hv.keep k34 (by simp)
    have owS : SlD EvR M4 w out (fun d => d < M4.next) := (ow4.mono (fun d hd => by omega)).slD (fun d _ h => h)
    obtain ⟨b4, o4, kv4, hidx4, hl74, hl24, hkv4, hkb4⟩ := ev_at hv4 hlt
    refine loopW_ind (fun m ys M5 => ∃ j : Nat, m = out.length - j ∧ ys = [Bo (!goodEv l[i].1 l[i].2 || (out.take j).any fun y => decide (y.1.1 = l[i].1.1)), N .i64 (j : Int)] ∧ j ≤ out.length ∧ M5 = M4) _ ⟨0, rfl, by simp, Nat.zero_le _, rfl⟩ ?_
    rintro next2 m ys M5 hnext2 ⟨j, rfl, rfl, hj, rfl⟩
    dsimp only [nthD]
    rw [owS.len, lssN]
    refine condB (fun hlt2 => ?_) (fun hge2 => ?_)
    · have hlt2 : j < out.length := of_decide_eq_true hlt2
      obtain ⟨b5, o5, kv5, hidx5, hl75, hl25, _, _⟩ := ev_at owS hlt2
      refine orP (P := fun M' => M' = M5) (p := decide (out[j].1.1 = l[i].1.1)) rfl (fun _ k hk => ?_) fun M' hM' => ?_
      · rw [hidx5, fldW_ptr, Nat.add_zero, hl25, hidx4, fldW_ptr, Nat.add_zero, hl24, aggEqW_of rfl rfl (dot_eq _ _), Bool.bne_false]
        exact hk M5 rfl
      subst hM'
      rw [add1 (by omega)]
      refine hnext2 _ _ _ (by omega) ⟨j + 1, rfl, ?_, by omega, rfl⟩
      rw [List.take_succ_eq_append_getElem hlt2, List.any_append, List.any_cons, List.any_nil, Bool.or_false, Bool.or_assoc]
    · have hje : j = out.length := by
        have : ¬ j < out.length := of_decide_eq_false hge2
        omega
      subst hje
      rw [List.take_length, notW_Bo]
      refine condB (fun hc => ?_) (fun hc => ?_)
      · rw [hidx4, hl74, rows1 (x := .agg (evRow l[i].1 kv4)) (size := 7) rfl (ev_one hkv4) rfl, newW_eq]
        have hd := ow4.blk
        refine OwD.app (R := EvR) ow4 (ev_rel hkv4 hkb4) (by omega) (by decide) (fun d hd' h => by have := (hd d hd').1; omega) (fun d h => by omega) (by omega) (by omega) ?_
        intro w' M6 o6 k6 n6 _ _
        refine hJ _ _ ⟨w', rfl, k34.then_new k6 (fun d hd' => .inl (hd d hd').1), ?_⟩
        rw [ownStep, if_pos hc]
        exact o6
      · refine hJ _ _ ⟨w, rfl, k34, ?_⟩
        rw [ownStep, if_neg (by rw [hc]; decide)]
        exact ow4
  · have he : i = l.length := by
      have : ¬ i < l.length := of_decide_eq_false hge
      omega
    subst he
    rw [List.take_length] at ow
    exact hQ w M3 ((ow.mono (fun d hd => by omega)).slD (fun d _ h => h)) k3
theorem addS_hasS {k : Nat} {ps : List Pt} {d e : Dot} (h : SI k ps) (hk : k < 4096) (hg : good d = true) : hasS (addS ps d).2 e = true ↔ hasS ps e = true ∨ e = d := by
  have hl : ∀ p ∈ ps, p.2.length < 4096 := fun p hp => by have := h.few p hp; omega
  rw [hasS, hasS, Bool.and_eq_true, Bool.and_eq_true, grow_has h.len h.wf hl hg]
  constructor
  · rintro ⟨h1, h2 | ⟨h2, h3⟩⟩
    · exact .inl ⟨h1, h2⟩
    · refine .inr (Prod.ext ?_ h3)
      have := (good_dev h1).1
      have := (good_dev hg).1
      omega
  · rintro (⟨h1, h2⟩ | rfl)
    · exact ⟨h1, .inl h2⟩
    · exact ⟨hg, .inr ⟨rfl, rfl⟩⟩
theorem addAll_hasS {e : Dot} : ∀ {ds : List Dot} {ps : List Pt} {k : Nat}, SI k ps → k + ds.length < 4096 → (∀ d ∈ ds, good d = true) → (hasS (addAll ps ds) e = true ↔ hasS ps e = true ∨ e ∈ ds)
  | [], ps, k, h, hk, hg => by simp [addAll]
  | d :: ds, ps, k, h, hk, hg => by
    have : addAll ps (d :: ds) = addAll (addS ps d).2 ds := rfl
    rw [this, addAll_hasS (addS_SI h) (by simp at hk; omega) (fun x hx => hg x (by simp [hx])), addS_hasS h (by simp at hk; omega) (hg d (by simp)), List.mem_cons]
    constructor
    · rintro ((h | h) | h)
      · exact .inl h
      · exact .inr (.inl h)
      · exact .inr (.inr h)
    · rintro (h | h | h)
      · exact .inl (.inl h)
      · exact .inl (.inr h)
      · exact .inr h
theorem applyE_mem {ps : List Pt} {es : List Ent} {e : EvT} {ks : List Dot} {x : Ent} (h : x ∈ applyE ps es e ks) : x.1 ∉ ks ∧ (x ∈ es ∨ (x = entOf e ∧ hasS ps e.1 = false)) := by
  unfold applyE at h
  rw [List.mem_filter] at h
  refine ⟨by simpa using h.2, ?_⟩
  have h1 := h.1
  split at h1
  · rename_i hc
    simp only [Bool.and_eq_true, Bool.not_eq_true', decide_eq_true_eq] at hc
    rw [(sortE_perm swo_ltE _).mem_iff, List.mem_append, List.mem_singleton] at h1
    rcases h1 with h1 | h1
    · exact .inl h1
    · exact .inr ⟨h1, hc.2⟩
  · exact .inl h1
theorem applyE_len (ps : List Pt) (es : List Ent) (e : EvT) (ks : List Dot) : (applyE ps es e ks).length ≤ es.length + 1 := by
  unfold applyE
  refine Nat.le_trans (List.length_filter_le _ _) ?_
  split
  · rw [(sortE_perm swo_ltE _).length_eq]; simp
  · omega
structure HoldI (i : Nat) (ps : List Pt) (es : List Ent) (dead : List Dot) : Prop where
  si : SI (65 * i) ps
  few : es.length ≤ i
  dl : dead.length ≤ 64 * i
  seen : ∀ d ∈ dead, hasS ps d = true
  gone : ∀ x ∈ es, x.1 ∉ dead
theorem HoldI.step {i : Nat} {ps : List Pt} {es : List Ent} {dead : List Dot} (h : HoldI i ps es dead) (hi : i < 60) {e : EvT} {ks : List Dot} (hg : goodEv e ks = true) : HoldI (i + 1) (applyP ps e ks) (applyE ps es e ks) (dead ++ ks) := by
  obtain ⟨g1, g2, g3, _, _⟩ := goodEv_parts hg
  have hds : ∀ d ∈ e.1 :: ks, good d = true := fun d hd => by
    rcases List.mem_cons.1 hd with rfl | hd
    · exact g1
    · exact g3 d hd
  have hmem : ∀ d, hasS (applyP ps e ks) d = true ↔ hasS ps d = true ∨ d ∈ e.1 :: ks := fun d => addAll_hasS h.si (by simp; omega) hds
  refine ⟨(addAll_SI h.si).mono (by simp; omega), ?_, ?_, fun d hd => ?_, fun x hx => ?_⟩
  · have := applyE_len ps es e ks
    have := h.few
    omega
  · rw [List.length_append]
    have := h.dl
    omega
  · rw [hmem]
    rcases List.mem_append.1 hd with hd | hd
    · exact .inl (h.seen d hd)
    · exact .inr (List.mem_cons_of_mem _ hd)
  · obtain ⟨h1, h2⟩ := applyE_mem hx
    rw [List.mem_append, not_or]
    refine ⟨?_, h1⟩
    rcases h2 with h2 | ⟨rfl, h2⟩
    · exact h.gone x h2
    · intro hm
      have := h.seen _ hm
      rw [show (entOf e).1 = e.1 from rfl, h2] at this
      cases this
theorem and_1023 (n : Int) : ∃ m : Nat, m ≤ 1023 ∧ andI .i64 n 1023 = (m : Int) := by
  unfold andI
  refine ⟨(BitVec.ofInt 64 n &&& BitVec.ofInt 64 1023).toNat, ?_, ?_⟩
  · rw [BitVec.toNat_and]
    exact Nat.le_trans Nat.and_le_right (by decide)
  · have : (BitVec.ofInt 64 n &&& BitVec.ofInt 64 1023).toNat ≤ 1023 := by
      rw [BitVec.toNat_and]
      exact Nat.le_trans Nat.and_le_right (by decide)
    exact wrap_i64_id (by omega) (by show ((BitVec.ofInt 64 n &&& BitVec.ofInt 64 1023).toNat : Int) < 9223372036854775808; omega)
def CrdtHoldsC (B : Base) (c : CallT) : Prop := ∀ {M : RM} {v : AV} {l : List Ev} {n : Int} {Q : PostV}, M.base = B → SlD EvR M v l (fun d => d < M.next) → (∀ M', Q (Bo true) M') → c [v, N .i64 n] M Q
theorem crdtHolds_spec {B : Base} {TS T TE TD TN : Nat} {ca co cn cA cE cH : CallT} (ha : AwakeC B ca) (ho : OwnC TE co) (hn : NewStC TS T cn) (hA : ApplyC TS T cA) (hE : EntriesC TS T TN cE) (hH : RefHasC cH) :
    CrdtHoldsC B fun args M Q => ∃ a0 a1, args = [a0, a1] ∧ W_rolodex_rolodexlaw14_CrdtHolds ca co cn TE cA TD cE cH a0 a1 M Q := by
  intro M v l n Q hM hv hQ
  refine ⟨_, _, rfl, ?_⟩
  unfold W_rolodex_rolodexlaw14_CrdtHolds
  refine ha hM ?_
  rw [notW_Bo, Bool.not_true, condF, hv.len, intW_gtr]
  refine condB (fun _ => hQ _) (fun hlen => ?_)
  have hlen : l.length ≤ 60 := by
    have : ¬ (l.length : Int) > 60 := of_decide_eq_false hlen
    omega
  refine ho hv (by omega) fun w M1 hw k1 => ?_
  have hwl : (ownP l).length ≤ 60 := by
    have := ownP_len l l.length
    rw [List.take_length] at this
    omega
  have hwg : ∀ x ∈ ownP l, goodEv x.1 x.2 = true := ownP_good l [] (by simp)
  generalize ownP l = wl at *
  refine hn fun t M2 ht st2 k2 => ?_
  obtain ⟨mk, hmk, emk⟩ := and_1023 n
  have h0 : HoldI 0 emptyS [] [] := ⟨empty_SI, Nat.le_refl _, Nat.le_refl _, by simp, by simp⟩
  refine loopW_ind (fun m ys M3 => ∃ (i : Nat) (dv : AV) (dead : List Dot) (ps : List Pt) (es : List Ent), m = wl.length - i ∧ ys = [dv, N .i64 (i : Int)] ∧ i ≤ wl.length ∧ Keep [] M1 M3 ∧ t < M3.next ∧ StH TS T (fun d => M1.next ≤ d ∧ d ≠ t ∧ d ∉ blkOf dv) M3 t ps es ∧ Ow DotE M3 M1.next TD dv dead ∧ t ∉ blkOf dv ∧ HoldI i ps es dead) _
    ⟨0, nilS, [], emptyS, [], rfl, rfl, Nat.zero_le _, k2, st2.lt, st2.mono (fun d hd => ⟨hd.1, by omega, by simp [blkOf]⟩) (fun h => h.2.1 rfl), .nil, by simp [blkOf], h0⟩ ?_
  rintro next m ys M3 hnext ⟨i, dv, dead, ps, es, rfl, rfl, hi, k3, htl, st3, od, htd, hI⟩
  dsimp only [nthD]
  have hw3 : SlD EvR M3 w wl (fun d => d < M1.next) := hw.keep k3 (by simp)
  rw [hw3.len, lssN]
  refine condB (fun hlt => ?_) (fun hge => hQ _)
  have hlt : i < wl.length := of_decide_eq_true hlt
  have n3 := k3.next
  rw [intW_and, emk, addN (by omega), hw3.len, intW_rem]
  refine ⟨by omega, ?_⟩
  rw [show (((i + mk : Nat) : Int)).tmod (wl.length : Int) = (((i + mk) % wl.length : Nat) : Int) by rw [Int.tmod_eq_emod_of_nonneg (by omega)]; rfl]
  have hj : (i + mk) % wl.length < wl.length := Nat.mod_lt _ (by omega)
  generalize (i + mk) % wl.length = j at *
  obtain ⟨b, o, kv, hidx, hl7, _, hkv, hkb⟩ := ev_at hw3 hj
  have hge := hwg _ (List.getElem_mem hj)
  generalize wl[j] = x at *
  obtain ⟨e, ks⟩ := x
  simp only at hl7 hkv hge
  have hcl : (AV.agg (evRow e kv)).cells.length = 7 := by show (evRow e kv).length = 7; rfl
  rw [hidx, hl7, newW_eq, storeW_all (n := 7) (x := .agg (evRow e kv)) (l := [(N .i64 0), (N .u64 0), (N .i64 0), (St []), (St []), (St []), (.sc (.slice none 0 0))]) (RM.push_new _) hcl rfl (ev_one hkv)]
  have k4 : Keep [] M3 ((M3.push (.row [(N .i64 0), (N .u64 0), (N .i64 0), (St []), (St []), (St []), (.sc (.slice none 0 0))] false TE 0)).put M3.next (.row (AV.agg (evRow e kv)).cells false TE 0)) := ((Keep.refl _ _).push _).new _ (Nat.le_refl _)
  have h4 : ((M3.push (.row [(N .i64 0), (N .u64 0), (N .i64 0), (St []), (St []), (St []), (.sc (.slice none 0 0))] false TE 0)).put M3.next (.row (AV.agg (evRow e kv)).cells false TE 0)).heap M3.next = some (.row (evRow e kv) false TE 0) := heap_put_eq _
  have n4 : M3.next < ((M3.push (.row [(N .i64 0), (N .u64 0), (N .i64 0), (St []), (St []), (St []), (.sc (.slice none 0 0))] false TE 0)).put M3.next (.row (AV.agg (evRow e kv)).cells false TE 0)).next := by simp [RM.push, RM.put]
  generalize (M3.push (.row [(N .i64 0), (N .u64 0), (N .i64 0), (St []), (St []), (St []), (.sc (.slice none 0 0))] false TE 0)).put M3.next (.row (AV.agg (evRow e kv)).cells false TE 0) = M4 at *
  generalize hbb : M3.next = bb at *
  rw [loadN_at (n := 7) h4 rfl]
  have st4 := (st3.below).keep k4 (by simp) (by simp)
  have od4 := od.keep k4 (by simp)
  have kv4 : Sl DotE M4 kv ks := SlR.keep hkv k4 (by simp)
  have htk : t ∉ blkOf kv := fun hm => by have := hkb t hm; omega
  refine hA st4 hI.si (by omega) (by have := hI.few; omega) kv4 htk (fun hf => by rw [hge] at hf; cases hf) fun _ M5 st5 k5 => ?_
  have n5 := k5.next
  have h5 := k5.heap_of h4 n4 (by simp; omega)
  have kv5 : Sl DotE M5 kv ks := SlR.keep kv4 k5 (fun d hd hm => by simp at hm; subst hm; exact htk hd)
  have od5 := od4.keep k5 (fun d hd hm => by simp at hm; subst hm; exact htd hd)
  have hdvl : ∀ d ∈ blkOf dv, d < bb := fun d hd => by have := (od.blk d hd).2; omega
  rw [fld0, load1_at h5 rfl]
  have hI' := hI.step (by omega) hge
  have dl' := hI'.dl
  have few' := hI'.few
  refine app_all (E := DotE) od5 (by omega) (by decide) kv5 (by simp at dl'; omega) (by simp at dl'; omega) fun dv' M6 od6 k6 n6 hdv' => ?_
  have k36 : Keep [] M1 M6 := ((k3.trans k4).then_new k5 (fun d hd => .inl (by simp at hd; omega))).then_new k6 (fun d hd => .inl (od5.blk d hd).1)
  have htd' : t ∉ blkOf dv' := fun hm => by
    rcases hdv' with rfl | h
    · exact htd hm
    · have := h t hm; omega
  have st6 : StH TS T (fun d => M1.next ≤ d ∧ d ≠ t ∧ d ∉ blkOf dv') M6 t (applyP ps e ks) (applyE ps es e ks) := by
    have st5' := (st5.below).keep k6 htd (fun d hd hB => by
      rcases hB with ⟨hB | hB, _⟩
      · exact hB.1.2.2 hd
      · have := hdvl d hd; omega)
    refine st5'.mono (fun d hd => ?_) (fun h => h.2.1 rfl)
    obtain ⟨hd1, hd2⟩ := hd
    refine ⟨?_, ?_, ?_⟩
    · rcases hd1 with h | h
      · exact h.1.1
      · omega
    · rintro rfl
      rcases hd1 with h | h
      · exact h.1.2.1 rfl
      · omega
    · intro hm
      rcases hdv' with rfl | h
      · rcases hd1 with h | h
        · exact h.1.2.2 hm
        · have := hdvl d hm; omega
      · have := h d hm; omega
  refine hE st6 (by have := hI'.few; omega) fun ev M7 oe k7 => ?_
  have n7 := k7.next
  -- none of the entries is dead
  refine loopW_ind (fun m ys M8 => ∃ q : Nat, m = (applyE ps es e ks).length - q ∧ ys = [N .i64 (q : Int)] ∧ q ≤ (applyE ps es e ks).length ∧ Keep [] M7 M8) _ ⟨0, rfl, rfl, Nat.zero_le _, Keep.refl _ _⟩ ?_
  rintro next2 m ys M8 hnext2 ⟨q, rfl, rfl, hq, k8⟩
  dsimp only [nthD]
  have oe8 : Sl EntE M8 ev (applyE ps es e ks) := SlR.keep oe.slR k8 (by simp)
  rw [SlR.len oe8, lssN]
  have k78 := k7.trans k8
  refine condB (fun hlt2 => ?_) (fun hge2 => ?_)
  · have hlt2 : q < (applyE ps es e ks).length := of_decide_eq_true hlt2
    obtain ⟨b9, o9, _, _, hidx9, hld9⟩ := Sl.at (E := EntE) (i := q) oe8 5 (q : Int) hlt2 rfl rfl
    have e2 : (EntE.cells (applyE ps es e ks)[q]).take 2 = dcells (applyE ps es e ks)[q].1 := rfl
    rw [hidx9, fldW_ptr, Nat.add_zero, loadN_ptr]
    refine ⟨_, loads_head hld9 2 (by decide), ?_⟩
    rw [e2]
    refine hH (SlR.keep od6.slR k78 (by simp)) (by omega) fun M9 k9 => ?_
    rw [decide_eq_false (hI'.gone _ (List.getElem_mem hlt2)), condF, add1 (by omega)]
    exact hnext2 _ _ _ (by omega) ⟨q + 1, rfl, rfl, by omega, k8.trans k9⟩
  · rw [add1 (by omega)]
    exact hnext _ _ _ (by omega) ⟨i + 1, dv', dead ++ ks, _, _, rfl, rfl, by omega, k36.trans k78, by have := k8.next; omega, st6.keep k78 (by simp) (by simp), od6.keep k78 (by simp), htd', hI'⟩
end Go.Ab.Crw
