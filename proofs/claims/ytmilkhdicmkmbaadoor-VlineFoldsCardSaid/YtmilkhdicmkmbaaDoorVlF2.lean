/- The walks of folding. By an AI agent. -/
import Derived.Test.YtmilkhdicmkmbaaDoorVlF1
import Derived.Test.YtmilkhdicmkmbaaDoorVlB
import Derived.Test.YtmilkhdicmkmbaaDoorVlE
set_option linter.unusedVariables false
set_option linter.unusedSimpArgs false
namespace Go.Ab.Vl
open Go Go.Ab

theorem app_str {n0 T8 : Nat} {M : RM} {v : AV} {xs s : List UInt8} {K : AV → RM → Prop} (ho : Ow BY M n0 T8 v xs) (hn : n0 ≤ M.next) (hl : xs.length + s.length ≤ 140737488355328)
    (hK : ∀ v' M', Ow BY M' n0 T8 v' (xs ++ s) → Keep (blkOf v) M M' → K v' M') : appW T8 1 1 [N .u8 0] false v (St s) M K := by
  have hnew : newL M 1 [N .u8 0] false (St s) = some (s.length, BY.row s) := by simp only [newL, BY_row, if_true]
  refine app_own ho hn (Nat.le_refl _) hnew (by rw [BY.row_len]; rfl) (BY.row_all s) (by omega) (by omega) fun v' M2 h2 k2 hnx2 hv => hK v' M2 ?_ k2
  rw [← BY.row_append] at h2
  show Own M2 n0 T8 1 v' (BY.row (xs ++ s)) (xs ++ s).length
  rw [List.length_append]; exact h2

theorem subStr_to {s : List UInt8} {h : Nat} (h2 : h ≤ s.length) (k2 : IntKind) : subStr (St s) none (some (N k2 (h : Int))) = some (St (s.take h)) := by
  have := subStr_some (s := s) (l := 0) (h := h) (by omega) h2 .i64 k2
  rw [List.drop_zero, Nat.sub_zero] at this; exact this
def FormedC (c : CallT) : Prop := ∀ {M : RM} {s : List UInt8} {Q : PostV}, s.length ≤ 1000000 → Q (Bo (fmd s)) M → c [St s] M Q
theorem formed_spec {cr : CallT} (hr : RuneC cr) : FormedC fun args M Q => ∃ a0, args = [a0] ∧ W_rolodex_rolodexref23_Formed cr a0 M Q := by
  intro M s Q hl hQ
  refine ⟨_, rfl, ?_⟩
  unfold W_rolodex_rolodexref23_Formed
  refine loopW_ind (fun m ys M' => M' = M ∧ ∃ t : List UInt8, m = t.length ∧ ys = [St t] ∧ t.length ≤ s.length ∧ fmd t = fmd s) _ ⟨rfl, s, rfl, rfl, Nat.le_refl _, rfl⟩ ?_
  rintro next m ys M' hnext ⟨rfl, t, rfl, rfl, ht, hf⟩
  simp only [go_sem]
  refine ⟨fun hlt => ?_, fun hge => ?_⟩
  · have hne : t ≠ [] := by intro e; subst e; simp at hlt
    refine hr (by omega) ?_
    have hle := rk_le (s := t)
    by_cases h0 : rk t = 0
    · rw [h0]
      simp only [go_sem, show (((0 : Nat) : Int) == 0) = true from rfl]
      rw [fmd_bad hne h0] at hf; rw [hf]; exact hQ
    · have e0 : ((rk t : Int) == 0) = false := by simp; omega
      simp only [go_sem, e0]
      rw [subStr_from hle.1]
      simp only [go_sem]
      refine hnext _ _ _ (drop_lt hne (by omega)) ⟨rfl, _, rfl, rfl, ?_, ?_⟩
      · simp; omega
      · rw [← fmd_step h0, hf]
  · have : t = [] := by
      apply List.eq_nil_of_length_eq_zero
      have := of_decide_eq_false hge
      omega
    subst this
    rw [fmd_nil] at hf; rw [hf]; exact hQ

def FoldC (c : CallT) : Prop := ∀ {M : RM} {s : List UInt8} {Q : PostV}, s.length ≤ 1000000 → (∀ M', Keep [] M M' → Q (St (fo 0 s)) M') → c [St s] M Q
theorem take_id {α : Type} {l t s : List α} (h : l ++ t = s) : l.length ≤ s.length := by rw [← h]; simp

theorem refFold_spec {T8 : Nat} {cr : CallT} (hr : RuneC cr) : FoldC fun args M Q => ∃ a0, args = [a0] ∧ W_rolodex_rolodexref23_Fold T8 cr a0 M Q := by
  intro M s Q hl hQ
  refine ⟨_, rfl, ?_⟩
  unfold W_rolodex_rolodexref23_Fold
  refine make0 ?_
  simp only [newW_eq]
  have hfl := fo_len s.length (u := 0) (s := s) (Nat.le_refl _)
  refine loopW_ind (fun m ys M3 => ∃ (t w : List UInt8) (v : AV) (u : Nat), m = t.length ∧ ys = [St t, v, N .i64 u] ∧ u ≤ 75 ∧ t.length ≤ s.length ∧ Ow BY M3 M.next T8 v w ∧ w ++ fo u t = fo 0 s ∧ Keep [] M M3) _
    ⟨s, [], _, 0, rfl, rfl, by omega, Nat.le_refl _, Ow.lit BY M, rfl, (Keep.refl _ _).push _⟩ ?_
  rintro next m ys M3 hnext ⟨t, w, v, u, rfl, rfl, hu, ht, ho, hw, hK⟩
  have hwl := take_id hw
  simp only [go_sem]
  refine ⟨fun hlt => ?_, fun hge => ?_⟩
  · have hne : t ≠ [] := by intro e; subst e; simp at hlt
    refine hr (by omega) ?_
    have h1 := rs_pos hne
    have h2 := rs_le hne
    have hrs := rs_eq hne
    have kk : ∀ {v : AV} {w : List UInt8} {M3 M' : RM}, Ow BY M3 M.next T8 v w → Keep [] M M3 → Keep (blkOf v) M3 M' → Keep [] M M' := fun ho hK h => hK.then_new h fun c hc => .inl (ho.blk c hc).1
    have two : ∀ (v : AV) (w : List UInt8) (u : Nat) (M4 : RM), u + rs t ≤ 75 → Ow BY M4 M.next T8 v w → Keep [] M M4 → w ++ t.take (rs t) ++ fo (u + rs t) (t.drop (rs t)) = fo 0 s →
        getW (subStr (St t) none (some (N .i64 (rs t)))) fun t24 => appW T8 1 1 [N .u8 0] false v t24 M4 fun t25 M_11 => next [St (t.drop (rs t)), t25, N .i64 (IntKind.wrap .i64 ((u : Int) + (rs t : Int)))] M_11 := fun v w u M4 hu' ho hK hw => by
      have hwl : (w ++ t.take (rs t)).length ≤ (fo 0 s).length := by rw [← hw]; simp
      rw [subStr_to h2.1]
      simp only [go_sem]
      refine app_str ho hK.next (by simp at hwl ⊢; omega) fun v' M5 ho5 k5 => ?_
      rw [show IntKind.wrap .i64 ((u : Int) + (rs t : Int)) = ((u + rs t : Nat) : Int) by rw [i64w (by omega) (by omega)]; omega]
      exact hnext _ _ _ (drop_lt hne h1) ⟨_, w ++ t.take (rs t), v', u + rs t, rfl, rfl, by omega, by simp; omega, ho5, hw, kk ho hK k5⟩
    have mid : intW .add (N .i64 u) (N .i64 (rs t)) fun t16 => intW .gtr t16 (N .i64 75) fun t17 => condW t17 (rowsW T8 3 [(N .u8 0)] [(0, 1, (N .u8 13)), (1, 1, (N .u8 10)), (2, 1, (N .u8 32))] fun r_5 f_6 =>
        appW T8 1 1 [(N .u8 0)] false v (f_6 M3.next) (M3.push r_5) fun t20 M_8 =>
          getW (subStr (St t) none (some (N .i64 (rs t)))) fun t24 => appW T8 1 1 [N .u8 0] false t20 t24 M_8 fun t25 M_11 => intW .add (N .i64 1) (N .i64 (rs t)) fun t28 => getW (subStr (St t) (some (N .i64 (rs t))) none) fun t31 => next [t31, t25, t28] M_11)
        (getW (subStr (St t) none (some (N .i64 (rs t)))) fun t24 => appW T8 1 1 [N .u8 0] false v t24 M3 fun t25 M_11 => intW .add (N .i64 u) (N .i64 (rs t)) fun t28 => getW (subStr (St t) (some (N .i64 (rs t))) none) fun t31 => next [t31, t25, t28] M_11) := by
      rw [subStr_from h2.1]
      simp only [go_sem]
      have e1 : IntKind.wrap .i64 ((u : Int) + (rs t : Int)) = ((u + rs t : Nat) : Int) := by rw [i64w (by omega) (by omega)]; omega
      refine ⟨fun h => ?_, fun h => ?_⟩
      · rw [e1] at h
        have h : 75 < u + rs t := by have := of_decide_eq_true h; omega
        refine ⟨BY.row [13, 10, 32], by simp [fillO, repL, oneCell, AV.cells, BY_row], ?_⟩
        rw [fo_break hne h] at hw
        have hx := congrArg List.length hw
        simp only [List.length_append, List.length_cons, List.length_nil] at hx
        have hk : Keep [] M3 (M3.push (.row (BY.row [13, 10, 32]) false T8 0)) := (Keep.refl _ _).push _
        refine app_all (E := BY) (ys := [13, 10, 32]) (Own.keep ho hk (by simp)) (Nat.le_trans hK.next hk.next) (Nat.le_refl _) (Sl.new [13, 10, 32]) (by simp; omega) (by simp; omega) fun v' M4 h1 h2 h3 h4 => ?_
        exact two v' (w ++ [13, 10, 32]) 1 M4 (by omega) h1 (kk ho hK ((hk.mono (by simp)).trans h2)) (by rw [← hw]; simp)
      · rw [e1] at h
        have h : u + rs t ≤ 75 := by have := of_decide_eq_false h; omega
        rw [fo_more hne h] at hw
        exact two v w u M3 h ho hK (by rw [← hw]; simp)
    by_cases h0 : rk t = 0
    · rw [if_pos h0] at hrs
      rw [h0]
      rw [hrs, show ((1 : Nat) : Int) = 1 from rfl] at mid
      rw [intW_eql]
      simp only [go_sem] at mid
      refine ⟨fun _ => ?_, fun h => absurd h (by simp)⟩
      exact mid
    · rw [if_neg h0] at hrs
      rw [hrs] at mid
      have e0 : ((rk t : Int) == 0) = false := by simp; omega
      rw [intW_eql, e0]
      exact ⟨fun h => (by cases h), fun _ => mid⟩
  · have : t = [] := by
      apply List.eq_nil_of_length_eq_zero
      have := of_decide_eq_false hge
      omega
    subst this
    rw [fo_nil, List.append_nil] at hw
    subst hw
    rw [Sl.str ho.slR]
    exact hQ M3 hK

def DecC (B : Base) (c : CallT) : Prop := ∀ {M : RM} {s : List UInt8} {Q : PostV}, M.base = B → s ≠ [] → s.length ≤ 1000000 → (∀ r : AV, Q (.tup [r, N .i64 (rs s)]) M) → c [St s] M Q
def PieceC (B : Base) (c : CallT) : Prop := ∀ {M : RM} {s : List UInt8} {l : Nat} {Q : PostV}, M.base = B → s.length ≤ 1000000 → l ≤ 1000 → Q (N .i64 (pc l s)) M → c [St s, N .i64 l] M Q

theorem piece_spec {B : Base} {cd : CallT} (hd : DecC B cd) : PieceC B fun args M Q => ∃ a0 a1, args = [a0, a1] ∧ W_rolodex_vline_piece cd a0 a1 M Q := by
  intro M s l Q hM hl hll hQ
  refine ⟨_, _, rfl, ?_⟩
  unfold W_rolodex_vline_piece
  simp only [go_sem]
  refine loopW_ind (fun m ys M' => M' = M ∧ ∃ i : Nat, m = s.length - i ∧ ys = [N .i64 i] ∧ i ≤ s.length ∧ i ≤ l ∧ i + pc (l - i) (s.drop i) = pc l s) _ ⟨rfl, 0, rfl, rfl, Nat.zero_le _, Nat.zero_le _, by simp⟩ ?_
  rintro next m ys M' hnext ⟨rfl, i, rfl, rfl, hi, hil, hp⟩
  simp only [go_sem]
  refine ⟨fun hlt => ?_, fun hge => ?_⟩
  · have hlt : i < s.length := by have := of_decide_eq_true hlt; omega
    have hne : s.drop i ≠ [] := by intro e; have := congrArg List.length e; simp at this; omega
    have h1 := rs_pos hne
    have h2 := rs_le hne
    rw [List.length_drop] at h2
    rw [subStr_from hi]
    simp only [go_sem]
    refine hd hM hne (by simp; omega) fun r => ?_
    have e1 : IntKind.wrap .i64 ((i : Int) + (rs (s.drop i) : Int)) = ((i + rs (s.drop i) : Nat) : Int) := by rw [i64w (by omega) (by omega)]; omega
    simp only [go_sem, e1]
    refine ⟨fun h => ?_, fun h => ?_⟩
    · have h : l < i + rs (s.drop i) := by have := of_decide_eq_true h; omega
      rw [pc_end (by omega), Nat.add_zero] at hp
      rw [hp]; exact hQ
    · have h : i + rs (s.drop i) ≤ l := by have := of_decide_eq_false h; omega
      rw [pc_more hne (by omega), List.drop_drop] at hp
      exact hnext _ _ _ (by omega) ⟨rfl, _, rfl, rfl, by omega, h, by rw [← hp, show l - (i + rs (s.drop i)) = l - i - rs (s.drop i) by omega]; omega⟩
  · have hge : s.length ≤ i := by have := of_decide_eq_false hge; omega
    rw [List.drop_eq_nil_of_le hge, pc_nil, Nat.add_zero] at hp
    rw [hp]; exact hQ

theorem fold_spec {B : Base} {TB T8 : Nat} {cp cs ct : CallT} (hp : PieceC B cp) (hs : WriteStringC TB T8 cs) (ht : StringC TB T8 ct) {M : RM} {s : List UInt8} {Q : PostV} (hM : M.base = B) (hl : s.length ≤ 1000000) (hQ : ∀ M', Keep [] M M' → Q (St (fo 0 s)) M') :
    W_rolodex_vline_Fold TB cp cs ct (St s) M Q := by
  unfold W_rolodex_vline_Fold
  simp only [newW_eq]
  generalize hM2 : M.push (.row [.sc (.pointer none), .sc (.slice none 0 0)] false TB 0) = M2
  have hn2 : M2.next = M.next + 1 := by rw [← hM2]; rfl
  have hk2 : Keep [] M M2 := by rw [← hM2]; exact (Keep.refl _ _).push _
  have hb0 : Bld TB T8 M2.next M2 M.next [] := Bld.new (by rw [← hM2]; simp [go_sem]) (by omega) (Nat.le_refl _)
  have hfl := fo_len s.length (u := 0) (s := s) (Nat.le_refl _)
  refine loopW_ind (fun m ys M3 => ∃ (t w : List UInt8) (u : Nat), m = t.length ∧ ys = [St t, N .i64 ((75 - u : Nat) : Int)] ∧ u ≤ 1 ∧ t.length ≤ s.length ∧ Bld TB T8 M2.next M3 M.next w ∧ w ++ fo u t = fo 0 s ∧ KeepTo M2.next [M.next] M2 M3) _
    ⟨s, [], 0, rfl, rfl, by omega, Nat.le_refl _, hb0, rfl, KeepTo.refl _ _ _⟩ ?_
  rintro next m ys M3 hnext ⟨t, w, u, rfl, rfl, hu, ht', hB, hw, hK⟩
  have hwl := take_id hw
  by_cases hne : t = []
  · subst hne
    simp only [go_sem, bne_self_eq_false]
    rw [fo_nil, List.append_nil] at hw
    subst hw
    refine ht hB (by omega) fun M4 k4 => hQ M4 ?_
    refine hk2.then_to (hK.trans ⟨k4.base, k4.next, fun c h1 h2 => k4.heap c h1 (by simp)⟩) (by omega) fun c hc => .inl (by simp at hc; omega)
  · have hne' : (t != []) = true := by simp [hne]
    simp only [go_sem, hne']
    have hb3 : M3.base = B := by rw [hK.base, hk2.base, hM]
    refine hp hb3 (by omega) (by omega) ?_
    have hpl := pc_le t.length (l := 75 - u) (s := t) (Nat.le_refl _)
    have hpp := pc_pos hne (show 4 ≤ 75 - u by omega)
    rw [fo_pc t.length (Nat.le_refl _) (by omega)] at hw
    generalize pc (75 - u) t = n at *
    rw [subStr_to hpl, subStr_from hpl]
    simp only [go_sem]
    have hx := congrArg List.length hw
    simp only [List.length_append] at hx
    refine hs hB (by omega) fun M4 hB4 k4 => ?_
    by_cases hz : t.drop n = []
    · rw [hz]
      simp only [go_sem, bne_self_eq_false]
      refine hnext _ _ _ (by simp; exact List.length_pos_iff.2 hne) ⟨[], _, 1, rfl, rfl, by omega, Nat.zero_le _, hB4, ?_, hK.trans k4⟩
      rw [if_pos hz] at hw
      rw [fo_nil, ← hw]; simp
    · have hz' : (t.drop n != []) = true := by simp [hz]
      rw [if_neg hz] at hw hx
      simp only [go_sem, hz']
      simp only [List.length_append, List.length_cons, List.length_nil] at hx
      refine hs (s := [13, 10, 32]) hB4 (by simp; omega) fun M5 hB5 k5 => ?_
      refine hnext _ _ _ (drop_lt hne hpp) ⟨_, _, 1, rfl, rfl, by omega, by simp; omega, hB5, ?_, (hK.trans k4).trans k5⟩
      rw [← hw]; simp
end Go.Ab.Vl
