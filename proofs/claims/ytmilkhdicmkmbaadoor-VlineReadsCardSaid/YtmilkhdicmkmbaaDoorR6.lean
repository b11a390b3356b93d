/- Part 6 of the ground of the proofs of this seat (texts VlH9 to VlI5). By an AI agent. -/
import Derived.Test.YtmilkhdicmkmbaaDoorR5
import Derived.Lib.SlTrimSet
/- The law of lines' ends, in plain terms. By an AI agent. -/
set_option linter.unusedVariables false
set_option linter.unusedSimpArgs false
namespace Go.Ab.Vl
open Go Go.Ab

/-! ### how large what is read can be -/
theorem parF_all (f : List UInt8 → List UInt8) (N : Nat) : ∀ (k : Nat) (s : List UInt8) (acc ps : List Par) (r : List UInt8), s.length ≤ N → (∀ p ∈ acc, p.2.length ≤ N) → parF f k s acc = some (ps, r) → ps.length + r.length ≤ acc.length + s.length ∧ ∀ p ∈ ps, p.2.length ≤ N
  | 0, s, acc, ps, r, _, _, h => by cases h
  | k + 1, s, acc, ps, r, hN, ha, h => by
    rw [parF] at h
    split at h
    · rename_i h59
      have hpos := headIs_len h59
      split at h
      · rename_i hc
        simp only [Bool.and_eq_true] at hc
        have h61 := headIs_len hc.2
        generalize hk : ((s.drop 1).drop (wk (s.drop 1))).length = kk at h
        cases hv : valsF kk ((s.drop 1).drop (wk (s.drop 1))) [] with
        | none => rw [hv] at h; cases h
        | some p =>
          obtain ⟨vs, s3⟩ := p
          rw [hv] at h
          have h2 := valsF_len _ _ _ _ _ h61 hv
          simp at h2
          simp only at h
          have := parF_all f N k s3 _ ps r (by omega) (fun p hp => by
            rcases List.mem_append.1 hp with hp | hp
            · exact ha p hp
            · simp at hp; subst hp; simp; omega) h
          refine ⟨?_, this.2⟩
          have h3 := this.1
          simp at h3
          omega
      · cases h
    · cases h
      exact ⟨Nat.le_refl _, ha⟩
def Small (N : Nat) (L : Ln) : Prop := L.ps.length ≤ N ∧ ∀ p ∈ L.ps, p.2.length ≤ N
theorem readF_small {f : List UInt8 → List UInt8} {s : List UInt8} {L : Ln} {N : Nat} (hN : s.length ≤ N) (h : readF f s = some L) : Small N L := by
  unfold readF at h
  split at h
  · cases hh : headF f s with
    | none => rw [hh] at h; cases h
    | some x =>
      obtain ⟨g, n, r⟩ := x
      rw [hh] at h
      simp only [tailF] at h
      have hr : r.length ≤ N := by
        unfold headF at hh
        split at hh
        · split at hh
          · cases hh; simp; omega
          · cases hh
        · cases hh; simp; omega
      unfold parsA at h
      cases hp : parF f (r.length + 1) r [] with
      | none => rw [hp] at h; cases h
      | some y =>
        obtain ⟨ps, q⟩ := y
        rw [hp] at h
        simp only at h
        split at h
        · cases h
          have := parF_all f N _ r [] ps q hr (by simp) hp
          refine ⟨?_, this.2⟩
          have h3 := this.1
          simp at h3 ⊢; omega
        · cases h
  · cases h
theorem readsF_small {f : List UInt8 → List UInt8} : ∀ (l : List (List UInt8 × Int)) (acc ls : List (Ln × Int)), (∀ x ∈ acc, Small 912 x.1) → readsF f l acc = .ok ls → ∀ x ∈ ls, Small 912 x.1
  | [], acc, ls, ha, h => by cases h; exact ha
  | (s, k) :: r, acc, ls, ha, h => by
    rw [readsF] at h
    split at h
    · exact readsF_small r acc ls ha h
    · split at h
      · cases h
      · cases hr : readF f s with
        | none => rw [hr] at h; cases h
        | some L =>
          rw [hr] at h
          refine readsF_small r _ ls (fun x hx => ?_) h
          rcases List.mem_append.1 hx with hx | hx
          · exact ha x hx
          · simp at hx; subst hx
            exact readF_small (by omega) hr

/-! ### lines joined -/
def joinE (e : List UInt8) (xs : List (List UInt8)) : List UInt8 := xs.flatMap (· ++ e)
theorem joinE_len (e : List UInt8) : ∀ (s cur : List UInt8), (joinE e (rawL cur s)).length ≤ cur.length + s.length * (1 + e.length) + e.length
  | [], cur => by
    simp only [rawL, joinE]
    split <;> simp
  | c :: t, cur => by
    simp only [rawL]
    split
    · have h1 := joinE_len e t []
      have h2 := strip_len cur
      have : joinE e (strip cur :: rawL [] t) = strip cur ++ e ++ joinE e (rawL [] t) := rfl
      rw [this]
      simp only [List.length_append, List.length_cons, Nat.succ_mul, List.length_nil] at *
      omega
    · have h1 := joinE_len e t (cur ++ [c])
      simp only [List.length_append, List.length_cons, Nat.succ_mul, List.length_nil] at *
      omega
theorem rawL_no10 : ∀ (s cur : List UInt8), (∀ b ∈ cur, b.toNat ≠ 10) → ∀ x ∈ rawL cur s, ∀ b ∈ x, b.toNat ≠ 10
  | [], cur, hc, x, hx => by
    simp only [rawL] at hx
    split at hx
    · cases hx
    · simp at hx; subst hx; exact hc
  | c :: t, cur, hc, x, hx => by
    simp only [rawL] at hx
    split at hx
    · rcases List.mem_cons.1 hx with rfl | hx
      · intro b hb
        refine hc b ?_
        unfold strip at hb
        split at hb
        · exact List.mem_of_mem_take hb
        · exact hb
      · exact rawL_no10 t [] (by simp) x hx
    · rename_i h
      refine rawL_no10 t (cur ++ [c]) (fun b hb => ?_) x hx
      rcases List.mem_append.1 hb with hb | hb
      · exact hc b hb
      · simp at hb; subst hb; exact h
theorem rawL_lf {a : List UInt8} (ha : ∀ b ∈ a, b.toNat ≠ 10) (t : List UInt8) : rawL [] (a ++ 10 :: t) = strip a :: rawL [] t := by
  rw [rawL_go ha]
  simp [rawL]
theorem strip_id {a : List UInt8} (h : ∀ b ∈ a, b.toNat ≠ 13) : strip a = a := by
  unfold strip
  rw [if_neg]
  intro e
  have : (13 : UInt8) ∈ a := List.mem_of_mem_drop (by rw [e]; simp)
  exact h _ this rfl
theorem rawL_join1 : ∀ (xs : List (List UInt8)), (∀ x ∈ xs, ∀ b ∈ x, b.toNat ≠ 10) → (∀ x ∈ xs, ∀ b ∈ x, b.toNat ≠ 13) → rawL [] (joinE [10] xs) = xs
  | [], _, _ => rfl
  | x :: xs, h1, h2 => by
    have : joinE [10] (x :: xs) = x ++ 10 :: joinE [10] xs := by simp [joinE]
    rw [this, rawL_lf (h1 x (by simp)), strip_id (h2 x (by simp)), rawL_join1 xs (fun y hy => h1 y (by simp [hy])) (fun y hy => h2 y (by simp [hy]))]
theorem rawL_join2 : ∀ (xs : List (List UInt8)), (∀ x ∈ xs, ∀ b ∈ x, b.toNat ≠ 10) → rawL [] (joinE [13, 10] xs) = xs
  | [], _ => rfl
  | x :: xs, h1 => by
    have : joinE [13, 10] (x :: xs) = x ++ 13 :: 10 :: joinE [13, 10] xs := by simp [joinE]
    rw [this, rawL_crlf (h1 x (by simp)), rawL_join2 xs (fun y hy => h1 y (by simp [hy]))]
    simp
theorem joinE_take (e : List UInt8) {xs : List (List UInt8)} {i : Nat} (hi : i < xs.length) : joinE e (xs.take (i + 1)) = joinE e (xs.take i) ++ xs[i] ++ e := by
  unfold joinE; rw [List.take_succ_eq_append_getElem hi, List.flatMap_append]; simp
theorem joinE_take_len (e : List UInt8) (xs : List (List UInt8)) (i : Nat) : (joinE e (xs.take i)).length ≤ (joinE e xs).length := by
  have : joinE e xs = joinE e (xs.take i) ++ joinE e (xs.drop i) := by
    unfold joinE; rw [← List.flatMap_append, List.take_append_drop]
  rw [this]; simp

theorem ends_law {T : Nat} {f : List UInt8 → List UInt8} {M : RM} {ca cw cr co cs : CallT} (ha : AwakeC M.base ca) (hw : RawC T cw) (hr : ReadAllC M.base f cr) (ho : OfC co) (hs : SameC cs)
    {s : List UInt8} {Q : PostV} (hQ : ∀ M', Q (Bo true) M') : W_rolodex_rolodexlaw23_VlineEnds ca cw cr co cs (St s) M Q := by
  unfold W_rolodex_rolodexlaw23_VlineEnds
  simp only [fuseM, fuseK]
  refine ha rfl ?_
  rw [notW_Bo, Bool.not_true, condF, lenStr_St, intW_gtr]
  refine condB (fun _ => hQ _) (fun hl => ?_)
  have hl : s.length ≤ 3000 := by simp at hl; omega
  refine hw (by omega) fun v M1 ho1 k1 => ?_
  have hj1 := joinE_len [10] s []
  have hj2 := joinE_len [13, 10] s []
  have h10 := rawL_no10 s [] (by simp)
  have hn := rawL_len s []
  simp only [List.length_nil, List.length_cons] at hj1 hj2
  generalize rawL [] s = xs at *
  have hv := ho1.slR
  refine loopW_ind (fun m ys M3 => ∃ i : Nat, m = xs.length - i ∧ ys = [St (joinE [10] (xs.take i)), St (joinE [13, 10] (xs.take i)), N .i64 i] ∧ i ≤ xs.length ∧ Keep [] M1 M3 ∧ (∀ x ∈ xs.take i, ∀ b ∈ x, b.toNat ≠ 13)) _
    ⟨0, rfl, rfl, Nat.zero_le _, Keep.refl _ _, by simp⟩ ?_
  rintro next m ys M3 hnext ⟨i, rfl, rfl, hi, hK, h13⟩
  have hv3 := SlR.keep hv hK (by simp)
  dsimp only [nthD]
  rw [SlR.len hv3, intW_lss]
  refine condB (fun hlt => ?_) (fun hge => ?_)
  · have hlt : i < xs.length := by simpa using hlt
    obtain ⟨b, o, hb, hbm, hidx, hc⟩ := Sl.at1 (E := STR) hv3 (i : Int) hlt
    have hc := hc _ rfl
    have ht1 := joinE_take [10] hlt
    have ht2 := joinE_take [13, 10] hlt
    have hb1 := joinE_take_len [10] xs (i + 1)
    have hb2 := joinE_take_len [13, 10] xs (i + 1)
    have htk := List.take_succ_eq_append_getElem hlt
    rw [ht1] at hb1
    rw [ht2] at hb2
    generalize xs[i] = x at *
    simp only [List.length_append, List.length_cons, List.length_nil] at hb1 hb2
    refine loopW_ind (fun m ys M4 => M4 = M3 ∧ ∃ j : Nat, m = x.length - j ∧ ys = [N .i64 j] ∧ j ≤ x.length ∧ ∀ b ∈ x.take j, b.toNat ≠ 13) _ ⟨rfl, 0, rfl, rfl, Nat.zero_le _, by simp⟩ ?_
    rintro next2 m ys M4 hnext2 ⟨rfl, j, rfl, rfl, hj, hx13⟩
    dsimp only [nthD]
    rw [hidx, load1_ptr]
    refine ⟨_, hc, ?_⟩
    rw [lenStr_St, intW_lss]
    refine condB (fun hlt2 => ?_) (fun hge2 => ?_)
    · have hlt2 : j < x.length := by simpa using hlt2
      rw [hidx, load1_ptr]
      refine ⟨_, hc, ?_⟩
      rw [idxB_St]
      refine ⟨by omega, x[j], by rw [Int.toNat_natCast, List.getElem?_eq_getElem hlt2], ?_⟩
      rw [intW_eql]
      refine condB (fun _ => hQ _) (fun hne => ?_)
      rw [intW_add, i64_succ (by omega)]
      refine hnext2 _ _ _ (by omega) ⟨rfl, j + 1, rfl, rfl, by omega, fun b hb => ?_⟩
      rw [List.take_succ_eq_append_getElem hlt2] at hb
      rcases List.mem_append.1 hb with hb | hb
      · exact hx13 b hb
      · simp at hb; subst hb
        simp at hne; omega
    · have hge2 : j = x.length := by simp at hge2; omega
      subst hge2
      rw [List.take_length] at hx13
      rw [hidx, load1_ptr]
      refine ⟨_, hc, ?_⟩
      rw [strW_add]
      refine ⟨by omega, ?_⟩
      rw [strW_add]
      refine ⟨by simp; omega, ?_⟩
      rw [hidx, load1_ptr]
      refine ⟨_, hc, ?_⟩
      rw [strW_add]
      refine ⟨by omega, ?_⟩
      rw [strW_add]
      refine ⟨by simp; omega, ?_⟩
      rw [intW_add, i64_succ (by omega), ← ht1, ← ht2]
      refine hnext _ _ _ (by omega) ⟨i + 1, rfl, rfl, by omega, hK, fun y hy => ?_⟩
      rw [htk] at hy
      rcases List.mem_append.1 hy with hy | hy
      · exact h13 y hy
      · simp at hy; subst hy; exact hx13
  · have hge : i = xs.length := by simp at hge; omega
    subst hge
    rw [List.take_length] at h13 ⊢
    have hB : M3.base = M.base := by rw [hK.base, k1.base]
    have hu1 : unfL (joinE [10] xs) = unfL (joinE [13, 10] xs) := by unfold unfL; rw [rawL_join1 xs h10 h13, rawL_join2 xs h10]
    have hf1 : rdF f (joinE [10] xs) = rdF f (joinE [13, 10] xs) := by unfold rdF; rw [hu1]
    refine hr hB (by omega) ?_ ?_
    · intro v1 M4 ls k4 hls hsl1 hle
      rw [extW0, extW1, extW2]
      refine hr (by rw [k4.base, hB]) (by omega) ?_ ?_
      · intro v2 M5 ls2 k5 hls2 hsl2 hle2
        obtain rfl : ls = ls2 := by
          rw [hf1] at hls; rw [hls] at hls2; cases hls2; rfl
        have hsmall := readsF_small _ _ _ (by simp) hls
        have g1 := hsl1.keep k5 (by simp)
        rw [extW0, extW1, extW2, intW_neq, show ((0 : Int) != 0) = false from rfl, guardM_FF, intW_neq, show ((0 : Int) != 0) = false from rfl]
        dsimp only
        rw [pickF, guardM_FF, g1.len, hsl2.len, intW_neq, bne_self_eq_false]
        dsimp only
        rw [pickF, condF]
        refine loopW_ind (fun m ys M6 => ∃ i : Nat, m = ls.length - i ∧ ys = [N .i64 i] ∧ i ≤ ls.length ∧ Keep [] M5 M6) _ ⟨0, rfl, rfl, Nat.zero_le _, Keep.refl _ _⟩ ?_
        rintro next m ys M6 hnext ⟨i, rfl, rfl, hi, k6⟩
        have q1 := g1.keep k6 (by simp)
        have q2 := hsl2.keep k6 (by simp)
        dsimp only [nthD]
        rw [q1.len, intW_lss]
        refine condB (fun hlt => ?_) (fun _ => hQ _)
        have hlt : i < ls.length := by simpa using hlt
        obtain ⟨b, o, c1, hb, hbm, hidx, hld, hrel⟩ := SlD.at q1 5 (i : Int) hlt
        obtain ⟨b', o', c2, hb', hbm', hidx', hld', hrel'⟩ := SlD.at q2 5 (i : Int) hlt
        have hsm := hsmall _ (List.getElem_mem hlt)
        generalize hLi : ls[i] = Lk at *
        obtain ⟨L, k⟩ := Lk
        have hsm1 : L.ps.length ≤ 912 := hsm.1
        have hsm2 : ∀ p ∈ L.ps, p.2.length ≤ 912 := hsm.2
        rw [hidx, loadN_ptr]
        refine ⟨_, hld, ?_⟩
        rw [hidx', loadN_ptr]
        refine ⟨_, hld', ?_⟩
        refine ho hrel (by omega) fun d1 M7 k7 hd1 => ?_
        rw [loadN_ptr]
        refine ⟨c2, (k7.loads hb' (by simp)).trans hld', rfl, ?_⟩
        refine ho (LnE.keep hrel' k7 (by simp)) (by omega) fun d2 M8 k8 hd2 => ?_
        refine hs (LnE.keep hd1 k8 (by simp)) hd2 (by omega) (fun p hp => by have := hsm2 p hp; omega) fun M9 k9 => ?_
        rw [decide_eq_true rfl, notW_Bo, Bool.not_true, guardK_FF, hidx, fldW_ptr, load1_ptr]
        have k69 := (k7.trans k8).trans k9
        obtain ⟨pv, rfl, hpv⟩ := hrel
        obtain ⟨pv', rfl, hpv'⟩ := hrel'
        refine ⟨N .i64 k, (k69.cell hb (by simp)).trans (cell_of_loads hld (j := 4) rfl), ?_⟩
        rw [hidx', fldW_ptr, load1_ptr]
        refine ⟨N .i64 k, (k69.cell hb' (by simp)).trans (cell_of_loads hld' (j := 4) rfl), ?_⟩
        rw [intW_neq, bne_self_eq_false]
        dsimp only
        rw [pickF, condF, intW_add, i64_succ (by omega)]
        exact hnext _ _ _ (by omega) ⟨i + 1, rfl, rfl, by omega, k6.trans k69⟩
      · intro M5 k e k5 hbad
        rw [hf1] at hls
        rw [hls] at hbad; cases hbad
    · intro M4 k e k4 hbad
      rw [extW0, extW1, extW2]
      refine hr (by rw [k4.base, hB]) (by omega) ?_ ?_
      · intro v2 M5 ls2 k5 hls2 _ _
        rw [hf1] at hbad
        rw [hbad] at hls2; cases hls2
      · intro M5 k2 e2 k5 hbad2
        obtain ⟨rfl, rfl⟩ : k = k2 ∧ e = e2 := by
          rw [hf1] at hbad; rw [hbad] at hbad2; cases hbad2; exact ⟨rfl, rfl⟩
        rw [extW0, extW1, extW2, intW_neq, bne_self_eq_false, guardM_FF, intW_neq, bne_self_eq_false]
        dsimp only
        rw [pickF, guardM_FF, lenW_nil, lenW_nil, intW_neq, bne_self_eq_false]
        dsimp only
        rw [pickF, condF]
        refine loopW_ind (fun m ys M6 => ys = [N .i64 0]) 0 rfl ?_
        rintro next m ys M6 hnext rfl
        dsimp only [nthD]
        rw [lenW_nil, intW_lss, show decide ((0 : Int) < 0) = false from rfl, condF]
        exact hQ _
end Go.Ab.Vl
/- The document's own reading: plain bytes, words, small letters: the walks. By an AI agent. -/
set_option maxRecDepth 10000
set_option linter.unusedVariables false
set_option linter.unusedSimpArgs false
namespace Go.Ab.Vl
open Go Go.Ab

theorem refPlain_spec : PlainC fun args M Q => ∃ a0, args = [a0] ∧ W_rolodex_rolodexref23_plain a0 M Q := by
  intro M x Q hQ
  refine ⟨_, rfl, ?_⟩
  unfold W_rolodex_rolodexref23_plain
  simp only [fuseM]
  unfold plainB at hQ
  by_cases h9 : x.toNat = 9
  · have e9 : ((x.toNat : Int) == 9) = true := by simp [h9]
    simp only [go_sem, e9]
    simpa [h9] using hQ
  · have e9 : ((x.toNat : Int) == 9) = false := by simp; omega
    by_cases h1 : 32 ≤ x.toNat
    · have e1 : decide ((x.toNat : Int) ≥ 32) = true := by simp; omega
      by_cases h2 : x.toNat = 127
      · have e2 : ((x.toNat : Int) != 127) = false := by simp [h2]
        simp only [go_sem, e9, e1, e2]
        simpa [h2] using hQ
      · have e2 : ((x.toNat : Int) != 127) = true := by simp; omega
        simp only [go_sem, e9, e1, e2]
        simpa [h1, h2, h9] using hQ
    · have e1 : decide ((x.toNat : Int) ≥ 32) = false := by simp; omega
      simp only [go_sem, e9, e1]
      simpa [h1, h9] using hQ

/-- May a byte stand in a name? -/
def wch (c : UInt8) : Bool := (decide (97 ≤ c.toNat) && decide (c.toNat ≤ 122)) || (decide (65 ≤ c.toNat) && decide (c.toNat ≤ 90)) || (decide (48 ≤ c.toNat) && decide (c.toNat ≤ 57)) || decide (c.toNat = 45)
def wn (s : List UInt8) : Nat := (s.takeWhile wch).length
theorem wn_le (s : List UInt8) : wn s ≤ s.length := by
  unfold wn
  induction s with
  | nil => simp
  | cons c s ih =>
    rw [List.takeWhile_cons]
    split <;> simp <;> omega
def WordRC (c : CallT) : Prop := ∀ {M : RM} {s : List UInt8} {Q : PostV}, s.length ≤ 1000000000 → Q (N .i64 ((wn s : Nat) : Int)) M → c [St s] M Q
theorem takeWhile_all {α : Type} {p : α → Bool} : ∀ {s : List α} {i : Nat}, i ≤ s.length → (s.take i).all p = true → (i = s.length ∨ ∃ c, s[i]? = some c ∧ p c = false) → (s.takeWhile p).length = i
  | [], i, h, _, _ => by simp at h; simp [h]
  | c :: s, 0, _, _, h => by
    rcases h with h | ⟨d, h1, h2⟩
    · simp at h
    · simp at h1; subst h1
      simp [List.takeWhile_cons, h2]
  | c :: s, i + 1, h, ha, hs => by
    simp only [List.take_succ_cons, List.all_cons, Bool.and_eq_true] at ha
    rw [List.takeWhile_cons, if_pos ha.1, List.length_cons, takeWhile_all (i := i) (by simpa using h) ha.2 (by simpa using hs)]
theorem refWord_spec : WordRC fun args M Q => ∃ a0, args = [a0] ∧ W_rolodex_rolodexref23_word a0 M Q := by
  intro M s Q hl hQ
  refine ⟨_, rfl, ?_⟩
  unfold W_rolodex_rolodexref23_word
  simp only [fuseM]
  refine loopW_ind (fun m ys M3 => M3 = M ∧ ∃ i : Nat, m = s.length - i ∧ ys = [N .i64 i] ∧ i ≤ s.length ∧ (s.take i).all wch = true) _ ⟨rfl, 0, rfl, rfl, Nat.zero_le _, rfl⟩ ?_
  rintro next m ys M3 hnext ⟨rfl, i, rfl, rfl, hi, ha⟩
  dsimp only [nthD]
  rw [lenStr_St, intW_lss]
  by_cases hlt : i < s.length
  · have e1 : decide ((i : Int) < (s.length : Int)) = true := by simpa using hlt
    have hg : s[i]? = some s[i] := List.getElem?_eq_getElem hlt
    have htk := List.take_succ_eq_append_getElem hlt
    generalize s[i] = c at *
    have w1 := i64_succ (show i < 9223372036854775807 by omega)
    have fin : wch c = true → next [N .i64 ((i + 1 : Nat) : Int)] M3 := fun h => hnext _ _ _ (by omega) ⟨rfl, i + 1, rfl, rfl, by omega, by rw [htk, List.all_append, ha]; simp [h]⟩
    have stop : wch c = false → Q (N .i64 (i : Int)) M3 := fun h => by
      have := takeWhile_all hi ha (.inr ⟨c, hg, h⟩)
      have h2 := hQ
      unfold wn at h2
      rw [this] at h2
      exact h2
    have h8 := u8_lt c
    have idx : ∀ K : AV → Prop, idxB (St s) (N .i64 (i : Int)) K = K (N .u8 c.toNat) := fun K => by
      rw [idxB_St]
      apply propext
      constructor
      · rintro ⟨_, b, hb, hk⟩; rw [Int.toNat_natCast, hg] at hb; cases hb; exact hk
      · intro hk; exact ⟨by omega, c, by rw [Int.toNat_natCast]; exact hg, hk⟩
    rw [e1]
    by_cases a : 97 ≤ c.toNat
    · have ea : decide ((c.toNat : Int) ≥ 97) = true := by simp; omega
      by_cases b : c.toNat ≤ 122
      · have eb : decide ((c.toNat : Int) ≤ 122) = true := by simp; omega
        simp only [guardM_U, guardM_TT, guardM_TF, guardM_FT, guardM_FF, pickT, pickF, condT, condF, idx, intW_geq, intW_leq, intW_eql, ea, eb]
        rw [intW_add, w1]
        exact fin (by simp [wch, a, b])
      · have eb : decide ((c.toNat : Int) ≤ 122) = false := by simp; omega
        have e2 : decide ((c.toNat : Int) ≥ 65) = true := by simp; omega
        have e3 : decide ((c.toNat : Int) ≤ 90) = false := by simp; omega
        have e4 : decide ((c.toNat : Int) ≥ 48) = true := by simp; omega
        have e5 : decide ((c.toNat : Int) ≤ 57) = false := by simp; omega
        have e6 : ((c.toNat : Int) == 45) = false := by simp; omega
        simp only [guardM_U, guardM_TT, guardM_TF, guardM_FT, guardM_FF, pickT, pickF, condT, condF, idx, intW_geq, intW_leq, intW_eql, ea, eb, e2, e3, e4, e5, e6]
        exact stop (by simp [wch]; omega)
    · have ea : decide ((c.toNat : Int) ≥ 97) = false := by simp; omega
      by_cases b : 65 ≤ c.toNat
      · have eb : decide ((c.toNat : Int) ≥ 65) = true := by simp; omega
        by_cases d : c.toNat ≤ 90
        · have ed : decide ((c.toNat : Int) ≤ 90) = true := by simp; omega
          simp only [guardM_U, guardM_TT, guardM_TF, guardM_FT, guardM_FF, pickT, pickF, condT, condF, idx, intW_geq, intW_leq, intW_eql, ea, eb, ed]
          rw [intW_add, w1]
          exact fin (by simp [wch, b, d])
        · have ed : decide ((c.toNat : Int) ≤ 90) = false := by simp; omega
          have e4 : decide ((c.toNat : Int) ≥ 48) = true := by simp; omega
          have e5 : decide ((c.toNat : Int) ≤ 57) = false := by simp; omega
          have e6 : ((c.toNat : Int) == 45) = false := by simp; omega
          simp only [guardM_U, guardM_TT, guardM_TF, guardM_FT, guardM_FF, pickT, pickF, condT, condF, idx, intW_geq, intW_leq, intW_eql, ea, eb, ed, e4, e5, e6]
          exact stop (by simp [wch]; omega)
      · have eb : decide ((c.toNat : Int) ≥ 65) = false := by simp; omega
        by_cases d : 48 ≤ c.toNat
        · have ed : decide ((c.toNat : Int) ≥ 48) = true := by simp; omega
          by_cases g : c.toNat ≤ 57
          · have eg : decide ((c.toNat : Int) ≤ 57) = true := by simp; omega
            simp only [guardM_U, guardM_TT, guardM_TF, guardM_FT, guardM_FF, pickT, pickF, condT, condF, idx, intW_geq, intW_leq, intW_eql, ea, eb, ed, eg]
            rw [intW_add, w1]
            exact fin (by simp [wch, d, g])
          · have eg : decide ((c.toNat : Int) ≤ 57) = false := by simp; omega
            have e6 : ((c.toNat : Int) == 45) = false := by simp; omega
            simp only [guardM_U, guardM_TT, guardM_TF, guardM_FT, guardM_FF, pickT, pickF, condT, condF, idx, intW_geq, intW_leq, intW_eql, ea, eb, ed, eg, e6]
            exact stop (by simp [wch]; omega)
        · have ed : decide ((c.toNat : Int) ≥ 48) = false := by simp; omega
          by_cases g : c.toNat = 45
          · have eg : ((c.toNat : Int) == 45) = true := by simp; omega
            simp only [guardM_U, guardM_TT, guardM_TF, guardM_FT, guardM_FF, pickT, pickF, condT, condF, idx, intW_geq, intW_leq, intW_eql, ea, eb, ed, eg]
            rw [intW_add, w1]
            exact fin (by simp [wch, g])
          · have eg : ((c.toNat : Int) == 45) = false := by simp; omega
            simp only [guardM_U, guardM_TT, guardM_TF, guardM_FT, guardM_FF, pickT, pickF, condT, condF, idx, intW_geq, intW_leq, intW_eql, ea, eb, ed, eg]
            exact stop (by simp [wch]; omega)
  · have hge : i = s.length := by omega
    have e1 : decide ((i : Int) < (s.length : Int)) = false := by simp; omega
    rw [e1]
    simp only [guardM_U, guardM_TT, guardM_TF, guardM_FT, guardM_FF, pickT, pickF, condT, condF]
    have := takeWhile_all hi ha (.inl hge)
    have h2 := hQ
    unfold wn at h2
    rw [this] at h2
    exact h2

theorem refLow_spec {T8 : Nat} : SmallC fun args M Q => ∃ a0, args = [a0] ∧ W_rolodex_rolodexref23_Low T8 a0 M Q := by
  intro M s Q hl hQ
  refine ⟨_, rfl, ?_⟩
  unfold W_rolodex_rolodexref23_Low
  simp only [fuseM, joinW_shut]
  rw [bytesW_St, newW_eq]
  have hk1 : Keep [] M (M.push (.row (BY.row s) true T8 0)) := (Keep.refl _ _).push _
  have hr1 : Rw BY (M.push (.row (BY.row s) true T8 0)) M.next true T8 s := Rw.new M s
  generalize M.push (.row (BY.row s) true T8 0) = M1 at *
  refine loopW_ind (fun m ys M3 => ∃ i : Nat, m = s.length - i ∧ ys = [N .i64 i] ∧ i ≤ s.length ∧ Rw BY M3 M.next true T8 ((s.take i).map lowB ++ s.drop i) ∧ Keep [] M M3) _
    ⟨0, rfl, rfl, Nat.zero_le _, by simpa using hr1, hk1⟩ ?_
  rintro next m ys M3 hnext ⟨i, rfl, rfl, hi, hR, hK⟩
  dsimp only [nthD]
  rw [lenW_slc, intW_lss]
  refine condB (fun hlt => ?_) (fun hge => ?_)
  · have hlt : i < s.length := by simpa using hlt
    have hlen : i < ((s.take i).map lowB ++ s.drop i).length := by simp; omega
    have hc := hR.load1 hlen
    have w1 := i64_succ (show i < 9223372036854775807 by omega)
    rw [low_get hlt hlen] at hc
    have idx : ∀ K : AV → Prop, idxS (.slc M.next 0 s.length (.op 1)) (N .i64 (i : Int)) 1 K = K (.ptr M.next i) := fun K => by
      rw [idxS_slc]
      simp only [Int.toNat_natCast, Nat.mul_one, Nat.zero_add]
      exact propext ⟨fun h => h.2.2, fun h => ⟨by omega, by omega, h⟩⟩
    have ld : ∀ K : AV → Prop, load1 M3 (.ptr M.next i) K = K (By s[i]) := fun K => by
      rw [load1_ptr, hc]; simp
    refine joinV_spec (fun xs M' => xs = [] ∧ Rw BY M' M.next true T8 ((s.take (i + 1)).map lowB ++ s.drop (i + 1)) ∧ Keep [] M M') ?_ ?_
    · rintro _ M4 ⟨rfl, h1, h2⟩
      rw [intW_add, w1]
      exact hnext _ _ _ (by omega) ⟨i + 1, rfl, rfl, by omega, h1, h2⟩
    · intro J hJ
      have same : lowB s[i] = s[i] → J [] M3 := fun h => by
        refine hJ _ _ ⟨rfl, ?_, hK⟩
        rw [low_take hlt, h, ← List.drop_eq_getElem_cons hlt]
        exact hR
      have cb := u8_lt s[i]
      rw [idx, ld, intW_geq]
      by_cases h1 : 65 ≤ s[i].toNat
      · have e1 : decide ((s[i].toNat : Int) ≥ 65) = true := by simp; omega
        rw [e1, guardM_TT, idx, ld, intW_leq]
        dsimp only
        rw [pickT]
        by_cases h2 : s[i].toNat ≤ 90
        · have e2 : decide ((s[i].toNat : Int) ≤ 90) = true := by simp; omega
          have hlow : lowB s[i] = UInt8.ofNat (s[i].toNat + 32) := by rw [lowB, if_pos ⟨h1, h2⟩]
          have wv : N IntKind.u8 (IntKind.u8.wrap ((s[i].toNat : Int) + 32)) = By (lowB s[i]) := by
            rw [hlow, By, u8_nat, Nat.mod_eq_of_lt (by omega)]
            congr 1
            rw [wrap_u8_id (by omega) (by omega)]; omega
          obtain ⟨hs, hR'⟩ := hR.store1 hlen (lowB s[i])
          rw [low_step hlt] at hs hR'
          rw [e2, condT, idx, ld, intW_add, wv, idx, storeW_ptr]
          refine ⟨rfl, _, hs, hJ _ _ ⟨rfl, ?_, hK.put _ (.inl (Nat.le_refl _))⟩⟩
          rw [low_take hlt]
          exact hR'
        · have e2 : decide ((s[i].toNat : Int) ≤ 90) = false := by simp; omega
          rw [e2, condF]
          exact same (by rw [lowB, if_neg (by omega)])
      · have e1 : decide ((s[i].toNat : Int) ≥ 65) = false := by simp; omega
        rw [e1, guardM_FT]
        dsimp only
        rw [pickF, condF]
        exact same (by rw [lowB, if_neg (by omega)])
  · have : i = s.length := by simp at hge; omega
    subst this
    rw [List.take_length, List.drop_length, List.append_nil] at hR
    have := hR.sl (cap := .op 1)
    rw [List.length_map] at this
    rw [Sl.str this]
    exact hQ M3 hK
end Go.Ab.Vl
/- The document's own reading of a parameter's values: the walk. By an AI agent. -/
set_option maxRecDepth 10000
set_option linter.unusedVariables false
set_option linter.unusedSimpArgs false
namespace Go.Ab.Vl
open Go Go.Ab

theorem idxB_0 {c : UInt8} {r : List UInt8} {kd : IntKind} {K : AV → Prop} : idxB (St (c :: r)) (N kd 0) K = K (By c) := idxB_at (s := c :: r) (i := 0) (by simp) kd K
theorem bne_By {a b : UInt8} : (((a.toNat : Int)) != (b.toNat : Int)) = (a != b) := by
  by_cases h : a = b
  · subst h; simp
  · have : a.toNat ≠ b.toNat := fun e => h (UInt8.toNat_inj.1 e)
    have h2 : (a != b) = true := by simp [h]
    rw [h2]; simp; omega
theorem beq_By {a b : UInt8} : (((a.toNat : Int)) == (b.toNat : Int)) = (a == b) := by
  by_cases h : a = b
  · subst h; simp
  · have : a.toNat ≠ b.toNat := fun e => h (UInt8.toNat_inj.1 e)
    have h2 : (a == b) = false := by simp [h]
    rw [h2]; simp; omega

/-- Does a text begin with a byte: as Go asks it. -/
theorem headW {x : UInt8} {n : Int} (hn : (x.toNat : Int) = n) {t : List UInt8} {M : RM} {K : AV → RM → Prop} :
    (guardM (Bo (decide ((t.length : Int) > 0))) true (fun k' => idxB (St t) (N .i64 0) fun a => intW .eql a (N .u8 n) fun b => k' b M) (fun k => k .undef M) fun b M1 => pickW (Bo (decide ((t.length : Int) > 0))) b (Bo false) fun d => K d M1) = K (Bo (headIs x t)) M := by
  subst hn
  cases t with
  | nil =>
    rw [show decide (((([] : List UInt8).length : Nat) : Int) > 0) = false from rfl, guardM_FT]
    dsimp only
    rw [pickF]; rfl
  | cons c r =>
    rw [show decide ((((c :: r).length : Nat) : Int) > 0) = true by simp, guardM_TT, idxB_0, intW_eql, beq_By]
    dsimp only
    rw [pickT]; rfl
theorem headNW {x : UInt8} {n : Int} (hn : (x.toNat : Int) = n) {t : List UInt8} {M : RM} {K : AV → RM → Prop} :
    (guardM (Bo ((t.length : Int) == 0)) false (fun k' => idxB (St t) (N .i64 0) fun a => intW .neq a (N .u8 n) fun b => k' b M) (fun k => k .undef M) fun b M1 => pickW (Bo ((t.length : Int) == 0)) (Bo true) b fun d => K d M1) = K (Bo (!headIs x t)) M := by
  subst hn
  cases t with
  | nil =>
    rw [show (((([] : List UInt8).length : Nat) : Int) == 0) = true from rfl, guardM_TF]
    dsimp only
    rw [pickT]; rfl
  | cons c r =>
    rw [show ((((c :: r).length : Nat) : Int) == 0) = false by simp; omega, guardM_FF, idxB_0, intW_neq, bne_By]
    dsimp only
    rw [pickF]; rfl

/-- What may stand within quotes, and without. -/
def qch (c : UInt8) : Bool := c != 34 && plainB c
def uch (c : UInt8) : Bool := plainB c && c != 34 && c != 44 && c != 59 && c != 58
def vstep (s : List UInt8) : Option (List UInt8 × List UInt8) :=
  if headIs 34 s then
    (if headIs 34 ((s.drop 1).dropWhile qch) then some ((s.drop 1).takeWhile qch, ((s.drop 1).dropWhile qch).drop 1) else none)
  else some (s.takeWhile uch, s.dropWhile uch)
def rvals : Nat → List UInt8 → List (List UInt8) → Option (List (List UInt8) × List UInt8)
  | 0, _, _ => none
  | k + 1, s, acc => match vstep s with
    | none => none
    | some (v, r) => if headIs 44 r then rvals k (r.drop 1) (acc ++ [v]) else some (acc ++ [v], r)
theorem take_while_drop {α : Type} (p : α → Bool) : ∀ s : List α, s.drop (s.takeWhile p).length = s.dropWhile p ∧ s.take (s.takeWhile p).length = s.takeWhile p
  | [] => by simp
  | c :: s => by
    rw [List.takeWhile_cons, List.dropWhile_cons]
    split
    · have := take_while_drop p s
      simp [this.1, this.2]
    · simp
theorem vstep_len {s v r : List UInt8} (h : vstep s = some (v, r)) : r.length ≤ s.length := by
  unfold vstep at h
  split at h
  · split at h
    · cases h
      have := dropWhile_len qch (s.drop 1)
      simp at this ⊢; omega
    · cases h
  · cases h
    exact dropWhile_len uch s
theorem rvals_fuel : ∀ (n : Nat) (s : List UInt8) (acc : List (List UInt8)) (k : Nat), s.length ≤ n → s.length + 1 ≤ k → rvals k s acc = rvals (s.length + 1) s acc
  | n, s, acc, k, h1, h3 => by
    obtain ⟨i, rfl⟩ : ∃ i, k = i + 1 := ⟨k - 1, by omega⟩
    rw [rvals, rvals]
    cases hv : vstep s with
    | none => rfl
    | some p =>
      obtain ⟨v, r⟩ := p
      have hl := vstep_len hv
      simp only
      split
      · rename_i hh
        have h4 := headIs_len hh
        cases n with
        | zero => omega
        | succ n => rw [rvals_fuel n (r.drop 1) _ i (by simp; omega) (by simp; omega), rvals_fuel n (r.drop 1) _ s.length (by simp; omega) (by simp; omega)]
      · rfl
def rvF (s : List UInt8) : Option (List (List UInt8) × List UInt8) := rvals (s.length + 1) s []
theorem rvals_len : ∀ (k : Nat) (s : List UInt8) (acc vs : List (List UInt8)) (r : List UInt8), rvals k s acc = some (vs, r) → r.length + vs.length ≤ s.length + acc.length + 1
  | 0, _, _, _, _, h => by cases h
  | k + 1, s, acc, vs, r, h => by
    rw [rvals] at h
    cases hv : vstep s with
    | none => rw [hv] at h; cases h
    | some p =>
      obtain ⟨v, t⟩ := p
      have hl := vstep_len hv
      rw [hv] at h
      simp only at h
      split at h
      · rename_i hh
        have h4 := headIs_len hh
        have := rvals_len k _ _ _ _ h
        simp at this; omega
      · cases h; simp; omega

def ValuesRC (T : Nat) (c : CallT) : Prop := ∀ {M : RM} {s : List UInt8} {Q : PostV}, s.length ≤ 100000 →
  (∀ M', Keep [] M M' → rvF s = none → Q (.tup [nilS, St [], Bo false]) M') →
  (∀ v M' vs r, Keep [] M M' → rvF s = some (vs, r) → Ow STR M' M.next T v vs → Q (.tup [v, St r, Bo true]) M') → c [St s] M Q

theorem values_spec {T : Nat} {cp : CallT} (hp : PlainC cp) : ValuesRC T fun args M Q => ∃ a0, args = [a0] ∧ W_rolodex_rolodexref23_values cp T a0 M Q := by
  intro M s Q hl hN hS
  refine ⟨_, rfl, ?_⟩
  unfold W_rolodex_rolodexref23_values
  simp only [fuseM, joinW_shut]
  refine loopW_ind (fun m ys M3 => ∃ (t : List UInt8) (v : AV) (acc : List (List UInt8)), m = t.length ∧ ys = [St t, v] ∧ t.length + acc.length ≤ s.length ∧ Keep [] M M3 ∧ Ow STR M3 M.next T v acc ∧ rvals (t.length + 1) t acc = rvF s) _
    ⟨s, nilS, [], rfl, rfl, by simp, Keep.refl _ _, .nil, rfl⟩ ?_
  rintro next m ys M3 hnext ⟨t, v, acc, rfl, rfl, htl, hK, ho, hrv⟩
  rw [rvals] at hrv
  dsimp only [nthD]
  refine joinV_spec (fun xs M' => M' = M3 ∧ ∃ (k : Nat) (w : List UInt8), xs = [N .i64 (k : Int), St w] ∧ k ≤ t.length ∧ vstep t = some (w, t.drop k)) ?_ ?_
  · rintro _ M4 ⟨rfl, k, w, rfl, hk, hv⟩
    rw [hv] at hrv
    simp only at hrv
    dsimp only [nthD]
    refine app_s ho hK.next (by omega) fun v' M5 o5 k5 _ => ?_
    have kk : Keep [] M M5 := hK.then_new k5 fun c hc => .inl (ho.blk c hc).1
    rw [subStr_from hk, getW_some, lenStr_St, intW_eql]
    have hdl : (t.drop k).length ≤ t.length := by simp
    generalize t.drop k = r at *
    rw [headNW (x := 44) (n := 44) rfl]
    cases hh : headIs 44 r with
    | false =>
      rw [Bool.not_false, condT]
      rw [if_neg (by rw [hh]; simp)] at hrv
      exact hS v' M5 _ _ kk hrv.symm o5
    | true =>
      rw [if_pos hh] at hrv
      have hr1 := headIs_len hh
      rw [Bool.not_true, condF, show subStr (St r) (some (N .i64 1)) none = some (St (r.drop 1)) from subStr_from (l := 1) hr1 .i64, getW_some]
      refine hnext _ _ _ (by simp; omega) ⟨r.drop 1, v', acc ++ [w], rfl, rfl, by simp; omega, kk, o5, ?_⟩
      rw [← hrv, rvals_fuel (r.drop 1).length (r.drop 1) _ t.length (Nat.le_refl _) (by simp; omega)]
  · intro J hJ
    rw [lenStr_St, intW_gtr, headW (x := 34) (n := 34) rfl]
    unfold vstep at hJ hrv
    cases h34 : headIs 34 t with
    | true =>
      simp only [h34, if_true] at hJ hrv
      rw [condT]
      obtain ⟨c, t1, rfl⟩ : ∃ c t1, t = c :: t1 := by
        cases t with
        | nil => cases h34
        | cons c t1 => exact ⟨c, t1, rfl⟩
      simp only [List.drop_succ_cons, List.drop_zero] at hJ hrv
      simp only [List.length_cons] at htl
      refine loopW_ind (fun m ys M4 => M4 = M3 ∧ ∃ n : Nat, m = t1.length - n ∧ ys = [N .i64 ((n + 1 : Nat) : Int)] ∧ n ≤ t1.length ∧ (t1.take n).all qch = true) _ ⟨rfl, 0, rfl, rfl, Nat.zero_le _, rfl⟩ ?_
      rintro next2 m ys M4 hnext2 ⟨rfl, n, rfl, rfl, hn, ha⟩
      dsimp only [nthD]
      rw [lenStr_St, intW_lss]
      have hle : (c :: t1).length = t1.length + 1 := rfl
      have w1 := i64_succ (show n + 1 < 9223372036854775807 by omega)
      have done : (n = t1.length ∨ ∃ c, t1[n]? = some c ∧ qch c = false) → n = (t1.takeWhile qch).length ∧ t1.drop n = t1.dropWhile qch ∧ t1.take n = t1.takeWhile qch := fun h => by
        have h1 := takeWhile_all hn ha h
        have h2 := take_while_drop qch t1
        rw [h1] at h2
        exact ⟨h1.symm, h2⟩
      have stop : (n = t1.length ∨ ∃ c, t1[n]? = some c ∧ qch c = false) → lenStr (St (c :: t1)) fun t36 => intW .eql (N .i64 ((n + 1 : Nat) : Int)) t36 fun t37 =>
          guardM t37 false (fun k' => idxB (St (c :: t1)) (N .i64 ((n + 1 : Nat) : Int)) fun t41 => intW .neq t41 (N .u8 34) fun t42 => k' t42 M4) (fun k => k .undef M4) fun t42_39 M_40 =>
          pickW t37 (Bo true) t42_39 fun t43 => condW t43 (Q (.tup [nilS, St [], Bo false]) M_40) (getW (subStr (St (c :: t1)) (some (N .i64 1)) (some (N .i64 ((n + 1 : Nat) : Int)))) fun t46 => intW .add (N .i64 ((n + 1 : Nat) : Int)) (N .i64 1) fun t48 => J [t48, t46] M_40) := fun h => by
        obtain ⟨h1, h2, h3⟩ := done h
        rw [lenStr_St, intW_eql]
        by_cases he : n = t1.length
        · rw [show (((n + 1 : Nat) : Int) == ((c :: t1).length : Int)) = true by simp [he], guardM_TF]
          dsimp only
          rw [pickT, condT]
          refine hN M4 hK ?_
          rw [he, List.drop_length] at h2
          rw [← hrv, ← h2]
          rfl
        · have hlt : n < t1.length := by omega
          rw [show (((n + 1 : Nat) : Int) == ((c :: t1).length : Int)) = false by simp; omega, guardM_FF, idxB_at (s := c :: t1) (i := n + 1) (by simp; omega) .i64, intW_neq]
          dsimp only
          rw [pickF, show (c :: t1)[n + 1]'(by simp; omega) = t1[n] from rfl, show ((t1[n].toNat : Int) != 34) = (t1[n] != 34) from bne_By (b := 34)]
          have hhd : headIs 34 (t1.dropWhile qch) = (t1[n] == 34) := by rw [← h2, List.drop_eq_getElem_cons hlt]; rfl
          cases hq : t1[n] == 34 with
          | false =>
            rw [show (t1[n] != 34) = true by rw [bne, hq]; rfl, condT]
            refine hN M4 hK ?_
            rw [hhd, hq] at hrv
            simpa using hrv.symm
          | true =>
            rw [show (t1[n] != 34) = false by rw [bne, hq]; rfl, condF]
            rw [show subStr (St (c :: t1)) (some (N .i64 1)) (some (N .i64 ((n + 1 : Nat) : Int))) = some (St (t1.take n)) from by
              have := subStr_some (s := c :: t1) (l := 1) (h := n + 1) (by omega) (by simp; omega) .i64 .i64
              simpa using this]
            rw [getW_some, intW_add, i64_succ (show n + 1 < 9223372036854775807 by omega)]
            refine hJ _ _ ⟨rfl, n + 1 + 1, t1.take n, rfl, by simp; omega, ?_⟩
            rw [hhd, hq, if_pos rfl, ← h3, ← h2]
            simp
      by_cases hlt : n < t1.length
      · have e1 : decide (((n + 1 : Nat) : Int) < ((c :: t1).length : Int)) = true := by simp; omega
        rw [e1, guardM_TT, idxB_at (s := c :: t1) (i := n + 1) (by simp; omega) .i64, intW_neq]
        dsimp only
        rw [pickT, show (c :: t1)[n + 1]'(by simp; omega) = t1[n] from rfl, show ((t1[n].toNat : Int) != 34) = (t1[n] != 34) from bne_By (b := 34)]
        have hg : t1[n]? = some t1[n] := List.getElem?_eq_getElem hlt
        have htk := List.take_succ_eq_append_getElem hlt
        cases hq : t1[n] != 34 with
        | false =>
          rw [guardM_FT]
          dsimp only
          rw [pickF, condF]
          exact stop (.inr ⟨_, hg, by simp [qch, hq]⟩)
        | true =>
          rw [guardM_TT, idxB_at (s := c :: t1) (i := n + 1) (by simp; omega) .i64]
          refine hp ?_
          dsimp only
          rw [pickT, show (c :: t1)[n + 1]'(by simp; omega) = t1[n] from rfl]
          cases hpl : plainB t1[n] with
          | false =>
            rw [condF]
            exact stop (.inr ⟨_, hg, by simp [qch, hpl]⟩)
          | true =>
            rw [condT, intW_add, w1]
            exact hnext2 _ _ _ (by omega) ⟨rfl, n + 1, rfl, rfl, by omega, by rw [htk, List.all_append, ha]; simp [qch, hq, hpl]⟩
      · have e1 : decide (((n + 1 : Nat) : Int) < ((c :: t1).length : Int)) = false := by simp; omega
        rw [e1, guardM_FT]
        dsimp only
        rw [pickF, guardM_FT]
        dsimp only
        rw [pickF, condF]
        exact stop (.inl (by omega))
    | false =>
      simp only [h34, Bool.false_eq_true, if_false] at hJ hrv
      rw [condF]
      refine loopW_ind (fun m ys M4 => M4 = M3 ∧ ∃ n : Nat, m = t.length - n ∧ ys = [N .i64 (n : Int)] ∧ n ≤ t.length ∧ (t.take n).all uch = true) _ ⟨rfl, 0, rfl, rfl, Nat.zero_le _, rfl⟩ ?_
      rintro next2 m ys M4 hnext2 ⟨rfl, n, rfl, rfl, hn, ha⟩
      dsimp only [nthD]
      rw [lenStr_St, intW_lss]
      have w1 := i64_succ (show n < 9223372036854775807 by omega)
      have stop : (n = t.length ∨ ∃ c, t[n]? = some c ∧ uch c = false) → getW (subStr (St t) none (some (N .i64 (n : Int)))) fun t87 => J [N .i64 (n : Int), t87] M4 := fun h => by
        have h1 := takeWhile_all hn ha h
        have h2 := take_while_drop uch t
        rw [h1] at h2
        rw [subStr_to hn, getW_some]
        exact hJ _ _ ⟨rfl, n, t.take n, rfl, hn, by rw [h2.1, h2.2]⟩
      by_cases hlt : n < t.length
      · have e1 : decide ((n : Int) < (t.length : Int)) = true := by simpa using hlt
        have hg : t[n]? = some t[n] := List.getElem?_eq_getElem hlt
        have htk := List.take_succ_eq_append_getElem hlt
        have idx : ∀ K : AV → Prop, idxB (St t) (N .i64 (n : Int)) K = K (By t[n]) := fun K => idxB_at hlt .i64 K
        generalize t[n] = c at *
        rw [e1, guardM_TT, idx]
        refine hp ?_
        dsimp only
        rw [pickT]
        cases hpl : plainB c with
        | false =>
          simp only [guardM_U, guardM_TT, guardM_TF, guardM_FT, guardM_FF, pickT, pickF, condT, condF]
          exact stop (.inr ⟨_, hg, by simp [uch, hpl]⟩)
        | true =>
          rw [guardM_TT, idx, intW_neq, show ((c.toNat : Int) != 34) = (c != 34) from bne_By (b := 34)]
          dsimp only
          rw [pickT]
          cases h1 : c != 34 with
          | false =>
            simp only [guardM_U, guardM_TT, guardM_TF, guardM_FT, guardM_FF, pickT, pickF, condT, condF]
            exact stop (.inr ⟨_, hg, by simp [uch, h1]⟩)
          | true =>
            rw [guardM_TT, idx, intW_neq, show ((c.toNat : Int) != 44) = (c != 44) from bne_By (b := 44)]
            dsimp only
            rw [pickT]
            cases h2 : c != 44 with
            | false =>
              simp only [guardM_U, guardM_TT, guardM_TF, guardM_FT, guardM_FF, pickT, pickF, condT, condF]
              exact stop (.inr ⟨_, hg, by simp [uch, h2]⟩)
            | true =>
              rw [guardM_TT, idx, intW_neq, show ((c.toNat : Int) != 59) = (c != 59) from bne_By (b := 59)]
              dsimp only
              rw [pickT]
              cases h3 : c != 59 with
              | false =>
                simp only [guardM_U, guardM_TT, guardM_TF, guardM_FT, guardM_FF, pickT, pickF, condT, condF]
                exact stop (.inr ⟨_, hg, by simp [uch, h3]⟩)
              | true =>
                rw [guardM_TT, idx, intW_neq, show ((c.toNat : Int) != 58) = (c != 58) from bne_By (b := 58)]
                dsimp only
                rw [pickT]
                cases h4 : c != 58 with
                | false =>
                  rw [condF]
                  exact stop (.inr ⟨_, hg, by simp [uch, h4]⟩)
                | true =>
                  rw [condT, intW_add, w1]
                  exact hnext2 _ _ _ (by omega) ⟨rfl, n + 1, rfl, rfl, by omega, by rw [htk, List.all_append, ha]; simp [uch, hpl, h1, h2, h3, h4]⟩
      · have e1 : decide ((n : Int) < (t.length : Int)) = false := by simp; omega
        rw [e1]
        simp only [guardM_U, guardM_TT, guardM_TF, guardM_FT, guardM_FF, pickT, pickF, condT, condF]
        exact stop (.inl (by omega))
end Go.Ab.Vl
/- The document's own reading of a content line: the walk. By an AI agent. -/
set_option maxRecDepth 10000
set_option linter.unusedVariables false
set_option linter.unusedSimpArgs false
namespace Go.Ab.Vl
open Go Go.Ab

def bad (n : Nat) : Bool := decide (n < 1) || decide (20 < n)
def lowN (n : Nat) (s : List UInt8) : List UInt8 := (s.take n).map lowB
def rhead (s : List UInt8) : Option (List UInt8 × List UInt8) :=
  if headIs 46 (s.drop (wn s)) then (if bad (wn s) then none else some (lowN (wn s) s, s.drop (wn s + 1))) else some ([], s)
def rpars : Nat → List UInt8 → List Par → Option (List Par × List UInt8)
  | 0, _, _ => none
  | k + 1, s, acc => if headIs 59 s then
      (if bad (wn (s.drop 1)) then none else if headIs 61 ((s.drop 1).drop (wn (s.drop 1))) then
        match rvF ((s.drop 1).drop (wn (s.drop 1) + 1)) with
        | some (vs, r) => rpars k r (acc ++ [(lowN (wn (s.drop 1)) (s.drop 1), vs)])
        | none => none
      else none)
    else some (acc, s)
def rtail (g s : List UInt8) : Option Ln :=
  if bad (wn s) then none else match rpars ((s.drop (wn s)).length + 1) (s.drop (wn s)) [] with
    | none => none
    | some (ps, r) => if headIs 58 r && (r.drop 1).all plainB then some ⟨g, lowN (wn s) s, ps, r.drop 1⟩ else none
def r1F (s : List UInt8) : Option Ln :=
  if fmd s then (match rhead s with
    | none => none
    | some (g, r) => rtail g r)
  else none
theorem rpars_fuel : ∀ (n : Nat) (s : List UInt8) (acc : List Par) (k : Nat), s.length ≤ n → s.length + 1 ≤ k → rpars k s acc = rpars (s.length + 1) s acc
  | n, s, acc, k, h1, h3 => by
    obtain ⟨i, rfl⟩ : ∃ i, k = i + 1 := ⟨k - 1, by omega⟩
    rw [rpars, rpars]
    split
    · rename_i h59
      have hpos := headIs_len h59
      split
      · rfl
      · split
        · rename_i h61
          have hp2 := headIs_len h61
          cases hv : rvF ((s.drop 1).drop (wn (s.drop 1) + 1)) with
          | none => rfl
          | some p =>
            obtain ⟨vs, r⟩ := p
            have := rvals_len _ _ _ _ _ hv
            have hv0 : 1 ≤ vs.length := by
              unfold rvF at hv
              exact rvals_pos _ _ _ _ _ hv
            simp at this hp2
            simp only
            cases n with
            | zero => omega
            | succ n => rw [rpars_fuel n r _ i (by omega) (by omega), rpars_fuel n r _ s.length (by omega) (by omega)]
        · rfl
    · rfl
 where
  rvals_pos : ∀ (k : Nat) (s : List UInt8) (acc vs : List (List UInt8)) (r : List UInt8), rvals k s acc = some (vs, r) → 1 ≤ vs.length
  | 0, _, _, _, _, h => by cases h
  | k + 1, s, acc, vs, r, h => by
    rw [rvals] at h
    cases hv : vstep s with
    | none => rw [hv] at h; cases h
    | some p =>
      obtain ⟨v, t⟩ := p
      rw [hv] at h
      simp only at h
      split at h
      · exact rvals_pos k _ _ _ _ h
      · cases h; simp

/-- Is a text's byte at a place that one? -/
theorem atW {x : UInt8} {n : Int} (hn : (x.toNat : Int) = n) {t : List UInt8} {k : Nat} {M : RM} {K : AV → RM → Prop} :
    (guardM (Bo (decide ((k : Int) < (t.length : Int)))) true (fun k' => idxB (St t) (N .i64 (k : Int)) fun a => intW .eql a (N .u8 n) fun b => k' b M) (fun k => k .undef M) fun b M1 => pickW (Bo (decide ((k : Int) < (t.length : Int)))) b (Bo false) fun d => K d M1) = K (Bo (headIs x (t.drop k))) M := by
  subst hn
  by_cases h : k < t.length
  · rw [decide_eq_true (by omega : (k : Int) < (t.length : Int)), guardM_TT, idxB_at h, intW_eql, beq_By]
    dsimp only
    rw [pickT, List.drop_eq_getElem_cons h]; rfl
  · rw [decide_eq_false (by omega : ¬ (k : Int) < (t.length : Int)), guardM_FT]
    dsimp only
    rw [pickF, List.drop_of_length_le (by omega)]; rfl
theorem badW {n : Nat} {M : RM} {K : AV → RM → Prop} :
    (guardM (Bo (decide ((n : Int) < 1))) false (fun k' => intW .gtr (N .i64 (n : Int)) (N .i64 20) fun b => k' b M) (fun k => k .undef M) fun b M1 => pickW (Bo (decide ((n : Int) < 1))) (Bo true) b fun d => K d M1) = K (Bo (bad n)) M := by
  by_cases h : n < 1
  · rw [decide_eq_true (by omega : (n : Int) < 1), guardM_TF]
    dsimp only
    rw [pickT]; simp [bad, h]
  · rw [decide_eq_false (by omega : ¬ (n : Int) < 1), guardM_FF, intW_gtr]
    dsimp only
    rw [pickF, show decide ((n : Int) > 20) = bad n by simp [bad, h]; omega]

def Rd1C (c : CallT) : Prop := ∀ {M : RM} {s : List UInt8} {Q : PostV}, s.length ≤ 10000 →
  (∀ cs M', Keep [] M M' → r1F s = none → cs.length = 5 → cs.all oneCell = true → Q (.tup [.agg cs, Bo false]) M') →
  (∀ cs M' L, Keep [] M M' → r1F s = some L → LnE.rel M' cs (L, 0) (fun b => M.next ≤ b) → Q (.tup [.agg cs, Bo true]) M') → c [St s] M Q

theorem failR2 {M : RM} {b b' T : Nat} {l l' : List AV} {Q : PostV} {r : Bool} (h : M.heap b = some (.row l false T 0)) (hl : l.length = 5) (h' : M.heap b' = some (.row l' false T 0)) (hl' : l'.length = 5) (h1 : l'.all oneCell = true)
    (hQ : Q (.tup [.agg l', Bo r]) (M.put b (.row l' false T 0))) :
    loadN M (.ptr b' 0) 5 fun t => storeW M (.ptr b 0) t 5 fun M1 => loadN M1 (.ptr b 0) 5 fun res => Q (.tup [res, Bo r]) M1 := by
  rw [loadN_at (n := 5) h' hl', storeW_all (n := 5) (x := .agg l') h hl' hl h1, show (AV.agg l').cells = l' from rfl, loadN_at (n := 5) (heap_put_eq _) hl']
  exact hQ

theorem read1_spec {TL TP TS : Nat} {cf cw cl cv cp : CallT} (hf : FormedC cf) (hw : WordRC cw) (hlo : SmallC cl) (hv : ValuesRC TS cv) (hp : PlainC cp) :
    Rd1C fun args M Q => ∃ a0, args = [a0] ∧ W_rolodex_rolodexref23_Read1 TL cf cw cl TP cv cp a0 M Q := by
  intro M s Q hl hN hS
  refine ⟨_, rfl, ?_⟩
  unfold W_rolodex_rolodexref23_Read1
  simp only [fuseM, joinW_shut]
  rw [newW_eq, buildW_eq]
  refine ⟨lz, rfl, ?_⟩
  rw [newW_eq]
  have h2 : ((M.push (.row lz false TL 0)).push (.row lz false TL 0)).heap M.next = some (.row lz false TL 0) := heap_push_lt (RM.push_new _) (by simp [RM.push])
  have h4 : ((M.push (.row lz false TL 0)).push (.row lz false TL 0)).heap (M.next + 1) = some (.row lz false TL 0) := RM.push_new _
  have kk : Keep [] M ((M.push (.row lz false TL 0)).push (.row lz false TL 0)) := ((Keep.refl _ _).push _).push _
  have nn : ((M.push (.row lz false TL 0)).push (.row lz false TL 0)).next = M.next + 2 := rfl
  rw [next_push]
  generalize (M.push (.row lz false TL 0)).push (.row lz false TL 0) = M1 at *
  rw [storeW_all (n := 5) (x := .agg lz) h4 rfl rfl rfl]
  have h2 := heap_put_ne (z := .row lz false TL 0) h2 (show M.next ≠ M.next + 1 by omega)
  have h4 : (M1.put (M.next + 1) (.row lz false TL 0)).heap (M.next + 1) = some (.row lz false TL 0) := heap_put_eq _
  have kk : Keep [] M (M1.put (M.next + 1) (.row lz false TL 0)) := kk.new _ (by omega)
  have nn : (M1.put (M.next + 1) (.row lz false TL 0)).next = M.next + 2 := nn
  change cf _ (M1.put (M.next + 1) (.row lz false TL 0)) _
  generalize M1.put (M.next + 1) (.row lz false TL 0) = M2 at *
  refine hf (by omega) ?_
  rw [notW_Bo]
  unfold r1F at hN hS
  cases hfm : fmd s with
  | false =>
    rw [Bool.not_false, condT]
    exact failR2 h2 rfl h4 rfl rfl (hN _ _ (kk.new _ (Nat.le_refl _)) (by rw [hfm]; rfl) rfl rfl)
  | true =>
  simp only [hfm, if_true] at hN hS
  rw [Bool.not_true, condF]
  refine hw (by omega) ?_
  have hwl := wn_le s
  refine joinV_spec (fun xs M' => ∃ g r, xs = [St r, N .i64 ((wn r : Nat) : Int)] ∧ rhead s = some (g, r) ∧ r.length ≤ s.length ∧ Keep [] M M' ∧ M.next + 2 ≤ M'.next ∧ M'.heap M.next = some (.row lz false TL 0) ∧
      M'.heap (M.next + 1) = some (.row [St g, St [], nilS, St [], N .i64 0] false TL 0)) ?_ ?_
  · rintro _ M5 ⟨g, r, rfl, hhd, hrl, k5, n5, h2, h4⟩
    rw [hhd] at hN hS
    simp only at hN hS
    unfold rtail at hN hS
    dsimp only [nthD]
    have hrw := wn_le r
    rw [intW_lss, badW]
    cases hb : bad (wn r) with
    | true =>
      rw [condT]
      exact failR2 h2 rfl h4 rfl rfl (hN _ _ (k5.new _ (Nat.le_refl _)) (by rw [hb]; rfl) rfl rfl)
    | false =>
    simp only [hb, Bool.false_eq_true, if_false] at hN hS
    rw [condF, subStr_to hrw, getW_some]
    refine hlo (by simp; omega) fun M6 k6 => ?_
    have h2 := k6.heap_of h2 (by omega) (by simp)
    have h4 := k6.heap_of h4 (by omega) (by simp)
    have n6 := k6.next
    rw [fld0, storeW_to [St g, St (lowN (wn r) r), nilS, St [], N .i64 0] h4 (by simp) rfl rfl rfl, subStr_from hrw, getW_some]
    have k7 : Keep [] M (M6.put (M.next + 1) (.row [St g, St (lowN (wn r) r), nilS, St [], N .i64 0] false TL 0)) := (k5.trans k6).new _ (by omega)
    have h2 := heap_put_ne (z := .row [St g, St (lowN (wn r) r), nilS, St [], N .i64 0] false TL 0) h2 (show M.next ≠ M.next + 1 by omega)
    have h4 : (M6.put (M.next + 1) (.row [St g, St (lowN (wn r) r), nilS, St [], N .i64 0] false TL 0)).heap (M.next + 1) = _ := heap_put_eq _
    have n7 : M.next + 2 ≤ (M6.put (M.next + 1) (.row [St g, St (lowN (wn r) r), nilS, St [], N .i64 0] false TL 0)).next := by rw [next_put]; omega
    generalize M6.put (M.next + 1) (.row [St g, St (lowN (wn r) r), nilS, St [], N .i64 0] false TL 0) = M7 at *
    generalize hnm : lowN (wn r) r = nm at *
    have hdl : (r.drop (wn r)).length ≤ s.length := by simp; omega
    generalize r.drop (wn r) = q at *
    refine loopW_ind (fun m ys M8 => ∃ (t : List UInt8) (v : AV) (acc : List Par), m = t.length ∧ ys = [St t] ∧ acc.length + t.length ≤ s.length ∧ Keep [] M M8 ∧ M.next + 2 ≤ M8.next ∧ M8.heap M.next = some (.row lz false TL 0) ∧
        M8.heap (M.next + 1) = some (.row [St g, St nm, v, St [], N .i64 0] false TL 0) ∧ OwD ParE M8 (M.next + 2) TP v acc (fun b => M.next + 2 ≤ b ∧ b < M8.next ∧ b ∉ blkOf v) ∧ rpars (t.length + 1) t acc = rpars (q.length + 1) q []) _
      ⟨q, nilS, [], rfl, rfl, by simpa using hdl, k7, n7, h2, h4, .nil, rfl⟩ ?_
    rintro next m ys M8 hnext ⟨t, v, acc, rfl, rfl, htl, k8, n8, h2, h4, ho, hpr⟩
    dsimp only [nthD]
    rw [lenStr_St, intW_gtr, headW (x := 59) (n := 59) rfl]
    rw [rpars] at hpr
    have hone : ([St g, St nm, v, St [], N .i64 0] : List AV).all oneCell = true := by simp [one_sc, ho.one]
    cases h59 : headIs 59 t with
    | false =>
      simp only [h59, Bool.false_eq_true, if_false] at hpr
      rw [← hpr] at hN hS
      simp only at hN hS
      rw [condF, lenStr_St, intW_eql, headNW (x := 58) (n := 58) rfl]
      cases h58 : headIs 58 t with
      | false =>
        rw [Bool.not_false, condT]
        exact failR2 h2 rfl h4 rfl hone (hN _ _ (k8.new _ (Nat.le_refl _)) (by simp [h58]) rfl hone)
      | true =>
      have ht1 := headIs_len h58
      simp only [h58, Bool.true_and] at hN hS
      have ho1 := ho.one
      rw [Bool.not_true, condF, show subStr (St t) (some (N .i64 1)) none = some (St (t.drop 1)) from subStr_from (l := 1) ht1 .i64, getW_some, fld0, storeW_to [St g, St nm, v, St (t.drop 1), N .i64 0] h4 (by simp) rfl rfl rfl]
      have hone' : ([St g, St nm, v, St (t.drop 1), N .i64 0] : List AV).all oneCell = true := by simp [one_sc, ho.one]
      have hvl := ho.blk
      have k9 : Keep [] M (M8.put (M.next + 1) (.row [St g, St nm, v, St (t.drop 1), N .i64 0] false TL 0)) := k8.new _ (by omega)
      have h2 := heap_put_ne (z := .row [St g, St nm, v, St (t.drop 1), N .i64 0] false TL 0) h2 (show M.next ≠ M.next + 1 by omega)
      have h4 : (M8.put (M.next + 1) (.row [St g, St nm, v, St (t.drop 1), N .i64 0] false TL 0)).heap (M.next + 1) = _ := heap_put_eq _
      have ho := ho.keep (bs := [M.next + 1]) ((Keep.refl _ M8).put (b := M.next + 1) (.row [St g, St nm, v, St (t.drop 1), N .i64 0] false TL 0) (.inr (by simp))) (fun b hb h => by simp at hb; omega) (fun b hb h => by have := hvl b hb; simp at h; omega)
      generalize M8.put (M.next + 1) (.row [St g, St nm, v, St (t.drop 1), N .i64 0] false TL 0) = M9 at *
      have hdl2 : (t.drop 1).length ≤ s.length := by simp; omega
      generalize hu : t.drop 1 = u at *
      refine loopW_ind (fun m ys M10 => M10 = M9 ∧ ∃ i : Nat, m = u.length - i ∧ ys = [N .i64 (i : Int)] ∧ i ≤ u.length ∧ (u.take i).all plainB = true) _ ⟨rfl, 0, rfl, rfl, Nat.zero_le _, rfl⟩ ?_
      rintro next2 m ys M10 hnext2 ⟨rfl, i, rfl, rfl, hi, ha⟩
      dsimp only [nthD]
      rw [fld0, load1_at h4 rfl, lenStr_St, intW_lss]
      refine condB (fun hlt => ?_) (fun hge => ?_)
      · have hlt : i < u.length := by simpa using hlt
        rw [fld0, load1_at h4 rfl, idxB_at hlt]
        refine hp ?_
        rw [notW_Bo]
        cases hpl : plainB u[i] with
        | false =>
          rw [Bool.not_false, condT]
          refine failR2 h2 rfl h4 rfl hone' (hN _ _ (k9.new _ (Nat.le_refl _)) ?_ rfl hone')
          have : u.all plainB = false := by rw [List.all_eq_false]; exact ⟨u[i], List.getElem_mem hlt, by simp [hpl]⟩
          rw [this]; rfl
        | true =>
          rw [Bool.not_true, condF, intW_add, i64_succ (by omega)]
          exact hnext2 _ _ _ (by omega) ⟨rfl, i + 1, rfl, rfl, by omega, by rw [List.take_succ_eq_append_getElem hlt, List.all_append, ha]; simp [hpl]⟩
      · have hge : i = u.length := by simp at hge; omega
        subst hge
        rw [List.take_length] at ha
        refine failR2 h2 rfl h4 rfl hone' (hS _ _ ⟨g, nm, acc, u⟩ (k9.new _ (Nat.le_refl _)) (by rw [ha]; rfl) ⟨v, rfl, ?_⟩)
        have ho := ho.keep (bs := [M.next]) ((Keep.refl _ M10).put (b := M.next) (.row [St g, St nm, v, St u, N .i64 0] false TL 0) (.inr (by simp))) (fun b hb h => by simp at hb; omega) (fun b hb h => by have := hvl b hb; simp at h; omega)
        exact (ho.mono (S' := fun b => M.next ≤ b) fun b h => by omega).slD fun b h1 _ => by omega
    | true =>
      simp only [h59, if_true] at hpr
      have ht1 := headIs_len h59
      rw [condT, show subStr (St t) (some (N .i64 1)) none = some (St (t.drop 1)) from subStr_from (l := 1) ht1 .i64, getW_some]
      have hdl2 : (t.drop 1).length + 1 ≤ t.length := by simp; omega
      generalize t.drop 1 = u at *
      refine hw (by omega) ?_
      have huw := wn_le u
      generalize wn u = k at *
      have fail : rpars (q.length + 1) q [] = none → ∀ M' w, Keep [] M8 M' → M'.heap M.next = some (.row lz false TL 0) → M'.heap (M.next + 1) = some (.row [St g, St nm, w, St [], N .i64 0] false TL 0) → oneCell w = true →
          loadN M' (.ptr (M.next + 1) 0) 5 fun t => storeW M' (.ptr M.next 0) t 5 fun M1 => loadN M1 (.ptr M.next 0) 5 fun res => Q (.tup [res, Bo false]) M1 := fun h M' w k' g2 g4 hw1 => by
        have hone : ([St g, St nm, w, St [], N .i64 0] : List AV).all oneCell = true := by simp [one_sc, hw1]
        exact failR2 g2 rfl g4 rfl hone (hN _ _ ((k8.trans k').new _ (Nat.le_refl _)) (by rw [h]) rfl hone)
      rw [intW_lss, badW]
      cases hb : bad k with
      | true =>
        simp only [hb, if_true] at hpr
        rw [guardM_TF]
        dsimp only
        rw [pickT, guardM_TF]
        dsimp only
        rw [pickT, condT]
        exact fail hpr.symm _ _ (Keep.refl _ _) h2 h4 ho.one
      | false =>
      simp only [hb, Bool.false_eq_true, if_false] at hpr
      rw [guardM_FF, lenStr_St, intW_eql]
      dsimp only
      rw [pickF]
      by_cases hkl : k = u.length
      · rw [show ((k : Int) == (u.length : Int)) = true by simp [hkl], guardM_TF]
        dsimp only
        rw [pickT, condT]
        rw [hkl, List.drop_length] at hpr
        exact fail hpr.symm _ _ (Keep.refl _ _) h2 h4 ho.one
      rw [show ((k : Int) == (u.length : Int)) = false by simp; omega, guardM_FF, idxB_at (show k < u.length by omega), intW_neq]
      dsimp only
      rw [pickF, show ((u[k].toNat : Int) != 61) = (u[k] != 61) from bne_By (b := 61)]
      have hhd : headIs 61 (u.drop k) = (u[k] == 61) := by rw [List.drop_eq_getElem_cons (show k < u.length by omega)]; rfl
      cases h61 : u[k] == 61 with
      | false =>
        rw [show (u[k] != 61) = true by rw [bne, h61]; rfl, condT]
        rw [hhd, h61] at hpr
        exact fail (by simpa using hpr.symm) _ _ (Keep.refl _ _) h2 h4 ho.one
      | true =>
      rw [show (u[k] != 61) = false by rw [bne, h61]; rfl, condF, subStr_to huw, getW_some]
      rw [hhd, h61, if_pos rfl] at hpr
      refine hlo (by simp; omega) fun M9 k9 => ?_
      have h2 := k9.heap_of h2 (by omega) (by simp)
      have h4 := k9.heap_of h4 (by omega) (by simp)
      have n9 := k9.next
      rw [buildW_eq]
      refine ⟨[St (lowN k u), nilS], rfl, ?_⟩
      rw [newW_eq, storeW_all (n := 2) (x := .agg [St (lowN k u), nilS]) (l := [St [], nilS]) (RM.push_new _) rfl rfl rfl]
      have k10 : Keep [] M9 ((M9.push (.row [St [], nilS] false TP 0)).put M9.next (.row [St (lowN k u), nilS] false TP 0)) := ((Keep.refl _ _).push _).new _ (Nat.le_refl _)
      have h6 : ((M9.push (.row [St [], nilS] false TP 0)).put M9.next (.row [St (lowN k u), nilS] false TP 0)).heap M9.next = some (.row [St (lowN k u), nilS] false TP 0) := heap_put_eq _
      have n10 : ((M9.push (.row [St [], nilS] false TP 0)).put M9.next (.row [St (lowN k u), nilS] false TP 0)).next = M9.next + 1 := rfl
      rw [intW_add, i64_succ (show k < 9223372036854775807 by omega), subStr_from (show k + 1 ≤ u.length by omega), getW_some]
      change cv _ ((M9.push (.row [St [], nilS] false TP 0)).put M9.next (.row [St (lowN k u), nilS] false TP 0)) _
      generalize (M9.push (.row [St [], nilS] false TP 0)).put M9.next (.row [St (lowN k u), nilS] false TP 0) = M10 at *
      have h2 := k10.heap_of h2 (by omega) (by simp)
      have h4 := k10.heap_of h4 (by omega) (by simp)
      have hvl := ho.blk
      refine hv (by simp; omega) ?_ ?_
      · intro M11 k11 hnone
        have h2 := k11.heap_of h2 (by omega) (by simp)
        have h4 := k11.heap_of h4 (by omega) (by simp)
        have h6 := k11.heap_of h6 (by omega) (by simp)
        rw [extW0, extW1, extW2, fld0, storeW_to [St (lowN k u), nilS] h6 (by simp) rfl rfl rfl, notW_Bo, Bool.not_false, condT]
        rw [hnone] at hpr
        exact fail hpr.symm _ _ (((k9.trans k10).trans k11).new _ (by omega)) (heap_put_ne h2 (by omega)) (heap_put_ne h4 (by omega)) ho.one
      · intro w M11 vs x k11 hsome how
        have h2 := k11.heap_of h2 (by omega) (by simp)
        have h4 := k11.heap_of h4 (by omega) (by simp)
        have h6 := k11.heap_of h6 (by omega) (by simp)
        have n11 := k11.next
        have hwb := how.blk
        rw [hsome] at hpr
        simp only at hpr
        have hlen := rvals_len _ _ _ _ _ hsome
        have hpos := rpars_fuel.rvals_pos _ _ _ _ _ hsome
        simp at hlen
        rw [extW0, extW1, extW2, fld0, storeW_to [St (lowN k u), w] h6 (by simp) how.cells how.one rfl, notW_Bo, Bool.not_true, condF]
        have k12 : Keep [] M8 (M11.put M9.next (.row [St (lowN k u), w] false TP 0)) := ((k9.trans k10).trans k11).new _ (by omega)
        have h2 := heap_put_ne (z := .row [St (lowN k u), w] false TP 0) h2 (show M.next ≠ M9.next by omega)
        have h4 := heap_put_ne (z := .row [St (lowN k u), w] false TP 0) h4 (show M.next + 1 ≠ M9.next by omega)
        have h6 : (M11.put M9.next (.row [St (lowN k u), w] false TP 0)).heap M9.next = _ := heap_put_eq _
        have how : Ow STR (M11.put M9.next (.row [St (lowN k u), w] false TP 0)) M10.next TS w vs := Own.keep (bs := [M9.next]) how ((Keep.refl _ M11).put (b := M9.next) _ (.inr (by simp))) (fun b hb h => by have := hwb b hb; simp at h; omega)
        have n12 : (M11.put M9.next (.row [St (lowN k u), w] false TP 0)).next = M11.next := rfl
        generalize M11.put M9.next (.row [St (lowN k u), w] false TP 0) = M12 at *
        have hone6 : ([St (lowN k u), w] : List AV).all oneCell = true := by simp [one_sc, how.one]
        rw [fld0, load1_at h4 rfl, loadN_at (n := 2) h6 rfl, rows1 (x := .agg [St (lowN k u), w]) (size := 2) rfl hone6 rfl, newW_eq]
        let S' : Nat → Prop := fun b => M.next + 2 ≤ b ∧ b < M12.next ∧ b ∉ blkOf v
        have ho12 : OwD ParE M12 (M.next + 2) TP v acc S' := (ho.keep k12 (by simp) (by simp)).mono fun b h => ⟨h.1, by omega, h.2.2⟩
        have hwsl : SlD STR.rep M12 w vs S' := SlD.of_sl how.slR fun b hb => ⟨by have := (how.blk b hb).1; omega, (how.blk b hb).2, fun hb2 => by have := (how.blk b hb).1; have := (hvl b hb2).2; omega⟩
        refine OwD.app (R := ParE) (a := (lowN k u, vs)) ho12 (ParE_rel hwsl) (by omega) (by decide) (fun b hb h => h.2.2 hb) (fun b h => h.2.1) (by omega) (by omega) ?_
        intro v' M13 o13 k13 n13 _ hd13
        have h2 := k13.heap_of h2 (by omega) (fun h => by have := hvl _ h; omega)
        have h4 := k13.heap_of h4 (by omega) (fun h => by have := hvl _ h; omega)
        rw [fld0, storeW_to [St g, St nm, v', St [], N .i64 0] h4 (by simp) o13.cells o13.one rfl]
        have hvl' := o13.blk
        refine hnext _ _ _ (by omega) ⟨x, v', acc ++ [(lowN k u, vs)], rfl, rfl, by simp; omega, ?_, by rw [next_put]; omega, heap_put_ne h2 (by omega), heap_put_eq _, ?_, ?_⟩
        · exact ((k8.trans k12).then_new k13 fun c hc => .inl (by have := hvl c hc; omega)).new _ (by omega)
        · have o14 := o13.keep (bs := [M.next + 1]) ((Keep.refl _ M13).put (b := M.next + 1) (.row [St g, St nm, v', St [], N .i64 0] false TL 0) (.inr (by simp))) (fun b hb h => by simp at hb; have := h.1; omega) (fun b hb h => by have := hvl' b hb; simp at h; omega)
          exact o14.mono fun b h => ⟨h.1, by have := h.2.1; rw [next_put]; omega, fun hb => hd13 b hb h⟩
        · rw [← hpr, rpars_fuel x.length x _ t.length (Nat.le_refl _) (by omega)]
  · intro J hJ
    rw [lenStr_St, intW_lss, atW (x := 46) (n := 46) rfl]
    unfold rhead at hJ hN
    cases h46 : headIs 46 (s.drop (wn s)) with
    | false =>
      rw [condF]
      simp only [h46, Bool.false_eq_true, if_false] at hJ
      exact hJ _ _ ⟨[], s, rfl, rfl, Nat.le_refl _, kk, by omega, h2, h4⟩
    | true =>
      simp only [h46, if_true] at hJ hN
      have h46l := headIs_len h46
      simp only [List.length_drop] at h46l
      rw [condT, subStr_to hwl, getW_some]
      refine hlo (by simp; omega) fun M3 k3 => ?_
      have h2 := k3.heap_of h2 (by omega) (by simp)
      have h4 := k3.heap_of h4 (by omega) (by simp)
      have n3 := k3.next
      rw [fld0, storeW_to [St (lowN (wn s) s), St [], nilS, St [], N .i64 0] h4 (by simp) rfl rfl rfl, intW_lss, badW]
      have k4 : Keep [] M (M3.put (M.next + 1) (.row [St (lowN (wn s) s), St [], nilS, St [], N .i64 0] false TL 0)) := (kk.trans k3).new _ (by omega)
      have h2 := heap_put_ne (z := .row [St (lowN (wn s) s), St [], nilS, St [], N .i64 0] false TL 0) h2 (show M.next ≠ M.next + 1 by omega)
      have h4 : (M3.put (M.next + 1) (.row [St (lowN (wn s) s), St [], nilS, St [], N .i64 0] false TL 0)).heap (M.next + 1) = _ := heap_put_eq _
      have n4 : M.next + 2 ≤ (M3.put (M.next + 1) (.row [St (lowN (wn s) s), St [], nilS, St [], N .i64 0] false TL 0)).next := by rw [next_put]; omega
      generalize M3.put (M.next + 1) (.row [St (lowN (wn s) s), St [], nilS, St [], N .i64 0] false TL 0) = M4 at *
      cases hb : bad (wn s) with
      | true =>
        rw [condT]
        exact failR2 h2 rfl h4 rfl rfl (hN _ _ (k4.new _ (Nat.le_refl _)) (by simp [hb]) rfl rfl)
      | false =>
        simp only [hb, Bool.false_eq_true, if_false] at hJ
        rw [condF, intW_add, i64_succ (show wn s < 9223372036854775807 by omega), subStr_from (show wn s + 1 ≤ s.length by omega), getW_some]
        refine hw (by simp; omega) ?_
        exact hJ _ _ ⟨lowN (wn s) s, s.drop (wn s + 1), rfl, rfl, by simp, k4, n4, h2, h4⟩
end Go.Ab.Vl
/- Both readings of a line are one: plain law. By an AI agent. -/
set_option maxRecDepth 10000
set_option linter.unusedVariables false
set_option linter.unusedSimpArgs false
namespace Go.Ab.Vl
open Go Go.Ab

/-! ### well formed texts, cut at a plain byte -/
theorem rkN_cont {n b0 b1 b2 b3 : Nat} (h0 : rkN n b0 b1 b2 b3 ≠ 0) : (2 ≤ rkN n b0 b1 b2 b3 → 128 ≤ b1) ∧ (3 ≤ rkN n b0 b1 b2 b3 → 128 ≤ b2) ∧ (4 ≤ rkN n b0 b1 b2 b3 → 128 ≤ b3) := by
  by_cases r1 : b0 < 128
  · rw [rkN_ascii r1]; omega
  by_cases r2 : b0 < 194 ∨ 245 ≤ b0
  · exact absurd (rkN_lead (by omega)) h0
  by_cases r3 : b0 < 224
  · by_cases g : n < 2 ∨ b1 < 128 ∨ 191 < b1
    · exact absurd (rkN2_bad (by omega) g) h0
    · rw [rkN2 (by omega) (by omega) (by omega)]; omega
  by_cases r4 : b0 < 240
  · by_cases g : n < 3 ∨ b1 < 128 ∨ 191 < b1 ∨ b2 < 128 ∨ 191 < b2
    · exact absurd (rkN3_bad (by omega) g) h0
    · rw [rkN3 (by omega) (by omega) (by omega) (by omega) rfl]
      split <;> omega
  · by_cases g : n < 4 ∨ b1 < 128 ∨ 191 < b1 ∨ b2 < 128 ∨ 191 < b2 ∨ b3 < 128 ∨ 191 < b3
    · exact absurd (rkN4_bad (by omega) g) h0
    · omega
theorem rk_cont {s : List UInt8} (h0 : rk s ≠ 0) {i : Nat} (h1 : 1 ≤ i) (hi : i < rk s) : 128 ≤ bt s i := by
  have hne : s ≠ [] := by intro e; subst e; simp [rk] at h0
  have hk : rk s = rkN s.length (bt s 0) (bt s 1) (bt s 2) (bt s 3) := by rw [rk, if_neg hne]
  have hl := (rk_le (s := s)).2
  have := rkN_cont (hk ▸ h0)
  rw [← hk] at this
  obtain rfl | rfl | rfl : i = 1 ∨ i = 2 ∨ i = 3 := by omega
  · exact this.1 (by omega)
  · exact this.2.1 (by omega)
  · exact this.2.2 (by omega)
theorem rk_ascii {c : UInt8} {s : List UInt8} (h : c.toNat < 128) : rk (c :: s) = 1 := by
  rw [rk, if_neg (by simp)]
  exact rkN_ascii (by simpa [bt] using h)
theorem fmd_ascii {c : UInt8} {s : List UInt8} (h : c.toNat < 128) : fmd (c :: s) = fmd s := by
  rw [fmd_step (by rw [rk_ascii h]; omega), rk_ascii h]; rfl
theorem fmd_split {c : UInt8} (hc : c.toNat < 128) : ∀ (n : Nat) (a b : List UInt8), a.length ≤ n → fmd (a ++ c :: b) = true → fmd a = true ∧ fmd b = true
  | n, [], b, _, h => ⟨fmd_nil, by rwa [List.nil_append, fmd_ascii hc] at h⟩
  | 0, x :: a, b, hl, h => by simp at hl
  | n + 1, x :: a, b, hl, h => by
    have hne : (x :: a) ++ c :: b ≠ [] := by simp
    have h0 := rk_ne hne h
    have hle : rk ((x :: a) ++ c :: b) ≤ (x :: a).length := by
      rcases Nat.lt_or_ge (x :: a).length (rk ((x :: a) ++ c :: b)) with hlt | hge
      · have := rk_cont h0 (i := (x :: a).length) (by simp) hlt
        have hb : bt ((x :: a) ++ c :: b) (x :: a).length = c.toNat := by simp [bt, List.getD_eq_getElem?_getD]
        omega
      · exact hge
    have hr := rk_ext (s := (x :: a) ++ c :: b) (t := (x :: a).drop (rk ((x :: a) ++ c :: b))) h0
    rw [List.take_append_of_le_length hle, List.take_append_drop] at hr
    have hpos : 1 ≤ rk ((x :: a) ++ c :: b) := by omega
    rw [fmd_step h0, List.drop_append_of_le_length hle] at h
    have := fmd_split hc n ((x :: a).drop (rk ((x :: a) ++ c :: b))) b (by rw [List.length_drop]; simp only [List.length_cons] at hl ⊢; omega) h
    refine ⟨?_, this.2⟩
    rw [fmd_step (s := x :: a) (by rw [hr]; exact h0), hr]
    exact this.1
theorem fmd_drop_ascii : ∀ (a b : List UInt8), (∀ c ∈ a, c.toNat < 128) → fmd (a ++ b) = fmd b
  | [], b, _ => rfl
  | c :: a, b, h => by rw [List.cons_append, fmd_ascii (h c (by simp)), fmd_drop_ascii a b (fun d hd => h d (by simp [hd]))]

/-! ### words -/
theorem wset_low (c : UInt8) : wset.contains (lowB c) = wch c := by
  have key : ∀ n : Fin 256, wset.contains (lowB (UInt8.ofNat n.val)) = wch (UInt8.ofNat n.val) := by decide +kernel
  have := key ⟨c.toNat, c.toNat_lt⟩
  simpa using this
theorem dropWhile_map_low : ∀ s : List UInt8, ((s.map lowB).dropWhile (wset.contains ·)).length + wn s = s.length
  | [] => rfl
  | c :: s => by
    have ih := dropWhile_map_low s
    unfold wn at *
    rw [List.map_cons, List.dropWhile_cons, List.takeWhile_cons, wset_low c]
    cases wch c with
    | true => simp only [if_true, List.length_cons]; omega
    | false => simp only [Bool.false_eq_true, if_false, List.length_cons, List.length_map, List.length_nil]
theorem wk_wn (s : List UInt8) : wk s = wn s := by
  have := dropWhile_map_low s
  unfold wk; omega
theorem take_wn (s : List UInt8) : s.take (wn s) = s.takeWhile wch := (take_while_drop wch s).2
theorem all_takeWhile {α : Type} (p : α → Bool) : ∀ s : List α, ∀ x ∈ s.takeWhile p, p x = true
  | [], x, hx => by cases hx
  | c :: s, x, hx => by
    rw [List.takeWhile_cons] at hx
    split at hx
    · rcases List.mem_cons.1 hx with rfl | hx
      · assumption
      · exact all_takeWhile p s x hx
    · cases hx
theorem wch_ascii {c : UInt8} (h : wch c = true) : c.toNat < 128 := by
  simp [wch] at h; omega
theorem dropWhile_none {α : Type} {p : α → Bool} : ∀ {s : List α}, (∀ x ∈ s, p x = true) → s.dropWhile p = []
  | [], _ => rfl
  | c :: s, h => by rw [List.dropWhile_cons, if_pos (h c (by simp))]; exact dropWhile_none fun x hx => h x (by simp [hx])
theorem trim_low (s : List UInt8) : Lib.trimS (lowW s) wset = [] := by
  have h : ∀ x ∈ lowW s, wset.contains x = true := fun x hx => by
    unfold lowW at hx
    rw [wk_wn, take_wn] at hx
    obtain ⟨y, hy, rfl⟩ := List.mem_map.1 hx
    rw [wset_low]; exact all_takeWhile wch s y hy
  unfold Lib.trimS Lib.trimRightS Lib.trimLeftS
  rw [dropWhile_none (s := (lowW s).reverse) fun x hx => h x (by simpa using hx)]
  rfl
abbrev tfn : List UInt8 → List UInt8 := fun s => Lib.trimS s wset
theorem good_low (s : List UInt8) : goodN tfn (lowW s) = !bad (wn s) := by
  have hl : (lowW s).length = wn s := by
    unfold lowW; rw [wk_wn]; have := wn_le s; simp; omega
  unfold goodN bad
  rw [show tfn (lowW s) = [] from trim_low s, hl]
  by_cases h1 : 1 ≤ wn s <;> by_cases h2 : wn s ≤ 20 <;> simp [h1, h2] <;> omega
theorem lowW_lowN (s : List UInt8) : lowW s = lowN (wn s) s := by unfold lowW lowN; rw [wk_wn]
theorem fmd_word {s : List UInt8} (h : fmd s = true) : fmd (s.drop (wn s)) = true := by
  have := fmd_drop_ascii (s.take (wn s)) (s.drop (wn s)) (fun c hc => by rw [take_wn] at hc; exact wch_ascii (all_takeWhile wch s c hc))
  rw [List.take_append_drop] at this
  rw [← this]; exact h
theorem headIs_cons {x : UInt8} {s : List UInt8} (h : headIs x s = true) : s = x :: s.drop 1 := by
  cases s with
  | nil => cases h
  | cons c s => simp [headIs] at h; subst h; rfl
theorem fmd_head {x : UInt8} {s : List UInt8} (hx : x.toNat < 128) (h : headIs x s = true) (hf : fmd s = true) : fmd (s.drop 1) = true := by
  rw [headIs_cons h, fmd_ascii hx] at hf; exact hf

/-! ### values -/
theorem takeWhile_app {α : Type} {p : α → Bool} : ∀ {a b : List α}, (∀ x ∈ a, p x = true) → (∀ x, b.head? = some x → p x = false) → (a ++ b).takeWhile p = a ∧ (a ++ b).dropWhile p = b
  | [], [], _, _ => ⟨rfl, rfl⟩
  | [], y :: b, _, h => by
    have := h y rfl
    simp [List.takeWhile_cons, List.dropWhile_cons, this]
  | x :: a, b, h, hb => by
    have ih := takeWhile_app (a := a) (b := b) (fun y hy => h y (by simp [hy])) hb
    simp [List.takeWhile_cons, List.dropWhile_cons, h x (by simp), ih.1, ih.2]
/-- Where a word of bytes stops, in front of a first byte that is not of them. -/
theorem dropWhile_first {α : Type} {p : α → Bool} : ∀ {s : List α}, (∃ x ∈ s, p x = false) → ∃ a y b, s = a ++ y :: b ∧ (∀ x ∈ a, p x = true) ∧ p y = false
  | [], ⟨x, hx, _⟩ => by cases hx
  | c :: s, ⟨x, hx, hp⟩ => by
    cases hc : p c with
    | false => exact ⟨[], c, s, rfl, by simp, hc⟩
    | true =>
      rcases List.mem_cons.1 hx with rfl | hx
      · rw [hp] at hc; cases hc
      · obtain ⟨a, y, b, rfl, h1, h2⟩ := dropWhile_first ⟨x, hx, hp⟩
        exact ⟨c :: a, y, b, rfl, fun z hz => by rcases List.mem_cons.1 hz with rfl | hz; exact hc; exact h1 z hz, h2⟩
theorem okB_nil (c : UInt8) : okB [] c = plainB c := by simp [okB]
/-- No mark stands at the head. -/
def NoMark (r : List UInt8) : Prop := headIs 44 r = false ∧ headIs 59 r = false ∧ headIs 58 r = false
theorem noMark_cons {c : UInt8} {r : List UInt8} (h : c ≠ 44 ∧ c ≠ 59 ∧ c ≠ 58) : NoMark (c :: r) := by
  refine ⟨?_, ?_, ?_⟩ <;> simp [headIs, h]
theorem ia_cases (s : List UInt8) : (Lib.indexAny s mks = -1 ∧ ∀ x ∈ s, x ∉ mks) ∨ ∃ a c b, s = a ++ c :: b ∧ Lib.indexAny s mks = (a.length : Int) ∧ c ∈ mks ∧ ∀ x ∈ a, x ∉ mks := by
  induction s with
  | nil => exact .inl ⟨rfl, by simp⟩
  | cons d s ih =>
    rw [Lib.indexAny]
    by_cases hd : d ∈ mks
    · have : mks.contains d = true := by simpa using hd
      exact .inr ⟨[], d, s, rfl, by rw [if_pos this]; rfl, hd, by simp⟩
    · have : ¬ mks.contains d = true := by simpa using hd
      rw [if_neg this]
      rcases ih with ⟨h1, h2⟩ | ⟨a, c, b, rfl, h1, h2, h3⟩
      · exact .inl ⟨by rw [h1]; rfl, fun x hx => by rcases List.mem_cons.1 hx with rfl | hx; exact hd; exact h2 x hx⟩
      · refine .inr ⟨d :: a, c, b, rfl, ?_, h2, fun x hx => by rcases List.mem_cons.1 hx with rfl | hx; exact hd; exact h3 x hx⟩
        rw [h1]
        have : ((a.length : Int) == -1) = false := by simp
        rw [this]; simp
theorem mks_ascii {c : UInt8} (h : c ∈ mks) : c.toNat < 128 := by
  simp [mks] at h
  rcases h with rfl | rfl | rfl <;> decide
theorem uch_false {c : UInt8} (h : uch c = false) : plainB c = false ∨ c = 34 ∨ c ∈ mks := by
  by_cases h1 : plainB c = true
  · right
    by_cases h2 : c = 34
    · exact .inl h2
    · right
      simp [uch, h1, h2, mks] at h ⊢
      by_cases h3 : c = 44
      · exact .inl h3
      · by_cases h4 : c = 59
        · exact .inr (.inl h4)
        · exact .inr (.inr (h h3 h4))
  · left; simpa using h1
theorem mark_plain {c : UInt8} (h : c ∈ mks) : plainB c = true ∧ c ≠ 34 ∧ uch c = false := by
  simp [mks] at h
  rcases h with rfl | rfl | rfl <;> decide

theorem value_eq {t : List UInt8} (hf : fmd t = true) :
    ((valF t).2.2 = true → vstep t = some ((valF t).1, (valF t).2.1) ∧ fmd (valF t).2.1 = true) ∧
    ((valF t).2.2 = false → vstep t = none ∨ ∃ w r, vstep t = some (w, r) ∧ NoMark r) := by
  unfold valF vstep
  cases h34 : headIs 34 t with
  | true =>
    have ht := headIs_cons h34
    have hf1 := fmd_head (x := 34) (by decide) h34 hf
    generalize t.drop 1 = t1 at *
    simp only [if_true]
    rcases brk_idx 34 t1 with ⟨h1, _, hn⟩ | ⟨a, b, h1, _, h3, hn⟩
    · rw [h1]
      refine ⟨fun h => (by cases h), fun _ => .inl ?_⟩
      have : headIs 34 (t1.dropWhile qch) = false := by
        cases hd : t1.dropWhile qch with
        | nil => rfl
        | cons c r =>
          have hm : c ∈ t1 := (List.dropWhile_suffix qch).subset (by rw [hd]; simp)
          have : c ≠ 34 := fun e => hn (e ▸ hm)
          simpa [headIs] using this
      rw [this]; rfl
    · rw [h1]
      simp only
      rw [h3] at hf1
      have hsp := fmd_split (c := 34) (by decide) a.length a b (Nat.le_refl _) hf1
      by_cases hp : a.all plainB = true
      · have hq : ∀ x ∈ a, qch x = true := fun x hx => by
          have h5 := List.all_eq_true.1 hp x hx
          have h6 : x ≠ 34 := fun e => hn (e ▸ hx)
          simp [qch, h5, h6]
        have := takeWhile_app (p := qch) (a := a) (b := 34 :: b) hq (fun x hx => by simp at hx; subst hx; decide)
        rw [h3, this.1, this.2]
        refine ⟨fun _ => ⟨by simp [headIs], hsp.2⟩, fun h => ?_⟩
        have : goodV [] a = true := by
          unfold goodV
          rw [hsp.1, Bool.and_true, List.all_eq_true]
          intro x hx
          rw [okB_nil]; exact List.all_eq_true.1 hp x hx
        rw [this] at h; cases h
      · have hp : ∃ x ∈ a, plainB x = false := by simpa using hp
        obtain ⟨a1, y, a2, rfl, h5, h6⟩ := dropWhile_first hp
        have hq : ∀ x ∈ a1, qch x = true := fun x hx => by
          have h8 : x ≠ 34 := fun e => hn (by subst e; simp [hx])
          simp [qch, h5 x hx, h8]
        have hy : y ≠ 34 := fun e => hn (by subst e; simp)
        have := takeWhile_app (p := qch) (a := a1) (b := y :: (a2 ++ 34 :: b)) hq (fun x hx => by simp at hx; subst hx; simp [qch, h6])
        have he : t1 = a1 ++ y :: (a2 ++ 34 :: b) := by rw [h3]; simp
        rw [he, this.1, this.2]
        refine ⟨fun h => ?_, fun _ => .inl (by simp [headIs, hy])⟩
        have : goodV [] (a1 ++ y :: a2) = false := by
          unfold goodV
          have : (a1 ++ y :: a2).all (okB []) = false := by rw [List.all_eq_false]; exact ⟨y, by simp, by rw [okB_nil]; simp [h6]⟩
          rw [this]; rfl
        rw [this] at h; cases h
  | false =>
    simp only [Bool.false_eq_true, if_false]
    rcases ia_cases t with ⟨h1, h2⟩ | ⟨a, c, b, rfl, h1, h2, h3⟩
    · rw [h1]
      refine ⟨fun h => (by cases h), fun _ => .inr ⟨_, _, rfl, ?_⟩⟩
      cases hd : t.dropWhile uch with
      | nil => exact ⟨rfl, rfl, rfl⟩
      | cons d r =>
        have hm : d ∈ t := (List.dropWhile_suffix uch).subset (by rw [hd]; simp)
        have := h2 d hm
        simp [mks] at this
        exact noMark_cons ⟨this.1, this.2.1, this.2.2⟩
    · rw [h1, if_neg (by omega), Int.toNat_natCast]
      have ht1 : (a ++ c :: b).take a.length = a := by simp
      have ht2 : (a ++ c :: b).drop a.length = c :: b := by simp
      rw [ht1, ht2]
      have hca := mks_ascii h2
      have hsp := fmd_split hca a.length a b (Nat.le_refl _) hf
      by_cases hp : a.all (okB [34]) = true
      · have hq : ∀ x ∈ a, uch x = true := fun x hx => by
          have h5 := List.all_eq_true.1 hp x hx
          have h6 := h3 x hx
          simp [okB] at h5
          simp [mks] at h6
          simp [uch, h5, h6]
        have := takeWhile_app (p := uch) (a := a) (b := c :: b) hq (fun x hx => by simp at hx; subst hx; exact (mark_plain h2).2.2)
        refine ⟨fun _ => ⟨by rw [this.1, this.2], by rw [fmd_ascii hca]; exact hsp.2⟩, fun h => ?_⟩
        have : goodV [34] a = true := by unfold goodV; rw [hsp.1, hp]; rfl
        rw [this] at h; cases h
      · have hp : ∃ x ∈ a, okB [34] x = false := by simpa using hp
        obtain ⟨a1, y, a2, rfl, h5, h6⟩ := dropWhile_first hp
        have hyn := h3 y (by simp)
        have hbad : uch y = false := by
          simp [okB] at h6
          by_cases hpl : plainB y = true
          · have := h6 hpl
            subst this; decide
          · simp [uch, hpl]
        have hq : ∀ x ∈ a1, uch x = true := fun x hx => by
          have h7 := h5 x hx
          have h8 := h3 x (by simp [hx])
          simp [okB] at h7
          simp [mks] at h8
          simp [uch, h7, h8]
        have := takeWhile_app (p := uch) (a := a1) (b := y :: (a2 ++ c :: b)) hq (fun x hx => by simp at hx; subst hx; exact hbad)
        have he : (a1 ++ y :: a2) ++ c :: b = a1 ++ y :: (a2 ++ c :: b) := by simp
        refine ⟨fun h => ?_, fun _ => .inr ⟨_, _, rfl, ?_⟩⟩
        · have : goodV [34] (a1 ++ y :: a2) = false := by
            unfold goodV
            have : (a1 ++ y :: a2).all (okB [34]) = false := by rw [List.all_eq_false]; exact ⟨y, by simp, by simp [h6]⟩
            rw [this]; rfl
          rw [this] at h; cases h
        · rw [he, this.2]
          simp [mks] at hyn
          exact noMark_cons ⟨hyn.1, hyn.2.1, hyn.2.2⟩

theorem vals_eq : ∀ (n : Nat) (s : List UInt8) (acc : List (List UInt8)) (k k' : Nat), s.length ≤ n → 1 ≤ s.length → s.length ≤ k → s.length ≤ k' → fmd (s.drop 1) = true →
    (∀ vs r, valsF k s acc = some (vs, r) → rvals k' (s.drop 1) acc = some (vs, r) ∧ fmd r = true) ∧
    (valsF k s acc = none → rvals k' (s.drop 1) acc = none ∨ ∃ vs r, rvals k' (s.drop 1) acc = some (vs, r) ∧ headIs 59 r = false ∧ headIs 58 r = false)
  | 0, s, acc, k, k', h1, h2, _, _, _ => by omega
  | n + 1, s, acc, k, k', h1, h2, h3, h4, hf => by
    obtain ⟨i, rfl⟩ : ∃ i, k = i + 1 := ⟨k - 1, by omega⟩
    obtain ⟨j, rfl⟩ : ∃ j, k' = j + 1 := ⟨k' - 1, by omega⟩
    rw [valsF, rvals]
    have hv := value_eq hf
    have hlen := valF_len (s.drop 1)
    generalize valF (s.drop 1) = x at *
    obtain ⟨v, after, ok⟩ := x
    simp only [List.length_drop] at hv hlen ⊢
    cases ok with
    | true =>
      obtain ⟨hs, hfa⟩ := hv.1 rfl
      rw [hs]
      simp only [if_true]
      cases h44 : headIs 44 after with
      | true =>
        simp only [if_true]
        have hp := headIs_len h44
        exact vals_eq n after (acc ++ [v]) i j (by omega) hp (by omega) (by omega) (fmd_head (x := 44) (by decide) h44 hfa)
      | false =>
        simp only [Bool.false_eq_true, if_false]
        refine ⟨fun vs r h => ?_, fun h => by cases h⟩
        cases h
        exact ⟨rfl, hfa⟩
    | false =>
      simp only [Bool.false_eq_true, if_false]
      refine ⟨fun vs r h => (by cases h), fun _ => ?_⟩
      rcases hv.2 rfl with h | ⟨w, r, h, hm⟩
      · rw [h]; exact .inl rfl
      · rw [h]
        simp only [hm.1, Bool.false_eq_true, if_false]
        exact .inr ⟨_, _, rfl, hm.2.1, hm.2.2⟩

theorem pars_eq : ∀ (n : Nat) (s : List UInt8) (acc : List Par) (k k' : Nat), s.length ≤ n → s.length + 1 ≤ k → s.length + 1 ≤ k' → fmd s = true →
    (∀ ps r, parF tfn k s acc = some (ps, r) → rpars k' s acc = some (ps, r) ∧ fmd r = true) ∧
    (parF tfn k s acc = none → rpars k' s acc = none ∨ ∃ ps r, rpars k' s acc = some (ps, r) ∧ headIs 58 r = false)
  | n, s, acc, k, k', h1, h3, h4, hf => by
    obtain ⟨i, rfl⟩ : ∃ i, k = i + 1 := ⟨k - 1, by omega⟩
    obtain ⟨j, rfl⟩ : ∃ j, k' = j + 1 := ⟨k' - 1, by omega⟩
    rw [parF, rpars]
    cases h59 : headIs 59 s with
    | false =>
      simp only [Bool.false_eq_true, if_false]
      refine ⟨fun ps r h => ?_, fun h => by cases h⟩
      cases h; exact ⟨rfl, hf⟩
    | true =>
      simp only [if_true]
      have hp := headIs_len h59
      have hf1 := fmd_head (x := 59) (by decide) h59 hf
      have hul : (s.drop 1).length + 1 = s.length := by simp; omega
      generalize s.drop 1 = u at *
      rw [show (u.take (wk u)).map lowB = lowW u from rfl, good_low, lowW_lowN, wk_wn]
      cases hb : bad (wn u) with
      | true =>
        simp only [Bool.not_true, Bool.false_and, Bool.false_eq_true, if_false, if_true]
        exact ⟨fun ps r h => (by cases h), fun _ => .inl (by simp)⟩
      | false =>
        simp only [Bool.not_false, Bool.true_and, Bool.false_eq_true, if_false]
        have hf2 := fmd_word hf1
        cases h61 : headIs 61 (u.drop (wn u)) with
        | false =>
          simp only [Bool.false_eq_true, if_false]
          exact ⟨fun ps r h => (by cases h), fun _ => .inl (by simp)⟩
        | true =>
          simp only [if_true]
          have hp2 := headIs_len h61
          have hf3 := fmd_head (x := 61) (by decide) h61 hf2
          have hq := vals_eq (u.drop (wn u)).length (u.drop (wn u)) [] (u.drop (wn u)).length ((u.drop (wn u + 1)).length + 1) (Nat.le_refl _) hp2 (Nat.le_refl _) (by simp at hp2 ⊢; omega) hf3
          rw [List.drop_drop] at hq
          unfold rvF
          have hlen := valsF_len (u.drop (wn u)).length (u.drop (wn u)) []
          cases hv : valsF (u.drop (wn u)).length (u.drop (wn u)) [] with
          | none =>
            simp only
            refine ⟨fun ps r h => (by cases h), fun _ => ?_⟩
            rcases hq.2 hv with h | ⟨vs, r, h, h5, h6⟩
            · rw [h]; exact .inl rfl
            · rw [h]
              simp only
              right
              have hr1 : 1 ≤ j := by omega
              obtain ⟨j', rfl⟩ : ∃ j', j = j' + 1 := ⟨j - 1, by omega⟩
              rw [rpars]
              simp only [h5, Bool.false_eq_true, if_false]
              exact ⟨_, _, rfl, h6⟩
          | some p =>
            obtain ⟨vs, r⟩ := p
            obtain ⟨h5, h6⟩ := hq.1 vs r hv
            rw [h5]
            simp only
            have h7 := hlen vs r hp2 hv
            simp at h7
            cases n with
            | zero => omega
            | succ n => exact pars_eq n r _ i j (by omega) (by omega) (by omega) h6

theorem tail_eq {g r : List UInt8} (hf : fmd r = true) : tailF tfn g (lowW r) (r.drop (wk r)) = rtail g r := by
  unfold tailF rtail
  rw [good_low, lowW_lowN, wk_wn]
  have hf1 := fmd_word hf
  have hq := pars_eq (r.drop (wn r)).length (r.drop (wn r)) [] ((r.drop (wn r)).length + 1) ((r.drop (wn r)).length + 1) (Nat.le_refl _) (Nat.le_refl _) (Nat.le_refl _) hf1
  unfold parsA
  cases hp : parF tfn ((r.drop (wn r)).length + 1) (r.drop (wn r)) [] with
  | none =>
    simp only
    rcases hq.2 hp with h | ⟨ps, q, h, h2⟩
    · rw [h]; simp
    · rw [h]; simp [h2]
  | some x =>
    obtain ⟨ps, q⟩ := x
    obtain ⟨h1, h2⟩ := hq.1 ps q hp
    rw [h1]
    simp only
    cases hb : bad (wn r) with
    | true => simp
    | false =>
      simp only [Bool.not_false, Bool.true_and, Bool.false_eq_true, if_false]
      cases h58 : headIs 58 q with
      | false => simp
      | true =>
        have hf2 := fmd_head (x := 58) (by decide) h58 h2
        have : goodV [] (q.drop 1) = (q.drop 1).all plainB := by
          unfold goodV
          rw [hf2, Bool.and_true]
          congr 1
          funext c
          exact okB_nil c
        rw [this]
theorem read_eq (s : List UInt8) : readF tfn s = r1F s := by
  unfold readF r1F
  cases hf : fmd s with
  | false => simp
  | true =>
    simp only [if_true]
    unfold headF rhead
    rw [wk_wn]
    cases h46 : headIs 46 (s.drop (wn s)) with
    | false =>
      simp only [Bool.false_eq_true, if_false]
      rw [← wk_wn s]
      exact tail_eq hf
    | true =>
      simp only [if_true]
      rw [good_low]
      cases hb : bad (wn s) with
      | true => simp
      | false =>
        simp only [Bool.not_false, if_true, Bool.false_eq_true, if_false]
        rw [lowW_lowN s, List.drop_drop]
        refine tail_eq ?_
        have := fmd_head (x := 46) (by decide) h46 (fmd_word hf)
        rwa [List.drop_drop] at this
end Go.Ab.Vl
/- The document's own unfolding and reading: the walks; the law of reading. By an AI agent. -/
set_option maxRecDepth 10000
set_option linter.unusedVariables false
set_option linter.unusedSimpArgs false
namespace Go.Ab.Vl
open Go Go.Ab

theorem makeW0 {T bytes : Nat} {zs : List AV} {K : RB → (Nat → AV) → Prop} (h : K (.row [] false T 0) (fun b => .slc b 0 0 (.ex 0))) : makeW T bytes zs (N .i64 0) (N .i64 0) K :=
  ⟨.i64, .i64, 0, 0, rfl, rfl, by omega, by omega, by simp, by simp, h⟩

theorem rawL_flat (s : List UInt8) : (rawL [] s).flatten.length ≤ s.length := by
  have key : ∀ (s cur : List UInt8), (rawL cur s).flatten.length ≤ cur.length + s.length := by
    intro s
    induction s with
    | nil => intro cur; simp only [rawL]; split <;> simp
    | cons c t ih =>
      intro cur
      simp only [rawL]
      split
      · have h1 := ih []
        have h2 := strip_len cur
        simp only [List.flatten_cons, List.length_append, List.length_cons, List.length_nil] at *
        omega
      · have h1 := ih (cur ++ [c])
        simp only [List.length_append, List.length_cons, List.length_nil] at *
        omega
  simpa using key s []
theorem len_le_flatten {x : List UInt8} {l : List (List UInt8)} (h : x ∈ l) : x.length ≤ l.flatten.length := by
  induction l with
  | nil => cases h
  | cons y l ih =>
    rw [List.flatten_cons, List.length_append]
    rcases List.mem_cons.1 h with rfl | h
    · omega
    · have := ih h; omega
theorem rawL_each (s : List UInt8) (x : List UInt8) (hx : x ∈ rawL [] s) : x.length ≤ s.length := Nat.le_trans (len_le_flatten hx) (rawL_flat s)
theorem flatten_set_last {l : List (List UInt8)} (h : l ≠ []) {r : List UInt8} : (l.set (l.length - 1) (l[l.length - 1]'(by have := List.length_pos_iff.2 h; omega) ++ r)).flatten = l.flatten ++ r := by
  induction l with
  | nil => exact absurd rfl h
  | cons y l ih =>
    cases l with
    | nil => simp
    | cons z l =>
      have := ih (by simp)
      simp only [List.length_cons, Nat.add_sub_cancel, List.set_cons_succ, List.getElem_cons_succ, List.flatten_cons] at this ⊢
      rw [this]; simp

theorem refUnfold_spec {T TI : Nat} {cr : CallT} (hr : RawC T cr) : UnfoldNC T TI fun args M Q => ∃ a0, args = [a0] ∧ W_rolodex_rolodexref23_Unfold cr T TI a0 M Q := by
  intro M s Q hl hQ
  refine ⟨_, rfl, ?_⟩
  unfold W_rolodex_rolodexref23_Unfold
  simp only [fuseM, joinW_shut]
  refine hr hl fun r M1 hor k1 => ?_
  refine makeW0 ?_
  rw [newW_eq]
  refine makeW0 ?_
  rw [newW_eq]
  have n1 := k1.next
  have hr1 := hor.slR
  have hv0 : Ow STR ((M1.push (.row [] false T 0)).push (.row [] false TI 0)) M1.next T (.slc M1.next 0 0 (.ex 0)) [] := Own.keep (Ow.lit STR M1) ((Keep.refl [] _).push _) (by simp)
  have hu0 : Ow INT ((M1.push (.row [] false T 0)).push (.row [] false TI 0)) M1.next TI (.slc (M1.push (.row [] false T 0)).next 0 0 (.ex 0)) [] := Own.mono (Ow.lit INT _) (by simp [RM.push])
  have kk : Keep [] M1 ((M1.push (.row [] false T 0)).push (.row [] false TI 0)) := ((Keep.refl _ _).push _).push _
  have hd0 : ∀ b ∈ blkOf (.slc M1.next 0 0 (.ex 0)), b ∉ blkOf (.slc (M1.push (.row [] false T 0)).next 0 0 (.ex 0)) := by
    intro b hb hb2; simp [blkOf, RM.push] at hb hb2; omega
  have hrl := rawL_len s []
  have hsum : ∀ x ∈ rawL [] s, x.length ≤ s.length := rawL_each s
  generalize (M1.push (.row [] false T 0)).push (.row [] false TI 0) = M2 at *
  generalize AV.slc M1.next 0 0 (.ex 0) = v0 at *
  generalize AV.slc (M1.push (.row [] false T 0)).next 0 0 (.ex 0) = u0 at *
  have hall : (rawL [] s).flatten.length ≤ s.length := rawL_flat s
  generalize rawL [] s = xs at *
  refine loopW_ind (fun m ys M3 => ∃ (i : Nat) (v u : AV) (acc : List (List UInt8)) (ns : List Int), m = xs.length - i ∧ ys = [v, u, N .i64 (i : Int)] ∧ i ≤ xs.length ∧ (acc = [] ↔ i = 0) ∧ acc.length ≤ i ∧ ns.length ≤ i ∧ acc.flatten.length ≤ (xs.take i).flatten.length ∧
      Ow STR M3 M1.next T v acc ∧ Ow INT M3 M1.next TI u ns ∧ (∀ b ∈ blkOf v, b ∉ blkOf u) ∧ Keep [] M1 M3 ∧ unfN acc ns ((i : Int) + 1) (xs.drop i) = unfN [] [] 1 xs) _
    ⟨0, v0, u0, [], [], rfl, rfl, Nat.zero_le _, by simp, by simp, by simp, by simp, hv0, hu0, hd0, kk, rfl⟩ ?_
  rintro next m ys M3 hnext ⟨i, v, u, acc, ns, rfl, rfl, hi, hai, hal, hnl, hfl, hv, hu, hd, hK, hf⟩
  have hr3 := SlR.keep hr1 hK (by simp)
  dsimp only [nthD]
  rw [SlR.len hr3, intW_lss]
  refine condB (fun hlt => ?_) (fun hge => ?_)
  · have hlt : i < xs.length := by simpa using hlt
    obtain ⟨b0, o0, hb0, _, hidx, hc⟩ := Sl.at1 (E := STR) hr3 (i : Int) hlt
    have hc := hc _ rfl
    have hxl := hsum xs[i] (List.getElem_mem hlt)
    rw [List.drop_eq_getElem_cons hlt, unfN] at hf
    have htk := List.take_succ_eq_append_getElem hlt
    have htl : (xs.take (i + 1)).flatten.length ≤ xs.flatten.length := by
      have : xs.flatten = (xs.take (i + 1)).flatten ++ (xs.drop (i + 1)).flatten := by rw [← List.flatten_append, List.take_append_drop]
      rw [this]; simp
    rw [htk, List.flatten_append] at htl
    generalize xs[i] = line at *
    simp only [List.length_append, List.flatten_cons, List.flatten_nil, List.append_nil] at htl
    have w1 := i64_succ (show i < 9223372036854775807 by omega)
    have w2 : IntKind.i64.wrap ((i : Int) + 1 + 1) = ((i + 1 : Nat) : Int) + 1 := by rw [i64w (by omega) (by omega)]; omega
    rw [w2] at hf
    refine joinV_spec (fun zs M' => ∃ (v' u' : AV) (acc' : List (List UInt8)) (ns' : List Int), zs = [v', u'] ∧ acc' ≠ [] ∧ acc'.length ≤ i + 1 ∧ ns'.length ≤ i + 1 ∧ acc'.flatten.length ≤ (xs.take (i + 1)).flatten.length ∧ Ow STR M' M1.next T v' acc' ∧ Ow INT M' M1.next TI u' ns' ∧ (∀ b ∈ blkOf v', b ∉ blkOf u') ∧ Keep [] M1 M' ∧
        unfN acc' ns' (((i + 1 : Nat) : Int) + 1) (xs.drop (i + 1)) = unfN [] [] 1 xs) ?_ ?_
    · rintro _ M4 ⟨v', u', acc', ns', rfl, h1, h2, h3, h4, h5, h6, h7, h8, h9⟩
      dsimp only [nthD]
      rw [intW_add, w1]
      exact hnext _ _ _ (by omega) ⟨i + 1, v', u', acc', ns', rfl, rfl, by omega, by simp [h1], h2, h3, h4, h5, h6, h7, h8, h9⟩
    · intro J hJ
      rw [hidx, load1_ptr]
      refine ⟨_, hc, ?_⟩
      have app : ¬ (acc ≠ [] ∧ isSp line = true) → rowsW T 1 [St []] [(0, 1, St line)] fun r f => newW r f M3 fun t56 M_36 => appW T 1 16 [St []] false v t56 M_36 fun t57 M_37 =>
          intW .add (N .i64 (i : Int)) (N .i64 1) fun t60 => rowsW TI 1 [N .i64 0] [(0, 1, t60)] fun r_38 f_39 => newW r_38 f_39 M_37 fun t61 M_40 => appW TI 1 8 [N .i64 0] false u t61 M_40 fun t62 M_41 => J [t57, t62] M_41 := fun hg => by
        rw [if_neg hg] at hf
        refine app_s hv hK.next (by omega) fun v' M4 h4 k4 hv' => ?_
        have hu4 : Ow INT M4 M1.next TI u ns := Own.keep hu k4 (fun b hb hb' => hd b hb' hb)
        have hK4 : Keep [] M1 M4 := hK.then_new k4 fun c hc => .inl (hv.blk c hc).1
        have hd4 : ∀ b ∈ blkOf v', b ∉ blkOf u := fun b hb hb' => by
          rcases hv' with rfl | hv'
          · exact hd b hb hb'
          · have h1 := hv' b hb
            have h2 := (hu.blk b hb').2
            omega
        rw [intW_add, w1]
        refine app_i hu4 hK4.next (by omega) fun u' M5 h5 k5 hu' => ?_
        have hv5 : Ow STR M5 M1.next T v' (acc ++ [line]) := Own.keep h4 k5 hd4
        have hd5 : ∀ b ∈ blkOf v', b ∉ blkOf u' := fun b hb hb' => by
          rcases hu' with rfl | hu'
          · exact hd4 b hb hb'
          · have h1 := hu' b hb'
            have h2 := (h4.blk b hb).2
            omega
        refine hJ _ _ ⟨v', u', acc ++ [line], ns ++ [((i + 1 : Nat) : Int)], rfl, by simp, by simp; omega, by simp; omega, by rw [htk, List.flatten_append, List.flatten_append]; simp only [List.length_append, List.flatten_cons, List.flatten_nil, List.append_nil]; omega, hv5, h5, hd5, hK4.then_new k5 fun c hc => .inl (hu4.blk c hc).1, ?_⟩
        rw [← hf, glue, if_neg hg]; rfl
      rw [intW_gtr]
      by_cases ha : acc = []
      · have hi0 : i = 0 := hai.1 ha
        rw [show decide ((i : Int) > 0) = false by simp; omega]
        simp only [guardM_U, guardM_TT, guardM_TF, guardM_FT, guardM_FF, pickT, pickF, condT, condF]
        exact app (by simp [ha])
      have hi1 : 1 ≤ i := by
        rcases Nat.eq_zero_or_pos i with h | h
        · exact absurd (hai.2 h) ha
        · exact h
      rw [show decide ((i : Int) > 0) = true by simp; omega, guardM_TT, lenStr_St, intW_gtr]
      dsimp only
      rw [pickT]
      cases line with
      | nil =>
        rw [show decide (((([] : List UInt8).length : Nat) : Int) > 0) = false from rfl]
        simp only [guardM_U, guardM_TT, guardM_TF, guardM_FT, guardM_FF, pickT, pickF, condT, condF]
        exact app (by simp [isSp])
      | cons c r =>
      rw [show decide ((((c :: r).length : Nat) : Int) > 0) = true by simp, guardM_TT, idxB_0, intW_eql]
      dsimp only
      have hap := List.length_pos_iff.2 ha
      have set : isSp (c :: r) = true → ∀ K : AV → RM → Prop, True → (lenW v fun t42 => intW .sub t42 (N .i64 1) fun t43 => lenW v fun t46 => intW .sub t46 (N .i64 1) fun t47 => idxS v t47 1 fun t48 => load1 M3 t48 fun t49 =>
          getW (subStr (St (c :: r)) (some (N .i64 1)) none) fun t51 => strW .add t49 t51 fun t52 => idxS v t43 1 fun t53 => storeW M3 t53 t52 1 fun M_33 => J [v, u] M_33) := fun hsp _ _ => by
        rw [if_pos ⟨ha, hsp⟩] at hf
        have hlv := SlR.len hv.slR (K := fun t42 => intW .sub t42 (N .i64 1) fun t43 => lenW v fun t46 => intW .sub t46 (N .i64 1) fun t47 => idxS v t47 1 fun t48 => load1 M3 t48 fun t49 =>
          getW (subStr (St (c :: r)) (some (N .i64 1)) none) fun t51 => strW .add t49 t51 fun t52 => idxS v t43 1 fun t53 => storeW M3 t53 t52 1 fun M_33 => J [v, u] M_33)
        rw [hlv, intW_sub, SlR.len hv.slR, intW_sub]
        have wl : IntKind.wrap .i64 ((acc.length : Int) - 1) = ((acc.length - 1 : Nat) : Int) := by rw [i64w (by omega) (by omega)]; omega
        rw [wl]
        obtain ⟨b, rfl, hrw, hb⟩ := ow_op hv ha
        have hld := hrw.load1 (i := acc.length - 1) (by omega)
        have getl : acc.getD (acc.length - 1) [] = acc[acc.length - 1]'(by omega) := by
          rw [List.getD_eq_getElem?_getD, List.getElem?_eq_getElem (by omega)]; rfl
        have hidx2 : ∀ K : AV → Prop, idxS (.slc b 0 acc.length (.op 1)) (N .i64 ((acc.length - 1 : Nat) : Int)) 1 K = K (.ptr b (acc.length - 1)) := fun K => by
          rw [idxS_slc]
          simp only [Int.toNat_natCast, Nat.mul_one, Nat.zero_add]
          exact propext ⟨fun h => h.2.2, fun h => ⟨by omega, by omega, h⟩⟩
        have hxa : (acc[acc.length - 1]'(by omega)).length ≤ acc.flatten.length := len_le_flatten (List.getElem_mem _)
        have hxa2 : acc.flatten.length ≤ s.length := by omega
        rw [hidx2, load1_ptr]
        refine ⟨_, hld, ?_⟩
        rw [show subStr (St (c :: r)) (some (N .i64 1)) none = some (St r) from subStr_from (s := c :: r) (l := 1) (by simp) .i64, getW_some, strW_add]
        have hlr : r.length ≤ s.length := by simp at hxl; omega
        refine ⟨by omega, ?_⟩
        obtain ⟨hst, hrw'⟩ := hrw.store1 (i := acc.length - 1) (by omega) (acc.getD (acc.length - 1) [] ++ r)
        rw [getl] at hst hrw'
        rw [hidx2, storeW_ptr]
        refine ⟨rfl, _, hst, ?_⟩
        have hv4 := ow_rw hrw' hb
        rw [List.length_set] at hv4
        have hkp : Keep [b] M3 (M3.put b (.row (STR.row (acc.set (acc.length - 1) (acc[acc.length - 1]'(by omega) ++ r))) true T 0)) := (Keep.refl _ _).put _ (.inr (by simp))
        refine hJ _ _ ⟨_, u, _, ns, rfl, ?_, by rw [List.length_set]; omega, by omega, ?_, hv4, Own.keep hu hkp ?_, hd, hK.put _ (.inl hb), ?_⟩
        · intro e
          have := congrArg List.length e
          rw [List.length_set, List.length_nil] at this
          omega
        · rw [htk, List.flatten_append, flatten_set_last ha]
          simp only [List.length_append, List.flatten_cons, List.flatten_nil, List.append_nil, List.length_cons]
          omega
        · intro b' hb' hm
          have : b' = b := by simpa using hm
          subst this
          exact hd b' (by simp [blkOf]) hb'
        · rw [← hf, glue, if_pos ⟨ha, hsp⟩, getl]; rfl
      by_cases h32 : c.toNat = 32
      · rw [show ((c.toNat : Int) == 32) = true by simp [h32]]
        simp only [guardM_U, guardM_TT, guardM_TF, guardM_FT, guardM_FF, pickT, pickF, condT, condF]
        exact set (by simp [isSp, h32]) (fun _ _ => True) trivial
      · rw [show ((c.toNat : Int) == 32) = false by simp; omega]
        simp only [guardM_U, guardM_TT, guardM_TF, guardM_FT, guardM_FF, pickT, pickF, condT, condF, idxB_0, intW_eql]
        by_cases h9 : c.toNat = 9
        · rw [show ((c.toNat : Int) == 9) = true by simp [h9], condT]
          exact set (by simp [isSp, h9]) (fun _ _ => True) trivial
        · rw [show ((c.toNat : Int) == 9) = false by simp; omega, condF]
          exact app (by simp [isSp, h32, h9])
  · have hge : i = xs.length := by simp at hge; omega
    subst hge
    rw [List.drop_length, unfN] at hf
    refine hQ v u M3 (by rw [← hf]; exact Own.mono hv n1) (by rw [← hf]; exact Own.mono hu n1) hd (k1.trans hK)

theorem refRead_spec {T TI TL : Nat} {cu cr : CallT} (hu : UnfoldNC T TI cu) (hr : Rd1C cr) {B : Base} : ReadAllC B tfn fun args M Q => ∃ a0, args = [a0] ∧ W_rolodex_rolodexref23_Read cu TL cr a0 M Q := by
  intro M s Q _ hl hS hN
  refine ⟨_, rfl, ?_⟩
  unfold W_rolodex_rolodexref23_Read
  simp only [fuseM, joinW_shut]
  refine hu (by omega) fun v u M1 ho1 ho2 hd k1 => ?_
  have s1 := ho1.slR
  have s2 := ho2.slR
  have hlen := unfN_len (rawL [] s) [] [] 1 rfl
  have hle := unfN_le (rawL [] s) [] [] 1
  have hrl := rawL_len s []
  simp only [List.length_nil, Nat.zero_add] at hle
  unfold rdF unfL at hS hN
  generalize (unfN [] [] 1 (rawL [] s)).1 = xs at *
  generalize (unfN [] [] 1 (rawL [] s)).2 = ns at *
  rw [extW0, extW1]
  refine makeW0 ?_
  rw [newW_eq]
  have how : OwD LnE (M1.push (.row [] false TL 0)) M1.next TL (.slc M1.next 0 0 (.ex 0)) [] (fun _ => False) := ⟨[], Own.lit M1 (Nat.le_refl _), .nil⟩
  have kk : Keep [] M1 (M1.push (.row [] false TL 0)) := (Keep.refl _ _).push _
  generalize AV.slc M1.next 0 0 (.ex 0) = w0 at *
  generalize M1.push (.row [] false TL 0) = M2 at *
  refine loopW_ind (fun m ys M3 => ∃ (i : Nat) (w : AV) (acc : List (Ln × Int)), m = xs.length - i ∧ ys = [w, N .i64 i] ∧ i ≤ xs.length ∧ acc.length ≤ i ∧ Keep [] M1 M3 ∧
      OwD LnE M3 M1.next TL w acc (fun b => M1.next ≤ b ∧ b < M3.next ∧ b ∉ blkOf w) ∧ readsF tfn ((xs.zip ns).drop i) acc = readsF tfn (xs.zip ns) []) _
    ⟨0, w0, [], rfl, rfl, Nat.zero_le _, Nat.le_refl _, kk, how.mono (fun _ h => h.elim), rfl⟩ ?_
  rintro next m ys M3 hnext ⟨i, w, acc, rfl, rfl, hi, hal, hK, ho, hp⟩
  have t1 := SlR.keep s1 hK (by simp)
  have t2 := SlR.keep s2 hK (by simp)
  dsimp only [nthD]
  rw [SlR.len t1, intW_lss]
  refine condB (fun hlt => ?_) (fun hge => ?_)
  · have hlt : i < xs.length := by simpa using hlt
    have hz : (xs.zip ns).drop i = (xs[i], ns[i]'(by omega)) :: (xs.zip ns).drop (i + 1) := by
      rw [List.drop_eq_getElem_cons (by simp; omega)]; simp
    rw [hz, readsF, read_eq] at hp
    refine joinV_spec (fun zs M' => ∃ (w' : AV) (acc' : List (Ln × Int)), zs = [w'] ∧ acc'.length ≤ i + 1 ∧ Keep [] M1 M' ∧ OwD LnE M' M1.next TL w' acc' (fun b => M1.next ≤ b ∧ b < M'.next ∧ b ∉ blkOf w') ∧ readsF tfn ((xs.zip ns).drop (i + 1)) acc' = readsF tfn (xs.zip ns) []) ?_ ?_
    · rintro _ M4 ⟨w', acc', rfl, h1, h2, h3, h4⟩
      dsimp only [nthD]
      rw [intW_add, i64_succ (by omega)]
      exact hnext _ _ _ (by omega) ⟨i + 1, w', acc', rfl, rfl, by omega, h1, h2, h3, h4⟩
    · intro J hJ
      obtain ⟨b, o, hb, hbm, hidx, hc⟩ := Sl.at1 (E := STR) t1 (i : Int) hlt
      have hc := hc _ rfl
      rw [hidx, load1_ptr]
      refine ⟨_, hc, ?_⟩
      obtain ⟨b2, o2, hb2, hbm2, hidx2, hc2⟩ := Sl.at1 (E := INT) t2 (i : Int) (show i < ns.length by omega)
      have hc2 := hc2 _ rfl
      generalize hxi : xs[i] = x at *
      generalize hni : ns[i]'(by omega) = k at *
      rw [lenStr_St, intW_gtr]
      refine condB (fun hg => ?_) (fun hg => ?_)
      · have hg : 912 < x.length := by simp at hg; omega
        have hne : ¬ x = [] := by intro e; subst e; simp at hg
        rw [if_neg hne, if_pos hg] at hp
        rw [hidx2, load1_ptr]
        exact ⟨_, hc2, hN M3 k 2 (k1.trans hK) hp.symm⟩
      · have hg : ¬ 912 < x.length := by simp at hg; omega
        rw [hidx, load1_ptr]
        refine ⟨_, hc, ?_⟩
        rw [strW_eql]
        refine condB (fun he => ?_) (fun hne => ?_)
        · have he : x = [] := by simpa using he
          rw [if_pos he] at hp
          exact hJ _ _ ⟨w, acc, rfl, by omega, hK, ho, hp⟩
        · have hne : ¬ x = [] := by simpa using hne
          rw [if_neg hne, if_neg hg] at hp
          rw [hidx, load1_ptr]
          refine ⟨_, hc, ?_⟩
          refine hr (by omega) ?_ ?_
          · intro cs M4 k4 hrd hcs hall
            rw [hrd] at hp
            rw [extW0, extW1, newW_eq, storeW_all (n := 5) (x := .agg cs) (l := lz) (RM.push_new _) hcs rfl hall, notW_Bo, Bool.not_false, condT, hidx2, load1_ptr]
            have kk : Keep [] M3 ((M4.push (.row lz false TL 0)).put M4.next (.row cs false TL 0)) := (k4.push _).new _ k4.next
            exact ⟨_, (kk.cell hb2 (by simp)).trans hc2, hN _ k 3 ((k1.trans hK).trans kk) hp.symm⟩
          · intro cs M4 L k4 hrd hrel
            rw [hrd] at hp
            obtain ⟨pv, rfl, hpv⟩ := hrel
            simp only at hpv hp
            have hal5 : ([St L.g, St L.n, pv, St L.v, N .i64 0] : List AV).all oneCell = true := by simp [one_sc, hpv.one]
            have hal6 : ([St L.g, St L.n, pv, St L.v, N .i64 k] : List AV).all oneCell = true := by simp [one_sc, hpv.one]
            rw [extW0, extW1, newW_eq, storeW_all (n := 5) (x := .agg [St L.g, St L.n, pv, St L.v, N .i64 0]) (l := lz) (RM.push_new _) rfl rfl hal5, notW_Bo, Bool.not_true, condF, hidx2, load1_ptr]
            have k45 : Keep [] M4 (((M4.push (.row lz false TL 0)).put M4.next (.row [St L.g, St L.n, pv, St L.v, N .i64 0] false TL 0)).put M4.next (.row [St L.g, St L.n, pv, St L.v, N .i64 k] false TL 0)) :=
              (((Keep.refl _ _).push _).new _ (Nat.le_refl _)).new _ (Nat.le_refl _)
            have k4' : Keep [] M3 ((M4.push (.row lz false TL 0)).put M4.next (.row [St L.g, St L.n, pv, St L.v, N .i64 0] false TL 0)) := (k4.push _).new _ k4.next
            refine ⟨_, (k4'.cell hb2 (by simp)).trans hc2, ?_⟩
            rw [fld0, storeW_to [St L.g, St L.n, pv, St L.v, N .i64 k] (heap_put_eq _) (by simp [AV.cells]) rfl rfl rfl, loadN_at (n := 5) (heap_put_eq _) rfl, rows1 (x := .agg [St L.g, St L.n, pv, St L.v, N .i64 k]) (size := 5) rfl hal6 rfl, newW_eq]
            have n4 := k4.next
            have n3 := hK.next
            have hvl := ho.blk
            let S' : Nat → Prop := fun b => M1.next ≤ b ∧ b < M4.next + 1 ∧ b ∉ blkOf w
            have ho5 := (ho.keep (k4.trans k45) (by simp) (by simp)).mono (S' := S') fun b h => ⟨h.1, by omega, h.2.2⟩
            have hel := (show LnE.rel _ _ (L, k) _ from ⟨pv, rfl, (hpv.lt.keep k45 (by simp)).mono (S' := S') fun b h => ⟨by omega, by omega, fun hb => by have := (hvl b hb).2; omega⟩⟩)
            refine OwD.app (R := LnE) ho5 hel (show M1.next ≤ M4.next + 1 by omega) (by decide) (fun b hb h => h.2.2 hb) (fun b h => (show b < M4.next + 1 from h.2.1)) (by omega) (by omega) ?_
            intro w' M6 o6 k6 n6 _ hd6
            have n6 : M4.next + 1 ≤ M6.next := n6
            refine hJ _ _ ⟨w', acc ++ [(L, k)], rfl, by simp; omega, ?_, o6.mono fun b h => ⟨h.1, by have := h.2.1; omega, fun hb => hd6 b hb h⟩, hp⟩
            exact (hK.trans (k4.trans k45)).then_new k6 fun c hc => .inl (hvl c hc).1
  · have hge : i = xs.length := by simp at hge; omega
    subst hge
    rw [List.drop_of_length_le (by simp; omega)] at hp
    exact hS w M3 acc (k1.trans hK) hp.symm ((ho.mono (fun b h => h.1)).slD (fun b hb _ => hb) |>.mono fun b hb => Nat.le_trans k1.next hb) (by omega)

/-- What reading answers, as one. -/
def rdA (f : List UInt8 → List UInt8) (s : List UInt8) : List (Ln × Int) × Int × Int := match rdF f s with
  | .ok ls => (ls, 0, 0)
  | .bad k e => ([], k, e)
def RdAC (B : Base) (f : List UInt8 → List UInt8) (c : CallT) : Prop := ∀ {M : RM} {s : List UInt8} {Q : PostV}, M.base = B → s.length ≤ 100000 →
  (∀ v M', Keep [] M M' → SlD LnE M' v (rdA f s).1 (fun b => M.next ≤ b) → (rdA f s).1.length ≤ s.length + 1 → (∀ x ∈ (rdA f s).1, Small 912 x.1) → Q (.tup [v, N .i64 (rdA f s).2.1, N .i64 (rdA f s).2.2]) M') → c [St s] M Q
theorem ReadAllC.one {B : Base} {f : List UInt8 → List UInt8} {c : CallT} (h : ReadAllC B f c) : RdAC B f c := by
  intro M s Q hM hl hQ
  refine h hM hl ?_ ?_
  · intro v M' ls k hls hsl hle
    have e : rdA f s = (ls, 0, 0) := by unfold rdA; rw [hls]
    rw [e] at hQ
    exact hQ v M' k hsl hle (readsF_small _ _ _ (by simp) hls)
  · intro M' k e kk hb
    have he : rdA f s = ([], k, e) := by unfold rdA; rw [hb]
    rw [he] at hQ
    exact hQ nilS M' kk SlD.nil (by simp) (by simp)

theorem reads_law {T TI : Nat} {M : RM} {ca cr crr cu cru co cs : CallT} (ha : AwakeC M.base ca) (hr : RdAC M.base tfn cr) (hrr : RdAC M.base tfn crr) (hu : UnfoldNC T TI cu) (hru : UnfoldNC T TI cru) (ho : OfC co) (hs : SameC cs)
    {s : List UInt8} {Q : PostV} (hQ : ∀ M', Q (Bo true) M') : W_rolodex_rolodexlaw23_VlineReads ca cr crr cu cru co cs (St s) M Q := by
  unfold W_rolodex_rolodexlaw23_VlineReads
  simp only [fuseM, fuseK]
  refine ha rfl ?_
  rw [notW_Bo, Bool.not_true, condF, lenStr_St, intW_gtr]
  refine condB (fun _ => hQ _) (fun hl => ?_)
  have hl : s.length ≤ 5000 := by simp at hl; omega
  refine hr rfl (by omega) fun v1 M1 k1 q1 hle hsmall => ?_
  rw [extW0, extW1, extW2]
  refine hrr k1.base (by omega) fun v2 M2 k2 q2 _ _ => ?_
  rw [extW0, extW1, extW2]
  have hlen := unfN_len (rawL [] s) [] [] 1 rfl
  have hul := unfN_le (rawL [] s) [] [] 1
  have hrl := rawL_len s []
  simp only [List.length_nil, Nat.zero_add] at hul
  refine hu (by omega) fun x1 y1 M3 ox1 oy1 _ k3 => ?_
  rw [extW0, extW1]
  refine hru (by omega) fun x2 y2 M4 ox2 oy2 _ k4 => ?_
  rw [extW0, extW1]
  generalize (unfN [] [] 1 (rawL [] s)).1 = xs at *
  generalize (unfN [] [] 1 (rawL [] s)).2 = ns at *
  have g1 := q1.keep (k2.trans (k3.trans k4)) (by simp)
  have g2 := q2.keep (k3.trans k4) (by simp)
  have sx1 := SlR.keep ox1.slR k4 (by simp)
  have sy1 := SlR.keep oy1.slR k4 (by simp)
  have sx2 := ox2.slR
  have sy2 := oy2.slR
  generalize rdA tfn s = R at *
  obtain ⟨ls, n, e⟩ := R
  simp only at g1 g2 hle hsmall ⊢
  rw [intW_neq, bne_self_eq_false, guardM_FF, intW_neq, bne_self_eq_false]
  dsimp only
  rw [pickF, guardM_FF, g1.len, g2.len, intW_neq, bne_self_eq_false]
  dsimp only
  rw [pickF, guardM_FF, SlR.len sx1, SlR.len sx2, intW_neq, bne_self_eq_false]
  dsimp only
  rw [pickF, guardM_FF, SlR.len sy1, SlR.len sx1, intW_neq, show (((ns.length : Nat) : Int) != ((xs.length : Nat) : Int)) = false by simp [hlen]]
  dsimp only
  rw [pickF, condF]
  refine loopW_ind (fun m ys M6 => ∃ i : Nat, m = ls.length - i ∧ ys = [N .i64 i] ∧ i ≤ ls.length ∧ Keep [] M4 M6) _ ⟨0, rfl, rfl, Nat.zero_le _, Keep.refl _ _⟩ ?_
  rintro next m ys M6 hnext ⟨i, rfl, rfl, hi, k6⟩
  have p1 := g1.keep k6 (by simp)
  have p2 := g2.keep k6 (by simp)
  dsimp only [nthD]
  rw [p1.len, intW_lss]
  refine condB (fun hlt => ?_) (fun _ => ?_)
  · have hlt : i < ls.length := by simpa using hlt
    obtain ⟨b, o, c1, hb, hbm, hidx, hld, hrel⟩ := SlD.at p1 5 (i : Int) hlt
    obtain ⟨b', o', c2, hb', hbm', hidx', hld', hrel'⟩ := SlD.at p2 5 (i : Int) hlt
    have hsm := hsmall _ (List.getElem_mem hlt)
    generalize hLi : ls[i] = Lk at *
    obtain ⟨L, k⟩ := Lk
    have hsm1 : L.ps.length ≤ 912 := hsm.1
    have hsm2 : ∀ p ∈ L.ps, p.2.length ≤ 912 := hsm.2
    rw [hidx, loadN_ptr]
    refine ⟨_, hld, ?_⟩
    rw [hidx', loadN_ptr]
    refine ⟨_, hld', ?_⟩
    refine ho hrel (by omega) fun d1 M7 k7 hd1 => ?_
    rw [loadN_ptr]
    refine ⟨c2, (k7.loads hb' (by simp)).trans hld', rfl, ?_⟩
    refine hs hd1 (LnE.keep hrel' k7 (by simp)) (by omega) (fun p hp => by have := hsm2 p hp; omega) fun M9 k9 => ?_
    rw [decide_eq_true rfl, notW_Bo, Bool.not_true, guardK_FF, hidx, fldW_ptr, load1_ptr]
    have k69 := k7.trans k9
    obtain ⟨pv, rfl, hpv⟩ := hrel
    obtain ⟨pv', rfl, hpv'⟩ := hrel'
    refine ⟨N .i64 k, (k69.cell hb (by simp)).trans (cell_of_loads hld (j := 4) rfl), ?_⟩
    rw [hidx', fldW_ptr, load1_ptr]
    refine ⟨N .i64 k, (k69.cell hb' (by simp)).trans (cell_of_loads hld' (j := 4) rfl), ?_⟩
    rw [intW_neq, bne_self_eq_false]
    dsimp only
    rw [pickF, condF, intW_add, i64_succ (by omega)]
    exact hnext _ _ _ (by omega) ⟨i + 1, rfl, rfl, by omega, k6.trans k69⟩
  · have a1 := SlR.keep sx1 k6 (by simp)
    have a2 := SlR.keep sx2 k6 (by simp)
    have b1 := SlR.keep sy1 k6 (by simp)
    have b2 := SlR.keep sy2 k6 (by simp)
    refine loopW_ind (fun m ys M7 => M7 = M6 ∧ ∃ i : Nat, m = xs.length - i ∧ ys = [N .i64 i] ∧ i ≤ xs.length) _ ⟨rfl, 0, rfl, rfl, Nat.zero_le _⟩ ?_
    rintro next2 m ys M7 hnext2 ⟨rfl, j, rfl, rfl, hj⟩
    dsimp only [nthD]
    rw [SlR.len a1, intW_lss]
    refine condB (fun hlt => ?_) (fun _ => hQ _)
    have hlt : j < xs.length := by simpa using hlt
    obtain ⟨_, _, _, _, i1, c1⟩ := Sl.at1 (E := STR) a1 (j : Int) hlt
    obtain ⟨_, _, _, _, i2, c2⟩ := Sl.at1 (E := STR) a2 (j : Int) hlt
    obtain ⟨_, _, _, _, i3, c3⟩ := Sl.at1 (E := INT) b1 (j : Int) (show j < ns.length by omega)
    obtain ⟨_, _, _, _, i4, c4⟩ := Sl.at1 (E := INT) b2 (j : Int) (show j < ns.length by omega)
    rw [i1, load1_ptr]
    refine ⟨_, c1 _ rfl, ?_⟩
    rw [i2, load1_ptr]
    refine ⟨_, c2 _ rfl, ?_⟩
    rw [strW_neq, bne_self_eq_false, guardK_FF, i3, load1_ptr]
    refine ⟨_, c3 _ rfl, ?_⟩
    rw [i4, load1_ptr]
    refine ⟨_, c4 _ rfl, ?_⟩
    rw [intW_neq, bne_self_eq_false]
    dsimp only
    rw [pickF, condF, intW_add, i64_succ (by omega)]
    exact hnext2 _ _ _ (by omega) ⟨rfl, j + 1, rfl, rfl, by omega⟩
end Go.Ab.Vl
