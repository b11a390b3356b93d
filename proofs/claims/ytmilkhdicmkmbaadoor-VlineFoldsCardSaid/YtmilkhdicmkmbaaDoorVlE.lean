/- Contracts: escapes, and parts between bytes. By an AI agent. -/
import Derived.Test.YtmilkhdicmkmbaaDoorVlB
import Derived.Lib.Bytealg
set_option linter.unusedVariables false
set_option linter.unusedSimpArgs false
namespace Go.Ab.Vl
open Go Go.Ab

theorem idxB_at {s : List UInt8} {i : Nat} (hi : i < s.length) (kd : IntKind) (K : AV → Prop) : idxB (St s) (N kd (i : Int)) K = K (By s[i]) := by
  rw [idxB_St]
  apply propext
  constructor
  · rintro ⟨_, b, hb, hk⟩
    rw [Int.toNat_natCast, List.getElem?_eq_getElem hi] at hb
    cases hb; exact hk
  · intro hk; exact ⟨by omega, s[i], by rw [Int.toNat_natCast, List.getElem?_eq_getElem hi], hk⟩
theorem make0 {T : Nat} {zs : List AV} {K : RB → (Nat → AV) → Prop} (h : K (.row [] false T 0) (fun b => .slc b 0 0 (.ex 0))) : makeW T 1 zs (N .i64 0) (N .i64 0) K :=
  ⟨_, _, 0, 0, rfl, rfl, by omega, by omega, by decide, by decide, h⟩

/-! ### escapes -/
def escB (c : UInt8) : List UInt8 := if c.toNat = 92 ∨ c.toNat = 44 ∨ c.toNat = 59 then [92, c] else if c.toNat = 10 then [92, 110] else [c]
def esc (s : List UInt8) : List UInt8 := s.flatMap escB
theorem esc_len (s : List UInt8) : (esc s).length ≤ 2 * s.length := by
  induction s with
  | nil => simp [esc]
  | cons c s ih =>
    have : (escB c).length ≤ 2 := by unfold escB; split <;> (try split) <;> simp
    simp only [esc, List.flatMap_cons, List.length_append, List.length_cons] at ih ⊢
    omega
theorem esc_take (s : List UInt8) {i : Nat} (hi : i < s.length) : esc (s.take (i + 1)) = esc (s.take i) ++ escB s[i] := by
  rw [List.take_succ_eq_append_getElem hi, esc, List.flatMap_append]; simp [esc]
theorem esc_take_len (s : List UInt8) (i : Nat) : (esc (s.take i)).length ≤ 2 * s.length := by
  have := esc_len (s.take i); simp at this; omega

def EscC (c : CallT) : Prop := ∀ {M : RM} {s : List UInt8} {Q : PostV}, s.length ≤ 1000000 → (∀ M', Keep [] M M' → Q (St (esc s)) M') → c [St s] M Q

theorem escape_spec {TB T8 : Nat} {cw cs ct : CallT} (hw : WriteByteC TB T8 cw) (hs : WriteStringC TB T8 cs) (ht : StringC TB T8 ct) : EscC fun args M Q => ∃ a0, args = [a0] ∧ W_rolodex_vline_Escape TB T8 cw cs ct a0 M Q := by
  intro M s Q hl hQ
  refine ⟨_, rfl, ?_⟩
  unfold W_rolodex_vline_Escape
  simp only [newW_eq, bytesW_St, lenW_slc]
  generalize hM1 : M.push (.row [.sc (.pointer none), .sc (.slice none 0 0)] false TB 0) = M1
  have hn1 : M1.next = M.next + 1 := by rw [← hM1]; rfl
  generalize hM2 : M1.push (.row (BY.row s) true T8 0) = M2
  have hn2 : M2.next = M1.next + 1 := by rw [← hM2]; rfl
  have hk2 : Keep [] M M2 := by rw [← hM2, ← hM1]; exact ((Keep.refl _ _).push _).push _
  have hb0 : Bld TB T8 M2.next M2 M.next [] := Bld.new (by rw [← hM2, ← hM1]; simp [go_sem]) (by omega) (Nat.le_refl _)
  have hr0 : Rw BY M2 M1.next true T8 s := by rw [← hM2]; exact Rw.new M1 s
  refine loopW_ind (fun m ys M3 => ∃ i : Nat, m = s.length - i ∧ ys = [N .i64 i] ∧ i ≤ s.length ∧ Bld TB T8 M2.next M3 M.next (esc (s.take i)) ∧ KeepTo M2.next [M.next] M2 M3) _
    ⟨0, rfl, rfl, Nat.zero_le _, by simpa [esc] using hb0, KeepTo.refl _ _ _⟩ ?_
  rintro next m ys M3 hnext ⟨i, rfl, rfl, hi, hB, hK⟩
  have hr3 : Rw BY M3 M1.next true T8 s := ⟨hK.heap_of hr0.heap (by omega) (by simp; omega), by have := hK.next; omega⟩
  have hel := esc_take_len s i
  simp only [go_sem]
  refine ⟨fun hlt => ?_, fun hge => ?_⟩
  · have hlt : i < s.length := by simpa using hlt
    have hc := hr3.load1 hlt
    have hstep := esc_take s hlt
    generalize s[i] = c at *
    have fin : ∀ M4, Bld TB T8 M2.next M4 M.next (esc (s.take (i + 1))) → KeepTo M2.next [M.next] M3 M4 → next [N .i64 (IntKind.i64.wrap ((i : Int) + 1))] M4 := fun M4 h1 h2 => by
      rw [i64_succ (by omega)]
      exact hnext _ _ _ (by omega) ⟨i + 1, rfl, rfl, by omega, h1, hK.trans h2⟩
    refine ⟨by omega, By c, hc, ?_⟩
    have two : escB c = [92, c] → cw [.ptr M.next 0, N .u8 92] M3 fun t20 M_5 => cw [.ptr M.next 0, By c] M_5 fun t22 M_6 => next [N .i64 (IntKind.i64.wrap ((i : Int) + 1))] M_6 := fun he => by
      refine hw (x := 92) hB (by omega) fun M4 h4 k4 => ?_
      refine hw (x := c) h4 (by simp; omega) fun M5 h5 k5 => fin M5 ?_ (k4.trans k5)
      rw [hstep, he]; simpa using h5
    by_cases h1 : c.toNat = 92
    · have e1 : ((c.toNat : Int) == 92) = true := by rw [h1]; rfl
      simp only [e1, go_sem]
      exact two (by simp [escB, h1])
    have e1 : ((c.toNat : Int) == 92) = false := by simp; omega
    by_cases h2 : c.toNat = 44
    · have e2 : ((c.toNat : Int) == 44) = true := by rw [h2]; rfl
      simp only [e1, e2, go_sem]
      exact two (by simp [escB, h2])
    have e2 : ((c.toNat : Int) == 44) = false := by simp; omega
    by_cases h3 : c.toNat = 59
    · have e3 : ((c.toNat : Int) == 59) = true := by rw [h3]; rfl
      simp only [e1, e2, e3, go_sem]
      exact two (by simp [escB, h3])
    have e3 : ((c.toNat : Int) == 59) = false := by simp; omega
    by_cases h4 : c.toNat = 10
    · have e4 : ((c.toNat : Int) == 10) = true := by rw [h4]; rfl
      simp only [e1, e2, e3, e4, go_sem]
      refine hs (s := [92, 110]) hB (by simp; omega) fun M4 h5 k4 => fin M4 ?_ k4
      rw [hstep]; simpa [escB, h1, h2, h3, h4] using h5
    have e4 : ((c.toNat : Int) == 10) = false := by simp; omega
    simp only [e1, e2, e3, e4, go_sem]
    refine hw (x := c) hB (by omega) fun M4 h5 k4 => fin M4 ?_ k4
    rw [hstep]; simpa [escB, h1, h2, h3, h4] using h5
  · have : i = s.length := by simp at hge; omega
    subst this
    rw [List.take_length] at hB hel
    refine ht hB (by omega) fun M4 k4 => hQ M4 ?_
    refine hk2.then_to (hK.trans ⟨k4.base, k4.next, fun c h1 h2 => k4.heap c h1 (by simp)⟩) (by omega) fun c hc => .inl (by simp at hc; omega)

theorem refEscape_spec {T8 : Nat} : EscC fun args M Q => ∃ a0, args = [a0] ∧ W_rolodex_rolodexref23_Escape T8 a0 M Q := by
  intro M s Q hl hQ
  refine ⟨_, rfl, ?_⟩
  unfold W_rolodex_rolodexref23_Escape
  refine make0 ?_
  simp only [newW_eq]
  refine loopW_ind (fun m ys M3 => ∃ (i : Nat) (v : AV), m = s.length - i ∧ ys = [v, N .i64 i] ∧ i ≤ s.length ∧ Ow BY M3 M.next T8 v (esc (s.take i)) ∧ Keep [] M M3) _
    ⟨0, _, rfl, rfl, Nat.zero_le _, Ow.lit BY M, (Keep.refl _ _).push _⟩ ?_
  rintro next m ys M3 hnext ⟨i, v, rfl, rfl, hi, ho, hK⟩
  have hel := esc_take_len s i
  simp only [go_sem]
  refine ⟨fun hlt => ?_, fun hge => ?_⟩
  · have hlt : i < s.length := by simpa using hlt
    have hstep := esc_take s hlt
    have hg : s[i]? = some s[i] := List.getElem?_eq_getElem hlt
    generalize s[i] = c at *
    simp only [go_sem, hg]
    have fin : ∀ v' M4, Ow BY M4 M.next T8 v' (esc (s.take (i + 1))) → Keep [] M M4 → next [v', N .i64 (IntKind.i64.wrap ((i : Int) + 1))] M4 := fun v' M4 h1 h2 => by
      rw [i64_succ (by omega)]
      exact hnext _ _ _ (by omega) ⟨i + 1, v', rfl, rfl, by omega, h1, h2⟩
    have kk : ∀ {M' : RM}, Keep (blkOf v) M3 M' → Keep [] M M' := fun h => hK.then_new h fun c hc => .inl (ho.blk c hc).1
    have app : ∀ (xs : List UInt8) (K : AV → RM → Prop), xs.length ≤ 2 → (∀ v' M4, Ow BY M4 M.next T8 v' (esc (s.take i) ++ xs) → Keep [] M M4 → K v' M4) → appW T8 1 1 [N .u8 0] false v (.slc M3.next 0 xs.length (.ex xs.length)) (M3.push (.row (BY.row xs) false T8 0)) K := fun xs K hx hK' => by
      have hk : Keep [] M3 (M3.push (.row (BY.row xs) false T8 0)) := (Keep.refl _ _).push _
      refine app_all (E := BY) (ys := xs) (Own.keep ho hk (by simp)) (Nat.le_trans hK.next hk.next) (Nat.le_refl _) (Sl.new xs) (by omega) (by omega) fun v' M4 h1 h2 h3 h4 => hK' v' M4 h1 (kk ((hk.mono (by simp)).trans h2))
    have two : ∀ (d : UInt8), escB c = [92, d] → rowsW T8 2 [N .u8 0] [(0, 1, N .u8 92), (1, 1, By d)] fun r f => appW T8 1 1 [N .u8 0] false v (f M3.next) (M3.push r) fun t30 M_7 => next [t30, N .i64 (IntKind.i64.wrap ((i : Int) + 1))] M_7 := fun d he => by
      refine ⟨BY.row [92, d], by simp [fillO, repL, oneCell, AV.cells, BY_row], ?_⟩
      simp only [newW_eq]
      exact app [92, d] _ (by simp) fun v' M4 h1 h2 => fin v' M4 (by rw [hstep, he]; exact h1) h2
    by_cases h1 : c.toNat = 92
    · have e1 : ((c.toNat : Int) == 92) = true := by rw [h1]; rfl
      simp only [e1, go_sem]
      exact two c (by simp [escB, h1])
    have e1 : ((c.toNat : Int) == 92) = false := by simp; omega
    by_cases h2 : c.toNat = 44
    · have e2 : ((c.toNat : Int) == 44) = true := by rw [h2]; rfl
      simp only [e1, e2, go_sem]
      exact two c (by simp [escB, h2])
    have e2 : ((c.toNat : Int) == 44) = false := by simp; omega
    by_cases h3 : c.toNat = 59
    · have e3 : ((c.toNat : Int) == 59) = true := by rw [h3]; rfl
      simp only [e1, e2, e3, go_sem]
      exact two c (by simp [escB, h3])
    have e3 : ((c.toNat : Int) == 59) = false := by simp; omega
    by_cases h4 : c.toNat = 10
    · have e4 : ((c.toNat : Int) == 10) = true := by rw [h4]; rfl
      simp only [e1, e2, e3, e4, go_sem]
      exact two 110 (by simp [escB, h1, h2, h3, h4])
    have e4 : ((c.toNat : Int) == 10) = false := by simp; omega
    simp only [e1, e2, e3, e4, go_sem]
    rw [rows1 (x := By c) (size := 1) rfl rfl rfl]
    exact app [c] _ (by simp) fun v' M4 h5 h6 => fin v' M4 (by rw [hstep]; simpa [escB, h1, h2, h3, h4] using h5) h6
  · have : i = s.length := by simp at hge; omega
    subst this
    rw [List.take_length] at ho
    rw [Sl.str ho.slR]
    exact hQ M3 hK

/-! ### back -/
def isMark (d : UInt8) : Prop := d.toNat = 92 ∨ d.toNat = 44 ∨ d.toNat = 59 ∨ d.toNat = 58
instance (d : UInt8) : Decidable (isMark d) := inferInstanceAs (Decidable (_ ∨ _))
def isN (d : UInt8) : Prop := d.toNat = 110 ∨ d.toNat = 78
instance (d : UInt8) : Decidable (isN d) := inferInstanceAs (Decidable (_ ∨ _))
def unesc : List UInt8 → Option (List UInt8)
  | [] => some []
  | c :: s => if c.toNat ≠ 92 then (unesc s).map (c :: ·) else match s with
    | [] => none
    | d :: s => if isN d then (unesc s).map (10 :: ·) else if isMark d then (unesc s).map (d :: ·) else none
theorem unesc_plain {c : UInt8} {s : List UInt8} (h : c.toNat ≠ 92) : unesc (c :: s) = (unesc s).map (c :: ·) := by
  cases s <;> simp [unesc, h]
theorem unesc_end {c : UInt8} (h : c.toNat = 92) : unesc [c] = none := by simp [unesc, h]
theorem unesc_n {c d : UInt8} {s : List UInt8} (h : c.toNat = 92) (hd : isN d) : unesc (c :: d :: s) = (unesc s).map (10 :: ·) := by rw [unesc]; simp [h, hd]
theorem unesc_mark {c d : UInt8} {s : List UInt8} (h : c.toNat = 92) (hn : ¬ isN d) (hd : isMark d) : unesc (c :: d :: s) = (unesc s).map (d :: ·) := by rw [unesc]; simp [h, hn, hd]
theorem unesc_bad {c d : UInt8} {s : List UInt8} (h : c.toNat = 92) (hn : ¬ isN d) (hd : ¬ isMark d) : unesc (c :: d :: s) = none := by rw [unesc]; simp [h, hn, hd]

theorem unesc_esc (s : List UInt8) : unesc (esc s) = some s := by
  induction s with
  | nil => rfl
  | cons c s ih =>
    simp only [esc, List.flatMap_cons] at ih ⊢
    have h92 : (92 : UInt8).toNat = 92 := rfl
    generalize hE : escB c = E
    unfold escB at hE
    split at hE
    · rename_i h
      subst hE
      have hn : ¬ isN c := by unfold isN; omega
      have hm : isMark c := by unfold isMark; omega
      simp only [List.cons_append, List.nil_append]
      rw [unesc_mark h92 hn hm, ih]; rfl
    · split at hE
      · rename_i h1 h
        subst hE
        simp only [List.cons_append, List.nil_append]
        rw [unesc_n h92 (.inl rfl), ih]
        have : c = 10 := UInt8.toNat_inj.1 (by rw [h]; rfl)
        subst this; rfl
      · rename_i h1 h2
        subst hE
        simp only [List.cons_append, List.nil_append]
        rw [unesc_plain (by omega), ih]; rfl
theorem esc_no10 (s : List UInt8) : ∀ b ∈ esc s, b.toNat ≠ 10 := by
  intro b hb
  obtain ⟨c, hc, hb⟩ := List.mem_flatMap.1 hb
  unfold escB at hb
  split at hb
  · rename_i h; rcases List.mem_cons.1 hb with rfl | hb
    · decide
    · have : b = c := by simpa using hb
      subst this; omega
  · split at hb
    · rcases List.mem_cons.1 hb with rfl | hb
      · decide
      · have : b = 110 := by simpa using hb
        subst this; decide
    · have : b = c := by simpa using hb
      subst this; assumption

def IdxByteC (c : CallT) : Prop := ∀ {M : RM} {s : List UInt8} {x : UInt8} {Q : PostV}, Q (N .i64 (Lib.indexByte s x)) M → c [St s, By x] M Q
theorem idxByte_nonneg (l : List UInt8) (x : UInt8) : (Lib.indexByte l x ≥ 0) ↔ x ∈ l := by
  induction l with
  | nil => simp [Lib.indexByte]
  | cons y ys ih =>
    simp only [Lib.indexByte]
    have := Lib.indexByte_ge ys x
    by_cases h : y = x
    · subst h; simp
    · have hb : (y == x) = false := by simpa using h
      have h' : ¬ x = y := fun e => h e.symm
      simp only [hb, List.mem_cons, h', false_or]
      rw [← ih]
      simp
      split <;> omega
theorem mark_mem (d : UInt8) : d ∈ ([92, 44, 59, 58] : List UInt8) ↔ isMark d := by
  unfold isMark
  simp only [List.mem_cons, List.not_mem_nil, or_false, ← UInt8.toNat_inj]
  exact Iff.rfl

/-- What is answered. -/
def unescA (bad good : AV) (s : List UInt8) : AV := match unesc s with
  | some x => .tup [St x, good]
  | none => .tup [St [], bad]
def UnescC (bad good : AV) (c : CallT) : Prop := ∀ {M : RM} {s : List UInt8} {Q : PostV}, s.length ≤ 1000000 → (∀ M', Keep [] M M' → Q (unescA bad good s) M') → c [St s] M Q

theorem unesc_len : ∀ (n : Nat) (s x : List UInt8), s.length ≤ n → unesc s = some x → x.length ≤ s.length
  | _, [], x, _, h => by simp [unesc] at h; subst h; simp
  | n + 1, c :: s, x, hl, h => by
    simp at hl
    by_cases h1 : c.toNat = 92
    · cases s with
      | nil => rw [unesc_end h1] at h; cases h
      | cons d s =>
        simp at hl
        by_cases h2 : isN d
        · rw [unesc_n h1 h2] at h
          obtain ⟨y, hy, rfl⟩ := Option.map_eq_some_iff.1 h
          have := unesc_len n s y (by omega) hy
          simp; omega
        · by_cases h3 : isMark d
          · rw [unesc_mark h1 h2 h3] at h
            obtain ⟨y, hy, rfl⟩ := Option.map_eq_some_iff.1 h
            have := unesc_len n s y (by omega) hy
            simp; omega
          · rw [unesc_bad h1 h2 h3] at h; cases h
    · rw [unesc_plain h1] at h
      obtain ⟨y, hy, rfl⟩ := Option.map_eq_some_iff.1 h
      have := unesc_len n s y (by omega) hy
      simp; omega

theorem unescape_spec {TB T8 : Nat} {cw ci ct : CallT} (hw : WriteByteC TB T8 cw) (hi : IdxByteC ci) (ht : StringC TB T8 ct) :
    UnescC (N .i64 14) (N .i64 0) fun args M Q => ∃ a0, args = [a0] ∧ W_rolodex_vline_Unescape TB cw ci ct a0 M Q := by
  intro M s Q hl hQ
  refine ⟨_, rfl, ?_⟩
  unfold W_rolodex_vline_Unescape
  simp only [fuseM, newW_eq]
  generalize hM1 : M.push (.row [.sc (.pointer none), .sc (.slice none 0 0)] false TB 0) = M1
  have hn1 : M1.next = M.next + 1 := by rw [← hM1]; rfl
  have hk1 : Keep [] M M1 := by rw [← hM1]; exact (Keep.refl _ _).push _
  have hb0 : Bld TB T8 M1.next M1 M.next [] := Bld.new (by rw [← hM1]; simp [go_sem]) (by omega) (Nat.le_refl _)
  have fin : ∀ {M' : RM}, KeepTo M1.next [M.next] M1 M' → Keep [] M M' := fun h => hk1.then_to h (by omega) fun c hc => .inl (by simp at hc; omega)
  refine loopW_ind (fun m ys M3 => ∃ (i : Nat) (out : List UInt8), m = s.length - i ∧ ys = [N .i64 i] ∧ i ≤ s.length ∧ Bld TB T8 M1.next M3 M.next out ∧ KeepTo M1.next [M.next] M1 M3 ∧ out.length ≤ i ∧
    unesc s = (unesc (s.drop i)).map (out ++ ·)) _
    ⟨0, [], rfl, rfl, Nat.zero_le _, hb0, KeepTo.refl _ _ _, by simp, by simp⟩ ?_
  rintro next m ys M3 hnext ⟨i, out, rfl, rfl, hile, hB, hK, hol, hu⟩
  simp only [go_sem]
  refine ⟨fun hlt => ?_, fun hge => ?_⟩
  · have hlt : i < s.length := by simpa using hlt
    have hg : s[i]? = some s[i] := List.getElem?_eq_getElem hlt
    have hd := List.drop_eq_getElem_cons hlt
    generalize s[i] = c at *
    simp only [hg, go_sem, i64_succ (show i < 9223372036854775807 by omega)]
    by_cases h1 : c.toNat = 92
    · have e1 : ((c.toNat : Int) != 92) = false := by rw [h1]; rfl
      simp only [e1, go_sem]
      by_cases hlt2 : i + 1 < s.length
      · have e2 : decide (((i + 1 : Nat) : Int) < (s.length : Int)) = true := by simp; omega
        have hg2 : s[i + 1]? = some s[i + 1] := List.getElem?_eq_getElem hlt2
        have hd2 := List.drop_eq_getElem_cons hlt2
        generalize s[i + 1] = d at *
        have go : ∀ (x : UInt8), unesc (c :: d :: s.drop (i + 2)) = (unesc (s.drop (i + 2))).map (x :: ·) → ∀ M4, Bld TB T8 M1.next M4 M.next (out ++ [x]) → KeepTo M1.next [M.next] M3 M4 → next [N .i64 ((i + 1 + 1 : Nat) : Int)] M4 := fun x hx M4 h4 k4 => by
          refine hnext _ _ _ (by omega) ⟨i + 2, out ++ [x], rfl, rfl, by omega, h4, hK.trans k4, by simp; omega, ?_⟩
          rw [hu, hd, hd2, hx, Option.map_map]
          congr 1
          funext y; simp
        simp only [e2, hg2, go_sem, i64_succ (show i + 1 < 9223372036854775807 by omega)]
        have bad : unesc (c :: d :: s.drop (i + 2)) = none → unescA (N .i64 14) (N .i64 0) s = .tup [St [], N .i64 14] := fun h => by
          simp [unescA, hu, hd, hd2, h]
        by_cases h2 : d.toNat = 110
        · have e3 : ((d.toNat : Int) == 110) = true := by rw [h2]; rfl
          simp only [e3, go_sem]
          exact hw (x := 10) hB (by omega) fun M4 h4 k4 => go 10 (unesc_n h1 (.inl h2)) M4 h4 k4
        have e3 : ((d.toNat : Int) == 110) = false := by simp; omega
        by_cases h3 : d.toNat = 78
        · have e4 : ((d.toNat : Int) == 78) = true := by rw [h3]; rfl
          simp only [e3, e4, go_sem]
          exact hw (x := 10) hB (by omega) fun M4 h4 k4 => go 10 (unesc_n h1 (.inr h3)) M4 h4 k4
        have e4 : ((d.toNat : Int) == 78) = false := by simp; omega
        have hn : ¬ isN d := by unfold isN; omega
        simp only [e3, e4, go_sem]
        refine hi (s := [92, 44, 59, 58]) (x := d) ?_
        simp only [go_sem]
        refine ⟨fun h => ?_, fun h => ?_⟩
        · have hm : isMark d := (mark_mem d).1 ((idxByte_nonneg _ _).1 (of_decide_eq_true h))
          exact hw (x := d) hB (by omega) fun M4 h4 k4 => go d (unesc_mark h1 hn hm) M4 h4 k4
        · have hm : ¬ isMark d := fun hm => (of_decide_eq_false h) ((idxByte_nonneg _ _).2 ((mark_mem d).2 hm))
          rw [← bad (unesc_bad h1 hn hm)]
          exact hQ _ (fin hK)
      · have e2 : decide (((i + 1 : Nat) : Int) < (s.length : Int)) = false := by simp; omega
        simp only [e2, go_sem]
        have : s.drop (i + 1) = [] := List.drop_of_length_le (by omega)
        have hb : unescA (N .i64 14) (N .i64 0) s = .tup [St [], N .i64 14] := by simp [unescA, hu, hd, this, unesc_end h1]
        rw [← hb]
        exact hQ _ (fin hK)
    · have e1 : ((c.toNat : Int) != 92) = true := by simp; omega
      simp only [e1, go_sem]
      refine hw (x := c) hB (by omega) fun M4 h4 k4 => ?_
      refine hnext _ _ _ (by omega) ⟨i + 1, out ++ [c], rfl, rfl, by omega, h4, hK.trans k4, by simp; omega, ?_⟩
      rw [hu, hd, unesc_plain h1, Option.map_map]
      congr 1
      funext y; simp
  · have : i = s.length := by simp at hge; omega
    subst this
    refine ht hB (by omega) fun M4 k4 => ?_
    have := hQ M4 (fin (hK.trans ⟨k4.base, k4.next, fun c h1 h2 => k4.heap c h1 (by simp)⟩))
    simpa [unescA, hu, unesc] using this

/-- A byte is appended to one's own. -/
theorem app_b {n0 T8 : Nat} {M : RM} {v : AV} {xs : List UInt8} {x : UInt8} {K : AV → RM → Prop} (ho : Ow BY M n0 T8 v xs) (hn : n0 ≤ M.next) (hl : xs.length + 1 ≤ 140737488355328)
    (hK : ∀ v' M', Ow BY M' n0 T8 v' (xs ++ [x]) → Keep (blkOf v) M M' → K v' M') :
    rowsW T8 1 [N .u8 0] [(0, 1, By x)] fun r f => appW T8 1 1 [N .u8 0] false v (f M.next) (M.push r) K := by
  rw [rows1 (x := By x) (size := 1) rfl rfl rfl]
  exact app_one (E := BY) (a := x) ho hn (Nat.le_refl _) (by omega) hl fun v' M' h1 h2 _ _ => hK v' M' h1 h2

theorem refUnescape_spec {T8 : Nat} : UnescC (Bo false) (Bo true) fun args M Q => ∃ a0, args = [a0] ∧ W_rolodex_rolodexref23_Unescape T8 a0 M Q := by
  intro M s Q hl hQ
  refine ⟨_, rfl, ?_⟩
  unfold W_rolodex_rolodexref23_Unescape
  refine make0 ?_
  simp only [newW_eq]
  refine loopW_ind (fun m ys M3 => ∃ (i : Nat) (v : AV) (out : List UInt8), m = s.length - i ∧ ys = [v, N .i64 i] ∧ i ≤ s.length ∧ Ow BY M3 M.next T8 v out ∧ Keep [] M M3 ∧ out.length ≤ i ∧
    unesc s = (unesc (s.drop i)).map (out ++ ·)) _
    ⟨0, _, [], rfl, rfl, Nat.zero_le _, Ow.lit BY M, (Keep.refl _ _).push _, by simp, by simp⟩ ?_
  rintro next m ys M3 hnext ⟨i, v, out, rfl, rfl, hile, ho, hK, hol, hu⟩
  have kk : ∀ {M' : RM}, Keep (blkOf v) M3 M' → Keep [] M M' := fun h => hK.then_new h fun c hc => .inl (ho.blk c hc).1
  simp only [go_sem]
  refine ⟨fun hlt => ?_, fun hge => ?_⟩
  · have hlt : i < s.length := by simpa using hlt
    have hg : s[i]? = some s[i] := List.getElem?_eq_getElem hlt
    have hd := List.drop_eq_getElem_cons hlt
    generalize s[i] = c at *
    simp only [hg, go_sem, i64_succ (show i < 9223372036854775807 by omega)]
    by_cases h1 : c.toNat = 92
    · have e1 : ((c.toNat : Int) != 92) = false := by rw [h1]; rfl
      simp only [e1, go_sem]
      by_cases hlt2 : i + 1 < s.length
      · have e2 : (((i + 1 : Nat) : Int) == (s.length : Int)) = false := by simp; omega
        have hg2 : s[i + 1]? = some s[i + 1] := List.getElem?_eq_getElem hlt2
        have hd2 := List.drop_eq_getElem_cons hlt2
        generalize s[i + 1] = d at *
        have go : ∀ (x : UInt8), unesc (c :: d :: s.drop (i + 2)) = (unesc (s.drop (i + 2))).map (x :: ·) → ∀ v' M4, Ow BY M4 M.next T8 v' (out ++ [x]) → Keep (blkOf v) M3 M4 → next [v', N .i64 ((i + 1 + 1 : Nat) : Int)] M4 := fun x hx v' M4 h4 k4 => by
          refine hnext _ _ _ (by omega) ⟨i + 2, v', out ++ [x], rfl, rfl, by omega, h4, kk k4, by simp; omega, ?_⟩
          rw [hu, hd, hd2, hx, Option.map_map]
          congr 1
          funext y; simp
        simp only [e2, hg2, go_sem, i64_succ (show i + 1 < 9223372036854775807 by omega)]
        have bad : unesc (c :: d :: s.drop (i + 2)) = none → unescA (Bo false) (Bo true) s = .tup [St [], Bo false] := fun h => by
          simp [unescA, hu, hd, hd2, h]
        have mk : isMark d → ¬ isN d := fun h => by unfold isMark at h; unfold isN; omega
        by_cases m1 : d.toNat = 92
        · have e3 : ((d.toNat : Int) == 92) = true := by rw [m1]; rfl
          simp only [e3, go_sem]
          exact app_b ho hK.next (by omega) fun v' M' h1' h2' => go d (unesc_mark h1 (mk (.inl m1)) (.inl m1)) v' M' h1' h2'
        have e3 : ((d.toNat : Int) == 92) = false := by simp; omega
        by_cases m2 : d.toNat = 44
        · have e4 : ((d.toNat : Int) == 44) = true := by rw [m2]; rfl
          simp only [e3, e4, go_sem]
          exact app_b ho hK.next (by omega) fun v' M' h1' h2' => go d (unesc_mark h1 (mk (.inr (.inl m2))) (.inr (.inl m2))) v' M' h1' h2'
        have e4 : ((d.toNat : Int) == 44) = false := by simp; omega
        by_cases m3 : d.toNat = 59
        · have e5 : ((d.toNat : Int) == 59) = true := by rw [m3]; rfl
          simp only [e3, e4, e5, go_sem]
          exact app_b ho hK.next (by omega) fun v' M' h1' h2' => go d (unesc_mark h1 (mk (.inr (.inr (.inl m3)))) (.inr (.inr (.inl m3)))) v' M' h1' h2'
        have e5 : ((d.toNat : Int) == 59) = false := by simp; omega
        by_cases m4 : d.toNat = 58
        · have e6 : ((d.toNat : Int) == 58) = true := by rw [m4]; rfl
          simp only [e3, e4, e5, e6, go_sem]
          exact app_b ho hK.next (by omega) fun v' M' h1' h2' => go d (unesc_mark h1 (mk (.inr (.inr (.inr m4)))) (.inr (.inr (.inr m4)))) v' M' h1' h2'
        have e6 : ((d.toNat : Int) == 58) = false := by simp; omega
        have hm : ¬ isMark d := by unfold isMark; omega
        by_cases n1 : d.toNat = 110
        · have e7 : ((d.toNat : Int) == 110) = true := by rw [n1]; rfl
          simp only [e3, e4, e5, e6, e7, go_sem]
          exact app_b (x := 10) ho hK.next (by omega) fun v' M' h1' h2' => go 10 (unesc_n h1 (.inl n1)) v' M' h1' h2'
        have e7 : ((d.toNat : Int) == 110) = false := by simp; omega
        by_cases n2 : d.toNat = 78
        · have e8 : ((d.toNat : Int) == 78) = true := by rw [n2]; rfl
          simp only [e3, e4, e5, e6, e7, e8, go_sem]
          exact app_b (x := 10) ho hK.next (by omega) fun v' M' h1' h2' => go 10 (unesc_n h1 (.inr n2)) v' M' h1' h2'
        have e8 : ((d.toNat : Int) == 78) = false := by simp; omega
        have hn : ¬ isN d := by unfold isN; omega
        simp only [e3, e4, e5, e6, e7, e8, go_sem]
        rw [← bad (unesc_bad h1 hn hm)]
        exact hQ _ hK
      · have e2 : (((i + 1 : Nat) : Int) == (s.length : Int)) = true := by simp; omega
        simp only [e2, go_sem]
        have : s.drop (i + 1) = [] := List.drop_of_length_le (by omega)
        have hb : unescA (Bo false) (Bo true) s = .tup [St [], Bo false] := by simp [unescA, hu, hd, this, unesc_end h1]
        rw [← hb]
        exact hQ _ hK
    · have e1 : ((c.toNat : Int) != 92) = true := by simp; omega
      simp only [e1, go_sem]
      refine app_b ho hK.next (by omega) fun v' M4 h4 k4 => ?_
      refine hnext _ _ _ (by omega) ⟨i + 1, v', out ++ [c], rfl, rfl, by omega, h4, kk k4, by simp; omega, ?_⟩
      rw [hu, hd, unesc_plain h1, Option.map_map]
      congr 1
      funext y; simp
  · have : i = s.length := by simp at hge; omega
    subst this
    rw [Sl.str ho.slR]
    have := hQ M3 hK
    simpa [unescA, hu, unesc] using this

/-! ### parts -/
def splitG (x : UInt8) : List UInt8 → List UInt8 → Bool → List (List UInt8)
  | [], cur, _ => [cur]
  | c :: s, cur, odd => if c = x ∧ odd = false then cur :: splitG x s [] (decide (c.toNat = 92) && !odd) else splitG x s (cur ++ [c]) (decide (c.toNat = 92) && !odd)
def parts (x : UInt8) (s : List UInt8) : List (List UInt8) := splitG x s [] false
def SplitC (T : Nat) (c : CallT) : Prop := ∀ {M : RM} {s : List UInt8} {x : UInt8} {Q : PostV}, s.length ≤ 1000000 → (∀ v M', Ow STR M' M.next T v (parts x s) → Keep [] M M' → Q v M') → c [St s, By x] M Q
theorem splitG_len (x : UInt8) : ∀ (s cur : List UInt8) (odd : Bool), (splitG x s cur odd).length ≤ s.length + 1
  | [], cur, odd => by simp [splitG]
  | c :: s, cur, odd => by
    simp only [splitG]
    split
    · have := splitG_len x s [] (decide (c.toNat = 92) && !odd); simp; omega
    · have := splitG_len x s (cur ++ [c]) (decide (c.toNat = 92) && !odd); simp; omega
theorem subStr_some {s : List UInt8} {l h : Nat} (h1 : l ≤ h) (h2 : h ≤ s.length) (k1 k2 : IntKind) : subStr (St s) (some (N k1 (l : Int))) (some (N k2 (h : Int))) = some (St ((s.drop l).take (h - l))) := by
  simp only [subStr, bnd]
  simp [h1, h2]
theorem subStr_from {s : List UInt8} {l : Nat} (h1 : l ≤ s.length) (k1 : IntKind) : subStr (St s) (some (N k1 (l : Int))) none = some (St (s.drop l)) := by
  simp only [subStr, bnd]
  simp [h1]
  rw [List.take_of_length_le (by simp)]

theorem split_spec {T : Nat} : SplitC T fun args M Q => ∃ a0 a1, args = [a0, a1] ∧ W_rolodex_vline_Split T a0 a1 M Q := by
  intro M s x Q hl hQ
  refine ⟨_, _, rfl, ?_⟩
  unfold W_rolodex_vline_Split
  simp only [fuseM, lenStr_St]
  refine loopW_ind (fun m ys M3 => ∃ (i bg : Nat) (v : AV) (out : List (List UInt8)) (odd : Bool), m = s.length - i ∧ ys = [v, N .i64 bg, Bo odd, N .i64 i] ∧ i ≤ s.length ∧ bg ≤ i ∧ Ow STR M3 M.next T v out ∧ Keep [] M M3 ∧ out.length ≤ i ∧
    splitG x s [] false = out ++ splitG x (s.drop i) ((s.drop bg).take (i - bg)) odd) _
    ⟨0, 0, _, [], false, rfl, rfl, Nat.zero_le _, Nat.le_refl _, .nil, Keep.refl _ _, by simp, by simp⟩ ?_
  rintro next m ys M3 hnext ⟨i, bg, v, out, odd, rfl, rfl, hile, hbi, ho, hK, hol, hu⟩
  have kk : ∀ {M' : RM}, Keep (blkOf v) M3 M' → Keep [] M M' := fun h => hK.then_new h fun c hc => .inl (ho.blk c hc).1
  simp only [go_sem]
  refine ⟨fun hlt => ?_, fun hge => ?_⟩
  · have hlt : i < s.length := by simpa using hlt
    have hg : s[i]? = some s[i] := List.getElem?_eq_getElem hlt
    have hd := List.drop_eq_getElem_cons hlt
    have htk : (s.drop bg).take (i + 1 - bg) = (s.drop bg).take (i - bg) ++ [s[i]] := by
      rw [show i + 1 - bg = (i - bg) + 1 by omega, List.take_succ_eq_append_getElem (by simp; omega)]
      congr 2
      rw [List.getElem_drop]
      congr 1; omega
    generalize s[i] = c at *
    have step : ∀ (nodd : Bool) (v' : AV) (bg' : Nat) (out' : List (List UInt8)) (M4 : RM), bg' ≤ i + 1 → Ow STR M4 M.next T v' out' → Keep [] M M4 → out'.length ≤ i + 1 →
        splitG x s [] false = out' ++ splitG x (s.drop (i + 1)) ((s.drop bg').take (i + 1 - bg')) nodd → next [v', N .i64 (bg' : Int), Bo nodd, N .i64 ((i + 1 : Nat) : Int)] M4 := fun nodd v' bg' out' M4 h1 h2 h3 h4 h5 =>
      hnext _ _ _ (by omega) ⟨i + 1, bg', v', out', nodd, rfl, rfl, by omega, h1, h2, h3, h4, h5⟩
    have cut : ∀ (K : AV → RM → Prop), (∀ v' M4, Ow STR M4 M.next T v' (out ++ [(s.drop bg).take (i - bg)]) → Keep [] M M4 → K v' M4) →
        rowsW T 1 [St []] [(0, 1, St ((s.drop bg).take (i - bg)))] fun r f => appW T 1 16 [St []] false v (f M3.next) (M3.push r) K := fun K hK' => by
      rw [rows1 (x := St ((s.drop bg).take (i - bg))) (size := 1) rfl rfl rfl]
      exact app_one (E := STR) (a := (s.drop bg).take (i - bg)) ho hK.next (Nat.le_refl _) (by omega) (by omega) fun v' M4 h1 h2 _ _ => hK' v' M4 h1 (kk h2)
    rw [hd] at hu
    simp only [splitG] at hu
    obtain ⟨b92, h92, hd92⟩ : ∃ b, ((c.toNat : Int) == 92) = b ∧ decide (c.toNat = 92) = b := by
      by_cases h : c.toNat = 92
      · exact ⟨true, by simp [h], by simp [h]⟩
      · exact ⟨false, by simp; omega, by simp [h]⟩
    rw [hd92] at hu
    simp only [hg, h92, go_sem, i64_succ (show i < 9223372036854775807 by omega), subStr_some hbi (Nat.le_of_lt hlt)]
    have same : (if c = x ∧ odd = false then ((s.drop bg).take (i - bg)) :: splitG x (s.drop (i + 1)) [] (b92 && !odd) else splitG x (s.drop (i + 1)) ((s.drop bg).take (i - bg) ++ [c]) (b92 && !odd)) = splitG x (s.drop (i + 1)) ((s.drop bg).take (i + 1 - bg)) (b92 && !odd) →
        splitG x s [] false = out ++ splitG x (s.drop (i + 1)) ((s.drop bg).take (i + 1 - bg)) (b92 && !odd) := fun h => by rw [hu, h]
    by_cases hx : c = x
    · have ex : ((c.toNat : Int) == (x.toNat : Int)) = true := by subst hx; simp
      cases odd with
      | false =>
        simp only [hx, and_self, if_true] at hu
        have hz : (s.drop (i + 1)).take (i + 1 - (i + 1)) = [] := by simp
        have key : ∀ v' M4, Ow STR M4 M.next T v' (out ++ [(s.drop bg).take (i - bg)]) → Keep [] M M4 → next [v', N .i64 ((i + 1 : Nat) : Int), Bo (b92 && !false), N .i64 ((i + 1 : Nat) : Int)] M4 := fun v' M4 h1 h2 =>
          step _ v' (i + 1) _ M4 (Nat.le_refl _) h1 h2 (by simp; omega) (by rw [hu, hz]; simp)
        simp only [ex, go_sem]
        refine cut _ fun v' M4 h1 h2 => ?_
        have := key v' M4 h1 h2
        cases b92 <;> simpa using this
      | true =>
        have key := step _ v bg out M3 (by omega) ho hK (by omega) (same (by simp [htk]))
        simp only [ex, go_sem]
        cases b92 <;> simpa using key
    · have ex : ((c.toNat : Int) == (x.toNat : Int)) = false := by
        have : c.toNat ≠ x.toNat := fun e => hx (UInt8.toNat_inj.1 e)
        simp; omega
      have key := step _ v bg out M3 (by omega) ho hK (by omega) (same (by simp [htk, hx]))
      simp only [ex, go_sem]
      cases b92 <;> simpa using key
  · have : i = s.length := by simp at hge; omega
    subst this
    simp only [subStr_from hbi, go_sem]
    rw [rows1 (x := St (s.drop bg)) (size := 1) rfl rfl rfl]
    refine app_one (E := STR) (a := s.drop bg) ho hK.next (Nat.le_refl _) (by omega) (by omega) fun v' M4 h1 h2 _ _ => hQ v' M4 ?_ (kk h2)
    have : parts x s = out ++ [s.drop bg] := by
      unfold parts
      rw [hu, List.drop_length]
      simp only [splitG]
      rw [List.take_of_length_le (by simp)]
    rw [this]; exact h1

theorem refSplit_spec {T : Nat} : SplitC T fun args M Q => ∃ a0 a1, args = [a0, a1] ∧ W_rolodex_rolodexref23_Split T a0 a1 M Q := by
  intro M s x Q hl hQ
  refine ⟨_, _, rfl, ?_⟩
  unfold W_rolodex_rolodexref23_Split
  refine ⟨_, _, 0, 0, rfl, rfl, by omega, by omega, by decide, by decide, ?_⟩
  simp only [fuseM, newW_eq, repL]
  refine loopW_ind (fun m ys M3 => ∃ (i bg : Nat) (v : AV) (out : List (List UInt8)) (odd : Bool), m = s.length - i ∧ ys = [v, N .i64 bg, Bo odd, N .i64 i] ∧ i ≤ s.length ∧ bg ≤ i ∧ Ow STR M3 M.next T v out ∧ Keep [] M M3 ∧ out.length ≤ i ∧
    splitG x s [] false = out ++ splitG x (s.drop i) ((s.drop bg).take (i - bg)) odd) _
    ⟨0, 0, _, [], false, rfl, rfl, Nat.zero_le _, Nat.le_refl _, Ow.lit STR M, (Keep.refl _ _).push _, by simp, by simp⟩ ?_
  rintro next m ys M3 hnext ⟨i, bg, v, out, odd, rfl, rfl, hile, hbi, ho, hK, hol, hu⟩
  have kk : ∀ {M' : RM}, Keep (blkOf v) M3 M' → Keep [] M M' := fun h => hK.then_new h fun c hc => .inl (ho.blk c hc).1
  simp only [go_sem]
  refine ⟨fun hlt => ?_, fun hge => ?_⟩
  · have hlt : i < s.length := by simpa using hlt
    have hg : s[i]? = some s[i] := List.getElem?_eq_getElem hlt
    have hd := List.drop_eq_getElem_cons hlt
    have htk : (s.drop bg).take (i + 1 - bg) = (s.drop bg).take (i - bg) ++ [s[i]] := by
      rw [show i + 1 - bg = (i - bg) + 1 by omega, List.take_succ_eq_append_getElem (by simp; omega)]
      congr 2
      rw [List.getElem_drop]
      congr 1; omega
    generalize s[i] = c at *
    have step : ∀ (nodd : Bool) (v' : AV) (bg' : Nat) (out' : List (List UInt8)) (M4 : RM), bg' ≤ i + 1 → Ow STR M4 M.next T v' out' → Keep [] M M4 → out'.length ≤ i + 1 →
        splitG x s [] false = out' ++ splitG x (s.drop (i + 1)) ((s.drop bg').take (i + 1 - bg')) nodd → next [v', N .i64 (bg' : Int), Bo nodd, N .i64 ((i + 1 : Nat) : Int)] M4 := fun nodd v' bg' out' M4 h1 h2 h3 h4 h5 =>
      hnext _ _ _ (by omega) ⟨i + 1, bg', v', out', nodd, rfl, rfl, by omega, h1, h2, h3, h4, h5⟩
    have cut : ∀ (K : AV → RM → Prop), (∀ v' M4, Ow STR M4 M.next T v' (out ++ [(s.drop bg).take (i - bg)]) → Keep [] M M4 → K v' M4) →
        rowsW T 1 [St []] [(0, 1, St ((s.drop bg).take (i - bg)))] fun r f => appW T 1 16 [St []] false v (f M3.next) (M3.push r) K := fun K hK' => by
      rw [rows1 (x := St ((s.drop bg).take (i - bg))) (size := 1) rfl rfl rfl]
      exact app_one (E := STR) (a := (s.drop bg).take (i - bg)) ho hK.next (Nat.le_refl _) (by omega) (by omega) fun v' M4 h1 h2 _ _ => hK' v' M4 h1 (kk h2)
    rw [hd] at hu
    simp only [splitG] at hu
    obtain ⟨b92, h92, hd92⟩ : ∃ b, ((c.toNat : Int) == 92) = b ∧ decide (c.toNat = 92) = b := by
      by_cases h : c.toNat = 92
      · exact ⟨true, by simp [h], by simp [h]⟩
      · exact ⟨false, by simp; omega, by simp [h]⟩
    rw [hd92] at hu
    simp only [hg, h92, go_sem, i64_succ (show i < 9223372036854775807 by omega), subStr_some hbi (Nat.le_of_lt hlt)]
    have same : (if c = x ∧ odd = false then ((s.drop bg).take (i - bg)) :: splitG x (s.drop (i + 1)) [] (b92 && !odd) else splitG x (s.drop (i + 1)) ((s.drop bg).take (i - bg) ++ [c]) (b92 && !odd)) = splitG x (s.drop (i + 1)) ((s.drop bg).take (i + 1 - bg)) (b92 && !odd) →
        splitG x s [] false = out ++ splitG x (s.drop (i + 1)) ((s.drop bg).take (i + 1 - bg)) (b92 && !odd) := fun h => by rw [hu, h]
    by_cases hx : c = x
    · have ex : ((c.toNat : Int) == (x.toNat : Int)) = true := by subst hx; simp
      cases odd with
      | false =>
        simp only [hx, and_self, if_true] at hu
        have hz : (s.drop (i + 1)).take (i + 1 - (i + 1)) = [] := by simp
        have key : ∀ v' M4, Ow STR M4 M.next T v' (out ++ [(s.drop bg).take (i - bg)]) → Keep [] M M4 → next [v', N .i64 ((i + 1 : Nat) : Int), Bo (b92 && !false), N .i64 ((i + 1 : Nat) : Int)] M4 := fun v' M4 h1 h2 =>
          step _ v' (i + 1) _ M4 (Nat.le_refl _) h1 h2 (by simp; omega) (by rw [hu, hz]; simp)
        simp only [ex, go_sem]
        refine cut _ fun v' M4 h1 h2 => ?_
        have := key v' M4 h1 h2
        cases b92 <;> simpa using this
      | true =>
        have key := step _ v bg out M3 (by omega) ho hK (by omega) (same (by simp [htk]))
        simp only [ex, go_sem]
        cases b92 <;> simpa using key
    · have ex : ((c.toNat : Int) == (x.toNat : Int)) = false := by
        have : c.toNat ≠ x.toNat := fun e => hx (UInt8.toNat_inj.1 e)
        simp; omega
      have key := step _ v bg out M3 (by omega) ho hK (by omega) (same (by simp [htk, hx]))
      simp only [ex, go_sem]
      cases b92 <;> simpa using key
  · have : i = s.length := by simp at hge; omega
    subst this
    simp only [subStr_from hbi, go_sem]
    rw [rows1 (x := St (s.drop bg)) (size := 1) rfl rfl rfl]
    refine app_one (E := STR) (a := s.drop bg) ho hK.next (Nat.le_refl _) (by omega) (by omega) fun v' M4 h1 h2 _ _ => hQ v' M4 ?_ (kk h2)
    have : parts x s = out ++ [s.drop bg] := by
      unfold parts
      rw [hu, List.drop_length]
      simp only [splitG]
      rw [List.take_of_length_le (by simp)]
    rw [this]; exact h1

end Go.Ab.Vl
