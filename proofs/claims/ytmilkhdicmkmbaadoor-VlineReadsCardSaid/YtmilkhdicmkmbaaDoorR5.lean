/- Part 5 of the ground of the proofs of this seat (texts VlE to VlH8). By an AI agent. -/
import Derived.Test.YtmilkhdicmkmbaaDoorR4
import Derived.Lib.Bytealg
import Derived.Lib.DecodeN
import Derived.Lib.ValidU
import Derived.Lib.ValidLaws
import Derived.Lib.IndexAny
/- Contracts: escapes, and parts between bytes. By an AI agent. -/
set_option linter.unusedVariables false
set_option linter.unusedSimpArgs false
namespace Go.Ab.Vl
open Go Go.Ab

theorem idxB_at {s : List UInt8} {i : Nat} (hi : i < s.length) (kd : IntKind) (K : AV → Prop) : idxB (St s) (N kd (i : Int)) K = K (By s[i]) := by
  rw [idxB_St]
  apply propext
  constructor
  · rintro ⟨_, b, hb, hk⟩
    rw [Int.toNat_natCast, List.getElem?_eq_getElem hi] at hb
    cases hb; exact hk
  · intro hk; exact ⟨by omega, s[i], by rw [Int.toNat_natCast, List.getElem?_eq_getElem hi], hk⟩
theorem make0 {T : Nat} {zs : List AV} {K : RB → (Nat → AV) → Prop} (h : K (.row [] false T 0) (fun b => .slc b 0 0 (.ex 0))) : makeW T 1 zs (N .i64 0) (N .i64 0) K :=
  ⟨_, _, 0, 0, rfl, rfl, by omega, by omega, by decide, by decide, h⟩

/-! ### escapes -/
def escB (c : UInt8) : List UInt8 := if c.toNat = 92 ∨ c.toNat = 44 ∨ c.toNat = 59 then [92, c] else if c.toNat = 10 then [92, 110] else [c]
def esc (s : List UInt8) : List UInt8 := s.flatMap escB
theorem esc_len (s : List UInt8) : (esc s).length ≤ 2 * s.length := by
  induction s with
  | nil => simp [esc]
  | cons c s ih =>
    have : (escB c).length ≤ 2 := by unfold escB; split <;> (try split) <;> simp
    simp only [esc, List.flatMap_cons, List.length_append, List.length_cons] at ih ⊢
    omega
theorem esc_take (s : List UInt8) {i : Nat} (hi : i < s.length) : esc (s.take (i + 1)) = esc (s.take i) ++ escB s[i] := by
  rw [List.take_succ_eq_append_getElem hi, esc, List.flatMap_append]; simp [esc]
theorem esc_take_len (s : List UInt8) (i : Nat) : (esc (s.take i)).length ≤ 2 * s.length := by
  have := esc_len (s.take i); simp at this; omega

def EscC (c : CallT) : Prop := ∀ {M : RM} {s : List UInt8} {Q : PostV}, s.length ≤ 1000000 → (∀ M', Keep [] M M' → Q (St (esc s)) M') → c [St s] M Q

theorem escape_spec {TB T8 : Nat} {cw cs ct : CallT} (hw : WriteByteC TB T8 cw) (hs : WriteStringC TB T8 cs) (ht : StringC TB T8 ct) : EscC fun args M Q => ∃ a0, args = [a0] ∧ W_rolodex_vline_Escape TB T8 cw cs ct a0 M Q := by
  intro M s Q hl hQ
  refine ⟨_, rfl, ?_⟩
  unfold W_rolodex_vline_Escape
  simp only [newW_eq, bytesW_St, lenW_slc]
  generalize hM1 : M.push (.row [.sc (.pointer none), .sc (.slice none 0 0)] false TB 0) = M1
  have hn1 : M1.next = M.next + 1 := by rw [← hM1]; rfl
  generalize hM2 : M1.push (.row (BY.row s) true T8 0) = M2
  have hn2 : M2.next = M1.next + 1 := by rw [← hM2]; rfl
  have hk2 : Keep [] M M2 := by rw [← hM2, ← hM1]; exact ((Keep.refl _ _).push _).push _
  have hb0 : Bld TB T8 M2.next M2 M.next [] := Bld.new (by rw [← hM2, ← hM1]; simp [go_sem]) (by omega) (Nat.le_refl _)
  have hr0 : Rw BY M2 M1.next true T8 s := by rw [← hM2]; exact Rw.new M1 s
  refine loopW_ind (fun m ys M3 => ∃ i : Nat, m = s.length - i ∧ ys = [N .i64 i] ∧ i ≤ s.length ∧ Bld TB T8 M2.next M3 M.next (esc (s.take i)) ∧ KeepTo M2.next [M.next] M2 M3) _
    ⟨0, rfl, rfl, Nat.zero_le _, by simpa [esc] using hb0, KeepTo.refl _ _ _⟩ ?_
  rintro next m ys M3 hnext ⟨i, rfl, rfl, hi, hB, hK⟩
  have hr3 : Rw BY M3 M1.next true T8 s := ⟨hK.heap_of hr0.heap (by omega) (by simp; omega), by have := hK.next; omega⟩
  have hel := esc_take_len s i
  simp only [go_sem]
  refine ⟨fun hlt => ?_, fun hge => ?_⟩
  · have hlt : i < s.length := by simpa using hlt
    have hc := hr3.load1 hlt
    have hstep := esc_take s hlt
    generalize s[i] = c at *
    have fin : ∀ M4, Bld TB T8 M2.next M4 M.next (esc (s.take (i + 1))) → KeepTo M2.next [M.next] M3 M4 → next [N .i64 (IntKind.i64.wrap ((i : Int) + 1))] M4 := fun M4 h1 h2 => by
      rw [i64_succ (by omega)]
      exact hnext _ _ _ (by omega) ⟨i + 1, rfl, rfl, by omega, h1, hK.trans h2⟩
    refine ⟨by omega, By c, hc, ?_⟩
    have two : escB c = [92, c] → cw [.ptr M.next 0, N .u8 92] M3 fun t20 M_5 => cw [.ptr M.next 0, By c] M_5 fun t22 M_6 => next [N .i64 (IntKind.i64.wrap ((i : Int) + 1))] M_6 := fun he => by
      refine hw (x := 92) hB (by omega) fun M4 h4 k4 => ?_
      refine hw (x := c) h4 (by simp; omega) fun M5 h5 k5 => fin M5 ?_ (k4.trans k5)
      rw [hstep, he]; simpa using h5
    by_cases h1 : c.toNat = 92
    · have e1 : ((c.toNat : Int) == 92) = true := by rw [h1]; rfl
      simp only [e1, go_sem]
      exact two (by simp [escB, h1])
    have e1 : ((c.toNat : Int) == 92) = false := by simp; omega
    by_cases h2 : c.toNat = 44
    · have e2 : ((c.toNat : Int) == 44) = true := by rw [h2]; rfl
      simp only [e1, e2, go_sem]
      exact two (by simp [escB, h2])
    have e2 : ((c.toNat : Int) == 44) = false := by simp; omega
    by_cases h3 : c.toNat = 59
    · have e3 : ((c.toNat : Int) == 59) = true := by rw [h3]; rfl
      simp only [e1, e2, e3, go_sem]
      exact two (by simp [escB, h3])
    have e3 : ((c.toNat : Int) == 59) = false := by simp; omega
    by_cases h4 : c.toNat = 10
    · have e4 : ((c.toNat : Int) == 10) = true := by rw [h4]; rfl
      simp only [e1, e2, e3, e4, go_sem]
      refine hs (s := [92, 110]) hB (by simp; omega) fun M4 h5 k4 => fin M4 ?_ k4
      rw [hstep]; simpa [escB, h1, h2, h3, h4] using h5
    have e4 : ((c.toNat : Int) == 10) = false := by simp; omega
    simp only [e1, e2, e3, e4, go_sem]
    refine hw (x := c) hB (by omega) fun M4 h5 k4 => fin M4 ?_ k4
    rw [hstep]; simpa [escB, h1, h2, h3, h4] using h5
  · have : i = s.length := by simp at hge; omega
    subst this
    rw [List.take_length] at hB hel
    refine ht hB (by omega) fun M4 k4 => hQ M4 ?_
    refine hk2.then_to (hK.trans ⟨k4.base, k4.next, fun c h1 h2 => k4.heap c h1 (by simp)⟩) (by omega) fun c hc => .inl (by simp at hc; omega)

theorem refEscape_spec {T8 : Nat} : EscC fun args M Q => ∃ a0, args = [a0] ∧ W_rolodex_rolodexref23_Escape T8 a0 M Q := by
  intro M s Q hl hQ
  refine ⟨_, rfl, ?_⟩
  unfold W_rolodex_rolodexref23_Escape
  refine make0 ?_
  simp only [newW_eq]
  refine loopW_ind (fun m ys M3 => ∃ (i : Nat) (v : AV), m = s.length - i ∧ ys = [v, N .i64 i] ∧ i ≤ s.length ∧ Ow BY M3 M.next T8 v (esc (s.take i)) ∧ Keep [] M M3) _
    ⟨0, _, rfl, rfl, Nat.zero_le _, Ow.lit BY M, (Keep.refl _ _).push _⟩ ?_
  rintro next m ys M3 hnext ⟨i, v, rfl, rfl, hi, ho, hK⟩
  have hel := esc_take_len s i
  simp only [go_sem]
  refine ⟨fun hlt => ?_, fun hge => ?_⟩
  · have hlt : i < s.length := by simpa using hlt
    have hstep := esc_take s hlt
    have hg : s[i]? = some s[i] := List.getElem?_eq_getElem hlt
    generalize s[i] = c at *
    simp only [go_sem, hg]
    have fin : ∀ v' M4, Ow BY M4 M.next T8 v' (esc (s.take (i + 1))) → Keep [] M M4 → next [v', N .i64 (IntKind.i64.wrap ((i : Int) + 1))] M4 := fun v' M4 h1 h2 => by
      rw [i64_succ (by omega)]
      exact hnext _ _ _ (by omega) ⟨i + 1, v', rfl, rfl, by omega, h1, h2⟩
    have kk : ∀ {M' : RM}, Keep (blkOf v) M3 M' → Keep [] M M' := fun h => hK.then_new h fun c hc => .inl (ho.blk c hc).1
    have app : ∀ (xs : List UInt8) (K : AV → RM → Prop), xs.length ≤ 2 → (∀ v' M4, Ow BY M4 M.next T8 v' (esc (s.take i) ++ xs) → Keep [] M M4 → K v' M4) → appW T8 1 1 [N .u8 0] false v (.slc M3.next 0 xs.length (.ex xs.length)) (M3.push (.row (BY.row xs) false T8 0)) K := fun xs K hx hK' => by
      have hk : Keep [] M3 (M3.push (.row (BY.row xs) false T8 0)) := (Keep.refl _ _).push _
      refine app_all (E := BY) (ys := xs) (Own.keep ho hk (by simp)) (Nat.le_trans hK.next hk.next) (Nat.le_refl _) (Sl.new xs) (by omega) (by omega) fun v' M4 h1 h2 h3 h4 => hK' v' M4 h1 (kk ((hk.mono (by simp)).trans h2))
    have two : ∀ (d : UInt8), escB c = [92, d] → rowsW T8 2 [N .u8 0] [(0, 1, N .u8 92), (1, 1, By d)] fun r f => appW T8 1 1 [N .u8 0] false v (f M3.next) (M3.push r) fun t30 M_7 => next [t30, N .i64 (IntKind.i64.wrap ((i : Int) + 1))] M_7 := fun d he => by
      refine ⟨BY.row [92, d], by simp [fillO, repL, oneCell, AV.cells, BY_row], ?_⟩
      simp only [newW_eq]
      exact app [92, d] _ (by simp) fun v' M4 h1 h2 => fin v' M4 (by rw [hstep, he]; exact h1) h2
    by_cases h1 : c.toNat = 92
    · have e1 : ((c.toNat : Int) == 92) = true := by rw [h1]; rfl
      simp only [e1, go_sem]
      exact two c (by simp [escB, h1])
    have e1 : ((c.toNat : Int) == 92) = false := by simp; omega
    by_cases h2 : c.toNat = 44
    · have e2 : ((c.toNat : Int) == 44) = true := by rw [h2]; rfl
      simp only [e1, e2, go_sem]
      exact two c (by simp [escB, h2])
    have e2 : ((c.toNat : Int) == 44) = false := by simp; omega
    by_cases h3 : c.toNat = 59
    · have e3 : ((c.toNat : Int) == 59) = true := by rw [h3]; rfl
      simp only [e1, e2, e3, go_sem]
      exact two c (by simp [escB, h3])
    have e3 : ((c.toNat : Int) == 59) = false := by simp; omega
    by_cases h4 : c.toNat = 10
    · have e4 : ((c.toNat : Int) == 10) = true := by rw [h4]; rfl
      simp only [e1, e2, e3, e4, go_sem]
      exact two 110 (by simp [escB, h1, h2, h3, h4])
    have e4 : ((c.toNat : Int) == 10) = false := by simp; omega
    simp only [e1, e2, e3, e4, go_sem]
    rw [rows1 (x := By c) (size := 1) rfl rfl rfl]
    exact app [c] _ (by simp) fun v' M4 h5 h6 => fin v' M4 (by rw [hstep]; simpa [escB, h1, h2, h3, h4] using h5) h6
  · have : i = s.length := by simp at hge; omega
    subst this
    rw [List.take_length] at ho
    rw [Sl.str ho.slR]
    exact hQ M3 hK

/-! ### back -/
def isMark (d : UInt8) : Prop := d.toNat = 92 ∨ d.toNat = 44 ∨ d.toNat = 59 ∨ d.toNat = 58
instance (d : UInt8) : Decidable (isMark d) := inferInstanceAs (Decidable (_ ∨ _))
def isN (d : UInt8) : Prop := d.toNat = 110 ∨ d.toNat = 78
instance (d : UInt8) : Decidable (isN d) := inferInstanceAs (Decidable (_ ∨ _))
def unesc : List UInt8 → Option (List UInt8)
  | [] => some []
  | c :: s => if c.toNat ≠ 92 then (unesc s).map (c :: ·) else match s with
    | [] => none
    | d :: s => if isN d then (unesc s).map (10 :: ·) else if isMark d then (unesc s).map (d :: ·) else none
theorem unesc_plain {c : UInt8} {s : List UInt8} (h : c.toNat ≠ 92) : unesc (c :: s) = (unesc s).map (c :: ·) := by
  cases s <;> simp [unesc, h]
theorem unesc_end {c : UInt8} (h : c.toNat = 92) : unesc [c] = none := by simp [unesc, h]
theorem unesc_n {c d : UInt8} {s : List UInt8} (h : c.toNat = 92) (hd : isN d) : unesc (c :: d :: s) = (unesc s).map (10 :: ·) := by rw [unesc]; simp [h, hd]
theorem unesc_mark {c d : UInt8} {s : List UInt8} (h : c.toNat = 92) (hn : ¬ isN d) (hd : isMark d) : unesc (c :: d :: s) = (unesc s).map (d :: ·) := by rw [unesc]; simp [h, hn, hd]
theorem unesc_bad {c d : UInt8} {s : List UInt8} (h : c.toNat = 92) (hn : ¬ isN d) (hd : ¬ isMark d) : unesc (c :: d :: s) = none := by rw [unesc]; simp [h, hn, hd]

theorem unesc_esc (s : List UInt8) : unesc (esc s) = some s := by
  induction s with
  | nil => rfl
  | cons c s ih =>
    simp only [esc, List.flatMap_cons] at ih ⊢
    have h92 : (92 : UInt8).toNat = 92 := rfl
    generalize hE : escB c = E
    unfold escB at hE
    split at hE
    · rename_i h
      subst hE
      have hn : ¬ isN c := by unfold isN; omega
      have hm : isMark c := by unfold isMark; omega
      simp only [List.cons_append, List.nil_append]
      rw [unesc_mark h92 hn hm, ih]; rfl
    · split at hE
      · rename_i h1 h
        subst hE
        simp only [List.cons_append, List.nil_append]
        rw [unesc_n h92 (.inl rfl), ih]
        have : c = 10 := UInt8.toNat_inj.1 (by rw [h]; rfl)
        subst this; rfl
      · rename_i h1 h2
        subst hE
        simp only [List.cons_append, List.nil_append]
        rw [unesc_plain (by omega), ih]; rfl
theorem esc_no10 (s : List UInt8) : ∀ b ∈ esc s, b.toNat ≠ 10 := by
  intro b hb
  obtain ⟨c, hc, hb⟩ := List.mem_flatMap.1 hb
  unfold escB at hb
  split at hb
  · rename_i h; rcases List.mem_cons.1 hb with rfl | hb
    · decide
    · have : b = c := by simpa using hb
      subst this; omega
  · split at hb
    · rcases List.mem_cons.1 hb with rfl | hb
      · decide
      · have : b = 110 := by simpa using hb
        subst this; decide
    · have : b = c := by simpa using hb
      subst this; assumption

def IdxByteC (c : CallT) : Prop := ∀ {M : RM} {s : List UInt8} {x : UInt8} {Q : PostV}, Q (N .i64 (Lib.indexByte s x)) M → c [St s, By x] M Q
theorem idxByte_nonneg (l : List UInt8) (x : UInt8) : (Lib.indexByte l x ≥ 0) ↔ x ∈ l := by
  induction l with
  | nil => simp [Lib.indexByte]
  | cons y ys ih =>
    simp only [Lib.indexByte]
    have := Lib.indexByte_ge ys x
    by_cases h : y = x
    · subst h; simp
    · have hb : (y == x) = false := by simpa using h
      have h' : ¬ x = y := fun e => h e.symm
      simp only [hb, List.mem_cons, h', false_or]
      rw [← ih]
      simp
      split <;> omega
theorem mark_mem (d : UInt8) : d ∈ ([92, 44, 59, 58] : List UInt8) ↔ isMark d := by
  unfold isMark
  simp only [List.mem_cons, List.not_mem_nil, or_false, ← UInt8.toNat_inj]
  exact Iff.rfl

/-- What is answered. -/
def unescA (bad good : AV) (s : List UInt8) : AV := match unesc s with
  | some x => .tup [St x, good]
  | none => .tup [St [], bad]
def UnescC (bad good : AV) (c : CallT) : Prop := ∀ {M : RM} {s : List UInt8} {Q : PostV}, s.length ≤ 1000000 → (∀ M', Keep [] M M' → Q (unescA bad good s) M') → c [St s] M Q

theorem unesc_len : ∀ (n : Nat) (s x : List UInt8), s.length ≤ n → unesc s = some x → x.length ≤ s.length
  | _, [], x, _, h => by simp [unesc] at h; subst h; simp
  | n + 1, c :: s, x, hl, h => by
    simp at hl
    by_cases h1 : c.toNat = 92
    · cases s with
      | nil => rw [unesc_end h1] at h; cases h
      | cons d s =>
        simp at hl
        by_cases h2 : isN d
        · rw [unesc_n h1 h2] at h
          obtain ⟨y, hy, rfl⟩ := Option.map_eq_some_iff.1 h
          have := unesc_len n s y (by omega) hy
          simp; omega
        · by_cases h3 : isMark d
          · rw [unesc_mark h1 h2 h3] at h
            obtain ⟨y, hy, rfl⟩ := Option.map_eq_some_iff.1 h
            have := unesc_len n s y (by omega) hy
            simp; omega
          · rw [unesc_bad h1 h2 h3] at h; cases h
    · rw [unesc_plain h1] at h
      obtain ⟨y, hy, rfl⟩ := Option.map_eq_some_iff.1 h
      have := unesc_len n s y (by omega) hy
      simp; omega

theorem unescape_spec {TB T8 : Nat} {cw ci ct : CallT} (hw : WriteByteC TB T8 cw) (hi : IdxByteC ci) (ht : StringC TB T8 ct) :
    UnescC (N .i64 14) (N .i64 0) fun args M Q => ∃ a0, args = [a0] ∧ W_rolodex_vline_Unescape TB cw ci ct a0 M Q := by
  intro M s Q hl hQ
  refine ⟨_, rfl, ?_⟩
  unfold W_rolodex_vline_Unescape
  simp only [fuseM, newW_eq]
  generalize hM1 : M.push (.row [.sc (.pointer none), .sc (.slice none 0 0)] false TB 0) = M1
  have hn1 : M1.next = M.next + 1 := by rw [← hM1]; rfl
  have hk1 : Keep [] M M1 := by rw [← hM1]; exact (Keep.refl _ _).push _
  have hb0 : Bld TB T8 M1.next M1 M.next [] := Bld.new (by rw [← hM1]; simp [go_sem]) (by omega) (Nat.le_refl _)
  have fin : ∀ {M' : RM}, KeepTo M1.next [M.next] M1 M' → Keep [] M M' := fun h => hk1.then_to h (by omega) fun c hc => .inl (by simp at hc; omega)
  refine loopW_ind (fun m ys M3 => ∃ (i : Nat) (out : List UInt8), m = s.length - i ∧ ys = [N .i64 i] ∧ i ≤ s.length ∧ Bld TB T8 M1.next M3 M.next out ∧ KeepTo M1.next [M.next] M1 M3 ∧ out.length ≤ i ∧
    unesc s = (unesc (s.drop i)).map (out ++ ·)) _
    ⟨0, [], rfl, rfl, Nat.zero_le _, hb0, KeepTo.refl _ _ _, by simp, by simp⟩ ?_
  rintro next m ys M3 hnext ⟨i, out, rfl, rfl, hile, hB, hK, hol, hu⟩
  simp only [go_sem]
  refine ⟨fun hlt => ?_, fun hge => ?_⟩
  · have hlt : i < s.length := by simpa using hlt
    have hg : s[i]? = some s[i] := List.getElem?_eq_getElem hlt
    have hd := List.drop_eq_getElem_cons hlt
    generalize s[i] = c at *
    simp only [hg, go_sem, i64_succ (show i < 9223372036854775807 by omega)]
    by_cases h1 : c.toNat = 92
    · have e1 : ((c.toNat : Int) != 92) = false := by rw [h1]; rfl
      simp only [e1, go_sem]
      by_cases hlt2 : i + 1 < s.length
      · have e2 : decide (((i + 1 : Nat) : Int) < (s.length : Int)) = true := by simp; omega
        have hg2 : s[i + 1]? = some s[i + 1] := List.getElem?_eq_getElem hlt2
        have hd2 := List.drop_eq_getElem_cons hlt2
        generalize s[i + 1] = d at *
        have go : ∀ (x : UInt8), unesc (c :: d :: s.drop (i + 2)) = (unesc (s.drop (i + 2))).map (x :: ·) → ∀ M4, Bld TB T8 M1.next M4 M.next (out ++ [x]) → KeepTo M1.next [M.next] M3 M4 → next [N .i64 ((i + 1 + 1 : Nat) : Int)] M4 := fun x hx M4 h4 k4 => by
          refine hnext _ _ _ (by omega) ⟨i + 2, out ++ [x], rfl, rfl, by omega, h4, hK.trans k4, by simp; omega, ?_⟩
          rw [hu, hd, hd2, hx, Option.map_map]
          congr 1
          funext y; simp
        simp only [e2, hg2, go_sem, i64_succ (show i + 1 < 9223372036854775807 by omega)]
        have bad : unesc (c :: d :: s.drop (i + 2)) = none → unescA (N .i64 14) (N .i64 0) s = .tup [St [], N .i64 14] := fun h => by
          simp [unescA, hu, hd, hd2, h]
        by_cases h2 : d.toNat = 110
        · have e3 : ((d.toNat : Int) == 110) = true := by rw [h2]; rfl
          simp only [e3, go_sem]
          exact hw (x := 10) hB (by omega) fun M4 h4 k4 => go 10 (unesc_n h1 (.inl h2)) M4 h4 k4
        have e3 : ((d.toNat : Int) == 110) = false := by simp; omega
        by_cases h3 : d.toNat = 78
        · have e4 : ((d.toNat : Int) == 78) = true := by rw [h3]; rfl
          simp only [e3, e4, go_sem]
          exact hw (x := 10) hB (by omega) fun M4 h4 k4 => go 10 (unesc_n h1 (.inr h3)) M4 h4 k4
        have e4 : ((d.toNat : Int) == 78) = false := by simp; omega
        have hn : ¬ isN d := by unfold isN; omega
        simp only [e3, e4, go_sem]
        refine hi (s := [92, 44, 59, 58]) (x := d) ?_
        simp only [go_sem]
        refine ⟨fun h => ?_, fun h => ?_⟩
        · have hm : isMark d := (mark_mem d).1 ((idxByte_nonneg _ _).1 (of_decide_eq_true h))
          exact hw (x := d) hB (by omega) fun M4 h4 k4 => go d (unesc_mark h1 hn hm) M4 h4 k4
        · have hm : ¬ isMark d := fun hm => (of_decide_eq_false h) ((idxByte_nonneg _ _).2 ((mark_mem d).2 hm))
          rw [← bad (unesc_bad h1 hn hm)]
          exact hQ _ (fin hK)
      · have e2 : decide (((i + 1 : Nat) : Int) < (s.length : Int)) = false := by simp; omega
        simp only [e2, go_sem]
        have : s.drop (i + 1) = [] := List.drop_of_length_le (by omega)
        have hb : unescA (N .i64 14) (N .i64 0) s = .tup [St [], N .i64 14] := by simp [unescA, hu, hd, this, unesc_end h1]
        rw [← hb]
        exact hQ _ (fin hK)
    · have e1 : ((c.toNat : Int) != 92) = true := by simp; omega
      simp only [e1, go_sem]
      refine hw (x := c) hB (by omega) fun M4 h4 k4 => ?_
      refine hnext _ _ _ (by omega) ⟨i + 1, out ++ [c], rfl, rfl, by omega, h4, hK.trans k4, by simp; omega, ?_⟩
      rw [hu, hd, unesc_plain h1, Option.map_map]
      congr 1
      funext y; simp
  · have : i = s.length := by simp at hge; omega
    subst this
    refine ht hB (by omega) fun M4 k4 => ?_
    have := hQ M4 (fin (hK.trans ⟨k4.base, k4.next, fun c h1 h2 => k4.heap c h1 (by simp)⟩))
    simpa [unescA, hu, unesc] using this

/-- A byte is appended to one's own. -/
theorem app_b {n0 T8 : Nat} {M : RM} {v : AV} {xs : List UInt8} {x : UInt8} {K : AV → RM → Prop} (ho : Ow BY M n0 T8 v xs) (hn : n0 ≤ M.next) (hl : xs.length + 1 ≤ 140737488355328)
    (hK : ∀ v' M', Ow BY M' n0 T8 v' (xs ++ [x]) → Keep (blkOf v) M M' → K v' M') :
    rowsW T8 1 [N .u8 0] [(0, 1, By x)] fun r f => appW T8 1 1 [N .u8 0] false v (f M.next) (M.push r) K := by
  rw [rows1 (x := By x) (size := 1) rfl rfl rfl]
  exact app_one (E := BY) (a := x) ho hn (Nat.le_refl _) (by omega) hl fun v' M' h1 h2 _ _ => hK v' M' h1 h2

theorem refUnescape_spec {T8 : Nat} : UnescC (Bo false) (Bo true) fun args M Q => ∃ a0, args = [a0] ∧ W_rolodex_rolodexref23_Unescape T8 a0 M Q := by
  intro M s Q hl hQ
  refine ⟨_, rfl, ?_⟩
  unfold W_rolodex_rolodexref23_Unescape
  refine make0 ?_
  simp only [newW_eq]
  refine loopW_ind (fun m ys M3 => ∃ (i : Nat) (v : AV) (out : List UInt8), m = s.length - i ∧ ys = [v, N .i64 i] ∧ i ≤ s.length ∧ Ow BY M3 M.next T8 v out ∧ Keep [] M M3 ∧ out.length ≤ i ∧
    unesc s = (unesc (s.drop i)).map (out ++ ·)) _
    ⟨0, _, [], rfl, rfl, Nat.zero_le _, Ow.lit BY M, (Keep.refl _ _).push _, by simp, by simp⟩ ?_
  rintro next m ys M3 hnext ⟨i, v, out, rfl, rfl, hile, ho, hK, hol, hu⟩
  have kk : ∀ {M' : RM}, Keep (blkOf v) M3 M' → Keep [] M M' := fun h => hK.then_new h fun c hc => .inl (ho.blk c hc).1
  simp only [go_sem]
  refine ⟨fun hlt => ?_, fun hge => ?_⟩
  · have hlt : i < s.length := by simpa using hlt
    have hg : s[i]? = some s[i] := List.getElem?_eq_getElem hlt
    have hd := List.drop_eq_getElem_cons hlt
    generalize s[i] = c at *
    simp only [hg, go_sem, i64_succ (show i < 9223372036854775807 by omega)]
    by_cases h1 : c.toNat = 92
    · have e1 : ((c.toNat : Int) != 92) = false := by rw [h1]; rfl
      simp only [e1, go_sem]
      by_cases hlt2 : i + 1 < s.length
      · have e2 : (((i + 1 : Nat) : Int) == (s.length : Int)) = false := by simp; omega
        have hg2 : s[i + 1]? = some s[i + 1] := List.getElem?_eq_getElem hlt2
        have hd2 := List.drop_eq_getElem_cons hlt2
        generalize s[i + 1] = d at *
        have go : ∀ (x : UInt8), unesc (c :: d :: s.drop (i + 2)) = (unesc (s.drop (i + 2))).map (x :: ·) → ∀ v' M4, Ow BY M4 M.next T8 v' (out ++ [x]) → Keep (blkOf v) M3 M4 → next [v', N .i64 ((i + 1 + 1 : Nat) : Int)] M4 := fun x hx v' M4 h4 k4 => by
          refine hnext _ _ _ (by omega) ⟨i + 2, v', out ++ [x], rfl, rfl, by omega, h4, kk k4, by simp; omega, ?_⟩
          rw [hu, hd, hd2, hx, Option.map_map]
          congr 1
          funext y; simp
        simp only [e2, hg2, go_sem, i64_succ (show i + 1 < 9223372036854775807 by omega)]
        have bad : unesc (c :: d :: s.drop (i + 2)) = none → unescA (Bo false) (Bo true) s = .tup [St [], Bo false] := fun h => by
          simp [unescA, hu, hd, hd2, h]
        have mk : isMark d → ¬ isN d := fun h => by unfold isMark at h; unfold isN; omega
        by_cases m1 : d.toNat = 92
        · have e3 : ((d.toNat : Int) == 92) = true := by rw [m1]; rfl
          simp only [e3, go_sem]
          exact app_b ho hK.next (by omega) fun v' M' h1' h2' => go d (unesc_mark h1 (mk (.inl m1)) (.inl m1)) v' M' h1' h2'
        have e3 : ((d.toNat : Int) == 92) = false := by simp; omega
        by_cases m2 : d.toNat = 44
        · have e4 : ((d.toNat : Int) == 44) = true := by rw [m2]; rfl
          simp only [e3, e4, go_sem]
          exact app_b ho hK.next (by omega) fun v' M' h1' h2' => go d (unesc_mark h1 (mk (.inr (.inl m2))) (.inr (.inl m2))) v' M' h1' h2'
        have e4 : ((d.toNat : Int) == 44) = false := by simp; omega
        by_cases m3 : d.toNat = 59
        · have e5 : ((d.toNat : Int) == 59) = true := by rw [m3]; rfl
          simp only [e3, e4, e5, go_sem]
          exact app_b ho hK.next (by omega) fun v' M' h1' h2' => go d (unesc_mark h1 (mk (.inr (.inr (.inl m3)))) (.inr (.inr (.inl m3)))) v' M' h1' h2'
        have e5 : ((d.toNat : Int) == 59) = false := by simp; omega
        by_cases m4 : d.toNat = 58
        · have e6 : ((d.toNat : Int) == 58) = true := by rw [m4]; rfl
          simp only [e3, e4, e5, e6, go_sem]
          exact app_b ho hK.next (by omega) fun v' M' h1' h2' => go d (unesc_mark h1 (mk (.inr (.inr (.inr m4)))) (.inr (.inr (.inr m4)))) v' M' h1' h2'
        have e6 : ((d.toNat : Int) == 58) = false := by simp; omega
        have hm : ¬ isMark d := by unfold isMark; omega
        by_cases n1 : d.toNat = 110
        · have e7 : ((d.toNat : Int) == 110) = true := by rw [n1]; rfl
          simp only [e3, e4, e5, e6, e7, go_sem]
          exact app_b (x := 10) ho hK.next (by omega) fun v' M' h1' h2' => go 10 (unesc_n h1 (.inl n1)) v' M' h1' h2'
        have e7 : ((d.toNat : Int) == 110) = false := by simp; omega
        by_cases n2 : d.toNat = 78
        · have e8 : ((d.toNat : Int) == 78) = true := by rw [n2]; rfl
          simp only [e3, e4, e5, e6, e7, e8, go_sem]
          exact app_b (x := 10) ho hK.next (by omega) fun v' M' h1' h2' => go 10 (unesc_n h1 (.inr n2)) v' M' h1' h2'
        have e8 : ((d.toNat : Int) == 78) = false := by simp; omega
        have hn : ¬ isN d := by unfold isN; omega
        simp only [e3, e4, e5, e6, e7, e8, go_sem]
        rw [← bad (unesc_bad h1 hn hm)]
        exact hQ _ hK
      · have e2 : (((i + 1 : Nat) : Int) == (s.length : Int)) = true := by simp; omega
        simp only [e2, go_sem]
        have : s.drop (i + 1) = [] := List.drop_of_length_le (by omega)
        have hb : unescA (Bo false) (Bo true) s = .tup [St [], Bo false] := by simp [unescA, hu, hd, this, unesc_end h1]
        rw [← hb]
        exact hQ _ hK
    · have e1 : ((c.toNat : Int) != 92) = true := by simp; omega
      simp only [e1, go_sem]
      refine app_b ho hK.next (by omega) fun v' M4 h4 k4 => ?_
      refine hnext _ _ _ (by omega) ⟨i + 1, v', out ++ [c], rfl, rfl, by omega, h4, kk k4, by simp; omega, ?_⟩
      rw [hu, hd, unesc_plain h1, Option.map_map]
      congr 1
      funext y; simp
  · have : i = s.length := by simp at hge; omega
    subst this
    rw [Sl.str ho.slR]
    have := hQ M3 hK
    simpa [unescA, hu, unesc] using this

/-! ### parts -/
def splitG (x : UInt8) : List UInt8 → List UInt8 → Bool → List (List UInt8)
  | [], cur, _ => [cur]
  | c :: s, cur, odd => if c = x ∧ odd = false then cur :: splitG x s [] (decide (c.toNat = 92) && !odd) else splitG x s (cur ++ [c]) (decide (c.toNat = 92) && !odd)
def parts (x : UInt8) (s : List UInt8) : List (List UInt8) := splitG x s [] false
def SplitC (T : Nat) (c : CallT) : Prop := ∀ {M : RM} {s : List UInt8} {x : UInt8} {Q : PostV}, s.length ≤ 1000000 → (∀ v M', Ow STR M' M.next T v (parts x s) → Keep [] M M' → Q v M') → c [St s, By x] M Q
theorem splitG_len (x : UInt8) : ∀ (s cur : List UInt8) (odd : Bool), (splitG x s cur odd).length ≤ s.length + 1
  | [], cur, odd => by simp [splitG]
  | c :: s, cur, odd => by
    simp only [splitG]
    split
    · have := splitG_len x s [] (decide (c.toNat = 92) && !odd); simp; omega
    · have := splitG_len x s (cur ++ [c]) (decide (c.toNat = 92) && !odd); simp; omega
theorem subStr_some {s : List UInt8} {l h : Nat} (h1 : l ≤ h) (h2 : h ≤ s.length) (k1 k2 : IntKind) : subStr (St s) (some (N k1 (l : Int))) (some (N k2 (h : Int))) = some (St ((s.drop l).take (h - l))) := by
  simp only [subStr, bnd]
  simp [h1, h2]
theorem subStr_from {s : List UInt8} {l : Nat} (h1 : l ≤ s.length) (k1 : IntKind) : subStr (St s) (some (N k1 (l : Int))) none = some (St (s.drop l)) := by
  simp only [subStr, bnd]
  simp [h1]
  rw [List.take_of_length_le (by simp)]

theorem split_spec {T : Nat} : SplitC T fun args M Q => ∃ a0 a1, args = [a0, a1] ∧ W_rolodex_vline_Split T a0 a1 M Q := by
  intro M s x Q hl hQ
  refine ⟨_, _, rfl, ?_⟩
  unfold W_rolodex_vline_Split
  simp only [fuseM, lenStr_St]
  refine loopW_ind (fun m ys M3 => ∃ (i bg : Nat) (v : AV) (out : List (List UInt8)) (odd : Bool), m = s.length - i ∧ ys = [v, N .i64 bg, Bo odd, N .i64 i] ∧ i ≤ s.length ∧ bg ≤ i ∧ Ow STR M3 M.next T v out ∧ Keep [] M M3 ∧ out.length ≤ i ∧
    splitG x s [] false = out ++ splitG x (s.drop i) ((s.drop bg).take (i - bg)) odd) _
    ⟨0, 0, _, [], false, rfl, rfl, Nat.zero_le _, Nat.le_refl _, .nil, Keep.refl _ _, by simp, by simp⟩ ?_
  rintro next m ys M3 hnext ⟨i, bg, v, out, odd, rfl, rfl, hile, hbi, ho, hK, hol, hu⟩
  have kk : ∀ {M' : RM}, Keep (blkOf v) M3 M' → Keep [] M M' := fun h => hK.then_new h fun c hc => .inl (ho.blk c hc).1
  simp only [go_sem]
  refine ⟨fun hlt => ?_, fun hge => ?_⟩
  · have hlt : i < s.length := by simpa using hlt
    have hg : s[i]? = some s[i] := List.getElem?_eq_getElem hlt
    have hd := List.drop_eq_getElem_cons hlt
    have htk : (s.drop bg).take (i + 1 - bg) = (s.drop bg).take (i - bg) ++ [s[i]] := by
      rw [show i + 1 - bg = (i - bg) + 1 by omega, List.take_succ_eq_append_getElem (by simp; omega)]
      congr 2
      rw [List.getElem_drop]
      congr 1; omega
    generalize s[i] = c at *
    have step : ∀ (nodd : Bool) (v' : AV) (bg' : Nat) (out' : List (List UInt8)) (M4 : RM), bg' ≤ i + 1 → Ow STR M4 M.next T v' out' → Keep [] M M4 → out'.length ≤ i + 1 →
        splitG x s [] false = out' ++ splitG x (s.drop (i + 1)) ((s.drop bg').take (i + 1 - bg')) nodd → next [v', N .i64 (bg' : Int), Bo nodd, N .i64 ((i + 1 : Nat) : Int)] M4 := fun nodd v' bg' out' M4 h1 h2 h3 h4 h5 =>
      hnext _ _ _ (by omega) ⟨i + 1, bg', v', out', nodd, rfl, rfl, by omega, h1, h2, h3, h4, h5⟩
    have cut : ∀ (K : AV → RM → Prop), (∀ v' M4, Ow STR M4 M.next T v' (out ++ [(s.drop bg).take (i - bg)]) → Keep [] M M4 → K v' M4) →
        rowsW T 1 [St []] [(0, 1, St ((s.drop bg).take (i - bg)))] fun r f => appW T 1 16 [St []] false v (f M3.next) (M3.push r) K := fun K hK' => by
      rw [rows1 (x := St ((s.drop bg).take (i - bg))) (size := 1) rfl rfl rfl]
      exact app_one (E := STR) (a := (s.drop bg).take (i - bg)) ho hK.next (Nat.le_refl _) (by omega) (by omega) fun v' M4 h1 h2 _ _ => hK' v' M4 h1 (kk h2)
    rw [hd] at hu
    simp only [splitG] at hu
    obtain ⟨b92, h92, hd92⟩ : ∃ b, ((c.toNat : Int) == 92) = b ∧ decide (c.toNat = 92) = b := by
      by_cases h : c.toNat = 92
      · exact ⟨true, by simp [h], by simp [h]⟩
      · exact ⟨false, by simp; omega, by simp [h]⟩
    rw [hd92] at hu
    simp only [hg, h92, go_sem, i64_succ (show i < 9223372036854775807 by omega), subStr_some hbi (Nat.le_of_lt hlt)]
    have same : (if c = x ∧ odd = false then ((s.drop bg).take (i - bg)) :: splitG x (s.drop (i + 1)) [] (b92 && !odd) else splitG x (s.drop (i + 1)) ((s.drop bg).take (i - bg) ++ [c]) (b92 && !odd)) = splitG x (s.drop (i + 1)) ((s.drop bg).take (i + 1 - bg)) (b92 && !odd) →
        splitG x s [] false = out ++ splitG x (s.drop (i + 1)) ((s.drop bg).take (i + 1 - bg)) (b92 && !odd) := fun h => by rw [hu, h]
    by_cases hx : c = x
    · have ex : ((c.toNat : Int) == (x.toNat : Int)) = true := by subst hx; simp
      cases odd with
      | false =>
        simp only [hx, and_self, if_true] at hu
        have hz : (s.drop (i + 1)).take (i + 1 - (i + 1)) = [] := by simp
        have key : ∀ v' M4, Ow STR M4 M.next T v' (out ++ [(s.drop bg).take (i - bg)]) → Keep [] M M4 → next [v', N .i64 ((i + 1 : Nat) : Int), Bo (b92 && !false), N .i64 ((i + 1 : Nat) : Int)] M4 := fun v' M4 h1 h2 =>
          step _ v' (i + 1) _ M4 (Nat.le_refl _) h1 h2 (by simp; omega) (by rw [hu, hz]; simp)
        simp only [ex, go_sem]
        refine cut _ fun v' M4 h1 h2 => ?_
        have := key v' M4 h1 h2
        cases b92 <;> simpa using this
      | true =>
        have key := step _ v bg out M3 (by omega) ho hK (by omega) (same (by simp [htk]))
        simp only [ex, go_sem]
        cases b92 <;> simpa using key
    · have ex : ((c.toNat : Int) == (x.toNat : Int)) = false := by
        have : c.toNat ≠ x.toNat := fun e => hx (UInt8.toNat_inj.1 e)
        simp; omega
      have key := step _ v bg out M3 (by omega) ho hK (by omega) (same (by simp [htk, hx]))
      simp only [ex, go_sem]
      cases b92 <;> simpa using key
  · have : i = s.length := by simp at hge; omega
    subst this
    simp only [subStr_from hbi, go_sem]
    rw [rows1 (x := St (s.drop bg)) (size := 1) rfl rfl rfl]
    refine app_one (E := STR) (a := s.drop bg) ho hK.next (Nat.le_refl _) (by omega) (by omega) fun v' M4 h1 h2 _ _ => hQ v' M4 ?_ (kk h2)
    have : parts x s = out ++ [s.drop bg] := by
      unfold parts
      rw [hu, List.drop_length]
      simp only [splitG]
      rw [List.take_of_length_le (by simp)]
    rw [this]; exact h1

theorem refSplit_spec {T : Nat} : SplitC T fun args M Q => ∃ a0 a1, args = [a0, a1] ∧ W_rolodex_rolodexref23_Split T a0 a1 M Q := by
  intro M s x Q hl hQ
  refine ⟨_, _, rfl, ?_⟩
  unfold W_rolodex_rolodexref23_Split
  refine ⟨_, _, 0, 0, rfl, rfl, by omega, by omega, by decide, by decide, ?_⟩
  simp only [fuseM, newW_eq, repL]
  refine loopW_ind (fun m ys M3 => ∃ (i bg : Nat) (v : AV) (out : List (List UInt8)) (odd : Bool), m = s.length - i ∧ ys = [v, N .i64 bg, Bo odd, N .i64 i] ∧ i ≤ s.length ∧ bg ≤ i ∧ Ow STR M3 M.next T v out ∧ Keep [] M M3 ∧ out.length ≤ i ∧
    splitG x s [] false = out ++ splitG x (s.drop i) ((s.drop bg).take (i - bg)) odd) _
    ⟨0, 0, _, [], false, rfl, rfl, Nat.zero_le _, Nat.le_refl _, Ow.lit STR M, (Keep.refl _ _).push _, by simp, by simp⟩ ?_
  rintro next m ys M3 hnext ⟨i, bg, v, out, odd, rfl, rfl, hile, hbi, ho, hK, hol, hu⟩
  have kk : ∀ {M' : RM}, Keep (blkOf v) M3 M' → Keep [] M M' := fun h => hK.then_new h fun c hc => .inl (ho.blk c hc).1
  simp only [go_sem]
  refine ⟨fun hlt => ?_, fun hge => ?_⟩
  · have hlt : i < s.length := by simpa using hlt
    have hg : s[i]? = some s[i] := List.getElem?_eq_getElem hlt
    have hd := List.drop_eq_getElem_cons hlt
    have htk : (s.drop bg).take (i + 1 - bg) = (s.drop bg).take (i - bg) ++ [s[i]] := by
      rw [show i + 1 - bg = (i - bg) + 1 by omega, List.take_succ_eq_append_getElem (by simp; omega)]
      congr 2
      rw [List.getElem_drop]
      congr 1; omega
    generalize s[i] = c at *
    have step : ∀ (nodd : Bool) (v' : AV) (bg' : Nat) (out' : List (List UInt8)) (M4 : RM), bg' ≤ i + 1 → Ow STR M4 M.next T v' out' → Keep [] M M4 → out'.length ≤ i + 1 →
        splitG x s [] false = out' ++ splitG x (s.drop (i + 1)) ((s.drop bg').take (i + 1 - bg')) nodd → next [v', N .i64 (bg' : Int), Bo nodd, N .i64 ((i + 1 : Nat) : Int)] M4 := fun nodd v' bg' out' M4 h1 h2 h3 h4 h5 =>
      hnext _ _ _ (by omega) ⟨i + 1, bg', v', out', nodd, rfl, rfl, by omega, h1, h2, h3, h4, h5⟩
    have cut : ∀ (K : AV → RM → Prop), (∀ v' M4, Ow STR M4 M.next T v' (out ++ [(s.drop bg).take (i - bg)]) → Keep [] M M4 → K v' M4) →
        rowsW T 1 [St []] [(0, 1, St ((s.drop bg).take (i - bg)))] fun r f => appW T 1 16 [St []] false v (f M3.next) (M3.push r) K := fun K hK' => by
      rw [rows1 (x := St ((s.drop bg).take (i - bg))) (size := 1) rfl rfl rfl]
      exact app_one (E := STR) (a := (s.drop bg).take (i - bg)) ho hK.next (Nat.le_refl _) (by omega) (by omega) fun v' M4 h1 h2 _ _ => hK' v' M4 h1 (kk h2)
    rw [hd] at hu
    simp only [splitG] at hu
    obtain ⟨b92, h92, hd92⟩ : ∃ b, ((c.toNat : Int) == 92) = b ∧ decide (c.toNat = 92) = b := by
      by_cases h : c.toNat = 92
      · exact ⟨true, by simp [h], by simp [h]⟩
      · exact ⟨false, by simp; omega, by simp [h]⟩
    rw [hd92] at hu
    simp only [hg, h92, go_sem, i64_succ (show i < 9223372036854775807 by omega), subStr_some hbi (Nat.le_of_lt hlt)]
    have same : (if c = x ∧ odd = false then ((s.drop bg).take (i - bg)) :: splitG x (s.drop (i + 1)) [] (b92 && !odd) else splitG x (s.drop (i + 1)) ((s.drop bg).take (i - bg) ++ [c]) (b92 && !odd)) = splitG x (s.drop (i + 1)) ((s.drop bg).take (i + 1 - bg)) (b92 && !odd) →
        splitG x s [] false = out ++ splitG x (s.drop (i + 1)) ((s.drop bg).take (i + 1 - bg)) (b92 && !odd) := fun h => by rw [hu, h]
    by_cases hx : c = x
    · have ex : ((c.toNat : Int) == (x.toNat : Int)) = true := by subst hx; simp
      cases odd with
      | false =>
        simp only [hx, and_self, if_true] at hu
        have hz : (s.drop (i + 1)).take (i + 1 - (i + 1)) = [] := by simp
        have key : ∀ v' M4, Ow STR M4 M.next T v' (out ++ [(s.drop bg).take (i - bg)]) → Keep [] M M4 → next [v', N .i64 ((i + 1 : Nat) : Int), Bo (b92 && !false), N .i64 ((i + 1 : Nat) : Int)] M4 := fun v' M4 h1 h2 =>
          step _ v' (i + 1) _ M4 (Nat.le_refl _) h1 h2 (by simp; omega) (by rw [hu, hz]; simp)
        simp only [ex, go_sem]
        refine cut _ fun v' M4 h1 h2 => ?_
        have := key v' M4 h1 h2
        cases b92 <;> simpa using this
      | true =>
        have key := step _ v bg out M3 (by omega) ho hK (by omega) (same (by simp [htk]))
        simp only [ex, go_sem]
        cases b92 <;> simpa using key
    · have ex : ((c.toNat : Int) == (x.toNat : Int)) = false := by
        have : c.toNat ≠ x.toNat := fun e => hx (UInt8.toNat_inj.1 e)
        simp; omega
      have key := step _ v bg out M3 (by omega) ho hK (by omega) (same (by simp [htk, hx]))
      simp only [ex, go_sem]
      cases b92 <;> simpa using key
  · have : i = s.length := by simp at hge; omega
    subst this
    simp only [subStr_from hbi, go_sem]
    rw [rows1 (x := St (s.drop bg)) (size := 1) rfl rfl rfl]
    refine app_one (E := STR) (a := s.drop bg) ho hK.next (Nat.le_refl _) (by omega) (by omega) fun v' M4 h1 h2 _ _ => hQ v' M4 ?_ (kk h2)
    have : parts x s = out ++ [s.drop bg] := by
      unfold parts
      rw [hu, List.drop_length]
      simp only [splitG]
      rw [List.take_of_length_le (by simp)]
    rw [this]; exact h1

end Go.Ab.Vl
/- Runes. By an AI agent. -/
set_option maxRecDepth 100000
set_option linter.unusedVariables false
set_option linter.unusedSimpArgs false
namespace Go.Ab.Vl
open Go Go.Ab

/-- How many bytes the rune has, as far as it is well formed. -/
def rkN (n b0 b1 b2 b3 : Nat) : Nat := if Lib.decodeN n b0 b1 b2 b3 = (65533, 1) then 0 else (Lib.decodeN n b0 b1 b2 b3).2

section
variable {n b0 b1 b2 b3 : Nat}
theorem rkN_ascii (h : b0 < 128) : rkN n b0 b1 b2 b3 = 1 := by
  have : Lib.decodeN n b0 b1 b2 b3 = (b0, 1) := by simp [Lib.decodeN, h]
  rw [rkN, this, if_neg (by intro e; cases e; omega)]
theorem rkN_of_err (h : Lib.decodeN n b0 b1 b2 b3 = (65533, 1)) : rkN n b0 b1 b2 b3 = 0 := by rw [rkN, if_pos h]
theorem rkN_lead (h : 128 ≤ b0 ∧ b0 < 194 ∨ 245 ≤ b0) : rkN n b0 b1 b2 b3 = 0 := by
  refine rkN_of_err ?_
  unfold Lib.decodeN
  repeat' split
  all_goals first | rfl | (exfalso; omega)
theorem rkN2_bad (h : 194 ≤ b0 ∧ b0 < 224) (hb : n < 2 ∨ b1 < 128 ∨ 191 < b1) : rkN n b0 b1 b2 b3 = 0 := by
  refine rkN_of_err ?_
  unfold Lib.decodeN
  repeat' split
  all_goals first | rfl | (exfalso; omega)
theorem rkN2 (h : 194 ≤ b0 ∧ b0 < 224) (hn : 2 ≤ n) (h1 : 128 ≤ b1 ∧ b1 ≤ 191) : rkN n b0 b1 b2 b3 = 2 := by
  have : Lib.decodeN n b0 b1 b2 b3 = (b0 % 32 * 64 + b1 % 64, 2) := by
    unfold Lib.decodeN
    repeat' split
    all_goals first | rfl | (exfalso; omega)
  rw [rkN, this, if_neg (fun e => absurd (congrArg Prod.snd e) (by simp))]
theorem rkN3_bad (h : 224 ≤ b0 ∧ b0 < 240) (hb : n < 3 ∨ b1 < 128 ∨ 191 < b1 ∨ b2 < 128 ∨ 191 < b2) : rkN n b0 b1 b2 b3 = 0 := by
  refine rkN_of_err ?_
  unfold Lib.decodeN
  repeat' split
  all_goals first | rfl | (exfalso; omega)
theorem rkN3 (h : 224 ≤ b0 ∧ b0 < 240) (hn : 3 ≤ n) (h1 : 128 ≤ b1 ∧ b1 ≤ 191) (h2 : 128 ≤ b2 ∧ b2 ≤ 191) {v : Nat} (hv : v = 64 * (64 * (b0 - 224) + b1 - 128) + b2 - 128) :
    rkN n b0 b1 b2 b3 = if v < 2048 ∨ 55296 ≤ v ∧ v < 57344 then 0 else 3 := by
  have hv' : v = b0 % 16 * 4096 + b1 % 64 * 64 + b2 % 64 := by omega
  split
  · rename_i hc
    refine rkN_of_err ?_
    unfold Lib.decodeN
    repeat' split
    all_goals first | rfl | (exfalso; omega)
  · rename_i hc
    have : Lib.decodeN n b0 b1 b2 b3 = (b0 % 16 * 4096 + b1 % 64 * 64 + b2 % 64, 3) := by
      unfold Lib.decodeN
      repeat' split
      all_goals first | rfl | (exfalso; omega)
    rw [rkN, this, if_neg (fun e => absurd (congrArg Prod.snd e) (by simp))]
theorem rkN4_bad (h : 240 ≤ b0 ∧ b0 < 245) (hb : n < 4 ∨ b1 < 128 ∨ 191 < b1 ∨ b2 < 128 ∨ 191 < b2 ∨ b3 < 128 ∨ 191 < b3) : rkN n b0 b1 b2 b3 = 0 := by
  refine rkN_of_err ?_
  unfold Lib.decodeN
  repeat' split
  all_goals first | rfl | (exfalso; omega)
theorem rkN4 (h : 240 ≤ b0 ∧ b0 < 245) (hn : 4 ≤ n) (h1 : 128 ≤ b1 ∧ b1 ≤ 191) (h2 : 128 ≤ b2 ∧ b2 ≤ 191) (h3 : 128 ≤ b3 ∧ b3 ≤ 191) {v : Nat} (hv : v = 64 * (64 * (64 * (b0 - 240) + b1 - 128) + b2 - 128) + b3 - 128) :
    rkN n b0 b1 b2 b3 = if v < 65536 ∨ 1114111 < v then 0 else 4 := by
  have hv' : v = b0 % 8 * 262144 + b1 % 64 * 4096 + b2 % 64 * 64 + b3 % 64 := by omega
  split
  · rename_i hc
    refine rkN_of_err ?_
    unfold Lib.decodeN
    repeat' split
    all_goals first | rfl | (exfalso; omega)
  · rename_i hc
    have : Lib.decodeN n b0 b1 b2 b3 = (b0 % 8 * 262144 + b1 % 64 * 4096 + b2 % 64 * 64 + b3 % 64, 4) := by
      unfold Lib.decodeN
      repeat' split
      all_goals first | rfl | (exfalso; omega)
    rw [rkN, this, if_neg (fun e => absurd (congrArg Prod.snd e) (by simp))]
end

def bt (s : List UInt8) (i : Nat) : Nat := (s.getD i 0).toNat
theorem bt_lt (s : List UInt8) (i : Nat) : bt s i < 256 := u8_lt _
theorem bt_at {s : List UInt8} {i : Nat} (hi : i < s.length) : s[i].toNat = bt s i := by simp [bt, List.getD_eq_getElem?_getD, hi]
def dec (s : List UInt8) : Nat × Nat := Lib.decodeN s.length (bt s 0) (bt s 1) (bt s 2) (bt s 3)
def rk (s : List UInt8) : Nat := if s = [] then 0 else rkN s.length (bt s 0) (bt s 1) (bt s 2) (bt s 3)
/-- How many bytes are taken as one. -/
def rs (s : List UInt8) : Nat := if s = [] then 0 else (dec s).2

theorem dec_size_pos (s : List UInt8) : 1 ≤ (dec s).2 := Lib.decodeN_ge1 _ _ _ _ _
theorem rs_eq {s : List UInt8} (h : s ≠ []) : rs s = if rk s = 0 then 1 else rk s := by
  have := dec_size_pos s
  simp only [rs, rk, if_neg h, rkN]
  unfold dec at *
  split
  · rename_i h1
    rw [h1]; rfl
  · rename_i h1
    rw [if_neg (by omega)]
theorem decodeN_le (n b0 b1 b2 b3 : Nat) (hn : 1 ≤ n) : (Lib.decodeN n b0 b1 b2 b3).2 ≤ n ∧ (Lib.decodeN n b0 b1 b2 b3).2 ≤ 4 := by
  unfold Lib.decodeN
  repeat' split
  all_goals (simp; try omega)
theorem rs_pos {s : List UInt8} (h : s ≠ []) : 1 ≤ rs s := by simp only [rs, if_neg h]; exact dec_size_pos s
theorem rs_le {s : List UInt8} (h : s ≠ []) : rs s ≤ s.length ∧ rs s ≤ 4 := by
  simp only [rs, if_neg h]
  exact decodeN_le _ _ _ _ _ (List.length_pos_iff.2 h)

def RuneC (c : CallT) : Prop := ∀ {M : RM} {s : List UInt8} {Q : PostV}, s.length < 9223372036854775807 → Q (N .i64 (rk s)) M → c [St s] M Q
/-- What the reader has reckoned behind so many bytes. -/
def acc (v0 : Nat) (s : List UInt8) : Nat → Nat
  | 0 => v0
  | k + 1 => 64 * acc v0 s k + bt s (k + 1) - 128

/-- A join that is not opened. -/
def joinV (f : (List AV → RM → Prop) → Prop) (g : List AV → RM → Prop) : Prop := f g
theorem joinW_shut (f : (List AV → RM → Prop) → Prop) (g : List AV → RM → Prop) : joinW f g = joinV f g := rfl
theorem joinV_open {f : (List AV → RM → Prop) → Prop} {g : List AV → RM → Prop} (h : f g) : joinV f g := h
theorem joinV_spec {H : (List AV → RM → Prop) → Prop} {G : List AV → RM → Prop} (P : List AV → RM → Prop) (hT : ∀ xs M, P xs M → G xs M)
    (hH : ∀ J : List AV → RM → Prop, (∀ xs M, P xs M → J xs M) → H J) : joinV H G := hH G hT
theorem i64w {x : Int} (h : -9223372036854775808 ≤ x) (k : x < 9223372036854775808) : IntKind.wrap .i64 x = x := wrap_i64_id (by omega) (by omega)
theorem ii (x k : Nat) : ((x : Int) == (k : Int)) = decide (x = k) := by
  by_cases h : x = k <;> simp [h]; omega
theorem tail_ok {M : RM} (e3 e4 c1 c2 c3 c4 c5 : Bool) {P0 Pk : RM → Prop} (h0 : ((e3 && (c1 || (c2 && c3))) || (e4 && (c4 || c5))) = true → P0 M) (h1 : ((e3 && (c1 || (c2 && c3))) || (e4 && (c4 || c5))) = false → Pk M) :
    guardM (Bo e3) true (fun k' => k' (Bo c1) M) (fun k => k AV.undef M) fun t72 M_27 =>
    guardM t72 false (fun k' => k' (Bo c2) M_27) (fun k => k AV.undef M_27) fun t75 M_34 =>
    guardM t75 true (fun k' => k' (Bo c3) M_34) (fun k => k AV.undef M_34) fun t77_38 M_39 =>
    guardM t72 false (fun k_40 => pickW t75 t77_38 (Bo false) fun t78 => k_40 t78 M_39) (fun k => k AV.undef M_39) fun t78_41 M_42 =>
    guardM (Bo e3) true (fun k_43 => pickW t72 (Bo true) t78_41 fun t79 => k_43 t79 M_42) (fun k => k AV.undef M_42) fun t79_44 M_45 =>
    pickW (Bo e3) t79_44 (Bo false) fun t80 =>
    guardM t80 false (fun k' => k' (Bo e4) M_45) (fun k => k AV.undef M_45) fun t84 M_52 =>
    guardM t84 true (fun k' => k' (Bo c4) M_52) (fun k => k AV.undef M_52) fun t87 M_59 =>
    guardM t87 false (fun k' => k' (Bo c5) M_59) (fun k => k AV.undef M_59) fun t89_63 M_64 =>
    guardM t84 true (fun k_65 => pickW t87 (Bo true) t89_63 fun t90 => k_65 t90 M_64) (fun k => k AV.undef M_64) fun t90_66 M_67 =>
    guardM t80 false (fun k_68 => pickW t84 t90_66 (Bo false) fun t91 => k_68 t91 M_67) (fun k => k AV.undef M_67) fun t91_69 M_70 =>
    pickW t80 (Bo true) t91_69 fun t92 => condW t92 (P0 M_70) (Pk M_70) := by
  cases e3 <;> cases e4 <;> cases c1 <;> cases c2 <;> cases c3 <;> cases c4 <;> cases c5 <;> simp_all [go_sem]
set_option maxRecDepth 8192 in
theorem rune_spec : RuneC fun args M Q => ∃ a0, args = [a0] ∧ W_rolodex_rolodexref23_Rune a0 M Q := by
  intro M s Q hl hQ
  refine ⟨_, rfl, ?_⟩
  unfold W_rolodex_rolodexref23_Rune
  simp only [fuseM, joinW_shut]
  simp only [go_sem]
  refine ⟨fun h0 => ?_, fun h0 => ?_⟩
  · have : s = [] := List.eq_nil_of_length_eq_zero (by simp at h0; simp [h0])
    subst this; exact hQ
  · have hne : s ≠ [] := by intro e; subst e; simp at h0
    have hpos : 0 < s.length := List.length_pos_iff.2 hne
    have hrk : rk s = rkN s.length (bt s 0) (bt s 1) (bt s 2) (bt s 3) := by rw [rk, if_neg hne]
    have hg0 : s[0]? = some s[0] := List.getElem?_eq_getElem hpos
    have hb0 := bt_at hpos
    have hc := u8_lt s[0]
    generalize s[0] = c at *
    have hw : IntKind.wrap .i64 (c.toNat : Int) = (c.toNat : Int) := wrap_i64_id (by omega) (by omega)
    refine ⟨by omega, c, by simpa using hg0, ?_⟩
    rw [hw, hb0]
    have hb := bt_lt s 0
    refine ⟨fun h => ?_, fun h => ?_⟩
    · rw [hrk, rkN_ascii (by simp at h; omega)] at hQ; exact hQ
    have h128 : 128 ≤ bt s 0 := by simp at h; omega
    refine joinV_spec (fun xs M' => M' = M ∧ ∃ k v0 : Nat, xs = [N .i64 k, N .i64 v0] ∧
      (k = 2 ∧ 194 ≤ bt s 0 ∧ bt s 0 < 224 ∧ v0 = bt s 0 - 192 ∨ k = 3 ∧ 224 ≤ bt s 0 ∧ bt s 0 < 240 ∧ v0 = bt s 0 - 224 ∨ k = 4 ∧ 240 ≤ bt s 0 ∧ bt s 0 < 245 ∧ v0 = bt s 0 - 240)) ?_ ?_
    · rintro _ M0 ⟨hM0, k, v0, rfl, hk⟩
      subst hM0
      have hk4 : 2 ≤ k ∧ k ≤ 4 ∧ v0 < 32 := by omega
      have hbs : ∀ i, bt s i < 256 := bt_lt s
      show intW .lss _ _ _
      rw [show nthD [N IntKind.i64 (k : Int), N IntKind.i64 (v0 : Int)] 0 = N .i64 (k : Int) from rfl, show nthD [N IntKind.i64 (k : Int), N IntKind.i64 (v0 : Int)] 1 = N .i64 (v0 : Int) from rfl, intW_lss, condW_Bo]
      refine ⟨fun hlt => ?_, fun hge => ?_⟩
      · have hlt : s.length < k := by simpa using hlt
        have : rk s = 0 := by
          rw [hrk]
          rcases hk with hk | hk | hk
          · exact rkN2_bad (by omega) (by omega)
          · exact rkN3_bad (by omega) (by omega)
          · exact rkN4_bad (by omega) (by omega)
        rw [this] at hQ; exact hQ
      have hge : k ≤ s.length := by simpa using hge
      refine loopW_ind (fun m ys M' => M' = M0 ∧ ∃ j : Nat, m = k - j ∧ ys = [N .i64 (acc v0 s j), N .i64 ((j + 1 : Nat) : Int)] ∧ j + 1 ≤ k ∧ (∀ i, 1 ≤ i → i ≤ j → 128 ≤ bt s i ∧ bt s i ≤ 191) ∧
        (j = 0 ∧ acc v0 s j < 32 ∨ j = 1 ∧ acc v0 s j < 4096 ∨ j = 2 ∧ acc v0 s j < 262144 ∨ j = 3 ∧ acc v0 s j < 33554432)) _ ⟨rfl, 0, rfl, rfl, by omega, fun i h1 h2 => by omega, by simp [acc]; omega⟩ ?_
      rintro next m ys _ hnext ⟨rfl, j, rfl, rfl, hj, hall, hacc⟩
      rw [show nthD [N IntKind.i64 (acc v0 s j : Int), N IntKind.i64 ((j + 1 : Nat) : Int)] 0 = N .i64 (acc v0 s j : Int) from rfl, show nthD [N IntKind.i64 (acc v0 s j : Int), N IntKind.i64 ((j + 1 : Nat) : Int)] 1 = N .i64 ((j + 1 : Nat) : Int) from rfl, intW_lss, condW_Bo]
      refine ⟨fun hlt => ?_, fun hge2 => ?_⟩
      · have hlt : j + 1 < k := by
          have := of_decide_eq_true hlt
          omega
        have hjs : j + 1 < s.length := by omega
        have hgj : s[j + 1]? = some s[j + 1] := List.getElem?_eq_getElem hjs
        have hwj : IntKind.wrap .i64 (s[j + 1].toNat : Int) = (bt s (j + 1) : Int) := by rw [wrap_i64_id (by omega) (by have := u8_lt s[j + 1]; omega), bt_at hjs]
        have hbj := hbs (j + 1)
        simp only [go_sem]
        refine ⟨s[j + 1], hgj, ?_⟩
        rw [hwj]
        generalize hB : bt s (j + 1) = B at *
        have hbad : (B < 128 ∨ 191 < B) → rk s = 0 := fun hb' => by
          rw [hrk]
          have h3 : j = 0 ∨ j = 1 ∨ j = 2 := by omega
          rcases hk with hk | hk | hk
          · obtain rfl : j = 0 := by omega
            exact rkN2_bad (by omega) (by simp only [Nat.zero_add] at hB; omega)
          · refine rkN3_bad (by omega) ?_
            rcases h3 with rfl | rfl | rfl <;> simp only [Nat.zero_add, Nat.reduceAdd] at hB <;> omega
          · refine rkN4_bad (by omega) ?_
            rcases h3 with rfl | rfl | rfl <;> simp only [Nat.zero_add, Nat.reduceAdd] at hB <;> omega
        by_cases c1 : B < 128
        · have c1' : ((B : Int) < 128) := by omega
          simp only [c1', decide_true, go_sem, if_true]
          rw [hbad (by omega)] at hQ; exact hQ
        · have c1' : ¬ ((B : Int) < 128) := by omega
          by_cases c2 : 191 < B
          · have c2' : (B : Int) > 191 := by omega
            simp only [c1', c2', decide_true, decide_false, go_sem, if_true]
            rw [hbad (by omega)] at hQ; exact hQ
          · have c2' : ¬ ((B : Int) > 191) := by omega
            simp only [c1', c2', decide_true, decide_false, go_sem, if_true]
            have e1 : acc v0 s (j + 1) = 64 * acc v0 s j + B - 128 := by rw [acc, hB]
            have w1 : IntKind.wrap .i64 (64 * (acc v0 s j : Int)) = 64 * (acc v0 s j : Int) := i64w (by omega) (by omega)
            have w2 : IntKind.wrap .i64 (64 * (acc v0 s j : Int) + (B : Int)) = 64 * (acc v0 s j : Int) + (B : Int) := i64w (by omega) (by omega)
            have w3 : IntKind.wrap .i64 (64 * (acc v0 s j : Int) + (B : Int) - 128) = (acc v0 s (j + 1) : Int) := by rw [i64w (by omega) (by omega), e1]; omega
            have w4 : IntKind.wrap .i64 (((j + 1 : Nat) : Int) + 1) = ((j + 2 : Nat) : Int) := by rw [i64w (by omega) (by omega)]; omega
            rw [w1, w2, w3, w4]
            refine hnext _ _ _ (by omega) ⟨rfl, j + 1, rfl, rfl, by omega, fun i h1 h2 => ?_, by omega⟩
            by_cases hi : i = j + 1
            · subst hi; omega
            · exact hall i h1 (by omega)
      · have hge2 := of_decide_eq_false hge2
        obtain rfl : k = j + 1 := by omega
        have hrest : rk s = if j + 1 = 3 ∧ (acc v0 s j < 2048 ∨ 55296 ≤ acc v0 s j ∧ acc v0 s j < 57344) ∨ j + 1 = 4 ∧ (acc v0 s j < 65536 ∨ 1114111 < acc v0 s j) then 0 else j + 1 := by
          rw [hrk]
          rcases hk with hk | hk | hk
          · obtain rfl : j = 1 := by omega
            rw [rkN2 (by omega) (by omega) (hall 1 (by omega) (by omega)), if_neg (by omega)]
          · obtain rfl : j = 2 := by omega
            rw [rkN3 (v := acc v0 s 2) (by omega) (by omega) (hall 1 (by omega) (by omega)) (hall 2 (by omega) (by omega)) (by simp only [acc]; rw [hk.2.2.2])]
            simp
          · obtain rfl : j = 3 := by omega
            rw [rkN4 (v := acc v0 s 3) (by omega) (by omega) (hall 1 (by omega) (by omega)) (hall 2 (by omega) (by omega)) (hall 3 (by omega) (by omega)) (by simp only [acc]; rw [hk.2.2.2])]
            simp
        rw [hrest] at hQ
        generalize acc v0 s j = A at *
        simp only [intW_lss, intW_geq, intW_gtr, intW_eql]
        refine tail_ok _ _ _ _ _ _ _ (fun h => ?_) (fun h => ?_)
        · simp only [Bool.or_eq_true, Bool.and_eq_true, decide_eq_true_eq, beq_iff_eq] at h
          rw [if_pos (by omega)] at hQ; exact hQ
        · rw [Bool.eq_false_iff] at h
          simp only [ne_eq, Bool.or_eq_true, Bool.and_eq_true, decide_eq_true_eq, beq_iff_eq] at h
          rw [if_neg (by omega)] at hQ; exact hQ
    · intro J hJ
      have cmp : ∀ k : Nat, decide ((bt s 0 : Int) ≥ (k : Int)) = decide (k ≤ bt s 0) := fun k => by simp
      have cml : ∀ k : Nat, decide ((bt s 0 : Int) < (k : Int)) = decide (bt s 0 < k) := fun k => by simp
      have e194 := cmp 194
      have e224 := cmp 224
      have e240 := cmp 240
      have l224 := cml 224
      have l240 := cml 240
      have l245 := cml 245
      simp only [Int.cast_ofNat_Int] at e194 e224 e240 l224 l240 l245
      rw [e194]
      by_cases c1 : 194 ≤ bt s 0
      · by_cases c2 : bt s 0 < 224
        · simp only [c1, c2, l224, go_sem, decide_true, if_true]
          refine hJ _ _ ⟨rfl, 2, bt s 0 - 192, ?_, by omega⟩
          rw [i64w (by omega) (by omega)]; congr 3; omega
        · by_cases c3 : bt s 0 < 240
          · simp only [c1, c2, c3, l224, e224, l240, show 224 ≤ bt s 0 by omega, go_sem, decide_true, decide_false, if_true]
            refine hJ _ _ ⟨rfl, 3, bt s 0 - 224, ?_, by omega⟩
            rw [i64w (by omega) (by omega)]; congr 3; omega
          · by_cases c4 : bt s 0 < 245
            · simp only [c1, c2, c3, c4, l224, e224, l240, e240, l245, show 224 ≤ bt s 0 by omega, show 240 ≤ bt s 0 by omega, go_sem, decide_true, decide_false, if_true]
              refine hJ _ _ ⟨rfl, 4, bt s 0 - 240, ?_, by omega⟩
              rw [i64w (by omega) (by omega)]; congr 3; omega
            · simp only [c1, c2, c3, c4, l224, e224, l240, e240, l245, show 224 ≤ bt s 0 by omega, show 240 ≤ bt s 0 by omega, go_sem, decide_true, decide_false, if_true]
              rw [hrk, rkN_lead (by omega)] at hQ; exact hQ
      · simp only [c1, e224, e240, show ¬ 224 ≤ bt s 0 by omega, show ¬ 240 ≤ bt s 0 by omega, go_sem, decide_true, decide_false, if_true, Bool.false_eq_true, if_false]
        rw [hrk, rkN_lead (by omega)] at hQ; exact hQ
end Go.Ab.Vl
/- Folding, in plain terms. By an AI agent. -/
set_option linter.unusedVariables false
set_option linter.unusedSimpArgs false
namespace Go.Ab.Vl
open Go Go.Ab

theorem rk_le {s : List UInt8} : rk s ≤ s.length ∧ rk s ≤ 4 := by
  by_cases h : s = []
  · subst h; simp [rk]
  · have h1 := rs_eq h
    have h2 := rs_le h
    by_cases h0 : rk s = 0
    · omega
    · rw [if_neg h0] at h1; omega
theorem drop_lt {s : List UInt8} (h : s ≠ []) {k : Nat} (hk : 1 ≤ k) : (s.drop k).length < s.length := by
  have := List.length_pos_iff.2 h
  simp; omega

theorem rkN_ext {n m b0 b1 b2 b3 c1 c2 c3 k : Nat} (h : rkN n b0 b1 b2 b3 = k) (h0 : k ≠ 0) (hm : k ≤ m) (e1 : 2 ≤ k → c1 = b1) (e2 : 3 ≤ k → c2 = b2) (e3 : 4 ≤ k → c3 = b3) : rkN m b0 c1 c2 c3 = k := by
  by_cases r1 : b0 < 128
  · rw [rkN_ascii r1] at h ⊢; exact h
  by_cases r2 : b0 < 194 ∨ 245 ≤ b0
  · rw [rkN_lead (by omega)] at h; exact absurd h.symm h0
  by_cases r3 : b0 < 224
  · by_cases g : n < 2 ∨ b1 < 128 ∨ 191 < b1
    · rw [rkN2_bad (by omega) g] at h; exact absurd h.symm h0
    · rw [rkN2 (by omega) (by omega) (by omega)] at h
      subst h
      have := e1 (by omega)
      exact rkN2 (by omega) (by omega) (by omega)
  by_cases r4 : b0 < 240
  · by_cases g : n < 3 ∨ b1 < 128 ∨ 191 < b1 ∨ b2 < 128 ∨ 191 < b2
    · rw [rkN3_bad (by omega) g] at h; exact absurd h.symm h0
    · rw [rkN3 (by omega) (by omega) (by omega) (by omega) rfl] at h
      have hk : k = 3 := by split at h <;> omega
      subst hk
      obtain rfl := e1 (by omega)
      obtain rfl := e2 (by omega)
      rw [rkN3 (by omega) (by omega) (by omega) (by omega) rfl]; exact h
  · by_cases g : n < 4 ∨ b1 < 128 ∨ 191 < b1 ∨ b2 < 128 ∨ 191 < b2 ∨ b3 < 128 ∨ 191 < b3
    · rw [rkN4_bad (by omega) g] at h; exact absurd h.symm h0
    · rw [rkN4 (by omega) (by omega) (by omega) (by omega) (by omega) rfl] at h
      have hk : k = 4 := by split at h <;> omega
      subst hk
      obtain rfl := e1 (by omega)
      obtain rfl := e2 (by omega)
      obtain rfl := e3 (by omega)
      rw [rkN4 (by omega) (by omega) (by omega) (by omega) (by omega) rfl]; exact h

theorem bt_ext {s : List UInt8} {k i : Nat} (t : List UInt8) (hk : k ≤ s.length) (hi : i < k) : bt (s.take k ++ t) i = bt s i := by
  simp only [bt, List.getD_eq_getElem?_getD]
  rw [List.getElem?_append_left (by simp; omega), List.getElem?_take_of_lt hi]
theorem rk_ext {s t : List UInt8} (h0 : rk s ≠ 0) : rk (s.take (rk s) ++ t) = rk s := by
  have hl := rk_le (s := s)
  have hne : s ≠ [] := by intro e; subst e; simp [rk] at h0
  have hne' : s.take (rk s) ++ t ≠ [] := by
    intro e
    have := congrArg List.length e
    rw [List.length_append, List.length_take, Nat.min_eq_left hl.1] at this
    simp only [List.length_nil] at this; omega
  have hk : rkN s.length (bt s 0) (bt s 1) (bt s 2) (bt s 3) = rk s := by rw [rk, if_neg hne]
  rw [show rk (s.take (rk s) ++ t) = rkN (s.take (rk s) ++ t).length (bt (s.take (rk s) ++ t) 0) (bt (s.take (rk s) ++ t) 1) (bt (s.take (rk s) ++ t) 2) (bt (s.take (rk s) ++ t) 3) by rw [rk, if_neg hne']]
  rw [bt_ext t hl.1 (show 0 < rk s by omega)]
  exact rkN_ext hk h0 (by simp; omega) (fun h => bt_ext t hl.1 (by omega)) (fun h => bt_ext t hl.1 (by omega)) (fun h => bt_ext t hl.1 (by omega))

/-- Well formed. -/
def fmd (s : List UInt8) : Bool := if s = [] then true else if h : rk s = 0 then false else fmd (s.drop (rk s))
 termination_by s.length
 decreasing_by exact drop_lt (by assumption) (by omega)
theorem fmd_nil : fmd [] = true := by rw [fmd]; simp
theorem fmd_bad {s : List UInt8} (hne : s ≠ []) (h : rk s = 0) : fmd s = false := by rw [fmd]; simp [hne, h]
theorem fmd_step {s : List UInt8} (h : rk s ≠ 0) : fmd s = fmd (s.drop (rk s)) := by
  have hne : s ≠ [] := by intro e; subst e; simp [rk] at h
  rw [fmd]; simp [hne, h]
theorem rk_ne {s : List UInt8} (hne : s ≠ []) (h : fmd s = true) : rk s ≠ 0 := fun h0 => by rw [fmd_bad hne h0] at h; cases h
theorem rs_rk {s : List UInt8} (hne : s ≠ []) (h : fmd s = true) : rs s = rk s := by rw [rs_eq hne, if_neg (rk_ne hne h)]
theorem fmd_take {s : List UInt8} (hne : s ≠ []) (h : fmd s = true) : fmd (s.take (rs s)) = true := by
  have h0 := rk_ne hne h
  have e := rk_ext (t := []) h0
  rw [List.append_nil] at e
  rw [rs_rk hne h, fmd_step (by omega), e]
  rw [List.drop_eq_nil_of_le (by simp; omega), fmd_nil]
theorem fmd_drop {s : List UInt8} (hne : s ≠ []) (h : fmd s = true) : fmd (s.drop (rs s)) = true := by
  rw [rs_rk hne h, ← fmd_step (rk_ne hne h), h]
theorem fmd_append : ∀ (n : Nat) {a b : List UInt8}, a.length ≤ n → fmd a = true → fmd b = true → fmd (a ++ b) = true
  | 0, a, b, hn, ha, hb => by
    have : a = [] := List.eq_nil_of_length_eq_zero (by omega)
    subst this; exact hb
  | n + 1, a, b, hn, ha, hb => by
    by_cases hne : a = []
    · subst hne; exact hb
    have h0 := rk_ne hne ha
    have hl := rk_le (s := a)
    have e : rk (a ++ b) = rk a := by
      have := rk_ext (s := a) (t := a.drop (rk a) ++ b) h0
      rwa [← List.append_assoc, List.take_append_drop] at this
    rw [fmd_step (by omega), e, List.drop_append_of_le_length hl.1]
    refine fmd_append n ?_ (by rw [← fmd_step h0, ha]) hb
    simp; omega
theorem fmd_sp {a : List UInt8} (h : fmd a = true) : fmd (32 :: a) = true := by
  have e : rk [32] = 1 := by rw [rk, if_neg (by simp)]; exact rkN_ascii (by simp [bt])
  exact fmd_append 1 (a := [32]) (by simp) (by rw [fmd_step (by omega), e]; exact fmd_nil) h

/-- What is written when so many bytes of a line are used. -/
def fo (u : Nat) (s : List UInt8) : List UInt8 :=
  if s = [] then [] else if u + rs s > 75 then [13, 10, 32] ++ s.take (rs s) ++ fo (1 + rs s) (s.drop (rs s)) else s.take (rs s) ++ fo (u + rs s) (s.drop (rs s))
 termination_by s.length
 decreasing_by all_goals exact drop_lt (by assumption) (rs_pos (by assumption))
theorem fo_nil (u : Nat) : fo u [] = [] := by rw [fo]; simp
theorem fo_break {u : Nat} {s : List UInt8} (hne : s ≠ []) (h : 75 < u + rs s) : fo u s = [13, 10, 32] ++ s.take (rs s) ++ fo (1 + rs s) (s.drop (rs s)) := by
  rw [fo, if_neg hne, if_pos (by omega)]
theorem fo_more {u : Nat} {s : List UInt8} (hne : s ≠ []) (h : u + rs s ≤ 75) : fo u s = s.take (rs s) ++ fo (u + rs s) (s.drop (rs s)) := by
  rw [fo, if_neg hne, if_neg (by omega)]
/-- The first piece. -/
def pc (lim : Nat) (s : List UInt8) : Nat := if s = [] then 0 else if rs s > lim then 0 else rs s + pc (lim - rs s) (s.drop (rs s))
 termination_by s.length
 decreasing_by exact drop_lt (by assumption) (rs_pos (by assumption))
theorem pc_nil (l : Nat) : pc l [] = 0 := by rw [pc]; simp
theorem pc_end {l : Nat} {s : List UInt8} (h : l < rs s) : pc l s = 0 := by rw [pc]; simp; intro _ _; omega
theorem pc_more {l : Nat} {s : List UInt8} (hne : s ≠ []) (h : rs s ≤ l) : pc l s = rs s + pc (l - rs s) (s.drop (rs s)) := by
  rw [pc, if_neg hne, if_neg (by omega)]
theorem pc_le : ∀ (n : Nat) {l : Nat} {s : List UInt8}, s.length ≤ n → pc l s ≤ s.length
  | n, l, s, hn => by
    by_cases hne : s = []
    · subst hne; simp [pc_nil]
    by_cases h : l < rs s
    · simp [pc_end h]
    rw [pc_more hne (by omega)]
    have h1 := rs_pos hne
    have h2 := rs_le hne
    cases n with
    | zero => exact absurd (List.eq_nil_of_length_eq_zero (by omega)) hne
    | succ n =>
      have := pc_le n (l := l - rs s) (s := s.drop (rs s)) (by simp; omega)
      simp at this; omega
theorem pc_pos {l : Nat} {s : List UInt8} (hne : s ≠ []) (h : 4 ≤ l) : 1 ≤ pc l s := by
  have h1 := rs_pos hne
  have h2 := rs_le hne
  rw [pc_more hne (by omega)]; omega
theorem fo_pc : ∀ (n : Nat) {u : Nat} {s : List UInt8}, s.length ≤ n → u ≤ 75 → fo u s = s.take (pc (75 - u) s) ++ (if s.drop (pc (75 - u) s) = [] then [] else [13, 10, 32] ++ fo 1 (s.drop (pc (75 - u) s)))
  | n, u, s, hn, hu => by
    by_cases hne : s = []
    · subst hne; simp [fo_nil]
    have h1 := rs_pos hne
    have h2 := rs_le hne
    by_cases h : 75 < u + rs s
    · rw [pc_end (by omega), fo_break hne h]
      simp only [List.take_zero, List.drop_zero, List.nil_append, if_neg hne]
      rw [fo_more (u := 1) hne (by omega)]; simp
    · rw [pc_more hne (by omega), fo_more hne (by omega)]
      cases n with
      | zero => exact absurd (List.eq_nil_of_length_eq_zero (by omega)) hne
      | succ n =>
        rw [fo_pc n (u := u + rs s) (by simp; omega) (by omega), List.take_add, ← List.drop_drop, show 75 - (u + rs s) = 75 - u - rs s by omega, List.append_assoc]
theorem fo_len : ∀ (n : Nat) {u : Nat} {s : List UInt8}, s.length ≤ n → (fo u s).length ≤ 4 * s.length
  | n, u, s, hn => by
    by_cases hne : s = []
    · subst hne; simp [fo_nil]
    have h1 := rs_pos hne
    have h2 := rs_le hne
    cases n with
    | zero => exact absurd (List.eq_nil_of_length_eq_zero (by omega)) hne
    | succ n =>
      by_cases h : 75 < u + rs s
      · rw [fo_break hne h]
        have := fo_len n (u := 1 + rs s) (s := s.drop (rs s)) (by simp; omega)
        simp at this ⊢; omega
      · rw [fo_more hne (by omega)]
        have := fo_len n (u := u + rs s) (s := s.drop (rs s)) (by simp; omega)
        simp at this ⊢; omega
end Go.Ab.Vl
/- The walks of folding. By an AI agent. -/
set_option linter.unusedVariables false
set_option linter.unusedSimpArgs false
namespace Go.Ab.Vl
open Go Go.Ab

theorem app_str {n0 T8 : Nat} {M : RM} {v : AV} {xs s : List UInt8} {K : AV → RM → Prop} (ho : Ow BY M n0 T8 v xs) (hn : n0 ≤ M.next) (hl : xs.length + s.length ≤ 140737488355328)
    (hK : ∀ v' M', Ow BY M' n0 T8 v' (xs ++ s) → Keep (blkOf v) M M' → K v' M') : appW T8 1 1 [N .u8 0] false v (St s) M K := by
  have hnew : newL M 1 [N .u8 0] false (St s) = some (s.length, BY.row s) := by simp only [newL, BY_row, if_true]
  refine app_own ho hn (Nat.le_refl _) hnew (by rw [BY.row_len]; rfl) (BY.row_all s) (by omega) (by omega) fun v' M2 h2 k2 hnx2 hv => hK v' M2 ?_ k2
  rw [← BY.row_append] at h2
  show Own M2 n0 T8 1 v' (BY.row (xs ++ s)) (xs ++ s).length
  rw [List.length_append]; exact h2

theorem subStr_to {s : List UInt8} {h : Nat} (h2 : h ≤ s.length) (k2 : IntKind) : subStr (St s) none (some (N k2 (h : Int))) = some (St (s.take h)) := by
  have := subStr_some (s := s) (l := 0) (h := h) (by omega) h2 .i64 k2
  rw [List.drop_zero, Nat.sub_zero] at this; exact this
def FormedC (c : CallT) : Prop := ∀ {M : RM} {s : List UInt8} {Q : PostV}, s.length ≤ 1000000 → Q (Bo (fmd s)) M → c [St s] M Q
theorem formed_spec {cr : CallT} (hr : RuneC cr) : FormedC fun args M Q => ∃ a0, args = [a0] ∧ W_rolodex_rolodexref23_Formed cr a0 M Q := by
  intro M s Q hl hQ
  refine ⟨_, rfl, ?_⟩
  unfold W_rolodex_rolodexref23_Formed
  refine loopW_ind (fun m ys M' => M' = M ∧ ∃ t : List UInt8, m = t.length ∧ ys = [St t] ∧ t.length ≤ s.length ∧ fmd t = fmd s) _ ⟨rfl, s, rfl, rfl, Nat.le_refl _, rfl⟩ ?_
  rintro next m ys M' hnext ⟨rfl, t, rfl, rfl, ht, hf⟩
  simp only [go_sem]
  refine ⟨fun hlt => ?_, fun hge => ?_⟩
  · have hne : t ≠ [] := by intro e; subst e; simp at hlt
    refine hr (by omega) ?_
    have hle := rk_le (s := t)
    by_cases h0 : rk t = 0
    · rw [h0]
      simp only [go_sem, show (((0 : Nat) : Int) == 0) = true from rfl]
      rw [fmd_bad hne h0] at hf; rw [hf]; exact hQ
    · have e0 : ((rk t : Int) == 0) = false := by simp; omega
      simp only [go_sem, e0]
      rw [subStr_from hle.1]
      simp only [go_sem]
      refine hnext _ _ _ (drop_lt hne (by omega)) ⟨rfl, _, rfl, rfl, ?_, ?_⟩
      · simp; omega
      · rw [← fmd_step h0, hf]
  · have : t = [] := by
      apply List.eq_nil_of_length_eq_zero
      have := of_decide_eq_false hge
      omega
    subst this
    rw [fmd_nil] at hf; rw [hf]; exact hQ

def FoldC (c : CallT) : Prop := ∀ {M : RM} {s : List UInt8} {Q : PostV}, s.length ≤ 1000000 → (∀ M', Keep [] M M' → Q (St (fo 0 s)) M') → c [St s] M Q
theorem take_id {α : Type} {l t s : List α} (h : l ++ t = s) : l.length ≤ s.length := by rw [← h]; simp

theorem refFold_spec {T8 : Nat} {cr : CallT} (hr : RuneC cr) : FoldC fun args M Q => ∃ a0, args = [a0] ∧ W_rolodex_rolodexref23_Fold T8 cr a0 M Q := by
  intro M s Q hl hQ
  refine ⟨_, rfl, ?_⟩
  unfold W_rolodex_rolodexref23_Fold
  refine make0 ?_
  simp only [newW_eq]
  have hfl := fo_len s.length (u := 0) (s := s) (Nat.le_refl _)
  refine loopW_ind (fun m ys M3 => ∃ (t w : List UInt8) (v : AV) (u : Nat), m = t.length ∧ ys = [St t, v, N .i64 u] ∧ u ≤ 75 ∧ t.length ≤ s.length ∧ Ow BY M3 M.next T8 v w ∧ w ++ fo u t = fo 0 s ∧ Keep [] M M3) _
    ⟨s, [], _, 0, rfl, rfl, by omega, Nat.le_refl _, Ow.lit BY M, rfl, (Keep.refl _ _).push _⟩ ?_
  rintro next m ys M3 hnext ⟨t, w, v, u, rfl, rfl, hu, ht, ho, hw, hK⟩
  have hwl := take_id hw
  simp only [go_sem]
  refine ⟨fun hlt => ?_, fun hge => ?_⟩
  · have hne : t ≠ [] := by intro e; subst e; simp at hlt
    refine hr (by omega) ?_
    have h1 := rs_pos hne
    have h2 := rs_le hne
    have hrs := rs_eq hne
    have kk : ∀ {v : AV} {w : List UInt8} {M3 M' : RM}, Ow BY M3 M.next T8 v w → Keep [] M M3 → Keep (blkOf v) M3 M' → Keep [] M M' := fun ho hK h => hK.then_new h fun c hc => .inl (ho.blk c hc).1
    have two : ∀ (v : AV) (w : List UInt8) (u : Nat) (M4 : RM), u + rs t ≤ 75 → Ow BY M4 M.next T8 v w → Keep [] M M4 → w ++ t.take (rs t) ++ fo (u + rs t) (t.drop (rs t)) = fo 0 s →
        getW (subStr (St t) none (some (N .i64 (rs t)))) fun t24 => appW T8 1 1 [N .u8 0] false v t24 M4 fun t25 M_11 => next [St (t.drop (rs t)), t25, N .i64 (IntKind.wrap .i64 ((u : Int) + (rs t : Int)))] M_11 := fun v w u M4 hu' ho hK hw => by
      have hwl : (w ++ t.take (rs t)).length ≤ (fo 0 s).length := by rw [← hw]; simp
      rw [subStr_to h2.1]
      simp only [go_sem]
      refine app_str ho hK.next (by simp at hwl ⊢; omega) fun v' M5 ho5 k5 => ?_
      rw [show IntKind.wrap .i64 ((u : Int) + (rs t : Int)) = ((u + rs t : Nat) : Int) by rw [i64w (by omega) (by omega)]; omega]
      exact hnext _ _ _ (drop_lt hne h1) ⟨_, w ++ t.take (rs t), v', u + rs t, rfl, rfl, by omega, by simp; omega, ho5, hw, kk ho hK k5⟩
    have mid : intW .add (N .i64 u) (N .i64 (rs t)) fun t16 => intW .gtr t16 (N .i64 75) fun t17 => condW t17 (rowsW T8 3 [(N .u8 0)] [(0, 1, (N .u8 13)), (1, 1, (N .u8 10)), (2, 1, (N .u8 32))] fun r_5 f_6 =>
        appW T8 1 1 [(N .u8 0)] false v (f_6 M3.next) (M3.push r_5) fun t20 M_8 =>
          getW (subStr (St t) none (some (N .i64 (rs t)))) fun t24 => appW T8 1 1 [N .u8 0] false t20 t24 M_8 fun t25 M_11 => intW .add (N .i64 1) (N .i64 (rs t)) fun t28 => getW (subStr (St t) (some (N .i64 (rs t))) none) fun t31 => next [t31, t25, t28] M_11)
        (getW (subStr (St t) none (some (N .i64 (rs t)))) fun t24 => appW T8 1 1 [N .u8 0] false v t24 M3 fun t25 M_11 => intW .add (N .i64 u) (N .i64 (rs t)) fun t28 => getW (subStr (St t) (some (N .i64 (rs t))) none) fun t31 => next [t31, t25, t28] M_11) := by
      rw [subStr_from h2.1]
      simp only [go_sem]
      have e1 : IntKind.wrap .i64 ((u : Int) + (rs t : Int)) = ((u + rs t : Nat) : Int) := by rw [i64w (by omega) (by omega)]; omega
      refine ⟨fun h => ?_, fun h => ?_⟩
      · rw [e1] at h
        have h : 75 < u + rs t := by have := of_decide_eq_true h; omega
        refine ⟨BY.row [13, 10, 32], by simp [fillO, repL, oneCell, AV.cells, BY_row], ?_⟩
        rw [fo_break hne h] at hw
        have hx := congrArg List.length hw
        simp only [List.length_append, List.length_cons, List.length_nil] at hx
        have hk : Keep [] M3 (M3.push (.row (BY.row [13, 10, 32]) false T8 0)) := (Keep.refl _ _).push _
        refine app_all (E := BY) (ys := [13, 10, 32]) (Own.keep ho hk (by simp)) (Nat.le_trans hK.next hk.next) (Nat.le_refl _) (Sl.new [13, 10, 32]) (by simp; omega) (by simp; omega) fun v' M4 h1 h2 h3 h4 => ?_
        exact two v' (w ++ [13, 10, 32]) 1 M4 (by omega) h1 (kk ho hK ((hk.mono (by simp)).trans h2)) (by rw [← hw]; simp)
      · rw [e1] at h
        have h : u + rs t ≤ 75 := by have := of_decide_eq_false h; omega
        rw [fo_more hne h] at hw
        exact two v w u M3 h ho hK (by rw [← hw]; simp)
    by_cases h0 : rk t = 0
    · rw [if_pos h0] at hrs
      rw [h0]
      rw [hrs, show ((1 : Nat) : Int) = 1 from rfl] at mid
      rw [intW_eql]
      simp only [go_sem] at mid
      refine ⟨fun _ => ?_, fun h => absurd h (by simp)⟩
      exact mid
    · rw [if_neg h0] at hrs
      rw [hrs] at mid
      have e0 : ((rk t : Int) == 0) = false := by simp; omega
      rw [intW_eql, e0]
      exact ⟨fun h => (by cases h), fun _ => mid⟩
  · have : t = [] := by
      apply List.eq_nil_of_length_eq_zero
      have := of_decide_eq_false hge
      omega
    subst this
    rw [fo_nil, List.append_nil] at hw
    subst hw
    rw [Sl.str ho.slR]
    exact hQ M3 hK

def DecC (B : Base) (c : CallT) : Prop := ∀ {M : RM} {s : List UInt8} {Q : PostV}, M.base = B → s ≠ [] → s.length ≤ 1000000 → (∀ r : AV, Q (.tup [r, N .i64 (rs s)]) M) → c [St s] M Q
def PieceC (B : Base) (c : CallT) : Prop := ∀ {M : RM} {s : List UInt8} {l : Nat} {Q : PostV}, M.base = B → s.length ≤ 1000000 → l ≤ 1000 → Q (N .i64 (pc l s)) M → c [St s, N .i64 l] M Q

theorem piece_spec {B : Base} {cd : CallT} (hd : DecC B cd) : PieceC B fun args M Q => ∃ a0 a1, args = [a0, a1] ∧ W_rolodex_vline_piece cd a0 a1 M Q := by
  intro M s l Q hM hl hll hQ
  refine ⟨_, _, rfl, ?_⟩
  unfold W_rolodex_vline_piece
  simp only [go_sem]
  refine loopW_ind (fun m ys M' => M' = M ∧ ∃ i : Nat, m = s.length - i ∧ ys = [N .i64 i] ∧ i ≤ s.length ∧ i ≤ l ∧ i + pc (l - i) (s.drop i) = pc l s) _ ⟨rfl, 0, rfl, rfl, Nat.zero_le _, Nat.zero_le _, by simp⟩ ?_
  rintro next m ys M' hnext ⟨rfl, i, rfl, rfl, hi, hil, hp⟩
  simp only [go_sem]
  refine ⟨fun hlt => ?_, fun hge => ?_⟩
  · have hlt : i < s.length := by have := of_decide_eq_true hlt; omega
    have hne : s.drop i ≠ [] := by intro e; have := congrArg List.length e; simp at this; omega
    have h1 := rs_pos hne
    have h2 := rs_le hne
    rw [List.length_drop] at h2
    rw [subStr_from hi]
    simp only [go_sem]
    refine hd hM hne (by simp; omega) fun r => ?_
    have e1 : IntKind.wrap .i64 ((i : Int) + (rs (s.drop i) : Int)) = ((i + rs (s.drop i) : Nat) : Int) := by rw [i64w (by omega) (by omega)]; omega
    simp only [go_sem, e1]
    refine ⟨fun h => ?_, fun h => ?_⟩
    · have h : l < i + rs (s.drop i) := by have := of_decide_eq_true h; omega
      rw [pc_end (by omega), Nat.add_zero] at hp
      rw [hp]; exact hQ
    · have h : i + rs (s.drop i) ≤ l := by have := of_decide_eq_false h; omega
      rw [pc_more hne (by omega), List.drop_drop] at hp
      exact hnext _ _ _ (by omega) ⟨rfl, _, rfl, rfl, by omega, h, by rw [← hp, show l - (i + rs (s.drop i)) = l - i - rs (s.drop i) by omega]; omega⟩
  · have hge : s.length ≤ i := by have := of_decide_eq_false hge; omega
    rw [List.drop_eq_nil_of_le hge, pc_nil, Nat.add_zero] at hp
    rw [hp]; exact hQ

theorem fold_spec {B : Base} {TB T8 : Nat} {cp cs ct : CallT} (hp : PieceC B cp) (hs : WriteStringC TB T8 cs) (ht : StringC TB T8 ct) {M : RM} {s : List UInt8} {Q : PostV} (hM : M.base = B) (hl : s.length ≤ 1000000) (hQ : ∀ M', Keep [] M M' → Q (St (fo 0 s)) M') :
    W_rolodex_vline_Fold TB cp cs ct (St s) M Q := by
  unfold W_rolodex_vline_Fold
  simp only [newW_eq]
  generalize hM2 : M.push (.row [.sc (.pointer none), .sc (.slice none 0 0)] false TB 0) = M2
  have hn2 : M2.next = M.next + 1 := by rw [← hM2]; rfl
  have hk2 : Keep [] M M2 := by rw [← hM2]; exact (Keep.refl _ _).push _
  have hb0 : Bld TB T8 M2.next M2 M.next [] := Bld.new (by rw [← hM2]; simp [go_sem]) (by omega) (Nat.le_refl _)
  have hfl := fo_len s.length (u := 0) (s := s) (Nat.le_refl _)
  refine loopW_ind (fun m ys M3 => ∃ (t w : List UInt8) (u : Nat), m = t.length ∧ ys = [St t, N .i64 ((75 - u : Nat) : Int)] ∧ u ≤ 1 ∧ t.length ≤ s.length ∧ Bld TB T8 M2.next M3 M.next w ∧ w ++ fo u t = fo 0 s ∧ KeepTo M2.next [M.next] M2 M3) _
    ⟨s, [], 0, rfl, rfl, by omega, Nat.le_refl _, hb0, rfl, KeepTo.refl _ _ _⟩ ?_
  rintro next m ys M3 hnext ⟨t, w, u, rfl, rfl, hu, ht', hB, hw, hK⟩
  have hwl := take_id hw
  by_cases hne : t = []
  · subst hne
    simp only [go_sem, bne_self_eq_false]
    rw [fo_nil, List.append_nil] at hw
    subst hw
    refine ht hB (by omega) fun M4 k4 => hQ M4 ?_
    refine hk2.then_to (hK.trans ⟨k4.base, k4.next, fun c h1 h2 => k4.heap c h1 (by simp)⟩) (by omega) fun c hc => .inl (by simp at hc; omega)
  · have hne' : (t != []) = true := by simp [hne]
    simp only [go_sem, hne']
    have hb3 : M3.base = B := by rw [hK.base, hk2.base, hM]
    refine hp hb3 (by omega) (by omega) ?_
    have hpl := pc_le t.length (l := 75 - u) (s := t) (Nat.le_refl _)
    have hpp := pc_pos hne (show 4 ≤ 75 - u by omega)
    rw [fo_pc t.length (Nat.le_refl _) (by omega)] at hw
    generalize pc (75 - u) t = n at *
    rw [subStr_to hpl, subStr_from hpl]
    simp only [go_sem]
    have hx := congrArg List.length hw
    simp only [List.length_append] at hx
    refine hs hB (by omega) fun M4 hB4 k4 => ?_
    by_cases hz : t.drop n = []
    · rw [hz]
      simp only [go_sem, bne_self_eq_false]
      refine hnext _ _ _ (by simp; exact List.length_pos_iff.2 hne) ⟨[], _, 1, rfl, rfl, by omega, Nat.zero_le _, hB4, ?_, hK.trans k4⟩
      rw [if_pos hz] at hw
      rw [fo_nil, ← hw]; simp
    · have hz' : (t.drop n != []) = true := by simp [hz]
      rw [if_neg hz] at hw hx
      simp only [go_sem, hz']
      simp only [List.length_append, List.length_cons, List.length_nil] at hx
      refine hs (s := [13, 10, 32]) hB4 (by simp; omega) fun M5 hB5 k5 => ?_
      refine hnext _ _ _ (drop_lt hne hpp) ⟨_, _, 1, rfl, rfl, by omega, by simp; omega, hB5, ?_, (hK.trans k4).trans k5⟩
      rw [← hw]; simp
end Go.Ab.Vl
/- Lines and their folds, read. By an AI agent. -/
set_option linter.unusedVariables false
set_option linter.unusedSimpArgs false
namespace Go.Ab.Vl
open Go Go.Ab

/-- Before and behind the first byte 10. -/
def nl : List UInt8 → Option (List UInt8 × List UInt8)
  | [] => none
  | c :: t => if c.toNat = 10 then some ([], t) else (nl t).map fun p => (c :: p.1, p.2)
theorem nl_idx : ∀ s : List UInt8, (nl s = none ∧ Lib.indexByte s 10 = -1) ∨ ∃ a b, nl s = some (a, b) ∧ Lib.indexByte s 10 = (a.length : Int) ∧ s = a ++ 10 :: b
  | [] => .inl ⟨rfl, rfl⟩
  | c :: t => by
    by_cases h : c.toNat = 10
    · obtain rfl : c = 10 := UInt8.toNat_inj.1 h
      exact .inr ⟨[], t, by simp [nl], by simp [Lib.indexByte], rfl⟩
    · have hc : (c == (10 : UInt8)) = false := by
        simp only [beq_eq_false_iff_ne, ne_eq]
        intro e; subst e; exact h rfl
      rcases nl_idx t with ⟨h1, h2⟩ | ⟨a, b, h1, h2, h3⟩
      · exact .inl ⟨by simp [nl, h, h1], by simp [Lib.indexByte, hc, h2]⟩
      · refine .inr ⟨c :: a, b, by simp [nl, h, h1], ?_, by rw [h3]; rfl⟩
        have : ((a.length : Int) == -1) = false := by simp
        simp [Lib.indexByte, hc, h2, this]
/-- Without the byte 13 at its end. -/
def strip (s : List UInt8) : List UInt8 := if s.drop (s.length - 1) = [13] then s.take (s.length - 1) else s
theorem strip_cr (a : List UInt8) : strip (a ++ [13]) = a := by simp [strip]
theorem strip_len (a : List UInt8) : (strip a).length ≤ a.length := by
  unfold strip; split
  · simp
  · exact Nat.le_refl _
/-- The lines of a text. -/
def rawL : List UInt8 → List UInt8 → List (List UInt8)
  | cur, [] => if cur = [] then [] else [cur]
  | cur, c :: t => if c.toNat = 10 then strip cur :: rawL [] t else rawL (cur ++ [c]) t
theorem rawL_nl : ∀ (s cur : List UInt8), rawL cur s = match nl s with | some (a, b) => strip (cur ++ a) :: rawL [] b | none => if cur ++ s = [] then [] else [cur ++ s]
  | [], cur => by simp [rawL, nl]
  | c :: t, cur => by
    by_cases h : c.toNat = 10
    · simp [rawL, nl, h]
    · simp only [rawL, nl, if_neg h]
      rw [rawL_nl t (cur ++ [c])]
      cases nl t with
      | none => simp
      | some p => simp
theorem rawL_len : ∀ (s cur : List UInt8), (rawL cur s).length ≤ s.length + 1
  | [], cur => by simp only [rawL]; split <;> simp
  | c :: t, cur => by
    simp only [rawL]
    split
    · have := rawL_len t []
      simp; omega
    · have := rawL_len t (cur ++ [c])
      simp; omega
theorem rawL_crlf {a : List UInt8} (ha : ∀ b ∈ a, b.toNat ≠ 10) : ∀ (cur t : List UInt8), rawL cur (a ++ 13 :: 10 :: t) = (cur ++ a) :: rawL [] t := by
  induction a with
  | nil => intro cur t; simp [rawL, strip_cr]
  | cons c a ih =>
    intro cur t
    have hc := ha c (by simp)
    simp only [List.cons_append, rawL, if_neg hc]
    rw [ih (fun b hb => ha b (by simp [hb]))]
    simp
theorem rawL_go {a : List UInt8} (ha : ∀ b ∈ a, b.toNat ≠ 10) : ∀ (cur t : List UInt8), rawL cur (a ++ t) = rawL (cur ++ a) t := by
  induction a with
  | nil => intro cur t; simp
  | cons c a ih =>
    intro cur t
    have hc := ha c (by simp)
    simp only [List.cons_append, rawL, if_neg hc]
    rw [ih (fun b hb => ha b (by simp [hb]))]
    simp

/-! ### the calls -/
def IndexC (c : CallT) : Prop := ∀ {M : RM} {s : List UInt8} {Q : PostV}, Q (N .i64 (Lib.indexByte s 10)) M → c [St s, St [10]] M Q
theorem index_spec {ci x c1 c2 : CallT} (hi : IdxByteC ci) : IndexC fun args M Q => ∃ a0 a1, args = [a0, a1] ∧ W_internal_stringslite_Index ci x c1 c2 a0 a1 M Q := by
  intro M s Q hQ
  refine ⟨_, _, rfl, ?_⟩
  unfold W_internal_stringslite_Index
  rw [lenStr_St, intW_eql, show ((([10] : List UInt8).length : Int) == 0) = false from rfl]
  simp only [fuseM]
  by_cases h : [10] = s
  · subst h
    simp only [go_sem, beq_self_eq_true]
    exact hQ
  · have h' : (([10] : List UInt8) == s) = false := by simp [h]
    simp only [go_sem, h']
    exact ⟨fun _ => ⟨by omega, 10, rfl, hi hQ⟩, fun h => absurd h (by decide)⟩

def cutA (s : List UInt8) : AV := match nl s with
  | some (a, b) => .tup [St a, St b, Bo true]
  | none => .tup [St s, St [], Bo false]
def CutC (c : CallT) : Prop := ∀ {M : RM} {s : List UInt8} {Q : PostV}, s.length ≤ 1000000000 → Q (cutA s) M → c [St s, St [10]] M Q
theorem sliteCut_spec {ci : CallT} (hi : IndexC ci) : CutC fun args M Q => ∃ a0 a1, args = [a0, a1] ∧ W_internal_stringslite_Cut ci a0 a1 M Q := by
  intro M s Q hl hQ
  refine ⟨_, _, rfl, ?_⟩
  unfold W_internal_stringslite_Cut
  refine hi ?_
  unfold cutA at hQ
  rcases nl_idx s with ⟨h1, h2⟩ | ⟨a, b, h1, h2, h3⟩
  · rw [h1] at hQ
    simp only [go_sem, h2]
    exact ⟨fun h => absurd h (by decide), fun _ => hQ⟩
  · rw [h1] at hQ
    have hsl := congrArg List.length h3
    simp at hsl
    rw [h2, intW_geq, show decide ((a.length : Int) ≥ 0) = true by simp]
    refine ⟨fun _ => ?_, fun h => by cases h⟩
    rw [subStr_to (by omega)]
    simp only [go_sem]
    rw [show IntKind.wrap .i64 ((a.length : Int) + ((1 : Nat) : Int)) = ((a.length + 1 : Nat) : Int) by rw [i64w (by omega) (by omega)]; omega]
    rw [subStr_from (by omega)]
    simp only [go_sem]
    rw [h3]
    rw [show (a ++ 10 :: b).take a.length = a by simp, show (a ++ 10 :: b).drop (a.length + 1) = b by rw [← List.drop_drop]; simp]
    exact hQ
theorem cut_spec {ci : CallT} (hi : CutC ci) : CutC fun args M Q => ∃ a0 a1, args = [a0, a1] ∧ W_strings_Cut ci a0 a1 M Q := by
  intro M s Q hl hQ
  refine ⟨_, _, rfl, ?_⟩
  unfold W_strings_Cut
  refine hi hl ?_
  unfold cutA at hQ ⊢
  cases h : nl s with
  | none => rw [h] at hQ; simpa only [go_sem] using hQ
  | some p => rw [h] at hQ; simpa only [go_sem] using hQ

def HasSuffixC (c : CallT) : Prop := ∀ {M : RM} {s : List UInt8} {Q : PostV}, s.length ≤ 1000000000 → Q (Bo (decide (s.drop (s.length - 1) = [13]))) M → c [St s, St [13]] M Q
theorem hasSuffix_spec : HasSuffixC fun args M Q => ∃ a0 a1, args = [a0, a1] ∧ W_internal_stringslite_HasSuffix a0 a1 M Q := by
  intro M s Q hl hQ
  refine ⟨_, _, rfl, ?_⟩
  unfold W_internal_stringslite_HasSuffix
  simp only [fuseM]
  rw [lenStr_St, lenStr_St, intW_geq]
  by_cases h : s = []
  · subst h
    simp only [go_sem, show decide ((([] : List UInt8).length : Int) ≥ (([13] : List UInt8).length : Int)) = false from rfl]
    exact hQ
  · have hpos := List.length_pos_iff.2 h
    rw [show decide ((s.length : Int) ≥ (([13] : List UInt8).length : Int)) = true by simp; omega]
    simp only [go_sem]
    rw [show IntKind.wrap .i64 ((s.length : Int) - ((1 : Nat) : Int)) = ((s.length - 1 : Nat) : Int) by rw [i64w (by omega) (by omega)]; omega]
    rw [subStr_from (by omega)]
    simp only [go_sem]
    have : (s.drop (s.length - 1) == [13]) = decide (s.drop (s.length - 1) = [13]) := by
      by_cases e : s.drop (s.length - 1) = [13] <;> simp [e]
    rw [this]; exact hQ
def TrimC (c : CallT) : Prop := ∀ {M : RM} {s : List UInt8} {Q : PostV}, s.length ≤ 1000000000 → Q (St (strip s)) M → c [St s, St [13]] M Q
theorem sliteTrim_spec {ch : CallT} (hh : HasSuffixC ch) : TrimC fun args M Q => ∃ a0 a1, args = [a0, a1] ∧ W_internal_stringslite_TrimSuffix ch a0 a1 M Q := by
  intro M s Q hl hQ
  refine ⟨_, _, rfl, ?_⟩
  unfold W_internal_stringslite_TrimSuffix
  refine hh hl ?_
  unfold strip at hQ
  by_cases e : s.drop (s.length - 1) = [13]
  · rw [if_pos e] at hQ
    have hne : s ≠ [] := by intro h; subst h; simp at e
    have hpos := List.length_pos_iff.2 hne
    rw [decide_eq_true e]
    refine ⟨fun _ => ?_, fun h => by cases h⟩
    simp only [go_sem]
    rw [show IntKind.wrap .i64 ((s.length : Int) - ((1 : Nat) : Int)) = ((s.length - 1 : Nat) : Int) by rw [i64w (by omega) (by omega)]; omega]
    rw [subStr_to (by omega)]
    simp only [go_sem]
    exact hQ
  · rw [if_neg e] at hQ
    rw [decide_eq_false e]
    exact ⟨fun h => (by cases h), fun _ => hQ⟩
theorem trim_spec {ch : CallT} (hh : TrimC ch) : TrimC fun args M Q => ∃ a0 a1, args = [a0, a1] ∧ W_strings_TrimSuffix ch a0 a1 M Q := by
  intro M s Q hl hQ
  refine ⟨_, _, rfl, ?_⟩
  unfold W_strings_TrimSuffix
  exact hh hl hQ
end Go.Ab.Vl
/- Lines and their folds: the walks. By an AI agent. -/
set_option linter.unusedVariables false
set_option linter.unusedSimpArgs false
namespace Go.Ab.Vl
open Go Go.Ab

theorem makeB {T B : Nat} {zs : List AV} {K : RB → (Nat → AV) → Prop} (h : K (.row [] false T 0) (fun b => .slc b 0 0 (.ex 0))) : makeW T B zs (N .i64 0) (N .i64 0) K :=
  ⟨_, _, 0, 0, rfl, rfl, by omega, by omega, by simp, by decide, h⟩
theorem app_s {n0 T : Nat} {M : RM} {v : AV} {xs : List (List UInt8)} {x : List UInt8} {K : AV → RM → Prop} (ho : Ow STR M n0 T v xs) (hn : n0 ≤ M.next) (hl : xs.length ≤ 100000000)
    (hK : ∀ v' M', Ow STR M' n0 T v' (xs ++ [x]) → Keep (blkOf v) M M' → (v' = v ∨ ∀ b ∈ blkOf v', M.next ≤ b) → K v' M') :
    rowsW T 1 [St []] [(0, 1, St x)] fun r f => appW T 1 16 [St []] false v (f M.next) (M.push r) K := by
  rw [rows1 (x := St x) (size := 1) rfl rfl rfl]
  exact app_one (E := STR) (a := x) ho hn (Nat.le_refl _) (by omega) (by omega) fun v' M' h1 h2 _ h4 => hK v' M' h1 h2 h4
theorem app_i {n0 T : Nat} {M : RM} {v : AV} {xs : List Int} {x : Int} {K : AV → RM → Prop} (ho : Ow INT M n0 T v xs) (hn : n0 ≤ M.next) (hl : xs.length ≤ 100000000)
    (hK : ∀ v' M', Ow INT M' n0 T v' (xs ++ [x]) → Keep (blkOf v) M M' → (v' = v ∨ ∀ b ∈ blkOf v', M.next ≤ b) → K v' M') :
    rowsW T 1 [N .i64 0] [(0, 1, N .i64 x)] fun r f => appW T 1 8 [N .i64 0] false v (f M.next) (M.push r) K := by
  rw [rows1 (x := N .i64 x) (size := 1) rfl rfl rfl]
  exact app_one (E := INT) (a := x) ho hn (Nat.le_refl _) (by omega) (by omega) fun v' M' h1 h2 _ h4 => hK v' M' h1 h2 h4

def RawC (T : Nat) (c : CallT) : Prop := ∀ {M : RM} {s : List UInt8} {Q : PostV}, s.length ≤ 1000000 → (∀ v M', Ow STR M' M.next T v (rawL [] s) → Keep [] M M' → Q v M') → c [St s] M Q
theorem getElem_last {l : List UInt8} (h : l ≠ []) : l.drop (l.length - 1) = [l[l.length - 1]'(by have := List.length_pos_iff.2 h; omega)] := by
  have hp := List.length_pos_iff.2 h
  rw [List.drop_eq_getElem_cons (by omega), List.drop_eq_nil_of_le (by omega)]

theorem raw_spec {T : Nat} : RawC T fun args M Q => ∃ a0, args = [a0] ∧ W_rolodex_rolodexref23_Raw T a0 M Q := by
  intro M s Q hl hQ
  refine ⟨_, rfl, ?_⟩
  unfold W_rolodex_rolodexref23_Raw
  refine makeB ?_
  simp only [newW_eq, fuseM]
  refine loopW_ind (fun m ys M3 => ∃ (i f : Nat) (v : AV) (out : List (List UInt8)), m = s.length - i ∧ ys = [v, N .i64 f, N .i64 i] ∧ i ≤ s.length ∧ f ≤ i ∧ Ow STR M3 M.next T v out ∧ Keep [] M M3 ∧ out.length ≤ i ∧
    rawL [] s = out ++ rawL ((s.drop f).take (i - f)) (s.drop i)) _
    ⟨0, 0, _, [], rfl, rfl, Nat.zero_le _, Nat.le_refl _, Ow.lit STR M, (Keep.refl _ _).push _, by simp, by simp⟩ ?_
  rintro next m ys M3 hnext ⟨i, f, v, out, rfl, rfl, hile, hfi, ho, hK, hol, hu⟩
  have kk : ∀ {M' : RM}, Keep (blkOf v) M3 M' → Keep [] M M' := fun h => hK.then_new h fun c hc => .inl (ho.blk c hc).1
  simp only [go_sem]
  refine ⟨fun hlt => ?_, fun hge => ?_⟩
  · have hlt : i < s.length := by simpa using hlt
    have hg : s[i]? = some s[i] := List.getElem?_eq_getElem hlt
    have hd := List.drop_eq_getElem_cons hlt
    have htk : (s.drop f).take (i + 1 - f) = (s.drop f).take (i - f) ++ [s[i]] := by
      rw [show i + 1 - f = (i - f) + 1 by omega, List.take_succ_eq_append_getElem (by simp; omega)]
      congr 2
      rw [List.getElem_drop]
      congr 1; omega
    rw [hd] at hu
    simp only [rawL] at hu
    simp only [hg, go_sem, i64_succ (show i < 9223372036854775807 by omega)]
    by_cases h10 : s[i].toNat = 10
    · have e10 : ((s[i].toNat : Int) == 10) = true := by simp [h10]
      rw [if_pos h10] at hu
      have cut : ∀ e : Nat, f ≤ e → e ≤ i → strip ((s.drop f).take (i - f)) = (s.drop f).take (e - f) → getW (subStr (St s) (some (N .i64 f)) (some (N .i64 e))) fun t35 => rowsW T 1 [(St [])] [(0, 1, t35)] fun r_16 f_17 =>
          appW T 1 16 [(St [])] false v (f_17 M3.next) (M3.push r_16) fun t37 M_19 => next [t37, N .i64 ((i + 1 : Nat) : Int), N .i64 ((i + 1 : Nat) : Int)] M_19 := fun e h1 h2 h3 => by
        rw [subStr_some h1 (by omega)]
        simp only [go_sem]
        refine app_s ho hK.next (by omega) fun v' M4 h4 h5 _ => ?_
        refine hnext _ _ _ (by omega) ⟨i + 1, i + 1, v', out ++ [(s.drop f).take (e - f)], rfl, rfl, by omega, Nat.le_refl _, h4, kk h5, by simp; omega, ?_⟩
        rw [hu, ← h3]; simp
      simp only [e10, go_sem]
      by_cases hif : f < i
      · have hne : (s.drop f).take (i - f) ≠ [] := by
          intro e
          have := congrArg List.length e
          simp at this; omega
        have hln : ((s.drop f).take (i - f)).length = i - f := by simp; omega
        have hlast : ((s.drop f).take (i - f)).drop (i - f - 1) = [s[i - 1]] := by
          rw [List.drop_take, List.drop_drop, show i - f - (i - f - 1) = 1 by omega, show f + (i - f - 1) = i - 1 by omega, List.drop_eq_getElem_cons (by omega)]
          rfl
        have hg1 : s[i - 1]? = some s[i - 1] := List.getElem?_eq_getElem (by omega)
        have w1 : IntKind.wrap .i64 ((i : Int) - 1) = ((i - 1 : Nat) : Int) := by rw [i64w (by omega) (by omega)]; omega
        have c1 : ((i : Int) > (f : Int)) := by omega
        simp only [c1, decide_true, go_sem, w1, hg1]
        by_cases h13 : s[i - 1].toNat = 13
        · have e13 : ((s[i - 1].toNat : Int) == 13) = true := by simp [h13]
          simp only [e13, go_sem]
          refine cut (i - 1) (by omega) (by omega) ?_
          unfold strip
          rw [hln, hlast, if_pos (by rw [show s[i - 1] = 13 from UInt8.toNat_inj.1 h13]), List.take_take]
          congr 1; omega
        · have e13 : ((s[i - 1].toNat : Int) == 13) = false := by simp; omega
          simp only [e13, go_sem]
          refine cut i (by omega) (by omega) ?_
          unfold strip
          rw [hln, hlast, if_neg]
          intro e
          have := (List.cons.inj e).1
          rw [this] at h13; exact h13 rfl
      · have c1 : ¬ ((i : Int) > (f : Int)) := by omega
        simp only [c1, decide_false, go_sem]
        refine cut i (by omega) (by omega) ?_
        rw [show i - f = 0 by omega]; rfl
    · have e10 : ((s[i].toNat : Int) == 10) = false := by simp; omega
      rw [if_neg h10] at hu
      simp only [e10, go_sem]
      exact hnext _ _ _ (by omega) ⟨i + 1, f, v, out, rfl, rfl, by omega, by omega, ho, hK, by omega, by rw [hu, htk]⟩
  · have : i = s.length := by simp at hge; omega
    subst this
    rw [List.drop_length, List.take_of_length_le (by simp)] at hu
    simp only [rawL] at hu
    refine ⟨fun h => ?_, fun h => ?_⟩
    · have h : f < s.length := by have := of_decide_eq_true h; omega
      rw [subStr_from hfi]
      simp only [go_sem]
      refine app_s ho hK.next (by omega) fun v' M4 h4 h5 _ => hQ v' M4 ?_ (kk h5)
      rw [if_neg (by intro e; have := congrArg List.length e; simp at this; omega)] at hu
      rw [hu]; exact h4
    · have h : s.length ≤ f := by have := of_decide_eq_false h; omega
      rw [if_pos (List.drop_eq_nil_of_le h), List.append_nil] at hu
      refine hQ v M3 ?_ hK
      rw [hu]; exact ho
end Go.Ab.Vl
/- Unfolding. By an AI agent. -/
set_option linter.unusedVariables false
set_option linter.unusedSimpArgs false
namespace Go.Ab.Vl
open Go Go.Ab

theorem ow_op {M : RM} {n0 T : Nat} {v : AV} {xs : List (List UInt8)} (ho : Ow STR M n0 T v xs) (hne : xs ≠ []) : ∃ b, v = .slc b 0 xs.length (.op 1) ∧ Rw STR M b true T xs ∧ n0 ≤ b := by
  have ho' : Own M n0 T 1 v (STR.row xs) xs.length := ho
  have hp := List.length_pos_iff.2 hne
  generalize hcs : STR.row xs = cs at ho'
  generalize hn : xs.length = n at ho'
  cases ho' with
  | nil => omega
  | ex0 => omega
  | op b n cs h1 h2 h3 h4 => exact ⟨b, rfl, ⟨by rw [h3, hcs], h2⟩, h1⟩
theorem ow_rw {M : RM} {n0 T b : Nat} {xs : List (List UInt8)} (h : Rw STR M b true T xs) (hb : n0 ≤ b) : Ow STR M n0 T (.slc b 0 xs.length (.op 1)) xs :=
  Own.op b _ _ hb h.lt h.heap (by rw [STR.row_len])

def isSp : List UInt8 → Bool
  | [] => false
  | c :: _ => decide (c.toNat = 32) || decide (c.toNat = 9)
def glue (acc : List (List UInt8)) (x : List UInt8) : List (List UInt8) := if acc ≠ [] ∧ isSp x = true then acc.set (acc.length - 1) (acc.getD (acc.length - 1) [] ++ x.drop 1) else acc ++ [x]
theorem glue_len (acc : List (List UInt8)) (x : List UInt8) : (glue acc x).length ≤ acc.length + 1 := by
  unfold glue; split <;> simp

def UnfoldC (T : Nat) (c : CallT) : Prop := ∀ {M : RM} {s : List UInt8} {Q : PostV}, s.length ≤ 1000000 → (∀ v u M', Ow STR M' M.next T v ((rawL [] s).foldl glue []) → Keep [] M M' → Q (.tup [v, u]) M') → c [St s] M Q

theorem cut_line {t : List UInt8} (hne : t ≠ []) : ∃ line0 rest found, cutA t = .tup [St line0, St rest, Bo found] ∧ rest.length < t.length ∧ line0.length + rest.length ≤ t.length ∧ rawL [] t = (if found then strip line0 else line0) :: rawL [] rest := by
  have hp := List.length_pos_iff.2 hne
  rcases nl_idx t with ⟨h1, _⟩ | ⟨a, b, h1, _, h3⟩
  · exact ⟨t, [], false, by simp [cutA, h1], by simpa using hp, by simp, by rw [rawL_nl, h1]; simp [hne, rawL]⟩
  · have := congrArg List.length h3
    simp at this
    exact ⟨a, b, true, by simp [cutA, h1], by omega, by omega, by rw [rawL_nl, h1]; simp⟩

theorem unfold_spec {T TI : Nat} {cc ct : CallT} (hc : CutC cc) (ht : TrimC ct) : UnfoldC T fun args M Q => ∃ a0, args = [a0] ∧ W_rolodex_vline_Unfold cc ct T TI a0 M Q := by
  intro M s Q hl hQ
  refine ⟨_, rfl, ?_⟩
  unfold W_rolodex_vline_Unfold
  simp only [fuseM, joinW_shut]
  refine loopW_ind (fun m ys M3 => ∃ (t : List UInt8) (v u : AV) (acc : List (List UInt8)) (ns : List Int) (k : Int), m = t.length ∧ ys = [St t, v, u, N .i64 k] ∧ acc.length + t.length ≤ s.length ∧ (∀ x ∈ acc, x.length + t.length ≤ s.length) ∧ ns.length + t.length ≤ s.length ∧
      Ow STR M3 M.next T v acc ∧ Ow INT M3 M.next TI u ns ∧ (∀ b ∈ blkOf v, b ∉ blkOf u) ∧ Keep [] M M3 ∧ (rawL [] t).foldl glue acc = (rawL [] s).foldl glue []) _
    ⟨s, nilS, nilS, [], [], 1, rfl, rfl, by simp, by simp, by simp, .nil, .nil, by simp [blkOf], Keep.refl _ _, rfl⟩ ?_
  rintro next m ys M3 hnext ⟨t, v, u, acc, ns, k, rfl, rfl, hal, hxl, hnl, hv, hu, hd, hK, hf⟩
  by_cases hne : t = []
  · subst hne
    simp only [go_sem, bne_self_eq_false]
    simp only [rawL, if_true, List.foldl_nil] at hf
    subst hf
    exact hQ v u M3 hv hK
  have hne' : (t != []) = true := by simp [hne]
  have hpos := List.length_pos_iff.2 hne
  obtain ⟨line0, rest, found, hcut, hrl, hll, hraw⟩ := cut_line hne
  simp only [go_sem, hne']
  refine joinV_open ?_
  refine hc (by omega) ?_
  rw [hcut]
  simp only [go_sem]
  refine joinV_spec (fun xs M' => M' = M3 ∧ xs = [St (if found then strip line0 else line0)]) ?_ ?_
  · rintro _ M0 ⟨hM0, rfl⟩
    subst hM0
    have hlen : (if found then strip line0 else line0).length + rest.length ≤ t.length := by
      split
      · have := strip_len line0; omega
      · exact hll
    generalize (if found then strip line0 else line0) = line at *
    rw [hraw, List.foldl_cons] at hf
    have app : glue acc line = acc ++ [line] → rowsW T 1 [St []] [(0, 1, St line)] fun r f => appW T 1 16 [St []] false v (f M0.next) (M0.push r) fun t54 M_32 =>
        rowsW TI 1 [N IntKind.i64 0] [(0, 1, N IntKind.i64 k)] fun r_33 f_34 => appW TI 1 8 [N IntKind.i64 0] false u (f_34 M_32.next) (M_32.push r_33) fun t58 M_36 =>
          next [St rest, t54, t58, N IntKind.i64 (IntKind.i64.wrap (k + 1))] M_36 := fun hg => by
      refine app_s hv hK.next (by omega) fun v' M4 h4 k4 hv' => ?_
      have hu4 : Ow INT M4 M.next TI u ns := Own.keep hu k4 (fun b hb hb' => hd b hb' hb)
      have hK4 : Keep [] M M4 := hK.then_new k4 fun c hc => .inl (hv.blk c hc).1
      have hd4 : ∀ b ∈ blkOf v', b ∉ blkOf u := fun b hb hb' => by
        rcases hv' with rfl | hv'
        · exact hd b hb hb'
        · have h1 := hv' b hb
          have h2 := (hu.blk b hb').2
          omega
      refine app_i hu4 hK4.next (by omega) fun u' M5 h5 k5 hu' => ?_
      have hv5 : Ow STR M5 M.next T v' (acc ++ [line]) := Own.keep h4 k5 hd4
      have hd5 : ∀ b ∈ blkOf v', b ∉ blkOf u' := fun b hb hb' => by
        rcases hu' with rfl | hu'
        · exact hd4 b hb hb'
        · have h1 := hu' b hb'
          have h2 := (h4.blk b hb).2
          omega
      refine hnext _ _ _ hrl ⟨rest, v', u', _, _, _, rfl, rfl, by simp; omega, ?_, by simp; omega, hv5, h5, hd5, hK4.then_new k5 fun c hc => .inl (hu4.blk c hc).1, by rw [← hg]; exact hf⟩
      intro x hx
      rcases List.mem_append.1 hx with hx | hx
      · have := hxl x hx; omega
      · have : x = line := by simpa using hx
        subst this; omega
    by_cases ha : acc = []
    · rw [SlR.len hv.slR]
      subst ha
      rw [show ((([] : List (List UInt8)).length : Nat) : Int) = 0 from rfl, intW_gtr, show decide ((0 : Int) > 0) = false from rfl]
      simp only [go_sem]
      exact app (by simp [glue])
    have hap := List.length_pos_iff.2 ha
    rw [SlR.len hv.slR]
    have e0 : decide (((acc.length : Nat) : Int) > 0) = true := by simp; omega
    obtain ⟨b, rfl, hrw, hb⟩ := ow_op hv ha
    cases line with
    | nil =>
      simp only [go_sem, e0, bne_self_eq_false]
      exact app (by simp [glue, isSp])
    | cons c r =>
      have e1 : (c :: r != []) = true := by simp
      have w1 : IntKind.wrap .i64 ((acc.length : Int) - 1) = ((acc.length - 1 : Nat) : Int) := by rw [i64w (by omega) (by omega)]; omega
      have hld := hrw.load1 (i := acc.length - 1) (by omega)
      have getl : acc.getD (acc.length - 1) [] = acc[acc.length - 1]'(by omega) := by
        rw [List.getD_eq_getElem?_getD, List.getElem?_eq_getElem (by omega)]; rfl
      have set : isSp (c :: r) = true → (0 ≤ IntKind.i64.wrap (↑acc.length - 1) ∧ IntKind.i64.wrap (↑acc.length - 1) < ↑acc.length ∧
          ∃ v, M0.cell b (IntKind.i64.wrap (↑acc.length - 1)).toNat = some v ∧ getW (subStr (St (c :: r)) (some (N IntKind.i64 1)) none) fun t48 => strW BinOp.add v t48 fun t49 =>
            0 ≤ IntKind.i64.wrap (↑acc.length - 1) ∧ IntKind.i64.wrap (↑acc.length - 1) < ↑acc.length ∧ t49.cells.length = 1 ∧ ∃ M', M0.stores b (IntKind.i64.wrap (↑acc.length - 1)).toNat t49.cells = some M' ∧
              next [St rest, AV.slc b 0 acc.length (Cap.op 1), u, N IntKind.i64 (IntKind.i64.wrap (k + 1))] M') := fun hs => by
        obtain ⟨hst, hrw'⟩ := hrw.store1 (i := acc.length - 1) (by omega) (acc.getD (acc.length - 1) [] ++ r)
        rw [w1, Int.toNat_natCast]
        refine ⟨by omega, by omega, _, hld, ?_⟩
        rw [show subStr (St (c :: r)) (some (N .i64 1)) none = some (St r) from subStr_from (l := 1) (by simp) .i64]
        rw [getl] at hst hrw'
        simp only [go_sem]
        have hxa := hxl _ (List.getElem_mem (l := acc) (n := acc.length - 1) (by omega))
        have hlr : r.length + 1 + rest.length ≤ t.length := by simpa using hlen
        refine ⟨by omega, by omega, _, hst, ?_⟩
        have hv4 := ow_rw hrw' hb
        rw [List.length_set] at hv4
        have hkp : Keep [b] M0 (M0.put b (.row (STR.row (acc.set (acc.length - 1) (acc[acc.length - 1]'(by omega) ++ r))) true T 0)) := (Keep.refl _ _).put _ (.inr (by simp))
        refine hnext _ _ _ hrl ⟨rest, _, u, _, ns, _, rfl, rfl, by simp; omega, ?_, by omega, hv4, Own.keep hu hkp ?_, hd, hK.put _ (.inl hb), ?_⟩
        · intro x hx
          rcases List.mem_or_eq_of_mem_set hx with hx | rfl
          · have := hxl x hx; omega
          · simp; omega
        · intro b' hb' hm
          have : b' = b := by simpa using hm
          subst this
          exact hd b' (by simp [blkOf]) hb'
        · rw [glue, if_pos ⟨ha, hs⟩, getl] at hf; exact hf
      simp only [go_sem, e0, e1]
      refine ⟨by omega, c, rfl, ?_⟩
      by_cases h32 : c.toNat = 32
      · have e32 : ((c.toNat : Int) == 32) = true := by simp [h32]
        simp only [e32, go_sem]
        exact set (by simp [isSp, h32])
      · have e32 : ((c.toNat : Int) == 32) = false := by simp; omega
        simp only [e32, go_sem]
        refine ⟨by omega, c, rfl, ?_⟩
        by_cases h9 : c.toNat = 9
        · have e9 : ((c.toNat : Int) == 9) = true := by simp [h9]
          simp only [e9, go_sem]
          exact set (by simp [isSp, h9])
        · have e9 : ((c.toNat : Int) == 9) = false := by simp; omega
          simp only [e9, go_sem]
          exact app (by simp [glue, isSp, h32, h9])
  · intro J hJ
    cases found with
    | true =>
      refine ⟨fun _ => ht (by omega) (hJ _ _ ⟨rfl, rfl⟩), fun h => by cases h⟩
    | false => exact ⟨fun h => (by cases h), fun _ => hJ _ _ ⟨rfl, rfl⟩⟩
end Go.Ab.Vl
/- The law of folding, in plain terms. By an AI agent. -/
set_option linter.unusedVariables false
set_option linter.unusedSimpArgs false
namespace Go.Ab.Vl
open Go Go.Ab

def No10 (s : List UInt8) : Prop := ∀ b ∈ s, b.toNat ≠ 10
theorem No10.take {s : List UInt8} (h : No10 s) (n : Nat) : No10 (s.take n) := fun b hb => h b (List.mem_of_mem_take hb)
theorem No10.drop {s : List UInt8} (h : No10 s) (n : Nat) : No10 (s.drop n) := fun b hb => h b (List.mem_of_mem_drop hb)
theorem No10.sp {s : List UInt8} (h : No10 s) : No10 (32 :: s) := fun b hb => by
  rcases List.mem_cons.1 hb with rfl | hb
  · decide
  · exact h b hb

/-- A step of the lines of a folded text. -/
theorem raw_end (cur : List UInt8) (u : Nat) : rawL cur (fo u [] ++ [13, 10]) = [cur] := by
  have := rawL_crlf (a := []) (by simp) cur []
  simpa [fo_nil, rawL] using this
theorem raw_break {u : Nat} {s : List UInt8} (hne : s ≠ []) (h : 75 < u + rs s) (hs : No10 s) (cur : List UInt8) :
    rawL cur (fo u s ++ [13, 10]) = cur :: rawL (32 :: s.take (rs s)) (fo (1 + rs s) (s.drop (rs s)) ++ [13, 10]) := by
  rw [fo_break hne h]
  have h1 := rawL_crlf (a := []) (by simp) cur (32 :: s.take (rs s) ++ (fo (1 + rs s) (s.drop (rs s)) ++ [13, 10]))
  have h2 := rawL_go (hs.take (rs s)).sp [] (fo (1 + rs s) (s.drop (rs s)) ++ [13, 10])
  rw [List.nil_append] at h2
  rw [← h2]
  simpa using h1
theorem raw_more {u : Nat} {s : List UInt8} (hne : s ≠ []) (h : u + rs s ≤ 75) (hs : No10 s) (cur : List UInt8) :
    rawL cur (fo u s ++ [13, 10]) = rawL (cur ++ s.take (rs s)) (fo (u + rs s) (s.drop (rs s)) ++ [13, 10]) := by
  rw [fo_more hne h, List.append_assoc, rawL_go (hs.take (rs s))]

theorem lines_ok : ∀ (n : Nat) {u : Nat} {s cur : List UInt8}, s.length ≤ n → cur.length = u → u ≤ 75 → No10 s → ∀ L ∈ rawL cur (fo u s ++ [13, 10]), L.length ≤ 75 ∧ (fmd s = true → fmd cur = true → fmd L = true)
  | n, u, s, cur, hn, hc, hu, hs, L, hL => by
    by_cases hne : s = []
    · subst hne
      rw [raw_end] at hL
      have : L = cur := by simpa using hL
      subst this
      exact ⟨by omega, fun _ h => h⟩
    have h1 := rs_pos hne
    have h2 := rs_le hne
    cases n with
    | zero => exact absurd (List.eq_nil_of_length_eq_zero (by omega)) hne
    | succ n =>
      by_cases h : 75 < u + rs s
      · rw [raw_break hne h hs] at hL
        rcases List.mem_cons.1 hL with rfl | hL
        · exact ⟨by omega, fun _ h => h⟩
        · have := lines_ok n (u := 1 + rs s) (s := s.drop (rs s)) (cur := 32 :: s.take (rs s)) (by simp; omega) (by simp; omega) (by omega) (hs.drop _) L hL
          exact ⟨this.1, fun hf _ => this.2 (fmd_drop hne hf) (fmd_sp (fmd_take hne hf))⟩
      · rw [raw_more hne (by omega) hs] at hL
        have := lines_ok n (u := u + rs s) (s := s.drop (rs s)) (cur := cur ++ s.take (rs s)) (by simp; omega) (by simp; omega) (by omega) (hs.drop _) L hL
        exact ⟨this.1, fun hf hcf => this.2 (fmd_drop hne hf) (fmd_append cur.length (Nat.le_refl _) hcf (fmd_take hne hf))⟩

theorem glue_one (p c : List UInt8) : glue [p] (32 :: c) = [p ++ c] := by simp [glue, isSp]
theorem glue_back : ∀ (n : Nat) {u : Nat} {s p c : List UInt8}, s.length ≤ n → No10 s → (rawL (32 :: c) (fo u s ++ [13, 10])).foldl glue [p] = [p ++ c ++ s]
  | n, u, s, p, c, hn, hs => by
    by_cases hne : s = []
    · subst hne
      rw [raw_end]
      simp [glue_one]
    have h1 := rs_pos hne
    have h2 := rs_le hne
    cases n with
    | zero => exact absurd (List.eq_nil_of_length_eq_zero (by omega)) hne
    | succ n =>
      by_cases h : 75 < u + rs s
      · rw [raw_break hne h hs, List.foldl_cons, glue_one, glue_back n (by simp; omega) (hs.drop _), List.append_assoc, List.take_append_drop]
      · rw [raw_more hne (by omega) hs, List.cons_append, glue_back n (by simp; omega) (hs.drop _)]
        simp
theorem glue_all : ∀ (n : Nat) {u : Nat} {s c : List UInt8}, s.length ≤ n → No10 s → (rawL c (fo u s ++ [13, 10])).foldl glue [] = [c ++ s]
  | n, u, s, c, hn, hs => by
    by_cases hne : s = []
    · subst hne
      rw [raw_end]
      simp [glue]
    have h1 := rs_pos hne
    have h2 := rs_le hne
    cases n with
    | zero => exact absurd (List.eq_nil_of_length_eq_zero (by omega)) hne
    | succ n =>
      by_cases h : 75 < u + rs s
      · rw [raw_break hne h hs, List.foldl_cons, show glue [] c = [c] by simp [glue], glue_back n (by simp; omega) (hs.drop _), List.append_assoc, List.take_append_drop]
      · rw [raw_more hne (by omega) hs, glue_all n (by simp; omega) (hs.drop _)]
        simp

def FoldBC (B : Base) (c : CallT) : Prop := ∀ {M : RM} {s : List UInt8} {Q : PostV}, M.base = B → s.length ≤ 1000000 → (∀ M', Keep [] M M' → Q (St (fo 0 s)) M') → c [St s] M Q

theorem folds_law {T : Nat} {M : RM} {ca cf crf cr cfm cu : CallT} (ha : AwakeC M.base ca) (hf : FoldBC M.base cf) (hrf : FoldC crf) (hr : RawC T cr) (hfm : FormedC cfm) (hu : UnfoldC T cu) {s : List UInt8} {Q : PostV} (hQ : ∀ M', Q (Bo true) M') :
    W_rolodex_rolodexlaw23_VlineFolds ca cf crf cr cfm cu (St s) M Q := by
  unfold W_rolodex_rolodexlaw23_VlineFolds
  simp only [fuseM]
  refine ha rfl ?_
  simp only [go_sem]
  refine ⟨fun _ => hQ _, fun hl => ?_⟩
  have hl : s.length ≤ 2000 := by simp at hl; omega
  have hfl := fo_len s.length (u := 0) (s := s) (Nat.le_refl _)
  refine hf rfl (by omega) fun M1 k1 => ?_
  refine hrf (by omega) fun M2 k2 => ?_
  simp only [go_sem, bne_self_eq_false]
  refine loopW_ind (fun m ys M' => ∃ i : Nat, m = s.length - i ∧ ys = [N .i64 i] ∧ i ≤ s.length ∧ No10 (s.take i)) _ ⟨0, rfl, rfl, Nat.zero_le _, by simp [No10]⟩ ?_
  rintro next m ys M3 hnext ⟨i, rfl, rfl, hi, h10⟩
  simp only [go_sem]
  refine ⟨fun hlt => ?_, fun hge => ?_⟩
  · have hlt : i < s.length := by simpa using hlt
    have hg : s[i]? = some s[i] := List.getElem?_eq_getElem hlt
    have htk : s.take (i + 1) = s.take i ++ [s[i]] := List.take_succ_eq_append_getElem hlt
    generalize s[i] = c at *
    simp only [hg, go_sem, i64_succ (show i < 9223372036854775807 by omega)]
    by_cases c10 : c.toNat = 10
    · have e10 : ((c.toNat : Int) == 10) = true := by simp [c10]
      simp only [e10, go_sem]
      exact hQ _
    · have e10 : ((c.toNat : Int) == 10) = false := by simp; omega
      have fin : next [N .i64 ((i + 1 : Nat) : Int)] M3 := hnext _ _ _ (by omega) ⟨i + 1, rfl, rfl, by omega, by
        rw [htk]
        intro b hb
        rcases List.mem_append.1 hb with hb | hb
        · exact h10 b hb
        · have : b = c := by simpa using hb
          subst this; exact c10⟩
      simp only [e10, go_sem]
      exact ⟨fun _ => hQ _, fun _ => fin⟩
  · have : i = s.length := by simp at hge; omega
    subst this
    rw [List.take_length] at h10
    refine ⟨by simp; omega, ?_⟩
    refine hr (by simp; omega) fun v M4 ho4 k4 => ?_
    have hX := fun L hL => lines_ok s.length (u := 0) (s := s) (cur := []) (Nat.le_refl _) rfl (by omega) h10 L hL
    have hG := glue_all s.length (u := 0) (s := s) (c := []) (Nat.le_refl _) h10
    have hXl := rawL_len (fo 0 s ++ [13, 10]) []
    have hlF : (fo 0 s ++ [13, 10]).length ≤ 8002 := by simp; omega
    generalize hXX : rawL [] (fo 0 s ++ [13, 10]) = X at *
    have hv := ho4.slR
    refine loopW_ind (fun m ys M5 => ∃ i : Nat, m = X.length - i ∧ ys = [N .i64 i] ∧ i ≤ X.length ∧ Keep [] M4 M5) _ ⟨0, rfl, rfl, Nat.zero_le _, Keep.refl _ _⟩ ?_
    rintro next m ys M5 hnext ⟨i, rfl, rfl, hi, k5⟩
    have hv5 : Sl STR M5 v X := hv.keep k5 (by simp)
    rw [SlR.len hv5]
    simp only [nthD_zero, intW_lss, condW_Bo]
    refine ⟨fun hlt => ?_, fun _ => ?_⟩
    · have hlt : i < X.length := by simpa using hlt
      obtain ⟨b, o, _, _, hidx, hc⟩ := Sl.at1 hv5 (i := i) i hlt
      have hLL := hX X[i] (List.getElem_mem hlt)
      generalize X[i] = L at *
      have c75 : ¬ ((L.length : Int) > 75) := by omega
      rw [hidx]
      simp only [go_sem, hc _ rfl, c75, decide_false]
      refine hfm (by omega) ?_
      have fin : next [N .i64 ((i + 1 : Nat) : Int)] M5 := hnext _ _ _ (by omega) ⟨i + 1, rfl, rfl, by omega, k5⟩
      have w1 := i64_succ (show i < 9223372036854775807 by omega)
      cases hfs : fmd s with
      | false =>
        simp only [go_sem, w1]
        exact fin
      | true =>
        simp only [go_sem, w1, hidx, hc _ rfl]
        refine hfm (by omega) ?_
        rw [hLL.2 hfs fmd_nil]
        simp only [go_sem, w1]
        exact fin
    · refine ⟨by simp; omega, ?_⟩
      refine hu (by omega) fun v' u' M6 ho6 k6 => ?_
      rw [hXX, hG, List.nil_append] at ho6
      have fin : lenW v' fun t83 => intW BinOp.eql t83 (N IntKind.i64 1) fun t84 => guardM t84 true (fun k' => idxS v' (N IntKind.i64 0) 1 fun t87 => load1 M6 t87 fun t88 => strW BinOp.eql t88 (St s) fun t90 => k' t90 M6) (fun k => k AV.undef M6) fun t90_77 M_78 =>
          pickW t84 t90_77 (Bo false) fun t91 => Q t91 M_78 := by
        obtain ⟨b, o, _, _, hidx, hc⟩ := Sl.at1 ho6.slR (i := 0) 0 (by simp)
        rw [SlR.len ho6.slR]
        have e1 : (((([s] : List (List UInt8)).length : Nat) : Int) == 1) = true := rfl
        simp only [intW_eql, go_sem, hidx]
        rw [if_pos (show (((1 : Nat) : Int) == 1) = true from rfl)]
        refine ⟨_, hc _ rfl, ?_⟩
        simp only [strW_eql, List.getElem_cons_zero, beq_self_eq_true]
        rw [if_pos (show (((1 : Nat) : Int) == 1) = true from rfl)]
        exact hQ _
      simp only [go_sem]
      clear hfl hX hG hnext
      cases s with
      | nil =>
        simp only [List.length_nil, show decide (((0 : Nat) : Int) > 0) = false from rfl]
        exact ⟨fun h => (by cases h), fun _ => fin⟩
      | cons c r =>
        have e0 : decide ((((c :: r).length : Nat) : Int) > 0) = true := by simp
        simp only [e0, if_true]
        refine ⟨by omega, c, rfl, ?_⟩
        by_cases h32 : c.toNat = 32
        · have e32 : ((c.toNat : Int) == 32) = true := by simp [h32]
          simp only [e32, Bool.true_eq_false, if_true, if_false]
          exact ⟨fun _ => hQ _, fun h => (by cases h)⟩
        · have e32 : ((c.toNat : Int) == 32) = false := by simp; omega
          simp only [e32, Bool.false_eq_true, if_true, if_false]
          refine ⟨by omega, c, rfl, ?_⟩
          exact ⟨fun _ => hQ _, fun _ => fin⟩
end Go.Ab.Vl
/- Unfolding, with the lines' numbers. By an AI agent. -/
set_option linter.unusedVariables false
set_option linter.unusedSimpArgs false
namespace Go.Ab.Vl
open Go Go.Ab

/-- The unfolded lines and where they begin. -/
def unfN (acc : List (List UInt8)) (ns : List Int) (k : Int) : List (List UInt8) → List (List UInt8) × List Int
  | [] => (acc, ns)
  | x :: xs => unfN (glue acc x) (if acc ≠ [] ∧ isSp x = true then ns else ns ++ [k]) (IntKind.i64.wrap (k + 1)) xs
theorem unfN_fst : ∀ (xs : List (List UInt8)) (acc : List (List UInt8)) (ns : List Int) (k : Int), (unfN acc ns k xs).1 = xs.foldl glue acc
  | [], _, _, _ => rfl
  | x :: xs, acc, ns, k => by rw [unfN, unfN_fst xs, List.foldl_cons]

def UnfoldNC (T TI : Nat) (c : CallT) : Prop := ∀ {M : RM} {s : List UInt8} {Q : PostV}, s.length ≤ 1000000 →
  (∀ v u M', Ow STR M' M.next T v (unfN [] [] 1 (rawL [] s)).1 → Ow INT M' M.next TI u (unfN [] [] 1 (rawL [] s)).2 → (∀ b ∈ blkOf v, b ∉ blkOf u) → Keep [] M M' → Q (.tup [v, u]) M') → c [St s] M Q

theorem unfoldN_spec {T TI : Nat} {cc ct : CallT} (hc : CutC cc) (ht : TrimC ct) : UnfoldNC T TI fun args M Q => ∃ a0, args = [a0] ∧ W_rolodex_vline_Unfold cc ct T TI a0 M Q := by
  intro M s Q hl hQ
  refine ⟨_, rfl, ?_⟩
  unfold W_rolodex_vline_Unfold
  simp only [fuseM, joinW_shut]
  refine loopW_ind (fun m ys M3 => ∃ (t : List UInt8) (v u : AV) (acc : List (List UInt8)) (ns : List Int) (k : Int), m = t.length ∧ ys = [St t, v, u, N .i64 k] ∧ acc.length + t.length ≤ s.length ∧ (∀ x ∈ acc, x.length + t.length ≤ s.length) ∧ ns.length + t.length ≤ s.length ∧
      Ow STR M3 M.next T v acc ∧ Ow INT M3 M.next TI u ns ∧ (∀ b ∈ blkOf v, b ∉ blkOf u) ∧ Keep [] M M3 ∧ unfN acc ns k (rawL [] t) = unfN [] [] 1 (rawL [] s)) _
    ⟨s, nilS, nilS, [], [], 1, rfl, rfl, by simp, by simp, by simp, .nil, .nil, by simp [blkOf], Keep.refl _ _, rfl⟩ ?_
  rintro next m ys M3 hnext ⟨t, v, u, acc, ns, k, rfl, rfl, hal, hxl, hnl, hv, hu, hd, hK, hf⟩
  by_cases hne : t = []
  · subst hne
    simp only [go_sem, bne_self_eq_false]
    simp only [rawL, if_true, unfN] at hf
    exact hQ v u M3 (by rw [← hf]; exact hv) (by rw [← hf]; exact hu) hd hK
  have hne' : (t != []) = true := by simp [hne]
  have hpos := List.length_pos_iff.2 hne
  obtain ⟨line0, rest, found, hcut, hrl, hll, hraw⟩ := cut_line hne
  simp only [go_sem, hne']
  refine joinV_open ?_
  refine hc (by omega) ?_
  rw [hcut]
  simp only [go_sem]
  refine joinV_spec (fun xs M' => M' = M3 ∧ xs = [St (if found then strip line0 else line0)]) ?_ ?_
  · rintro _ M0 ⟨hM0, rfl⟩
    subst hM0
    have hlen : (if found then strip line0 else line0).length + rest.length ≤ t.length := by
      split
      · have := strip_len line0; omega
      · exact hll
    generalize (if found then strip line0 else line0) = line at *
    rw [hraw, unfN] at hf
    have app : glue acc line = acc ++ [line] ∧ ¬ (acc ≠ [] ∧ isSp line = true) → rowsW T 1 [St []] [(0, 1, St line)] fun r f => appW T 1 16 [St []] false v (f M0.next) (M0.push r) fun t54 M_32 =>
        rowsW TI 1 [N IntKind.i64 0] [(0, 1, N IntKind.i64 k)] fun r_33 f_34 => appW TI 1 8 [N IntKind.i64 0] false u (f_34 M_32.next) (M_32.push r_33) fun t58 M_36 =>
          next [St rest, t54, t58, N IntKind.i64 (IntKind.i64.wrap (k + 1))] M_36 := fun hg => by
      refine app_s hv hK.next (by omega) fun v' M4 h4 k4 hv' => ?_
      have hu4 : Ow INT M4 M.next TI u ns := Own.keep hu k4 (fun b hb hb' => hd b hb' hb)
      have hK4 : Keep [] M M4 := hK.then_new k4 fun c hc => .inl (hv.blk c hc).1
      have hd4 : ∀ b ∈ blkOf v', b ∉ blkOf u := fun b hb hb' => by
        rcases hv' with rfl | hv'
        · exact hd b hb hb'
        · have h1 := hv' b hb
          have h2 := (hu.blk b hb').2
          omega
      refine app_i hu4 hK4.next (by omega) fun u' M5 h5 k5 hu' => ?_
      have hv5 : Ow STR M5 M.next T v' (acc ++ [line]) := Own.keep h4 k5 hd4
      have hd5 : ∀ b ∈ blkOf v', b ∉ blkOf u' := fun b hb hb' => by
        rcases hu' with rfl | hu'
        · exact hd4 b hb hb'
        · have h1 := hu' b hb'
          have h2 := (h4.blk b hb).2
          omega
      refine hnext _ _ _ hrl ⟨rest, v', u', _, _, _, rfl, rfl, by simp; omega, ?_, by simp; omega, hv5, h5, hd5, hK4.then_new k5 fun c hc => .inl (hu4.blk c hc).1, by rw [hg.1, if_neg hg.2] at hf; exact hf⟩
      intro x hx
      rcases List.mem_append.1 hx with hx | hx
      · have := hxl x hx; omega
      · have : x = line := by simpa using hx
        subst this; omega
    by_cases ha : acc = []
    · rw [SlR.len hv.slR]
      subst ha
      rw [show ((([] : List (List UInt8)).length : Nat) : Int) = 0 from rfl, intW_gtr, show decide ((0 : Int) > 0) = false from rfl]
      simp only [go_sem]
      exact app (by simp [glue])
    have hap := List.length_pos_iff.2 ha
    rw [SlR.len hv.slR]
    have e0 : decide (((acc.length : Nat) : Int) > 0) = true := by simp; omega
    obtain ⟨b, rfl, hrw, hb⟩ := ow_op hv ha
    cases line with
    | nil =>
      simp only [go_sem, e0, bne_self_eq_false]
      exact app (by simp [glue, isSp])
    | cons c r =>
      have e1 : (c :: r != []) = true := by simp
      have w1 : IntKind.wrap .i64 ((acc.length : Int) - 1) = ((acc.length - 1 : Nat) : Int) := by rw [i64w (by omega) (by omega)]; omega
      have hld := hrw.load1 (i := acc.length - 1) (by omega)
      have getl : acc.getD (acc.length - 1) [] = acc[acc.length - 1]'(by omega) := by
        rw [List.getD_eq_getElem?_getD, List.getElem?_eq_getElem (by omega)]; rfl
      have set : isSp (c :: r) = true → (0 ≤ IntKind.i64.wrap (↑acc.length - 1) ∧ IntKind.i64.wrap (↑acc.length - 1) < ↑acc.length ∧
          ∃ v, M0.cell b (IntKind.i64.wrap (↑acc.length - 1)).toNat = some v ∧ getW (subStr (St (c :: r)) (some (N IntKind.i64 1)) none) fun t48 => strW BinOp.add v t48 fun t49 =>
            0 ≤ IntKind.i64.wrap (↑acc.length - 1) ∧ IntKind.i64.wrap (↑acc.length - 1) < ↑acc.length ∧ t49.cells.length = 1 ∧ ∃ M', M0.stores b (IntKind.i64.wrap (↑acc.length - 1)).toNat t49.cells = some M' ∧
              next [St rest, AV.slc b 0 acc.length (Cap.op 1), u, N IntKind.i64 (IntKind.i64.wrap (k + 1))] M') := fun hs => by
        obtain ⟨hst, hrw'⟩ := hrw.store1 (i := acc.length - 1) (by omega) (acc.getD (acc.length - 1) [] ++ r)
        rw [w1, Int.toNat_natCast]
        refine ⟨by omega, by omega, _, hld, ?_⟩
        rw [show subStr (St (c :: r)) (some (N .i64 1)) none = some (St r) from subStr_from (l := 1) (by simp) .i64]
        rw [getl] at hst hrw'
        simp only [go_sem]
        have hxa := hxl _ (List.getElem_mem (l := acc) (n := acc.length - 1) (by omega))
        have hlr : r.length + 1 + rest.length ≤ t.length := by simpa using hlen
        refine ⟨by omega, by omega, _, hst, ?_⟩
        have hv4 := ow_rw hrw' hb
        rw [List.length_set] at hv4
        have hkp : Keep [b] M0 (M0.put b (.row (STR.row (acc.set (acc.length - 1) (acc[acc.length - 1]'(by omega) ++ r))) true T 0)) := (Keep.refl _ _).put _ (.inr (by simp))
        refine hnext _ _ _ hrl ⟨rest, _, u, _, ns, _, rfl, rfl, by simp; omega, ?_, by omega, hv4, Own.keep hu hkp ?_, hd, hK.put _ (.inl hb), ?_⟩
        · intro x hx
          rcases List.mem_or_eq_of_mem_set hx with hx | rfl
          · have := hxl x hx; omega
          · simp; omega
        · intro b' hb' hm
          have : b' = b := by simpa using hm
          subst this
          exact hd b' (by simp [blkOf]) hb'
        · rw [if_pos ⟨ha, hs⟩, glue, if_pos ⟨ha, hs⟩, getl] at hf; exact hf
      simp only [go_sem, e0, e1]
      refine ⟨by omega, c, rfl, ?_⟩
      by_cases h32 : c.toNat = 32
      · have e32 : ((c.toNat : Int) == 32) = true := by simp [h32]
        simp only [e32, go_sem]
        exact set (by simp [isSp, h32])
      · have e32 : ((c.toNat : Int) == 32) = false := by simp; omega
        simp only [e32, go_sem]
        refine ⟨by omega, c, rfl, ?_⟩
        by_cases h9 : c.toNat = 9
        · have e9 : ((c.toNat : Int) == 9) = true := by simp [h9]
          simp only [e9, go_sem]
          exact set (by simp [isSp, h9])
        · have e9 : ((c.toNat : Int) == 9) = false := by simp; omega
          simp only [e9, go_sem]
          exact app (by simp [glue, isSp, h32, h9])
  · intro J hJ
    cases found with
    | true =>
      refine ⟨fun _ => ht (by omega) (hJ _ _ ⟨rfl, rfl⟩), fun h => by cases h⟩
    | false => exact ⟨fun h => (by cases h), fun _ => hJ _ _ ⟨rfl, rfl⟩⟩
end Go.Ab.Vl
/- Prefixes, small letters, plain bytes: the walks. By an AI agent. -/
set_option linter.unusedVariables false
set_option linter.unusedSimpArgs false
namespace Go.Ab.Vl
open Go Go.Ab

/-- A first byte. -/
def headIs (x : UInt8) : List UInt8 → Bool
  | [] => false
  | c :: _ => c == x
def PrefixC (c : CallT) : Prop := ∀ {M : RM} {s : List UInt8} {x : UInt8} {Q : PostV}, s.length ≤ 1000000000 → Q (Bo (headIs x s)) M → c [St s, St [x]] M Q
theorem slitePrefix_spec : PrefixC fun args M Q => ∃ a0 a1, args = [a0, a1] ∧ W_internal_stringslite_HasPrefix a0 a1 M Q := by
  intro M s x Q hl hQ
  refine ⟨_, _, rfl, ?_⟩
  unfold W_internal_stringslite_HasPrefix
  simp only [fuseM]
  rw [lenStr_St, lenStr_St, intW_geq]
  cases s with
  | nil =>
    rw [show decide ((([] : List UInt8).length : Int) ≥ (([x] : List UInt8).length : Int)) = false from rfl]
    simp only [go_sem]
    exact hQ
  | cons c r =>
    rw [show decide (((c :: r).length : Int) ≥ (([x] : List UInt8).length : Int)) = true by simp; omega]
    simp only [go_sem]
    rw [show subStr (St (c :: r)) none (some (N .i64 ((1 : Nat) : Int))) = some (St [c]) from subStr_to (h := 1) (by simp) .i64]
    simp only [go_sem]
    rw [show (([c] : List UInt8) == [x]) = (c == x) by simp]
    exact hQ
theorem prefix_spec {ch : CallT} (hh : PrefixC ch) : PrefixC fun args M Q => ∃ a0 a1, args = [a0, a1] ∧ W_strings_HasPrefix ch a0 a1 M Q := by
  intro M s x Q hl hQ
  refine ⟨_, _, rfl, ?_⟩
  unfold W_strings_HasPrefix
  exact hh hl hQ

def plainB (c : UInt8) : Bool := (decide (32 ≤ c.toNat) && decide (c.toNat ≠ 127)) || decide (c.toNat = 9)
def PlainC (c : CallT) : Prop := ∀ {M : RM} {x : UInt8} {Q : PostV}, Q (Bo (plainB x)) M → c [By x] M Q
theorem plain_spec : PlainC fun args M Q => ∃ a0, args = [a0] ∧ W_rolodex_vline_plain a0 M Q := by
  intro M x Q hQ
  refine ⟨_, rfl, ?_⟩
  unfold W_rolodex_vline_plain
  simp only [fuseM]
  unfold plainB at hQ
  by_cases h1 : 32 ≤ x.toNat
  · have e1 : decide ((x.toNat : Int) ≥ 32) = true := by simp; omega
    rw [intW_geq, e1]
    by_cases h2 : x.toNat = 127
    · have e2 : ((x.toNat : Int) != 127) = false := by simp [h2]
      have e9 : ((x.toNat : Int) == 9) = false := by simp; omega
      simp only [go_sem, e2, e9]
      simpa [h2] using hQ
    · have e2 : ((x.toNat : Int) != 127) = true := by simp; omega
      simp only [go_sem, e2]
      simpa [h1, h2] using hQ
  · have e1 : decide ((x.toNat : Int) ≥ 32) = false := by simp; omega
    rw [intW_geq, e1]
    by_cases h9 : x.toNat = 9
    · have e9 : ((x.toNat : Int) == 9) = true := by simp [h9]
      simp only [go_sem, e9]
      simpa [h1, h9] using hQ
    · have e9 : ((x.toNat : Int) == 9) = false := by simp; omega
      simp only [go_sem, e9]
      simpa [h1, h9] using hQ
end Go.Ab.Vl
/- Small letters: the walk. By an AI agent. -/
set_option linter.unusedVariables false
set_option linter.unusedSimpArgs false
namespace Go.Ab.Vl
open Go Go.Ab

def lowB (c : UInt8) : UInt8 := if 65 ≤ c.toNat ∧ c.toNat ≤ 90 then UInt8.ofNat (c.toNat + 32) else c
def SmallC (c : CallT) : Prop := ∀ {M : RM} {s : List UInt8} {Q : PostV}, s.length ≤ 1000000000 → (∀ M', Keep [] M M' → Q (St (s.map lowB)) M') → c [St s] M Q
theorem low_len {s : List UInt8} {i : Nat} (hi : i < s.length) : ((s.take i).map lowB).length = i := by simp; omega
theorem low_step {s : List UInt8} {i : Nat} (hi : i < s.length) (x : UInt8) : ((s.take i).map lowB ++ s.drop i).set i x = (s.take i).map lowB ++ x :: s.drop (i + 1) := by
  have hl := low_len hi
  rw [List.drop_eq_getElem_cons hi, List.set_append_right _ _ (by omega), hl, Nat.sub_self, List.set_cons_zero]
theorem low_take {s : List UInt8} {i : Nat} (hi : i < s.length) : (s.take (i + 1)).map lowB ++ s.drop (i + 1) = (s.take i).map lowB ++ lowB s[i] :: s.drop (i + 1) := by
  rw [List.take_succ_eq_append_getElem hi, List.map_append, List.append_assoc]
  rfl
theorem low_get {s : List UInt8} {i : Nat} (hi : i < s.length) (h : i < ((s.take i).map lowB ++ s.drop i).length) : ((s.take i).map lowB ++ s.drop i)[i] = s[i] := by
  have hl := low_len hi
  rw [List.getElem_append_right (by omega)]
  simp only [hl, Nat.sub_self, List.getElem_drop, Nat.add_zero]
theorem small_spec {T8 : Nat} : SmallC fun args M Q => ∃ a0, args = [a0] ∧ W_rolodex_vline_small T8 a0 M Q := by
  intro M s Q hl hQ
  refine ⟨_, rfl, ?_⟩
  unfold W_rolodex_vline_small
  simp only [fuseM, newW_eq, bytesW_St, lenW_slc]
  have hk1 : Keep [] M (M.push (.row (BY.row s) true T8 0)) := (Keep.refl _ _).push _
  have hr1 : Rw BY (M.push (.row (BY.row s) true T8 0)) M.next true T8 s := Rw.new M s
  generalize M.push (.row (BY.row s) true T8 0) = M1 at *
  refine loopW_ind (fun m ys M3 => ∃ i : Nat, m = s.length - i ∧ ys = [N .i64 i] ∧ i ≤ s.length ∧ Rw BY M3 M.next true T8 ((s.take i).map lowB ++ s.drop i) ∧ Keep [] M M3) _
    ⟨0, rfl, rfl, Nat.zero_le _, by simpa using hr1, hk1⟩ ?_
  rintro next m ys M3 hnext ⟨i, rfl, rfl, hi, hR, hK⟩
  simp only [go_sem]
  refine ⟨fun hlt => ?_, fun hge => ?_⟩
  · have hlt : i < s.length := by simpa using hlt
    have hlen : i < ((s.take i).map lowB ++ s.drop i).length := by simp; omega
    have hc := hR.load1 hlen
    have w1 := i64_succ (show i < 9223372036854775807 by omega)
    rw [low_get hlt hlen] at hc
    refine ⟨by omega, _, hc, ?_⟩
    have same : lowB s[i] = s[i] → next [N .i64 ((i + 1 : Nat) : Int)] M3 := fun h => by
      refine hnext _ _ _ (by omega) ⟨i + 1, rfl, rfl, by omega, ?_, hK⟩
      rw [low_take hlt, h, ← List.drop_eq_getElem_cons hlt]
      exact hR
    have cb := u8_lt s[i]
    simp only [w1]
    by_cases h1 : 65 ≤ s[i].toNat
    · have e1 : ((s[i].toNat : Int) ≥ 65) := by omega
      by_cases h2 : s[i].toNat ≤ 90
      · have e2 : ((s[i].toNat : Int) ≤ 90) := by omega
        have hlow : lowB s[i] = UInt8.ofNat (s[i].toNat + 32) := by rw [lowB, if_pos ⟨h1, h2⟩]
        have wv : N IntKind.u8 (IntKind.u8.wrap (IntKind.u8.wrap ((s[i].toNat : Int) + 97) - 65)) = By (lowB s[i]) := by
          rw [hlow, By, u8_nat, Nat.mod_eq_of_lt (by omega)]
          congr 1
          rw [show IntKind.u8.wrap ((s[i].toNat : Int) + 97) = (s[i].toNat : Int) + 97 from wrap_u8_id (by omega) (by omega)]
          rw [wrap_u8_id (by omega) (by omega)]; omega
        obtain ⟨hs, hR'⟩ := hR.store1 hlen (lowB s[i])
        simp only [e1, e2, decide_true, go_sem]
        rw [low_step hlt] at hs hR'
        refine ⟨by omega, _, (congrArg (fun x => M3.stores M.next i [x]) wv).trans hs, ?_⟩
        refine hnext _ _ _ (by omega) ⟨i + 1, rfl, rfl, by omega, ?_, hK.put _ (.inl (Nat.le_refl _))⟩
        rw [low_take hlt]
        exact hR'
      · have e2 : ¬ ((s[i].toNat : Int) ≤ 90) := by omega
        simp only [e1, e2, decide_true, decide_false, go_sem]
        exact same (by rw [lowB, if_neg (by omega)])
    · have e1 : ¬ ((s[i].toNat : Int) ≥ 65) := by omega
      simp only [e1, decide_false, go_sem]
      exact same (by rw [lowB, if_neg (by omega)])
  · have : i = s.length := by simp at hge; omega
    subst this
    rw [List.take_length, List.drop_length, List.append_nil] at hR
    have := hR.sl (cap := .op 1)
    rw [List.length_map] at this
    rw [Sl.str this]
    exact hQ M3 hK
end Go.Ab.Vl
/- Validity: the kit's word for it and ours. By an AI agent. -/
set_option linter.unusedVariables false
set_option linter.unusedSimpArgs false
namespace Go.Ab.Vl
open Go Go.Ab

theorem decodeL_dec (s : List UInt8) (h : s ≠ []) : Lib.decodeL s = dec s := by
  have hp := List.length_pos_iff.2 h
  have g : ∀ i, ((⟨⟨s⟩⟩ : ByteArray).get! i).toNat = bt s i := fun i => by
    simp only [ByteArray.get!, bt, List.getD_eq_getElem?_getD]
    simp [getElem!_def]
    cases s[i]? <;> rfl
  first
    | (rw [Lib.decodeL]; rw [Lib.decode_at, g, g, g, g]; rfl)
    | (simp only [Lib.decodeL, dec, bt])
theorem validD_fmd : ∀ (n : Nat) (s : List UInt8), s.length ≤ n → Lib.validD s = fmd s
  | n, s, hn => by
    by_cases hne : s = []
    · subst hne; rw [Lib.validD_nil, fmd_nil]
    have hrk : rk s = if dec s = (65533, 1) then 0 else (dec s).2 := by rw [rk, if_neg hne]; rfl
    rw [Lib.validD_step s hne, decodeL_dec s hne]
    have h1 := dec_size_pos s
    by_cases hb : (dec s).1 = 65533 ∧ (dec s).2 = 1
    · rw [if_pos hb, fmd_bad hne (by rw [hrk, if_pos (Prod.ext hb.1 hb.2)])]
    · rw [if_neg hb]
      have h0 : rk s = (dec s).2 := by
        rw [hrk, if_neg]
        intro e; rw [e] at hb; exact hb ⟨rfl, rfl⟩
      rw [fmd_step (by omega), h0]
      cases n with
      | zero => exact absurd (List.eq_nil_of_length_eq_zero (by omega)) hne
      | succ n =>
        refine validD_fmd n _ ?_
        have := drop_lt hne h1
        omega
end Go.Ab.Vl
/- Good values: the walk. By an AI agent. -/
set_option linter.unusedVariables false
set_option linter.unusedSimpArgs false
namespace Go.Ab.Vl
open Go Go.Ab

def ValidC (B : Base) (c : CallT) : Prop := ∀ {M : RM} {s : List UInt8} {Q : PostV}, M.base = B → s.length ≤ 1000000000 → Q (Bo (fmd s)) M → c [St s] M Q
def okB (x : List UInt8) (c : UInt8) : Bool := plainB c && !(decide (c ∈ x))
def goodV (x s : List UInt8) : Bool := s.all (okB x) && fmd s
def GoodValueC (B : Base) (c : CallT) : Prop := ∀ {M : RM} {s x : List UInt8} {Q : PostV}, M.base = B → s.length ≤ 1000000000 → (∀ M', Keep [] M M' → Q (Bo (goodV x s)) M') → c [St s, St x] M Q

theorem goodValue_spec {B : Base} {T8 : Nat} {cp ci cv : CallT} (hp : PlainC cp) (hi : IdxByteC ci) (hv : ValidC B cv) : GoodValueC B fun args M Q => ∃ a0 a1, args = [a0, a1] ∧ W_rolodex_vline_goodValue T8 cp ci cv a0 a1 M Q := by
  intro M s x Q hM hl hQ
  refine ⟨_, _, rfl, ?_⟩
  unfold W_rolodex_vline_goodValue
  simp only [fuseM, newW_eq, bytesW_St, lenW_slc]
  have hk1 : Keep [] M (M.push (.row (BY.row s) true T8 0)) := (Keep.refl _ _).push _
  have hr1 : Rw BY (M.push (.row (BY.row s) true T8 0)) M.next true T8 s := Rw.new M s
  generalize M.push (.row (BY.row s) true T8 0) = M1 at *
  refine loopW_ind (fun m ys M3 => M3 = M1 ∧ ∃ i : Nat, m = s.length - i ∧ ys = [N .i64 i] ∧ i ≤ s.length ∧ (s.take i).all (okB x) = true) _
    ⟨rfl, 0, rfl, rfl, Nat.zero_le _, by simp⟩ ?_
  rintro next m ys M3 hnext ⟨hM3, i, rfl, rfl, hile, hall⟩
  subst hM3
  simp only [go_sem]
  refine ⟨fun hlt => ?_, fun hge => ?_⟩
  · have hlt : i < s.length := by simpa using hlt
    have hc := hr1.load1 hlt
    have htk := List.take_succ_eq_append_getElem hlt
    have hmem := List.getElem_mem hlt
    generalize s[i] = c at *
    have w1 := i64_succ (show i < 9223372036854775807 by omega)
    have bad : okB x c = false → Q (Bo false) M3 := fun h => by
      have : goodV x s = false := by
        have h2 : s.all (okB x) = false := by
          rw [List.all_eq_false]
          exact ⟨c, hmem, by rw [h]; simp⟩
        rw [goodV, h2]; rfl
      rw [← this]; exact hQ M3 hk1
    have good : okB x c = true → next [N .i64 ((i + 1 : Nat) : Int)] M3 := fun h => by
      refine hnext _ _ _ (by omega) ⟨rfl, i + 1, rfl, rfl, by omega, ?_⟩
      rw [htk, List.all_append, hall]
      simp [h]
    refine ⟨by omega, By c, hc, hp ?_⟩
    cases hpl : plainB c with
    | false =>
      simp only [go_sem]
      exact bad (by simp [okB, hpl])
    | true =>
      simp only [go_sem]
      refine hi ?_
      have hge := idxByte_nonneg x c
      by_cases hcx : c ∈ x
      · have e1 : decide (Lib.indexByte x c ≥ 0) = true := decide_eq_true (hge.2 hcx)
        simp only [go_sem, e1]
        exact bad (by simp [okB, hcx])
      · have e1 : decide (Lib.indexByte x c ≥ 0) = false := decide_eq_false fun h => hcx (hge.1 h)
        simp only [go_sem, e1, w1]
        exact good (by simp [okB, hcx, hpl])
  · have : i = s.length := by simp at hge; omega
    subst this
    rw [List.take_length] at hall
    refine hv (by rw [hk1.base, hM]) hl ?_
    have := hQ M3 hk1
    rw [goodV, hall, Bool.true_and] at this
    exact this
end Go.Ab.Vl
/- CutPrefix by one byte. By an AI agent. -/
set_option linter.unusedVariables false
set_option linter.unusedSimpArgs false
namespace Go.Ab.Vl
open Go Go.Ab

def cutP (x : UInt8) (s : List UInt8) : AV := if headIs x s then .tup [St (s.drop 1), Bo true] else .tup [St s, Bo false]
def CutPrefixC (c : CallT) : Prop := ∀ {M : RM} {s : List UInt8} {x : UInt8} {Q : PostV}, s.length ≤ 1000000000 → Q (cutP x s) M → c [St s, St [x]] M Q
theorem sliteCutPrefix_spec {ch : CallT} (hh : PrefixC ch) : CutPrefixC fun args M Q => ∃ a0 a1, args = [a0, a1] ∧ W_internal_stringslite_CutPrefix ch a0 a1 M Q := by
  intro M s x Q hl hQ
  refine ⟨_, _, rfl, ?_⟩
  unfold W_internal_stringslite_CutPrefix
  refine hh hl ?_
  unfold cutP at hQ
  cases h : headIs x s with
  | false =>
    simp only [h, Bool.false_eq_true, if_false] at hQ
    simp only [go_sem]
    exact hQ
  | true =>
    simp only [h, if_true] at hQ
    have hne : s ≠ [] := by intro e; subst e; cases h
    have hp := List.length_pos_iff.2 hne
    simp only [go_sem]
    rw [show subStr (St s) (some (N .i64 ((1 : Nat) : Int))) none = some (St (s.drop 1)) from subStr_from (by omega) .i64]
    simp only [go_sem]
    exact hQ
theorem cutPrefix_spec {ch : CallT} (hh : CutPrefixC ch) : CutPrefixC fun args M Q => ∃ a0 a1, args = [a0, a1] ∧ W_strings_CutPrefix ch a0 a1 M Q := by
  intro M s x Q hl hQ
  refine ⟨_, _, rfl, ?_⟩
  unfold W_strings_CutPrefix
  refine hh hl ?_
  unfold cutP at hQ ⊢
  cases h : headIs x s with
  | false => rw [h] at hQ; simpa only [go_sem, Bool.false_eq_true, if_false] using hQ
  | true => rw [h] at hQ; simpa only [go_sem, if_true] using hQ
end Go.Ab.Vl
/- Words: the walk. By an AI agent. -/
set_option linter.unusedVariables false
set_option linter.unusedSimpArgs false
namespace Go.Ab.Vl
open Go Go.Ab

def wset : List UInt8 := [97, 98, 99, 100, 101, 102, 103, 104, 105, 106, 107, 108, 109, 110, 111, 112, 113, 114, 115, 116, 117, 118, 119, 120, 121, 122, 48, 49, 50, 51, 52, 53, 54, 55, 56, 57, 45]
def TrimLC (B : Base) (c : CallT) : Prop := ∀ {M : RM} {s : List UInt8} {Q : PostV}, M.base = B → s.length ≤ 1000000000 → (∀ M', Keep [] M M' → Q (St (s.dropWhile (wset.contains ·))) M') → c [St s, St wset] M Q
theorem dropWhile_len {α : Type} (p : α → Bool) : ∀ l : List α, (l.dropWhile p).length ≤ l.length
  | [] => by simp
  | x :: l => by
    rw [List.dropWhile_cons]
    have := dropWhile_len p l
    split
    · simp; omega
    · exact Nat.le_refl _
/-- How long the word is. -/
def wk (s : List UInt8) : Nat := s.length - ((s.map lowB).dropWhile (wset.contains ·)).length
theorem wk_le (s : List UInt8) : wk s ≤ s.length := Nat.sub_le _ _
def wordA (s : List UInt8) : AV := .tup [St ((s.take (wk s)).map lowB), St (s.drop (wk s))]
def WordC (B : Base) (c : CallT) : Prop := ∀ {M : RM} {s : List UInt8} {Q : PostV}, M.base = B → s.length ≤ 1000000000 → (∀ M', Keep [] M M' → Q (wordA s) M') → c [St s] M Q
theorem word_spec {B : Base} {cs ct : CallT} (hs : SmallC cs) (ht : TrimLC B ct) : WordC B fun args M Q => ∃ a0, args = [a0] ∧ W_rolodex_vline_word cs ct a0 M Q := by
  intro M s Q hM hl hQ
  refine ⟨_, rfl, ?_⟩
  unfold W_rolodex_vline_word
  rw [lenStr_St]
  refine hs hl fun M1 k1 => ?_
  refine ht (by rw [k1.base, hM]) (by simpa using hl) fun M2 k2 => ?_
  have hd := dropWhile_len (wset.contains ·) (s.map lowB)
  rw [List.length_map] at hd
  rw [lenStr_St, intW_sub]
  rw [show IntKind.wrap .i64 ((s.length : Int) - (((s.map lowB).dropWhile (wset.contains ·)).length : Int)) = ((wk s : Nat) : Int) by rw [i64w (by omega) (by omega)]; unfold wk; omega]
  rw [subStr_to (wk_le s), subStr_from (wk_le s)]
  simp only [go_sem]
  have := wk_le s
  refine hs (by simp; omega) fun M3 k3 => ?_
  exact hQ M3 ((k1.trans k2).trans k3)
end Go.Ab.Vl
/- Good names: the walk. By an AI agent. -/
set_option linter.unusedVariables false
set_option linter.unusedSimpArgs false
namespace Go.Ab.Vl
open Go Go.Ab

def TrimSetC (B : Base) (f : List UInt8 → List UInt8) (c : CallT) : Prop := ∀ {M : RM} {s : List UInt8} {Q : PostV}, M.base = B → s.length ≤ 1000000000 → (∀ M', Keep [] M M' → Q (St (f s)) M') → c [St s, St wset] M Q
def goodN (f : List UInt8 → List UInt8) (s : List UInt8) : Bool := decide (1 ≤ s.length) && decide (s.length ≤ 20) && (f s == [])
def GoodNameC (B : Base) (f : List UInt8 → List UInt8) (c : CallT) : Prop := ∀ {M : RM} {s : List UInt8} {Q : PostV}, M.base = B → s.length ≤ 1000000000 → (∀ M', Keep [] M M' → Q (Bo (goodN f s)) M') → c [St s] M Q
theorem goodName_spec {B : Base} {f : List UInt8 → List UInt8} {ct : CallT} (ht : TrimSetC B f ct) : GoodNameC B f fun args M Q => ∃ a0, args = [a0] ∧ W_rolodex_vline_goodName ct a0 M Q := by
  intro M s Q hM hl hQ
  refine ⟨_, rfl, ?_⟩
  unfold W_rolodex_vline_goodName
  simp only [fuseM]
  rw [lenStr_St, intW_geq]
  unfold goodN at hQ
  by_cases h1 : 1 ≤ s.length
  · have e1 : decide ((s.length : Int) ≥ 1) = true := by simp; omega
    rw [e1]
    by_cases h2 : s.length ≤ 20
    · have e2 : decide ((s.length : Int) ≤ 20) = true := by simp; omega
      simp only [go_sem, e2]
      refine ht hM hl fun M1 k1 => ?_
      simp only [go_sem]
      have := hQ M1 k1
      simpa [h1, h2] using this
    · have e2 : decide ((s.length : Int) ≤ 20) = false := by simp; omega
      simp only [go_sem, e2]
      simpa [h1, h2] using hQ M (Keep.refl _ _)
  · have e1 : decide ((s.length : Int) ≥ 1) = false := by simp; omega
    rw [e1]
    simp only [go_sem]
    simpa [h1] using hQ M (Keep.refl _ _)
end Go.Ab.Vl
/- Contracts of the kit's, at concrete worlds, as contracts over memory like M. By an AI agent. -/
set_option linter.unusedVariables false
set_option linter.unusedSimpArgs false
namespace Go.Ab
open Go Go.RowKit

section
variable {P : Program} {ρ : Ren} {M : RM} {w w' : World}

/-- New memory that nobody looks at. -/
theorem WRel.below {base : Base} {A : AW} (h : WRel P base ρ A w) (hb : Below w.heap.size w w') (hn : base.n ≤ w.heap.size) : WRel P base ρ A w' where
  dom b i hbi := ⟨(h.dom b i hbi).1, Nat.lt_of_lt_of_le (h.dom b i hbi).2 hb.size⟩
  blk b i x hbi hx := let ⟨o, ho, hr⟩ := h.blk b i x hbi hx; ⟨o, by rw [hb.block _ (h.dom b i hbi).2]; exact ho, hr⟩
  sep := h.sep
  top := h.top
  lo := h.lo
  inv := base.low w w' (fun c hc => hb.block c (Nat.lt_of_lt_of_le hc hn)) h.inv

theorem Step.of_below {base n : Nat} (hb : Below w.heap.size w w') (hn : base ≤ w.heap.size) : Step base n ρ w ρ w' where
  os := hb.os
  tape := hb.tape
  output := hb.output
  size := hb.size
  frame c hc _ := hb.block c hc
  ext _ _ := rfl
  fresh b i h := .inl ⟨b, i, h, rfl⟩
  low c hc := hb.block c (Nat.lt_of_lt_of_le hc hn)

theorem After.below (h : MRel P ρ M w) (hb : Below w.heap.size w w') : After P M ρ w M ρ w' := by
  obtain ⟨A, hA⟩ := h
  refine after_of hA (Step.of_below hb hA.size) (hA.rel.below hb hA.size) rfl hA.next (Nat.le_refl _) fun b x hx => ?_
  rcases hA.blk b x hx with h | ⟨c, rfl, _⟩
  · exact .inl h
  · exact .inr ⟨c, rfl, hx⟩

theorem MRel.inv (h : MRel P ρ M w) : M.base.inv w := by
  obtain ⟨A, hA⟩ := h
  exact hA.rel.inv

/-- A contract at concrete worlds that leaves memory as it was. -/
theorem CallsR.of_calls {f : FuncId} {args : List AV} {v : AV} {Q : PostV} (hP : HasBody P f)
    (h : ∀ (ρ : Ren) (w : World) (us : List Value), LRel ρ args us → MRel P ρ M w → Calls P f ⟨us⟩ w fun e w' => ∃ v', e = .returned v' ∧ Below w.heap.size w w' ∧ VRel ρ v v') (hQ : Q v M) : CallsR P f args M Q := by
  refine ⟨hP, fun ρ w us hargs hw => (h ρ w us hargs hw).mono fun e w' hR => ?_⟩
  obtain ⟨v', rfl, hb, hv⟩ := hR
  exact ⟨v', v, M, ρ, rfl, After.below hw hb, hv, hQ⟩
end
end Go.Ab
/- Cutting at any one byte. By an AI agent. -/
set_option linter.unusedVariables false
set_option linter.unusedSimpArgs false
namespace Go.Ab.Vl
open Go Go.Ab

/-- Before and behind the first byte x. -/
def brk (x : UInt8) : List UInt8 → Option (List UInt8 × List UInt8)
  | [] => none
  | c :: t => if c = x then some ([], t) else (brk x t).map fun p => (c :: p.1, p.2)
theorem brk_idx (x : UInt8) : ∀ s : List UInt8, (brk x s = none ∧ Lib.indexByte s x = -1 ∧ x ∉ s) ∨ ∃ a b, brk x s = some (a, b) ∧ Lib.indexByte s x = (a.length : Int) ∧ s = a ++ x :: b ∧ x ∉ a
  | [] => .inl ⟨rfl, rfl, by simp⟩
  | c :: t => by
    by_cases h : c = x
    · subst h
      exact .inr ⟨[], t, by simp [brk], by simp [Lib.indexByte], rfl, by simp⟩
    · have hc : (c == x) = false := by simpa using h
      rcases brk_idx x t with ⟨h1, h2, h4⟩ | ⟨a, b, h1, h2, h3, h4⟩
      · exact .inl ⟨by simp [brk, h, h1], by simp [Lib.indexByte, hc, h2], by simp [h4, Ne.symm h]⟩
      · refine .inr ⟨c :: a, b, by simp [brk, h, h1], ?_, by rw [h3]; rfl, by simp [h4, Ne.symm h]⟩
        have : ((a.length : Int) == -1) = false := by simp
        simp [Lib.indexByte, hc, h2, this]

def IndexXC (x : UInt8) (c : CallT) : Prop := ∀ {M : RM} {s : List UInt8} {Q : PostV}, Q (N .i64 (Lib.indexByte s x)) M → c [St s, St [x]] M Q
theorem indexX_spec {x : UInt8} {ci xx c1 c2 : CallT} (hi : IdxByteC ci) : IndexXC x fun args M Q => ∃ a0 a1, args = [a0, a1] ∧ W_internal_stringslite_Index ci xx c1 c2 a0 a1 M Q := by
  intro M s Q hQ
  refine ⟨_, _, rfl, ?_⟩
  unfold W_internal_stringslite_Index
  rw [lenStr_St, intW_eql, show ((([x] : List UInt8).length : Int) == 0) = false from rfl]
  simp only [fuseM]
  by_cases h : [x] = s
  · subst h
    have : Lib.indexByte [x] x = 0 := by simp [Lib.indexByte]
    rw [this] at hQ
    simp only [go_sem, beq_self_eq_true]
    exact hQ
  · have h' : (([x] : List UInt8) == s) = false := by simp [h]
    simp only [go_sem, h']
    exact ⟨fun _ => ⟨by omega, x, rfl, hi hQ⟩, fun h => absurd h (by decide)⟩

def cutXA (x : UInt8) (s : List UInt8) : AV := match brk x s with
  | some (a, b) => .tup [St a, St b, Bo true]
  | none => .tup [St s, St [], Bo false]
def CutXC (x : UInt8) (c : CallT) : Prop := ∀ {M : RM} {s : List UInt8} {Q : PostV}, s.length ≤ 1000000000 → Q (cutXA x s) M → c [St s, St [x]] M Q
theorem sliteCutX_spec {x : UInt8} {ci : CallT} (hi : IndexXC x ci) : CutXC x fun args M Q => ∃ a0 a1, args = [a0, a1] ∧ W_internal_stringslite_Cut ci a0 a1 M Q := by
  intro M s Q hl hQ
  refine ⟨_, _, rfl, ?_⟩
  unfold W_internal_stringslite_Cut
  refine hi ?_
  unfold cutXA at hQ
  rcases brk_idx x s with ⟨h1, h2, _⟩ | ⟨a, b, h1, h2, h3, _⟩
  · rw [h1] at hQ
    simp only [go_sem, h2]
    exact ⟨fun h => absurd h (by decide), fun _ => hQ⟩
  · rw [h1] at hQ
    have hsl := congrArg List.length h3
    simp at hsl
    rw [h2, intW_geq, show decide ((a.length : Int) ≥ 0) = true by simp]
    refine ⟨fun _ => ?_, fun h => by cases h⟩
    rw [subStr_to (by omega)]
    simp only [go_sem]
    rw [show IntKind.wrap .i64 ((a.length : Int) + ((1 : Nat) : Int)) = ((a.length + 1 : Nat) : Int) by rw [i64w (by omega) (by omega)]; omega]
    rw [subStr_from (by omega)]
    simp only [go_sem]
    rw [h3]
    rw [show (a ++ x :: b).take a.length = a by simp, show (a ++ x :: b).drop (a.length + 1) = b by rw [← List.drop_drop]; simp]
    exact hQ
theorem cutX_spec {x : UInt8} {ci : CallT} (hi : CutXC x ci) : CutXC x fun args M Q => ∃ a0 a1, args = [a0, a1] ∧ W_strings_Cut ci a0 a1 M Q := by
  intro M s Q hl hQ
  refine ⟨_, _, rfl, ?_⟩
  unfold W_strings_Cut
  refine hi hl ?_
  unfold cutXA at hQ ⊢
  cases h : brk x s with
  | none => rw [h] at hQ; simpa only [go_sem] using hQ
  | some p => rw [h] at hQ; simpa only [go_sem] using hQ
end Go.Ab.Vl
/- What a range over a text meets. By an AI agent. -/
set_option linter.unusedVariables false
set_option linter.unusedSimpArgs false
namespace Go.Ab.Vl
open Go Go.Ab

theorem get_bt (s : List UInt8) (i : Nat) : ((⟨⟨s⟩⟩ : ByteArray).get! i).toNat = bt s i := by
  unfold bt
  show ((⟨s⟩ : Array UInt8)[i]!).toNat = _
  simp only [getElem!_def]
  rw [List.getElem?_toArray]
  cases h : s[i]? with
  | none => simp only [List.getD_eq_getElem?_getD, h]; rfl
  | some x => simp [List.getD_eq_getElem?_getD, h]
/-- A range's step: a plain byte, or bytes that are none. -/
theorem decode_cases {s : List UInt8} {i : Nat} (hi : i < s.length) :
    (bt s i < 128 ∧ Utf8.decode ⟨⟨s⟩⟩ i = (bt s i, 1)) ∨ (128 ≤ bt s i ∧ 128 ≤ (Utf8.decode ⟨⟨s⟩⟩ i).1 ∧ (Utf8.decode ⟨⟨s⟩⟩ i).1 < 2147483648 ∧ 1 ≤ (Utf8.decode ⟨⟨s⟩⟩ i).2 ∧ i + (Utf8.decode ⟨⟨s⟩⟩ i).2 ≤ s.length ∧ ∀ k, i ≤ k → k < i + (Utf8.decode ⟨⟨s⟩⟩ i).2 → 128 ≤ bt s k) := by
  have hs : (⟨⟨s⟩⟩ : ByteArray).size = s.length := rfl
  unfold Utf8.decode
  simp only [get_bt, hs, Nat.add_zero, Utf8.runeError]
  by_cases h0 : bt s i < 128
  · exact .inl ⟨h0, by rw [if_pos h0]⟩
  right
  have h8 : bt s i < 256 := by unfold bt; exact (s.getD i 0).toNat_lt
  refine ⟨by omega, ?_⟩
  rw [if_neg h0]
  have one : ∀ k, i ≤ k → k < i + 1 → 128 ≤ bt s k := fun k h1 h2 => by
    have : k = i := by omega
    subst this; omega
  split
  · rename_i h2
    simp only [Bool.and_eq_true, beq_iff_eq, decide_eq_true_eq] at h2
    split
    · refine ⟨by simpa using ‹_›, by simp; omega, by simp, by simp; omega, fun k h3 h4 => ?_⟩
      simp at h4
      rcases Nat.lt_or_ge k (i + 1) with h5 | h5
      · exact one k h3 h5
      · have : k = i + 1 := by omega
        subst this; omega
    · exact ⟨by simp, by simp, by simp, by simp; omega, fun k h3 h4 => one k h3 (by simpa using h4)⟩
  · split
    · rename_i h3
      simp only [Bool.and_eq_true, beq_iff_eq, decide_eq_true_eq] at h3
      split
      · rename_i h4
        simp only [Bool.and_eq_true, decide_eq_true_eq, ge_iff_le] at h4
        refine ⟨by simp; omega, by simp; omega, by simp, by simp; omega, fun k h5 h6 => ?_⟩
        simp at h6
        rcases Nat.lt_or_ge k (i + 1) with h7 | h7
        · exact one k h5 h7
        · rcases Nat.lt_or_ge k (i + 2) with h7 | h7
          · have : k = i + 1 := by omega
            subst this; omega
          · have : k = i + 2 := by omega
            subst this; omega
      · exact ⟨by simp, by simp, by simp, by simp; omega, fun k h3 h4 => one k h3 (by simpa using h4)⟩
    · split
      · rename_i h3
        simp only [Bool.and_eq_true, beq_iff_eq, decide_eq_true_eq] at h3
        split
        · rename_i h4
          simp only [Bool.and_eq_true, decide_eq_true_eq, ge_iff_le] at h4
          refine ⟨by simp; omega, by simp; omega, by simp, by simp; omega, fun k h5 h6 => ?_⟩
          simp at h6
          rcases Nat.lt_or_ge k (i + 1) with h7 | h7
          · exact one k h5 h7
          · rcases Nat.lt_or_ge k (i + 2) with h7 | h7
            · have : k = i + 1 := by omega
              subst this; omega
            · rcases Nat.lt_or_ge k (i + 3) with h7 | h7
              · have : k = i + 2 := by omega
                subst this; omega
              · have : k = i + 3 := by omega
                subst this; omega
        · exact ⟨by simp, by simp, by simp, by simp; omega, fun k h3 h4 => one k h3 (by simpa using h4)⟩
      · exact ⟨by simp, by simp, by simp, by simp; omega, fun k h3 h4 => one k h3 (by simpa using h4)⟩

/-- A rune's last byte, and how many there are. -/
theorem encode_last {r : Nat} (h : 128 ≤ r) : ∃ a x, (Utf8.encode (r : Int)).data.toList = a ++ [x] ∧ 128 ≤ x.toNat ∧ 1 ≤ a.length ∧ a.length ≤ 3 := by
  have key : ∀ c : Nat, 128 ≤ c → ∃ a x, (if c < 0x80 then (⟨#[UInt8.ofNat c]⟩ : ByteArray) else if c < 0x800 then ⟨#[UInt8.ofNat (0xC0 + c / 64), UInt8.ofNat (0x80 + c % 64)]⟩
      else if c < 0x10000 then ⟨#[UInt8.ofNat (0xE0 + c / 4096), UInt8.ofNat (0x80 + c / 64 % 64), UInt8.ofNat (0x80 + c % 64)]⟩
      else ⟨#[UInt8.ofNat (0xF0 + c / 262144), UInt8.ofNat (0x80 + c / 4096 % 64), UInt8.ofNat (0x80 + c / 64 % 64), UInt8.ofNat (0x80 + c % 64)]⟩).data.toList = a ++ [x] ∧ 128 ≤ x.toNat ∧ 1 ≤ a.length ∧ a.length ≤ 3 := by
    intro c hc
    rw [if_neg (by omega)]
    have hx : 128 ≤ (UInt8.ofNat (0x80 + c % 64)).toNat := by simp; omega
    split
    · exact ⟨[_], _, rfl, hx, by simp, by simp⟩
    · split
      · exact ⟨[_, _], _, rfl, hx, by simp, by simp⟩
      · exact ⟨[_, _, _], _, rfl, hx, by simp, by simp⟩
  have h2 : 128 ≤ (if Utf8.valid (r : Int) = true then (r : Int).toNat else Utf8.runeError) := by
    split
    · simpa using h
    · decide
  simp only [Utf8.encode]
  generalize (if Utf8.valid (r : Int) = true then (r : Int).toNat else Utf8.runeError) = c at h2 ⊢
  exact key c h2
end Go.Ab.Vl
/- strings.IndexRune and strings.IndexAny at ASCII marks: the walks. By an AI agent. -/
set_option linter.unusedVariables false
set_option linter.unusedSimpArgs false
namespace Go.Ab.Vl
open Go Go.Ab

theorem indexByte_not {s : List UInt8} {x : UInt8} (h : x ∉ s) : Lib.indexByte s x = -1 := by
  rcases brk_idx x s with ⟨_, h2, _⟩ | ⟨a, b, _, _, h3, _⟩
  · exact h2
  · exact absurd (by rw [h3]; simp) h
def Asc (cs : List UInt8) : Prop := ∀ x ∈ cs, x.toNat < 128
theorem Asc.bt {cs : List UInt8} (h : Asc cs) {i : Nat} (hi : i < cs.length) : bt cs i < 128 := by
  rw [← bt_at hi]; exact h _ (List.getElem_mem hi)

def ValidRuneC (c : CallT) : Prop := ∀ {M : RM} {r : Nat} {Q : PostV}, (∀ b, Q (Bo b) M) → c [N .i32 (r : Int)] M Q
theorem validRune_spec : ValidRuneC fun args M Q => ∃ a0, args = [a0] ∧ W_unicode_utf8_ValidRune a0 M Q := by
  intro M r Q hQ
  refine ⟨_, rfl, ?_⟩
  unfold W_unicode_utf8_ValidRune
  simp only [fuseM, intW_leq]
  simp only [go_sem, decide_true]
  refine ⟨fun _ => hQ _, fun _ => ?_⟩
  cases decide ((57343 : Int) < (r : Int)) with
  | true => simp only [go_sem]; exact ⟨fun _ => hQ _, fun _ => hQ _⟩
  | false => simp only [go_sem]; exact hQ _

def runeA (cs : List UInt8) (r : Nat) : Int := if r < 128 then Lib.indexByte cs (UInt8.ofNat r) else -1
def IndexRuneC (cs : List UInt8) (c : CallT) : Prop := ∀ {M : RM} {r : Nat} {Q : PostV}, r < 2147483648 → (∀ M', Keep [] M M' → Q (N .i64 (runeA cs r)) M') → c [St cs, N .i32 (r : Int)] M Q
theorem indexRune_spec {cs : List UInt8} {ci cv : CallT} (hcs : Asc cs) (hl : cs.length ≤ 1000) (hi : IdxByteC ci) (hv : ValidRuneC cv) : IndexRuneC cs fun args M Q => ∃ a0 a1, args = [a0, a1] ∧ W_strings_IndexRune ci cv a0 a1 M Q := by
  intro M r Q hr hQ
  refine ⟨_, _, rfl, ?_⟩
  unfold W_strings_IndexRune
  simp only [fuseM, joinW_shut, intW_leq]
  by_cases h1 : r < 128
  · have e1 : decide ((r : Int) < 128) = true := by simp; omega
    simp only [go_sem, decide_true, e1]
    have : N .u8 (IntKind.wrap .u8 (r : Int)) = By (UInt8.ofNat r) := by
      have h2 : IntKind.wrap .u8 (r : Int) = (r : Int) := by unfold IntKind.wrap; simp [IntKind.bits, IntKind.signed]; omega
      rw [h2]; simp [By]; omega
    rw [this]
    refine hi ?_
    have := hQ M (Keep.refl _ _)
    rw [runeA, if_pos h1] at this
    exact this
  have hm : runeA cs r = -1 := by rw [runeA, if_neg h1]
  rw [hm] at hQ
  have e1 : decide ((r : Int) < 128) = false := by simp; omega
  simp only [go_sem, decide_true, e1]
  refine ⟨fun h2 => ?_, fun h2 => ?_⟩
  · refine ⟨cs, rfl, ?_⟩
    simp only [go_sem]
    refine loopW_ind (fun m ys M3 => ∃ pos : Nat, m = cs.length - pos ∧ ys = [] ∧ M3.heap M.next = some (.siter cs pos) ∧ Keep [] M M3 ∧ M.next < M3.next) _
      ⟨0, rfl, rfl, RM.push_new _, (Keep.refl _ _).push _, by simp [RM.push]⟩ ?_
    rintro next m ys M3 hnext ⟨pos, rfl, rfl, hh, hk, hlt⟩
    refine ⟨_, _, _, rfl, hh, ?_⟩
    split
    · rename_i hp
      rcases decode_cases hp with ⟨d1, d2⟩ | ⟨d1, _⟩
      · rw [d2]
        simp only [go_sem]
        have e3 : ((bt cs pos : Int) == 65533) = false := by simp; omega
        simp only [e3]
        refine ⟨fun h => by simp at h, fun _ => hnext _ _ _ (by omega) ⟨pos + 1, rfl, rfl, RM.put_same _ _, hk.put _ (.inl (Nat.le_refl _)), by simpa [RM.put_next_eq] using hlt⟩⟩
      · have := hcs.bt hp; omega
    · simp only [go_sem]
      exact hQ M3 hk
  · refine hv fun b => ?_
    cases b with
    | false => simp only [go_sem]; exact hQ M (Keep.refl _ _)
    | true =>
      simp only [go_sem]
      obtain ⟨a, x, hax, hx, ha1, ha2⟩ := encode_last (r := r) (by omega)
      rw [hax]
      have w1 : IntKind.wrap .i64 (((a ++ [x]).length : Int) - 1) = ((a.length : Nat) : Int) := by simp; rw [i64w (by omega) (by omega)]
      have hxn : x ∉ cs := fun h => by have := hcs x h; omega
      rw [w1]
      refine loopW_ind (fun m ys M3 => M3 = M ∧ ys = [N .i64 (a.length : Int)]) 0 ⟨rfl, rfl⟩ ?_
      rintro next m ys M3 hnext ⟨rfl, rfl⟩
      simp only [go_sem]
      refine ⟨fun h3 => ?_, fun h3 => hQ M3 (Keep.refl _ _)⟩
      have h3 : a.length < cs.length := by simpa using h3
      have hbt := hcs.bt h3
      refine joinV_open ?_
      have hla : (a ++ [x])[a.length]? = some x := by simp
      refine ⟨_, List.getElem?_eq_getElem h3, x, hla, fun _ => ?_, fun hne => ?_⟩
      · rw [show IntKind.wrap .i64 ((a.length : Int) + 1) = ((a.length + 1 : Nat) : Int) by rw [i64w (by omega) (by omega)]; omega]
        rw [subStr_from (by omega)]
        simp only [go_sem]
        refine ⟨x, hla, hi ?_⟩
        rw [indexByte_not (fun h => hxn (List.mem_of_mem_drop h))]
        simp only [go_sem, show decide ((-1 : Int) < 0) = true from rfl]
        exact hQ M3 (Keep.refl _ _)
      · rw [bt_at h3] at hne
        have : ((bt cs a.length : Int) != (x.toNat : Int)) = true := by simp; omega
        rw [this] at hne; cases hne

/-- The first place of a byte that is among marks. -/
def ia (s cs : List UInt8) : Int := Lib.indexAny s cs
def IndexAnyC (cs : List UInt8) (B : Base) (c : CallT) : Prop := ∀ {M : RM} {s : List UInt8} {Q : PostV}, M.base = B → s.length ≤ 1000000000 → (∀ M', Keep [] M M' → Q (N .i64 (Lib.indexAny s cs)) M') → c [St s, St cs] M Q
/-- On short texts. -/
theorem indexAny_short {cs : List UInt8} {T : Nat} {cr cu cm ct : CallT} {M : RM} {s : List UInt8} {Q : PostV} (hcs : Asc cs) (h2 : 2 ≤ cs.length) (hl : cs.length ≤ 1000) (hs : s.length ≤ 8) (hr : IndexRuneC cs cr)
    (hu : ∀ {M : RM} {n : Nat} {Q : PostV}, Q (Bo (decide (8 < n))) M → cu [N .i64 (n : Int)] M Q) (hQ : ∀ M', Keep [] M M' → Q (N .i64 (Lib.indexAny s cs)) M') : W_strings_IndexAny cr cu cm T ct (St s) (St cs) M Q := by
  unfold W_strings_IndexAny
  have e0 : (cs == ([] : List UInt8)) = false := by
    cases cs with
    | nil => simp at h2
    | cons => rfl
  have e1 : ((cs.length : Int) == 1) = false := by simp; omega
  simp only [joinW_shut, go_sem, e0, e1]
  refine joinV_open ?_
  refine hu ?_
  rw [show decide (8 < s.length) = false by simp; omega]
  simp only [go_sem]
  refine ⟨s, rfl, ?_⟩
  simp only [go_sem]
  refine loopW_ind (fun m ys M3 => ∃ pos : Nat, m = s.length - pos ∧ ys = [] ∧ M3.heap M.next = some (.siter s pos) ∧ Keep [] M M3 ∧ M.next < M3.next ∧ pos ≤ s.length ∧ Lib.NoAny s cs pos) _
    ⟨0, rfl, rfl, RM.push_new _, (Keep.refl _ _).push _, by simp [RM.push], Nat.zero_le _, Lib.NoAny.zero _ _⟩ ?_
  rintro next m ys M3 hnext ⟨pos, rfl, rfl, hh, hk, hlt, hple, hno⟩
  refine ⟨_, _, _, rfl, hh, ?_⟩
  have kput : ∀ y, Keep [] M (M3.put M.next y) := fun y => hk.put y (.inl (Nat.le_refl _))
  split
  · rename_i hp
    rcases decode_cases hp with ⟨d1, d2⟩ | ⟨d1, d2, d3, d4, d5, d6⟩
    · rw [d2]
      simp only [go_sem]
      refine hr (by omega) fun M4 k4 => ?_
      rw [runeA, if_pos d1]
      have hx : UInt8.ofNat (bt s pos) = s[pos] := by rw [← bt_at hp]; simp
      rw [hx]
      have hc := Lib.contains_iff_indexByte cs s[pos]
      simp only [go_sem]
      refine ⟨fun h => ?_, fun h => ?_⟩
      · have h : (0 : Int) ≤ Lib.indexByte cs s[pos] := by simpa using h
        rw [decide_eq_true h] at hc
        have := hQ M4 ((kput _).trans k4)
        rw [Lib.indexAny_hit hno (List.getElem?_eq_getElem hp) hc] at this
        exact this
      · have h : ¬ (0 : Int) ≤ Lib.indexByte cs s[pos] := by simpa using h
        rw [decide_eq_false h] at hc
        refine hnext _ _ _ (by omega) ⟨pos + 1, rfl, rfl, k4.heap_of (RM.put_same _ _) (by simpa [RM.put_next_eq] using hlt) (by simp), (kput _).trans k4, ?_, by omega, hno.succ (List.getElem?_eq_getElem hp) hc⟩
        have := k4.next
        simp [RM.put_next_eq] at this; omega
    · generalize Utf8.decode ⟨⟨s⟩⟩ pos = d at *
      obtain ⟨r, n⟩ := d
      simp only at d2 d3 d4 d5 d6
      simp only [go_sem]
      refine hr d3 fun M4 k4 => ?_
      rw [runeA, if_neg (by omega)]
      simp only [go_sem, show decide ((-1 : Int) ≥ 0) = false from rfl]
      refine hnext _ _ _ (by omega) ⟨pos + n, rfl, rfl, k4.heap_of (RM.put_same _ _) (by simpa [RM.put_next_eq] using hlt) (by simp), (kput _).trans k4, ?_, by omega, fun j b hj hb => ?_⟩
      · have := k4.next
        simp [RM.put_next_eq] at this; omega
      · rcases Nat.lt_or_ge j pos with h | h
        · exact hno j b h hb
        · have hjl : j < s.length := (List.getElem?_eq_some_iff.1 hb).1
          have h7 := d6 j h hj
          rw [← bt_at hjl] at h7
          have h8 : s[j] = b := (List.getElem?_eq_some_iff.1 hb).2
          rw [h8] at h7
          cases hcb : cs.contains b with
          | false => rfl
          | true =>
            have := hcs b (by simpa using hcb)
            omega
  · simp only [go_sem]
    have : pos = s.length := by omega
    subst this
    rw [Lib.indexAny_none hno] at hQ
    exact hQ M3 hk
end Go.Ab.Vl
/- Data whose parts lie in other blocks: slices of structs that hold slices. By an AI agent. -/
set_option linter.unusedVariables false
set_option linter.unusedSimpArgs false
namespace Go.Ab
open Go Go.RowKit

/-- A datum that some cells hold, and what they reach, in blocks of a set. -/
structure Rep (α : Type) where
  size : Nat
  rel : RM → List AV → α → (Nat → Prop) → Prop
  len : ∀ {M cs a S}, rel M cs a S → cs.length = size
  one : ∀ {M cs a S}, rel M cs a S → cs.all oneCell = true
  mono : ∀ {M cs a S S'}, rel M cs a S → (∀ b, S b → S' b) → rel M cs a S'
  lt : ∀ {M cs a S}, rel M cs a S → rel M cs a (fun b => S b ∧ b < M.next)
  keep : ∀ {M M' cs a S bs}, rel M cs a S → Keep bs M M' → (∀ b ∈ bs, ¬ S b) → rel M' cs a S

def Enc.rep {α : Type} (E : Enc α) : Rep α where
  size := E.size
  rel _ cs a _ := cs = E.cells a
  len h := by subst h; exact E.len _
  one h := by subst h; exact E.one _
  mono h _ := h
  lt h := h
  keep h _ _ := h

/-- Rows, one behind the other. -/
inductive RepL {α : Type} (R : Rep α) (M : RM) (S : Nat → Prop) : List AV → List α → Prop
  | nil : RepL R M S [] []
  | cons {cs ds : List AV} {a : α} {xs : List α} : R.rel M cs a S → RepL R M S ds xs → RepL R M S (cs ++ ds) (a :: xs)

section
variable {α : Type} {R : Rep α} {M M' : RM} {S S' : Nat → Prop} {cs ds : List AV} {xs ys : List α} {a : α}
theorem RepL.len (h : RepL R M S cs xs) : cs.length = xs.length * R.size := by
  induction h with
  | nil => simp
  | cons h1 _ ih => rw [List.length_append, R.len h1, ih, List.length_cons, Nat.succ_mul, Nat.add_comm]
theorem RepL.one (h : RepL R M S cs xs) : cs.all oneCell = true := by
  induction h with
  | nil => rfl
  | cons h1 _ ih => rw [List.all_append, R.one h1, ih]; rfl
theorem RepL.mono (h : RepL R M S cs xs) (hs : ∀ b, S b → S' b) : RepL R M S' cs xs := by
  induction h with
  | nil => exact .nil
  | cons h1 _ ih => exact .cons (R.mono h1 hs) ih
theorem RepL.lt (h : RepL R M S cs xs) : RepL R M (fun b => S b ∧ b < M.next) cs xs := by
  induction h with
  | nil => exact .nil
  | cons h1 _ ih => exact .cons (R.lt h1) ih
theorem RepL.keep {bs : List Nat} (h : RepL R M S cs xs) (hk : Keep bs M M') (hb : ∀ b ∈ bs, ¬ S b) : RepL R M' S cs xs := by
  induction h with
  | nil => exact .nil
  | cons h1 _ ih => exact .cons (R.keep h1 hk hb) ih
theorem RepL.append (h : RepL R M S cs xs) (k : RepL R M S ds ys) : RepL R M S (cs ++ ds) (xs ++ ys) := by
  induction h with
  | nil => exact k
  | cons h1 _ ih => rw [List.append_assoc]; exact .cons h1 ih
theorem RepL.single (h : R.rel M cs a S) : RepL R M S cs [a] := by
  have := RepL.cons h .nil
  simpa using this
theorem RepL.get (h : RepL R M S cs xs) : ∀ {i : Nat} (hi : i < xs.length), R.rel M ((cs.drop (i * R.size)).take R.size) xs[i] S := by
  induction h with
  | nil => intro i hi; simp at hi
  | cons h1 h2 ih =>
    rename_i c1 d1 a1 x1
    intro i hi
    cases i with
    | zero =>
      rw [Nat.zero_mul, List.drop_zero, List.take_append_of_le_length (by rw [R.len h1]; exact Nat.le_refl _), List.take_of_length_le (by rw [R.len h1]; exact Nat.le_refl _)]
      exact h1
    | succ i =>
      rw [Nat.succ_mul, Nat.add_comm, ← List.drop_drop, List.drop_left' (R.len h1)]
      exact ih (by simpa using hi)
theorem RepL.take (h : RepL R M S cs xs) : ∀ (k : Nat), RepL R M S (cs.take (k * R.size)) (xs.take k) := by
  induction h with
  | nil => intro k; simp; exact .nil
  | cons h1 h2 ih =>
    intro k
    cases k with
    | zero => simp; exact .nil
    | succ k =>
      rw [Nat.succ_mul, Nat.add_comm, List.take_append, List.take_of_length_le (by rw [R.len h1]; omega), R.len h1, Nat.add_sub_cancel_left]
      exact .cons h1 (ih k)
theorem RepL.drop (h : RepL R M S cs xs) : ∀ (k : Nat), RepL R M S (cs.drop (k * R.size)) (xs.drop k) := by
  induction h with
  | nil => intro k; simp; exact .nil
  | cons h1 h2 ih =>
    intro k
    cases k with
    | zero => simp; exact .cons h1 h2
    | succ k =>
      rw [Nat.succ_mul, Nat.add_comm, ← List.drop_drop, List.drop_left' (R.len h1)]
      exact ih k
theorem RepL.cells {E : Enc α} : ∀ {cs : List AV} {xs : List α}, RepL E.rep M S cs xs → cs = E.row xs
  | _, _, .nil => rfl
  | _, _, .cons h1 h2 => by rw [Enc.row_cons, RepL.cells h2]; rw [show _ = _ from h1]
theorem RepL.of_cells {E : Enc α} : ∀ (xs : List α), RepL E.rep M S (E.row xs) xs
  | [] => .nil
  | x :: xs => by rw [Enc.row_cons]; exact .cons rfl (RepL.of_cells xs)

/-- A slice that is read, whose elements reach on. -/
def SlD (R : Rep α) (M : RM) (v : AV) (xs : List α) (S : Nat → Prop) : Prop :=
  ∃ cs, SlR M R.size v cs xs.length ∧ (∀ b ∈ blkOf v, S b) ∧ RepL R M S cs xs
theorem SlR.lt {size n : Nat} {v : AV} (h : SlR M size v cs n) : ∀ b ∈ blkOf v, b < M.next := by
  cases h with
  | nil => intro b hb; simp [blkOf] at hb
  | emp => intro b hb; simp [blkOf] at hb
  | slc b o n cap cs hb _ => intro c hc; simp [blkOf] at hc; omega
theorem SlR.one {size n : Nat} {v : AV} (h : SlR M size v cs n) : oneCell v = true := by
  cases h <;> rfl
theorem SlR.cells {size n : Nat} {v : AV} (h : SlR M size v cs n) : v.cells = [v] := by
  cases h <;> rfl
variable {v : AV}
theorem SlD.mono (h : SlD R M v xs S) (hs : ∀ b, S b → S' b) : SlD R M v xs S' := let ⟨cs, h1, h2, h3⟩ := h; ⟨cs, h1, fun b hb => hs b (h2 b hb), h3.mono hs⟩
theorem SlD.lt (h : SlD R M v xs S) : SlD R M v xs (fun b => S b ∧ b < M.next) := let ⟨cs, h1, h2, h3⟩ := h; ⟨cs, h1, fun b hb => ⟨h2 b hb, h1.lt b hb⟩, h3.lt⟩
theorem SlD.keep {bs : List Nat} (h : SlD R M v xs S) (hk : Keep bs M M') (hb : ∀ b ∈ bs, ¬ S b) : SlD R M' v xs S :=
  let ⟨cs, h1, h2, h3⟩ := h; ⟨cs, h1.keep hk (fun b hv hbs => hb b hbs (h2 b hv)), h2, h3.keep hk hb⟩
theorem SlD.len (h : SlD R M v xs S) {K : AV → Prop} : lenW v K = K (N .i64 xs.length) := let ⟨cs, h1, _, _⟩ := h; h1.len
theorem SlD.one (h : SlD R M v xs S) : oneCell v = true := let ⟨cs, h1, _, _⟩ := h; h1.one
theorem SlD.cells (h : SlD R M v xs S) : v.cells = [v] := let ⟨cs, h1, _, _⟩ := h; h1.cells
theorem SlD.nil : SlD R M nilS [] S := ⟨[], .nil, by simp [blkOf], .nil⟩
theorem SlD.sl {E : Enc α} (h : SlD E.rep M v xs S) : Sl E M v xs := by
  obtain ⟨cs, h1, h2, h3⟩ := h
  rw [h3.cells] at h1
  exact h1
theorem SlD.of_sl {E : Enc α} (h : Sl E M v xs) (hs : ∀ b ∈ blkOf v, S b) : SlD E.rep M v xs S := ⟨_, h, hs, RepL.of_cells xs⟩

theorem SlD.at (h : SlD R M v xs S) {i : Nat} (sz : Nat) (j : Int) (hi : i < xs.length) (hsz : R.size = sz := by rfl) (hj : j = (i : Int) := by rfl) :
    ∃ b o cs, b < M.next ∧ b ∈ blkOf v ∧ (∀ (kd : IntKind) (K : AV → Prop), idxS v (N kd j) sz K = K (.ptr b o)) ∧ M.loads b o sz = some cs ∧ R.rel M cs xs[i] S := by
  subst hsz hj
  obtain ⟨cs, h1, h2, h3⟩ := h
  obtain ⟨b, o, cap, rfl, hb, hl⟩ := h1.pos (by omega)
  have hsum : i * R.size + R.size ≤ xs.length * R.size := by rw [← Nat.succ_mul]; exact Nat.mul_le_mul_right _ hi
  refine ⟨b, o + i * R.size, (cs.drop (i * R.size)).take R.size, hb, by simp [blkOf], fun kd K => ?_, ?_, h3.get hi⟩
  · rw [idxS_slc]
    simp only [Int.toNat_natCast]
    exact propext ⟨fun h => h.2.2, fun h => ⟨by omega, by omega, h⟩⟩
  · rw [loads_sub hl (i * R.size) R.size hsum]

/-- Slices as data. -/
def Rep.slice (R : Rep α) : Rep (List α) where
  size := 1
  rel M cs xs S := ∃ v, cs = [v] ∧ SlD R M v xs S
  len h := by obtain ⟨v, rfl, _⟩ := h; rfl
  one h := by obtain ⟨v, rfl, h⟩ := h; simp [h.one]
  mono h hs := by obtain ⟨v, rfl, h⟩ := h; exact ⟨v, rfl, h.mono hs⟩
  lt h := by obtain ⟨v, rfl, h⟩ := h; exact ⟨v, rfl, h.lt⟩
  keep h hk hb := by obtain ⟨v, rfl, h⟩ := h; exact ⟨v, rfl, h.keep hk hb⟩

/-- A slice of one's own, whose elements reach on (elsewhere). -/
def OwD (R : Rep α) (M : RM) (base el : Nat) (v : AV) (xs : List α) (S : Nat → Prop) : Prop :=
  ∃ cs, Own M base el R.size v cs xs.length ∧ RepL R M S cs xs
theorem OwD.nil {base el : Nat} : OwD R M base el nilS [] S := ⟨[], .nil, .nil⟩
theorem OwD.mono {base el : Nat} (h : OwD R M base el v xs S) (hs : ∀ b, S b → S' b) : OwD R M base el v xs S' := let ⟨cs, h1, h2⟩ := h; ⟨cs, h1, h2.mono hs⟩
theorem OwD.lt {base el : Nat} (h : OwD R M base el v xs S) : OwD R M base el v xs (fun b => S b ∧ b < M.next) := let ⟨cs, h1, h2⟩ := h; ⟨cs, h1, h2.lt⟩
theorem OwD.keep {base el : Nat} {bs : List Nat} (h : OwD R M base el v xs S) (hk : Keep bs M M') (hb : ∀ b ∈ bs, ¬ S b) (hv : ∀ b ∈ blkOf v, b ∉ bs) : OwD R M' base el v xs S :=
  let ⟨cs, h1, h2⟩ := h; ⟨cs, h1.keep hk hv, h2.keep hk hb⟩
theorem OwD.len {base el : Nat} (h : OwD R M base el v xs S) {K : AV → Prop} : lenW v K = K (N .i64 xs.length) := let ⟨cs, h1, _⟩ := h; h1.slR.len
theorem OwD.blk {base el : Nat} (h : OwD R M base el v xs S) : ∀ b ∈ blkOf v, base ≤ b ∧ b < M.next := let ⟨cs, h1, _⟩ := h; h1.blk
theorem OwD.slD {base el : Nat} (h : OwD R M base el v xs S) (hs : ∀ b, base ≤ b → b < M.next → S b) : SlD R M v xs S :=
  let ⟨cs, h1, h2⟩ := h; ⟨cs, h1.slR, fun b hb => hs b (h1.blk b hb).1 (h1.blk b hb).2, h2⟩
theorem OwD.cells {base el : Nat} (h : OwD R M base el v xs S) : v.cells = [v] := let ⟨cs, h1, _⟩ := h; h1.cells
theorem OwD.one {base el : Nat} (h : OwD R M base el v xs S) : oneCell v = true := let ⟨cs, h1, _⟩ := h; h1.one

/-- An element is appended. -/
theorem OwD.app {base T bytes : Nat} {zs : List AV} {K : PostV} (ho : OwD R M base T v xs S) (ha : R.rel M cs a S) (hb : base ≤ M.next) (hs : 1 ≤ R.size)
    (hd : ∀ b ∈ blkOf v, ¬ S b) (hS : ∀ b, S b → b < M.next)
    (hn : (xs.length + 1) * bytes ≤ 140737488355328) (hn2 : xs.length + 1 ≤ 140737488355328)
    (hK : ∀ v' M', OwD R M' base T v' (xs ++ [a]) S → Keep (blkOf v) M M' → M.next ≤ M'.next → (v' = v ∨ ∀ b ∈ blkOf v', M.next ≤ b) → (∀ b ∈ blkOf v', ¬ S b) → K v' M') :
    appW T R.size bytes zs false v (.slc M.next 0 1 (.ex 1)) (M.push (.row cs false T 0)) K := by
  obtain ⟨ds, h1, h2⟩ := ho
  have hk : Keep [] M (M.push (.row cs false T 0)) := (Keep.refl _ _).push _
  have hl := R.len ha
  have hnl : newL (M.push (.row cs false T 0)) R.size zs false (.slc M.next 0 1 (.ex 1)) = some (1, cs) := by
    simp only [newL, Nat.one_mul]
    rw [RM.loads_row (RM.push_new _) (by omega), List.drop_zero, ← hl, List.take_length]
  refine app_own (h1.keep hk (by simp)) (Nat.le_trans hb hk.next) hs hnl (by rw [hl, Nat.one_mul]) (R.one ha) hn hn2 ?_
  intro v' M' q1 q2 q3 q4
  have kk : Keep (blkOf v) M M' := (hk.mono (by simp)).trans q2
  refine hK v' M' ⟨_, by simpa using q1, ?_⟩ kk (Nat.le_trans hk.next q3) (q4.imp id fun h b hb => Nat.le_trans hk.next (h b hb)) ?_
  · exact (h2.keep kk hd).append (RepL.single (R.keep ha kk hd))
  · rcases q4 with rfl | q4
    · exact hd
    · intro b hb hSb
      have := q4 b hb
      have := hS b hSb
      simp only [RM.push] at *
      omega
end
end Go.Ab
/- Steps on a block whose row is known; structs with data that reach on. By an AI agent. -/
set_option linter.unusedVariables false
set_option linter.unusedSimpArgs false
namespace Go.Ab
open Go Go.RowKit

section
variable {M M' : RM} {b i n e f : Nat} {l : List AV} {p : Bool} {x : AV}
theorem load1_at {K : AV → Prop} (h : M.heap b = some (.row l p e f)) (hx : l[i]? = some x) : load1 M (.ptr b i) K = K x := by
  rw [load1_ptr, RM.cell_of h, hx]; simp
theorem loadN_at {K : AV → Prop} (h : M.heap b = some (.row l p e f)) (hn : l.length = n) : loadN M (.ptr b 0) n K = K (.agg l) := by
  rw [loadN_ptr, RM.loads_of h]
  have : loadsL (some l) 0 n = some l := by simp [loadsL, ← hn]
  rw [this]; simp
theorem storeW_at {K : RM → Prop} (h : M.heap b = some (.row l p e 0)) (hi : i < l.length) (hc : x.cells = [x]) (h1 : oneCell x = true) : storeW M (.ptr b i) x 1 K = K (M.put b (.row (l.set i x) p e 0)) := by
  rw [storeW_ptr, hc, RM.stores_of h, storesL_some (by simp only [List.length_cons, List.length_nil]; omega) (Nat.zero_le _) (by simp [h1])]
  have : l.take i ++ [x] ++ l.drop (i + 1) = l.set i x := by
    rw [List.set_eq_take_append_cons_drop, if_pos hi]; simp
  simp [this]
theorem storeW_to {K : RM → Prop} (l' : List AV) (h : M.heap b = some (.row l p e 0)) (hi : i < l.length) (hc : x.cells = [x]) (h1 : oneCell x = true) (hl : l.set i x = l') : storeW M (.ptr b i) x 1 K = K (M.put b (.row l' p e 0)) := by
  rw [storeW_at h hi hc h1, hl]
theorem fld0 {K : AV → Prop} : fldW (.ptr b 0) n K = K (.ptr b n) := by rw [fldW_ptr, Nat.zero_add]
theorem storeW_all {K : RM → Prop} (h : M.heap b = some (.row l p e 0)) (hn : x.cells.length = n) (hl : l.length = n) (h1 : x.cells.all oneCell = true) : storeW M (.ptr b 0) x n K = K (M.put b (.row x.cells p e 0)) := by
  rw [storeW_ptr, RM.stores_of h, storesL_whole (by rw [hn, hl]) h1]
  simp [hn]
/-- What a block holds behind a store elsewhere, or there. -/
theorem heap_put_ne {c : Nat} {y z : RB} (h : M.heap b = some y) (hb : b ≠ c) : (M.put c z).heap b = some y := by
  simp only [RM.put]; rw [if_neg hb]; exact h
theorem heap_put_eq (y : RB) : (M.put b y).heap b = some y := RM.put_same _ _
theorem heap_push_lt {y z : RB} (h : M.heap b = some y) (hb : b < M.next) : (M.push z).heap b = some y := by
  simp only [RM.push]; rw [if_neg (by omega)]; exact h
theorem next_push (y : RB) : (M.push y).next = M.next + 1 := rfl
theorem next_put (c : Nat) (y : RB) : (M.put c y).next = M.next := rfl

theorem Keep.new {bs : List Nat} (h : Keep bs M M') {b : Nat} (y : RB) (hb : M.next ≤ b) : Keep bs M (M'.put b y) := h.put y (.inl hb)
/-- A later memory, kept but for blocks made since. -/
theorem Keep.since {bs : List Nat} {M1 M2 : RM} (h : Keep bs M M1) (k : Keep bs M1 M2) : Keep bs M M2 := h.trans k
end

variable {M : RM}
theorem extW0 {a : AV} {l : List AV} {K : AV → Prop} : extW (.tup (a :: l)) 0 K = K a := by rw [extW_tup]; simp
theorem extW1 {a b : AV} {l : List AV} {K : AV → Prop} : extW (.tup (a :: b :: l)) 1 K = K b := by rw [extW_tup]; simp
theorem extW2 {a b c : AV} {l : List AV} {K : AV → Prop} : extW (.tup (a :: b :: c :: l)) 2 K = K c := by rw [extW_tup]; simp
theorem extW3 {a b c d : AV} {l : List AV} {K : AV → Prop} : extW (.tup (a :: b :: c :: d :: l)) 3 K = K d := by rw [extW_tup]; simp
theorem condT {p q : Prop} : condW (Bo true) p q = p := by simp [condW_Bo]
theorem condF {p q : Prop} : condW (Bo false) p q = q := by simp [condW_Bo]
theorem condB {b : Bool} {p q : Prop} (h1 : b = true → p) (h2 : b = false → q) : condW (Bo b) p q := ⟨h1, h2⟩

theorem guardM_TT {f g : PostV → Prop} {k : PostV} : guardM (Bo true) true f g k = f k := rfl
theorem guardM_FF {f g : PostV → Prop} {k : PostV} : guardM (Bo false) false f g k = f k := rfl
theorem guardM_TF {f g : PostV → Prop} {k : PostV} : guardM (Bo true) false f g k = g k := rfl
theorem guardM_FT {f g : PostV → Prop} {k : PostV} : guardM (Bo false) true f g k = g k := rfl
theorem guardK_TT {f g : KR → Prop} {k : KR} : guardK (Bo true) true f g k = f k := rfl
theorem guardK_FF {f g : KR → Prop} {k : KR} : guardK (Bo false) false f g k = f k := rfl
theorem guardK_TF {f g : KR → Prop} {k : KR} : guardK (Bo true) false f g k = g k := rfl
theorem guardK_FT {f g : KR → Prop} {k : KR} : guardK (Bo false) true f g k = g k := rfl
theorem guardM_U {w : Bool} {f g : PostV → Prop} {k : PostV} : guardM .undef w f g k = g k := rfl
theorem guardK_U {w : Bool} {f g : KR → Prop} {k : KR} : guardK .undef w f g k = g k := rfl
theorem pickT {a b : AV} {K : AV → Prop} : pickW (Bo true) a b K = K a := by rw [pickW_Bo]; rfl
theorem pickF {a b : AV} {K : AV → Prop} : pickW (Bo false) a b K = K b := by rw [pickW_Bo]; rfl

theorem SlR.known {size : Nat} {v : AV} {cs : List AV} {n : Nat} (h : SlR M size v cs n) : known v = true := by
  cases h <;> rfl
theorem SlD.known {α : Type} {R : Rep α} {v : AV} {xs : List α} {S : Nat → Prop} (h : SlD R M v xs S) : known v = true := let ⟨_, h1, _, _⟩ := h; h1.known
theorem boxW_agg {t : TypeId} {cs : List AV} {K : RB → (Nat → AV) → Prop} (h1 : cs.all oneCell = true) (h2 : 1 ≤ cs.length) : boxW t (.agg cs) K = K (.row cs false t 0) (fun b => .ptr b 0) := by
  unfold boxW
  exact propext ⟨fun h => h.2.2, fun h => ⟨h1, h2, h⟩⟩

theorem build2 {x y a b : AV} (h1 : known x = true) (h2 : x.cells = [x]) (h3 : known y = true) (h4 : y.cells = [y]) : fillL [a, b] [(0, 1, x), (1, 1, y)] = some [x, y] := by
  simp [fillL, h1, h2, h3, h4]

/-- Plain cells, then a datum that reaches on. -/
def Rep.pre {α β : Type} (E : Enc α) (R : Rep β) : Rep (α × β) where
  size := E.size + R.size
  rel M cs a S := ∃ ds, cs = E.cells a.1 ++ ds ∧ R.rel M ds a.2 S
  len h := by obtain ⟨ds, rfl, h⟩ := h; rw [List.length_append, E.len, R.len h]
  one h := by obtain ⟨ds, rfl, h⟩ := h; rw [List.all_append, E.one, R.one h]; rfl
  mono h hs := by obtain ⟨ds, rfl, h⟩ := h; exact ⟨ds, rfl, R.mono h hs⟩
  lt h := by obtain ⟨ds, rfl, h⟩ := h; exact ⟨ds, rfl, R.lt h⟩
  keep h hk hb := by obtain ⟨ds, rfl, h⟩ := h; exact ⟨ds, rfl, R.keep h hk hb⟩
/-- A datum that reaches on, then plain cells. -/
def Rep.post {α β : Type} (R : Rep α) (E : Enc β) : Rep (α × β) where
  size := R.size + E.size
  rel M cs a S := ∃ ds, cs = ds ++ E.cells a.2 ∧ R.rel M ds a.1 S
  len h := by obtain ⟨ds, rfl, h⟩ := h; rw [List.length_append, E.len, R.len h]
  one h := by obtain ⟨ds, rfl, h⟩ := h; rw [List.all_append, E.one, R.one h]; rfl
  mono h hs := by obtain ⟨ds, rfl, h⟩ := h; exact ⟨ds, rfl, R.mono h hs⟩
  lt h := by obtain ⟨ds, rfl, h⟩ := h; exact ⟨ds, rfl, R.lt h⟩
  keep h hk hb := by obtain ⟨ds, rfl, h⟩ := h; exact ⟨ds, rfl, R.keep h hk hb⟩
def Rep.map {α β : Type} (R : Rep α) (g : β → α) : Rep β where
  size := R.size
  rel M cs a S := R.rel M cs (g a) S
  len h := R.len h
  one h := R.one h
  mono h hs := R.mono h hs
  lt h := R.lt h
  keep h hk hb := R.keep h hk hb
end Go.Ab
/- A parameter's value: the walk. By an AI agent. -/
set_option linter.unusedVariables false
set_option linter.unusedSimpArgs false
namespace Go.Ab.Vl
open Go Go.Ab

def mks : List UInt8 := [44, 59, 58]
/-- A value, what stands behind it, and whether it may be. -/
def valF (s : List UInt8) : List UInt8 × List UInt8 × Bool :=
  if headIs 34 s then match brk 34 (s.drop 1) with
    | some (a, b) => (a, b, goodV [] a)
    | none => (s.drop 1, [], false)
  else if Lib.indexAny s mks < 0 then ([], [], false)
  else (s.take (Lib.indexAny s mks).toNat, s.drop (Lib.indexAny s mks).toNat, goodV [34] (s.take (Lib.indexAny s mks).toNat))
theorem indexAny_lt : ∀ (s cs : List UInt8), Lib.indexAny s cs < (s.length : Int) ∨ Lib.indexAny s cs = -1
  | [], cs => .inr rfl
  | b :: s, cs => by
    have := indexAny_lt s cs
    rw [Lib.indexAny]
    split
    · left; simp only [List.length_cons]; omega
    · split
      · right; rfl
      · rename_i h1 h2
        left
        rcases this with h | h
        · simp only [List.length_cons]; omega
        · rw [h] at h2; simp at h2
theorem valF_len (s : List UInt8) : (valF s).1.length ≤ s.length ∧ (valF s).2.1.length ≤ s.length := by
  unfold valF
  split
  · rcases brk_idx 34 (s.drop 1) with ⟨h1, _⟩ | ⟨a, b, h1, _, h3, _⟩
    · rw [h1]; simp
    · rw [h1]
      have := congrArg List.length h3
      simp at this ⊢; omega
  · split
    · simp
    · simp; omega
def ValueC (B : Base) (c : CallT) : Prop := ∀ {M : RM} {s : List UInt8} {Q : PostV}, M.base = B → s.length ≤ 1000000 → (∀ M', Keep [] M M' → Q (.tup [St (valF s).1, St (valF s).2.1, Bo (valF s).2.2]) M') → c [St s] M Q
theorem value_spec {B : Base} {cp cc cg ci : CallT} (hp : CutPrefixC cp) (hc : CutXC 34 cc) (hg : GoodValueC B cg) (hi : IndexAnyC mks B ci) : ValueC B fun args M Q => ∃ a0, args = [a0] ∧ W_rolodex_vline_value cp cc cg ci a0 M Q := by
  intro M s Q hM hl hQ
  refine ⟨_, rfl, ?_⟩
  unfold W_rolodex_vline_value
  refine hp (by omega) ?_
  unfold cutP
  unfold valF at hQ
  cases hh : headIs 34 s with
  | true =>
    simp only [hh, if_true] at hQ
    simp only [go_sem, fuseM]
    refine hc (by simp; omega) ?_
    unfold cutXA
    cases hb : brk 34 (s.drop 1) with
    | none =>
      simp only [hb] at hQ
      simp only [go_sem]
      exact hQ M (Keep.refl _ _)
    | some p =>
      obtain ⟨a, b⟩ := p
      simp only [hb] at hQ
      have := valF_len s
      unfold valF at this
      simp only [hh, if_true, hb] at this
      simp only [go_sem]
      refine hg hM (by omega) fun M1 k1 => ?_
      exact hQ M1 k1
  | false =>
    simp only [hh, Bool.false_eq_true, if_false] at hQ
    simp only [go_sem, Bool.false_eq_true, if_false]
    refine hi hM (by omega) fun M1 k1 => ?_
    have hlt := indexAny_lt s mks
    generalize Lib.indexAny s mks = n at *
    simp only [go_sem]
    refine ⟨fun h => ?_, fun h => ?_⟩
    · have h : n < 0 := by simpa using h
      simp only [h, if_true] at hQ
      exact hQ M1 k1
    · have h : ¬ n < 0 := by simpa using h
      simp only [h, if_false] at hQ
      obtain ⟨k, rfl⟩ : ∃ k : Nat, n = (k : Int) := ⟨n.toNat, by omega⟩
      simp only [Int.toNat_natCast] at hQ
      have hk : k ≤ s.length := by omega
      rw [subStr_to hk, subStr_from hk]
      simp only [go_sem]
      refine hg (by rw [k1.base, hM]) (by simp; omega) fun M2 k2 => ?_
      exact hQ M2 (k1.trans k2)
end Go.Ab.Vl
/- The parameters of a line: the walk. By an AI agent. -/
set_option linter.unusedVariables false
set_option linter.unusedSimpArgs false
namespace Go.Ab.Vl
open Go Go.Ab

abbrev Par := List UInt8 × List (List UInt8)
/-- A parameter's cells: its name, and a slice of its values. -/
def ParE : Rep Par := Rep.pre STR STR.rep.slice
theorem ParE_size : ParE.size = 2 := rfl
theorem ParE_rel {M : RM} {n : List UInt8} {v : AV} {vs : List (List UInt8)} {S : Nat → Prop} (h : SlD STR.rep M v vs S) : ParE.rel M [St n, v] (n, vs) S := ⟨[v], rfl, v, rfl, h⟩

/-- The values: what is read so far, and what stands behind. -/
def valsF : Nat → List UInt8 → List (List UInt8) → Option (List (List UInt8) × List UInt8)
  | 0, _, _ => none
  | k + 1, s, acc => match valF (s.drop 1) with
    | (v, after, ok) => if ok then (if headIs 44 after then valsF k after (acc ++ [v]) else some (acc ++ [v], after)) else none
def parF (f : List UInt8 → List UInt8) : Nat → List UInt8 → List Par → Option (List Par × List UInt8)
  | 0, _, _ => none
  | k + 1, s, acc => if headIs 59 s then
      (if goodN f (((s.drop 1).take (wk (s.drop 1))).map lowB) && headIs 61 ((s.drop 1).drop (wk (s.drop 1))) then
        match valsF ((s.drop 1).drop (wk (s.drop 1))).length ((s.drop 1).drop (wk (s.drop 1))) [] with
        | some (vs, s3) => parF f k s3 (acc ++ [(((s.drop 1).take (wk (s.drop 1))).map lowB, vs)])
        | none => none
      else none)
    else some (acc, s)
theorem headIs_len {x : UInt8} {s : List UInt8} (h : headIs x s = true) : 1 ≤ s.length := by
  cases s with
  | nil => cases h
  | cons => simp
theorem valsF_len : ∀ (k : Nat) (s : List UInt8) (acc vs : List (List UInt8)) (r : List UInt8), 1 ≤ s.length → valsF k s acc = some (vs, r) → r.length + vs.length ≤ s.length + acc.length
  | 0, _, _, _, _, _, h => by cases h
  | k + 1, s, acc, vs, r, h1, h => by
    rw [valsF] at h
    have hl := valF_len (s.drop 1)
    generalize valF (s.drop 1) = x at *
    obtain ⟨v, after, ok⟩ := x
    simp only [List.length_drop] at hl h
    split at h
    · split at h
      · rename_i hh
        have := valsF_len k after _ vs r (headIs_len hh) h
        simp at this; omega
      · cases h; simp; omega
    · cases h

theorem valsF_fuel : ∀ (n : Nat) (s : List UInt8) (acc : List (List UInt8)) (k : Nat), s.length ≤ n → 1 ≤ s.length → s.length ≤ k → valsF k s acc = valsF s.length s acc
  | 0, s, acc, k, h1, h2, h3 => by omega
  | n + 1, s, acc, k, h1, h2, h3 => by
    obtain ⟨j, hj⟩ : ∃ j, s.length = j + 1 := ⟨s.length - 1, by omega⟩
    obtain ⟨i, rfl⟩ : ∃ i, k = i + 1 := ⟨k - 1, by omega⟩
    rw [hj, valsF, valsF]
    have hl := valF_len (s.drop 1)
    generalize valF (s.drop 1) = x at *
    obtain ⟨v, after, ok⟩ := x
    simp only [List.length_drop] at hl ⊢
    split
    · split
      · rename_i hh
        have h4 := headIs_len hh
        rw [valsF_fuel n after _ i (by omega) h4 (by omega), valsF_fuel n after _ j (by omega) h4 (by omega)]
      · rfl
    · rfl
theorem parF_fuel (f : List UInt8 → List UInt8) : ∀ (n : Nat) (s : List UInt8) (acc : List Par) (k : Nat), s.length ≤ n → s.length + 1 ≤ k → parF f k s acc = parF f (s.length + 1) s acc
  | n, s, acc, k, h1, h3 => by
    obtain ⟨i, rfl⟩ : ∃ i, k = i + 1 := ⟨k - 1, by omega⟩
    rw [parF, parF]
    split
    · rename_i h59
      have hpos := headIs_len h59
      split
      · rename_i hc
        simp only [Bool.and_eq_true] at hc
        have h61 := headIs_len hc.2
        cases hv : valsF ((s.drop 1).drop (wk (s.drop 1))).length ((s.drop 1).drop (wk (s.drop 1))) [] with
        | none => rfl
        | some p =>
          obtain ⟨vs, s3⟩ := p
          have := valsF_len _ _ _ _ _ h61 hv
          simp at this
          simp only
          cases n with
          | zero => omega
          | succ n =>
            rw [parF_fuel f n s3 _ i (by omega) (by omega), parF_fuel f n s3 _ s.length (by omega) (by omega)]
      · rfl
    · rfl

def parsA (f : List UInt8 → List UInt8) (s : List UInt8) : Option (List Par × List UInt8) := parF f (s.length + 1) s []
def ParamsC (B : Base) (f : List UInt8 → List UInt8) (TP : Nat) (c : CallT) : Prop := ∀ {M : RM} {s : List UInt8} {Q : PostV}, M.base = B → s.length ≤ 100000 →
  (∀ M', Keep [] M M' → parsA f s = none → Q (.tup [nilS, St [], Bo false]) M') →
  (∀ v M' ps r, Keep [] M M' → parsA f s = some (ps, r) → SlD ParE M' v ps (fun b => M.next ≤ b) → ps.length + r.length ≤ s.length → Q (.tup [v, St r, Bo true]) M') → c [St s] M Q

theorem params_spec {B : Base} {f : List UInt8 → List UInt8} {TP TS : Nat} {ch cw cg cv : CallT} (hh : PrefixC ch) (hw : WordC B cw) (hg : GoodNameC B f cg) (hv : ValueC B cv) :
    ParamsC B f TP fun args M Q => ∃ a0, args = [a0] ∧ W_rolodex_vline_params ch TP cw cg cv TS a0 M Q := by
  intro M s Q hM hl hN hS
  refine ⟨_, rfl, ?_⟩
  unfold W_rolodex_vline_params
  simp only [fuseM, joinW_shut]
  refine loopW_ind (fun m ys M3 => ∃ (t : List UInt8) (v : AV) (acc : List Par), m = t.length ∧ ys = [St t, v] ∧ acc.length + t.length ≤ s.length ∧ Keep [] M M3 ∧
      OwD ParE M3 M.next TP v acc (fun b => M.next ≤ b ∧ b < M3.next ∧ b ∉ blkOf v) ∧ parF f (t.length + 1) t acc = parsA f s) _
    ⟨s, nilS, [], rfl, rfl, by simp, Keep.refl _ _, .nil, rfl⟩ ?_
  rintro next m ys M3 hnext ⟨t, v, acc, rfl, rfl, hal, hK, ho, hp⟩
  have hM3 : M3.base = B := by rw [hK.base, hM]
  rw [parF] at hp
  dsimp only [nthD]
  refine hh (by omega) ?_
  cases h59 : headIs 59 t with
  | false =>
    simp only [h59, Bool.false_eq_true, if_false] at hp
    rw [condF]
    refine hS v M3 acc t hK hp.symm ((ho.mono (fun b h => h.1)).slD (fun b hb _ => hb)) hal
  | true =>
    simp only [h59, if_true] at hp
    have htl := headIs_len h59
    rw [condT, newW_eq, show subStr (St t) (some (N .i64 1)) none = some (St (t.drop 1)) from subStr_from (l := 1) (by omega) .i64, getW_some]
    have hb5 : (M3.push (.row [St [], nilS] false TP 0)).heap M3.next = some (.row [St [], nilS] false TP 0) := RM.push_new _
    refine hw (by rw [RM.push_base, hM3]) (by simp; omega) fun M4 k4 => ?_
    have hb5 := k4.heap_of hb5 (by simp [RM.push]) (by simp)
    have hn4 : M3.next < M4.next := by have := k4.next; simp [RM.push] at this; omega
    have kk4 : Keep [] M3 M4 := ((Keep.refl _ _).push _).trans k4
    unfold wordA
    rw [extW0, extW1, fldW_ptr, Nat.zero_add, storeW_at hb5 (by decide) rfl rfl, fldW_ptr, Nat.zero_add, load1_at (heap_put_eq _) rfl]
    generalize ht1 : t.drop 1 = t1 at *
    have ht1l : t1.length + 1 = t.length := by rw [← ht1]; simp; omega
    have hwk := wk_le t1
    generalize wk t1 = k at *
    refine hg (by rw [RM.put_base, kk4.base, hM3]) (by simp; omega) fun M5 k5 => ?_
    rw [notW_Bo]
    have fail : parsA f s = none → Q (.tup [nilS, St [], Bo false]) M5 := fun h => hN M5 ((hK.trans kk4).new _ hK.next |>.trans k5) h
    cases hgn : goodN f ((t1.take k).map lowB) with
    | false =>
      simp only [hgn, Bool.false_and, Bool.false_eq_true, if_false] at hp
      rw [Bool.not_false, guardM_TF]
      dsimp only
      rw [pickT, condT]
      exact fail hp.symm
    | true =>
    rw [Bool.not_true, guardM_FF]
    refine hh (by simp; omega) ?_
    rw [notW_Bo]
    cases h61 : headIs 61 (t1.drop k) with
    | false =>
      simp only [h61, Bool.and_false, Bool.false_eq_true, if_false] at hp
      rw [Bool.not_false, pickF, condT]
      exact fail hp.symm
    | true =>
    simp only [hgn, h61, Bool.and_self, if_true] at hp
    rw [Bool.not_true, pickF, condF]
    generalize ht2 : t1.drop k = t2 at *
    have ht2l : t2.length ≤ t1.length := by rw [← ht2]; simp
    generalize hnm : (t1.take k).map lowB = nm at *
    -- the block of this parameter
    have hb5 : M5.heap M3.next = some (.row [St nm, nilS] false TP 0) := k5.heap_of (heap_put_eq _) (by rw [next_put]; exact hn4) (by simp)
    have kk5 : Keep [] M3 M5 := (kk4.new _ (Nat.le_refl _)).trans k5
    have hn5 : M3.next < M5.next := by have := k5.next; rw [next_put] at this; omega
    refine loopW_ind (fun m zs M6 => ∃ (u : List UInt8) (vs : List (List UInt8)) (w : AV) (more : Bool), m = 2 * u.length + (if more then 1 else 0) ∧ zs = [St u, v, Bo more] ∧ u.length + vs.length ≤ t2.length ∧ Keep [] M3 M6 ∧ M5.next ≤ M6.next ∧
        M6.heap M3.next = some (.row [St nm, w] false TP 0) ∧ OwD STR.rep M6 M5.next TS w vs (fun _ => False) ∧
        (more = true → 1 ≤ u.length ∧ valsF u.length u vs = valsF t2.length t2 []) ∧ (more = false → valsF t2.length t2 [] = some (vs, u))) _
      ⟨t2, [], nilS, true, rfl, rfl, by simp, kk5, Nat.le_refl _, hb5, .nil, fun _ => ⟨headIs_len h61, rfl⟩, fun h => by cases h⟩ ?_
    rintro next2 m zs M6 hnext2 ⟨u, vs, w, more, rfl, rfl, hul, hk6, hn6, hb6, how, hm1, hm2⟩
    dsimp only [nthD]
    have hM6 : M6.base = B := by rw [hk6.base, hM3]
    cases more with
    | true =>
      obtain ⟨hu1, hvf⟩ := hm1 rfl
      obtain ⟨j, hj⟩ : ∃ j, u.length = j + 1 := ⟨u.length - 1, by omega⟩
      rw [hj, valsF] at hvf
      rw [condT, show subStr (St u) (some (N .i64 1)) none = some (St (u.drop 1)) from subStr_from (l := 1) (by omega) .i64, getW_some]
      have hvl := valF_len (u.drop 1)
      refine hv hM6 (by simp; omega) fun M7 k7 => ?_
      generalize valF (u.drop 1) = x at *
      obtain ⟨a, after, ok⟩ := x
      simp only [List.length_drop] at hvl hvf
      rw [extW0, extW1, extW2, notW_Bo]
      dsimp only
      cases ok with
      | false =>
        simp only [Bool.false_eq_true, if_false] at hvf
        rw [Bool.not_false, condT]
        refine hN M7 (hK.trans (hk6.trans k7)) ?_
        rw [← hp, ← hvf]
      | true =>
      simp only [if_true] at hvf
      have hb7 := k7.heap_of hb6 (by omega) (by simp)
      rw [Bool.not_true, condF, fldW_ptr, Nat.zero_add, load1_at hb7 rfl, rows1 (x := St a) (size := 1) rfl rfl rfl, newW_eq]
      have how7 := how.keep k7 (by simp) (by simp)
      refine OwD.app (R := STR.rep) (a := a) (cs := [St a]) how7 rfl (by have := k7.next; omega) (Nat.le_refl _) (by simp) (by simp) (by omega) (by omega) ?_
      intro w' M8 o8 k8 n8 hw8 _
      have hwb : ∀ b ∈ blkOf w, M5.next ≤ b := fun b hb => (how.blk b hb).1
      have hb8 := k8.heap_of hb7 (by have := k7.next; omega) (fun h => by have := hwb _ h; omega)
      have hwb8 : ∀ b ∈ blkOf w', M5.next ≤ b := fun b hb => (o8.blk b hb).1
      rw [fldW_ptr, Nat.zero_add, storeW_at hb8 (by simp) o8.cells o8.one]
      refine hh (by omega) ?_
      have k9 : Keep [] M3 (M8.put M3.next (.row [St nm, w'] false TP 0)) := Keep.new ((hk6.trans k7).then_new k8 fun c hc => .inl (by have := hwb c hc; omega)) _ (Nat.le_refl _)
      refine hnext2 _ _ _ ?_ ⟨after, vs ++ [a], w', headIs 44 after, rfl, rfl, by simp; omega, k9, by rw [next_put]; have := k7.next; omega, heap_put_eq _, ?_, ?_, ?_⟩
      · split <;> simp <;> omega
      · refine o8.keep (bs := [M3.next]) ((Keep.refl _ _).put _ (.inr (by simp))) (by simp) fun b hb => ?_
        have := hwb8 b hb
        simp; omega
      · intro hmo
        rw [if_pos hmo] at hvf
        refine ⟨headIs_len hmo, ?_⟩
        rw [← hvf, valsF_fuel after.length after _ j (Nat.le_refl _) (headIs_len hmo) (by omega)]
      · intro hmo
        rw [hmo] at hvf
        simp only [Bool.false_eq_true, if_false] at hvf
        exact hvf.symm
    | false =>
      rw [hm2 rfl] at hp
      simp only at hp
      rw [condF, loadN_at (n := 2) hb6 rfl, rows1 (x := .agg [St nm, w]) (size := 2) rfl (by simp [AV.cells, how.one]; rfl) rfl, newW_eq]
      have hvl := ho.blk
      let S' : Nat → Prop := fun b => M.next ≤ b ∧ b < M6.next ∧ b ∉ blkOf v
      have ho6 : OwD ParE M6 M.next TP v acc S' := (ho.keep hk6 (by simp) (by simp)).mono fun b h => ⟨h.1, by have := hk6.next; omega, h.2.2⟩
      have hel : ParE.rel M6 [St nm, w] (nm, vs) S' := ParE_rel ((how.mono (S' := S') (fun _ h => h.elim)).slD (fun b h1 h2 => ⟨by have := hK.next; omega, h2, fun hb => by have := (hvl b hb).2; omega⟩))
      refine OwD.app (R := ParE) ho6 hel (by have := hK.next; have := hk6.next; omega) (by decide) (fun b hb h => h.2.2 hb) (fun b h => h.2.1) (by omega) (by omega) ?_
      intro v' M7 o7 k7 n7 hv7 hd7
      have hvs := valsF_len _ _ _ _ _ (headIs_len h61) (hm2 rfl)
      simp at hvs
      refine hnext _ _ _ (by omega) ⟨u, v', acc ++ [(nm, vs)], rfl, rfl, by simp; omega, ?_, ?_, ?_⟩
      · exact (hK.trans hk6).then_new k7 fun c hc => .inl (hvl c hc).1
      · exact o7.mono fun b h => ⟨h.1, by omega, fun hb => hd7 b hb h⟩
      · rw [← hp, parF_fuel f u.length u _ t.length (Nat.le_refl _) (by omega)]
end Go.Ab.Vl
/- A content line: the walk. By an AI agent. -/
set_option linter.unusedVariables false
set_option linter.unusedSimpArgs false
namespace Go.Ab.Vl
open Go Go.Ab

structure Ln where
  g : List UInt8
  n : List UInt8
  ps : List Par
  v : List UInt8
  deriving DecidableEq
def LnE : Rep (Ln × Int) where
  size := 5
  rel M cs a S := ∃ v, cs = [St a.1.g, St a.1.n, v, St a.1.v, N .i64 a.2] ∧ SlD ParE M v a.1.ps S
  len h := by obtain ⟨v, rfl, h⟩ := h; rfl
  one h := by obtain ⟨v, rfl, h⟩ := h; simp [h.one, one_sc]
  mono h hs := by obtain ⟨v, rfl, h⟩ := h; exact ⟨v, rfl, h.mono hs⟩
  lt h := by obtain ⟨v, rfl, h⟩ := h; exact ⟨v, rfl, h.lt⟩
  keep h hk hb := by obtain ⟨v, rfl, h⟩ := h; exact ⟨v, rfl, h.keep hk hb⟩
abbrev lz : List AV := [St [], St [], nilS, St [], N .i64 0]

def lowW (s : List UInt8) : List UInt8 := (s.take (wk s)).map lowB
theorem wordA_eq (s : List UInt8) : wordA s = .tup [St (lowW s), St (s.drop (wk s))] := rfl
def headF (f : List UInt8 → List UInt8) (s : List UInt8) : Option (List UInt8 × List UInt8 × List UInt8) :=
  if headIs 46 (s.drop (wk s)) then
    (if goodN f (lowW s) then some (lowW s, lowW ((s.drop (wk s)).drop 1), ((s.drop (wk s)).drop 1).drop (wk ((s.drop (wk s)).drop 1))) else none)
  else some ([], lowW s, s.drop (wk s))
def tailF (f : List UInt8 → List UInt8) (g n s : List UInt8) : Option Ln :=
  match parsA f s with
  | none => none
  | some (ps, r) => if goodN f n && headIs 58 r && goodV [] (r.drop 1) then some ⟨g, n, ps, r.drop 1⟩ else none
def readF (f : List UInt8 → List UInt8) (s : List UInt8) : Option Ln :=
  if fmd s then (match headF f s with
    | none => none
    | some (g, n, r) => tailF f g n r)
  else none
def RdC (B : Base) (f : List UInt8 → List UInt8) (c : CallT) : Prop := ∀ {M : RM} {s : List UInt8} {Q : PostV}, M.base = B → s.length ≤ 10000 →
  (∀ M', Keep [] M M' → readF f s = none → Q (.tup [.agg lz, Bo false]) M') →
  (∀ cs M' L, Keep [] M M' → readF f s = some L → LnE.rel M' cs (L, 0) (fun b => M.next ≤ b) → Q (.tup [.agg cs, Bo true]) M') → c [St s] M Q

theorem failR {M : RM} {b T : Nat} {l : List AV} {Q : PostV} (h : M.heap b = some (.row l false T 0)) (hl : l.length = 5) (hQ : Q (.tup [.agg lz, Bo false]) (M.put b (.row lz false T 0))) :
    buildW lz [] fun t => storeW M (.ptr b 0) t 5 fun M1 => loadN M1 (.ptr b 0) 5 fun res => Q (.tup [res, Bo false]) M1 := by
  rw [buildW_eq]
  refine ⟨_, rfl, ?_⟩
  rw [storeW_all (n := 5) h rfl hl rfl, loadN_at (n := 5) (heap_put_eq _) rfl]
  exact hQ

theorem read_spec {B : Base} {f : List UInt8 → List UInt8} {TP TL : Nat} {cvs cw ch cg cp cv : CallT} (hvs : ValidC B cvs) (hw : WordC B cw) (hh : PrefixC ch) (hg : GoodNameC B f cg) (hp : ParamsC B f TP cp) (hv : GoodValueC B cv) :
    RdC B f fun args M Q => ∃ a0, args = [a0] ∧ W_rolodex_vline_read TL cvs cw ch cg cp cv a0 M Q := by
  intro M s Q hM hl hN hS
  refine ⟨_, rfl, ?_⟩
  unfold W_rolodex_vline_read
  simp only [fuseM, joinW_shut]
  rw [newW_eq]
  have h2 : (M.push (.row lz false TL 0)).heap M.next = some (.row lz false TL 0) := RM.push_new _
  have k1 : Keep [] M (M.push (.row lz false TL 0)) := (Keep.refl _ _).push _
  have n1 : (M.push (.row lz false TL 0)).next = M.next + 1 := rfl
  generalize M.push (.row lz false TL 0) = M1 at *
  refine hvs (by rw [k1.base, hM]) (by omega) ?_
  rw [notW_Bo]
  unfold readF at hN hS
  cases hf : fmd s with
  | false =>
    rw [Bool.not_false, condT]
    exact failR h2 rfl (hN _ (k1.new _ (Nat.le_refl _)) (by simp [hf]))
  | true =>
  simp only [hf, if_true] at hN hS
  rw [Bool.not_true, condF, newW_eq]
  have h4 : (M1.push (.row lz false TL 0)).heap (M.next + 1) = some (.row lz false TL 0) := by rw [← n1]; exact RM.push_new _
  have h2 : (M1.push (.row lz false TL 0)).heap M.next = some (.row lz false TL 0) := heap_push_lt h2 (by omega)
  have k2 : Keep [] M (M1.push (.row lz false TL 0)) := k1.push _
  have n2 : (M1.push (.row lz false TL 0)).next = M.next + 2 := by rw [next_push, n1]
  rw [n1]
  generalize M1.push (.row lz false TL 0) = M2 at *
  refine hw (by rw [k2.base, hM]) (by omega) fun M3 k3 => ?_
  rw [wordA_eq]
  have h2 := k3.heap_of h2 (by omega) (by simp)
  have h4 := k3.heap_of h4 (by omega) (by simp)
  have n3 := k3.next
  rw [extW0, extW1, fld0, storeW_to [St [], St (lowW s), nilS, St [], N .i64 0] h4 (by simp) rfl rfl rfl]
  have k4 : Keep [] M (M3.put (M.next + 1) (.row [St [], St (lowW s), nilS, St [], N .i64 0] false TL 0)) := (k2.trans k3).new _ (by omega)
  have h2 := heap_put_ne (z := .row [St [], St (lowW s), nilS, St [], N .i64 0] false TL 0) h2 (show M.next ≠ M.next + 1 by omega)
  have h4 : (M3.put (M.next + 1) (.row [St [], St (lowW s), nilS, St [], N .i64 0] false TL 0)).heap (M.next + 1) = some (.row [St [], St (lowW s), nilS, St [], N .i64 0] false TL 0) := heap_put_eq _
  have n4 : M.next + 2 ≤ (M3.put (M.next + 1) (.row [St [], St (lowW s), nilS, St [], N .i64 0] false TL 0)).next := by rw [next_put]; omega
  generalize M3.put (M.next + 1) (.row [St [], St (lowW s), nilS, St [], N .i64 0] false TL 0) = M4 at *
  have hdl := wk_le s
  refine joinV_spec (fun xs M' => ∃ g n r, xs = [St r] ∧ headF f s = some (g, n, r) ∧ r.length ≤ s.length ∧ n.length ≤ s.length ∧ Keep [] M M' ∧ M.next + 2 ≤ M'.next ∧ M'.heap M.next = some (.row lz false TL 0) ∧
      M'.heap (M.next + 1) = some (.row [St g, St n, nilS, St [], N .i64 0] false TL 0)) ?_ ?_
  · rintro _ M5 ⟨g, n, r, rfl, hhd, hrl, hnl, k5, n5, h2, h4⟩
    rw [hhd] at hN hS
    simp only at hN hS
    unfold tailF at hN hS
    dsimp only [nthD]
    have stop : ∀ M', Keep [] M5 M' → parsA f r = none ∨ (∃ ps q, parsA f r = some (ps, q) ∧ (goodN f n && headIs 58 q && goodV [] (q.drop 1)) = false) → buildW lz [] fun t => storeW M' (.ptr M.next 0) t 5 fun M1 => loadN M1 (.ptr M.next 0) 5 fun res => Q (.tup [res, Bo false]) M1 := by
      intro M' k' hc
      refine failR (k'.heap_of h2 (by omega) (by simp)) rfl (hN _ ((k5.trans k').new _ (Nat.le_refl _)) ?_)
      rcases hc with hc | ⟨ps, q, hc, hc2⟩
      · simp [hc]
      · rw [hc]; simp only [hc2, Bool.false_eq_true, if_false]
    refine hp (by rw [k5.base, hM]) (by omega) ?_ ?_
    · intro M6 k6 hpn
      rw [extW0, extW1, extW2, notW_Bo, Bool.not_false, guardM_TF]
      dsimp only
      rw [pickT, guardM_TF]
      dsimp only
      rw [pickT, guardM_TF]
      dsimp only
      rw [pickT, condT]
      exact stop M6 k6 (.inl hpn)
    · intro v M6 ps q k6 hps hsl hlen
      have h4 := k6.heap_of h4 (by omega) (by simp)
      have n6 := k6.next
      rw [extW0, extW1, extW2, notW_Bo, Bool.not_true, guardM_FF, fld0, load1_at h4 rfl]
      refine hg (by rw [k6.base, k5.base, hM]) (by omega) fun M7 k7 => ?_
      have h4 := k7.heap_of h4 (by omega) (by simp)
      have n7 := k7.next
      have k67 := k6.trans k7
      rw [notW_Bo]
      dsimp only
      rw [pickF]
      cases hgn : goodN f n with
      | false =>
        rw [Bool.not_false, guardM_TF]
        dsimp only
        rw [pickT, guardM_TF]
        dsimp only
        rw [pickT, condT]
        exact stop M7 k67 (.inr ⟨ps, q, hps, by rw [hgn]; rfl⟩)
      | true =>
      rw [Bool.not_true, guardM_FF]
      refine hh (by omega) ?_
      rw [notW_Bo]
      dsimp only
      rw [pickF]
      cases h58 : headIs 58 q with
      | false =>
        rw [Bool.not_false, guardM_TF]
        dsimp only
        rw [pickT, condT]
        exact stop M7 k67 (.inr ⟨ps, q, hps, by rw [hgn, h58]; rfl⟩)
      | true =>
      have hq1 := headIs_len h58
      rw [Bool.not_true, guardM_FF, show subStr (St q) (some (N .i64 1)) none = some (St (q.drop 1)) from subStr_from (l := 1) hq1 .i64, getW_some]
      refine hv (by rw [k7.base, k6.base, k5.base, hM]) (by simp; omega) fun M8 k8 => ?_
      have h4 := k8.heap_of h4 (by omega) (by simp)
      have n8 := k8.next
      have k68 := k67.trans k8
      rw [notW_Bo]
      dsimp only
      rw [pickF]
      cases hgv : goodV [] (q.drop 1) with
      | false =>
        rw [Bool.not_false, condT]
        exact stop M8 k68 (.inr ⟨ps, q, hps, by rw [hgn, h58, hgv]; rfl⟩)
      | true =>
      have hs8 := hsl.keep (k7.trans k8) (by simp)
      rw [Bool.not_true, condF, getW_some, fld0, storeW_to [St g, St n, v, St [], N .i64 0] h4 (by simp) hs8.cells hs8.one rfl, getW_some]
      refine ⟨rfl, ?_⟩
      rw [fld0, storeW_to [St g, St n, v, St (q.drop 1), N .i64 0] (heap_put_eq _) (by simp) rfl rfl rfl, loadN_at (n := 5) (heap_put_eq _) rfl]
      have h2 := heap_put_ne (z := .row [St g, St n, v, St (q.drop 1), N .i64 0] false TL 0) (heap_put_ne (z := .row [St g, St n, v, St [], N .i64 0] false TL 0) (k68.heap_of h2 (by omega) (by simp)) (show M.next ≠ M.next + 1 by omega)) (show M.next ≠ M.next + 1 by omega)
      rw [storeW_all (n := 5) h2 rfl rfl (by simp [AV.cells, one_sc, hs8.one]), loadN_at (n := 5) (heap_put_eq _) rfl]
      refine hS _ _ ⟨g, n, ps, q.drop 1⟩ ?_ (by rw [hps]; simp only [hgn, h58, hgv, Bool.and_self, if_true]) ⟨v, rfl, ?_⟩
      · exact (((k5.trans k68).new _ (by omega)).new _ (by omega)).new _ (Nat.le_refl _)
      · refine (hs8.keep (bs := [M.next, M.next + 1]) ((((Keep.refl _ _).put _ (.inr (by simp))).put _ (.inr (by simp))).put _ (.inr (by simp))) ?_).mono fun b hb => by omega
        intro b hb h
        simp at hb
        omega
  · intro J hJ
    refine hh (by simp; omega) ?_
    unfold headF at hJ hN
    cases h46 : headIs 46 (s.drop (wk s)) with
    | false =>
      rw [condF]
      simp only [h46, Bool.false_eq_true, if_false] at hJ
      exact hJ _ _ ⟨[], lowW s, _, rfl, rfl, by simp, by simp [lowW]; omega, k4, n4, h2, h4⟩
    | true =>
      simp only [h46, if_true] at hJ hN
      rw [condT, fld0, load1_at h4 rfl, fld0, storeW_to [St (lowW s), St (lowW s), nilS, St [], N .i64 0] h4 (by simp) rfl rfl rfl, fld0, load1_at (heap_put_eq _) rfl]
      have k5 : Keep [] M (M4.put (M.next + 1) (.row [St (lowW s), St (lowW s), nilS, St [], N .i64 0] false TL 0)) := k4.new _ (by omega)
      have h2 := heap_put_ne (z := .row [St (lowW s), St (lowW s), nilS, St [], N .i64 0] false TL 0) h2 (show M.next ≠ M.next + 1 by omega)
      have h4 : (M4.put (M.next + 1) (.row [St (lowW s), St (lowW s), nilS, St [], N .i64 0] false TL 0)).heap (M.next + 1) = some (.row [St (lowW s), St (lowW s), nilS, St [], N .i64 0] false TL 0) := heap_put_eq _
      have n5 : M.next + 2 ≤ (M4.put (M.next + 1) (.row [St (lowW s), St (lowW s), nilS, St [], N .i64 0] false TL 0)).next := n4
      generalize M4.put (M.next + 1) (.row [St (lowW s), St (lowW s), nilS, St [], N .i64 0] false TL 0) = M5 at *
      refine hg (by rw [k5.base, hM]) (by simp [lowW]; omega) fun M6 k6 => ?_
      have h2 := k6.heap_of h2 (by omega) (by simp)
      have h4 := k6.heap_of h4 (by omega) (by simp)
      have n6 := k6.next
      rw [notW_Bo]
      cases hgn : goodN f (lowW s) with
      | false =>
        rw [Bool.not_false, condT]
        refine failR h2 rfl (hN _ ((k5.trans k6).new _ (Nat.le_refl _)) (by simp [hgn]))
      | true =>
        simp only [hgn, if_true] at hJ
        rw [Bool.not_true, condF, show subStr (St (s.drop (wk s))) (some (N .i64 1)) none = some (St ((s.drop (wk s)).drop 1)) from subStr_from (l := 1) (headIs_len h46) .i64, getW_some]
        refine hw (by rw [k6.base, k5.base, hM]) (by simp; omega) fun M7 k7 => ?_
        have h2 := k7.heap_of h2 (by omega) (by simp)
        have h4 := k7.heap_of h4 (by omega) (by simp)
        have n7 := k7.next
        rw [wordA_eq, extW0, extW1, fld0, storeW_to [St (lowW s), St (lowW ((s.drop (wk s)).drop 1)), nilS, St [], N .i64 0] h4 (by simp) rfl rfl rfl]
        have hdl2 := wk_le ((s.drop (wk s)).drop 1)
        refine hJ _ _ ⟨lowW s, lowW ((s.drop (wk s)).drop 1), _, rfl, rfl, by simp, by simp [lowW]; omega, ((k5.trans k6).trans k7).new _ (by omega), by rw [next_put]; omega, heap_put_ne h2 (by omega), heap_put_eq _⟩
end Go.Ab.Vl
/- All content lines of a text: the walk. By an AI agent. -/
set_option linter.unusedVariables false
set_option linter.unusedSimpArgs false
namespace Go.Ab.Vl
open Go Go.Ab

/-- What reading answers: the lines, or where it stops and why. -/
inductive Rds where
  | ok (l : List (Ln × Int))
  | bad (k : Int) (e : Int)
def readsF (f : List UInt8 → List UInt8) : List (List UInt8 × Int) → List (Ln × Int) → Rds
  | [], acc => .ok acc
  | (s, k) :: r, acc => if s = [] then readsF f r acc else if 912 < s.length then .bad k 2 else match readF f s with
    | none => .bad k 3
    | some L => readsF f r (acc ++ [(L, k)])
def unfL (s : List UInt8) : List (List UInt8 × Int) := (unfN [] [] 1 (rawL [] s)).1.zip (unfN [] [] 1 (rawL [] s)).2
def rdF (f : List UInt8 → List UInt8) (s : List UInt8) : Rds := readsF f (unfL s) []

theorem glue_length (acc : List (List UInt8)) (x : List UInt8) : (glue acc x).length = if acc ≠ [] ∧ isSp x = true then acc.length else acc.length + 1 := by
  unfold glue
  split
  · rename_i h; simp
  · rename_i h; simp
theorem unfN_len : ∀ (xs : List (List UInt8)) (acc : List (List UInt8)) (ns : List Int) (k : Int), acc.length = ns.length → (unfN acc ns k xs).1.length = (unfN acc ns k xs).2.length
  | [], acc, ns, k, h => h
  | x :: xs, acc, ns, k, h => by
    rw [unfN]
    refine unfN_len xs _ _ _ ?_
    rw [glue_length]
    split <;> simp [h]
theorem unfN_le : ∀ (xs : List (List UInt8)) (acc : List (List UInt8)) (ns : List Int) (k : Int), (unfN acc ns k xs).1.length ≤ acc.length + xs.length
  | [], acc, ns, k => by simp [unfN]
  | x :: xs, acc, ns, k => by
    rw [unfN]
    have := unfN_le xs (glue acc x) (if acc ≠ [] ∧ isSp x = true then ns else ns ++ [k]) (IntKind.i64.wrap (k + 1))
    have h := glue_len acc x
    simp only [List.length_cons]
    omega

def ReadAllC (B : Base) (f : List UInt8 → List UInt8) (c : CallT) : Prop := ∀ {M : RM} {s : List UInt8} {Q : PostV}, M.base = B → s.length ≤ 100000 →
  (∀ v M' ls, Keep [] M M' → rdF f s = .ok ls → SlD LnE M' v ls (fun b => M.next ≤ b) → ls.length ≤ s.length + 1 → Q (.tup [v, N .i64 0, N .i64 0]) M') →
  (∀ M' k e, Keep [] M M' → rdF f s = .bad k e → Q (.tup [nilS, N .i64 k, N .i64 e]) M') → c [St s] M Q

theorem readAll_spec {B : Base} {f : List UInt8 → List UInt8} {T TI TL : Nat} {cu cr : CallT} (hu : UnfoldNC T TI cu) (hr : RdC B f cr) : ReadAllC B f fun args M Q => ∃ a0, args = [a0] ∧ W_rolodex_vline_Read cu cr TL a0 M Q := by
  intro M s Q hM hl hS hN
  refine ⟨_, rfl, ?_⟩
  unfold W_rolodex_vline_Read
  simp only [fuseM, joinW_shut]
  refine hu (by omega) fun v u M1 ho1 ho2 hd k1 => ?_
  have s1 := ho1.slR
  have s2 := ho2.slR
  have hlen := unfN_len (rawL [] s) [] [] 1 rfl
  have hle := unfN_le (rawL [] s) [] [] 1
  have hrl := rawL_len s []
  simp only [List.length_nil, Nat.zero_add] at hle
  unfold rdF unfL at hS hN
  generalize (unfN [] [] 1 (rawL [] s)).1 = xs at *
  generalize (unfN [] [] 1 (rawL [] s)).2 = ns at *
  rw [extW0, extW1, SlR.len s1]
  refine loopW_ind (fun m ys M3 => ∃ (i : Nat) (w : AV) (acc : List (Ln × Int)), m = xs.length - i ∧ ys = [w, N .i64 i] ∧ i ≤ xs.length ∧ acc.length ≤ i ∧ Keep [] M1 M3 ∧
      OwD LnE M3 M1.next TL w acc (fun b => M1.next ≤ b ∧ b < M3.next ∧ b ∉ blkOf w) ∧ readsF f ((xs.zip ns).drop i) acc = readsF f (xs.zip ns) []) _
    ⟨0, nilS, [], rfl, rfl, Nat.zero_le _, Nat.le_refl _, Keep.refl _ _, .nil, rfl⟩ ?_
  rintro next m ys M3 hnext ⟨i, w, acc, rfl, rfl, hi, hal, hK, ho, hp⟩
  dsimp only [nthD]
  rw [intW_lss]
  refine condB (fun hlt => ?_) (fun hge => ?_)
  · have hlt : i < xs.length := by simpa using hlt
    have t1 := SlR.keep s1 hK (by simp)
    have t2 := SlR.keep s2 hK (by simp)
    have hz : (xs.zip ns).drop i = (xs[i], ns[i]'(by omega)) :: (xs.zip ns).drop (i + 1) := by
      rw [List.drop_eq_getElem_cons (by simp; omega)]; simp
    rw [hz, readsF] at hp
    refine joinV_spec (fun zs M' => ∃ (w' : AV) (acc' : List (Ln × Int)), zs = [w'] ∧ acc'.length ≤ i + 1 ∧ Keep [] M1 M' ∧ OwD LnE M' M1.next TL w' acc' (fun b => M1.next ≤ b ∧ b < M'.next ∧ b ∉ blkOf w') ∧ readsF f ((xs.zip ns).drop (i + 1)) acc' = readsF f (xs.zip ns) []) ?_ ?_
    · rintro _ M4 ⟨w', acc', rfl, h1, h2, h3, h4⟩
      dsimp only [nthD]
      rw [intW_add, i64_succ (by omega)]
      exact hnext _ _ _ (by omega) ⟨i + 1, w', acc', rfl, rfl, by omega, h1, h2, h3, h4⟩
    · intro J hJ
      obtain ⟨b, o, hb, hbm, hidx, hc⟩ := Sl.at1 (E := STR) t1 (i : Int) hlt
      have hc := hc _ rfl
      rw [hidx, load1_ptr]
      refine ⟨_, hc, ?_⟩
      rw [strW_eql]
      obtain ⟨b2, o2, hb2, hbm2, hidx2, hc2⟩ := Sl.at1 (E := INT) t2 (i : Int) (show i < ns.length by omega)
      have hc2 := hc2 _ rfl
      generalize hxi : xs[i] = x at *
      generalize hni : ns[i]'(by omega) = k at *
      refine condB (fun he => ?_) (fun hne => ?_)
      · have he : x = [] := by simpa using he
        rw [if_pos he] at hp
        exact hJ _ _ ⟨w, acc, rfl, by omega, hK, ho, hp⟩
      · have hne : ¬ x = [] := by simpa using hne
        rw [if_neg hne] at hp
        rw [lenStr_St, intW_gtr]
        refine condB (fun hg => ?_) (fun hg => ?_)
        · have hg : 912 < x.length := by simp at hg; omega
          rw [if_pos hg] at hp
          rw [hidx2, load1_ptr]
          exact ⟨_, hc2, hN M3 k 2 (k1.trans hK) hp.symm⟩
        · have hg : ¬ 912 < x.length := by simp at hg; omega
          rw [if_neg hg] at hp
          have hM3 : M3.base = B := by rw [hK.base, k1.base, hM]
          refine hr hM3 (by omega) ?_ ?_
          · intro M4 k4 hrd
            rw [hrd] at hp
            rw [extW0, extW1, newW_eq, storeW_all (n := 5) (RM.push_new _) rfl rfl rfl, notW_Bo, Bool.not_false, condT, hidx2, load1_ptr]
            have kk : Keep [] M3 ((M4.push (.row lz false TL 0)).put M4.next (.row lz false TL 0)) := (k4.push _).new _ k4.next
            exact ⟨_, (kk.cell hb2 (by simp)).trans hc2, hN _ k 3 ((k1.trans hK).trans kk) hp.symm⟩
          · intro cs M4 L k4 hrd hrel
            rw [hrd] at hp
            obtain ⟨pv, rfl, hpv⟩ := hrel
            simp only at hpv hp
            have hal5 : ([St L.g, St L.n, pv, St L.v, N .i64 0] : List AV).all oneCell = true := by simp [one_sc, hpv.one]
            have hal6 : ([St L.g, St L.n, pv, St L.v, N .i64 k] : List AV).all oneCell = true := by simp [one_sc, hpv.one]
            rw [extW0, extW1, newW_eq, storeW_all (n := 5) (x := .agg [St L.g, St L.n, pv, St L.v, N .i64 0]) (l := lz) (RM.push_new _) rfl rfl hal5, notW_Bo, Bool.not_true, condF, hidx2, load1_ptr]
            have k45 : Keep [] M4 (((M4.push (.row lz false TL 0)).put M4.next (.row [St L.g, St L.n, pv, St L.v, N .i64 0] false TL 0)).put M4.next (.row [St L.g, St L.n, pv, St L.v, N .i64 k] false TL 0)) :=
              (((Keep.refl _ _).push _).new _ (Nat.le_refl _)).new _ (Nat.le_refl _)
            have k4' : Keep [] M3 ((M4.push (.row lz false TL 0)).put M4.next (.row [St L.g, St L.n, pv, St L.v, N .i64 0] false TL 0)) := (k4.push _).new _ k4.next
            refine ⟨_, (k4'.cell hb2 (by simp)).trans hc2, ?_⟩
            rw [fld0, storeW_to [St L.g, St L.n, pv, St L.v, N .i64 k] (heap_put_eq _) (by simp [AV.cells]) rfl rfl rfl, loadN_at (n := 5) (heap_put_eq _) rfl, rows1 (x := .agg [St L.g, St L.n, pv, St L.v, N .i64 k]) (size := 5) rfl hal6 rfl, newW_eq]
            have n5 : (((M4.push (.row lz false TL 0)).put M4.next (.row [St L.g, St L.n, pv, St L.v, N .i64 0] false TL 0)).put M4.next (.row [St L.g, St L.n, pv, St L.v, N .i64 k] false TL 0)).next = M4.next + 1 := rfl
            have n4 := k4.next
            have n3 := hK.next
            have hvl := ho.blk
            let S' : Nat → Prop := fun b => M1.next ≤ b ∧ b < M4.next + 1 ∧ b ∉ blkOf w
            have ho5 := (ho.keep (k4.trans k45) (by simp) (by simp)).mono (S' := S') fun b h => ⟨h.1, by omega, h.2.2⟩
            have hel := (show LnE.rel _ _ (L, k) _ from ⟨pv, rfl, (hpv.lt.keep k45 (by simp)).mono (S' := S') fun b h => ⟨by omega, by omega, fun hb => by have := (hvl b hb).2; omega⟩⟩)
            refine OwD.app (R := LnE) ho5 hel (show M1.next ≤ M4.next + 1 by omega) (by decide) (fun b hb h => h.2.2 hb) (fun b h => (show b < M4.next + 1 from h.2.1)) (by omega) (by omega) ?_
            intro w' M6 o6 k6 n6 _ hd6
            have n6 : M4.next + 1 ≤ M6.next := n6
            refine hJ _ _ ⟨w', acc ++ [(L, k)], rfl, by simp; omega, ?_, o6.mono fun b h => ⟨h.1, by have := h.2.1; omega, fun hb => hd6 b hb h⟩, hp⟩
            exact (hK.trans (k4.trans k45)).then_new k6 fun c hc => .inl (hvl c hc).1
  · have hge : i = xs.length := by simp at hge; omega
    subst hge
    rw [List.drop_of_length_le (by simp; omega)] at hp
    refine hS w M3 acc (k1.trans hK) hp.symm ((ho.mono (fun b h => h.1)).slD (fun b hb _ => hb) |>.mono fun b hb => Nat.le_trans k1.next hb) (by omega)
end Go.Ab.Vl
/- Lines as the document's own answer has them, and their comparison: the walks. By an AI agent. -/
set_option linter.unusedVariables false
set_option linter.unusedSimpArgs false
namespace Go.Ab.Vl
open Go Go.Ab

def OfC (c : CallT) : Prop := ∀ {M : RM} {cs : List AV} {L : Ln} {k : Int} {S : Nat → Prop} {Q : PostV}, LnE.rel M cs (L, k) S → L.ps.length ≤ 1000000 →
  (∀ cs' M', Keep [] M M' → LnE.rel M' cs' (L, k) (fun b => S b ∨ M.next ≤ b) → Q (.agg cs') M') → c [.agg cs] M Q

theorem of_spec {T1 T2 T3 : Nat} : OfC fun args M Q => ∃ a0, args = [a0] ∧ W_rolodex_rolodexlaw23_of T1 T2 T3 a0 M Q := by
  intro M cs L k S Q hrel hpl hQ
  refine ⟨_, rfl, ?_⟩
  obtain ⟨v, rfl, hv⟩ := hrel
  simp only at hv
  have hv0 := hv
  have hall : ([St L.g, St L.n, v, St L.v, N .i64 k] : List AV).all oneCell = true := by simp [one_sc, hv.one]
  unfold W_rolodex_rolodexlaw23_of
  rw [boxW_agg hall (by simp), newW_eq, newW_eq]
  have h1 : ((M.push (.row [St L.g, St L.n, v, St L.v, N .i64 k] false T1 0)).push (.row lz false T2 0)).heap M.next = some (.row [St L.g, St L.n, v, St L.v, N .i64 k] false T1 0) := heap_push_lt (RM.push_new _) (by simp [RM.push])
  have h2 : ((M.push (.row [St L.g, St L.n, v, St L.v, N .i64 k] false T1 0)).push (.row lz false T2 0)).heap (M.next + 1) = some (.row lz false T2 0) := RM.push_new _
  have kk : Keep [] M ((M.push (.row [St L.g, St L.n, v, St L.v, N .i64 k] false T1 0)).push (.row lz false T2 0)) := ((Keep.refl _ _).push _).push _
  have nn : ((M.push (.row [St L.g, St L.n, v, St L.v, N .i64 k] false T1 0)).push (.row lz false T2 0)).next = M.next + 2 := rfl
  rw [next_push]
  generalize (M.push (.row [St L.g, St L.n, v, St L.v, N .i64 k] false T1 0)).push (.row lz false T2 0) = M1 at *
  rw [fld0, load1_at h1 rfl, fld0, load1_at h1 rfl, fld0, load1_at h1 rfl, fld0, load1_at h1 rfl, buildW_eq]
  refine ⟨[St L.g, St L.n, nilS, St L.v, N .i64 k], rfl, ?_⟩
  rw [newW_eq, storeW_all (n := 5) (l := lz) (RM.push_new _) rfl rfl rfl]
  have h1 : ((M1.push (.row lz false T2 0)).put M1.next (.row [St L.g, St L.n, nilS, St L.v, N .i64 k] false T2 0)).heap M.next = some (.row [St L.g, St L.n, v, St L.v, N .i64 k] false T1 0) := heap_put_ne (heap_push_lt h1 (by omega)) (by omega)
  have h2 : ((M1.push (.row lz false T2 0)).put M1.next (.row [St L.g, St L.n, nilS, St L.v, N .i64 k] false T2 0)).heap (M.next + 1) = some (.row lz false T2 0) := heap_put_ne (heap_push_lt h2 (by omega)) (by omega)
  have h3 : ((M1.push (.row lz false T2 0)).put M1.next (.row [St L.g, St L.n, nilS, St L.v, N .i64 k] false T2 0)).heap (M.next + 2) = some (.row [St L.g, St L.n, nilS, St L.v, N .i64 k] false T2 0) := by rw [← nn]; exact heap_put_eq _
  have kk : Keep [] M ((M1.push (.row lz false T2 0)).put M1.next (.row [St L.g, St L.n, nilS, St L.v, N .i64 k] false T2 0)) := (kk.push _).new _ (by omega)
  have n3 : ((M1.push (.row lz false T2 0)).put M1.next (.row [St L.g, St L.n, nilS, St L.v, N .i64 k] false T2 0)).next = M.next + 3 := by rw [next_put, next_push, nn]
  change loopW _ _ ((M1.push (.row lz false T2 0)).put M1.next (.row [St L.g, St L.n, nilS, St L.v, N .i64 k] false T2 0))
  generalize (M1.push (.row lz false T2 0)).put M1.next (.row [St L.g, St L.n, nilS, St L.v, N .i64 k] false T2 0) = M2 at *
  rw [nn]
  refine loopW_ind (fun m ys M3 => ∃ (i : Nat) (w : AV), m = L.ps.length - i ∧ ys = [N .i64 i] ∧ i ≤ L.ps.length ∧ Keep [] M M3 ∧ M.next + 3 ≤ M3.next ∧ M3.heap M.next = some (.row [St L.g, St L.n, v, St L.v, N .i64 k] false T1 0) ∧
      M3.heap (M.next + 1) = some (.row lz false T2 0) ∧ M3.heap (M.next + 2) = some (.row [St L.g, St L.n, w, St L.v, N .i64 k] false T2 0) ∧ OwD ParE M3 (M.next + 3) T3 w (L.ps.take i) (fun b => S b ∧ b < M.next)) _
    ⟨0, nilS, rfl, rfl, Nat.zero_le _, kk, by omega, h1, h2, h3, .nil⟩ ?_
  rintro next m ys M3 hnext ⟨i, w, rfl, rfl, hi, hK, n3, h1, h2, h3, ho⟩
  have hv3 := hv0.lt.keep hK (by simp)
  dsimp only [nthD]
  rw [fld0, load1_at h1 rfl, hv3.len, intW_lss]
  refine condB (fun hlt => ?_) (fun hge => ?_)
  · have hlt : i < L.ps.length := by simpa using hlt
    rw [fld0, load1_at h3 rfl, fld0, load1_at h1 rfl]
    obtain ⟨b, o, cs, hb, hbm, hidx, hld, hrel⟩ := SlD.at hv3 2 (i : Int) hlt
    obtain ⟨ds, rfl, pv, rfl, hpv⟩ := hrel
    rw [hidx, fldW_ptr, load1_ptr]
    refine ⟨St L.ps[i].1, cell_of_loads hld (j := 0) rfl, ?_⟩
    rw [fld0, load1_at h1 rfl, hidx, fldW_ptr, load1_ptr]
    refine ⟨pv, cell_of_loads hld (j := 1) rfl, ?_⟩
    rw [buildW_eq]
    refine ⟨[St L.ps[i].1, pv], build2 rfl rfl hpv.known hpv.cells, ?_⟩
    rw [rows1 (x := .agg [St L.ps[i].1, pv]) (size := 2) rfl (by simp [one_sc, AV.cells, hpv.one]) rfl, newR_eq]
    have hvl := ho.blk
    refine OwD.app (R := ParE) (a := L.ps[i]) ho (ParE_rel hpv) n3 (by decide) (fun b hb h => by have := hvl b hb; omega) (fun b h => by omega) (by simp; omega) (by simp; omega) ?_
    intro w' M4 o4 k4 n4 _ _
    have g3 := k4.heap_of h3 (by omega) (fun h => by have := hvl _ h; omega)
    rw [fld0, storeW_to [St L.g, St L.n, w', St L.v, N .i64 k] g3 (by simp) o4.cells o4.one rfl, intW_add, i64_succ (by omega)]
    refine hnext _ _ _ (by omega) ⟨i + 1, w', rfl, rfl, by omega, ?_, by rw [next_put]; omega, ?_, ?_, heap_put_eq _, ?_⟩
    · exact (hK.then_new k4 fun c hc => .inl (by have := hvl c hc; omega)).new _ (by omega)
    · exact heap_put_ne (k4.heap_of h1 (by omega) (fun h => by have := hvl _ h; omega)) (by omega)
    · exact heap_put_ne (k4.heap_of h2 (by omega) (fun h => by have := hvl _ h; omega)) (by omega)
    · rw [List.take_succ_eq_append_getElem hlt]
      refine o4.keep (bs := [M.next + 2]) ((Keep.refl _ _).put _ (.inr (by simp))) (fun b hb h => by simp at hb; omega) fun b hb h => ?_
      have := o4.blk b hb
      simp at h; omega
  · have hge : i = L.ps.length := by simp at hge; omega
    subst hge
    rw [List.take_length] at ho
    have hw := ho.one
    rw [loadN_at (n := 5) h3 rfl, storeW_all (n := 5) (x := .agg [St L.g, St L.n, w, St L.v, N .i64 k]) h2 rfl rfl (by simp [one_sc, AV.cells, hw]), loadN_at (n := 5) (heap_put_eq _) rfl]
    refine hQ _ _ (hK.new _ (by omega)) ⟨w, rfl, ?_⟩
    have hk1 := ho.keep (bs := [M.next + 1]) ((Keep.refl _ M3).put (b := M.next + 1) (.row (AV.agg [St L.g, St L.n, w, St L.v, N .i64 k]).cells false T2 0) (.inr (by simp))) (fun b hb h => by simp at hb; omega) (fun b hb h => by have := ho.blk b hb; simp at h; omega)
    exact (hk1.mono (S' := fun b => S b ∨ M.next ≤ b) fun b h => .inl h.1).slD fun b h1 _ => .inr (by omega)

def SameC (c : CallT) : Prop := ∀ {M : RM} {cs ds : List AV} {L L' : Ln} {k k' : Int} {S S' : Nat → Prop} {Q : PostV}, LnE.rel M cs (L, k) S → LnE.rel M ds (L', k') S' → L.ps.length ≤ 1000000 → (∀ p ∈ L.ps, p.2.length ≤ 1000000) →
  (∀ M', Keep [] M M' → Q (Bo (decide (L = L'))) M') → c [.agg cs, .agg ds] M Q
/-- Lists are the same if they are so as far as the first one's length and as long. -/
theorem take_eq_all {α : Type} {xs ys : List α} (h : xs.length = ys.length) (ht : xs.take xs.length = ys.take xs.length) : xs = ys := by
  rw [List.take_length, h, List.take_length] at ht; exact ht
theorem take_succ_eq {α : Type} {xs ys : List α} {i : Nat} (h1 : i < xs.length) (h2 : i < ys.length) (h : xs.take i = ys.take i) (he : xs[i] = ys[i]) : xs.take (i + 1) = ys.take (i + 1) := by
  rw [List.take_succ_eq_append_getElem h1, List.take_succ_eq_append_getElem h2, h, he]

theorem same_spec {T : Nat} : SameC fun args M Q => ∃ a0 a1, args = [a0, a1] ∧ W_rolodex_rolodexref23_Same T a0 a1 M Q := by
  intro M cs ds L L' k k' S S' Q hr1 hr2 hpl hpv hQ
  refine ⟨_, _, rfl, ?_⟩
  obtain ⟨v, rfl, hv⟩ := hr1
  obtain ⟨v', rfl, hv'⟩ := hr2
  simp only at hv hv'
  have hall : ([St L.g, St L.n, v, St L.v, N .i64 k] : List AV).all oneCell = true := by simp [one_sc, hv.one]
  have hall' : ([St L'.g, St L'.n, v', St L'.v, N .i64 k'] : List AV).all oneCell = true := by simp [one_sc, hv'.one]
  unfold W_rolodex_rolodexref23_Same
  simp only [fuseM, fuseK]
  rw [boxW_agg hall (by simp), newW_eq, boxW_agg hall' (by simp), newW_eq]
  have h1 : ((M.push (.row [St L.g, St L.n, v, St L.v, N .i64 k] false T 0)).push (.row [St L'.g, St L'.n, v', St L'.v, N .i64 k'] false T 0)).heap M.next = some (.row [St L.g, St L.n, v, St L.v, N .i64 k] false T 0) := heap_push_lt (RM.push_new _) (by simp [RM.push])
  have h2 : ((M.push (.row [St L.g, St L.n, v, St L.v, N .i64 k] false T 0)).push (.row [St L'.g, St L'.n, v', St L'.v, N .i64 k'] false T 0)).heap (M.next + 1) = some (.row [St L'.g, St L'.n, v', St L'.v, N .i64 k'] false T 0) := RM.push_new _
  have kk : Keep [] M ((M.push (.row [St L.g, St L.n, v, St L.v, N .i64 k] false T 0)).push (.row [St L'.g, St L'.n, v', St L'.v, N .i64 k'] false T 0)) := ((Keep.refl _ _).push _).push _
  rw [next_push]
  generalize (M.push (.row [St L.g, St L.n, v, St L.v, N .i64 k] false T 0)).push (.row [St L'.g, St L'.n, v', St L'.v, N .i64 k'] false T 0) = M1 at *
  have g1 := hv.keep kk (by simp)
  have g2 := hv'.keep kk (by simp)
  have no : L ≠ L' → Q (Bo false) M1 := fun h => by have := hQ M1 kk; rwa [decide_eq_false h] at this
  rw [fld0, load1_at h1 rfl, fld0, load1_at h2 rfl, strW_neq]
  have e2 : M1.heap (M.next + 1) = _ := h2
  by_cases hg : L.g = L'.g
  · have b1 : (L.g != L'.g) = false := by simp [hg]
    rw [b1, guardM_FF, fld0, load1_at h1 rfl, fld0, load1_at h2 rfl, strW_neq]
    dsimp only
    rw [pickF]
    by_cases hn : L.n = L'.n
    · have b1 : (L.n != L'.n) = false := by simp [hn]
      rw [b1, guardM_FF, fld0, load1_at h1 rfl, fld0, load1_at h2 rfl, strW_neq]
      dsimp only
      rw [pickF]
      by_cases hva : L.v = L'.v
      · have b1 : (L.v != L'.v) = false := by simp [hva]
        rw [b1, guardM_FF, fld0, load1_at h1 rfl, g1.len, fld0, load1_at h2 rfl, g2.len, intW_neq]
        dsimp only
        rw [pickF]
        by_cases hln : L.ps.length = L'.ps.length
        · have b1 : ((L.ps.length : Int) != (L'.ps.length : Int)) = false := by simp [hln]
          rw [b1, condF]
          refine loopW_ind (fun m ys M3 => M3 = M1 ∧ ∃ i : Nat, m = L.ps.length - i ∧ ys = [N .i64 i] ∧ i ≤ L.ps.length ∧ L.ps.take i = L'.ps.take i) _
            ⟨rfl, 0, rfl, rfl, Nat.zero_le _, by simp⟩ ?_
          rintro next m ys M3 hnext ⟨rfl, i, rfl, rfl, hi, ht⟩
          dsimp only [nthD]
          rw [fld0, load1_at h1 rfl, g1.len, intW_lss]
          refine condB (fun hlt => ?_) (fun hge => ?_)
          · have hlt : i < L.ps.length := by simpa using hlt
            obtain ⟨b, o, c1, hb, hbm, hidx, hld, hrel⟩ := SlD.at g1 2 (i : Int) hlt
            obtain ⟨_, rfl, pv, rfl, hpv1⟩ := hrel
            obtain ⟨b', o', c2, hb', hbm', hidx', hld', hrel'⟩ := SlD.at g2 2 (i : Int) (show i < L'.ps.length by omega)
            obtain ⟨_, rfl, pv', rfl, hpv2⟩ := hrel'
            have hc0 : M3.cell b (o + 0) = some (St L.ps[i].1) := cell_of_loads hld (j := 0) rfl
            have hc1 : M3.cell b (o + 1) = some pv := cell_of_loads hld (j := 1) rfl
            have hc0' : M3.cell b' (o' + 0) = some (St (L'.ps[i]'(by omega)).1) := cell_of_loads hld' (j := 0) rfl
            have hc1' : M3.cell b' (o' + 1) = some pv' := cell_of_loads hld' (j := 1) rfl
            have hm := hpv L.ps[i] (List.getElem_mem hlt)
            have noi : L.ps[i] ≠ L'.ps[i]'(by omega) → L ≠ L' := fun h e => by subst e; exact h rfl
            generalize hp1 : L.ps[i] = p at *
            generalize hp2 : L'.ps[i]'(by omega) = p' at *
            rw [fld0, load1_at h1 rfl, hidx, fldW_ptr, load1_ptr]
            refine ⟨_, hc0, ?_⟩
            rw [fld0, load1_at h2 rfl, hidx', fldW_ptr, load1_ptr]
            refine ⟨_, hc0', ?_⟩
            rw [strW_neq]
            by_cases he : p.1 = p'.1
            · have b1 : (p.1 != p'.1) = false := by simp [he]
              rw [b1, guardK_FF, fld0, load1_at h1 rfl, hidx, fldW_ptr, load1_ptr]
              refine ⟨_, hc1, ?_⟩
              rw [hpv1.len, fld0, load1_at h2 rfl, hidx', fldW_ptr, load1_ptr]
              refine ⟨_, hc1', ?_⟩
              rw [hpv2.len, intW_neq]
              dsimp only
              rw [pickF]
              by_cases hl2 : p.2.length = p'.2.length
              · have b1 : ((p.2.length : Int) != (p'.2.length : Int)) = false := by simp [hl2]
                rw [b1, condF]
                refine loopW_ind (fun m ys M4 => M4 = M3 ∧ ∃ j : Nat, m = p.2.length - j ∧ ys = [N .i64 j] ∧ j ≤ p.2.length ∧ p.2.take j = p'.2.take j) _
                  ⟨rfl, 0, rfl, rfl, Nat.zero_le _, by simp⟩ ?_
                rintro next2 m ys M4 hnext2 ⟨rfl, j, rfl, rfl, hj, ht2⟩
                dsimp only [nthD]
                rw [fld0, load1_at h1 rfl, hidx, fldW_ptr, load1_ptr]
                refine ⟨_, hc1, ?_⟩
                rw [hpv1.len, intW_lss]
                refine condB (fun hlt2 => ?_) (fun hge2 => ?_)
                · have hlt2 : j < p.2.length := by simpa using hlt2
                  rw [fld0, load1_at h1 rfl, hidx, fldW_ptr, load1_ptr]
                  refine ⟨_, hc1, ?_⟩
                  obtain ⟨b3, o3, _, _, hidx3, hc3⟩ := Sl.at1 (E := STR) hpv1.sl (j : Int) hlt2
                  have hc3 := hc3 _ rfl
                  rw [hidx3, load1_ptr]
                  refine ⟨_, hc3, ?_⟩
                  rw [fld0, load1_at h2 rfl, hidx', fldW_ptr, load1_ptr]
                  refine ⟨_, hc1', ?_⟩
                  obtain ⟨b4, o4, _, _, hidx4, hc4⟩ := Sl.at1 (E := STR) hpv2.sl (j : Int) (show j < p'.2.length by omega)
                  have hc4 := hc4 _ rfl
                  rw [hidx4, load1_ptr]
                  refine ⟨_, hc4, ?_⟩
                  rw [strW_neq]
                  refine condB (fun h => ?_) (fun h => ?_)
                  · refine no (noi fun e => ?_)
                    subst e
                    simp at h
                  · have h : p.2[j] = p'.2[j]'(by omega) := by simpa using h
                    rw [intW_add, i64_succ (by omega)]
                    exact hnext2 _ _ _ (by omega) ⟨rfl, j + 1, rfl, rfl, by omega, take_succ_eq hlt2 (by omega) ht2 h⟩
                · have hge2 : j = p.2.length := by simp at hge2; omega
                  subst hge2
                  have := take_eq_all hl2 ht2
                  rw [intW_add, i64_succ (by omega)]
                  exact hnext _ _ _ (by omega) ⟨rfl, i + 1, rfl, rfl, by omega, take_succ_eq hlt (by omega) ht (by rw [hp1, hp2]; exact Prod.ext he this)⟩
              · have b1 : ((p.2.length : Int) != (p'.2.length : Int)) = true := by simp; omega
                rw [b1, condT]
                exact no (noi fun e => hl2 (by rw [e]))
            · have b1 : (p.1 != p'.1) = true := by simp [he]
              rw [b1, guardK_TF]
              dsimp only
              rw [pickT, condT]
              exact no (noi fun e => he (by rw [e]))
          · have hge : i = L.ps.length := by simp at hge; omega
            subst hge
            have hps := take_eq_all hln ht
            have := hQ M3 kk
            rwa [decide_eq_true (show L = L' by
              obtain ⟨a1, a2, a3, a4⟩ := L
              obtain ⟨b1, b2, b3, b4⟩ := L'
              simp only at hg hn hva hps
              rw [hg, hn, hva, hps])] at this
        · have b1 : ((L.ps.length : Int) != (L'.ps.length : Int)) = true := by simp; omega
          rw [b1, condT]
          exact no fun e => hln (by rw [e])
      · have b1 : (L.v != L'.v) = true := by simp [hva]
        rw [b1, guardM_TF]
        dsimp only
        rw [pickT, condT]
        exact no fun e => hva (by rw [e])
    · have b1 : (L.n != L'.n) = true := by simp [hn]
      rw [b1, guardM_TF]
      dsimp only
      rw [pickT, guardM_TF]
      dsimp only
      rw [pickT, condT]
      exact no fun e => hn (by rw [e])
  · have b1 : (L.g != L'.g) = true := by simp [hg]
    rw [b1, guardM_TF]
    dsimp only
    rw [pickT, guardM_TF]
    dsimp only
    rw [pickT, guardM_TF]
    dsimp only
    rw [pickT, condT]
    exact no fun e => hg (by rw [e])
end Go.Ab.Vl
