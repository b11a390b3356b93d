/- Runes. By an AI agent. -/
import Derived.Test.YtmilkhdicmkmbaaDoorVlE
import Derived.Lib.DecodeN
import Derived.Lib.ValidU
set_option maxRecDepth 100000
set_option linter.unusedVariables false
set_option linter.unusedSimpArgs false
namespace Go.Ab.Vl
open Go Go.Ab

/-- How many bytes the rune has, as far as it is well formed. -/
def rkN (n b0 b1 b2 b3 : Nat) : Nat := if Lib.decodeN n b0 b1 b2 b3 = (65533, 1) then 0 else (Lib.decodeN n b0 b1 b2 b3).2

section
variable {n b0 b1 b2 b3 : Nat}
theorem rkN_ascii (h : b0 < 128) : rkN n b0 b1 b2 b3 = 1 := by
  have : Lib.decodeN n b0 b1 b2 b3 = (b0, 1) := by simp [Lib.decodeN, h]
  rw [rkN, this, if_neg (by intro e; cases e; omega)]
theorem rkN_of_err (h : Lib.decodeN n b0 b1 b2 b3 = (65533, 1)) : rkN n b0 b1 b2 b3 = 0 := by rw [rkN, if_pos h]
theorem rkN_lead (h : 128 ≤ b0 ∧ b0 < 194 ∨ 245 ≤ b0) : rkN n b0 b1 b2 b3 = 0 := by
  refine rkN_of_err ?_
  unfold Lib.decodeN
  repeat' split
  all_goals first | rfl | (exfalso; omega)
theorem rkN2_bad (h : 194 ≤ b0 ∧ b0 < 224) (hb : n < 2 ∨ b1 < 128 ∨ 191 < b1) : rkN n b0 b1 b2 b3 = 0 := by
  refine rkN_of_err ?_
  unfold Lib.decodeN
  repeat' split
  all_goals first | rfl | (exfalso; omega)
theorem rkN2 (h : 194 ≤ b0 ∧ b0 < 224) (hn : 2 ≤ n) (h1 : 128 ≤ b1 ∧ b1 ≤ 191) : rkN n b0 b1 b2 b3 = 2 := by
  have : Lib.decodeN n b0 b1 b2 b3 = (b0 % 32 * 64 + b1 % 64, 2) := by
    unfold Lib.decodeN
    repeat' split
    all_goals first | rfl | (exfalso; omega)
  rw [rkN, this, if_neg (fun e => absurd (congrArg Prod.snd e) (by simp))]
theorem rkN3_bad (h : 224 ≤ b0 ∧ b0 < 240) (hb : n < 3 ∨ b1 < 128 ∨ 191 < b1 ∨ b2 < 128 ∨ 191 < b2) : rkN n b0 b1 b2 b3 = 0 := by
  refine rkN_of_err ?_
  unfold Lib.decodeN
  repeat' split
  all_goals first | rfl | (exfalso; omega)
theorem rkN3 (h : 224 ≤ b0 ∧ b0 < 240) (hn : 3 ≤ n) (h1 : 128 ≤ b1 ∧ b1 ≤ 191) (h2 : 128 ≤ b2 ∧ b2 ≤ 191) {v : Nat} (hv : v = 64 * (64 * (b0 - 224) + b1 - 128) + b2 - 128) :
    rkN n b0 b1 b2 b3 = if v < 2048 ∨ 55296 ≤ v ∧ v < 57344 then 0 else 3 := by
  have hv' : v = b0 % 16 * 4096 + b1 % 64 * 64 + b2 % 64 := by omega
  split
  · rename_i hc
    refine rkN_of_err ?_
    unfold Lib.decodeN
    repeat' split
    all_goals first | rfl | (exfalso; omega)
  · rename_i hc
    have : Lib.decodeN n b0 b1 b2 b3 = (b0 % 16 * 4096 + b1 % 64 * 64 + b2 % 64, 3) := by
      unfold Lib.decodeN
      repeat' split
      all_goals first | rfl | (exfalso; omega)
    rw [rkN, this, if_neg (fun e => absurd (congrArg Prod.snd e) (by simp))]
theorem rkN4_bad (h : 240 ≤ b0 ∧ b0 < 245) (hb : n < 4 ∨ b1 < 128 ∨ 191 < b1 ∨ b2 < 128 ∨ 191 < b2 ∨ b3 < 128 ∨ 191 < b3) : rkN n b0 b1 b2 b3 = 0 := by
  refine rkN_of_err ?_
  unfold Lib.decodeN
  repeat' split
  all_goals first | rfl | (exfalso; omega)
theorem rkN4 (h : 240 ≤ b0 ∧ b0 < 245) (hn : 4 ≤ n) (h1 : 128 ≤ b1 ∧ b1 ≤ 191) (h2 : 128 ≤ b2 ∧ b2 ≤ 191) (h3 : 128 ≤ b3 ∧ b3 ≤ 191) {v : Nat} (hv : v = 64 * (64 * (64 * (b0 - 240) + b1 - 128) + b2 - 128) + b3 - 128) :
    rkN n b0 b1 b2 b3 = if v < 65536 ∨ 1114111 < v then 0 else 4 := by
  have hv' : v = b0 % 8 * 262144 + b1 % 64 * 4096 + b2 % 64 * 64 + b3 % 64 := by omega
  split
  · rename_i hc
    refine rkN_of_err ?_
    unfold Lib.decodeN
    repeat' split
    all_goals first | rfl | (exfalso; omega)
  · rename_i hc
    have : Lib.decodeN n b0 b1 b2 b3 = (b0 % 8 * 262144 + b1 % 64 * 4096 + b2 % 64 * 64 + b3 % 64, 4) := by
      unfold Lib.decodeN
      repeat' split
      all_goals first | rfl | (exfalso; omega)
    rw [rkN, this, if_neg (fun e => absurd (congrArg Prod.snd e) (by simp))]
end

def bt (s : List UInt8) (i : Nat) : Nat := (s.getD i 0).toNat
theorem bt_lt (s : List UInt8) (i : Nat) : bt s i < 256 := u8_lt _
theorem bt_at {s : List UInt8} {i : Nat} (hi : i < s.length) : s[i].toNat = bt s i := by simp [bt, List.getD_eq_getElem?_getD, hi]
def dec (s : List UInt8) : Nat × Nat := Lib.decodeN s.length (bt s 0) (bt s 1) (bt s 2) (bt s 3)
def rk (s : List UInt8) : Nat := if s = [] then 0 else rkN s.length (bt s 0) (bt s 1) (bt s 2) (bt s 3)
/-- How many bytes are taken as one. -/
def rs (s : List UInt8) : Nat := if s = [] then 0 else (dec s).2

theorem dec_size_pos (s : List UInt8) : 1 ≤ (dec s).2 := Lib.decodeN_ge1 _ _ _ _ _
theorem rs_eq {s : List UInt8} (h : s ≠ []) : rs s = if rk s = 0 then 1 else rk s := by
  have := dec_size_pos s
  simp only [rs, rk, if_neg h, rkN]
  unfold dec at *
  split
  · rename_i h1
    rw [h1]; rfl
  · rename_i h1
    rw [if_neg (by omega)]
theorem decodeN_le (n b0 b1 b2 b3 : Nat) (hn : 1 ≤ n) : (Lib.decodeN n b0 b1 b2 b3).2 ≤ n ∧ (Lib.decodeN n b0 b1 b2 b3).2 ≤ 4 := by
  unfold Lib.decodeN
  repeat' split
  all_goals (simp; try omega)
theorem rs_pos {s : List UInt8} (h : s ≠ []) : 1 ≤ rs s := by simp only [rs, if_neg h]; exact dec_size_pos s
theorem rs_le {s : List UInt8} (h : s ≠ []) : rs s ≤ s.length ∧ rs s ≤ 4 := by
  simp only [rs, if_neg h]
  exact decodeN_le _ _ _ _ _ (List.length_pos_iff.2 h)

def RuneC (c : CallT) : Prop := ∀ {M : RM} {s : List UInt8} {Q : PostV}, s.length < 9223372036854775807 → Q (N .i64 (rk s)) M → c [St s] M Q
/-- What the reader has reckoned behind so many bytes. -/
def acc (v0 : Nat) (s : List UInt8) : Nat → Nat
  | 0 => v0
  | k + 1 => 64 * acc v0 s k + bt s (k + 1) - 128

/-- A join that is not opened. -/
def joinV (f : (List AV → RM → Prop) → Prop) (g : List AV → RM → Prop) : Prop := f g
theorem joinW_shut (f : (List AV → RM → Prop) → Prop) (g : List AV → RM → Prop) : joinW f g = joinV f g := rfl
theorem joinV_open {f : (List AV → RM → Prop) → Prop} {g : List AV → RM → Prop} (h : f g) : joinV f g := h
theorem joinV_spec {H : (List AV → RM → Prop) → Prop} {G : List AV → RM → Prop} (P : List AV → RM → Prop) (hT : ∀ xs M, P xs M → G xs M)
    (hH : ∀ J : List AV → RM → Prop, (∀ xs M, P xs M → J xs M) → H J) : joinV H G := hH G hT
theorem i64w {x : Int} (h : -9223372036854775808 ≤ x) (k : x < 9223372036854775808) : IntKind.wrap .i64 x = x := wrap_i64_id (by omega) (by omega)
theorem ii (x k : Nat) : ((x : Int) == (k : Int)) = decide (x = k) := by
  by_cases h : x = k <;> simp [h]; omega
theorem tail_ok {M : RM} (e3 e4 c1 c2 c3 c4 c5 : Bool) {P0 Pk : RM → Prop} (h0 : ((e3 && (c1 || (c2 && c3))) || (e4 && (c4 || c5))) = true → P0 M) (h1 : ((e3 && (c1 || (c2 && c3))) || (e4 && (c4 || c5))) = false → Pk M) :
    guardM (Bo e3) true (fun k' => k' (Bo c1) M) (fun k => k AV.undef M) fun t72 M_27 =>
    guardM t72 false (fun k' => k' (Bo c2) M_27) (fun k => k AV.undef M_27) fun t75 M_34 =>
    guardM t75 true (fun k' => k' (Bo c3) M_34) (fun k => k AV.undef M_34) fun t77_38 M_39 =>
    guardM t72 false (fun k_40 => pickW t75 t77_38 (Bo false) fun t78 => k_40 t78 M_39) (fun k => k AV.undef M_39) fun t78_41 M_42 =>
    guardM (Bo e3) true (fun k_43 => pickW t72 (Bo true) t78_41 fun t79 => k_43 t79 M_42) (fun k => k AV.undef M_42) fun t79_44 M_45 =>
    pickW (Bo e3) t79_44 (Bo false) fun t80 =>
    guardM t80 false (fun k' => k' (Bo e4) M_45) (fun k => k AV.undef M_45) fun t84 M_52 =>
    guardM t84 true (fun k' => k' (Bo c4) M_52) (fun k => k AV.undef M_52) fun t87 M_59 =>
    guardM t87 false (fun k' => k' (Bo c5) M_59) (fun k => k AV.undef M_59) fun t89_63 M_64 =>
    guardM t84 true (fun k_65 => pickW t87 (Bo true) t89_63 fun t90 => k_65 t90 M_64) (fun k => k AV.undef M_64) fun t90_66 M_67 =>
    guardM t80 false (fun k_68 => pickW t84 t90_66 (Bo false) fun t91 => k_68 t91 M_67) (fun k => k AV.undef M_67) fun t91_69 M_70 =>
    pickW t80 (Bo true) t91_69 fun t92 => condW t92 (P0 M_70) (Pk M_70) := by
  cases e3 <;> cases e4 <;> cases c1 <;> cases c2 <;> cases c3 <;> cases c4 <;> cases c5 <;> simp_all [go_sem]
set_option maxRecDepth 8192 in
theorem rune_spec : RuneC fun args M Q => ∃ a0, args = [a0] ∧ W_rolodex_rolodexref23_Rune a0 M Q := by
  intro M s Q hl hQ
  refine ⟨_, rfl, ?_⟩
  unfold W_rolodex_rolodexref23_Rune
  simp only [fuseM, joinW_shut]
  simp only [go_sem]
  refine ⟨fun h0 => ?_, fun h0 => ?_⟩
  · have : s = [] := List.eq_nil_of_length_eq_zero (by simp at h0; simp [h0])
    subst this; exact hQ
  · have hne : s ≠ [] := by intro e; subst e; simp at h0
    have hpos : 0 < s.length := List.length_pos_iff.2 hne
    have hrk : rk s = rkN s.length (bt s 0) (bt s 1) (bt s 2) (bt s 3) := by rw [rk, if_neg hne]
    have hg0 : s[0]? = some s[0] := List.getElem?_eq_getElem hpos
    have hb0 := bt_at hpos
    have hc := u8_lt s[0]
    generalize s[0] = c at *
    have hw : IntKind.wrap .i64 (c.toNat : Int) = (c.toNat : Int) := wrap_i64_id (by omega) (by omega)
    refine ⟨by omega, c, by simpa using hg0, ?_⟩
    rw [hw, hb0]
    have hb := bt_lt s 0
    refine ⟨fun h => ?_, fun h => ?_⟩
    · rw [hrk, rkN_ascii (by simp at h; omega)] at hQ; exact hQ
    have h128 : 128 ≤ bt s 0 := by simp at h; omega
    refine joinV_spec (fun xs M' => M' = M ∧ ∃ k v0 : Nat, xs = [N .i64 k, N .i64 v0] ∧
      (k = 2 ∧ 194 ≤ bt s 0 ∧ bt s 0 < 224 ∧ v0 = bt s 0 - 192 ∨ k = 3 ∧ 224 ≤ bt s 0 ∧ bt s 0 < 240 ∧ v0 = bt s 0 - 224 ∨ k = 4 ∧ 240 ≤ bt s 0 ∧ bt s 0 < 245 ∧ v0 = bt s 0 - 240)) ?_ ?_
    · rintro _ M0 ⟨hM0, k, v0, rfl, hk⟩
      subst hM0
      have hk4 : 2 ≤ k ∧ k ≤ 4 ∧ v0 < 32 := by omega
      have hbs : ∀ i, bt s i < 256 := bt_lt s
      show intW .lss _ _ _
      rw [show nthD [N IntKind.i64 (k : Int), N IntKind.i64 (v0 : Int)] 0 = N .i64 (k : Int) from rfl, show nthD [N IntKind.i64 (k : Int), N IntKind.i64 (v0 : Int)] 1 = N .i64 (v0 : Int) from rfl, intW_lss, condW_Bo]
      refine ⟨fun hlt => ?_, fun hge => ?_⟩
      · have hlt : s.length < k := by simpa using hlt
        have : rk s = 0 := by
          rw [hrk]
          rcases hk with hk | hk | hk
          · exact rkN2_bad (by omega) (by omega)
          · exact rkN3_bad (by omega) (by omega)
          · exact rkN4_bad (by omega) (by omega)
        rw [this] at hQ; exact hQ
      have hge : k ≤ s.length := by simpa using hge
      refine loopW_ind (fun m ys M' => M' = M0 ∧ ∃ j : Nat, m = k - j ∧ ys = [N .i64 (acc v0 s j), N .i64 ((j + 1 : Nat) : Int)] ∧ j + 1 ≤ k ∧ (∀ i, 1 ≤ i → i ≤ j → 128 ≤ bt s i ∧ bt s i ≤ 191) ∧
        (j = 0 ∧ acc v0 s j < 32 ∨ j = 1 ∧ acc v0 s j < 4096 ∨ j = 2 ∧ acc v0 s j < 262144 ∨ j = 3 ∧ acc v0 s j < 33554432)) _ ⟨rfl, 0, rfl, rfl, by omega, fun i h1 h2 => by omega, by simp [acc]; omega⟩ ?_
      rintro next m ys _ hnext ⟨rfl, j, rfl, rfl, hj, hall, hacc⟩
      rw [show nthD [N IntKind.i64 (acc v0 s j : Int), N IntKind.i64 ((j + 1 : Nat) : Int)] 0 = N .i64 (acc v0 s j : Int) from rfl, show nthD [N IntKind.i64 (acc v0 s j : Int), N IntKind.i64 ((j + 1 : Nat) : Int)] 1 = N .i64 ((j + 1 : Nat) : Int) from rfl, intW_lss, condW_Bo]
      refine ⟨fun hlt => ?_, fun hge2 => ?_⟩
      · have hlt : j + 1 < k := by
          have := of_decide_eq_true hlt
          omega
        have hjs : j + 1 < s.length := by omega
        have hgj : s[j + 1]? = some s[j + 1] := List.getElem?_eq_getElem hjs
        have hwj : IntKind.wrap .i64 (s[j + 1].toNat : Int) = (bt s (j + 1) : Int) := by rw [wrap_i64_id (by omega) (by have := u8_lt s[j + 1]; omega), bt_at hjs]
        have hbj := hbs (j + 1)
        simp only [go_sem]
        refine ⟨s[j + 1], hgj, ?_⟩
        rw [hwj]
        generalize hB : bt s (j + 1) = B at *
        have hbad : (B < 128 ∨ 191 < B) → rk s = 0 := fun hb' => by
          rw [hrk]
          have h3 : j = 0 ∨ j = 1 ∨ j = 2 := by omega
          rcases hk with hk | hk | hk
          · obtain rfl : j = 0 := by omega
            exact rkN2_bad (by omega) (by simp only [Nat.zero_add] at hB; omega)
          · refine rkN3_bad (by omega) ?_
            rcases h3 with rfl | rfl | rfl <;> simp only [Nat.zero_add, Nat.reduceAdd] at hB <;> omega
          · refine rkN4_bad (by omega) ?_
            rcases h3 with rfl | rfl | rfl <;> simp only [Nat.zero_add, Nat.reduceAdd] at hB <;> omega
        by_cases c1 : B < 128
        · have c1' : ((B : Int) < 128) := by omega
          simp only [c1', decide_true, go_sem, if_true]
          rw [hbad (by omega)] at hQ; exact hQ
        · have c1' : ¬ ((B : Int) < 128) := by omega
          by_cases c2 : 191 < B
          · have c2' : (B : Int) > 191 := by omega
            simp only [c1', c2', decide_true, decide_false, go_sem, if_true]
            rw [hbad (by omega)] at hQ; exact hQ
          · have c2' : ¬ ((B : Int) > 191) := by omega
            simp only [c1', c2', decide_true, decide_false, go_sem, if_true]
            have e1 : acc v0 s (j + 1) = 64 * acc v0 s j + B - 128 := by rw [acc, hB]
            have w1 : IntKind.wrap .i64 (64 * (acc v0 s j : Int)) = 64 * (acc v0 s j : Int) := i64w (by omega) (by omega)
            have w2 : IntKind.wrap .i64 (64 * (acc v0 s j : Int) + (B : Int)) = 64 * (acc v0 s j : Int) + (B : Int) := i64w (by omega) (by omega)
            have w3 : IntKind.wrap .i64 (64 * (acc v0 s j : Int) + (B : Int) - 128) = (acc v0 s (j + 1) : Int) := by rw [i64w (by omega) (by omega), e1]; omega
            have w4 : IntKind.wrap .i64 (((j + 1 : Nat) : Int) + 1) = ((j + 2 : Nat) : Int) := by rw [i64w (by omega) (by omega)]; omega
            rw [w1, w2, w3, w4]
            refine hnext _ _ _ (by omega) ⟨rfl, j + 1, rfl, rfl, by omega, fun i h1 h2 => ?_, by omega⟩
            by_cases hi : i = j + 1
            · subst hi; omega
            · exact hall i h1 (by omega)
      · have hge2 := of_decide_eq_false hge2
        obtain rfl : k = j + 1 := by omega
        have hrest : rk s = if j + 1 = 3 ∧ (acc v0 s j < 2048 ∨ 55296 ≤ acc v0 s j ∧ acc v0 s j < 57344) ∨ j + 1 = 4 ∧ (acc v0 s j < 65536 ∨ 1114111 < acc v0 s j) then 0 else j + 1 := by
          rw [hrk]
          rcases hk with hk | hk | hk
          · obtain rfl : j = 1 := by omega
            rw [rkN2 (by omega) (by omega) (hall 1 (by omega) (by omega)), if_neg (by omega)]
          · obtain rfl : j = 2 := by omega
            rw [rkN3 (v := acc v0 s 2) (by omega) (by omega) (hall 1 (by omega) (by omega)) (hall 2 (by omega) (by omega)) (by simp only [acc]; rw [hk.2.2.2])]
            simp
          · obtain rfl : j = 3 := by omega
            rw [rkN4 (v := acc v0 s 3) (by omega) (by omega) (hall 1 (by omega) (by omega)) (hall 2 (by omega) (by omega)) (hall 3 (by omega) (by omega)) (by simp only [acc]; rw [hk.2.2.2])]
            simp
        rw [hrest] at hQ
        generalize acc v0 s j = A at *
        simp only [intW_lss, intW_geq, intW_gtr, intW_eql]
        refine tail_ok _ _ _ _ _ _ _ (fun h => ?_) (fun h => ?_)
        · simp only [Bool.or_eq_true, Bool.and_eq_true, decide_eq_true_eq, beq_iff_eq] at h
          rw [if_pos (by omega)] at hQ; exact hQ
        · rw [Bool.eq_false_iff] at h
          simp only [ne_eq, Bool.or_eq_true, Bool.and_eq_true, decide_eq_true_eq, beq_iff_eq] at h
          rw [if_neg (by omega)] at hQ; exact hQ
    · intro J hJ
      have cmp : ∀ k : Nat, decide ((bt s 0 : Int) ≥ (k : Int)) = decide (k ≤ bt s 0) := fun k => by simp
      have cml : ∀ k : Nat, decide ((bt s 0 : Int) < (k : Int)) = decide (bt s 0 < k) := fun k => by simp
      have e194 := cmp 194
      have e224 := cmp 224
      have e240 := cmp 240
      have l224 := cml 224
      have l240 := cml 240
      have l245 := cml 245
      simp only [Int.cast_ofNat_Int] at e194 e224 e240 l224 l240 l245
      rw [e194]
      by_cases c1 : 194 ≤ bt s 0
      · by_cases c2 : bt s 0 < 224
        · simp only [c1, c2, l224, go_sem, decide_true, if_true]
          refine hJ _ _ ⟨rfl, 2, bt s 0 - 192, ?_, by omega⟩
          rw [i64w (by omega) (by omega)]; congr 3; omega
        · by_cases c3 : bt s 0 < 240
          · simp only [c1, c2, c3, l224, e224, l240, show 224 ≤ bt s 0 by omega, go_sem, decide_true, decide_false, if_true]
            refine hJ _ _ ⟨rfl, 3, bt s 0 - 224, ?_, by omega⟩
            rw [i64w (by omega) (by omega)]; congr 3; omega
          · by_cases c4 : bt s 0 < 245
            · simp only [c1, c2, c3, c4, l224, e224, l240, e240, l245, show 224 ≤ bt s 0 by omega, show 240 ≤ bt s 0 by omega, go_sem, decide_true, decide_false, if_true]
              refine hJ _ _ ⟨rfl, 4, bt s 0 - 240, ?_, by omega⟩
              rw [i64w (by omega) (by omega)]; congr 3; omega
            · simp only [c1, c2, c3, c4, l224, e224, l240, e240, l245, show 224 ≤ bt s 0 by omega, show 240 ≤ bt s 0 by omega, go_sem, decide_true, decide_false, if_true]
              rw [hrk, rkN_lead (by omega)] at hQ; exact hQ
      · simp only [c1, e224, e240, show ¬ 224 ≤ bt s 0 by omega, show ¬ 240 ≤ bt s 0 by omega, go_sem, decide_true, decide_false, if_true, Bool.false_eq_true, if_false]
        rw [hrk, rkN_lead (by omega)] at hQ; exact hQ
end Go.Ab.Vl
