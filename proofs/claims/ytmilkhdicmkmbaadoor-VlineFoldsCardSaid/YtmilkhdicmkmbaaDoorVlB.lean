/- Contracts: strings.Builder. By an AI agent. -/
import Derived.Test.YtmilkhdicmkmbaaDoorWVl
import Derived.Test.YtmilkhdicmkmbaaDoorR17
set_option linter.unusedVariables false
set_option linter.unusedSimpArgs false
namespace Go.Ab.Vl
open Go Go.Ab

/-- A builder that holds bytes. -/
structure Bld (TB T8 n0 : Nat) (M : RM) (b : Nat) (xs : List UInt8) : Prop where
  lt : b < n0
  hn : n0 ≤ M.next
  row : ∃ addr buf, M.heap b = some (.row [addr, buf] false TB 0) ∧ (addr = .sc (.pointer none) ∨ addr = .ptr b 0) ∧ Ow BY M n0 T8 buf xs ∧ (xs = [] → buf = nilS)

def NoEscC (x : CallT) : Prop := ∀ {v : AV} {M : RM} {Q : PostV}, Q v M → x [v] M Q
def CheckC (TB : Nat) (c : CallT) : Prop := ∀ {M : RM} {b : Nat} {addr buf : AV} {Q : PostV}, M.heap b = some (.row [addr, buf] false TB 0) → (addr = .sc (.pointer none) ∨ addr = .ptr b 0) → oneCell buf = true →
  (∀ M', M'.heap b = some (.row [.ptr b 0, buf] false TB 0) → M'.next = M.next → M'.base = M.base → (∀ c, c ≠ b → M'.heap c = M.heap c) → Q (.tup []) M') → c [.ptr b 0] M Q

theorem check_spec {TB : Nat} {x : CallT} (hx : NoEscC x) : CheckC TB fun args M Q => ∃ a0, args = [a0] ∧ W_strings_Builder_copyCheck x TB a0 M Q := by
  intro M b addr buf Q hh ha hb hQ
  refine ⟨_, rfl, ?_⟩
  unfold W_strings_Builder_copyCheck
  rcases ha with rfl | rfl
  · simp only [go_sem, RM.cell_of hh]
    refine ⟨_, 0, _, _, _, _, rfl, hh, by simp, hx ⟨_, _, _, _, rfl, hh, rfl, ?_⟩⟩
    simp only [go_sem, RM.stores_of hh]
    rw [storesL_some (by simp) (by simp) (by simp [oneCell])]
    simp only [go_sem]
    refine hQ _ (by simp [go_sem]) rfl rfl fun c hc => by simp [go_sem, hc]
  · simp only [go_sem, RM.cell_of hh]
    have : ∀ K : AV → Prop, refEqW true 1 (.ptr b 0) (.ptr b 0) K = K (Bo false) := fun K => (refEqW_some (r := true) rfl (by simp [refEq])).trans rfl
    rw [this]
    simp only [go_sem]
    exact hQ _ hh rfl rfl fun _ _ => rfl

def WriteByteC (TB T8 : Nat) (c : CallT) : Prop := ∀ {n0 : Nat} {M : RM} {b : Nat} {xs : List UInt8} {x : UInt8} {Q : PostV}, Bld TB T8 n0 M b xs → xs.length + 1 ≤ 140737488355328 →
  (∀ M', Bld TB T8 n0 M' b (xs ++ [x]) → KeepTo n0 [b] M M' → Q (.sc .nilIface) M') → c [.ptr b 0, By x] M Q

theorem writeByte_spec {TB T8 : Nat} {c : CallT} (hc : CheckC TB c) : WriteByteC TB T8 fun args M Q => ∃ a0 a1, args = [a0, a1] ∧ W_strings_Builder_WriteByte c T8 a0 a1 M Q := by
  intro n0 M b xs x Q hB hl hQ
  obtain ⟨addr, buf, hh, ha, ho, he⟩ := hB.row
  refine ⟨_, _, rfl, ?_⟩
  unfold W_strings_Builder_WriteByte
  refine hc hh ha ho.one fun M1 h1 hnx hbs hot => ?_
  have hlt := hB.lt
  have hn := hB.hn
  have ho1 : Ow BY M1 n0 T8 buf xs := Own.same ho hnx (fun c hc => hot c (by have := ho.blk c hc; omega)) hbs
  simp only [go_sem, RM.cell_of h1]
  rw [rows1 (x := By x) (size := 1) rfl rfl rfl]
  simp only [newW_eq]
  refine app_one (E := BY) (a := x) ho1 (by omega) (Nat.le_refl _) (by omega) hl fun v' M2 h2 k2 hnx2 hv => ?_
  have hb2 : b ∉ blkOf buf := fun hm => by have := ho.blk b hm; omega
  have hh2 := k2.heap_of h1 (by omega) hb2
  simp only [go_sem, RM.stores_of hh2]
  rw [Own.cells h2, storesL_some (by simp) (by simp) (by simp [Own.one h2])]
  simp only [go_sem]
  have hne : ∀ c ∈ blkOf v', c ≠ b := fun c hm => by have := h2.blk c hm; omega
  refine hQ _ ⟨hlt, by show n0 ≤ M2.next; omega, .ptr b 0, v', RM.put_same _ _, .inr rfl, Own.same h2 rfl (fun c hm => by simp [go_sem, hne c hm]) rfl, by simp⟩ ⟨?_, ?_, fun c h3 h4 => ?_⟩
  · exact k2.base.trans hbs
  · show M.next ≤ M2.next
    omega
  · have h4 : c ≠ b := by simpa using h4
    simp only [go_sem, if_neg h4]
    rw [k2.heap c (by omega) (fun hm => by have := ho.blk c hm; omega), hot c h4]

def WriteStringC (TB T8 : Nat) (c : CallT) : Prop := ∀ {n0 : Nat} {M : RM} {b : Nat} {xs s : List UInt8} {Q : PostV}, Bld TB T8 n0 M b xs → xs.length + s.length ≤ 140737488355328 →
  (∀ M', Bld TB T8 n0 M' b (xs ++ s) → KeepTo n0 [b] M M' → Q (.tup [N .i64 s.length, .sc .nilIface]) M') → c [.ptr b 0, St s] M Q

theorem writeString_spec {TB T8 : Nat} {c : CallT} (hc : CheckC TB c) : WriteStringC TB T8 fun args M Q => ∃ a0 a1, args = [a0, a1] ∧ W_strings_Builder_WriteString c T8 a0 a1 M Q := by
  intro n0 M b xs s Q hB hl hQ
  obtain ⟨addr, buf, hh, ha, ho, he⟩ := hB.row
  refine ⟨_, _, rfl, ?_⟩
  unfold W_strings_Builder_WriteString
  refine hc hh ha ho.one fun M1 h1 hnx hbs hot => ?_
  have hlt := hB.lt
  have hn := hB.hn
  have ho1 : Ow BY M1 n0 T8 buf xs := Own.same ho hnx (fun c hc => hot c (by have := ho.blk c hc; omega)) hbs
  simp only [go_sem, RM.cell_of h1]
  have hnew : newL M1 1 [N .u8 0] false (St s) = some (s.length, BY.row s) := by
    simp only [newL, BY_row, if_true]
  by_cases hne0 : xs ++ s = []
  · obtain ⟨rfl, rfl⟩ := List.append_eq_nil_iff.1 hne0
    have hb0 := he rfl
    subst hb0
    refine ⟨0, [], hnew, by omega, by omega, nilS, M1, by simp [appM], ?_⟩
    simp only [go_sem, RM.stores_of h1]
    rw [storesL_some (by simp) (by simp) (by simp [oneCell])]
    simp only [go_sem]
    refine hQ _ ⟨hlt, by show n0 ≤ M1.next; omega, .ptr b 0, nilS, by simp [go_sem], .inr rfl, .nil, fun _ => rfl⟩ ⟨hbs, by show M.next ≤ M1.next; omega, fun c h3 h4 => ?_⟩
    have h4 : c ≠ b := by simpa using h4
    simp only [go_sem, if_neg h4]
    exact hot c h4
  refine app_own ho1 (by omega) (Nat.le_refl _) hnew (by rw [BY.row_len]; rfl) (BY.row_all s) (by omega) (by omega) fun v' M2 h2 k2 hnx2 hv => ?_
  rw [← BY.row_append] at h2
  have h2 : Ow BY M2 n0 T8 v' (xs ++ s) := by
    show Own M2 n0 T8 1 v' (BY.row (xs ++ s)) (xs ++ s).length
    rw [List.length_append]; exact h2
  have hb2 : b ∉ blkOf buf := fun hm => by have := ho.blk b hm; omega
  have hh2 := k2.heap_of h1 (by omega) hb2
  simp only [go_sem, RM.stores_of hh2]
  rw [Own.cells h2, storesL_some (by simp) (by simp) (by simp [Own.one h2])]
  simp only [go_sem]
  have hne : ∀ c ∈ blkOf v', c ≠ b := fun c hm => by have := h2.blk c hm; omega
  refine hQ _ ⟨hlt, by show n0 ≤ M2.next; omega, .ptr b 0, v', RM.put_same _ _, .inr rfl, Own.same h2 rfl (fun c hm => by simp [go_sem, hne c hm]) rfl, fun e => absurd e hne0⟩ ⟨?_, ?_, fun c h3 h4 => ?_⟩
  · exact k2.base.trans hbs
  · show M.next ≤ M2.next
    omega
  · have h4 : c ≠ b := by simpa using h4
    simp only [go_sem, if_neg h4]
    rw [k2.heap c (by omega) (fun hm => by have := ho.blk c hm; omega), hot c h4]

def StringC (TB T8 : Nat) (c : CallT) : Prop := ∀ {n0 : Nat} {M : RM} {b : Nat} {xs : List UInt8} {Q : PostV}, Bld TB T8 n0 M b xs → xs.length ≤ 4611686018427387904 →
  (∀ M', KeepTo n0 [] M M' → Q (St xs) M') → c [.ptr b 0] M Q

theorem string_spec {TB T8 : Nat} : StringC TB T8 fun args M Q => ∃ a0, args = [a0] ∧ W_strings_Builder_String T8 a0 M Q := by
  intro n0 M b xs Q hB hl hQ
  obtain ⟨addr, buf, hh, ha, ho, he⟩ := hB.row
  refine ⟨_, rfl, ?_⟩
  unfold W_strings_Builder_String
  simp only [go_sem, RM.cell_of hh]
  by_cases hx : xs = []
  · subst hx
    have hb0 := he rfl
    subst hb0
    simp only [sdataW, go_sem]
    exact .inr ⟨rfl, rfl, hQ _ (KeepTo.refl _ _ _)⟩
  · obtain ⟨nn, hnn⟩ : ∃ nn, xs.length = nn + 1 := ⟨xs.length - 1, by have := List.length_pos_iff.2 hx; omega⟩
    have hcs : mapO byteOf (BY.row xs) = some xs := by rw [BY_row]; exact mapO_bytes xs
    have hl8 : (BY.row xs).length = nn + 1 := by rw [BY.row_len, hnn]; exact Nat.mul_one _
    have ho' : Own M n0 T8 1 buf (BY.row xs) (nn + 1) := by rw [← hnn]; exact ho
    generalize BY.row xs = cs at hcs hl8 ho'
    cases ho' with
    | op c n cs h1 h2 h3 h4 =>
      simp only [sdataW, go_sem]
      refine .inl ⟨c, nn, cs, true, 0, xs, rfl, rfl, by omega, h3, by omega, by rw [List.take_of_length_le (by omega)]; exact hcs, hQ _ ⟨rfl, Nat.le_refl _, fun d hd _ => ?_⟩⟩
      simp only [go_sem]
      rw [if_neg (by omega)]
/-- A new builder. -/
theorem Bld.new {TB T8 n0 b : Nat} {M : RM} (hh : M.heap b = some (.row [.sc (.pointer none), nilS] false TB 0)) (hb : b < n0) (hn : n0 ≤ M.next) : Bld TB T8 n0 M b [] :=
  ⟨hb, hn, _, _, hh, .inl rfl, .nil, fun _ => rfl⟩
end Go.Ab.Vl
