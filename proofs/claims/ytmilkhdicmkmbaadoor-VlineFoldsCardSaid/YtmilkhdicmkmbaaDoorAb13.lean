/- Equality of values; the tables of a region. By an AI agent. -/
import Derived.Test.YtmilkhdicmkmbaaDoorAb12
set_option linter.unusedVariables false
set_option linter.unusedSimpArgs false
namespace Go.Ab
open Go Go.RowKit

theorem plainEq_eq {v u : Value} (h : plainEq v u = true) : v = u := by
  unfold plainEq at h
  split at h <;> first | rfl | (cases h; done) | skip
  · simp at h; rw [h]
  · simp at h; rw [h.1, h.2]
  · rename_i a b
    simp only [decide_eq_true_eq] at h
    have : a.data = b.data := Array.ext' h
    cases a; cases b; simp at this; rw [this]

theorem capEq_eq {a b : Cap} (h : capEq a b = true) : a = b := by
  unfold capEq at h
  split at h <;> first | (cases h; done) | skip
  · rw [beq_t h]
  · rw [beq_t h]
theorem fnEq_eq {a b : Fn} (h : fnEq a b = true) : a = b := by
  unfold fnEq at h
  split at h <;> first | (cases h; done) | skip
  rw [beq_t h]

mutual
theorem avEq_eq : ∀ (x y : AV), avEq x y = true → x = y
  | .top, y, h => by cases y <;> simp [avEq] at h; rfl
  | .atl k, y, h => by
    cases y <;> simp only [avEq] at h <;> first | (cases h; done) | skip
    rw [beq_t h]
  | .sc v, y, h => by
    cases y <;> simp only [avEq] at h <;> first | (cases h; done) | skip
    rw [plainEq_eq h]
  | .ptr b o, y, h => by
    cases y <;> simp only [avEq, Bool.and_eq_true] at h <;> first | (cases h; done) | skip
    rw [beq_t h.1, beq_t h.2]
  | .slc b o l k, y, h => by
    cases y <;> simp only [avEq, Bool.and_eq_true] at h <;> first | (cases h; done) | skip
    rw [beq_t h.1.1.1, beq_t h.1.1.2, beq_t h.1.2, capEq_eq h.2]
  | .emp b, y, h => by
    cases y <;> simp only [avEq] at h <;> first | (cases h; done) | skip
    rw [beq_t h]
  | .map b, y, h => by
    cases y <;> simp only [avEq] at h <;> first | (cases h; done) | skip
    rw [beq_t h]
  | .fn f xs ys, y, h => by
    cases y <;> simp only [avEq, Bool.and_eq_true] at h <;> first | (cases h; done) | skip
    rw [fnEq_eq h.1.1, avsEq_eq _ _ h.1.2, avsEq_eq _ _ h.2]
  | .ifc t v, y, h => by
    cases y <;> simp only [avEq, Bool.and_eq_true] at h <;> first | (cases h; done) | skip
    rw [beq_t h.1, avEq_eq _ _ h.2]
  | .agg xs, y, h => by
    cases y <;> simp only [avEq] at h <;> first | (cases h; done) | skip
    rw [avsEq_eq _ _ h]
  | .tup xs, y, h => by
    cases y <;> simp only [avEq] at h <;> first | (cases h; done) | skip
    rw [avsEq_eq _ _ h]
theorem avsEq_eq : ∀ (xs ys : List AV), avsEq xs ys = true → xs = ys
  | [], ys, h => by cases ys <;> simp [avsEq] at h; rfl
  | x :: xs, ys, h => by
    cases ys with
    | nil => simp [avsEq] at h
    | cons y ys =>
      simp only [avsEq, Bool.and_eq_true] at h
      rw [avEq_eq _ _ h.1, avsEq_eq _ _ h.2]
end

theorem optEq_eq {x y : Option AV} (h : optEq x y = true) : x = y := by
  unfold optEq at h
  split at h <;> first | rfl | (cases h; done) | skip
  rw [avEq_eq _ _ h]

theorem treeEq_eq : ∀ (x y : Tree AV), treeEq x y = true → x = y
  | .leaf, y, h => by cases y <;> simp [treeEq] at h; rfl
  | .node l v r, y, h => by
    cases y with
    | leaf => simp [treeEq] at h
    | node l' v' r' =>
      simp only [treeEq, Bool.and_eq_true] at h
      rw [optEq_eq h.1.1, treeEq_eq _ _ h.1.2, treeEq_eq _ _ h.2]

theorem blkEq_eq {x y : Blk} (h : blkEq x y = true) : x = y := by
  unfold blkEq at h
  split at h <;> first | (cases h; done) | skip
  · simp only [Bool.and_eq_true, beq_iff_eq] at h
    rw [beq_t h.1.1.1.1.1, treeEq_eq _ _ h.1.1.1.1.2, avsEq_eq _ _ h.1.1.1.2, h.1.1.2, beq_t h.1.2, beq_t h.2]
  · rw [beq_t h]

/-! ### what stands ahead -/
theorem maskOf_bit {acc : List Nat} {j : Nat} : ∀ (es : List Edge), Nat.testBit (maskOf acc es) j = true → ∃ e ∈ es, Region.binds .any e = true ∧ (j = e.on ∨ ∃ m, acc[e.on]? = some m ∧ Nat.testBit m j = true)
  | [], h => by simp [maskOf] at h
  | e :: es, h => by
    simp only [maskOf] at h
    split at h
    · rename_i hb
      rw [Nat.testBit_or, Nat.testBit_or, Bool.or_eq_true, Bool.or_eq_true] at h
      rcases h with (h | h) | h
      · rw [Nat.testBit_two_pow] at h
        have h := of_decide_eq_true h
        exact ⟨e, .head _, hb, .inl h.symm⟩
      · rw [nth_getElem] at h
        cases hm : acc[e.on]? with
        | none => simp [hm] at h
        | some m => exact ⟨e, .head _, hb, .inr ⟨m, hm, by simpa [hm] using h⟩⟩
      · obtain ⟨e', h1, h2⟩ := maskOf_bit es h
        exact ⟨e', .tail _ h1, h2⟩
    · obtain ⟨e', h1, h2⟩ := maskOf_bit es h
      exact ⟨e', .tail _ h1, h2⟩

theorem masksGo_spec : ∀ (L : List Oper) (acc : List Nat), (∀ i, i < acc.length → (masksGo L acc)[i]? = acc[i]?) ∧
    ∀ j o, L[j]? = some o → ∃ pre, pre.length = acc.length + j ∧ (∀ i, i < acc.length + j → pre[i]? = (masksGo L acc)[i]?) ∧ (masksGo L acc)[acc.length + j]? = some (maskOf pre o.after.toList)
  | [], acc => ⟨fun _ _ => rfl, fun j o h => by simp at h⟩
  | x :: L, acc => by
    obtain ⟨h1, h2⟩ := masksGo_spec L (acc ++ [maskOf acc x.after.toList])
    simp only [masksGo]
    have hpre : ∀ i, i < acc.length → (masksGo L (acc ++ [maskOf acc x.after.toList]))[i]? = acc[i]? := fun i hi => by
      rw [h1 i (by simp; omega), List.getElem?_append_left hi]
    refine ⟨hpre, fun j o hj => ?_⟩
    cases j with
    | zero =>
      simp at hj; subst hj
      refine ⟨acc, rfl, fun i hi => (hpre i hi).symm, ?_⟩
      rw [Nat.add_zero, h1 acc.length (by simp)]
      simp
    | succ j =>
      obtain ⟨pre, a, b, c⟩ := h2 j o (by simpa using hj)
      simp only [List.length_append, List.length_singleton] at a b c
      exact ⟨pre, by omega, fun i hi => b i (by omega), by rw [show acc.length + (j + 1) = acc.length + 1 + j by omega]; exact c⟩

section
variable {L : List Oper} {S : Nat → Prop}

/-- A set of operations that holds with each those that it waits for. -/
def Closed (L : List Oper) (S : Nat → Prop) : Prop := ∀ i o, L[i]? = some o → S i → ∀ e ∈ o.after.toList, Region.binds .any e = true → S e.on

theorem mask_closed (hS : Closed L S) : ∀ (i : Nat) (m : Nat), (masksGo L [])[i]? = some m → (∀ o, L[i]? = some o → ∀ e ∈ o.after.toList, Region.binds .any e = true → S e.on) → i < L.length → ∀ j, Nat.testBit m j = true → S j := by
  intro i
  induction i using Nat.strongRecOn with
  | _ i ih =>
    intro m hm hd hi j hj
    obtain ⟨pre, h1, h2, h3⟩ := (masksGo_spec L []).2 i L[i] (by simp [hi])
    simp only [List.length_nil, Nat.zero_add] at h1 h2 h3
    rw [hm] at h3
    cases h3
    obtain ⟨e, he, hb, hj⟩ := maskOf_bit _ hj
    have hon := hd L[i] (by simp [hi]) e he hb
    rcases hj with rfl | ⟨m', hm', hj⟩
    · exact hon
    · have hlt : e.on < i := by
        rcases Nat.lt_or_ge e.on pre.length with h | h
        · omega
        · rw [List.getElem?_eq_none h] at hm'; cases hm'
      rw [h2 e.on hlt] at hm'
      exact ih e.on hlt m' hm' (fun o ho e' he' hb' => hS e.on o ho hon e' he' hb') (by omega) j hj
end

theorem rowsGo_spec {P : Program} {es : List Nat} : ∀ (os : List Oper) (ms : List Nat) (i0 j : Nat) (r : Row), (rowsGo P es os ms i0)[j]? = some r →
    ∃ o m, os[j]? = some o ∧ ms[j]? = some m ∧ r = { i := i0 + j, o, m, lev := levGo m es 0 0, kd := kindOf P o }
  | [], _, _, _, _, h => by simp [rowsGo] at h
  | _ :: _, [], _, _, _, h => by simp [rowsGo] at h
  | o :: os, m :: ms, i0, 0, r, h => by
    simp only [rowsGo, List.getElem?_cons_zero, Option.some.injEq] at h
    exact ⟨o, m, rfl, rfl, by rw [← h]; rfl⟩
  | o :: os, m :: ms, i0, j + 1, r, h => by
    simp only [rowsGo, List.getElem?_cons_succ] at h
    obtain ⟨o', m', a, b, c⟩ := rowsGo_spec os ms (i0 + 1) j r h
    exact ⟨o', m', by simpa using a, by simpa using b, by rw [c]; congr 1; omega⟩

theorem rowsGo_get {P : Program} {es : List Nat} : ∀ (os : List Oper) (ms : List Nat) (i0 j : Nat) (o : Oper) (m : Nat), os[j]? = some o → ms[j]? = some m →
    (rowsGo P es os ms i0)[j]? = some { i := i0 + j, o, m, lev := levGo m es 0 0, kd := kindOf P o }
  | [], _, _, _, _, _, h, _ => by simp at h
  | _ :: _, [], _, _, _, _, _, h => by simp at h
  | o :: os, m :: ms, i0, 0, o', m', h, h' => by
    simp at h h'; subst h; subst h'; rfl
  | o :: os, m :: ms, i0, j + 1, o', m', h, h' => by
    simp only [rowsGo, List.getElem?_cons_succ]
    rw [rowsGo_get os ms (i0 + 1) j o' m' (by simpa using h) (by simpa using h')]
    congr 2; omega

theorem masksGo_length : ∀ (L : List Oper) (acc : List Nat), (masksGo L acc).length = acc.length + L.length
  | [], acc => by simp [masksGo]
  | x :: L, acc => by simp only [masksGo, masksGo_length L, List.length_append, List.length_cons, List.length_nil]; omega

theorem effsGo_mem {P : Program} : ∀ (L : List Oper) (i0 x : Nat), x ∈ effsGo P L i0 ↔ ∃ j o, L[j]? = some o ∧ x = i0 + j ∧ isEff (kindOf P o) = true
  | [], i0, x => by simp [effsGo]
  | o :: L, i0, x => by
    have ih := effsGo_mem (P := P) L (i0 + 1) x
    simp only [effsGo]
    split
    · rename_i hk
      rw [List.mem_cons, ih]
      constructor
      · rintro (rfl | ⟨j, o', a, b, c⟩)
        · exact ⟨0, o, rfl, rfl, hk⟩
        · exact ⟨j + 1, o', by simpa using a, by omega, c⟩
      · rintro ⟨j, o', a, b, c⟩
        cases j with
        | zero => exact .inl (by omega)
        | succ j => exact .inr ⟨j, o', by simpa using a, by omega, c⟩
    · rename_i hk
      rw [ih]
      constructor
      · rintro ⟨j, o', a, b, c⟩
        exact ⟨j + 1, o', by simpa using a, by omega, c⟩
      · rintro ⟨j, o', a, b, c⟩
        cases j with
        | zero => simp at a; subst a; rw [hk] at c; cases c
        | succ j => exact ⟨j, o', by simpa using a, by omega, c⟩

theorem wrGo_spec : ∀ (L : List Oper) (i0 : Nat) (t0 : Tree Nat) (t j : Nat), (wrGo L i0 t0).get t = some j → (∃ q o, L[q]? = some o ∧ j = i0 + q ∧ o.dst = some t) ∨ t0.get t = some j
  | [], _, _, _, _, h => .inr h
  | o :: L, i0, t0, t, j, h => by
    simp only [wrGo] at h
    rcases wrGo_spec L (i0 + 1) _ t j h with ⟨q, o', a, b, c⟩ | h
    · exact .inl ⟨q + 1, o', by simpa using a, by omega, c⟩
    · cases hd : o.dst with
      | none => rw [hd] at h; exact .inr h
      | some d =>
        rw [hd] at h
        simp only [Tree.get_set] at h
        split at h
        · rename_i e
          cases h
          exact .inl ⟨0, o, rfl, rfl, by rw [hd, e]⟩
        · exact .inr h

theorem edgesOk_spec : ∀ (L : List Oper) (i0 : Nat), edgesOk L i0 = true → ∀ j o, L[j]? = some o → ∀ e ∈ o.after.toList, Region.binds .any e = true → e.on < i0 + j
  | [], _, _, _, _, h => by simp at h
  | x :: L, i0, h, j, o, ho => by
    simp only [edgesOk, Bool.and_eq_true, List.all_eq_true] at h
    cases j with
    | zero =>
      simp at ho; subst ho
      intro e he hb
      have := h.1 e he
      rw [hb] at this
      simp only [Bool.not_true, Bool.false_or] at this
      have := ble_t this
      omega
    | succ j =>
      intro e he hb
      have := edgesOk_spec L (i0 + 1) h.2 j o (by simpa using ho) e he hb
      omega

theorem chainOk_spec {ms : List Nat} : ∀ (es done : List Nat), chainOk ms done es = true → ∀ l1 x l2, es = l1 ++ x :: l2 → ∀ y, y ∈ done ∨ y ∈ l1 → Nat.testBit ((ms[x]?).getD 0) y = true
  | [], _, _, l1, x, l2, h => by simp at h
  | z :: es, done, hc, l1, x, l2, he => by
    simp only [chainOk, Bool.and_eq_true, List.all_eq_true] at hc
    intro y hy
    cases l1 with
    | nil =>
      simp at he
      obtain ⟨rfl, _⟩ := he
      rcases hy with hy | hy
      · have := hc.1 y hy; rwa [nth_getElem] at this
      · simp at hy
    | cons z' l1 =>
      simp at he
      obtain ⟨rfl, he⟩ := he
      refine chainOk_spec es (z :: done) hc.2 l1 x l2 he y ?_
      rcases hy with hy | hy
      · exact .inl (.tail _ hy)
      · rcases List.mem_cons.1 hy with e | hy
        · exact .inl (by rw [e]; exact .head _)
        · exact .inr hy

theorem levGo_spec {m : Nat} : ∀ (es : List Nat) (r best : Nat), levGo m es r best = best ∨ ∃ q x, es[q]? = some x ∧ Nat.testBit m x = true ∧ levGo m es r best = r + q + 1
  | [], _, _ => .inl rfl
  | x :: es, r, best => by
    simp only [levGo]
    split
    · rename_i hb
      rcases levGo_spec (m := m) es (r + 1) (r + 1) with h | ⟨q, y, a, b, c⟩
      · exact .inr ⟨0, x, rfl, hb, h⟩
      · exact .inr ⟨q + 1, y, by simpa using a, b, by rw [c]; omega⟩
    · rcases levGo_spec (m := m) es (r + 1) best with h | ⟨q, y, a, b, c⟩
      · exact .inl h
      · exact .inr ⟨q + 1, y, by simpa using a, b, by rw [c]; omega⟩

theorem bidsOk_spec {s : RS} : ∀ (rows : List Row) (seen : List Nat), bidsOk s rows seen = true →
    (∀ (j : Nat) (r : Row) (b : Nat), rows[j]? = some r → s.bids.get r.i = some b → b ∉ seen) ∧
    ∀ (j1 j2 : Nat) (r1 r2 : Row) (b : Nat), rows[j1]? = some r1 → rows[j2]? = some r2 → s.bids.get r1.i = some b → s.bids.get r2.i = some b → j1 = j2
  | [], _, _ => ⟨fun j r b h => by simp at h, fun j1 j2 r1 r2 b h => by simp at h⟩
  | r :: rows, seen, h => by
    simp only [bidsOk] at h
    split at h
    · rename_i hn
      obtain ⟨h1, h2⟩ := bidsOk_spec rows seen h
      refine ⟨fun j r' b hj hb => ?_, fun j1 j2 r1 r2 b a1 a2 b1 b2 => ?_⟩
      · cases j with
        | zero => simp at hj; subst hj; rw [hn] at hb; cases hb
        | succ j => exact h1 j r' b (by simpa using hj) hb
      · cases j1 with
        | zero => simp at a1; subst a1; rw [hn] at b1; cases b1
        | succ j1 => cases j2 with
          | zero => simp at a2; subst a2; rw [hn] at b2; cases b2
          | succ j2 => rw [h2 j1 j2 r1 r2 b (by simpa using a1) (by simpa using a2) b1 b2]
    · rename_i b0 hb0
      simp only [Bool.and_eq_true, Bool.not_eq_true', List.any_eq_false] at h
      obtain ⟨h1, h2⟩ := bidsOk_spec rows (b0 :: seen) h.2
      have hns : b0 ∉ seen := fun hm => by
        have := h.1 b0 hm
        rw [show Nat.beq b0 b0 = true from by simp] at this
        exact this rfl
      refine ⟨fun j r' b hj hb => ?_, fun j1 j2 r1 r2 b a1 a2 b1 b2 => ?_⟩
      · cases j with
        | zero => simp at hj; subst hj; rw [hb0] at hb; cases hb; exact hns
        | succ j => exact fun hm => h1 j r' b (by simpa using hj) hb (.tail _ hm)
      · cases j1 with
        | zero =>
          simp at a1; subst a1
          rw [hb0] at b1; cases b1
          cases j2 with
          | zero => rfl
          | succ j2 => exact absurd (.head _) (h1 j2 r2 b0 (by simpa using a2) b2)
        | succ j1 => cases j2 with
          | zero =>
            simp at a2; subst a2
            rw [hb0] at b2; cases b2
            exact absurd (.head _) (h1 j1 r1 b0 (by simpa using a1) b1)
          | succ j2 => rw [h2 j1 j2 r1 r2 b (by simpa using a1) (by simpa using a2) b1 b2]
end Go.Ab
