/- Capacities that are opened; calls that make nothing that is kept; from a world on. By an AI agent. -/
import Derived.Test.YtmilkhdicmkmbaaDoorA1
set_option linter.unusedVariables false
set_option linter.unusedSimpArgs false
namespace Go.Ab
open Go Go.RowKit

section
variable {P : Program}

/-- An open row, with its capacity. -/
theorem MRel.opened {ρ : Ren} {M : RM} {w : World} {b n : Nat} {l : List AV} {el : Nat} {u : Value} (hw : MRel P ρ M w) (hh : M.heap b = some (.row l true el 0)) (hl : l.length = n) (hv : VRel ρ (.slc b 0 n (.op 1)) u) :
    ∃ c, n ≤ c ∧ VRel ρ (.slc b 0 n (.ex c)) u ∧ MRel P ρ (M.put b (.row (l ++ List.replicate (c - n) .top) true el 0)) w := by
  obtain ⟨A, hA⟩ := hw
  obtain ⟨k, i, hb, hp, he, hk, rfl⟩ := slcO_inv hv
  rcases hA.blk b _ hh with ⟨y, hy, hle⟩ | ⟨_, e0, _⟩
  · cases y <;> first | exact hle.elim | skip
    rename_i nn tree zs opn elem fz
    obtain ⟨r1, rfl, rfl, rfl, r5⟩ := hle
    obtain ⟨ob, hob, cs, fr, rfl, hrow⟩ := hA.rel.blk b i _ hb hy
    obtain ⟨h0, hcs, hels⟩ := hrow.opn rfl
    have hk0 : k = 0 := by
      rcases Nat.eq_zero_or_pos k with e | e
      · exact e
      · have : 0 < k * i.esz := Nat.mul_pos e h0
        omega
    subst hk0
    have hsh := hrow.sh0
    rw [← he, Nat.mul_one, hsh, Nat.zero_add] at hcs
    refine ⟨i.capN, by omega, ?_, ⟨{ A with heap := A.heap.set b (.row i.capN (Tree.ofList (l ++ List.replicate (i.capN - n) .top) 0 .leaf) [] true elem 0) }, hA.next, ⟨hA.rel.dom, fun b' i' x hb' hx => ?_, fun b1 b2 i1 i2 x1 x2 p1 p2 g1 g2 e => ?_, fun b' x hx => ?_, fun b' i' x hb' hx => ?_, hA.rel.inv⟩, hA.size, fun c x hx => ?_, hA.old⟩⟩
    · have := VRel.slcS (ρ := ρ) b 0 n i.capN i hb
      rw [Nat.zero_mul] at *
      simpa using this
    · simp only [Tree.get_set] at hx
      by_cases e : b' = b
      · subst e
        rw [if_pos rfl] at hx
        cases hx
        rw [hb] at hb'; cases hb'
        refine ⟨_, hob, cs, fr, rfl, ⟨by rw [hsh]; omega, fun j x hj => ?_, fun j h1 h2 => hrow.free j h1 h2, hrow.mark, fun _ => ⟨h0, by rw [hsh, ← he]; omega, hels⟩, hsh⟩⟩
        obtain ⟨hjlt, hj2⟩ := cellAt_nozeros hj
        rw [Tree.get_ofList] at hj2
        split at hj2
        · rename_i hlt
          rw [Nat.sub_zero] at hj2
          by_cases hjl : j < l.length
          · rw [List.getElem?_append_left hjl] at hj2
            exact hrow.val j x (r5 j x hj2)
          · rw [List.getElem?_append_right (by omega), List.getElem?_replicate] at hj2
            split at hj2
            · cases hj2
              exact ⟨cs[j]'(by omega), by rw [hsh, Nat.zero_add]; simp, .top _⟩
            · cases hj2
        · simp [Tree.get] at hj2
      · rw [if_neg e] at hx
        exact hA.rel.blk b' i' x hb' hx
    · have q : ∀ {b1 x1}, (A.heap.set b (Blk.row i.capN (Tree.ofList (l ++ List.replicate (i.capN - n) .top) 0 .leaf) [] true elem 0)).get b1 = some x1 → ∃ y, A.heap.get b1 = some y := by
        intro b1 x1 h
        rw [Tree.get_set] at h
        by_cases e : b1 = b
        · subst e; exact ⟨_, hy⟩
        · rw [if_neg e] at h; exact ⟨_, h⟩
      obtain ⟨y1, e1⟩ := q g1
      obtain ⟨y2, e2⟩ := q g2
      exact hA.rel.sep _ _ _ _ _ _ p1 p2 e1 e2 e
    · simp only [Tree.get_set] at hx
      by_cases e : b' = b
      · subst e; exact hA.rel.top _ _ hy
      · rw [if_neg e] at hx; exact hA.rel.top _ _ hx
    · simp only [Tree.get_set] at hx
      by_cases e : b' = b
      · subst e; exact hA.rel.lo _ _ _ hb' hy
      · rw [if_neg e] at hx; exact hA.rel.lo _ _ _ hb' hx
    · simp only [RM.put] at hx
      simp only [Tree.get_set]
      by_cases e : c = b
      · subst e
        rw [if_pos rfl] at hx ⊢
        cases hx
        refine .inl ⟨_, rfl, by simp; omega, rfl, rfl, rfl, fun j v hj => ?_⟩
        have hjl := (List.getElem?_eq_some_iff.1 hj).1
        exact cellAt_tree (by simp at hjl; omega) (by rw [Tree.get_ofList, if_pos (by omega)]; simpa using hj)
      · rw [if_neg e] at hx ⊢
        exact hA.blk c x hx
  · cases e0

/-- A call on an open row, whatever its capacity. -/
theorem CallsR.open_cap {f : FuncId} {b n : Nat} {l : List AV} {el : Nat} {rest : List AV} {M : RM} {Q : PostV} (hP : HasBody P f) (hh : M.heap b = some (.row l true el 0)) (hl : l.length = n)
    (h : ∀ c, n ≤ c → CallsR P f (.slc b 0 n (.ex c) :: rest) (M.put b (.row (l ++ List.replicate (c - n) .top) true el 0)) Q) : CallsR P f (.slc b 0 n (.op 1) :: rest) M Q := by
  refine ⟨hP, fun ρ w us hargs hw => ?_⟩
  cases hargs with
  | cons _ u _ us hv hr =>
  obtain ⟨c, hc, hv', hw'⟩ := hw.opened hh hl hv
  refine ((h c hc).2 ρ w (u :: us) (.cons _ _ _ _ hv' hr) hw').mono fun e w' hR => ?_
  obtain ⟨v', v, M', ρ', rfl, k1, k2, k3⟩ := hR
  exact ⟨v', v, M', ρ', rfl, ⟨k1.step, k1.rel, k1.base, k1.next⟩, k2, k3⟩
end
end Go.Ab
