/- Blocks below a number; one's own slices behind stores elsewhere. By an AI agent. -/
import Derived.Test.YtmilkhdicmkmbaaDoorR16
set_option linter.unusedVariables false
set_option linter.unusedSimpArgs false
namespace Go.Ab
open Go Go.RowKit

/-- Blocks below n but some are as they were. -/
structure KeepTo (n : Nat) (bs : List Nat) (M M' : RM) : Prop where
  base : M'.base = M.base
  next : M.next ≤ M'.next
  heap : ∀ c, c < n → c ∉ bs → M'.heap c = M.heap c
theorem KeepTo.refl (n : Nat) (bs : List Nat) (M : RM) : KeepTo n bs M M := ⟨rfl, Nat.le_refl _, fun _ _ _ => rfl⟩
theorem KeepTo.trans {n : Nat} {bs : List Nat} {M M1 M2 : RM} (h : KeepTo n bs M M1) (k : KeepTo n bs M1 M2) : KeepTo n bs M M2 :=
  ⟨k.base.trans h.base, Nat.le_trans h.next k.next, fun c h1 h2 => (k.heap c h1 h2).trans (h.heap c h1 h2)⟩
theorem Keep.to {bs cs : List Nat} {n : Nat} {M M' : RM} (h : Keep bs M M') (hn : n ≤ M.next) (hb : ∀ b ∈ bs, n ≤ b ∨ b ∈ cs) : KeepTo n cs M M' :=
  ⟨h.base, h.next, fun c h1 h2 => h.heap c (Nat.lt_of_lt_of_le h1 hn) (fun hm => by rcases hb c hm with h3 | h3; omega; exact h2 h3)⟩
/-- What happened since to blocks made since. -/
theorem Keep.then_to {bs cs : List Nat} {n : Nat} {M0 M M' : RM} (h : Keep bs M0 M) (k : KeepTo n cs M M') (hn : M0.next ≤ n) (hc : ∀ c ∈ cs, M0.next ≤ c ∨ c ∈ bs) : Keep bs M0 M' :=
  ⟨k.base.trans h.base, Nat.le_trans h.next k.next, fun c h1 h2 => by
    rw [k.heap c (Nat.lt_of_lt_of_le h1 hn) (fun hm => by rcases hc c hm with h3 | h3; omega; exact h2 h3), h.heap c h1 h2]⟩
theorem KeepTo.heap_of {n : Nat} {bs : List Nat} {M M' : RM} (h : KeepTo n bs M M') {b : Nat} {x : RB} (hh : M.heap b = some x) (hlt : b < n) (hb : b ∉ bs) : M'.heap b = some x := by rw [h.heap b hlt hb, hh]

theorem Own.same {M M' : RM} {n el size n0 : Nat} {v : AV} {cs : List AV} (h : Own M n0 el size v cs n) (hn : M'.next = M.next) (hb : ∀ c ∈ blkOf v, M'.heap c = M.heap c) (hbase : M'.base = M.base) : Own M' n0 el size v cs n := by
  cases h with
  | nil => exact .nil
  | ex0 b o h1 h2 h3 => exact .ex0 b o h1 (by omega) (by simpa [RM.cells_eq, hb b (by simp [blkOf]), RM.lo, hbase] using h3)
  | op b n cs h1 h2 h3 h4 => exact .op b n cs h1 (by omega) (by rw [hb b (by simp [blkOf]), h3]) h4
theorem Own.one {M : RM} {n el size n0 : Nat} {v : AV} {cs : List AV} (h : Own M n0 el size v cs n) : oneCell v = true := by
  cases h <;> rfl

/-- 'awake' answers true, and leaves memory as it is. -/
def AwakeC (B : Base) (c : CallT) : Prop := ∀ {M : RM} {Q : PostV}, M.base = B → Q (Bo true) M → c [] M Q

theorem Own.cells {M : RM} {n el size n0 : Nat} {v : AV} {cs : List AV} (h : Own M n0 el size v cs n) : v.cells = [v] := by
  cases h <;> rfl
end Go.Ab
