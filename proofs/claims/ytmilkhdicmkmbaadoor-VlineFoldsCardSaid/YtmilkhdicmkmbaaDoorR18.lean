/- Contracts of the kit's, at concrete worlds, as contracts over memory like M. By an AI agent. -/
import Derived.Test.YtmilkhdicmkmbaaDoorR17
set_option linter.unusedVariables false
set_option linter.unusedSimpArgs false
namespace Go.Ab
open Go Go.RowKit

section
variable {P : Program} {ρ : Ren} {M : RM} {w w' : World}

/-- New memory that nobody looks at. -/
theorem WRel.below {base : Base} {A : AW} (h : WRel P base ρ A w) (hb : Below w.heap.size w w') (hn : base.n ≤ w.heap.size) : WRel P base ρ A w' where
  dom b i hbi := ⟨(h.dom b i hbi).1, Nat.lt_of_lt_of_le (h.dom b i hbi).2 hb.size⟩
  blk b i x hbi hx := let ⟨o, ho, hr⟩ := h.blk b i x hbi hx; ⟨o, by rw [hb.block _ (h.dom b i hbi).2]; exact ho, hr⟩
  sep := h.sep
  top := h.top
  lo := h.lo
  inv := base.low w w' (fun c hc => hb.block c (Nat.lt_of_lt_of_le hc hn)) h.inv

theorem Step.of_below {base n : Nat} (hb : Below w.heap.size w w') (hn : base ≤ w.heap.size) : Step base n ρ w ρ w' where
  os := hb.os
  tape := hb.tape
  output := hb.output
  size := hb.size
  frame c hc _ := hb.block c hc
  ext _ _ := rfl
  fresh b i h := .inl ⟨b, i, h, rfl⟩
  low c hc := hb.block c (Nat.lt_of_lt_of_le hc hn)

theorem After.below (h : MRel P ρ M w) (hb : Below w.heap.size w w') : After P M ρ w M ρ w' := by
  obtain ⟨A, hA⟩ := h
  refine after_of hA (Step.of_below hb hA.size) (hA.rel.below hb hA.size) rfl hA.next (Nat.le_refl _) fun b x hx => ?_
  rcases hA.blk b x hx with h | ⟨c, rfl, _⟩
  · exact .inl h
  · exact .inr ⟨c, rfl, hx⟩

theorem MRel.inv (h : MRel P ρ M w) : M.base.inv w := by
  obtain ⟨A, hA⟩ := h
  exact hA.rel.inv

/-- A contract at concrete worlds that leaves memory as it was. -/
theorem CallsR.of_calls {f : FuncId} {args : List AV} {v : AV} {Q : PostV} (hP : HasBody P f)
    (h : ∀ (ρ : Ren) (w : World) (us : List Value), LRel ρ args us → MRel P ρ M w → Calls P f ⟨us⟩ w fun e w' => ∃ v', e = .returned v' ∧ Below w.heap.size w w' ∧ VRel ρ v v') (hQ : Q v M) : CallsR P f args M Q := by
  refine ⟨hP, fun ρ w us hargs hw => (h ρ w us hargs hw).mono fun e w' hR => ?_⟩
  obtain ⟨v', rfl, hb, hv⟩ := hR
  exact ⟨v', v, M, ρ, rfl, After.below hw hb, hv, hQ⟩
end
end Go.Ab
