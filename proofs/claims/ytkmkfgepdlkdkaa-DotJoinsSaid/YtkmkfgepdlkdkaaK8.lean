/- 'DotJoins' returns true for any three lists of dots, in whatever world it is called: joining sets is their union, in whatever order and however often, each part lies within it, the others stay. No condition. By an AI agent. By an AI agent. -/
import Derived.Test.YtkmkfgepdlkdkaaK7
import Derived.KernelRfl
import Derived.Test.YtkmkfgepdlkdkaaProg
import Derived.Test.YtkmkfgepdlkdkaaRows
import Derived.SizedLaws
import Derived.JoinedOf
import Derived.Carry
import Derived.WalkKit
import Derived.ProofKit
import Derived.OpenShut
/- Dot's program: the functions that are met otherwise than by their text. By an AI agent. -/
namespace Go.Proofs.Ytkmkfgepdlkdkaa
open Go Go.Ab Go.RowKit

def ext : Ext := { split := [50], overl := [57], noesc := [] }

theorem xok : XOk Try.prog ext where
  ng := names_of (by kernel_rfl)
  overl := by
    intro f hf
    have : f = 57 := by
      unfold ext at hf
      simp only [has] at hf
      split at hf
      · rename_i h; exact (Nat.eq_of_beq_eq_true h).symm
      · cases hf
    subst this
    exact ⟨Try.f57, 51, 30, 1, 4, by kernel_rfl, by kernel_rfl, by kernel_rfl, by kernel_rfl, by kernel_rfl, by kernel_rfl⟩
  noesc := fun f hf => by cases hf

theorem mixed : Try.prog.follows .mixedOrders = true := by kernel_rfl

end Go.Proofs.Ytkmkfgepdlkdkaa
/- 'awake' of chapter 13's statements answers true, in whatever world it is called. By an AI agent. -/
namespace Go.Proofs.Ytkmkfgepdlkdkaa
open Go Go.Ab Go.RowKit

/-- What the kernel's own reckoning says of 'awake'. -/
theorem awake_eval : isTrue (callA Try.prog ext 100000 200 10 [] { next := 0, heap := .leaf }) = true := by kernel_rfl
theorem awake_any (w : World) : Calls Try.prog 10 #[] w fun e w' => e = .returned (.bool true) ∧ Below w.heap.size w w' := calls_true xok mixed awake_eval w
end Go.Proofs.Ytkmkfgepdlkdkaa
/- The printed predicates are the program's. By an AI agent. -/
set_option maxRecDepth 100000
set_option linter.unusedVariables false
set_option linter.unusedSimpArgs false
namespace Go.Proofs.Ytkmkfgepdlkdkaa
open Go Go.Ab Go.Ab.Dot

theorem pok : POk Try.prog := ⟨names_of (by kernel_rfl), by kernel_rfl⟩

theorem r_gosem_cut_init : ∀  (M : RM) (Q : PostV), W_gosem_cut_init (extnW Try.prog 1)  M Q = wpBodyO Try.prog Try.f2 [] M Q := by
  intros; kernel_rfl
theorem r_gosem_cut_init_calls  {M : RM} {Q : PostV} (h : W_gosem_cut_init (extnW Try.prog 1)  M Q) : CallsR Try.prog 2 [] M Q := callsR_of pok (fn := Try.f2) (by kernel_rfl) (r_gosem_cut_init  M Q ▸ h)
theorem r_rolodex_rolodexlaw13_DotKnown : ∀  (M : RM) (Q : PostV), W_rolodex_rolodexlaw13_DotKnown (CallsR Try.prog 10) (CallsR Try.prog 11) 5 (CallsR Try.prog 12) (CallsR Try.prog 13) (CallsR Try.prog 14) (CallsR Try.prog 15)  M Q = wpBodyO Try.prog Try.f3 [] M Q := by
  intros; kernel_rfl
theorem r_rolodex_rolodexlaw13_DotKnown_calls  {M : RM} {Q : PostV} (h : W_rolodex_rolodexlaw13_DotKnown (CallsR Try.prog 10) (CallsR Try.prog 11) 5 (CallsR Try.prog 12) (CallsR Try.prog 13) (CallsR Try.prog 14) (CallsR Try.prog 15)  M Q) : CallsR Try.prog 3 [] M Q := callsR_of pok (fn := Try.f3) (by kernel_rfl) (r_rolodex_rolodexlaw13_DotKnown  M Q ▸ h)
theorem r_rolodex_rolodexlaw13_DotSets : ∀ (a0 a1 : AV) (M : RM) (Q : PostV), W_rolodex_rolodexlaw13_DotSets 32 (CallsR Try.prog 10) (CallsR Try.prog 11) (CallsR Try.prog 13) (CallsR Try.prog 16) (CallsR Try.prog 15) (CallsR Try.prog 17) (CallsR Try.prog 18) (CallsR Try.prog 19) (CallsR Try.prog 12) (CallsR Try.prog 20) (CallsR Try.prog 21) (CallsR Try.prog 22) a0 a1 M Q = wpBodyO Try.prog Try.f4 [a0, a1] M Q := by
  intros; kernel_rfl
theorem r_rolodex_rolodexlaw13_DotSets_calls {a0 a1 : AV} {M : RM} {Q : PostV} (h : W_rolodex_rolodexlaw13_DotSets 32 (CallsR Try.prog 10) (CallsR Try.prog 11) (CallsR Try.prog 13) (CallsR Try.prog 16) (CallsR Try.prog 15) (CallsR Try.prog 17) (CallsR Try.prog 18) (CallsR Try.prog 19) (CallsR Try.prog 12) (CallsR Try.prog 20) (CallsR Try.prog 21) (CallsR Try.prog 22) a0 a1 M Q) : CallsR Try.prog 4 [a0, a1] M Q := callsR_of pok (fn := Try.f4) (by kernel_rfl) (r_rolodex_rolodexlaw13_DotSets a0 a1 M Q ▸ h)
theorem r_rolodex_rolodexlaw13_DotJoins : ∀ (a0 a1 a2 : AV) (M : RM) (Q : PostV), W_rolodex_rolodexlaw13_DotJoins (CallsR Try.prog 10) (CallsR Try.prog 23) (CallsR Try.prog 17) (CallsR Try.prog 18) (CallsR Try.prog 24) (CallsR Try.prog 20) (CallsR Try.prog 25) a0 a1 a2 M Q = wpBodyO Try.prog Try.f5 [a0, a1, a2] M Q := by
  intros; kernel_rfl
theorem r_rolodex_rolodexlaw13_DotJoins_calls {a0 a1 a2 : AV} {M : RM} {Q : PostV} (h : W_rolodex_rolodexlaw13_DotJoins (CallsR Try.prog 10) (CallsR Try.prog 23) (CallsR Try.prog 17) (CallsR Try.prog 18) (CallsR Try.prog 24) (CallsR Try.prog 20) (CallsR Try.prog 25) a0 a1 a2 M Q) : CallsR Try.prog 5 [a0, a1, a2] M Q := callsR_of pok (fn := Try.f5) (by kernel_rfl) (r_rolodex_rolodexlaw13_DotJoins a0 a1 a2 M Q ▸ h)
theorem r_rolodex_rolodexlaw13_DotBytes : ∀ (a0 a1 a2 a3 : AV) (M : RM) (Q : PostV), W_rolodex_rolodexlaw13_DotBytes (CallsR Try.prog 10) (CallsR Try.prog 26) (CallsR Try.prog 23) (CallsR Try.prog 19) a0 a1 a2 a3 M Q = wpBodyO Try.prog Try.f6 [a0, a1, a2, a3] M Q := by
  intros; kernel_rfl
theorem r_rolodex_rolodexlaw13_DotBytes_calls {a0 a1 a2 a3 : AV} {M : RM} {Q : PostV} (h : W_rolodex_rolodexlaw13_DotBytes (CallsR Try.prog 10) (CallsR Try.prog 26) (CallsR Try.prog 23) (CallsR Try.prog 19) a0 a1 a2 a3 M Q) : CallsR Try.prog 6 [a0, a1, a2, a3] M Q := callsR_of pok (fn := Try.f6) (by kernel_rfl) (r_rolodex_rolodexlaw13_DotBytes a0 a1 a2 a3 M Q ▸ h)
theorem r_rolodex_rolodexlaw13_DotOrder : ∀ (a0 a1 a2 : AV) (M : RM) (Q : PostV), W_rolodex_rolodexlaw13_DotOrder 32 (CallsR Try.prog 10) (CallsR Try.prog 27) (CallsR Try.prog 28) a0 a1 a2 M Q = wpBodyO Try.prog Try.f7 [a0, a1, a2] M Q := by
  intros; kernel_rfl
theorem r_rolodex_rolodexlaw13_DotOrder_calls {a0 a1 a2 : AV} {M : RM} {Q : PostV} (h : W_rolodex_rolodexlaw13_DotOrder 32 (CallsR Try.prog 10) (CallsR Try.prog 27) (CallsR Try.prog 28) a0 a1 a2 M Q) : CallsR Try.prog 7 [a0, a1, a2] M Q := callsR_of pok (fn := Try.f7) (by kernel_rfl) (r_rolodex_rolodexlaw13_DotOrder a0 a1 a2 M Q ▸ h)
theorem r_rolodex_rolodexlaw13_DotGrows : ∀ (a0 : AV) (M : RM) (Q : PostV), W_rolodex_rolodexlaw13_DotGrows (CallsR Try.prog 10) (CallsR Try.prog 11) (CallsR Try.prog 18) (CallsR Try.prog 21) (CallsR Try.prog 13) (CallsR Try.prog 25) (CallsR Try.prog 15) a0 M Q = wpBodyO Try.prog Try.f8 [a0] M Q := by
  intros; kernel_rfl
theorem r_rolodex_rolodexlaw13_DotGrows_calls {a0 : AV} {M : RM} {Q : PostV} (h : W_rolodex_rolodexlaw13_DotGrows (CallsR Try.prog 10) (CallsR Try.prog 11) (CallsR Try.prog 18) (CallsR Try.prog 21) (CallsR Try.prog 13) (CallsR Try.prog 25) (CallsR Try.prog 15) a0 M Q) : CallsR Try.prog 8 [a0] M Q := callsR_of pok (fn := Try.f8) (by kernel_rfl) (r_rolodex_rolodexlaw13_DotGrows a0 M Q ▸ h)
theorem r_rolodex_rolodexlaw13_DotParts : ∀ (a0 a1 : AV) (M : RM) (Q : PostV), W_rolodex_rolodexlaw13_DotParts (CallsR Try.prog 10) (CallsR Try.prog 23) (CallsR Try.prog 14) (CallsR Try.prog 11) (CallsR Try.prog 13) (CallsR Try.prog 19) (CallsR Try.prog 25) a0 a1 M Q = wpBodyO Try.prog Try.f9 [a0, a1] M Q := by
  intros; kernel_rfl
theorem r_rolodex_rolodexlaw13_DotParts_calls {a0 a1 : AV} {M : RM} {Q : PostV} (h : W_rolodex_rolodexlaw13_DotParts (CallsR Try.prog 10) (CallsR Try.prog 23) (CallsR Try.prog 14) (CallsR Try.prog 11) (CallsR Try.prog 13) (CallsR Try.prog 19) (CallsR Try.prog 25) a0 a1 M Q) : CallsR Try.prog 9 [a0, a1] M Q := callsR_of pok (fn := Try.f9) (by kernel_rfl) (r_rolodex_rolodexlaw13_DotParts a0 a1 M Q ▸ h)
theorem r_rolodex_rolodexlaw13_awake : ∀  (M : RM) (Q : PostV), W_rolodex_rolodexlaw13_awake (CallsR Try.prog 11) (CallsR Try.prog 13) (CallsR Try.prog 14) (CallsR Try.prog 18) (CallsR Try.prog 19) (CallsR Try.prog 12) (CallsR Try.prog 24) (CallsR Try.prog 25) (CallsR Try.prog 21) (CallsR Try.prog 27) (CallsR Try.prog 15)  M Q = wpBodyO Try.prog Try.f10 [] M Q := by
  intros; kernel_rfl
theorem r_rolodex_rolodexlaw13_awake_calls  {M : RM} {Q : PostV} (h : W_rolodex_rolodexlaw13_awake (CallsR Try.prog 11) (CallsR Try.prog 13) (CallsR Try.prog 14) (CallsR Try.prog 18) (CallsR Try.prog 19) (CallsR Try.prog 12) (CallsR Try.prog 24) (CallsR Try.prog 25) (CallsR Try.prog 21) (CallsR Try.prog 27) (CallsR Try.prog 15)  M Q) : CallsR Try.prog 10 [] M Q := callsR_of pok (fn := Try.f10) (by kernel_rfl) (r_rolodex_rolodexlaw13_awake  M Q ▸ h)
theorem r_rolodex_dot_New : ∀  (M : RM) (Q : PostV), W_rolodex_dot_New 59  M Q = wpBodyO Try.prog Try.f11 [] M Q := by
  intros; kernel_rfl
theorem r_rolodex_dot_New_calls  {M : RM} {Q : PostV} (h : W_rolodex_dot_New 59  M Q) : CallsR Try.prog 11 [] M Q := callsR_of pok (fn := Try.f11) (by kernel_rfl) (r_rolodex_dot_New  M Q ▸ h)
theorem r_rolodex_dot_Decode : ∀ (a0 : AV) (M : RM) (Q : PostV), W_rolodex_dot_Decode (CallsR Try.prog 29) (CallsR Try.prog 11) (CallsR Try.prog 30) (CallsR Try.prog 31) (CallsR Try.prog 32) 30 (CallsR Try.prog 33) (CallsR Try.prog 34) (CallsR Try.prog 19) (CallsR Try.prog 35) a0 M Q = wpBodyO Try.prog Try.f12 [a0] M Q := by
  intros; kernel_rfl
theorem r_rolodex_dot_Decode_calls {a0 : AV} {M : RM} {Q : PostV} (h : W_rolodex_dot_Decode (CallsR Try.prog 29) (CallsR Try.prog 11) (CallsR Try.prog 30) (CallsR Try.prog 31) (CallsR Try.prog 32) 30 (CallsR Try.prog 33) (CallsR Try.prog 34) (CallsR Try.prog 19) (CallsR Try.prog 35) a0 M Q) : CallsR Try.prog 12 [a0] M Q := callsR_of pok (fn := Try.f12) (by kernel_rfl) (r_rolodex_dot_Decode a0 M Q ▸ h)
theorem r_rolodex_dot_Set_Add : ∀ (a0 a1 : AV) (M : RM) (Q : PostV), W_rolodex_dot_Set_Add 32 (CallsR Try.prog 15) (CallsR Try.prog 36) a0 a1 M Q = wpBodyO Try.prog Try.f13 [a0, a1] M Q := by
  intros; kernel_rfl
theorem r_rolodex_dot_Set_Add_calls {a0 a1 : AV} {M : RM} {Q : PostV} (h : W_rolodex_dot_Set_Add 32 (CallsR Try.prog 15) (CallsR Try.prog 36) a0 a1 M Q) : CallsR Try.prog 13 [a0, a1] M Q := callsR_of pok (fn := Try.f13) (by kernel_rfl) (r_rolodex_dot_Set_Add a0 a1 M Q ▸ h)
theorem r_rolodex_dot_Set_Parts : ∀ (a0 : AV) (M : RM) (Q : PostV), W_rolodex_dot_Set_Parts 56 (CallsR Try.prog 37) 53 a0 M Q = wpBodyO Try.prog Try.f14 [a0] M Q := by
  intros; kernel_rfl
theorem r_rolodex_dot_Set_Parts_calls {a0 : AV} {M : RM} {Q : PostV} (h : W_rolodex_dot_Set_Parts 56 (CallsR Try.prog 37) 53 a0 M Q) : CallsR Try.prog 14 [a0] M Q := callsR_of pok (fn := Try.f14) (by kernel_rfl) (r_rolodex_dot_Set_Parts a0 M Q ▸ h)
theorem r_rolodex_dot_Good : ∀ (a0 : AV) (M : RM) (Q : PostV), W_rolodex_dot_Good 32 a0 M Q = wpBodyO Try.prog Try.f15 [a0] M Q := by
  intros; kernel_rfl
theorem r_rolodex_dot_Good_calls {a0 : AV} {M : RM} {Q : PostV} (h : W_rolodex_dot_Good 32 a0 M Q) : CallsR Try.prog 15 [a0] M Q := callsR_of pok (fn := Try.f15) (by kernel_rfl) (r_rolodex_dot_Good a0 M Q ▸ h)
theorem r_rolodex_rolodexref13_Good : ∀ (a0 : AV) (M : RM) (Q : PostV), W_rolodex_rolodexref13_Good 32 a0 M Q = wpBodyO Try.prog Try.f16 [a0] M Q := by
  intros; kernel_rfl
theorem r_rolodex_rolodexref13_Good_calls {a0 : AV} {M : RM} {Q : PostV} (h : W_rolodex_rolodexref13_Good 32 a0 M Q) : CallsR Try.prog 16 [a0] M Q := callsR_of pok (fn := Try.f16) (by kernel_rfl) (r_rolodex_rolodexref13_Good a0 M Q ▸ h)
theorem r_rolodex_rolodexref13_Add : ∀ (a0 a1 : AV) (M : RM) (Q : PostV), W_rolodex_rolodexref13_Add 32 (CallsR Try.prog 22) (CallsR Try.prog 38) a0 a1 M Q = wpBodyO Try.prog Try.f17 [a0, a1] M Q := by
  intros; kernel_rfl
theorem r_rolodex_rolodexref13_Add_calls {a0 a1 : AV} {M : RM} {Q : PostV} (h : W_rolodex_rolodexref13_Add 32 (CallsR Try.prog 22) (CallsR Try.prog 38) a0 a1 M Q) : CallsR Try.prog 17 [a0, a1] M Q := callsR_of pok (fn := Try.f17) (by kernel_rfl) (r_rolodex_rolodexref13_Add a0 a1 M Q ▸ h)
theorem r_rolodex_dot_Set_Copy : ∀ (a0 : AV) (M : RM) (Q : PostV), W_rolodex_dot_Set_Copy (CallsR Try.prog 11) (CallsR Try.prog 24) a0 M Q = wpBodyO Try.prog Try.f18 [a0] M Q := by
  intros; kernel_rfl
theorem r_rolodex_dot_Set_Copy_calls {a0 : AV} {M : RM} {Q : PostV} (h : W_rolodex_dot_Set_Copy (CallsR Try.prog 11) (CallsR Try.prog 24) a0 M Q) : CallsR Try.prog 18 [a0] M Q := callsR_of pok (fn := Try.f18) (by kernel_rfl) (r_rolodex_dot_Set_Copy a0 M Q ▸ h)
theorem r_rolodex_dot_Set_Encode : ∀ (a0 : AV) (M : RM) (Q : PostV), W_rolodex_dot_Set_Encode (CallsR Try.prog 14) (CallsR Try.prog 39) 53 a0 M Q = wpBodyO Try.prog Try.f19 [a0] M Q := by
  intros; kernel_rfl
theorem r_rolodex_dot_Set_Encode_calls {a0 : AV} {M : RM} {Q : PostV} (h : W_rolodex_dot_Set_Encode (CallsR Try.prog 14) (CallsR Try.prog 39) 53 a0 M Q) : CallsR Try.prog 19 [a0] M Q := callsR_of pok (fn := Try.f19) (by kernel_rfl) (r_rolodex_dot_Set_Encode a0 M Q ▸ h)
theorem r_rolodex_rolodexlaw13_is : ∀ (a0 a1 : AV) (M : RM) (Q : PostV), W_rolodex_rolodexlaw13_is (CallsR Try.prog 14) (CallsR Try.prog 40) (CallsR Try.prog 19) (CallsR Try.prog 41) a0 a1 M Q = wpBodyO Try.prog Try.f20 [a0, a1] M Q := by
  intros; kernel_rfl
theorem r_rolodex_rolodexlaw13_is_calls {a0 a1 : AV} {M : RM} {Q : PostV} (h : W_rolodex_rolodexlaw13_is (CallsR Try.prog 14) (CallsR Try.prog 40) (CallsR Try.prog 19) (CallsR Try.prog 41) a0 a1 M Q) : CallsR Try.prog 20 [a0, a1] M Q := callsR_of pok (fn := Try.f20) (by kernel_rfl) (r_rolodex_rolodexlaw13_is a0 a1 M Q ▸ h)
theorem r_rolodex_dot_Set_Has : ∀ (a0 a1 : AV) (M : RM) (Q : PostV), W_rolodex_dot_Set_Has 32 (CallsR Try.prog 15) (CallsR Try.prog 42) a0 a1 M Q = wpBodyO Try.prog Try.f21 [a0, a1] M Q := by
  intros; kernel_rfl
theorem r_rolodex_dot_Set_Has_calls {a0 a1 : AV} {M : RM} {Q : PostV} (h : W_rolodex_dot_Set_Has 32 (CallsR Try.prog 15) (CallsR Try.prog 42) a0 a1 M Q) : CallsR Try.prog 21 [a0, a1] M Q := callsR_of pok (fn := Try.f21) (by kernel_rfl) (r_rolodex_dot_Set_Has a0 a1 M Q ▸ h)
theorem r_rolodex_rolodexref13_Has : ∀ (a0 a1 : AV) (M : RM) (Q : PostV), W_rolodex_rolodexref13_Has 32 a0 a1 M Q = wpBodyO Try.prog Try.f22 [a0, a1] M Q := by
  intros; kernel_rfl
theorem r_rolodex_rolodexref13_Has_calls {a0 a1 : AV} {M : RM} {Q : PostV} (h : W_rolodex_rolodexref13_Has 32 a0 a1 M Q) : CallsR Try.prog 22 [a0, a1] M Q := callsR_of pok (fn := Try.f22) (by kernel_rfl) (r_rolodex_rolodexref13_Has a0 a1 M Q ▸ h)
theorem r_rolodex_rolodexlaw13_of : ∀ (a0 : AV) (M : RM) (Q : PostV), W_rolodex_rolodexlaw13_of (CallsR Try.prog 11) (CallsR Try.prog 13) (CallsR Try.prog 17) a0 M Q = wpBodyO Try.prog Try.f23 [a0] M Q := by
  intros; kernel_rfl
theorem r_rolodex_rolodexlaw13_of_calls {a0 : AV} {M : RM} {Q : PostV} (h : W_rolodex_rolodexlaw13_of (CallsR Try.prog 11) (CallsR Try.prog 13) (CallsR Try.prog 17) a0 M Q) : CallsR Try.prog 23 [a0] M Q := callsR_of pok (fn := Try.f23) (by kernel_rfl) (r_rolodex_rolodexlaw13_of a0 M Q ▸ h)
theorem r_rolodex_dot_Set_Join : ∀ (a0 a1 : AV) (M : RM) (Q : PostV), W_rolodex_dot_Set_Join 56 51 (CallsR Try.prog 43) (CallsR Try.prog 44) (CallsR Try.prog 45) (CallsR Try.prog 46) a0 a1 M Q = wpBodyO Try.prog Try.f24 [a0, a1] M Q := by
  intros; kernel_rfl
theorem r_rolodex_dot_Set_Join_calls {a0 a1 : AV} {M : RM} {Q : PostV} (h : W_rolodex_dot_Set_Join 56 51 (CallsR Try.prog 43) (CallsR Try.prog 44) (CallsR Try.prog 45) (CallsR Try.prog 46) a0 a1 M Q) : CallsR Try.prog 24 [a0, a1] M Q := callsR_of pok (fn := Try.f24) (by kernel_rfl) (r_rolodex_dot_Set_Join a0 a1 M Q ▸ h)
theorem r_rolodex_dot_Set_Within : ∀ (a0 a1 : AV) (M : RM) (Q : PostV), W_rolodex_dot_Set_Within 56 (CallsR Try.prog 42) a0 a1 M Q = wpBodyO Try.prog Try.f25 [a0, a1] M Q := by
  intros; kernel_rfl
theorem r_rolodex_dot_Set_Within_calls {a0 a1 : AV} {M : RM} {Q : PostV} (h : W_rolodex_dot_Set_Within 56 (CallsR Try.prog 42) a0 a1 M Q) : CallsR Try.prog 25 [a0, a1] M Q := callsR_of pok (fn := Try.f25) (by kernel_rfl) (r_rolodex_dot_Set_Within a0 a1 M Q ▸ h)
theorem r_rolodex_rolodexlaw13_bytes : ∀ (a0 : AV) (M : RM) (Q : PostV), W_rolodex_rolodexlaw13_bytes (CallsR Try.prog 12) (CallsR Try.prog 19) a0 M Q = wpBodyO Try.prog Try.f26 [a0] M Q := by
  intros; kernel_rfl
theorem r_rolodex_rolodexlaw13_bytes_calls {a0 : AV} {M : RM} {Q : PostV} (h : W_rolodex_rolodexlaw13_bytes (CallsR Try.prog 12) (CallsR Try.prog 19) a0 M Q) : CallsR Try.prog 26 [a0] M Q := callsR_of pok (fn := Try.f26) (by kernel_rfl) (r_rolodex_rolodexlaw13_bytes a0 M Q ▸ h)
theorem r_rolodex_dot_Less : ∀ (a0 a1 : AV) (M : RM) (Q : PostV), W_rolodex_dot_Less 32 a0 a1 M Q = wpBodyO Try.prog Try.f27 [a0, a1] M Q := by
  intros; kernel_rfl
theorem r_rolodex_dot_Less_calls {a0 a1 : AV} {M : RM} {Q : PostV} (h : W_rolodex_dot_Less 32 a0 a1 M Q) : CallsR Try.prog 27 [a0, a1] M Q := callsR_of pok (fn := Try.f27) (by kernel_rfl) (r_rolodex_dot_Less a0 a1 M Q ▸ h)
theorem r_rolodex_rolodexref13_Less : ∀ (a0 a1 : AV) (M : RM) (Q : PostV), W_rolodex_rolodexref13_Less 32 a0 a1 M Q = wpBodyO Try.prog Try.f28 [a0, a1] M Q := by
  intros; kernel_rfl
theorem r_rolodex_rolodexref13_Less_calls {a0 a1 : AV} {M : RM} {Q : PostV} (h : W_rolodex_rolodexref13_Less 32 a0 a1 M Q) : CallsR Try.prog 28 [a0, a1] M Q := callsR_of pok (fn := Try.f28) (by kernel_rfl) (r_rolodex_rolodexref13_Less a0 a1 M Q ▸ h)
theorem r_rolodex_bin_Read : ∀ (a0 : AV) (M : RM) (Q : PostV), W_rolodex_bin_Read (CallsR Try.prog 47) 78 a0 M Q = wpBodyO Try.prog Try.f29 [a0] M Q := by
  intros; kernel_rfl
theorem r_rolodex_bin_Read_calls {a0 : AV} {M : RM} {Q : PostV} (h : W_rolodex_bin_Read (CallsR Try.prog 47) 78 a0 M Q) : CallsR Try.prog 29 [a0] M Q := callsR_of pok (fn := Try.f29) (by kernel_rfl) (r_rolodex_bin_Read a0 M Q ▸ h)
theorem r_rolodex_bin_Reader_Int : ∀ (a0 a1 : AV) (M : RM) (Q : PostV), W_rolodex_bin_Reader_Int (CallsR Try.prog 48) a0 a1 M Q = wpBodyO Try.prog Try.f30 [a0, a1] M Q := by
  intros; kernel_rfl
theorem r_rolodex_bin_Reader_Int_calls {a0 a1 : AV} {M : RM} {Q : PostV} (h : W_rolodex_bin_Reader_Int (CallsR Try.prog 48) a0 a1 M Q) : CallsR Try.prog 30 [a0, a1] M Q := callsR_of pok (fn := Try.f30) (by kernel_rfl) (r_rolodex_bin_Reader_Int a0 a1 M Q ▸ h)
theorem r_rolodex_bin_Reader_Uint : ∀ (a0 : AV) (M : RM) (Q : PostV), W_rolodex_bin_Reader_Uint (CallsR Try.prog 48) a0 M Q = wpBodyO Try.prog Try.f31 [a0] M Q := by
  intros; kernel_rfl
theorem r_rolodex_bin_Reader_Uint_calls {a0 : AV} {M : RM} {Q : PostV} (h : W_rolodex_bin_Reader_Uint (CallsR Try.prog 48) a0 M Q) : CallsR Try.prog 31 [a0] M Q := callsR_of pok (fn := Try.f31) (by kernel_rfl) (r_rolodex_bin_Reader_Uint a0 M Q ▸ h)
theorem r_rolodex_bin_Reader_Err : ∀ (a0 : AV) (M : RM) (Q : PostV), W_rolodex_bin_Reader_Err a0 M Q = wpBodyO Try.prog Try.f32 [a0] M Q := by
  intros; kernel_rfl
theorem r_rolodex_bin_Reader_Err_calls {a0 : AV} {M : RM} {Q : PostV} (h : W_rolodex_bin_Reader_Err a0 M Q) : CallsR Try.prog 32 [a0] M Q := callsR_of pok (fn := Try.f32) (by kernel_rfl) (r_rolodex_bin_Reader_Err a0 M Q ▸ h)
theorem r_rolodex_bin_Reader_End : ∀ (a0 : AV) (M : RM) (Q : PostV), W_rolodex_bin_Reader_End a0 M Q = wpBodyO Try.prog Try.f33 [a0] M Q := by
  intros; kernel_rfl
theorem r_rolodex_bin_Reader_End_calls {a0 : AV} {M : RM} {Q : PostV} (h : W_rolodex_bin_Reader_End a0 M Q) : CallsR Try.prog 33 [a0] M Q := callsR_of pok (fn := Try.f33) (by kernel_rfl) (r_rolodex_bin_Reader_End a0 M Q ▸ h)
theorem r_rolodex_dot_Set_formed : ∀ (a0 : AV) (M : RM) (Q : PostV), W_rolodex_dot_Set_formed 56 a0 M Q = wpBodyO Try.prog Try.f34 [a0] M Q := by
  intros; kernel_rfl
theorem r_rolodex_dot_Set_formed_calls {a0 : AV} {M : RM} {Q : PostV} (h : W_rolodex_dot_Set_formed 56 a0 M Q) : CallsR Try.prog 34 [a0] M Q := callsR_of pok (fn := Try.f34) (by kernel_rfl) (r_rolodex_dot_Set_formed a0 M Q ▸ h)
theorem r_bytes_Equal : ∀ (a0 a1 : AV) (M : RM) (Q : PostV), W_bytes_Equal a0 a1 M Q = wpBodyO Try.prog Try.f35 [a0, a1] M Q := by
  intros; kernel_rfl
theorem r_bytes_Equal_calls {a0 a1 : AV} {M : RM} {Q : PostV} (h : W_bytes_Equal a0 a1 M Q) : CallsR Try.prog 35 [a0, a1] M Q := callsR_of pok (fn := Try.f35) (by kernel_rfl) (r_bytes_Equal a0 a1 M Q ▸ h)
theorem r_rolodex_dot_part_add : ∀ (a0 a1 : AV) (M : RM) (Q : PostV), W_rolodex_dot_part_add (CallsR Try.prog 49) 30 56 (CallsR Try.prog 37) (CallsR Try.prog 50) (CallsR Try.prog 46) a0 a1 M Q = wpBodyO Try.prog Try.f36 [a0, a1] M Q := by
  intros; kernel_rfl
theorem r_rolodex_dot_part_add_calls {a0 a1 : AV} {M : RM} {Q : PostV} (h : W_rolodex_dot_part_add (CallsR Try.prog 49) 30 56 (CallsR Try.prog 37) (CallsR Try.prog 50) (CallsR Try.prog 46) a0 a1 M Q) : CallsR Try.prog 36 [a0, a1] M Q := callsR_of pok (fn := Try.f36) (by kernel_rfl) (r_rolodex_dot_part_add a0 a1 M Q ▸ h)
theorem r_slices_Clone_uint64_uint64 : ∀ (a0 : AV) (M : RM) (Q : PostV), W_slices_Clone_uint64_uint64 30 a0 M Q = wpBodyO Try.prog Try.f37 [a0] M Q := by
  intros; kernel_rfl
theorem r_slices_Clone_uint64_uint64_calls {a0 : AV} {M : RM} {Q : PostV} (h : W_slices_Clone_uint64_uint64 30 a0 M Q) : CallsR Try.prog 37 [a0] M Q := callsR_of pok (fn := Try.f37) (by kernel_rfl) (r_slices_Clone_uint64_uint64 a0 M Q ▸ h)
theorem r_rolodex_rolodexref13_ahead : ∀ (a0 a1 : AV) (M : RM) (Q : PostV), W_rolodex_rolodexref13_ahead 32 a0 a1 M Q = wpBodyO Try.prog Try.f38 [a0, a1] M Q := by
  intros; kernel_rfl
theorem r_rolodex_rolodexref13_ahead_calls {a0 a1 : AV} {M : RM} {Q : PostV} (h : W_rolodex_rolodexref13_ahead 32 a0 a1 M Q) : CallsR Try.prog 38 [a0, a1] M Q := callsR_of pok (fn := Try.f38) (by kernel_rfl) (r_rolodex_rolodexref13_ahead a0 a1 M Q ▸ h)
theorem r_rolodex_bin_Uint : ∀ (a0 a1 : AV) (M : RM) (Q : PostV), W_rolodex_bin_Uint (CallsR Try.prog 47) 5 a0 a1 M Q = wpBodyO Try.prog Try.f39 [a0, a1] M Q := by
  intros; kernel_rfl
theorem r_rolodex_bin_Uint_calls {a0 a1 : AV} {M : RM} {Q : PostV} (h : W_rolodex_bin_Uint (CallsR Try.prog 47) 5 a0 a1 M Q) : CallsR Try.prog 39 [a0, a1] M Q := callsR_of pok (fn := Try.f39) (by kernel_rfl) (r_rolodex_bin_Uint a0 a1 M Q ▸ h)
theorem r_rolodex_rolodexref13_Parts : ∀ (a0 : AV) (M : RM) (Q : PostV), W_rolodex_rolodexref13_Parts 73 30 a0 M Q = wpBodyO Try.prog Try.f40 [a0] M Q := by
  intros; kernel_rfl
theorem r_rolodex_rolodexref13_Parts_calls {a0 : AV} {M : RM} {Q : PostV} (h : W_rolodex_rolodexref13_Parts 73 30 a0 M Q) : CallsR Try.prog 40 [a0] M Q := callsR_of pok (fn := Try.f40) (by kernel_rfl) (r_rolodex_rolodexref13_Parts a0 M Q ▸ h)
theorem r_rolodex_rolodexref13_Encode : ∀ (a0 : AV) (M : RM) (Q : PostV), W_rolodex_rolodexref13_Encode (CallsR Try.prog 40) (CallsR Try.prog 51) 5 a0 M Q = wpBodyO Try.prog Try.f41 [a0] M Q := by
  intros; kernel_rfl
theorem r_rolodex_rolodexref13_Encode_calls {a0 : AV} {M : RM} {Q : PostV} (h : W_rolodex_rolodexref13_Encode (CallsR Try.prog 40) (CallsR Try.prog 51) 5 a0 M Q) : CallsR Try.prog 41 [a0] M Q := callsR_of pok (fn := Try.f41) (by kernel_rfl) (r_rolodex_rolodexref13_Encode a0 M Q ▸ h)
theorem r_rolodex_dot_part_has : ∀ (a0 a1 : AV) (M : RM) (Q : PostV), W_rolodex_dot_part_has (CallsR Try.prog 49) a0 a1 M Q = wpBodyO Try.prog Try.f42 [a0, a1] M Q := by
  intros; kernel_rfl
theorem r_rolodex_dot_part_has_calls {a0 a1 : AV} {M : RM} {Q : PostV} (h : W_rolodex_dot_part_has (CallsR Try.prog 49) a0 a1 M Q) : CallsR Try.prog 42 [a0, a1] M Q := callsR_of pok (fn := Try.f42) (by kernel_rfl) (r_rolodex_dot_part_has a0 a1 M Q ▸ h)
theorem r_slices_Concat_uint64_uint64 : ∀ (a0 : AV) (M : RM) (Q : PostV), W_slices_Concat_uint64_uint64 9 (CallsR Try.prog 52) 30 a0 M Q = wpBodyO Try.prog Try.f43 [a0] M Q := by
  intros; kernel_rfl
theorem r_slices_Concat_uint64_uint64_calls {a0 : AV} {M : RM} {Q : PostV} (h : W_slices_Concat_uint64_uint64 9 (CallsR Try.prog 52) 30 a0 M Q) : CallsR Try.prog 43 [a0] M Q := callsR_of pok (fn := Try.f43) (by kernel_rfl) (r_slices_Concat_uint64_uint64 a0 M Q ▸ h)
theorem r_slices_Sort_uint64_uint64 : ∀ (a0 : AV) (M : RM) (Q : PostV), W_slices_Sort_uint64_uint64 (CallsR Try.prog 54) (CallsR Try.prog 53) a0 M Q = wpBodyO Try.prog Try.f44 [a0] M Q := by
  intros; kernel_rfl
theorem r_slices_Sort_uint64_uint64_calls {a0 : AV} {M : RM} {Q : PostV} (h : W_slices_Sort_uint64_uint64 (CallsR Try.prog 54) (CallsR Try.prog 53) a0 M Q) : CallsR Try.prog 44 [a0] M Q := callsR_of pok (fn := Try.f44) (by kernel_rfl) (r_slices_Sort_uint64_uint64 a0 M Q ▸ h)
theorem r_slices_Compact_uint64_uint64 : ∀ (a0 : AV) (M : RM) (Q : PostV), W_slices_Compact_uint64_uint64 a0 M Q = wpBodyO Try.prog Try.f45 [a0] M Q := by
  intros; kernel_rfl
theorem r_slices_Compact_uint64_uint64_calls {a0 : AV} {M : RM} {Q : PostV} (h : W_slices_Compact_uint64_uint64 a0 M Q) : CallsR Try.prog 45 [a0] M Q := callsR_of pok (fn := Try.f45) (by kernel_rfl) (r_slices_Compact_uint64_uint64 a0 M Q ▸ h)
theorem r_rolodex_dot_part_settled : ∀ (a0 : AV) (M : RM) (Q : PostV), W_rolodex_dot_part_settled a0 M Q = wpBodyO Try.prog Try.f46 [a0] M Q := by
  intros; kernel_rfl
theorem r_rolodex_dot_part_settled_calls {a0 : AV} {M : RM} {Q : PostV} (h : W_rolodex_dot_part_settled a0 M Q) : CallsR Try.prog 46 [a0] M Q := callsR_of pok (fn := Try.f46) (by kernel_rfl) (r_rolodex_dot_part_settled a0 M Q ▸ h)
theorem r_slices_Clone_byte_byte : ∀ (a0 : AV) (M : RM) (Q : PostV), W_slices_Clone_byte_byte 5 a0 M Q = wpBodyO Try.prog Try.f47 [a0] M Q := by
  intros; kernel_rfl
theorem r_slices_Clone_byte_byte_calls {a0 : AV} {M : RM} {Q : PostV} (h : W_slices_Clone_byte_byte 5 a0 M Q) : CallsR Try.prog 47 [a0] M Q := callsR_of pok (fn := Try.f47) (by kernel_rfl) (r_slices_Clone_byte_byte a0 M Q ▸ h)
theorem r_rolodex_bin_Reader_number : ∀ (a0 : AV) (M : RM) (Q : PostV), W_rolodex_bin_Reader_number a0 M Q = wpBodyO Try.prog Try.f48 [a0] M Q := by
  intros; kernel_rfl
theorem r_rolodex_bin_Reader_number_calls {a0 : AV} {M : RM} {Q : PostV} (h : W_rolodex_bin_Reader_number a0 M Q) : CallsR Try.prog 48 [a0] M Q := callsR_of pok (fn := Try.f48) (by kernel_rfl) (r_rolodex_bin_Reader_number a0 M Q ▸ h)
theorem r_slices_BinarySearch_uint64_uint64 : ∀ (a0 a1 : AV) (M : RM) (Q : PostV), W_slices_BinarySearch_uint64_uint64 (CallsR Try.prog 55) (CallsR Try.prog 56) a0 a1 M Q = wpBodyO Try.prog Try.f49 [a0, a1] M Q := by
  intros; kernel_rfl
theorem r_slices_BinarySearch_uint64_uint64_calls {a0 a1 : AV} {M : RM} {Q : PostV} (h : W_slices_BinarySearch_uint64_uint64 (CallsR Try.prog 55) (CallsR Try.prog 56) a0 a1 M Q) : CallsR Try.prog 49 [a0, a1] M Q := callsR_of pok (fn := Try.f49) (by kernel_rfl) (r_slices_BinarySearch_uint64_uint64 a0 a1 M Q ▸ h)
theorem r_slices_Insert_uint64_uint64 : ∀ (a0 a1 a2 : AV) (M : RM) (Q : PostV), W_slices_Insert_uint64_uint64 30 (extnW Try.prog 57) (CallsR Try.prog 58) a0 a1 a2 M Q = wpBodyO Try.prog Try.f50 [a0, a1, a2] M Q := by
  intros; kernel_rfl
theorem r_slices_Insert_uint64_uint64_calls {a0 a1 a2 : AV} {M : RM} {Q : PostV} (h : W_slices_Insert_uint64_uint64 30 (extnW Try.prog 57) (CallsR Try.prog 58) a0 a1 a2 M Q) : CallsR Try.prog 50 [a0, a1, a2] M Q := callsR_of pok (fn := Try.f50) (by kernel_rfl) (r_slices_Insert_uint64_uint64 a0 a1 a2 M Q ▸ h)
theorem r_rolodex_rolodexref3_Uint : ∀ (a0 : AV) (M : RM) (Q : PostV), W_rolodex_rolodexref3_Uint 5 (CallsR Try.prog 51) a0 M Q = wpBodyO Try.prog Try.f51 [a0] M Q := by
  intros; kernel_rfl
theorem r_rolodex_rolodexref3_Uint_calls {a0 : AV} {M : RM} {Q : PostV} (h : W_rolodex_rolodexref3_Uint 5 (CallsR Try.prog 51) a0 M Q) : CallsR Try.prog 51 [a0] M Q := callsR_of pok (fn := Try.f51) (by kernel_rfl) (r_rolodex_rolodexref3_Uint a0 M Q ▸ h)
theorem r_slices_Grow_uint64_uint64 : ∀ (a0 a1 : AV) (M : RM) (Q : PostV), W_slices_Grow_uint64_uint64 9 30 a0 a1 M Q = wpBodyO Try.prog Try.f52 [a0, a1] M Q := by
  intros; kernel_rfl
theorem r_slices_Grow_uint64_uint64_calls {a0 a1 : AV} {M : RM} {Q : PostV} (h : W_slices_Grow_uint64_uint64 9 30 a0 a1 M Q) : CallsR Try.prog 52 [a0, a1] M Q := callsR_of pok (fn := Try.f52) (by kernel_rfl) (r_slices_Grow_uint64_uint64 a0 a1 M Q ▸ h)
theorem r_slices_pdqsortOrdered_uint64 : ∀ (a0 a1 a2 a3 : AV) (M : RM) (Q : PostV), W_slices_pdqsortOrdered_uint64 (CallsR Try.prog 59) (CallsR Try.prog 60) (CallsR Try.prog 61) (CallsR Try.prog 62) (CallsR Try.prog 63) (CallsR Try.prog 64) (CallsR Try.prog 55) (CallsR Try.prog 65) (CallsR Try.prog 66) (CallsR Try.prog 53) a0 a1 a2 a3 M Q = wpBodyO Try.prog Try.f53 [a0, a1, a2, a3] M Q := by
  intros; kernel_rfl
theorem r_slices_pdqsortOrdered_uint64_calls {a0 a1 a2 a3 : AV} {M : RM} {Q : PostV} (h : W_slices_pdqsortOrdered_uint64 (CallsR Try.prog 59) (CallsR Try.prog 60) (CallsR Try.prog 61) (CallsR Try.prog 62) (CallsR Try.prog 63) (CallsR Try.prog 64) (CallsR Try.prog 55) (CallsR Try.prog 65) (CallsR Try.prog 66) (CallsR Try.prog 53) a0 a1 a2 a3 M Q) : CallsR Try.prog 53 [a0, a1, a2, a3] M Q := callsR_of pok (fn := Try.f53) (by kernel_rfl) (r_slices_pdqsortOrdered_uint64 a0 a1 a2 a3 M Q ▸ h)
theorem r_math_bits_Len : ∀ (a0 : AV) (M : RM) (Q : PostV), W_math_bits_Len (CallsR Try.prog 67) (CallsR Try.prog 68) a0 M Q = wpBodyO Try.prog Try.f54 [a0] M Q := by
  intros; kernel_rfl
theorem r_math_bits_Len_calls {a0 : AV} {M : RM} {Q : PostV} (h : W_math_bits_Len (CallsR Try.prog 67) (CallsR Try.prog 68) a0 M Q) : CallsR Try.prog 54 [a0] M Q := callsR_of pok (fn := Try.f54) (by kernel_rfl) (r_math_bits_Len a0 M Q ▸ h)
theorem r_cmp_Less_uint64 : ∀ (a0 a1 : AV) (M : RM) (Q : PostV), W_cmp_Less_uint64 (CallsR Try.prog 69) a0 a1 M Q = wpBodyO Try.prog Try.f55 [a0, a1] M Q := by
  intros; kernel_rfl
theorem r_cmp_Less_uint64_calls {a0 a1 : AV} {M : RM} {Q : PostV} (h : W_cmp_Less_uint64 (CallsR Try.prog 69) a0 a1 M Q) : CallsR Try.prog 55 [a0, a1] M Q := callsR_of pok (fn := Try.f55) (by kernel_rfl) (r_cmp_Less_uint64 a0 a1 M Q ▸ h)
theorem r_slices_isNaN_uint64 : ∀ (a0 : AV) (M : RM) (Q : PostV), W_slices_isNaN_uint64 a0 M Q = wpBodyO Try.prog Try.f56 [a0] M Q := by
  intros; kernel_rfl
theorem r_slices_isNaN_uint64_calls {a0 : AV} {M : RM} {Q : PostV} (h : W_slices_isNaN_uint64 a0 M Q) : CallsR Try.prog 56 [a0] M Q := callsR_of pok (fn := Try.f56) (by kernel_rfl) (r_slices_isNaN_uint64 a0 M Q ▸ h)
theorem r_slices_rotateRight_uint64 : ∀ (a0 a1 : AV) (M : RM) (Q : PostV), W_slices_rotateRight_uint64 (CallsR Try.prog 70) a0 a1 M Q = wpBodyO Try.prog Try.f58 [a0, a1] M Q := by
  intros; kernel_rfl
theorem r_slices_rotateRight_uint64_calls {a0 a1 : AV} {M : RM} {Q : PostV} (h : W_slices_rotateRight_uint64 (CallsR Try.prog 70) a0 a1 M Q) : CallsR Try.prog 58 [a0, a1] M Q := callsR_of pok (fn := Try.f58) (by kernel_rfl) (r_slices_rotateRight_uint64 a0 a1 M Q ▸ h)
theorem r_slices_insertionSortOrdered_uint64 : ∀ (a0 a1 a2 : AV) (M : RM) (Q : PostV), W_slices_insertionSortOrdered_uint64 (CallsR Try.prog 55) a0 a1 a2 M Q = wpBodyO Try.prog Try.f59 [a0, a1, a2] M Q := by
  intros; kernel_rfl
theorem r_slices_insertionSortOrdered_uint64_calls {a0 a1 a2 : AV} {M : RM} {Q : PostV} (h : W_slices_insertionSortOrdered_uint64 (CallsR Try.prog 55) a0 a1 a2 M Q) : CallsR Try.prog 59 [a0, a1, a2] M Q := callsR_of pok (fn := Try.f59) (by kernel_rfl) (r_slices_insertionSortOrdered_uint64 a0 a1 a2 M Q ▸ h)
theorem r_slices_heapSortOrdered_uint64 : ∀ (a0 a1 a2 : AV) (M : RM) (Q : PostV), W_slices_heapSortOrdered_uint64 (CallsR Try.prog 71) a0 a1 a2 M Q = wpBodyO Try.prog Try.f60 [a0, a1, a2] M Q := by
  intros; kernel_rfl
theorem r_slices_heapSortOrdered_uint64_calls {a0 a1 a2 : AV} {M : RM} {Q : PostV} (h : W_slices_heapSortOrdered_uint64 (CallsR Try.prog 71) a0 a1 a2 M Q) : CallsR Try.prog 60 [a0, a1, a2] M Q := callsR_of pok (fn := Try.f60) (by kernel_rfl) (r_slices_heapSortOrdered_uint64 a0 a1 a2 M Q ▸ h)
theorem r_slices_breakPatternsOrdered_uint64 : ∀ (a0 a1 a2 : AV) (M : RM) (Q : PostV), W_slices_breakPatternsOrdered_uint64 104 (CallsR Try.prog 72) (CallsR Try.prog 73) a0 a1 a2 M Q = wpBodyO Try.prog Try.f61 [a0, a1, a2] M Q := by
  intros; kernel_rfl
theorem r_slices_breakPatternsOrdered_uint64_calls {a0 a1 a2 : AV} {M : RM} {Q : PostV} (h : W_slices_breakPatternsOrdered_uint64 104 (CallsR Try.prog 72) (CallsR Try.prog 73) a0 a1 a2 M Q) : CallsR Try.prog 61 [a0, a1, a2] M Q := callsR_of pok (fn := Try.f61) (by kernel_rfl) (r_slices_breakPatternsOrdered_uint64 a0 a1 a2 M Q ▸ h)
theorem r_slices_choosePivotOrdered_uint64 : ∀ (a0 a1 a2 : AV) (M : RM) (Q : PostV), W_slices_choosePivotOrdered_uint64 3 (CallsR Try.prog 74) (CallsR Try.prog 75) a0 a1 a2 M Q = wpBodyO Try.prog Try.f62 [a0, a1, a2] M Q := by
  intros; kernel_rfl
theorem r_slices_choosePivotOrdered_uint64_calls {a0 a1 a2 : AV} {M : RM} {Q : PostV} (h : W_slices_choosePivotOrdered_uint64 3 (CallsR Try.prog 74) (CallsR Try.prog 75) a0 a1 a2 M Q) : CallsR Try.prog 62 [a0, a1, a2] M Q := callsR_of pok (fn := Try.f62) (by kernel_rfl) (r_slices_choosePivotOrdered_uint64 a0 a1 a2 M Q ▸ h)
theorem r_slices_reverseRangeOrdered_uint64 : ∀ (a0 a1 a2 : AV) (M : RM) (Q : PostV), W_slices_reverseRangeOrdered_uint64 a0 a1 a2 M Q = wpBodyO Try.prog Try.f63 [a0, a1, a2] M Q := by
  intros; kernel_rfl
theorem r_slices_reverseRangeOrdered_uint64_calls {a0 a1 a2 : AV} {M : RM} {Q : PostV} (h : W_slices_reverseRangeOrdered_uint64 a0 a1 a2 M Q) : CallsR Try.prog 63 [a0, a1, a2] M Q := callsR_of pok (fn := Try.f63) (by kernel_rfl) (r_slices_reverseRangeOrdered_uint64 a0 a1 a2 M Q ▸ h)
theorem r_slices_partialInsertionSortOrdered_uint64 : ∀ (a0 a1 a2 : AV) (M : RM) (Q : PostV), W_slices_partialInsertionSortOrdered_uint64 (CallsR Try.prog 55) a0 a1 a2 M Q = wpBodyO Try.prog Try.f64 [a0, a1, a2] M Q := by
  intros; kernel_rfl
theorem r_slices_partialInsertionSortOrdered_uint64_calls {a0 a1 a2 : AV} {M : RM} {Q : PostV} (h : W_slices_partialInsertionSortOrdered_uint64 (CallsR Try.prog 55) a0 a1 a2 M Q) : CallsR Try.prog 64 [a0, a1, a2] M Q := callsR_of pok (fn := Try.f64) (by kernel_rfl) (r_slices_partialInsertionSortOrdered_uint64 a0 a1 a2 M Q ▸ h)
theorem r_slices_partitionEqualOrdered_uint64 : ∀ (a0 a1 a2 a3 : AV) (M : RM) (Q : PostV), W_slices_partitionEqualOrdered_uint64 (CallsR Try.prog 55) a0 a1 a2 a3 M Q = wpBodyO Try.prog Try.f65 [a0, a1, a2, a3] M Q := by
  intros; kernel_rfl
theorem r_slices_partitionEqualOrdered_uint64_calls {a0 a1 a2 a3 : AV} {M : RM} {Q : PostV} (h : W_slices_partitionEqualOrdered_uint64 (CallsR Try.prog 55) a0 a1 a2 a3 M Q) : CallsR Try.prog 65 [a0, a1, a2, a3] M Q := callsR_of pok (fn := Try.f65) (by kernel_rfl) (r_slices_partitionEqualOrdered_uint64 a0 a1 a2 a3 M Q ▸ h)
theorem r_slices_partitionOrdered_uint64 : ∀ (a0 a1 a2 a3 : AV) (M : RM) (Q : PostV), W_slices_partitionOrdered_uint64 (CallsR Try.prog 55) a0 a1 a2 a3 M Q = wpBodyO Try.prog Try.f66 [a0, a1, a2, a3] M Q := by
  intros; kernel_rfl
theorem r_slices_partitionOrdered_uint64_calls {a0 a1 a2 a3 : AV} {M : RM} {Q : PostV} (h : W_slices_partitionOrdered_uint64 (CallsR Try.prog 55) a0 a1 a2 a3 M Q) : CallsR Try.prog 66 [a0, a1, a2, a3] M Q := callsR_of pok (fn := Try.f66) (by kernel_rfl) (r_slices_partitionOrdered_uint64 a0 a1 a2 a3 M Q ▸ h)
theorem r_math_bits_Len32 : ∀ (a0 : AV) (M : RM) (Q : PostV), W_math_bits_Len32 a0 M Q = wpBodyO Try.prog Try.f67 [a0] M Q := by
  intros; kernel_rfl
theorem r_math_bits_Len32_calls {a0 : AV} {M : RM} {Q : PostV} (h : W_math_bits_Len32 a0 M Q) : CallsR Try.prog 67 [a0] M Q := callsR_of pok (fn := Try.f67) (by kernel_rfl) (r_math_bits_Len32 a0 M Q ▸ h)
theorem r_math_bits_Len64 : ∀ (a0 : AV) (M : RM) (Q : PostV), W_math_bits_Len64 a0 M Q = wpBodyO Try.prog Try.f68 [a0] M Q := by
  intros; kernel_rfl
theorem r_math_bits_Len64_calls {a0 : AV} {M : RM} {Q : PostV} (h : W_math_bits_Len64 a0 M Q) : CallsR Try.prog 68 [a0] M Q := callsR_of pok (fn := Try.f68) (by kernel_rfl) (r_math_bits_Len64 a0 M Q ▸ h)
theorem r_cmp_isNaN_uint64 : ∀ (a0 : AV) (M : RM) (Q : PostV), W_cmp_isNaN_uint64 a0 M Q = wpBodyO Try.prog Try.f69 [a0] M Q := by
  intros; kernel_rfl
theorem r_cmp_isNaN_uint64_calls {a0 : AV} {M : RM} {Q : PostV} (h : W_cmp_isNaN_uint64 a0 M Q) : CallsR Try.prog 69 [a0] M Q := callsR_of pok (fn := Try.f69) (by kernel_rfl) (r_cmp_isNaN_uint64 a0 M Q ▸ h)
theorem r_slices_rotateLeft_uint64 : ∀ (a0 a1 : AV) (M : RM) (Q : PostV), W_slices_rotateLeft_uint64 (CallsR Try.prog 76) a0 a1 M Q = wpBodyO Try.prog Try.f70 [a0, a1] M Q := by
  intros; kernel_rfl
theorem r_slices_rotateLeft_uint64_calls {a0 a1 : AV} {M : RM} {Q : PostV} (h : W_slices_rotateLeft_uint64 (CallsR Try.prog 76) a0 a1 M Q) : CallsR Try.prog 70 [a0, a1] M Q := callsR_of pok (fn := Try.f70) (by kernel_rfl) (r_slices_rotateLeft_uint64 a0 a1 M Q ▸ h)
theorem r_slices_siftDownOrdered_uint64 : ∀ (a0 a1 a2 a3 : AV) (M : RM) (Q : PostV), W_slices_siftDownOrdered_uint64 (CallsR Try.prog 55) a0 a1 a2 a3 M Q = wpBodyO Try.prog Try.f71 [a0, a1, a2, a3] M Q := by
  intros; kernel_rfl
theorem r_slices_siftDownOrdered_uint64_calls {a0 a1 a2 a3 : AV} {M : RM} {Q : PostV} (h : W_slices_siftDownOrdered_uint64 (CallsR Try.prog 55) a0 a1 a2 a3 M Q) : CallsR Try.prog 71 [a0, a1, a2, a3] M Q := callsR_of pok (fn := Try.f71) (by kernel_rfl) (r_slices_siftDownOrdered_uint64 a0 a1 a2 a3 M Q ▸ h)
theorem r_slices_nextPowerOfTwo : ∀ (a0 : AV) (M : RM) (Q : PostV), W_slices_nextPowerOfTwo (CallsR Try.prog 54) a0 M Q = wpBodyO Try.prog Try.f72 [a0] M Q := by
  intros; kernel_rfl
theorem r_slices_nextPowerOfTwo_calls {a0 : AV} {M : RM} {Q : PostV} (h : W_slices_nextPowerOfTwo (CallsR Try.prog 54) a0 M Q) : CallsR Try.prog 72 [a0] M Q := callsR_of pok (fn := Try.f72) (by kernel_rfl) (r_slices_nextPowerOfTwo a0 M Q ▸ h)
theorem r_slices_xorshift_Next : ∀ (a0 : AV) (M : RM) (Q : PostV), W_slices_xorshift_Next a0 M Q = wpBodyO Try.prog Try.f73 [a0] M Q := by
  intros; kernel_rfl
theorem r_slices_xorshift_Next_calls {a0 : AV} {M : RM} {Q : PostV} (h : W_slices_xorshift_Next a0 M Q) : CallsR Try.prog 73 [a0] M Q := callsR_of pok (fn := Try.f73) (by kernel_rfl) (r_slices_xorshift_Next a0 M Q ▸ h)
theorem r_slices_medianAdjacentOrdered_uint64 : ∀ (a0 a1 a2 : AV) (M : RM) (Q : PostV), W_slices_medianAdjacentOrdered_uint64 (CallsR Try.prog 75) a0 a1 a2 M Q = wpBodyO Try.prog Try.f74 [a0, a1, a2] M Q := by
  intros; kernel_rfl
theorem r_slices_medianAdjacentOrdered_uint64_calls {a0 a1 a2 : AV} {M : RM} {Q : PostV} (h : W_slices_medianAdjacentOrdered_uint64 (CallsR Try.prog 75) a0 a1 a2 M Q) : CallsR Try.prog 74 [a0, a1, a2] M Q := callsR_of pok (fn := Try.f74) (by kernel_rfl) (r_slices_medianAdjacentOrdered_uint64 a0 a1 a2 M Q ▸ h)
theorem r_slices_medianOrdered_uint64 : ∀ (a0 a1 a2 a3 a4 : AV) (M : RM) (Q : PostV), W_slices_medianOrdered_uint64 (CallsR Try.prog 77) a0 a1 a2 a3 a4 M Q = wpBodyO Try.prog Try.f75 [a0, a1, a2, a3, a4] M Q := by
  intros; kernel_rfl
theorem r_slices_medianOrdered_uint64_calls {a0 a1 a2 a3 a4 : AV} {M : RM} {Q : PostV} (h : W_slices_medianOrdered_uint64 (CallsR Try.prog 77) a0 a1 a2 a3 a4 M Q) : CallsR Try.prog 75 [a0, a1, a2, a3, a4] M Q := callsR_of pok (fn := Try.f75) (by kernel_rfl) (r_slices_medianOrdered_uint64 a0 a1 a2 a3 a4 M Q ▸ h)
theorem r_slices_Reverse_uint64_uint64 : ∀ (a0 : AV) (M : RM) (Q : PostV), W_slices_Reverse_uint64_uint64 a0 M Q = wpBodyO Try.prog Try.f76 [a0] M Q := by
  intros; kernel_rfl
theorem r_slices_Reverse_uint64_uint64_calls {a0 : AV} {M : RM} {Q : PostV} (h : W_slices_Reverse_uint64_uint64 a0 M Q) : CallsR Try.prog 76 [a0] M Q := callsR_of pok (fn := Try.f76) (by kernel_rfl) (r_slices_Reverse_uint64_uint64 a0 M Q ▸ h)
theorem r_slices_order2Ordered_uint64 : ∀ (a0 a1 a2 a3 : AV) (M : RM) (Q : PostV), W_slices_order2Ordered_uint64 (CallsR Try.prog 55) a0 a1 a2 a3 M Q = wpBodyO Try.prog Try.f77 [a0, a1, a2, a3] M Q := by
  intros; kernel_rfl
theorem r_slices_order2Ordered_uint64_calls {a0 a1 a2 a3 : AV} {M : RM} {Q : PostV} (h : W_slices_order2Ordered_uint64 (CallsR Try.prog 55) a0 a1 a2 a3 M Q) : CallsR Try.prog 77 [a0, a1, a2, a3] M Q := callsR_of pok (fn := Try.f77) (by kernel_rfl) (r_slices_order2Ordered_uint64 a0 a1 a2 a3 M Q ▸ h)
end Go.Proofs.Ytkmkfgepdlkdkaa
/- The contracts of dot's functions at the program. By an AI agent. -/
set_option maxRecDepth 100000
set_option linter.unusedVariables false
set_option linter.unusedSimpArgs false
namespace Go.Proofs.Ytkmkfgepdlkdkaa.dshare
open Go Go.Ab Go.Ab.Dot Go.RowKit

theorem over : OverC (extnW Try.prog 57) := by
  intro M ba oa na bb ob nb ea eb ca cb la lb opb Q hne ha hb h1 h2 hQ
  exact .inr (.inl ⟨⟨Try.f57, 51, 30, 1, 4, by kernel_rfl, by kernel_rfl, by kernel_rfl, by kernel_rfl, by kernel_rfl, by kernel_rfl⟩,
    ⟨ba, oa, na, ca, bb, ob, nb, cb, la, ea, 0, lb, opb, eb, 0, rfl, hne, ha, hb, rfl, h1, h2⟩, hQ⟩)
theorem hasBody50 : HasBody Try.prog 50 := ⟨Try.f50, _, by kernel_rfl, rfl⟩
theorem insert : InsertC 30 (CallsR Try.prog 50) := by
  intro M v bx n0 k x ex xs Q ho hn hl hk hx hxl hbx hQ
  by_cases hkn : k = xs.length
  · subst hkn
    exact r_slices_Insert_uint64_uint64_calls (insert_end ho hn hl hx hxl hQ)
  · obtain ⟨b, rfl, h1, h2, h3, h4⟩ := Own.op_pos ho (by omega)
    refine CallsR.open_cap hasBody50 h3 (by rw [h4]; show xs.length * 1 = _; omega) fun c hc => ?_
    have hne : bx ≠ b := fun e => hbx (by simp [blkOf, e])
    have kk : Keep [b] M (M.put b (.row (U64.row xs ++ List.replicate (c - xs.length) .top) true 30 0)) := (Keep.refl _ _).put _ (.inr (by simp))
    refine r_slices_Insert_uint64_uint64_calls (insert_ex (c := c) over rfl (by omega) hc (by omega) (heap_put_eq _) (by rw [next_put]; exact h2) (heap_put_ne hx hne) hxl hne ?_)
    intro v' M' q1 q2 q3 q4
    refine hQ v' M' q1 q2 (fun d hd => ?_) ?_
    · rcases q3 d hd with rfl | h
      · exact h1
      · have : M.next ≤ d := h
        omega
    · exact (kk.trans q4).mono (by simp [blkOf])

theorem nan : NaNC (CallsR Try.prog 69) := fun hQ => r_cmp_isNaN_uint64_calls (isNaN_spec hQ)
theorem nan2 : NaNC (CallsR Try.prog 56) := fun hQ => r_slices_isNaN_uint64_calls (isNaN2_spec hQ)
theorem less : LessC (CallsR Try.prog 55) := by
  intro M x y Q hQ
  obtain ⟨a0, a1, e, h⟩ := less_spec nan hQ
  cases e
  exact r_cmp_Less_uint64_calls h
theorem search : SearchC (CallsR Try.prog 49) := by
  intro M v xs n Q h1 h2 h3 hQ
  obtain ⟨a0, a1, e, h⟩ := search_spec less nan2 h1 h2 h3 hQ
  cases e
  exact r_slices_BinarySearch_uint64_uint64_calls h
theorem clone8 : CloneC 30 1 8 (CallsR Try.prog 37) := fun h1 h2 h3 h4 _ hQ => r_slices_Clone_uint64_uint64_calls (clone_any h1 h2 (Nat.le_refl _) h3 h4 hQ)
theorem clone1 : CloneC 5 1 1 (CallsR Try.prog 47) := fun h1 h2 h3 h4 _ hQ => r_slices_Clone_byte_byte_calls (clone_any h1 h2 (Nat.le_refl _) h3 h4 hQ)
theorem uint : UintC 5 (CallsR Try.prog 39) := by
  intro M0 a0 cs n v h1 h2 h3 h4 Q hQ
  obtain ⟨b0, b1, e, h⟩ := uint_spec clone1 h1 h2 h3 h4 hQ
  cases e
  exact r_rolodex_bin_Uint_calls h
theorem settled : SettledC (CallsR Try.prog 46) := by
  intro M b o T u l v xs Q h1 h2 h3 h4 h5 h6 h7 h8 h9 hQ
  obtain ⟨a0, e, h⟩ := settled_spec h1 h2 h3 h4 h5 h6 h7 h8 h9 hQ
  cases e
  exact r_rolodex_dot_part_settled_calls h
theorem addP : AddPC (CallsR Try.prog 36) := by
  intro M b o T u n l v xs Q h1 h2 h3 h4 h5 h6 h7 h8 h9 h10 h11 h12 hQ1 hQ2
  obtain ⟨a0, a1, e, h⟩ := addP_spec (TU := 30) (TP := 56) search clone8 insert settled h1 h2 h3 h4 h5 h6 h7 h8 h9 h10 h11 h12 hQ1 hQ2
  cases e
  exact r_rolodex_dot_part_add_calls h
theorem hasP : HasPC (CallsR Try.prog 42) := by
  intro M b o T u n l v xs Q h1 h2 h3 h4 h5 h6 hQ
  obtain ⟨a0, a1, e, h⟩ := hasP_spec search h1 h2 h3 h4 h5 h6 hQ
  cases e
  exact r_rolodex_dot_part_has_calls h
theorem good : GoodC (CallsR Try.prog 15) := by
  intro M d Q hQ
  obtain ⟨a0, e, h⟩ := good_spec (T := 32) hQ
  cases e
  exact r_rolodex_dot_Good_calls h
theorem refGood : GoodC (CallsR Try.prog 16) := by
  intro M d Q hQ
  obtain ⟨a0, e, h⟩ := refGood_spec (T := 32) hQ
  cases e
  exact r_rolodex_rolodexref13_Good_calls h
theorem addS : AddSC 59 (CallsR Try.prog 13) := by
  intro M b ps d S Q h1 h2 hQ
  obtain ⟨a0, a1, e, h⟩ := addS_spec (TD := 32) good addP h1 h2 hQ
  cases e
  exact r_rolodex_dot_Set_Add_calls h
theorem new : NewC 59 (CallsR Try.prog 11) := by
  intro M Q hQ
  obtain ⟨e, h⟩ := new_spec hQ
  exact r_rolodex_dot_New_calls h
theorem newO : NewOC 59 30 (CallsR Try.prog 11) := by
  intro M Q hQ
  obtain ⟨e, h⟩ := newO_spec hQ
  exact r_rolodex_dot_New_calls h
theorem partsF : PartsC 59 53 (CallsR Try.prog 14) := by
  intro M b ps S Q h1 h2 hQ
  obtain ⟨a0, e, h⟩ := parts_spec (T := 56) clone8 h1 h2 hQ
  cases e
  exact r_rolodex_dot_Set_Parts_calls h
theorem encode : EncodeC 59 5 (CallsR Try.prog 19) := by
  intro M b ps S Q h1 h2 hQ
  obtain ⟨a0, e, h⟩ := encode_spec partsF uint h1 h2 hQ
  cases e
  exact r_rolodex_dot_Set_Encode_calls h
theorem num : NumC 78 (CallsR Try.prog 48) := by
  intro M r S bs f Q h1 hQ
  obtain ⟨a0, e, h⟩ := num_spec h1 hQ
  cases e
  exact r_rolodex_bin_Reader_number_calls h
theorem int : IntC 78 (CallsR Try.prog 30) := by
  intro M r most S bs f Q h1 h2 hQ
  obtain ⟨a0, a1, e, h⟩ := int_spec num h1 h2 hQ
  cases e
  exact r_rolodex_bin_Reader_Int_calls h
theorem ruint : RUintC 78 (CallsR Try.prog 31) := by
  intro M r S bs f Q h1 hQ
  obtain ⟨a0, e, h⟩ := ruint_spec num h1 hQ
  cases e
  exact r_rolodex_bin_Reader_Uint_calls h
theorem err : ErrC 78 (CallsR Try.prog 32) := by
  intro M r S bs f Q h1 hQ
  obtain ⟨a0, e, h⟩ := err_spec h1 hQ
  cases e
  exact r_rolodex_bin_Reader_Err_calls h
theorem endR : EndC 78 (CallsR Try.prog 33) := by
  intro M r S bs f Q h1 hQ
  obtain ⟨a0, e, h⟩ := end_spec h1 hQ
  cases e
  exact r_rolodex_bin_Reader_End_calls h
theorem read : ReadC 78 (CallsR Try.prog 29) := by
  intro M v bs Q h1 h2 hQ
  obtain ⟨a0, e, h⟩ := read_spec clone1 h1 h2 hQ
  cases e
  exact r_rolodex_bin_Read_calls h
theorem formed : FormedC 59 (CallsR Try.prog 34) := by
  intro M b ps S Q h1 h2 hQ
  obtain ⟨a0, e, h⟩ := formed_spec (T := 56) h1 h2 hQ
  cases e
  exact r_rolodex_dot_Set_formed_calls h
theorem equal : EqualC (CallsR Try.prog 35) := by
  intro M v w x y Q h1 h2 hQ
  obtain ⟨a0, a1, e, h⟩ := equal_spec h1 h2 hQ
  cases e
  exact r_bytes_Equal_calls h
theorem decode : DecodeC 59 30 (CallsR Try.prog 12) := by
  intro M v bs Q h1 h2 hN hS
  obtain ⟨a0, e, h⟩ := decode_spec read newO int ruint.ru err endR formed encode equal h1 h2 hN hS
  cases e
  exact r_rolodex_dot_Decode_calls h
theorem bytes : BytesC (CallsR Try.prog 26) := by
  intro M v bs Q h1 h2 hQ
  obtain ⟨a0, e, h⟩ := bytes_spec decode encode h1 h2 hQ
  cases e
  exact r_rolodex_rolodexlaw13_bytes_calls h
theorem ahead : AheadC (CallsR Try.prog 38) := by
  intro M a b Q hQ
  obtain ⟨a0, a1, e, h⟩ := ahead_spec (T := 32) hQ
  cases e
  exact r_rolodex_rolodexref13_ahead_calls h
theorem refHas : RefHasC (CallsR Try.prog 22) := by
  intro M v l d Q h1 h2 hQ
  obtain ⟨a0, a1, e, h⟩ := refHas_spec (T := 32) h1 h2 hQ
  cases e
  exact r_rolodex_rolodexref13_Has_calls h
theorem refAdd : RefAddC 32 (CallsR Try.prog 17) := by
  intro M base v l d Q h1 h2 h3 hQ
  obtain ⟨a0, a1, e, h⟩ := refAdd_spec refHas ahead h1 h2 h3 hQ
  cases e
  exact r_rolodex_rolodexref13_Add_calls h
theorem ofL : OfC 59 32 (CallsR Try.prog 23) := by
  intro M v l Q h1 h2 hQ
  obtain ⟨a0, e, h⟩ := of_spec new addS refAdd h1 h2 hQ
  cases e
  exact r_rolodex_rolodexlaw13_of_calls h

/-! ### what is handed in -/
theorem cells3 : Try.prog.cellsOf 3 = 1 := by kernel_rfl
theorem cells5 : Try.prog.cellsOf 5 = 1 := by kernel_rfl
theorem cells30 : Try.prog.cellsOf 30 = 1 := by kernel_rfl
theorem cells32 : Try.prog.cellsOf 32 = 2 := by kernel_rfl
theorem bytes5 : Try.prog.bytesOf 5 = 1 := by kernel_rfl
theorem bytes32 : Try.prog.bytesOf 32 = 16 := by kernel_rfl
theorem fits_u8 {M : RM} {cs : List AV} (h : Fits Try.prog M 5 cs) : ∃ k : UInt8, cs = [By k] := by
  obtain ⟨n, rfl, h1, h2⟩ := h.int_inv Try.underlying5
  have h1 : (0 : Int) ≤ n := h1
  have h2 : n ≤ (255 : Int) := h2
  refine ⟨UInt8.ofNat n.toNat, ?_⟩
  have : ((UInt8.ofNat n.toNat).toNat : Int) = n := by rw [u8_nat]; omega
  rw [By, this]
theorem fits_bytes {M : RM} {cs : List AV} (h : Fits Try.prog M 28 cs) : ∃ v, ∃ bs : List UInt8, cs = [v] ∧ Sl BY M v bs ∧ bs.length ≤ 140737488355328 := by
  obtain ⟨v, n, ds, rfl, hs, hb, he⟩ := h.slice_inv Try.underlying28 (by rw [cells5]; decide)
  rw [cells5] at hs he
  rw [bytes5] at hb
  obtain ⟨xs, rfl, rfl, _⟩ := chunks_of (size := 1) BY.cells (fun _ => True) (fun _ => rfl) n ds hs.length fun i hi => by
    obtain ⟨k, e⟩ := fits_u8 (he i hi)
    exact ⟨k, trivial, e⟩
  exact ⟨v, xs, rfl, hs, Nat.le_trans (by omega) (show reachBytes ≤ 140737488355328 by decide)⟩
theorem fits_dot {M : RM} {cs : List AV} (h : Fits Try.prog M 32 cs) : ∃ d : Dot, cs = DotE.cells d ∧ d.2 < 2 ^ 64 := by
  obtain ⟨hl, hf⟩ := h.struct_inv Try.underlying32
  rw [cells32] at hl
  match cs, hl with
  | [a, b], _ =>
    have f0 : Fits Try.prog M 3 (([a, b].drop 0).take (Try.prog.cellsOf 3)) := hf 0 _ rfl
    have f1 : Fits Try.prog M 30 (([a, b].drop 1).take (Try.prog.cellsOf 30)) := hf 1 _ rfl
    rw [cells3] at f0
    rw [cells30] at f1
    obtain ⟨n, e, _, _⟩ := f0.int_inv Try.underlying3
    obtain ⟨m, e', g1, g2⟩ := f1.int_inv Try.underlying30
    have g1 : (0 : Int) ≤ m := g1
    have g2 : m ≤ (18446744073709551615 : Int) := g2
    obtain ⟨k, rfl⟩ := Int.eq_ofNat_of_zero_le g1
    cases e; cases e'
    exact ⟨(n, k), rfl, by show k < 2 ^ 64; omega⟩
theorem fits_dots {M : RM} {cs : List AV} (h : Fits Try.prog M 36 cs) : ∃ v, ∃ l : List Dot, cs = [v] ∧ Sl DotE M v l ∧ ∀ d ∈ l, d.2 < 2 ^ 64 := by
  obtain ⟨v, n, ds, rfl, hs, hb, he⟩ := h.slice_inv Try.underlying36 (by rw [cells32]; decide)
  rw [cells32] at hs he
  obtain ⟨xs, rfl, rfl, hp⟩ := chunks_of (size := 2) DotE.cells (fun d : Dot => d.2 < 2 ^ 64) (fun _ => rfl) n ds hs.length fun i hi => by
    obtain ⟨d, e, h⟩ := fits_dot (he i hi)
    exact ⟨d, h, e⟩
  exact ⟨v, xs, rfl, hs, hp⟩
end Go.Proofs.Ytkmkfgepdlkdkaa.dshare
/- More contracts of dot's functions at the program. By an AI agent. -/
set_option maxRecDepth 100000
set_option linter.unusedVariables false
set_option linter.unusedSimpArgs false
namespace Go.Proofs.Ytkmkfgepdlkdkaa.dshare
open Go Go.Ab Go.Ab.Dot Go.RowKit

theorem within : WithinC 59 (CallsR Try.prog 25) := by
  intro M a b ps qs S S' Q h1 h2 h3 h4 hQ
  obtain ⟨a0, a1, e, h⟩ := within_spec (T := 56) hasP h1 h2 h3 h4 hQ
  cases e
  exact r_rolodex_dot_Set_Within_calls h
theorem hasS : HasSC 59 (CallsR Try.prog 21) := by
  intro M b ps d S Q h1 h2 hQ
  obtain ⟨a0, a1, e, h⟩ := hasS_spec (T := 32) good hasP h1 h2 hQ
  cases e
  exact r_rolodex_dot_Set_Has_calls h
end Go.Proofs.Ytkmkfgepdlkdkaa.dshare
/- Sorting what is sorted, joining, copying: the contracts at the program. By an AI agent. -/
set_option maxRecDepth 100000
set_option linter.unusedVariables false
set_option linter.unusedSimpArgs false
namespace Go.Proofs.Ytkmkfgepdlkdkaa.dshare
open Go Go.Ab Go.Ab.Dot Go.RowKit

theorem order2 : Order2C (CallsR Try.prog 77) := by
  intro M v sw xs i j Q h1 h2 h3 h4 hQ
  obtain ⟨a0, a1, a2, a3, e, h⟩ := order2_spec less (sw := sw) h1 h2 h3 h4 hQ
  cases e
  exact r_slices_order2Ordered_uint64_calls h
theorem median : MedianC (CallsR Try.prog 75) := by
  intro M v sw xs i j k Q h1 h2 h3 h4 h5 hQ
  obtain ⟨a0, a1, a2, a3, a4, e, h⟩ := median_spec order2 (sw := sw) h1 h2 h3 h4 h5 hQ
  cases e
  exact r_slices_medianOrdered_uint64_calls h
theorem medAdj : MedAdjC (CallsR Try.prog 74) := by
  intro M v sw xs i Q h1 h2 h3 h4 h5 hQ
  obtain ⟨a0, a1, a2, e, h⟩ := medAdj_spec median (sw := sw) h1 h2 h3 h4 h5 hQ
  cases e
  exact r_slices_medianAdjacentOrdered_uint64_calls h
theorem choose : ChooseC (CallsR Try.prog 62) := by
  intro M v xs Q h1 h2 h3 h4 hQ
  obtain ⟨a0, a1, a2, e, h⟩ := choose_spec (T := 3) medAdj median h1 h2 h3 h4 hQ
  cases e
  exact r_slices_choosePivotOrdered_uint64_calls h
theorem partIns : PartInsC (CallsR Try.prog 64) := by
  intro M v xs Q h1 h2 h3 h4 hQ
  obtain ⟨a0, a1, a2, e, h⟩ := partIns_spec less h1 h2 h3 h4 hQ
  cases e
  exact r_slices_partialInsertionSortOrdered_uint64_calls h
theorem ins : InsC (CallsR Try.prog 59) := by
  intro M v xs Q h1 h2 h3 hQ
  obtain ⟨a0, a1, a2, e, h⟩ := ins_spec less h1 h2 h3 hQ
  cases e
  exact r_slices_insertionSortOrdered_uint64_calls h
theorem pdq : PdqC (CallsR Try.prog 53) := by
  intro M v xs n Q h1 h2 h3 h4 hQ
  obtain ⟨a0, a1, a2, a3, e, h⟩ := pdq_spec ins choose partIns h1 h2 h3 h4 hQ
  cases e
  exact r_slices_pdqsortOrdered_uint64_calls h
theorem len64 : LenC (CallsR Try.prog 68) := by
  intro M x Q h1 hQ
  obtain ⟨a0, e, h⟩ := len64_spec h1 hQ
  cases e
  exact r_math_bits_Len64_calls h
theorem len : LenC (CallsR Try.prog 54) := by
  intro M x Q h1 hQ
  obtain ⟨a0, e, h⟩ := len_spec len64 h1 hQ
  cases e
  exact r_math_bits_Len_calls h
theorem sortUp : SortC (fun xs => Up xs ∧ xs.length < 256) id 30 (CallsR Try.prog 44) := by
  intro M base v xs Q h1 h2 hQ
  obtain ⟨a0, e, h⟩ := sortUp_spec len pdq h1 h2 hQ
  cases e
  exact r_slices_Sort_uint64_uint64_calls h
theorem compactAsc : CompactC (fun xs => Asc xs ∧ xs.length ≤ 1000000) id 30 (CallsR Try.prog 45) := by
  intro M base v xs Q h1 h2 hQ
  obtain ⟨a0, e, h⟩ := compactAsc_spec h1 h2 hQ
  cases e
  exact r_slices_Compact_uint64_uint64_calls h
theorem grow : GrowC 30 (CallsR Try.prog 52) := by
  intro M n Q h1 h2 h3
  obtain ⟨a0, a1, e, h⟩ := grow_spec (TS := 9) h1 h2 h3
  cases e
  exact r_slices_Grow_uint64_uint64_calls h
theorem concat : ConcatC 30 (CallsR Try.prog 43) := by
  intro M bb TS v w xs ys Q h1 h2 h3 h4 h5 h6 hQ
  obtain ⟨a0, e, h⟩ := concat_spec (TS := 9) grow h1 h2 h3 h4 h5 h6 hQ
  cases e
  exact r_slices_Concat_uint64_uint64_calls h
theorem joinUp : JoinC (fun xs => Up xs ∧ xs.length < 256) (fun xs => Asc xs ∧ xs.length ≤ 1000000) id id 59 (CallsR Try.prog 24) := by
  intro M a b ps qs S S' Q h1 h2 h3 h4 h5 h6 h7 h8 hQ
  obtain ⟨a0, a1, e, h⟩ := join_spec (TP := 56) (TL := 51) concat sortUp compactAsc settled h1 h2 h3 h4 h5 h6 h7 h8 hQ
  cases e
  exact r_rolodex_dot_Set_Join_calls h
theorem copy : CopyC 59 (CallsR Try.prog 18) := by
  intro M b qs S' Q h1 h2 hQ
  obtain ⟨a0, e, h⟩ := copy_spec new joinUp h1 h2 hQ
  cases e
  exact r_rolodex_dot_Set_Copy_calls h
end Go.Proofs.Ytkmkfgepdlkdkaa.dshare
/- The document's numbers: the contract at the program. By an AI agent. -/
set_option maxRecDepth 100000
set_option linter.unusedVariables false
set_option linter.unusedSimpArgs false
namespace Go.Proofs.Ytkmkfgepdlkdkaa.dshare
open Go Go.Ab Go.Ab.Dot Go.RowKit

theorem refUint (v : Nat) : v < 2 ^ 64 → RefUint1 5 v (CallsR Try.prog 51) := by
  induction v using Nat.strongRecOn with
  | _ v ih =>
    intro hv M Q hQ
    obtain ⟨a0, e, h⟩ := refUint_spec hv (fun w hw => ih w hw (by omega)) hQ
    cases e
    exact r_rolodex_rolodexref3_Uint_calls h
end Go.Proofs.Ytkmkfgepdlkdkaa.dshare
/- The document's parts and bytes, and 'is': the contracts at the program. By an AI agent. -/
set_option maxRecDepth 100000
set_option linter.unusedVariables false
set_option linter.unusedSimpArgs false
namespace Go.Proofs.Ytkmkfgepdlkdkaa.dshare
open Go Go.Ab Go.Ab.Dot Go.RowKit

theorem partsO : PartsOC 59 53 30 (CallsR Try.prog 14) := fun {M b ps S Q} h1 h2 h3 => by
  obtain ⟨a0, e, h⟩ := partsO_spec clone8 h1 h2 h3
  cases e
  exact r_rolodex_dot_Set_Parts_calls h
theorem refParts : RefPartsC 73 30 (CallsR Try.prog 40) := fun {M v l Q} h1 h2 h3 h4 => by
  obtain ⟨a0, e, h⟩ := refParts_spec h1 h2 h3 h4
  cases e
  exact r_rolodex_rolodexref13_Parts_calls h
theorem refEncode : RefEncodeC 5 (CallsR Try.prog 41) := fun {M v l Q} h1 h2 h3 h4 => by
  obtain ⟨a0, e, h⟩ := refEncode_spec refParts (fun v => refUint v) h1 h2 h3 h4
  cases e
  exact r_rolodex_rolodexref13_Encode_calls h
theorem isL : IsC 59 (CallsR Try.prog 20) := fun {M b ps S v l Q} h1 h2 h3 h4 h5 h6 h7 => by
  obtain ⟨a0, a1, e, h⟩ := is_spec partsO refParts encode refEncode h1 h2 h3 h4 h5 h6 h7
  cases e
  exact r_rolodex_rolodexlaw13_is_calls h
end Go.Proofs.Ytkmkfgepdlkdkaa.dshare
/- Sorting and compacting any list, joining: the contracts at the program. By an AI agent. -/
set_option maxRecDepth 100000
set_option linter.unusedVariables false
set_option linter.unusedSimpArgs false
namespace Go.Proofs.Ytkmkfgepdlkdkaa.dshare
open Go Go.Ab Go.Ab.Dot Go.RowKit

theorem order2x : Order2X 30 3 (CallsR Try.prog 77) := fun {M b s k i j d Q} h1 h2 h3 h4 hQ => by
  obtain ⟨a0, a1, a2, a3, e, h⟩ := order2x_spec less h1 h2 h3 h4 hQ
  cases e
  exact r_slices_order2Ordered_uint64_calls h
theorem medianx : MedianX 30 3 (CallsR Try.prog 75) := fun {M b s k i j h d Q} h1 h2 h3 h4 h5 hQ => by
  obtain ⟨a0, a1, a2, a3, a4, e, h⟩ := medianx_spec order2x h1 h2 h3 h4 h5 hQ
  cases e
  exact r_slices_medianOrdered_uint64_calls h
theorem medadjx : MedAdjX 30 3 (CallsR Try.prog 74) := fun {M b s k i d Q} h1 h2 h3 h4 h5 hQ => by
  obtain ⟨a0, a1, a2, e, h⟩ := medadjx_spec medianx h1 h2 h3 h4 h5 hQ
  cases e
  exact r_slices_medianAdjacentOrdered_uint64_calls h
theorem choosex : ChooseX 30 (CallsR Try.prog 62) := fun {M b a e d Q} h1 h2 h3 h4 hQ => by
  obtain ⟨a0, a1, a2, e, h⟩ := choosex_spec medadjx medianx h1 h2 h3 h4 hQ
  cases e
  exact r_slices_choosePivotOrdered_uint64_calls h
theorem partInsx : PartInsX 30 (CallsR Try.prog 64) := fun {M b a e d Q} h1 h2 h3 h4 hQ => by
  obtain ⟨a0, a1, a2, e, h⟩ := partInsx_spec less h1 h2 h3 h4 hQ
  cases e
  exact r_slices_partialInsertionSortOrdered_uint64_calls h
theorem insx : SortW 30 (Sort.insertionSort lN) (fun _ _ _ => True) (CallsR Try.prog 59) := fun {M b a e d Q} h1 h2 h3 h4 h5 hQ => by
  obtain ⟨a0, a1, a2, e, h⟩ := insS_spec less h1 h2 h3 h4 h5 hQ
  cases e
  exact r_slices_insertionSortOrdered_uint64_calls h
theorem siftx : SiftC 30 (CallsR Try.prog 71) := fun {M b lo hi first d Q} h1 h2 h3 h4 hQ => by
  obtain ⟨a0, a1, a2, a3, e, h⟩ := sift_spec less h1 h2 h3 h4 hQ
  cases e
  exact r_slices_siftDownOrdered_uint64_calls h
theorem heapx : SortW 30 (Sort.heapSort lN) (fun _ a e => a < e) (CallsR Try.prog 60) := fun {M b a e d Q} h1 h2 h3 h4 h5 hQ => by
  obtain ⟨a0, a1, a2, e, h⟩ := heap_spec siftx h1 h2 h3 h4 h5 hQ
  cases e
  exact r_slices_heapSortOrdered_uint64_calls h
theorem reversex : SortW 30 Sort.reverseRange (fun _ a e => a < e) (CallsR Try.prog 63) := fun {M b a e d Q} h1 h2 h3 h4 h5 hQ => by
  obtain ⟨a0, a1, a2, e, h⟩ := reverse_spec h1 h2 h3 h4 h5 hQ
  cases e
  exact r_slices_reverseRangeOrdered_uint64_calls h
theorem partEqx : PartEqC 30 (CallsR Try.prog 65) := fun {M b a e pv d Q} h1 h2 h3 h4 h5 hQ => by
  obtain ⟨a0, a1, a2, a3, e, h⟩ := partEq_spec less h1 h2 h3 h4 h5 hQ
  cases e
  exact r_slices_partitionEqualOrdered_uint64_calls h
theorem partx : PartC 30 (CallsR Try.prog 66) := fun {M b a e pv d Q} h1 h2 h3 h4 h5 hQ => by
  obtain ⟨a0, a1, a2, a3, e, h⟩ := part_spec less h1 h2 h3 h4 h5 hQ
  cases e
  exact r_slices_partitionOrdered_uint64_calls h
theorem len64x : LenX (CallsR Try.prog 68) := fun {M x Q} h1 hQ => by
  obtain ⟨a0, e, h⟩ := len64x_spec h1 hQ
  cases e
  exact r_math_bits_Len64_calls h
theorem lenx : LenX (CallsR Try.prog 54) := fun {M x Q} h1 hQ => by
  obtain ⟨a0, e, h⟩ := lenx_spec (c3 := CallsR Try.prog 67) len64x h1 hQ
  cases e
  exact r_math_bits_Len_calls h
theorem powx : PowX (CallsR Try.prog 72) := fun {M x Q} h0 h1 hQ => by
  obtain ⟨a0, e, h⟩ := pow_spec lenx h0 h1 hQ
  cases e
  exact r_slices_nextPowerOfTwo_calls h
theorem xorx : XorX 30 104 (CallsR Try.prog 73) := fun {M b s r d Q} h0 hQ => by
  obtain ⟨a0, e, h⟩ := xor_spec h0 hQ
  cases e
  exact r_slices_xorshift_Next_calls h
theorem breakx : BreakX 30 (CallsR Try.prog 61) := fun {M b a e d Q} h1 h2 h3 h4 hQ => by
  obtain ⟨a0, a1, a2, e, h⟩ := break_spec powx xorx h1 h2 h3 h4 hQ
  cases e
  exact r_slices_breakPatternsOrdered_uint64_calls h
theorem pdqx : ∀ m, PdqX 30 m (CallsR Try.prog 53)
  | 0 => by intro h1 h2 h3 h4 h5; omega
  | m + 1 => by
    intro h1 h2 h3 h4 h5 h6 hQ
    obtain ⟨a0, a1, a2, a3, e, h⟩ := pdqx_spec insx heapx breakx choosex reversex partInsx less partEqx partx (pdqx m) h1 h2 h3 h4 h5 h6 hQ
    cases e
    exact r_slices_pdqsortOrdered_uint64_calls h
theorem insNil : InsNil (CallsR Try.prog 59) := fun {M v Q} hQ => by
  obtain ⟨a0, a1, a2, e, h⟩ := insNil_spec (cl := CallsR Try.prog 55) (v := v) hQ
  cases e
  exact r_slices_insertionSortOrdered_uint64_calls h
theorem pdqNil : PdqNil (CallsR Try.prog 53) := fun {M v Q} hQ => by
  obtain ⟨a0, a1, a2, a3, e, h⟩ := pdqNil_spec (c2 := CallsR Try.prog 60) (c3 := CallsR Try.prog 61) (cc := CallsR Try.prog 62) (c4 := CallsR Try.prog 63) (cp := CallsR Try.prog 64) (c5 := CallsR Try.prog 55) (c6 := CallsR Try.prog 65) (c7 := CallsR Try.prog 66) (c8 := CallsR Try.prog 53) insNil (v := v) hQ
  cases e
  exact r_slices_pdqsortOrdered_uint64_calls h
theorem sortAny : SortC (fun xs => xs.length ≤ 60000) sortN 30 (CallsR Try.prog 44) := fun {M base v xs Q} h1 h2 hQ => by
  obtain ⟨a0, e, h⟩ := sortN_spec lenx pdqx pdqNil h1 h2 hQ
  cases e
  exact r_slices_Sort_uint64_uint64_calls h
theorem compactAny : CompactC (fun xs => xs.length ≤ 60000) dd 30 (CallsR Try.prog 45) := fun {M base v xs Q} h1 h2 hQ => by
  obtain ⟨a0, e, h⟩ := compactN_spec h1 h2 hQ
  cases e
  exact r_slices_Compact_uint64_uint64_calls h
theorem joinAny : JoinC (fun xs => xs.length ≤ 60000) (fun xs => xs.length ≤ 60000) sortN dd 59 (CallsR Try.prog 24) := fun {M a b ps qs S S' Q} h1 h2 h3 h4 h5 h6 h7 h8 hQ => by
  obtain ⟨a0, a1, e, h⟩ := join_spec (TP := 56) (TL := 51) concat sortAny compactAny settled h1 h2 h3 h4 h5 h6 h7 h8 hQ
  cases e
  exact r_rolodex_dot_Set_Join_calls h
end Go.Proofs.Ytkmkfgepdlkdkaa.dshare
set_option maxRecDepth 100000
set_option linter.unusedVariables false
set_option linter.unusedSimpArgs false
namespace Go.Proofs.Ytkmkfgepdlkdkaa.dotJoins
open Go Go.Ab Go.ChangeShapes Go.WideShapes Go.ChangeAt Go.RowKit

theorem own : ownKnob Try.prog.godebug = none := by kernel_rfl

open Go.Ab.Dot Go.Proofs.Ytkmkfgepdlkdkaa.dshare

def base (w : World) : Base := ⟨w.heap.size, fun _ => True, fun _ _ _ _ => trivial⟩
theorem awake {B : Base} : AwakeC B (CallsR Try.prog 10) := by
  intro M Q hM hQ
  refine CallsR.of_calls (v := Bo true) ⟨Try.f10, _, Try.func10, rfl⟩ (fun ρ w us hus hw => ?_) hQ
  cases hus
  refine (awake_any w).mono fun e w' ⟨h1, h2⟩ => ?_
  subst h1
  exact ⟨_, rfl, h2, .sc _ rfl⟩

theorem walk (w : World) (v0 v1 v2 : Value) (h0 : FitsA Try.prog (RM.old (base w) w) 36 (absA w.heap.size v0)) (h1 : FitsA Try.prog (RM.old (base w) w) 36 (absA w.heap.size v1)) (h2 : FitsA Try.prog (RM.old (base w) w) 36 (absA w.heap.size v2)) :
    Calls Try.prog 5 #[v0, v1, v2] w fun e w' => e = .returned (.bool true) ∧ Below w.heap.size w w' := by
  obtain ⟨u0, l1, e0, hl1, _⟩ := fits_dots (h0.one (by kernel_rfl))
  obtain ⟨u1, l2, e1, hl2, _⟩ := fits_dots (h1.one (by kernel_rfl))
  obtain ⟨u2, l3, e2, hl3, _⟩ := fits_dots (h2.one (by kernel_rfl))
  refine CallsR.close (base := base w) rfl trivial ?_
  simp only [List.map_cons, List.map_nil]
  rw [show absA (base w).n v0 = u0 from (List.cons.inj e0).1, show absA (base w).n v1 = u1 from (List.cons.inj e1).1, show absA (base w).n v2 = u2 from (List.cons.inj e2).1]
  obtain ⟨a0, a1, a2, e, h⟩ := dotJoins_spec (M := RM.old (base w) w) (Q := fun v _ => v = Bo true) (awake (B := base w)) dshare.ofL dshare.refAdd dshare.copy dshare.joinAny dshare.isL dshare.within rfl hl1 hl2 hl3 (fun M' => rfl)
  cases e
  exact r_rolodex_rolodexlaw13_DotJoins_calls h

set_option maxRecDepth 100000 in
theorem lifted (os : Os) (started : os.Started) (H : Type) (enc : TypeId × Value → H) :
    ReturnsInHanded {} Try.checked os 5 .any (Rows.dotJoinsSpec.pre6 enc Try.prog Try.f5 Rows.dotJoinsRow.domain false) (Rows.dotJoinsSpec.post enc Try.prog Try.f5 false true false false) := by
  refine returnsInHanded_of_change_sized (C := Try.checked) own started (by kernel_rfl) Try.func5
    (ChangeSpec.witness6 (enc := enc) (C := Try.checked) false ⟨#[], #[.slice none 0 0, .slice none 0 0, .slice none 0 0], []⟩ 8 (by kernel_rfl) (by kernel_rfl) (by kernel_rfl) (by kernel_rfl)) ?_
  intro W b0 args ds gs before hval hW hcnd hwt _
  have hW' := hW
  obtain ⟨p, q, hA, hV, rfl, hfz, hnd⟩ := hW
  rw [Try.params5] at hA hwt
  obtain ⟨rfl, rfl⟩ := trodVars_none hV
  have hfit := fits_all (base := base W) rfl hA (fun j t v hj hv => hval j t v (by rw [Try.params5]; simpa using hj) (by simpa using hv)) (fun y hy => by
    have hwt2 : (DataW.weightsEach Try.prog [36, 36, 36] (ds ++ [])).all (· ≤ reachBytes) = true := hwt
    have := List.all_eq_true.1 hwt2 y (by rw [List.append_nil]; exact hy)
    simpa using this)
  simp only [List.append_nil] at hW'
  have hlt : ∀ x ∈ p, x.block < W.heap.size := fun x hx => hW'.lt x hx
  obtain ⟨v0, v1, v2, d0, d1, d2, p0, p1, p2, rfl, rfl, rfl, h0, h1, h2⟩ := trodAll_three hA
  refine (walk W v0 v1 v2 (hfit 0 _ _ rfl rfl) (hfit 1 _ _ rfl rfl) (hfit 2 _ _ rfl rfl)).mono fun e W' ⟨he, hg⟩ => ?_
  subst he
  exact ⟨_, rfl, post_of_below (pa := _) (pv := []) hW' (fun _ _ _ => (trodAll_cons_mk (shut_bool Try.underlying4 _) trodAll_mk0)) (fun sp hsp => by
      rw [Try.params5]
      exact trodAll_stays (by kernel_rfl) hg (fun t ht => by
        have ht : t = 36 ∨ t = 36 ∨ t = 36 := by simpa using ht
        rcases ht with rfl | rfl | rfl <;> exact ⟨by kernel_rfl, of_decide_eq_true (by kernel_rfl)⟩) hA hlt hsp) (fun _ _ => rfl) (by simp)
    hg (ok_one (by kernel_rfl) rfl (okWide_bool_mk Try.underlying4 _))⟩

theorem over : Rows.dotJoinsRow.holds Try.pinned (OpenSpec.ofChange Rows.dotJoinsSpec) :=
  OpenClaim.holds_of_wide 5 Try.f5 rfl rfl rfl rfl rfl rfl rfl ⟨rfl, rfl, rfl, rfl, rfl⟩ rfl rfl rfl rfl rfl (by kernel_rfl) Try.func5 (by kernel_rfl)
    (of_decide_eq_true (by kernel_rfl)) (by unfold Func.isWrapper; first | (rw [if_pos (by decide +kernel)]; kernel_rfl) | (rw [if_neg (by decide +kernel)]; exact ⟨rfl, rfl⟩))
    (fun os started H enc _ => lifted os started H enc)

theorem proved : Rows.DotJoinsSaid :=
  over
end Go.Proofs.Ytkmkfgepdlkdkaa.dotJoins
