/- 'CrdtGrows' returns true for all arguments: what a state has seen only grows, by events and by joins; a join with what is already in changes nothing. No condition. By an AI agent. -/
import Derived.Test.YtlhlnchhaminjaaGreatGro6
import Derived.KernelRfl
import Derived.Test.YtlhlnchhaminjaaGreatProg
import Derived.Test.YtlhlnchhaminjaaGreatRows
import Derived.SizedLaws
import Derived.JoinedOf
import Derived.Carry
import Derived.WalkKit
import Derived.ProofKit
import Derived.OpenShut
set_option maxRecDepth 100000
set_option linter.unusedVariables false
set_option linter.unusedSimpArgs false
namespace Go.Proofs.YtlhlnchhaminjaaGreat
open Go Go.Ab
theorem pok : POk Tryz.prog := ⟨names_of (by kernel_rfl), by kernel_rfl⟩
theorem r_CrdtGrows : ∀ (a0 a1 : AV) (M : RM) (Q : PostV), Go.Ab.Crw.W_CrdtGrows (CallsR Tryz.prog 10) (CallsR Tryz.prog 19) (CallsR Tryz.prog 21) (CallsR Tryz.prog 11) (CallsR Tryz.prog 32) (CallsR Tryz.prog 14) (CallsR Tryz.prog 33) (CallsR Tryz.prog 25) (CallsR Tryz.prog 26) (CallsR Tryz.prog 24) a0 a1 M Q = wpBodyO Tryz.prog Tryz.f9 [a0, a1] M Q := by
  intros; kernel_rfl
theorem r_CrdtGrows_calls {a0 a1 : AV} {M : RM} {Q : PostV} (h : Go.Ab.Crw.W_CrdtGrows (CallsR Tryz.prog 10) (CallsR Tryz.prog 19) (CallsR Tryz.prog 21) (CallsR Tryz.prog 11) (CallsR Tryz.prog 32) (CallsR Tryz.prog 14) (CallsR Tryz.prog 33) (CallsR Tryz.prog 25) (CallsR Tryz.prog 26) (CallsR Tryz.prog 24) a0 a1 M Q) : CallsR Tryz.prog 9 [a0, a1] M Q := callsR_of pok (fn := Tryz.f9) (by kernel_rfl) (r_CrdtGrows a0 a1 M Q ▸ h)
theorem r_New : ∀  (M : RM) (Q : PostV), Go.Ab.Crw.W_New (CallsR Tryz.prog 38) 75  M Q = wpBodyO Tryz.prog Tryz.f11 [] M Q := by
  intros; kernel_rfl
theorem r_New_calls  {M : RM} {Q : PostV} (h : Go.Ab.Crw.W_New (CallsR Tryz.prog 38) 75  M Q) : CallsR Tryz.prog 11 [] M Q := callsR_of pok (fn := Tryz.f11) (by kernel_rfl) (r_New  M Q ▸ h)
theorem r_State_Apply : ∀ (a0 a1 : AV) (M : RM) (Q : PostV), Go.Ab.Crw.W_State_Apply 30 (CallsR Tryz.prog 17) (CallsR Tryz.prog 41) 27 (CallsR Tryz.prog 42) (CallsR Tryz.prog 37) 58 (CallsR Tryz.prog 43) (CallsR Tryz.prog 44) 45 47 (CallsR Tryz.prog 46) (CallsR Tryz.prog 33) (CallsR Tryz.prog 49) a0 a1 M Q = wpBodyO Tryz.prog Tryz.f14 [a0, a1] M Q := by
  intros; kernel_rfl
theorem r_State_Apply_calls {a0 a1 : AV} {M : RM} {Q : PostV} (h : Go.Ab.Crw.W_State_Apply 30 (CallsR Tryz.prog 17) (CallsR Tryz.prog 41) 27 (CallsR Tryz.prog 42) (CallsR Tryz.prog 37) 58 (CallsR Tryz.prog 43) (CallsR Tryz.prog 44) 45 47 (CallsR Tryz.prog 46) (CallsR Tryz.prog 33) (CallsR Tryz.prog 49) a0 a1 M Q) : CallsR Tryz.prog 14 [a0, a1] M Q := callsR_of pok (fn := Tryz.f14) (by kernel_rfl) (r_State_Apply a0 a1 M Q ▸ h)
theorem r_Good : ∀ (a0 : AV) (M : RM) (Q : PostV), Go.Ab.Crw.W_Good 30 (CallsR Tryz.prog 58) (CallsR Tryz.prog 59) 27 (CallsR Tryz.prog 60) a0 M Q = wpBodyO Tryz.prog Tryz.f17 [a0] M Q := by
  intros; kernel_rfl
theorem r_Good_calls {a0 : AV} {M : RM} {Q : PostV} (h : Go.Ab.Crw.W_Good 30 (CallsR Tryz.prog 58) (CallsR Tryz.prog 59) 27 (CallsR Tryz.prog 60) a0 M Q) : CallsR Tryz.prog 17 [a0] M Q := callsR_of pok (fn := Tryz.f17) (by kernel_rfl) (r_Good a0 M Q ▸ h)
theorem r_own : ∀ (a0 : AV) (M : RM) (Q : PostV), Go.Ab.Crw.W_own 30 (CallsR Tryz.prog 20) a0 M Q = wpBodyO Tryz.prog Tryz.f19 [a0] M Q := by
  intros; kernel_rfl
theorem r_own_calls {a0 : AV} {M : RM} {Q : PostV} (h : Go.Ab.Crw.W_own 30 (CallsR Tryz.prog 20) a0 M Q) : CallsR Tryz.prog 19 [a0] M Q := callsR_of pok (fn := Tryz.f19) (by kernel_rfl) (r_own a0 M Q ▸ h)
theorem r_GoodEvent : ∀ (a0 : AV) (M : RM) (Q : PostV), Go.Ab.Crw.W_GoodEvent 30 (CallsR Tryz.prog 61) (CallsR Tryz.prog 62) a0 M Q = wpBodyO Tryz.prog Tryz.f20 [a0] M Q := by
  intros; kernel_rfl
theorem r_GoodEvent_calls {a0 : AV} {M : RM} {Q : PostV} (h : Go.Ab.Crw.W_GoodEvent 30 (CallsR Tryz.prog 61) (CallsR Tryz.prog 62) a0 M Q) : CallsR Tryz.prog 20 [a0] M Q := callsR_of pok (fn := Tryz.f20) (by kernel_rfl) (r_GoodEvent a0 M Q ▸ h)
theorem r_state : ∀ (a0 a1 a2 : AV) (M : RM) (Q : PostV), Go.Ab.Crw.W_state (CallsR Tryz.prog 11) (CallsR Tryz.prog 14) a0 a1 a2 M Q = wpBodyO Tryz.prog Tryz.f21 [a0, a1, a2] M Q := by
  intros; kernel_rfl
theorem r_state_calls {a0 a1 a2 : AV} {M : RM} {Q : PostV} (h : Go.Ab.Crw.W_state (CallsR Tryz.prog 11) (CallsR Tryz.prog 14) a0 a1 a2 M Q) : CallsR Tryz.prog 21 [a0, a1, a2] M Q := callsR_of pok (fn := Tryz.f21) (by kernel_rfl) (r_state a0 a1 a2 M Q ▸ h)
theorem r_State_Same : ∀ (a0 a1 : AV) (M : RM) (Q : PostV), Go.Ab.Crw.W_State_Same (CallsR Tryz.prog 49) (CallsR Tryz.prog 33) a0 a1 M Q = wpBodyO Tryz.prog Tryz.f24 [a0, a1] M Q := by
  intros; kernel_rfl
theorem r_State_Same_calls {a0 a1 : AV} {M : RM} {Q : PostV} (h : Go.Ab.Crw.W_State_Same (CallsR Tryz.prog 49) (CallsR Tryz.prog 33) a0 a1 M Q) : CallsR Tryz.prog 24 [a0, a1] M Q := callsR_of pok (fn := Tryz.f24) (by kernel_rfl) (r_State_Same a0 a1 M Q ▸ h)
theorem r_State_Copy : ∀ (a0 : AV) (M : RM) (Q : PostV), Go.Ab.Crw.W_State_Copy (CallsR Tryz.prog 41) (CallsR Tryz.prog 43) 75 a0 M Q = wpBodyO Tryz.prog Tryz.f25 [a0] M Q := by
  intros; kernel_rfl
theorem r_State_Copy_calls {a0 : AV} {M : RM} {Q : PostV} (h : Go.Ab.Crw.W_State_Copy (CallsR Tryz.prog 41) (CallsR Tryz.prog 43) 75 a0 M Q) : CallsR Tryz.prog 25 [a0] M Q := callsR_of pok (fn := Tryz.f25) (by kernel_rfl) (r_State_Copy a0 M Q ▸ h)
theorem r_State_Join : ∀ (a0 a1 : AV) (M : RM) (Q : PostV), Go.Ab.Crw.W_State_Join 58 (CallsR Tryz.prog 72) (CallsR Tryz.prog 37) (CallsR Tryz.prog 44) 45 (CallsR Tryz.prog 73) a0 a1 M Q = wpBodyO Tryz.prog Tryz.f26 [a0, a1] M Q := by
  intros; kernel_rfl
theorem r_State_Join_calls {a0 a1 : AV} {M : RM} {Q : PostV} (h : Go.Ab.Crw.W_State_Join 58 (CallsR Tryz.prog 72) (CallsR Tryz.prog 37) (CallsR Tryz.prog 44) 45 (CallsR Tryz.prog 73) a0 a1 M Q) : CallsR Tryz.prog 26 [a0, a1] M Q := callsR_of pok (fn := Tryz.f26) (by kernel_rfl) (r_State_Join a0 a1 M Q ▸ h)
theorem r_State_Seen : ∀ (a0 : AV) (M : RM) (Q : PostV), Go.Ab.Crw.W_State_Seen (CallsR Tryz.prog 41) a0 M Q = wpBodyO Tryz.prog Tryz.f32 [a0] M Q := by
  intros; kernel_rfl
theorem r_State_Seen_calls {a0 : AV} {M : RM} {Q : PostV} (h : Go.Ab.Crw.W_State_Seen (CallsR Tryz.prog 41) a0 M Q) : CallsR Tryz.prog 32 [a0] M Q := callsR_of pok (fn := Tryz.f32) (by kernel_rfl) (r_State_Seen a0 M Q ▸ h)
theorem r_Set_Within : ∀ (a0 a1 : AV) (M : RM) (Q : PostV), Go.Ab.Dot.W_Set_Within 111 (CallsR Tryz.prog 77) a0 a1 M Q = wpBodyO Tryz.prog Tryz.f33 [a0, a1] M Q := by
  intros; kernel_rfl
theorem r_Set_Within_calls {a0 a1 : AV} {M : RM} {Q : PostV} (h : Go.Ab.Dot.W_Set_Within 111 (CallsR Tryz.prog 77) a0 a1 M Q) : CallsR Tryz.prog 33 [a0, a1] M Q := callsR_of pok (fn := Tryz.f33) (by kernel_rfl) (r_Set_Within a0 a1 M Q ▸ h)
theorem r_Set_Has : ∀ (a0 a1 : AV) (M : RM) (Q : PostV), Go.Ab.Dot.W_Set_Has 27 (CallsR Tryz.prog 58) (CallsR Tryz.prog 77) a0 a1 M Q = wpBodyO Tryz.prog Tryz.f37 [a0, a1] M Q := by
  intros; kernel_rfl
theorem r_Set_Has_calls {a0 a1 : AV} {M : RM} {Q : PostV} (h : Go.Ab.Dot.W_Set_Has 27 (CallsR Tryz.prog 58) (CallsR Tryz.prog 77) a0 a1 M Q) : CallsR Tryz.prog 37 [a0, a1] M Q := callsR_of pok (fn := Tryz.f37) (by kernel_rfl) (r_Set_Has a0 a1 M Q ▸ h)
theorem r_New_2 : ∀  (M : RM) (Q : PostV), Go.Ab.Dot.W_New_2 114  M Q = wpBodyO Tryz.prog Tryz.f38 [] M Q := by
  intros; kernel_rfl
theorem r_New_2_calls  {M : RM} {Q : PostV} (h : Go.Ab.Dot.W_New_2 114  M Q) : CallsR Tryz.prog 38 [] M Q := callsR_of pok (fn := Tryz.f38) (by kernel_rfl) (r_New_2  M Q ▸ h)
theorem r_Set_Copy : ∀ (a0 : AV) (M : RM) (Q : PostV), Go.Ab.Dot.W_Set_Copy (CallsR Tryz.prog 38) (CallsR Tryz.prog 73) a0 M Q = wpBodyO Tryz.prog Tryz.f41 [a0] M Q := by
  intros; kernel_rfl
theorem r_Set_Copy_calls {a0 : AV} {M : RM} {Q : PostV} (h : Go.Ab.Dot.W_Set_Copy (CallsR Tryz.prog 38) (CallsR Tryz.prog 73) a0 M Q) : CallsR Tryz.prog 41 [a0] M Q := callsR_of pok (fn := Tryz.f41) (by kernel_rfl) (r_Set_Copy a0 M Q ▸ h)
theorem r_Set_Add : ∀ (a0 a1 : AV) (M : RM) (Q : PostV), Go.Ab.Dot.W_Set_Add 27 (CallsR Tryz.prog 58) (CallsR Tryz.prog 81) a0 a1 M Q = wpBodyO Tryz.prog Tryz.f42 [a0, a1] M Q := by
  intros; kernel_rfl
theorem r_Set_Add_calls {a0 a1 : AV} {M : RM} {Q : PostV} (h : Go.Ab.Dot.W_Set_Add 27 (CallsR Tryz.prog 58) (CallsR Tryz.prog 81) a0 a1 M Q) : CallsR Tryz.prog 42 [a0, a1] M Q := callsR_of pok (fn := Tryz.f42) (by kernel_rfl) (r_Set_Add a0 a1 M Q ▸ h)
theorem r_Clone_Entry : ∀ (a0 : AV) (M : RM) (Q : PostV), Go.Ab.Crw.W_Clone_Entry 58 a0 M Q = wpBodyO Tryz.prog Tryz.f43 [a0] M Q := by
  intros; kernel_rfl
theorem r_Clone_Entry_calls {a0 : AV} {M : RM} {Q : PostV} (h : Go.Ab.Crw.W_Clone_Entry 58 a0 M Q) : CallsR Tryz.prog 43 [a0] M Q := callsR_of pok (fn := Tryz.f43) (by kernel_rfl) (r_Clone_Entry a0 M Q ▸ h)
theorem r_SortFunc_Entry : ∀ (a0 a1 : AV) (M : RM) (Q : PostV), Go.Ab.Crw.W_SortFunc_Entry (CallsR Tryz.prog 83) (CallsR Tryz.prog 82) a0 a1 M Q = wpBodyO Tryz.prog Tryz.f44 [a0, a1] M Q := by
  intros; kernel_rfl
theorem r_SortFunc_Entry_calls {a0 a1 : AV} {M : RM} {Q : PostV} (h : Go.Ab.Crw.W_SortFunc_Entry (CallsR Tryz.prog 83) (CallsR Tryz.prog 82) a0 a1 M Q) : CallsR Tryz.prog 44 [a0, a1] M Q := callsR_of pok (fn := Tryz.f44) (by kernel_rfl) (r_SortFunc_Entry a0 a1 M Q ▸ h)
theorem r_compare : ∀ (a0 a1 : AV) (M : RM) (Q : PostV), Go.Ab.Crw.W_compare 58 (CallsR Tryz.prog 85) (CallsR Tryz.prog 80) 3 (CallsR Tryz.prog 84) a0 a1 M Q = wpBodyO Tryz.prog Tryz.f45 [a0, a1] M Q := by
  intros; kernel_rfl
theorem r_compare_calls {a0 a1 : AV} {M : RM} {Q : PostV} (h : Go.Ab.Crw.W_compare 58 (CallsR Tryz.prog 85) (CallsR Tryz.prog 80) 3 (CallsR Tryz.prog 84) a0 a1 M Q) : CallsR Tryz.prog 45 [a0, a1] M Q := callsR_of pok (fn := Tryz.f45) (by kernel_rfl) (r_compare a0 a1 M Q ▸ h)
theorem r_DeleteFunc_Entry : ∀ (a0 a1 : AV) (M : RM) (Q : PostV), Go.Ab.Crw.W_DeleteFunc_Entry (CallsR Tryz.prog 86) 58 (CallsR Tryz.prog) a0 a1 M Q = wpBodyO Tryz.prog Tryz.f46 [a0, a1] M Q := by
  intros; kernel_rfl
theorem r_DeleteFunc_Entry_calls {a0 a1 : AV} {M : RM} {Q : PostV} (h : Go.Ab.Crw.W_DeleteFunc_Entry (CallsR Tryz.prog 86) 58 (CallsR Tryz.prog) a0 a1 M Q) : CallsR Tryz.prog 46 [a0, a1] M Q := callsR_of pok (fn := Tryz.f46) (by kernel_rfl) (r_DeleteFunc_Entry a0 a1 M Q ▸ h)
theorem r_State_Apply_1 : ∀ (a0 a1 : AV) (M : RM) (Q : PostV), Go.Ab.Crw.W_State_Apply_1 58 (CallsR Tryz.prog 48) a0 a1 M Q = wpBodyO Tryz.prog Tryz.f47 [a0, a1] M Q := by
  intros; kernel_rfl
theorem r_State_Apply_1_calls {a0 a1 : AV} {M : RM} {Q : PostV} (h : Go.Ab.Crw.W_State_Apply_1 58 (CallsR Tryz.prog 48) a0 a1 M Q) : CallsR Tryz.prog 47 [a0, a1] M Q := callsR_of pok (fn := Tryz.f47) (by kernel_rfl) (r_State_Apply_1 a0 a1 M Q ▸ h)
theorem r_Contains_Dot : ∀ (a0 a1 : AV) (M : RM) (Q : PostV), Go.Ab.Crw.W_Contains_Dot 27 (CallsR Tryz.prog 87) a0 a1 M Q = wpBodyO Tryz.prog Tryz.f48 [a0, a1] M Q := by
  intros; kernel_rfl
theorem r_Contains_Dot_calls {a0 a1 : AV} {M : RM} {Q : PostV} (h : Go.Ab.Crw.W_Contains_Dot 27 (CallsR Tryz.prog 87) a0 a1 M Q) : CallsR Tryz.prog 48 [a0, a1] M Q := callsR_of pok (fn := Tryz.f48) (by kernel_rfl) (r_Contains_Dot a0 a1 M Q ▸ h)
theorem r_Equal_Entry : ∀ (a0 a1 : AV) (M : RM) (Q : PostV), Go.Ab.Crw.W_Equal_Entry a0 a1 M Q = wpBodyO Tryz.prog Tryz.f49 [a0, a1] M Q := by
  intros; kernel_rfl
theorem r_Equal_Entry_calls {a0 a1 : AV} {M : RM} {Q : PostV} (h : Go.Ab.Crw.W_Equal_Entry a0 a1 M Q) : CallsR Tryz.prog 49 [a0, a1] M Q := callsR_of pok (fn := Tryz.f49) (by kernel_rfl) (r_Equal_Entry a0 a1 M Q ▸ h)
theorem r_Good_2 : ∀ (a0 : AV) (M : RM) (Q : PostV), Go.Ab.Dot.W_Good_2 27 a0 M Q = wpBodyO Tryz.prog Tryz.f58 [a0] M Q := by
  intros; kernel_rfl
theorem r_Good_2_calls {a0 : AV} {M : RM} {Q : PostV} (h : Go.Ab.Dot.W_Good_2 27 a0 M Q) : CallsR Tryz.prog 58 [a0] M Q := callsR_of pok (fn := Tryz.f58) (by kernel_rfl) (r_Good_2 a0 M Q ▸ h)
theorem r_goodNames : ∀ (a0 a1 a2 : AV) (M : RM) (Q : PostV), Go.Ab.Crw.W_goodNames a0 a1 a2 M Q = wpBodyO Tryz.prog Tryz.f59 [a0, a1, a2] M Q := by
  intros; kernel_rfl
theorem r_goodNames_calls {a0 a1 a2 : AV} {M : RM} {Q : PostV} (h : Go.Ab.Crw.W_goodNames a0 a1 a2 M Q) : CallsR Tryz.prog 59 [a0, a1, a2] M Q := callsR_of pok (fn := Tryz.f59) (by kernel_rfl) (r_goodNames a0 a1 a2 M Q ▸ h)
theorem r_Less : ∀ (a0 a1 : AV) (M : RM) (Q : PostV), Go.Ab.Dot.W_Less 27 a0 a1 M Q = wpBodyO Tryz.prog Tryz.f60 [a0, a1] M Q := by
  intros; kernel_rfl
theorem r_Less_calls {a0 a1 : AV} {M : RM} {Q : PostV} (h : Go.Ab.Dot.W_Less 27 a0 a1 M Q) : CallsR Tryz.prog 60 [a0, a1] M Q := callsR_of pok (fn := Tryz.f60) (by kernel_rfl) (r_Less a0 a1 M Q ▸ h)
theorem r_Good_3 : ∀ (a0 : AV) (M : RM) (Q : PostV), Go.Ab.Dot.W_Good_3 27 a0 M Q = wpBodyO Tryz.prog Tryz.f61 [a0] M Q := by
  intros; kernel_rfl
theorem r_Good_3_calls {a0 : AV} {M : RM} {Q : PostV} (h : Go.Ab.Dot.W_Good_3 27 a0 M Q) : CallsR Tryz.prog 61 [a0] M Q := callsR_of pok (fn := Tryz.f61) (by kernel_rfl) (r_Good_3 a0 M Q ▸ h)
theorem r_Less_2 : ∀ (a0 a1 : AV) (M : RM) (Q : PostV), Go.Ab.Dot.W_Less_2 27 a0 a1 M Q = wpBodyO Tryz.prog Tryz.f62 [a0, a1] M Q := by
  intros; kernel_rfl
theorem r_Less_2_calls {a0 a1 : AV} {M : RM} {Q : PostV} (h : Go.Ab.Dot.W_Less_2 27 a0 a1 M Q) : CallsR Tryz.prog 62 [a0, a1] M Q := callsR_of pok (fn := Tryz.f62) (by kernel_rfl) (r_Less_2 a0 a1 M Q ▸ h)
theorem r_State_has : ∀ (a0 a1 : AV) (M : RM) (Q : PostV), Go.Ab.Crw.W_State_has 58 (CallsR Tryz.prog 95) 45 a0 a1 M Q = wpBodyO Tryz.prog Tryz.f72 [a0, a1] M Q := by
  intros; kernel_rfl
theorem r_State_has_calls {a0 a1 : AV} {M : RM} {Q : PostV} (h : Go.Ab.Crw.W_State_has 58 (CallsR Tryz.prog 95) 45 a0 a1 M Q) : CallsR Tryz.prog 72 [a0, a1] M Q := callsR_of pok (fn := Tryz.f72) (by kernel_rfl) (r_State_has a0 a1 M Q ▸ h)
theorem r_Set_Join : ∀ (a0 a1 : AV) (M : RM) (Q : PostV), Go.Ab.Dot.W_Set_Join 111 109 (CallsR Tryz.prog 96) (CallsR Tryz.prog 97) (CallsR Tryz.prog 98) (CallsR Tryz.prog 99) a0 a1 M Q = wpBodyO Tryz.prog Tryz.f73 [a0, a1] M Q := by
  intros; kernel_rfl
theorem r_Set_Join_calls {a0 a1 : AV} {M : RM} {Q : PostV} (h : Go.Ab.Dot.W_Set_Join 111 109 (CallsR Tryz.prog 96) (CallsR Tryz.prog 97) (CallsR Tryz.prog 98) (CallsR Tryz.prog 99) a0 a1 M Q) : CallsR Tryz.prog 73 [a0, a1] M Q := callsR_of pok (fn := Tryz.f73) (by kernel_rfl) (r_Set_Join a0 a1 M Q ▸ h)
theorem r_part_has : ∀ (a0 a1 : AV) (M : RM) (Q : PostV), Go.Ab.Dot.W_part_has (CallsR Tryz.prog 103) a0 a1 M Q = wpBodyO Tryz.prog Tryz.f77 [a0, a1] M Q := by
  intros; kernel_rfl
theorem r_part_has_calls {a0 a1 : AV} {M : RM} {Q : PostV} (h : Go.Ab.Dot.W_part_has (CallsR Tryz.prog 103) a0 a1 M Q) : CallsR Tryz.prog 77 [a0, a1] M Q := callsR_of pok (fn := Tryz.f77) (by kernel_rfl) (r_part_has a0 a1 M Q ▸ h)
theorem r_byDot : ∀ (a0 a1 : AV) (M : RM) (Q : PostV), Go.Ab.Crw.W_byDot 27 (CallsR Tryz.prog 105) (CallsR Tryz.prog 106) 3 (CallsR Tryz.prog 84) a0 a1 M Q = wpBodyO Tryz.prog Tryz.f80 [a0, a1] M Q := by
  intros; kernel_rfl
theorem r_byDot_calls {a0 a1 : AV} {M : RM} {Q : PostV} (h : Go.Ab.Crw.W_byDot 27 (CallsR Tryz.prog 105) (CallsR Tryz.prog 106) 3 (CallsR Tryz.prog 84) a0 a1 M Q) : CallsR Tryz.prog 80 [a0, a1] M Q := callsR_of pok (fn := Tryz.f80) (by kernel_rfl) (r_byDot a0 a1 M Q ▸ h)
theorem r_part_add : ∀ (a0 a1 : AV) (M : RM) (Q : PostV), Go.Ab.Dot.W_part_add (CallsR Tryz.prog 103) 25 111 (CallsR Tryz.prog 108) (CallsR Tryz.prog 107) (CallsR Tryz.prog 99) a0 a1 M Q = wpBodyO Tryz.prog Tryz.f81 [a0, a1] M Q := by
  intros; kernel_rfl
theorem r_part_add_calls {a0 a1 : AV} {M : RM} {Q : PostV} (h : Go.Ab.Dot.W_part_add (CallsR Tryz.prog 103) 25 111 (CallsR Tryz.prog 108) (CallsR Tryz.prog 107) (CallsR Tryz.prog 99) a0 a1 M Q) : CallsR Tryz.prog 81 [a0, a1] M Q := callsR_of pok (fn := Tryz.f81) (by kernel_rfl) (r_part_add a0 a1 M Q ▸ h)
theorem r_pdqsortCmpFunc_Entry : ∀ (a0 a1 a2 a3 a4 : AV) (M : RM) (Q : PostV), Go.Ab.Crw.W_pdqsortCmpFunc_Entry (CallsR Tryz.prog 109) (CallsR Tryz.prog 110) (CallsR Tryz.prog 111) (CallsR Tryz.prog 112) (CallsR Tryz.prog 113) (CallsR Tryz.prog 114) (CallsR Tryz.prog) (CallsR Tryz.prog 115) (CallsR Tryz.prog 116) (CallsR Tryz.prog 82) a0 a1 a2 a3 a4 M Q = wpBodyO Tryz.prog Tryz.f82 [a0, a1, a2, a3, a4] M Q := by
  intros; kernel_rfl
theorem r_pdqsortCmpFunc_Entry_calls {a0 a1 a2 a3 a4 : AV} {M : RM} {Q : PostV} (h : Go.Ab.Crw.W_pdqsortCmpFunc_Entry (CallsR Tryz.prog 109) (CallsR Tryz.prog 110) (CallsR Tryz.prog 111) (CallsR Tryz.prog 112) (CallsR Tryz.prog 113) (CallsR Tryz.prog 114) (CallsR Tryz.prog) (CallsR Tryz.prog 115) (CallsR Tryz.prog 116) (CallsR Tryz.prog 82) a0 a1 a2 a3 a4 M Q) : CallsR Tryz.prog 82 [a0, a1, a2, a3, a4] M Q := callsR_of pok (fn := Tryz.f82) (by kernel_rfl) (r_pdqsortCmpFunc_Entry a0 a1 a2 a3 a4 M Q ▸ h)
theorem r_math_bits_Len : ∀ (a0 : AV) (M : RM) (Q : PostV), Go.Ab.Dot.W_math_bits_Len (CallsR Tryz.prog 117) (CallsR Tryz.prog 118) a0 M Q = wpBodyO Tryz.prog Tryz.f83 [a0] M Q := by
  intros; kernel_rfl
theorem r_math_bits_Len_calls {a0 : AV} {M : RM} {Q : PostV} (h : Go.Ab.Dot.W_math_bits_Len (CallsR Tryz.prog 117) (CallsR Tryz.prog 118) a0 M Q) : CallsR Tryz.prog 83 [a0] M Q := callsR_of pok (fn := Tryz.f83) (by kernel_rfl) (r_math_bits_Len a0 M Q ▸ h)
theorem r_Or_int : ∀ (a0 : AV) (M : RM) (Q : PostV), Go.Ab.Crw.W_Or_int a0 M Q = wpBodyO Tryz.prog Tryz.f84 [a0] M Q := by
  intros; kernel_rfl
theorem r_Or_int_calls {a0 : AV} {M : RM} {Q : PostV} (h : Go.Ab.Crw.W_Or_int a0 M Q) : CallsR Tryz.prog 84 [a0] M Q := callsR_of pok (fn := Tryz.f84) (by kernel_rfl) (r_Or_int a0 M Q ▸ h)
theorem r_Compare_string : ∀ (a0 a1 : AV) (M : RM) (Q : PostV), Go.Ab.Crw.W_Compare_string (CallsR Tryz.prog 119) a0 a1 M Q = wpBodyO Tryz.prog Tryz.f85 [a0, a1] M Q := by
  intros; kernel_rfl
theorem r_Compare_string_calls {a0 a1 : AV} {M : RM} {Q : PostV} (h : Go.Ab.Crw.W_Compare_string (CallsR Tryz.prog 119) a0 a1 M Q) : CallsR Tryz.prog 85 [a0, a1] M Q := callsR_of pok (fn := Tryz.f85) (by kernel_rfl) (r_Compare_string a0 a1 M Q ▸ h)
theorem r_IndexFunc_Entry : ∀ (a0 a1 : AV) (M : RM) (Q : PostV), Go.Ab.Crw.W_IndexFunc_Entry (CallsR Tryz.prog) a0 a1 M Q = wpBodyO Tryz.prog Tryz.f86 [a0, a1] M Q := by
  intros; kernel_rfl
theorem r_IndexFunc_Entry_calls {a0 a1 : AV} {M : RM} {Q : PostV} (h : Go.Ab.Crw.W_IndexFunc_Entry (CallsR Tryz.prog) a0 a1 M Q) : CallsR Tryz.prog 86 [a0, a1] M Q := callsR_of pok (fn := Tryz.f86) (by kernel_rfl) (r_IndexFunc_Entry a0 a1 M Q ▸ h)
theorem r_Index_Dot : ∀ (a0 a1 : AV) (M : RM) (Q : PostV), Go.Ab.Crw.W_Index_Dot 27 a0 a1 M Q = wpBodyO Tryz.prog Tryz.f87 [a0, a1] M Q := by
  intros; kernel_rfl
theorem r_Index_Dot_calls {a0 a1 : AV} {M : RM} {Q : PostV} (h : Go.Ab.Crw.W_Index_Dot 27 a0 a1 M Q) : CallsR Tryz.prog 87 [a0, a1] M Q := callsR_of pok (fn := Tryz.f87) (by kernel_rfl) (r_Index_Dot a0 a1 M Q ▸ h)
theorem r_BinarySearchFunc_Entry : ∀ (a0 a1 a2 : AV) (M : RM) (Q : PostV), Go.Ab.Crw.W_BinarySearchFunc_Entry 58 (CallsR Tryz.prog) a0 a1 a2 M Q = wpBodyO Tryz.prog Tryz.f95 [a0, a1, a2] M Q := by
  intros; kernel_rfl
theorem r_BinarySearchFunc_Entry_calls {a0 a1 a2 : AV} {M : RM} {Q : PostV} (h : Go.Ab.Crw.W_BinarySearchFunc_Entry 58 (CallsR Tryz.prog) a0 a1 a2 M Q) : CallsR Tryz.prog 95 [a0, a1, a2] M Q := callsR_of pok (fn := Tryz.f95) (by kernel_rfl) (r_BinarySearchFunc_Entry a0 a1 a2 M Q ▸ h)
theorem r_Concat_uint64 : ∀ (a0 : AV) (M : RM) (Q : PostV), Go.Ab.Dot.W_Concat_uint64 9 (CallsR Tryz.prog 122) 25 a0 M Q = wpBodyO Tryz.prog Tryz.f96 [a0] M Q := by
  intros; kernel_rfl
theorem r_Concat_uint64_calls {a0 : AV} {M : RM} {Q : PostV} (h : Go.Ab.Dot.W_Concat_uint64 9 (CallsR Tryz.prog 122) 25 a0 M Q) : CallsR Tryz.prog 96 [a0] M Q := callsR_of pok (fn := Tryz.f96) (by kernel_rfl) (r_Concat_uint64 a0 M Q ▸ h)
theorem r_Sort_uint64 : ∀ (a0 : AV) (M : RM) (Q : PostV), Go.Ab.Dot.W_Sort_uint64 (CallsR Tryz.prog 83) (CallsR Tryz.prog 123) a0 M Q = wpBodyO Tryz.prog Tryz.f97 [a0] M Q := by
  intros; kernel_rfl
theorem r_Sort_uint64_calls {a0 : AV} {M : RM} {Q : PostV} (h : Go.Ab.Dot.W_Sort_uint64 (CallsR Tryz.prog 83) (CallsR Tryz.prog 123) a0 M Q) : CallsR Tryz.prog 97 [a0] M Q := callsR_of pok (fn := Tryz.f97) (by kernel_rfl) (r_Sort_uint64 a0 M Q ▸ h)
theorem r_Compact_uint64 : ∀ (a0 : AV) (M : RM) (Q : PostV), Go.Ab.Dot.W_Compact_uint64 a0 M Q = wpBodyO Tryz.prog Tryz.f98 [a0] M Q := by
  intros; kernel_rfl
theorem r_Compact_uint64_calls {a0 : AV} {M : RM} {Q : PostV} (h : Go.Ab.Dot.W_Compact_uint64 a0 M Q) : CallsR Tryz.prog 98 [a0] M Q := callsR_of pok (fn := Tryz.f98) (by kernel_rfl) (r_Compact_uint64 a0 M Q ▸ h)
theorem r_part_settled : ∀ (a0 : AV) (M : RM) (Q : PostV), Go.Ab.Dot.W_part_settled a0 M Q = wpBodyO Tryz.prog Tryz.f99 [a0] M Q := by
  intros; kernel_rfl
theorem r_part_settled_calls {a0 : AV} {M : RM} {Q : PostV} (h : Go.Ab.Dot.W_part_settled a0 M Q) : CallsR Tryz.prog 99 [a0] M Q := callsR_of pok (fn := Tryz.f99) (by kernel_rfl) (r_part_settled a0 M Q ▸ h)
theorem r_BinarySearch_uint64 : ∀ (a0 a1 : AV) (M : RM) (Q : PostV), Go.Ab.Dot.W_BinarySearch_uint64 (CallsR Tryz.prog 125) (CallsR Tryz.prog 126) a0 a1 M Q = wpBodyO Tryz.prog Tryz.f103 [a0, a1] M Q := by
  intros; kernel_rfl
theorem r_BinarySearch_uint64_calls {a0 a1 : AV} {M : RM} {Q : PostV} (h : Go.Ab.Dot.W_BinarySearch_uint64 (CallsR Tryz.prog 125) (CallsR Tryz.prog 126) a0 a1 M Q) : CallsR Tryz.prog 103 [a0, a1] M Q := callsR_of pok (fn := Tryz.f103) (by kernel_rfl) (r_BinarySearch_uint64 a0 a1 M Q ▸ h)
theorem r_Compare_uint64 : ∀ (a0 a1 : AV) (M : RM) (Q : PostV), Go.Ab.Crw.W_Compare_uint64 (CallsR Tryz.prog 135) a0 a1 M Q = wpBodyO Tryz.prog Tryz.f105 [a0, a1] M Q := by
  intros; kernel_rfl
theorem r_Compare_uint64_calls {a0 a1 : AV} {M : RM} {Q : PostV} (h : Go.Ab.Crw.W_Compare_uint64 (CallsR Tryz.prog 135) a0 a1 M Q) : CallsR Tryz.prog 105 [a0, a1] M Q := callsR_of pok (fn := Tryz.f105) (by kernel_rfl) (r_Compare_uint64 a0 a1 M Q ▸ h)
theorem r_Compare_int : ∀ (a0 a1 : AV) (M : RM) (Q : PostV), Go.Ab.Crw.W_Compare_int (CallsR Tryz.prog 136) a0 a1 M Q = wpBodyO Tryz.prog Tryz.f106 [a0, a1] M Q := by
  intros; kernel_rfl
theorem r_Compare_int_calls {a0 a1 : AV} {M : RM} {Q : PostV} (h : Go.Ab.Crw.W_Compare_int (CallsR Tryz.prog 136) a0 a1 M Q) : CallsR Tryz.prog 106 [a0, a1] M Q := callsR_of pok (fn := Tryz.f106) (by kernel_rfl) (r_Compare_int a0 a1 M Q ▸ h)
theorem r_Insert_uint64 : ∀ (a0 a1 a2 : AV) (M : RM) (Q : PostV), Go.Ab.Dot.W_Insert_uint64 25 (extnW Tryz.prog 137) (CallsR Tryz.prog 138) a0 a1 a2 M Q = wpBodyO Tryz.prog Tryz.f107 [a0, a1, a2] M Q := by
  intros; kernel_rfl
theorem r_Insert_uint64_calls {a0 a1 a2 : AV} {M : RM} {Q : PostV} (h : Go.Ab.Dot.W_Insert_uint64 25 (extnW Tryz.prog 137) (CallsR Tryz.prog 138) a0 a1 a2 M Q) : CallsR Tryz.prog 107 [a0, a1, a2] M Q := callsR_of pok (fn := Tryz.f107) (by kernel_rfl) (r_Insert_uint64 a0 a1 a2 M Q ▸ h)
theorem r_Clone_uint64 : ∀ (a0 : AV) (M : RM) (Q : PostV), Go.Ab.Dot.W_Clone_uint64 25 a0 M Q = wpBodyO Tryz.prog Tryz.f108 [a0] M Q := by
  intros; kernel_rfl
theorem r_Clone_uint64_calls {a0 : AV} {M : RM} {Q : PostV} (h : Go.Ab.Dot.W_Clone_uint64 25 a0 M Q) : CallsR Tryz.prog 108 [a0] M Q := callsR_of pok (fn := Tryz.f108) (by kernel_rfl) (r_Clone_uint64 a0 M Q ▸ h)
theorem r_insertionSortCmpFunc_Entry : ∀ (a0 a1 a2 a3 : AV) (M : RM) (Q : PostV), Go.Ab.Crw.W_insertionSortCmpFunc_Entry (CallsR Tryz.prog) a0 a1 a2 a3 M Q = wpBodyO Tryz.prog Tryz.f109 [a0, a1, a2, a3] M Q := by
  intros; kernel_rfl
theorem r_insertionSortCmpFunc_Entry_calls {a0 a1 a2 a3 : AV} {M : RM} {Q : PostV} (h : Go.Ab.Crw.W_insertionSortCmpFunc_Entry (CallsR Tryz.prog) a0 a1 a2 a3 M Q) : CallsR Tryz.prog 109 [a0, a1, a2, a3] M Q := callsR_of pok (fn := Tryz.f109) (by kernel_rfl) (r_insertionSortCmpFunc_Entry a0 a1 a2 a3 M Q ▸ h)
theorem r_heapSortCmpFunc_Entry : ∀ (a0 a1 a2 a3 : AV) (M : RM) (Q : PostV), Go.Ab.Crw.W_heapSortCmpFunc_Entry (CallsR Tryz.prog 139) a0 a1 a2 a3 M Q = wpBodyO Tryz.prog Tryz.f110 [a0, a1, a2, a3] M Q := by
  intros; kernel_rfl
theorem r_heapSortCmpFunc_Entry_calls {a0 a1 a2 a3 : AV} {M : RM} {Q : PostV} (h : Go.Ab.Crw.W_heapSortCmpFunc_Entry (CallsR Tryz.prog 139) a0 a1 a2 a3 M Q) : CallsR Tryz.prog 110 [a0, a1, a2, a3] M Q := callsR_of pok (fn := Tryz.f110) (by kernel_rfl) (r_heapSortCmpFunc_Entry a0 a1 a2 a3 M Q ▸ h)
theorem r_breakPatternsCmpFunc_Entry : ∀ (a0 a1 a2 a3 : AV) (M : RM) (Q : PostV), Go.Ab.Crw.W_breakPatternsCmpFunc_Entry 182 (CallsR Tryz.prog 140) (CallsR Tryz.prog 141) a0 a1 a2 a3 M Q = wpBodyO Tryz.prog Tryz.f111 [a0, a1, a2, a3] M Q := by
  intros; kernel_rfl
theorem r_breakPatternsCmpFunc_Entry_calls {a0 a1 a2 a3 : AV} {M : RM} {Q : PostV} (h : Go.Ab.Crw.W_breakPatternsCmpFunc_Entry 182 (CallsR Tryz.prog 140) (CallsR Tryz.prog 141) a0 a1 a2 a3 M Q) : CallsR Tryz.prog 111 [a0, a1, a2, a3] M Q := callsR_of pok (fn := Tryz.f111) (by kernel_rfl) (r_breakPatternsCmpFunc_Entry a0 a1 a2 a3 M Q ▸ h)
theorem r_choosePivotCmpFunc_Entry : ∀ (a0 a1 a2 a3 : AV) (M : RM) (Q : PostV), Go.Ab.Crw.W_choosePivotCmpFunc_Entry 3 (CallsR Tryz.prog 142) (CallsR Tryz.prog 143) a0 a1 a2 a3 M Q = wpBodyO Tryz.prog Tryz.f112 [a0, a1, a2, a3] M Q := by
  intros; kernel_rfl
theorem r_choosePivotCmpFunc_Entry_calls {a0 a1 a2 a3 : AV} {M : RM} {Q : PostV} (h : Go.Ab.Crw.W_choosePivotCmpFunc_Entry 3 (CallsR Tryz.prog 142) (CallsR Tryz.prog 143) a0 a1 a2 a3 M Q) : CallsR Tryz.prog 112 [a0, a1, a2, a3] M Q := callsR_of pok (fn := Tryz.f112) (by kernel_rfl) (r_choosePivotCmpFunc_Entry a0 a1 a2 a3 M Q ▸ h)
theorem r_reverseRangeCmpFunc_Entry : ∀ (a0 a1 a2 a3 : AV) (M : RM) (Q : PostV), Go.Ab.Crw.W_reverseRangeCmpFunc_Entry a0 a1 a2 a3 M Q = wpBodyO Tryz.prog Tryz.f113 [a0, a1, a2, a3] M Q := by
  intros; kernel_rfl
theorem r_reverseRangeCmpFunc_Entry_calls {a0 a1 a2 a3 : AV} {M : RM} {Q : PostV} (h : Go.Ab.Crw.W_reverseRangeCmpFunc_Entry a0 a1 a2 a3 M Q) : CallsR Tryz.prog 113 [a0, a1, a2, a3] M Q := callsR_of pok (fn := Tryz.f113) (by kernel_rfl) (r_reverseRangeCmpFunc_Entry a0 a1 a2 a3 M Q ▸ h)
theorem r_partialInsertionSortCmpFunc_Entry : ∀ (a0 a1 a2 a3 : AV) (M : RM) (Q : PostV), Go.Ab.Crw.W_partialInsertionSortCmpFunc_Entry (CallsR Tryz.prog) a0 a1 a2 a3 M Q = wpBodyO Tryz.prog Tryz.f114 [a0, a1, a2, a3] M Q := by
  intros; kernel_rfl
theorem r_partialInsertionSortCmpFunc_Entry_calls {a0 a1 a2 a3 : AV} {M : RM} {Q : PostV} (h : Go.Ab.Crw.W_partialInsertionSortCmpFunc_Entry (CallsR Tryz.prog) a0 a1 a2 a3 M Q) : CallsR Tryz.prog 114 [a0, a1, a2, a3] M Q := callsR_of pok (fn := Tryz.f114) (by kernel_rfl) (r_partialInsertionSortCmpFunc_Entry a0 a1 a2 a3 M Q ▸ h)
theorem r_partitionEqualCmpFunc_Entry : ∀ (a0 a1 a2 a3 a4 : AV) (M : RM) (Q : PostV), Go.Ab.Crw.W_partitionEqualCmpFunc_Entry (CallsR Tryz.prog) a0 a1 a2 a3 a4 M Q = wpBodyO Tryz.prog Tryz.f115 [a0, a1, a2, a3, a4] M Q := by
  intros; kernel_rfl
theorem r_partitionEqualCmpFunc_Entry_calls {a0 a1 a2 a3 a4 : AV} {M : RM} {Q : PostV} (h : Go.Ab.Crw.W_partitionEqualCmpFunc_Entry (CallsR Tryz.prog) a0 a1 a2 a3 a4 M Q) : CallsR Tryz.prog 115 [a0, a1, a2, a3, a4] M Q := callsR_of pok (fn := Tryz.f115) (by kernel_rfl) (r_partitionEqualCmpFunc_Entry a0 a1 a2 a3 a4 M Q ▸ h)
theorem r_partitionCmpFunc_Entry : ∀ (a0 a1 a2 a3 a4 : AV) (M : RM) (Q : PostV), Go.Ab.Crw.W_partitionCmpFunc_Entry (CallsR Tryz.prog) a0 a1 a2 a3 a4 M Q = wpBodyO Tryz.prog Tryz.f116 [a0, a1, a2, a3, a4] M Q := by
  intros; kernel_rfl
theorem r_partitionCmpFunc_Entry_calls {a0 a1 a2 a3 a4 : AV} {M : RM} {Q : PostV} (h : Go.Ab.Crw.W_partitionCmpFunc_Entry (CallsR Tryz.prog) a0 a1 a2 a3 a4 M Q) : CallsR Tryz.prog 116 [a0, a1, a2, a3, a4] M Q := callsR_of pok (fn := Tryz.f116) (by kernel_rfl) (r_partitionCmpFunc_Entry a0 a1 a2 a3 a4 M Q ▸ h)
theorem r_math_bits_Len64 : ∀ (a0 : AV) (M : RM) (Q : PostV), Go.Ab.Dot.W_math_bits_Len64 a0 M Q = wpBodyO Tryz.prog Tryz.f118 [a0] M Q := by
  intros; kernel_rfl
theorem r_math_bits_Len64_calls {a0 : AV} {M : RM} {Q : PostV} (h : Go.Ab.Dot.W_math_bits_Len64 a0 M Q) : CallsR Tryz.prog 118 [a0] M Q := callsR_of pok (fn := Tryz.f118) (by kernel_rfl) (r_math_bits_Len64 a0 M Q ▸ h)
theorem r_isNaN_string : ∀ (a0 : AV) (M : RM) (Q : PostV), Go.Ab.Crw.W_isNaN_string a0 M Q = wpBodyO Tryz.prog Tryz.f119 [a0] M Q := by
  intros; kernel_rfl
theorem r_isNaN_string_calls {a0 : AV} {M : RM} {Q : PostV} (h : Go.Ab.Crw.W_isNaN_string a0 M Q) : CallsR Tryz.prog 119 [a0] M Q := callsR_of pok (fn := Tryz.f119) (by kernel_rfl) (r_isNaN_string a0 M Q ▸ h)
theorem r_Grow_uint64 : ∀ (a0 a1 : AV) (M : RM) (Q : PostV), Go.Ab.Dot.W_Grow_uint64 9 25 a0 a1 M Q = wpBodyO Tryz.prog Tryz.f122 [a0, a1] M Q := by
  intros; kernel_rfl
theorem r_Grow_uint64_calls {a0 a1 : AV} {M : RM} {Q : PostV} (h : Go.Ab.Dot.W_Grow_uint64 9 25 a0 a1 M Q) : CallsR Tryz.prog 122 [a0, a1] M Q := callsR_of pok (fn := Tryz.f122) (by kernel_rfl) (r_Grow_uint64 a0 a1 M Q ▸ h)
theorem r_pdqsortOrdered_uint64 : ∀ (a0 a1 a2 a3 : AV) (M : RM) (Q : PostV), Go.Ab.Dot.W_pdqsortOrdered_uint64 (CallsR Tryz.prog 144) (CallsR Tryz.prog 145) (CallsR Tryz.prog 146) (CallsR Tryz.prog 147) (CallsR Tryz.prog 148) (CallsR Tryz.prog 149) (CallsR Tryz.prog 125) (CallsR Tryz.prog 150) (CallsR Tryz.prog 151) (CallsR Tryz.prog 123) a0 a1 a2 a3 M Q = wpBodyO Tryz.prog Tryz.f123 [a0, a1, a2, a3] M Q := by
  intros; kernel_rfl
theorem r_pdqsortOrdered_uint64_calls {a0 a1 a2 a3 : AV} {M : RM} {Q : PostV} (h : Go.Ab.Dot.W_pdqsortOrdered_uint64 (CallsR Tryz.prog 144) (CallsR Tryz.prog 145) (CallsR Tryz.prog 146) (CallsR Tryz.prog 147) (CallsR Tryz.prog 148) (CallsR Tryz.prog 149) (CallsR Tryz.prog 125) (CallsR Tryz.prog 150) (CallsR Tryz.prog 151) (CallsR Tryz.prog 123) a0 a1 a2 a3 M Q) : CallsR Tryz.prog 123 [a0, a1, a2, a3] M Q := callsR_of pok (fn := Tryz.f123) (by kernel_rfl) (r_pdqsortOrdered_uint64 a0 a1 a2 a3 M Q ▸ h)
theorem r_Less_uint64 : ∀ (a0 a1 : AV) (M : RM) (Q : PostV), Go.Ab.Dot.W_Less_uint64 (CallsR Tryz.prog 135) a0 a1 M Q = wpBodyO Tryz.prog Tryz.f125 [a0, a1] M Q := by
  intros; kernel_rfl
theorem r_Less_uint64_calls {a0 a1 : AV} {M : RM} {Q : PostV} (h : Go.Ab.Dot.W_Less_uint64 (CallsR Tryz.prog 135) a0 a1 M Q) : CallsR Tryz.prog 125 [a0, a1] M Q := callsR_of pok (fn := Tryz.f125) (by kernel_rfl) (r_Less_uint64 a0 a1 M Q ▸ h)
theorem r_isNaN_uint64_2 : ∀ (a0 : AV) (M : RM) (Q : PostV), Go.Ab.Dot.W_isNaN_uint64_2 a0 M Q = wpBodyO Tryz.prog Tryz.f126 [a0] M Q := by
  intros; kernel_rfl
theorem r_isNaN_uint64_2_calls {a0 : AV} {M : RM} {Q : PostV} (h : Go.Ab.Dot.W_isNaN_uint64_2 a0 M Q) : CallsR Tryz.prog 126 [a0] M Q := callsR_of pok (fn := Tryz.f126) (by kernel_rfl) (r_isNaN_uint64_2 a0 M Q ▸ h)
theorem r_isNaN_uint64 : ∀ (a0 : AV) (M : RM) (Q : PostV), Go.Ab.Dot.W_isNaN_uint64 a0 M Q = wpBodyO Tryz.prog Tryz.f135 [a0] M Q := by
  intros; kernel_rfl
theorem r_isNaN_uint64_calls {a0 : AV} {M : RM} {Q : PostV} (h : Go.Ab.Dot.W_isNaN_uint64 a0 M Q) : CallsR Tryz.prog 135 [a0] M Q := callsR_of pok (fn := Tryz.f135) (by kernel_rfl) (r_isNaN_uint64 a0 M Q ▸ h)
theorem r_isNaN_int : ∀ (a0 : AV) (M : RM) (Q : PostV), Go.Ab.Crw.W_isNaN_int a0 M Q = wpBodyO Tryz.prog Tryz.f136 [a0] M Q := by
  intros; kernel_rfl
theorem r_isNaN_int_calls {a0 : AV} {M : RM} {Q : PostV} (h : Go.Ab.Crw.W_isNaN_int a0 M Q) : CallsR Tryz.prog 136 [a0] M Q := callsR_of pok (fn := Tryz.f136) (by kernel_rfl) (r_isNaN_int a0 M Q ▸ h)
theorem r_siftDownCmpFunc_Entry : ∀ (a0 a1 a2 a3 a4 : AV) (M : RM) (Q : PostV), Go.Ab.Crw.W_siftDownCmpFunc_Entry (CallsR Tryz.prog) a0 a1 a2 a3 a4 M Q = wpBodyO Tryz.prog Tryz.f139 [a0, a1, a2, a3, a4] M Q := by
  intros; kernel_rfl
theorem r_siftDownCmpFunc_Entry_calls {a0 a1 a2 a3 a4 : AV} {M : RM} {Q : PostV} (h : Go.Ab.Crw.W_siftDownCmpFunc_Entry (CallsR Tryz.prog) a0 a1 a2 a3 a4 M Q) : CallsR Tryz.prog 139 [a0, a1, a2, a3, a4] M Q := callsR_of pok (fn := Tryz.f139) (by kernel_rfl) (r_siftDownCmpFunc_Entry a0 a1 a2 a3 a4 M Q ▸ h)
theorem r_nextPowerOfTwo : ∀ (a0 : AV) (M : RM) (Q : PostV), Go.Ab.Dot.W_nextPowerOfTwo (CallsR Tryz.prog 83) a0 M Q = wpBodyO Tryz.prog Tryz.f140 [a0] M Q := by
  intros; kernel_rfl
theorem r_nextPowerOfTwo_calls {a0 : AV} {M : RM} {Q : PostV} (h : Go.Ab.Dot.W_nextPowerOfTwo (CallsR Tryz.prog 83) a0 M Q) : CallsR Tryz.prog 140 [a0] M Q := callsR_of pok (fn := Tryz.f140) (by kernel_rfl) (r_nextPowerOfTwo a0 M Q ▸ h)
theorem r_xorshift_Next : ∀ (a0 : AV) (M : RM) (Q : PostV), Go.Ab.Dot.W_xorshift_Next a0 M Q = wpBodyO Tryz.prog Tryz.f141 [a0] M Q := by
  intros; kernel_rfl
theorem r_xorshift_Next_calls {a0 : AV} {M : RM} {Q : PostV} (h : Go.Ab.Dot.W_xorshift_Next a0 M Q) : CallsR Tryz.prog 141 [a0] M Q := callsR_of pok (fn := Tryz.f141) (by kernel_rfl) (r_xorshift_Next a0 M Q ▸ h)
theorem r_medianAdjacentCmpFunc_Entry : ∀ (a0 a1 a2 a3 : AV) (M : RM) (Q : PostV), Go.Ab.Crw.W_medianAdjacentCmpFunc_Entry (CallsR Tryz.prog 143) a0 a1 a2 a3 M Q = wpBodyO Tryz.prog Tryz.f142 [a0, a1, a2, a3] M Q := by
  intros; kernel_rfl
theorem r_medianAdjacentCmpFunc_Entry_calls {a0 a1 a2 a3 : AV} {M : RM} {Q : PostV} (h : Go.Ab.Crw.W_medianAdjacentCmpFunc_Entry (CallsR Tryz.prog 143) a0 a1 a2 a3 M Q) : CallsR Tryz.prog 142 [a0, a1, a2, a3] M Q := callsR_of pok (fn := Tryz.f142) (by kernel_rfl) (r_medianAdjacentCmpFunc_Entry a0 a1 a2 a3 M Q ▸ h)
theorem r_medianCmpFunc_Entry : ∀ (a0 a1 a2 a3 a4 a5 : AV) (M : RM) (Q : PostV), Go.Ab.Crw.W_medianCmpFunc_Entry (CallsR Tryz.prog 156) a0 a1 a2 a3 a4 a5 M Q = wpBodyO Tryz.prog Tryz.f143 [a0, a1, a2, a3, a4, a5] M Q := by
  intros; kernel_rfl
theorem r_medianCmpFunc_Entry_calls {a0 a1 a2 a3 a4 a5 : AV} {M : RM} {Q : PostV} (h : Go.Ab.Crw.W_medianCmpFunc_Entry (CallsR Tryz.prog 156) a0 a1 a2 a3 a4 a5 M Q) : CallsR Tryz.prog 143 [a0, a1, a2, a3, a4, a5] M Q := callsR_of pok (fn := Tryz.f143) (by kernel_rfl) (r_medianCmpFunc_Entry a0 a1 a2 a3 a4 a5 M Q ▸ h)
theorem r_insertionSortOrdered_uint64 : ∀ (a0 a1 a2 : AV) (M : RM) (Q : PostV), Go.Ab.Dot.W_insertionSortOrdered_uint64 (CallsR Tryz.prog 125) a0 a1 a2 M Q = wpBodyO Tryz.prog Tryz.f144 [a0, a1, a2] M Q := by
  intros; kernel_rfl
theorem r_insertionSortOrdered_uint64_calls {a0 a1 a2 : AV} {M : RM} {Q : PostV} (h : Go.Ab.Dot.W_insertionSortOrdered_uint64 (CallsR Tryz.prog 125) a0 a1 a2 M Q) : CallsR Tryz.prog 144 [a0, a1, a2] M Q := callsR_of pok (fn := Tryz.f144) (by kernel_rfl) (r_insertionSortOrdered_uint64 a0 a1 a2 M Q ▸ h)
theorem r_heapSortOrdered_uint64 : ∀ (a0 a1 a2 : AV) (M : RM) (Q : PostV), Go.Ab.Dot.W_heapSortOrdered_uint64 (CallsR Tryz.prog 157) a0 a1 a2 M Q = wpBodyO Tryz.prog Tryz.f145 [a0, a1, a2] M Q := by
  intros; kernel_rfl
theorem r_heapSortOrdered_uint64_calls {a0 a1 a2 : AV} {M : RM} {Q : PostV} (h : Go.Ab.Dot.W_heapSortOrdered_uint64 (CallsR Tryz.prog 157) a0 a1 a2 M Q) : CallsR Tryz.prog 145 [a0, a1, a2] M Q := callsR_of pok (fn := Tryz.f145) (by kernel_rfl) (r_heapSortOrdered_uint64 a0 a1 a2 M Q ▸ h)
theorem r_breakPatternsOrdered_uint64 : ∀ (a0 a1 a2 : AV) (M : RM) (Q : PostV), Go.Ab.Dot.W_breakPatternsOrdered_uint64 182 (CallsR Tryz.prog 140) (CallsR Tryz.prog 141) a0 a1 a2 M Q = wpBodyO Tryz.prog Tryz.f146 [a0, a1, a2] M Q := by
  intros; kernel_rfl
theorem r_breakPatternsOrdered_uint64_calls {a0 a1 a2 : AV} {M : RM} {Q : PostV} (h : Go.Ab.Dot.W_breakPatternsOrdered_uint64 182 (CallsR Tryz.prog 140) (CallsR Tryz.prog 141) a0 a1 a2 M Q) : CallsR Tryz.prog 146 [a0, a1, a2] M Q := callsR_of pok (fn := Tryz.f146) (by kernel_rfl) (r_breakPatternsOrdered_uint64 a0 a1 a2 M Q ▸ h)
theorem r_choosePivotOrdered_uint64 : ∀ (a0 a1 a2 : AV) (M : RM) (Q : PostV), Go.Ab.Dot.W_choosePivotOrdered_uint64 3 (CallsR Tryz.prog 158) (CallsR Tryz.prog 159) a0 a1 a2 M Q = wpBodyO Tryz.prog Tryz.f147 [a0, a1, a2] M Q := by
  intros; kernel_rfl
theorem r_choosePivotOrdered_uint64_calls {a0 a1 a2 : AV} {M : RM} {Q : PostV} (h : Go.Ab.Dot.W_choosePivotOrdered_uint64 3 (CallsR Tryz.prog 158) (CallsR Tryz.prog 159) a0 a1 a2 M Q) : CallsR Tryz.prog 147 [a0, a1, a2] M Q := callsR_of pok (fn := Tryz.f147) (by kernel_rfl) (r_choosePivotOrdered_uint64 a0 a1 a2 M Q ▸ h)
theorem r_reverseRangeOrdered_uint64 : ∀ (a0 a1 a2 : AV) (M : RM) (Q : PostV), Go.Ab.Dot.W_reverseRangeOrdered_uint64 a0 a1 a2 M Q = wpBodyO Tryz.prog Tryz.f148 [a0, a1, a2] M Q := by
  intros; kernel_rfl
theorem r_reverseRangeOrdered_uint64_calls {a0 a1 a2 : AV} {M : RM} {Q : PostV} (h : Go.Ab.Dot.W_reverseRangeOrdered_uint64 a0 a1 a2 M Q) : CallsR Tryz.prog 148 [a0, a1, a2] M Q := callsR_of pok (fn := Tryz.f148) (by kernel_rfl) (r_reverseRangeOrdered_uint64 a0 a1 a2 M Q ▸ h)
theorem r_partialInsertionSortOrdered_uint64 : ∀ (a0 a1 a2 : AV) (M : RM) (Q : PostV), Go.Ab.Dot.W_partialInsertionSortOrdered_uint64 (CallsR Tryz.prog 125) a0 a1 a2 M Q = wpBodyO Tryz.prog Tryz.f149 [a0, a1, a2] M Q := by
  intros; kernel_rfl
theorem r_partialInsertionSortOrdered_uint64_calls {a0 a1 a2 : AV} {M : RM} {Q : PostV} (h : Go.Ab.Dot.W_partialInsertionSortOrdered_uint64 (CallsR Tryz.prog 125) a0 a1 a2 M Q) : CallsR Tryz.prog 149 [a0, a1, a2] M Q := callsR_of pok (fn := Tryz.f149) (by kernel_rfl) (r_partialInsertionSortOrdered_uint64 a0 a1 a2 M Q ▸ h)
theorem r_partitionEqualOrdered_uint64 : ∀ (a0 a1 a2 a3 : AV) (M : RM) (Q : PostV), Go.Ab.Dot.W_partitionEqualOrdered_uint64 (CallsR Tryz.prog 125) a0 a1 a2 a3 M Q = wpBodyO Tryz.prog Tryz.f150 [a0, a1, a2, a3] M Q := by
  intros; kernel_rfl
theorem r_partitionEqualOrdered_uint64_calls {a0 a1 a2 a3 : AV} {M : RM} {Q : PostV} (h : Go.Ab.Dot.W_partitionEqualOrdered_uint64 (CallsR Tryz.prog 125) a0 a1 a2 a3 M Q) : CallsR Tryz.prog 150 [a0, a1, a2, a3] M Q := callsR_of pok (fn := Tryz.f150) (by kernel_rfl) (r_partitionEqualOrdered_uint64 a0 a1 a2 a3 M Q ▸ h)
theorem r_partitionOrdered_uint64 : ∀ (a0 a1 a2 a3 : AV) (M : RM) (Q : PostV), Go.Ab.Dot.W_partitionOrdered_uint64 (CallsR Tryz.prog 125) a0 a1 a2 a3 M Q = wpBodyO Tryz.prog Tryz.f151 [a0, a1, a2, a3] M Q := by
  intros; kernel_rfl
theorem r_partitionOrdered_uint64_calls {a0 a1 a2 a3 : AV} {M : RM} {Q : PostV} (h : Go.Ab.Dot.W_partitionOrdered_uint64 (CallsR Tryz.prog 125) a0 a1 a2 a3 M Q) : CallsR Tryz.prog 151 [a0, a1, a2, a3] M Q := callsR_of pok (fn := Tryz.f151) (by kernel_rfl) (r_partitionOrdered_uint64 a0 a1 a2 a3 M Q ▸ h)
theorem r_order2CmpFunc_Entry : ∀ (a0 a1 a2 a3 a4 : AV) (M : RM) (Q : PostV), Go.Ab.Crw.W_order2CmpFunc_Entry (CallsR Tryz.prog) a0 a1 a2 a3 a4 M Q = wpBodyO Tryz.prog Tryz.f156 [a0, a1, a2, a3, a4] M Q := by
  intros; kernel_rfl
theorem r_order2CmpFunc_Entry_calls {a0 a1 a2 a3 a4 : AV} {M : RM} {Q : PostV} (h : Go.Ab.Crw.W_order2CmpFunc_Entry (CallsR Tryz.prog) a0 a1 a2 a3 a4 M Q) : CallsR Tryz.prog 156 [a0, a1, a2, a3, a4] M Q := callsR_of pok (fn := Tryz.f156) (by kernel_rfl) (r_order2CmpFunc_Entry a0 a1 a2 a3 a4 M Q ▸ h)
theorem r_siftDownOrdered_uint64 : ∀ (a0 a1 a2 a3 : AV) (M : RM) (Q : PostV), Go.Ab.Dot.W_siftDownOrdered_uint64 (CallsR Tryz.prog 125) a0 a1 a2 a3 M Q = wpBodyO Tryz.prog Tryz.f157 [a0, a1, a2, a3] M Q := by
  intros; kernel_rfl
theorem r_siftDownOrdered_uint64_calls {a0 a1 a2 a3 : AV} {M : RM} {Q : PostV} (h : Go.Ab.Dot.W_siftDownOrdered_uint64 (CallsR Tryz.prog 125) a0 a1 a2 a3 M Q) : CallsR Tryz.prog 157 [a0, a1, a2, a3] M Q := callsR_of pok (fn := Tryz.f157) (by kernel_rfl) (r_siftDownOrdered_uint64 a0 a1 a2 a3 M Q ▸ h)
theorem r_medianAdjacentOrdered_uint64 : ∀ (a0 a1 a2 : AV) (M : RM) (Q : PostV), Go.Ab.Dot.W_medianAdjacentOrdered_uint64 (CallsR Tryz.prog 159) a0 a1 a2 M Q = wpBodyO Tryz.prog Tryz.f158 [a0, a1, a2] M Q := by
  intros; kernel_rfl
theorem r_medianAdjacentOrdered_uint64_calls {a0 a1 a2 : AV} {M : RM} {Q : PostV} (h : Go.Ab.Dot.W_medianAdjacentOrdered_uint64 (CallsR Tryz.prog 159) a0 a1 a2 M Q) : CallsR Tryz.prog 158 [a0, a1, a2] M Q := callsR_of pok (fn := Tryz.f158) (by kernel_rfl) (r_medianAdjacentOrdered_uint64 a0 a1 a2 M Q ▸ h)
theorem r_medianOrdered_uint64 : ∀ (a0 a1 a2 a3 a4 : AV) (M : RM) (Q : PostV), Go.Ab.Dot.W_medianOrdered_uint64 (CallsR Tryz.prog 162) a0 a1 a2 a3 a4 M Q = wpBodyO Tryz.prog Tryz.f159 [a0, a1, a2, a3, a4] M Q := by
  intros; kernel_rfl
theorem r_medianOrdered_uint64_calls {a0 a1 a2 a3 a4 : AV} {M : RM} {Q : PostV} (h : Go.Ab.Dot.W_medianOrdered_uint64 (CallsR Tryz.prog 162) a0 a1 a2 a3 a4 M Q) : CallsR Tryz.prog 159 [a0, a1, a2, a3, a4] M Q := callsR_of pok (fn := Tryz.f159) (by kernel_rfl) (r_medianOrdered_uint64 a0 a1 a2 a3 a4 M Q ▸ h)
theorem r_order2Ordered_uint64 : ∀ (a0 a1 a2 a3 : AV) (M : RM) (Q : PostV), Go.Ab.Dot.W_order2Ordered_uint64 (CallsR Tryz.prog 125) a0 a1 a2 a3 M Q = wpBodyO Tryz.prog Tryz.f162 [a0, a1, a2, a3] M Q := by
  intros; kernel_rfl
theorem r_order2Ordered_uint64_calls {a0 a1 a2 a3 : AV} {M : RM} {Q : PostV} (h : Go.Ab.Dot.W_order2Ordered_uint64 (CallsR Tryz.prog 125) a0 a1 a2 a3 M Q) : CallsR Tryz.prog 162 [a0, a1, a2, a3] M Q := callsR_of pok (fn := Tryz.f162) (by kernel_rfl) (r_order2Ordered_uint64 a0 a1 a2 a3 M Q ▸ h)
end Go.Proofs.YtlhlnchhaminjaaGreat
set_option maxRecDepth 100000
set_option linter.unusedVariables false
set_option linter.unusedSimpArgs false
namespace Go.Proofs.YtlhlnchhaminjaaGreat.cshare
open Go Go.Ab Go.Ab.Dot Go.RowKit
theorem over : OverC (extnW Tryz.prog 137) := by
  intro M ba oa na bb ob nb ea eb ca cb la lb opb Q hne ha hb h1 h2 hQ
  exact .inr (.inl ⟨⟨Tryz.f137, 109, 25, 1, 4, by kernel_rfl, by kernel_rfl, by kernel_rfl, by kernel_rfl, by kernel_rfl, by kernel_rfl⟩,
    ⟨ba, oa, na, ca, bb, ob, nb, cb, la, ea, 0, lb, opb, eb, 0, rfl, hne, ha, hb, rfl, h1, h2⟩, hQ⟩)
theorem hasBody50 : HasBody Tryz.prog 107 := ⟨Tryz.f107, _, by kernel_rfl, rfl⟩
theorem insert : InsertC 25 (CallsR Tryz.prog 107) := by
  intro M v bx n0 k x ex xs Q ho hn hl hk hx hxl hbx hQ
  by_cases hkn : k = xs.length
  · subst hkn
    exact r_Insert_uint64_calls (insert_end ho hn hl hx hxl hQ)
  · obtain ⟨b, rfl, h1, h2, h3, h4⟩ := Own.op_pos ho (by omega)
    refine CallsR.open_cap hasBody50 h3 (by rw [h4]; show xs.length * 1 = _; omega) fun c hc => ?_
    have hne : bx ≠ b := fun e => hbx (by simp [blkOf, e])
    have kk : Keep [b] M (M.put b (.row (U64.row xs ++ List.replicate (c - xs.length) .top) true 25 0)) := (Keep.refl _ _).put _ (.inr (by simp))
    refine r_Insert_uint64_calls (insert_ex (c := c) over rfl (by omega) hc (by omega) (heap_put_eq _) (by rw [next_put]; exact h2) (heap_put_ne hx hne) hxl hne ?_)
    intro v' M' q1 q2 q3 q4
    refine hQ v' M' q1 q2 (fun d hd => ?_) ?_
    · rcases q3 d hd with rfl | h
      · exact h1
      · have : M.next ≤ d := h
        omega
    · exact (kk.trans q4).mono (by simp [blkOf])
theorem nan : NaNC (CallsR Tryz.prog 135) := fun hQ => r_isNaN_uint64_calls (isNaN_spec hQ)
theorem nan2 : NaNC (CallsR Tryz.prog 126) := fun hQ => r_isNaN_uint64_2_calls (isNaN2_spec hQ)
theorem less : LessC (CallsR Tryz.prog 125) := by
  intro M x y Q hQ
  obtain ⟨a0, a1, e, h⟩ := less_spec nan hQ
  cases e
  exact r_Less_uint64_calls h
theorem search : SearchC (CallsR Tryz.prog 103) := by
  intro M v xs n Q h1 h2 h3 hQ
  obtain ⟨a0, a1, e, h⟩ := search_spec less nan2 h1 h2 h3 hQ
  cases e
  exact r_BinarySearch_uint64_calls h
theorem clone8 : CloneC 25 1 8 (CallsR Tryz.prog 108) := fun h1 h2 h3 h4 _ hQ => r_Clone_uint64_calls (clone_any h1 h2 (Nat.le_refl _) h3 h4 hQ)
theorem settled : SettledC (CallsR Tryz.prog 99) := by
  intro M b o T u l v xs Q h1 h2 h3 h4 h5 h6 h7 h8 h9 hQ
  obtain ⟨a0, e, h⟩ := settled_spec h1 h2 h3 h4 h5 h6 h7 h8 h9 hQ
  cases e
  exact r_part_settled_calls h
theorem addP : AddPC (CallsR Tryz.prog 81) := by
  intro M b o T u n l v xs Q h1 h2 h3 h4 h5 h6 h7 h8 h9 h10 h11 h12 hQ1 hQ2
  obtain ⟨a0, a1, e, h⟩ := addP_spec (TU := 25) (TP := 111) search clone8 insert settled h1 h2 h3 h4 h5 h6 h7 h8 h9 h10 h11 h12 hQ1 hQ2
  cases e
  exact r_part_add_calls h
theorem hasP : HasPC (CallsR Tryz.prog 77) := by
  intro M b o T u n l v xs Q h1 h2 h3 h4 h5 h6 hQ
  obtain ⟨a0, a1, e, h⟩ := hasP_spec search h1 h2 h3 h4 h5 h6 hQ
  cases e
  exact r_part_has_calls h
theorem good : GoodC (CallsR Tryz.prog 58) := by
  intro M d Q hQ
  obtain ⟨a0, e, h⟩ := good_spec (T := 27) hQ
  cases e
  exact r_Good_2_calls h
theorem refGood : GoodC (CallsR Tryz.prog 61) := by
  intro M d Q hQ
  obtain ⟨a0, e, h⟩ := refGood_spec (T := 27) hQ
  cases e
  exact r_Good_3_calls h
theorem addS : AddSC 114 (CallsR Tryz.prog 42) := by
  intro M b ps d S Q h1 h2 hQ
  obtain ⟨a0, a1, e, h⟩ := addS_spec (TD := 27) good addP h1 h2 hQ
  cases e
  exact r_Set_Add_calls h
theorem new : NewC 114 (CallsR Tryz.prog 38) := by
  intro M Q hQ
  obtain ⟨e, h⟩ := new_spec hQ
  exact r_New_2_calls h
theorem within : WithinC 114 (CallsR Tryz.prog 33) := by
  intro M a b ps qs S S' Q h1 h2 h3 h4 hQ
  obtain ⟨a0, a1, e, h⟩ := within_spec (T := 111) hasP h1 h2 h3 h4 hQ
  cases e
  exact r_Set_Within_calls h
theorem hasS : HasSC 114 (CallsR Tryz.prog 37) := by
  intro M b ps d S Q h1 h2 hQ
  obtain ⟨a0, a1, e, h⟩ := hasS_spec (T := 27) good hasP h1 h2 hQ
  cases e
  exact r_Set_Has_calls h
theorem grow : GrowC 25 (CallsR Tryz.prog 122) := by
  intro M n Q h1 h2 h3
  obtain ⟨a0, a1, e, h⟩ := grow_spec (TS := 9) h1 h2 h3
  cases e
  exact r_Grow_uint64_calls h
theorem concat : ConcatC 25 (CallsR Tryz.prog 96) := by
  intro M bb TS v w xs ys Q h1 h2 h3 h4 h5 h6 hQ
  obtain ⟨a0, e, h⟩ := concat_spec (TS := 9) grow h1 h2 h3 h4 h5 h6 hQ
  cases e
  exact r_Concat_uint64_calls h
theorem order2x : Order2X 25 3 (CallsR Tryz.prog 162) := fun {M b s k i j d Q} h1 h2 h3 h4 hQ => by
  obtain ⟨a0, a1, a2, a3, e, h⟩ := order2x_spec less h1 h2 h3 h4 hQ
  cases e
  exact r_order2Ordered_uint64_calls h
theorem medianx : MedianX 25 3 (CallsR Tryz.prog 159) := fun {M b s k i j h d Q} h1 h2 h3 h4 h5 hQ => by
  obtain ⟨a0, a1, a2, a3, a4, e, h⟩ := medianx_spec order2x h1 h2 h3 h4 h5 hQ
  cases e
  exact r_medianOrdered_uint64_calls h
theorem medadjx : MedAdjX 25 3 (CallsR Tryz.prog 158) := fun {M b s k i d Q} h1 h2 h3 h4 h5 hQ => by
  obtain ⟨a0, a1, a2, e, h⟩ := medadjx_spec medianx h1 h2 h3 h4 h5 hQ
  cases e
  exact r_medianAdjacentOrdered_uint64_calls h
theorem choosex : ChooseX 25 (CallsR Tryz.prog 147) := fun {M b a e d Q} h1 h2 h3 h4 hQ => by
  obtain ⟨a0, a1, a2, e, h⟩ := choosex_spec medadjx medianx h1 h2 h3 h4 hQ
  cases e
  exact r_choosePivotOrdered_uint64_calls h
theorem partInsx : PartInsX 25 (CallsR Tryz.prog 149) := fun {M b a e d Q} h1 h2 h3 h4 hQ => by
  obtain ⟨a0, a1, a2, e, h⟩ := partInsx_spec less h1 h2 h3 h4 hQ
  cases e
  exact r_partialInsertionSortOrdered_uint64_calls h
theorem insx : SortW 25 (Sort.insertionSort lN) (fun _ _ _ => True) (CallsR Tryz.prog 144) := fun {M b a e d Q} h1 h2 h3 h4 h5 hQ => by
  obtain ⟨a0, a1, a2, e, h⟩ := insS_spec less h1 h2 h3 h4 h5 hQ
  cases e
  exact r_insertionSortOrdered_uint64_calls h
theorem siftx : SiftC 25 (CallsR Tryz.prog 157) := fun {M b lo hi first d Q} h1 h2 h3 h4 hQ => by
  obtain ⟨a0, a1, a2, a3, e, h⟩ := sift_spec less h1 h2 h3 h4 hQ
  cases e
  exact r_siftDownOrdered_uint64_calls h
theorem heapx : SortW 25 (Sort.heapSort lN) (fun _ a e => a < e) (CallsR Tryz.prog 145) := fun {M b a e d Q} h1 h2 h3 h4 h5 hQ => by
  obtain ⟨a0, a1, a2, e, h⟩ := heap_spec siftx h1 h2 h3 h4 h5 hQ
  cases e
  exact r_heapSortOrdered_uint64_calls h
theorem reversex : SortW 25 Sort.reverseRange (fun _ a e => a < e) (CallsR Tryz.prog 148) := fun {M b a e d Q} h1 h2 h3 h4 h5 hQ => by
  obtain ⟨a0, a1, a2, e, h⟩ := reverse_spec h1 h2 h3 h4 h5 hQ
  cases e
  exact r_reverseRangeOrdered_uint64_calls h
theorem partEqx : PartEqC 25 (CallsR Tryz.prog 150) := fun {M b a e pv d Q} h1 h2 h3 h4 h5 hQ => by
  obtain ⟨a0, a1, a2, a3, e, h⟩ := partEq_spec less h1 h2 h3 h4 h5 hQ
  cases e
  exact r_partitionEqualOrdered_uint64_calls h
theorem partx : PartC 25 (CallsR Tryz.prog 151) := fun {M b a e pv d Q} h1 h2 h3 h4 h5 hQ => by
  obtain ⟨a0, a1, a2, a3, e, h⟩ := part_spec less h1 h2 h3 h4 h5 hQ
  cases e
  exact r_partitionOrdered_uint64_calls h
theorem len64x : LenX (CallsR Tryz.prog 118) := fun {M x Q} h1 hQ => by
  obtain ⟨a0, e, h⟩ := len64x_spec h1 hQ
  cases e
  exact r_math_bits_Len64_calls h
theorem lenx : LenX (CallsR Tryz.prog 83) := fun {M x Q} h1 hQ => by
  obtain ⟨a0, e, h⟩ := lenx_spec (c3 := CallsR Tryz.prog 117) len64x h1 hQ
  cases e
  exact r_math_bits_Len_calls h
theorem powx : PowX (CallsR Tryz.prog 140) := fun {M x Q} h0 h1 hQ => by
  obtain ⟨a0, e, h⟩ := pow_spec lenx h0 h1 hQ
  cases e
  exact r_nextPowerOfTwo_calls h
theorem xorx : XorX 25 182 (CallsR Tryz.prog 141) := fun {M b s r d Q} h0 hQ => by
  obtain ⟨a0, e, h⟩ := xor_spec h0 hQ
  cases e
  exact r_xorshift_Next_calls h
theorem breakx : BreakX 25 (CallsR Tryz.prog 146) := fun {M b a e d Q} h1 h2 h3 h4 hQ => by
  obtain ⟨a0, a1, a2, e, h⟩ := break_spec powx xorx h1 h2 h3 h4 hQ
  cases e
  exact r_breakPatternsOrdered_uint64_calls h
theorem pdqx : ∀ m, PdqX 25 m (CallsR Tryz.prog 123)
  | 0 => by intro h1 h2 h3 h4 h5; omega
  | m + 1 => by
    intro h1 h2 h3 h4 h5 h6 hQ
    obtain ⟨a0, a1, a2, a3, e, h⟩ := pdqx_spec insx heapx breakx choosex reversex partInsx less partEqx partx (pdqx m) h1 h2 h3 h4 h5 h6 hQ
    cases e
    exact r_pdqsortOrdered_uint64_calls h
theorem insNil : InsNil (CallsR Tryz.prog 144) := fun {M v Q} hQ => by
  obtain ⟨a0, a1, a2, e, h⟩ := insNil_spec (cl := CallsR Tryz.prog 125) (v := v) hQ
  cases e
  exact r_insertionSortOrdered_uint64_calls h
theorem pdqNil : PdqNil (CallsR Tryz.prog 123) := fun {M v Q} hQ => by
  obtain ⟨a0, a1, a2, a3, e, h⟩ := pdqNil_spec (c2 := CallsR Tryz.prog 145) (c3 := CallsR Tryz.prog 146) (cc := CallsR Tryz.prog 147) (c4 := CallsR Tryz.prog 148) (cp := CallsR Tryz.prog 149) (c5 := CallsR Tryz.prog 125) (c6 := CallsR Tryz.prog 150) (c7 := CallsR Tryz.prog 151) (c8 := CallsR Tryz.prog 123) insNil (v := v) hQ
  cases e
  exact r_pdqsortOrdered_uint64_calls h
theorem sortAny : SortC (fun xs => xs.length ≤ 60000) sortN 25 (CallsR Tryz.prog 97) := fun {M base v xs Q} h1 h2 hQ => by
  obtain ⟨a0, e, h⟩ := sortN_spec lenx pdqx pdqNil h1 h2 hQ
  cases e
  exact r_Sort_uint64_calls h
theorem compactAny : CompactC (fun xs => xs.length ≤ 60000) dd 25 (CallsR Tryz.prog 98) := fun {M base v xs Q} h1 h2 hQ => by
  obtain ⟨a0, e, h⟩ := compactN_spec h1 h2 hQ
  cases e
  exact r_Compact_uint64_calls h
theorem joinAny : JoinC (fun xs => xs.length ≤ 60000) (fun xs => xs.length ≤ 60000) sortN dd 114 (CallsR Tryz.prog 73) := fun {M a b ps qs S S' Q} h1 h2 h3 h4 h5 h6 h7 h8 hQ => by
  obtain ⟨a0, a1, e, h⟩ := join_spec (TP := 111) (TL := 109) concat sortAny compactAny settled h1 h2 h3 h4 h5 h6 h7 h8 hQ
  cases e
  exact r_Set_Join_calls h
end Go.Proofs.YtlhlnchhaminjaaGreat.cshare
set_option maxRecDepth 100000
set_option linter.unusedVariables false
set_option linter.unusedSimpArgs false
namespace Go.Proofs.YtlhlnchhaminjaaGreat.cshare
open Go Go.Ab Go.Ab.Dot Go.Ab.Crw Go.RowKit
theorem lessD : LessDC (CallsR Tryz.prog 60) := by
  intro M a b Q h1
  obtain ⟨a0, a1, e, h⟩ := lessD_spec (T := 27) h1
  cases e
  exact r_Less_calls h
theorem refLess : LessDC (CallsR Tryz.prog 62) := by
  intro M a b Q h1
  obtain ⟨a0, a1, e, h⟩ := refLess_spec (T := 27) h1
  cases e
  exact r_Less_2_calls h
theorem names : NamesC (CallsR Tryz.prog 59) := by
  intro M x y z Q h1
  obtain ⟨a0, a1, a2, e, h⟩ := names_spec h1
  cases e
  exact r_goodNames_calls h
theorem goodEv : GoodEvC (CallsR Tryz.prog 17) := by
  intro M e kv ks Q h1 h2
  obtain ⟨a0, e, h⟩ := goodEv_spec (TE := 30) (TD := 27) good names lessD h1 h2
  cases e
  exact r_Good_calls h
theorem refGoodEv : GoodEvC (CallsR Tryz.prog 20) := by
  intro M e kv ks Q h1 h2
  obtain ⟨a0, e, h⟩ := refGoodEv_spec (TE := 30) refGood refLess h1 h2
  cases e
  exact r_GoodEvent_calls h
theorem nanS : NaNF (α := List UInt8) (fun s => St s) (CallsR Tryz.prog 119) := by
  intro M x Q h1
  obtain ⟨a0, e, h⟩ := nanS_spec h1
  cases e
  exact r_isNaN_string_calls h
theorem nanU : NaNF (α := Nat) (fun n => N .u64 (n : Int)) (CallsR Tryz.prog 135) := by
  intro M x Q h1
  obtain ⟨a0, e, h⟩ := nanU_spec h1
  cases e
  exact r_isNaN_uint64_calls h
theorem nanI : NaNF (α := Int) (fun n => N .i64 n) (CallsR Tryz.prog 136) := by
  intro M x Q h1
  obtain ⟨a0, e, h⟩ := nanI_spec h1
  cases e
  exact r_isNaN_int_calls h
theorem cmpS : Cmp3C (α := List UInt8) (fun s => St s) (fun x y => decide (x < y)) (CallsR Tryz.prog 85) := by
  intro M x y Q h1
  obtain ⟨a0, a1, e, h⟩ := cmpS_spec nanS h1
  cases e
  exact r_Compare_string_calls h
theorem cmpU : Cmp3C (α := Nat) (fun n => N .u64 (n : Int)) (fun x y => decide (x < y)) (CallsR Tryz.prog 105) := by
  intro M x y Q h1
  obtain ⟨a0, a1, e, h⟩ := cmpU_spec nanU h1
  cases e
  exact r_Compare_uint64_calls h
theorem cmpI : Cmp3C (α := Int) (fun n => N .i64 n) (fun x y => decide (x < y)) (CallsR Tryz.prog 106) := by
  intro M x y Q h1
  obtain ⟨a0, a1, e, h⟩ := cmpI_spec nanI h1
  cases e
  exact r_Compare_int_calls h
theorem or_ : OrC (CallsR Tryz.prog 84) := by
  intro M v xs Q h1 h2 h3
  obtain ⟨a0, e, h⟩ := or_spec h1 h2 h3
  cases e
  exact r_Or_int_calls h
theorem byDot : ByDotC (CallsR Tryz.prog 80) := by
  intro M x y Q h1
  obtain ⟨a0, a1, e, h⟩ := byDot_spec cmpU cmpI or_ h1
  cases e
  exact r_byDot_calls h
theorem compare : CompareC (CallsR Tryz.prog 45) := by
  intro M x y Q h1
  obtain ⟨a0, a1, e, h⟩ := compare_spec cmpS byDot or_ h1
  cases e
  exact r_compare_calls h
abbrev fE : AV := .fn (.func 45) [] []
theorem cmpE : CmpC EntE ltE (callV (CallsR Tryz.prog) fE) := cmpE_of compare
theorem insE : SortG EntE 58 5 fE (Sort.insertionSort ltE) (fun _ _ _ => True) (CallsR Tryz.prog 109) := by
  intro M b a e d Q h1 h2 h3 h4 h5 h6
  obtain ⟨a0, a1, a2, a3, e, h⟩ := Crw.insE (cv := CallsR Tryz.prog) cmpE h1 h2 h3 h4 h5 h6
  cases e
  exact r_insertionSortCmpFunc_Entry_calls h
theorem revE : SortG EntE 58 5 fE Sort.reverseRange (fun _ a e => a < e) (CallsR Tryz.prog 113) := by
  intro M b a e d Q h1 h2 h3 h4 h5 h6
  obtain ⟨a0, a1, a2, a3, e, h⟩ := Crw.revE h1 h2 h3 h4 h5 h6
  cases e
  exact r_reverseRangeCmpFunc_Entry_calls h
theorem siftE : SiftE 58 fE ltE (CallsR Tryz.prog 139) := by
  intro M b lo hi first d Q h1 h2 h3 h4 h5
  obtain ⟨a0, a1, a2, a3, a4, e, h⟩ := Crw.siftE (cv := CallsR Tryz.prog) cmpE h1 h2 h3 h4 h5
  cases e
  exact r_siftDownCmpFunc_Entry_calls h
theorem heapE : SortG EntE 58 5 fE (Sort.heapSort ltE) (fun _ a e => a < e) (CallsR Tryz.prog 110) := by
  intro M b a e d Q h1 h2 h3 h4 h5 h6
  obtain ⟨a0, a1, a2, a3, e, h⟩ := Crw.heapE siftE h1 h2 h3 h4 h5 h6
  cases e
  exact r_heapSortCmpFunc_Entry_calls h
theorem partEqE : PartEqE 58 fE ltE (CallsR Tryz.prog 115) := by
  intro M b a e pv d Q h1 h2 h3 h4 h5 h6
  obtain ⟨a0, a1, a2, a3, a4, e, h⟩ := Crw.partEqE (cv := CallsR Tryz.prog) cmpE h1 h2 h3 h4 h5 h6
  cases e
  exact r_partitionEqualCmpFunc_Entry_calls h
theorem partE : PartE 58 fE ltE (CallsR Tryz.prog 116) := by
  intro M b a e pv d Q h1 h2 h3 h4 h5 h6
  obtain ⟨a0, a1, a2, a3, a4, e, h⟩ := Crw.partE (cv := CallsR Tryz.prog) cmpE h1 h2 h3 h4 h5 h6
  cases e
  exact r_partitionCmpFunc_Entry_calls h
theorem order2E : Order2E 58 3 fE ltE (CallsR Tryz.prog 156) := by
  intro M b s k i j d Q h1 h2 h3 h4 h5 h6
  obtain ⟨a0, a1, a2, a3, a4, e, h⟩ := Crw.order2E (cv := CallsR Tryz.prog) cmpE h1 h2 h3 h4 h5 h6
  cases e
  exact r_order2CmpFunc_Entry_calls h
theorem medianE : MedianE 58 3 fE ltE (CallsR Tryz.prog 143) := by
  intro M b s k i j h d Q h1 h2 h3 h4 h5 h6 h7
  obtain ⟨a0, a1, a2, a3, a4, a5, e, h⟩ := Crw.medianE order2E h1 h2 h3 h4 h5 h6 h7
  cases e
  exact r_medianCmpFunc_Entry_calls h
theorem medadjE : MedAdjE 58 3 fE ltE (CallsR Tryz.prog 142) := by
  intro M b s k i d Q h1 h2 h3 h4 h5 h6 h7
  obtain ⟨a0, a1, a2, a3, e, h⟩ := Crw.medadjE medianE h1 h2 h3 h4 h5 h6 h7
  cases e
  exact r_medianAdjacentCmpFunc_Entry_calls h
theorem chooseE : ChooseE 58 fE ltE (CallsR Tryz.prog 112) := by
  intro M b a e d Q h1 h2 h3 h4 h5
  obtain ⟨a0, a1, a2, a3, e, h⟩ := Crw.chooseE medadjE medianE h1 h2 h3 h4 h5
  cases e
  exact r_choosePivotCmpFunc_Entry_calls h
theorem partInsE : PartInsE 58 fE ltE (CallsR Tryz.prog 114) := by
  intro M b a e d Q h1 h2 h3 h4 h5
  obtain ⟨a0, a1, a2, a3, e, h⟩ := Crw.partInsE (cv := CallsR Tryz.prog) cmpE h1 h2 h3 h4 h5
  cases e
  exact r_partialInsertionSortCmpFunc_Entry_calls h
theorem xorA : XorA 182 (CallsR Tryz.prog 141) := by
  intro M s r Q h1 h2 h3
  obtain ⟨a0, e, h⟩ := xorA_spec h1 h2 h3
  cases e
  exact r_xorshift_Next_calls h
theorem breakE : SortG EntE 58 5 fE Sort.breakPatterns (fun _ _ _ => True) (CallsR Tryz.prog 111) := by
  intro M b a e d Q h1 h2 h3 h4 h5 h6
  obtain ⟨a0, a1, a2, a3, e, h⟩ := Crw.breakE powx xorA h1 h2 h3 h4 h5 h6
  cases e
  exact r_breakPatternsCmpFunc_Entry_calls h
theorem pdqE : ∀ m, PdqE 58 m fE ltE (CallsR Tryz.prog 82)
  | 0 => by intro h1 h2 h3 h4 h5; omega
  | m + 1 => by
    intro h1 h2 h3 h4 h5 h6 hQ
    obtain ⟨a0, a1, a2, a3, a4, e, h⟩ := Crw.pdqE (cv := CallsR Tryz.prog) swo_ltE insE heapE breakE chooseE revE partInsE cmpE partEqE partE (pdqE m) h1 h2 h3 h4 h5 h6 hQ
    cases e
    exact r_pdqsortCmpFunc_Entry_calls h
theorem insNilE : InsNilE (CallsR Tryz.prog 109) := by
  intro M v fv Q h1
  obtain ⟨a0, a1, a2, a3, e, h⟩ := Crw.insNilE (cv := CallsR Tryz.prog) h1
  cases e
  exact r_insertionSortCmpFunc_Entry_calls h
theorem pdqNilE : PdqNilE (CallsR Tryz.prog 82) := by
  intro M v fv Q h1
  obtain ⟨a0, a1, a2, a3, a4, e, h⟩ := Crw.pdqNilE (cv := CallsR Tryz.prog) insNilE h1
  cases e
  exact r_pdqsortCmpFunc_Entry_calls h
theorem sortFn : SortFnE fE ltE 58 (CallsR Tryz.prog 44) := by
  intro M base v xs Q h1 h2 h3
  obtain ⟨a0, a1, e, h⟩ := Crw.sortFnE swo_ltE lenx pdqE pdqNilE h1 h2 h3
  cases e
  exact r_SortFunc_Entry_calls h
theorem clone : CloneEC 58 (CallsR Tryz.prog 43) := by
  intro M v xs Q h1 h2 h3
  obtain ⟨a0, e, h⟩ := cloneE_spec h1 h2 h3
  cases e
  exact r_Clone_Entry_calls h
theorem index : IndexDC (CallsR Tryz.prog 87) := by
  intro M v l d Q h1 h2 h3
  obtain ⟨a0, a1, e, h⟩ := indexD_spec (T := 27) h1 h2 h3
  cases e
  exact r_Index_Dot_calls h
theorem contains : ContainsDC (CallsR Tryz.prog 48) := by
  intro M v l d Q h1 h2 h3
  obtain ⟨a0, a1, e, h⟩ := containsD_spec (T := 27) index h1 h2 h3
  cases e
  exact r_Contains_Dot_calls h
theorem equalE : EqualEC (CallsR Tryz.prog 49) := by
  intro M v w xs ys Q h1 h2 h3 h4
  obtain ⟨a0, a1, e, h⟩ := equalE_spec h1 h2 h3 h4
  cases e
  exact r_Equal_Entry_calls h
theorem apply1 {b : Nat} {e : EvT} {kv : AV} {ks : List Dot} (hl : ks.length ≤ 1000000) : PredC (EvAt 30 b e kv ks) (fun x => decide (x.1 ∈ ks)) (callV (CallsR Tryz.prog) (.fn (.func 47) [] [.ptr b 0])) := by
  intro M x Q hP hQ
  obtain ⟨a0, a1, e, h⟩ := apply1_spec (T := 58) contains hl hP hQ
  refine ⟨47, [], [.ptr b 0], rfl, ?_⟩
  show CallsR Tryz.prog 47 [.agg (EntE.cells x), .ptr b 0] M Q
  cases e
  exact r_State_Apply_1_calls h
theorem indexF {P : RM → Prop} {p : Crw.Ent → Bool} {fv : AV} (hp : PredC P p (callV (CallsR Tryz.prog) fv)) : IndexFC P p fv (CallsR Tryz.prog 86) := by
  intro M v xs Q h1 h2 h3 h4 h5 h6
  obtain ⟨a0, a1, e, h⟩ := indexF_spec hp h1 h2 h3 h4 h5 h6
  cases e
  exact r_IndexFunc_Entry_calls h
theorem deleteF (b : Nat) (e : EvT) (kv : AV) (ks : List Dot) (hl : ks.length ≤ 1000000) : DeleteFC 58 (EvAt 30 b e kv ks) (fun x => decide (x.1 ∈ ks)) (.fn (.func 47) [] [.ptr b 0]) (CallsR Tryz.prog 46) := by
  intro M base v xs Q h1 h2 h3 h4 hQ
  obtain ⟨a0, a1, e, h⟩ := deleteF_spec (TE := 58) (indexF (apply1 hl)) (apply1 hl) h1 h2 h3 h4 hQ
  cases e
  exact r_DeleteFunc_Entry_calls h
theorem copyA : CopyAC 114 (CallsR Tryz.prog 41) := by
  intro M b qs S' k Q h1 h2 h3 h4
  obtain ⟨a0, e, h⟩ := copyA_spec new joinAny h1 h2 h3 h4
  cases e
  exact r_Set_Copy_calls h
theorem newSt : NewStC 75 114 (CallsR Tryz.prog 11) := by
  intro M Q h1
  obtain ⟨e, h⟩ := newSt_spec new h1
  exact r_New_calls h
theorem apply : ApplyC 75 114 (CallsR Tryz.prog 14) := by
  intro M t k B ps es e kv ks Q h1 h2 h3 h4 h5 h6 h7 h8
  obtain ⟨a0, a1, e, h⟩ := apply_spec (TE := 30) (TD := 27) (TN := 58) (cv := CallsR Tryz.prog) goodEv copyA addS hasS clone sortFn deleteF within equalE h1 h2 h3 h4 h5 h6 h7 h8
  cases e
  exact r_State_Apply_calls h
theorem own : OwnC 30 (CallsR Tryz.prog 19) := by
  intro M v l Q h1 h2 h3
  obtain ⟨a0, e, h⟩ := own_spec refGoodEv h1 h2 h3
  cases e
  exact r_own_calls h
end Go.Proofs.YtlhlnchhaminjaaGreat.cshare
set_option maxRecDepth 100000
set_option linter.unusedVariables false
set_option linter.unusedSimpArgs false
namespace Go.Proofs.YtlhlnchhaminjaaGreat.cshare
open Go Go.Ab Go.Ab.Dot Go.Ab.Crw Go.RowKit
theorem repL_chunks {α : Type} {R : Rep α} {M : RM} {S : Nat → Prop} {p : α → Prop} : ∀ (n : Nat) (ds : List AV), ds.length = n * R.size → (∀ i, i < n → ∃ a, p a ∧ R.rel M ((ds.drop (i * R.size)).take R.size) a S) →
    ∃ xs : List α, xs.length = n ∧ RepL R M S ds xs ∧ ∀ x ∈ xs, p x
  | 0, ds, hl, _ => by
    have : ds = [] := by simpa using hl
    subst this
    exact ⟨[], rfl, .nil, by simp⟩
  | n + 1, ds, hl, h => by
    obtain ⟨a, pa, ha⟩ := h 0 (by omega)
    simp only [Nat.zero_mul, List.drop_zero] at ha
    have hl' : (ds.drop R.size).length = n * R.size := by rw [List.length_drop, hl, Nat.succ_mul]; omega
    obtain ⟨xs, h1, h2, h3⟩ := repL_chunks n (ds.drop R.size) hl' fun i hi => by
      obtain ⟨b, pb, hb⟩ := h (i + 1) (by omega)
      refine ⟨b, pb, ?_⟩
      rw [List.drop_drop, show R.size + i * R.size = (i + 1) * R.size by rw [Nat.succ_mul, Nat.add_comm]]
      exact hb
    refine ⟨a :: xs, by simp [h1], ?_, fun x hx => ?_⟩
    · have := RepL.cons ha h2
      rwa [List.take_append_drop] at this
    · rcases List.mem_cons.1 hx with rfl | hx
      · exact pa
      · exact h3 x hx
theorem cells3 : Tryz.prog.cellsOf 3 = 1 := by kernel_rfl
theorem cells9 : Tryz.prog.cellsOf 9 = 1 := by kernel_rfl
theorem cells25 : Tryz.prog.cellsOf 25 = 1 := by kernel_rfl
theorem cells27 : Tryz.prog.cellsOf 27 = 2 := by kernel_rfl
theorem cells28 : Tryz.prog.cellsOf 28 = 1 := by kernel_rfl
theorem cells30 : Tryz.prog.cellsOf 30 = 7 := by kernel_rfl
theorem fits_dot {M : RM} {cs : List AV} (h : Fits Tryz.prog M 27 cs) : ∃ d : Dot, cs = DotE.cells d ∧ d.2 < 2 ^ 64 := by
  obtain ⟨hl, hf⟩ := h.struct_inv Tryz.underlying27
  rw [cells27] at hl
  match cs, hl with
  | [a, b], _ =>
    have f0 : Fits Tryz.prog M 3 (([a, b].drop 0).take (Tryz.prog.cellsOf 3)) := hf 0 _ rfl
    have f1 : Fits Tryz.prog M 25 (([a, b].drop 1).take (Tryz.prog.cellsOf 25)) := hf 1 _ rfl
    rw [cells3] at f0
    rw [cells25] at f1
    obtain ⟨n, e, _, _⟩ := f0.int_inv Tryz.underlying3
    obtain ⟨m, e', g1, g2⟩ := f1.int_inv Tryz.underlying25
    have g1 : (0 : Int) ≤ m := g1
    have g2 : m ≤ (18446744073709551615 : Int) := g2
    obtain ⟨k, rfl⟩ := Int.eq_ofNat_of_zero_le g1
    cases e; cases e'
    exact ⟨(n, k), rfl, by show k < 2 ^ 64; omega⟩
theorem fits_dots {M : RM} {cs : List AV} (h : Fits Tryz.prog M 28 cs) : ∃ v, ∃ l : List Dot, cs = [v] ∧ Sl DotE M v l ∧ ∀ d ∈ l, d.2 < 2 ^ 64 := by
  obtain ⟨v, n, ds, rfl, hs, hb, he⟩ := h.slice_inv Tryz.underlying28 (by rw [cells27]; decide)
  rw [cells27] at hs he
  obtain ⟨xs, rfl, rfl, hp⟩ := chunks_of (size := 2) DotE.cells (fun d : Dot => d.2 < 2 ^ 64) (fun _ => rfl) n ds hs.length fun i hi => by
    obtain ⟨d, e, h⟩ := fits_dot (he i hi)
    exact ⟨d, h, e⟩
  exact ⟨v, xs, rfl, hs, hp⟩
def OkEv (x : Ev) : Prop := x.1.1.2 < 2 ^ 64 ∧ x.1.2.2.1.length ≤ reachBytes ∧ x.1.2.2.2.1.length ≤ reachBytes ∧ x.1.2.2.2.2.length ≤ reachBytes ∧ ∀ d ∈ x.2, d.2 < 2 ^ 64
theorem fits_ev {M : RM} {cs : List AV} (h : Fits Tryz.prog M 30 cs) : ∃ e kv ks, cs = evRow e kv ∧ Sl DotE M kv ks ∧ OkEv (e, ks) := by
  obtain ⟨hl, hf⟩ := h.struct_inv Tryz.underlying30
  rw [cells30] at hl
  match cs, hl with
  | [a, b, c, d, e, f, g], _ =>
    have f0 : Fits Tryz.prog M 27 (([a, b, c, d, e, f, g].drop 0).take (Tryz.prog.cellsOf 27)) := hf 0 _ rfl
    have f1 : Fits Tryz.prog M 3 (([a, b, c, d, e, f, g].drop 2).take (Tryz.prog.cellsOf 3)) := hf 1 _ rfl
    have f2 : Fits Tryz.prog M 9 (([a, b, c, d, e, f, g].drop 3).take (Tryz.prog.cellsOf 9)) := hf 2 _ rfl
    have f3 : Fits Tryz.prog M 9 (([a, b, c, d, e, f, g].drop 4).take (Tryz.prog.cellsOf 9)) := hf 3 _ rfl
    have f4 : Fits Tryz.prog M 9 (([a, b, c, d, e, f, g].drop 5).take (Tryz.prog.cellsOf 9)) := hf 4 _ rfl
    have f5 : Fits Tryz.prog M 28 (([a, b, c, d, e, f, g].drop 6).take (Tryz.prog.cellsOf 28)) := hf 5 _ rfl
    rw [cells27] at f0
    rw [cells3] at f1
    rw [cells9] at f2 f3 f4
    rw [cells28] at f5
    obtain ⟨dd, e0, g0⟩ := fits_dot f0
    obtain ⟨op, e1, _, _⟩ := f1.int_inv Tryz.underlying3
    obtain ⟨s2, e2, g2⟩ := f2.str_inv Tryz.underlying9
    obtain ⟨s3, e3, g3⟩ := f3.str_inv Tryz.underlying9
    obtain ⟨s4, e4, g4⟩ := f4.str_inv Tryz.underlying9
    obtain ⟨kv, ks, e5, hk, g5⟩ := fits_dots f5
    cases e0; cases e1; cases e2; cases e3; cases e4; cases e5
    exact ⟨(dd, (op, (s2, (s3, s4)))), _, ks, rfl, hk, g0, g2, g3, g4, g5⟩
theorem fits_evs {M : RM} {cs : List AV} (h : Fits Tryz.prog M 43 cs) : ∃ v, ∃ l : List Ev, cs = [v] ∧ SlD EvR M v l (fun d => d < M.next) ∧ ∀ x ∈ l, OkEv x := by
  obtain ⟨v, n, ds, rfl, hs, hb, he⟩ := h.slice_inv Tryz.underlying43 (by rw [cells30]; decide)
  rw [cells30] at hs he
  obtain ⟨xs, hn, hr, hp⟩ := repL_chunks (R := EvR) (M := M) (S := fun d => d < M.next) (p := OkEv) n ds hs.length fun i hi => by
    obtain ⟨e, kv, ks, e1, hk, ho⟩ := fits_ev (he i hi)
    refine ⟨(e, ks), ho, ?_⟩
    show EvR.rel M ((ds.drop (i * 7)).take 7) (e, ks) _
    rw [e1]
    exact ev_rel hk (fun d hd => SlR.lt hk d hd)
  subst hn
  exact ⟨v, xs, rfl, ⟨ds, hs, fun d hd => hs.lt d hd, hr⟩, hp⟩
end Go.Proofs.YtlhlnchhaminjaaGreat.cshare
set_option maxRecDepth 100000
set_option linter.unusedVariables false
set_option linter.unusedSimpArgs false
namespace Go.Proofs.YtlhlnchhaminjaaGreat.cshare
open Go Go.Ab Go.Ab.Dot Go.Ab.Crw Go.RowKit
theorem cmpZ : CmpZ fE (callV (CallsR Tryz.prog) fE) := cmpZ_of compare
theorem searchE : SearchEC fE (CallsR Tryz.prog 95) := by
  intro M v xs x Q h1 h2 h3 h4
  obtain ⟨a0, a1, a2, e, h⟩ := searchE_spec (TN := 58) (cv := CallsR Tryz.prog) cmpZ h1 h2 h3 h4
  cases e
  exact r_BinarySearchFunc_Entry_calls h
theorem hasE : HasEC 75 114 (CallsR Tryz.prog 72) := by
  intro M t B ps es x Q h1 h2 h3 h4
  obtain ⟨a0, a1, e, h⟩ := hasE_spec (TN := 58) searchE h1 h2 h3 h4
  cases e
  exact r_State_has_calls h
theorem seen : SeenC 75 114 (CallsR Tryz.prog 32) := by
  intro M t k B ps es Q h1 h2 h3 h4
  obtain ⟨a0, e, h⟩ := seen_spec copyA h1 h2 h3 h4
  cases e
  exact r_State_Seen_calls h
theorem copySt : CopyStC 75 114 (CallsR Tryz.prog 25) := by
  intro M t k B ps es Q h1 h2 h3 h4 h5
  obtain ⟨a0, e, h⟩ := copySt_spec copyA clone h1 h2 h3 h4 h5
  cases e
  exact r_State_Copy_calls h
theorem sameSt : SameStC 75 114 (CallsR Tryz.prog 24) := by
  intro M t u k l B C ps qs es fs Q h1 h2 h3 h4 h5 h6 h7 h8
  obtain ⟨a0, a1, e, h⟩ := sameSt_spec equalE within h1 h2 h3 h4 h5 h6 h7 h8
  cases e
  exact r_State_Same_calls h
theorem state : StateC 75 114 (CallsR Tryz.prog 21) := by
  intro M v l n m back Q h1 h2 h3 h4 h5
  obtain ⟨a0, a1, a2, e, h⟩ := state_spec newSt apply h1 h2 h3 h4 h5
  cases e
  exact r_state_calls h
theorem joinSt : JoinStC 75 114 (CallsR Tryz.prog 26) := by
  intro M t u k l B C ps qs es fs Q h1 h2 h3 h4 h5 h6 h7 h8 h9 h10 h11 h12 h13 h14
  obtain ⟨a0, a1, e, h⟩ := joinSt_spec (TN := 58) hasE hasS sortFn joinAny h1 h2 h3 h4 h5 h6 h7 h8 h9 h10 h11 h12 h13 h14
  cases e
  exact r_State_Join_calls h
theorem loads_take {M : RM} {b o n k : Nat} {cs : List AV} (h : M.loads b o n = some cs) (hk : k ≤ n) : M.loads b o k = some (cs.take k) := by
  unfold RM.loads at h ⊢
  split at h
  · rename_i l _
    split at h
    · cases h
      rw [if_pos (by omega), List.take_take, Nat.min_eq_left hk]
    · cases h
  · cases h
theorem evs_take {M : RM} {b o n k : Nat} {cap cap' : Cap} {l : List Ev} (h : SlD EvR M (.slc b o n cap) l (fun d => d < M.next)) (hk : k ≤ l.length) : SlD EvR M (.slc b o k cap') (l.take k) (fun d => d < M.next) := by
  obtain ⟨cs, h1, h2, h3⟩ := h
  generalize hn : l.length = m at h1 hk
  cases h1 with
  | slc _ _ _ _ _ hb hl =>
    refine ⟨cs.take (k * 7), ?_, h2, h3.take k⟩
    rw [List.length_take, hn, Nat.min_eq_left hk]
    exact .slc _ _ _ _ _ hb (loads_take hl (Nat.mul_le_mul_right _ hk))
theorem cut_evs {M : RM} {cs : List AV} (h : Fits Tryz.prog M 43 cs) {v : AV} {l : List Ev} (hc : cs = [v]) {M' : RM} (hl : SlD EvR M' v l (fun d => d < M'.next)) : CutV M' v l := by
  have hu := Tryz.underlying43
  have key : v = nilS ∨ (∃ b, v = .emp b) ∨ ∃ b o n c, v = .slc b o n (.ex c) ∧ n ≤ c := by
    cases h with
    | nils _ e' h1 => cases hc; exact .inl rfl
    | emp _ e' b h1 => cases hc; exact .inr (.inl ⟨b, rfl⟩)
    | slc _ e' b o n c ds h1 h2 h3 h4 h5 h6 => cases hc; exact .inr (.inr ⟨b, o, n, c, rfl, h3⟩)
    | zero _ e' _ h1 h2 =>
      rw [hu] at h1
      cases h1
      rw [cells30] at h2
      cases h2
    | _ => simp_all [otherT]
  intro k hk
  have hl0 := hl
  rcases key with rfl | ⟨b, rfl⟩ | ⟨b, o, n, c, rfl, hn⟩
  · obtain ⟨cs, h1, h2, h3⟩ := hl
    generalize hm : l.length = m at h1 hk
    cases h1
    have hk0 : k = 0 := by omega
    subst hk0
    have : l = [] := List.length_eq_zero_iff.1 hm
    subst this
    exact ⟨nilS, rfl, hl0⟩
  · obtain ⟨cs, h1, h2, h3⟩ := hl
    generalize hm : l.length = m at h1 hk
    cases h1
    have hk0 : k = 0 := by omega
    subst hk0
    have : l = [] := List.length_eq_zero_iff.1 hm
    subst this
    exact ⟨.emp b, rfl, hl0⟩
  · have hln : l.length = n := by
      obtain ⟨cs, h1, _, _⟩ := hl
      generalize hm : l.length = m at h1
      cases h1
      rfl
    by_cases hc0 : c = 0
    · refine ⟨.slc b o 0 (.ex 0), ?_, ?_⟩
      · have hk0 : k = 0 := by omega
        subst hk0
        subst hc0
        simp [subS, bnd]
      · have hk0 : k = 0 := by omega
        subst hk0
        exact evs_take hl (Nat.zero_le _)
    · exact ⟨_, subS_to_ex (by omega) hc0, evs_take hl hk⟩
end Go.Proofs.YtlhlnchhaminjaaGreat.cshare
namespace Go.Proofs.YtlhlnchhaminjaaGreat
open Go Go.Ab Go.RowKit
def ext : Ext := { split := [107], overl := [137], noesc := [] }
theorem xok : XOk Tryz.prog ext where
  ng := names_of (by kernel_rfl)
  overl := by
    intro f hf
    have : f = 137 := by
      unfold ext at hf
      simp only [has] at hf
      split at hf
      · rename_i h; exact (Nat.eq_of_beq_eq_true h).symm
      · cases hf
    subst this
    exact ⟨Tryz.f137, 109, 25, 1, 4, by kernel_rfl, by kernel_rfl, by kernel_rfl, by kernel_rfl, by kernel_rfl, by kernel_rfl⟩
  noesc := fun f hf => by cases hf
theorem mixed : Tryz.prog.follows .mixedOrders = true := by kernel_rfl
def Iv : World → Prop := fun _ => True
end Go.Proofs.YtlhlnchhaminjaaGreat
namespace Go.Proofs.YtlhlnchhaminjaaGreat
open Go Go.Ab Go.RowKit
def c0 : AV := .ptr 0 0
def c1 : AV := .sc (.slice none 0 0)
def c2 : Option AV := some c1
def c3 : Tree AV := .node .leaf c2 .leaf
def c4 : Tree AV := .node c3 c2 .leaf
def c5 : Tree AV := .node c4 c2 c3
def c6 : Tree AV := .node c3 c2 c3
def c7 : Tree AV := .node c5 c2 c6
def c8 : Tree AV := .node c6 c2 c6
def c9 : Tree AV := .node c7 c2 c8
def c10 : AV := .sc (.int .u64 0)
def c11 : Option AV := some c10
def c12 : Tree AV := .node .leaf c11 .leaf
def c13 : Tree AV := .node c12 c11 c12
def c14 : Tree AV := .node c13 c11 c13
def c15 : Tree AV := .node c14 c11 c14
def c16 : Blk := .row 32 (.node c9 c11 c15) [] false 114 0
def c17 : AV := .ptr 4 0
def c18 : AV := .ptr 28 0
def c19 : AV := .ptr 1 0
def c20 : AV := .sc (.string ⟨⟨ [99] ⟩⟩)
def c21 : AV := .sc (.string ⟨⟨ [102, 110] ⟩⟩)
def c22 : Option AV := some c21
def c23 : Tree AV := .node .leaf c22 .leaf
def c24 : AV := .sc (.int .u64 1)
def c25 : Option AV := some c24
def c26 : Tree AV := .node c23 c25 .leaf
def c27 : AV := .sc (.int .i64 0)
def c28 : Option AV := some c27
def c29 : AV := .sc (.string ⟨⟨ [65, 110, 110] ⟩⟩)
def c30 : Option AV := some c29
def c31 : Tree AV := .node .leaf c30 .leaf
def c32 : Option AV := some c20
def c33 : Blk := .row 5 (.node c26 c28 (.node c31 c32 .leaf)) [] true 58 0
def c34 : Tree AV := .node .leaf c25 .leaf
def c35 : Blk := .row 1 c34 [] true 25 0
def c36 : Option AV := some (.emp 10)
def c37 : AV := .slc 14 0 1 (.op 5)
def c38 : AV := .slc 21 0 1 (.op 5)
def c39 : AV := .ptr 5 0
def c40 : Blk := .row 1 c23 [] false 9 0
def c41 : AV := .sc (.int .i64 (-1))
def c42 : AV := .tup []
def c43 : AV := .slc 26 0 1 (.op 2)
def c44 : AV := .agg [c27, c24]
def c45 : AV := .sc (.bool true)
def c46 : AV := .sc (.int .i64 1)
def c47 : AV := .agg [c46, c24]
def c48 : AV := .sc (.string ⟨⟨ [65, 110, 110, 97] ⟩⟩)
def c49 : Blk := .row 2 c4 [c1] false 109 0
def c50 : Tree AV := .node .leaf c36 .leaf
def c51 : Blk := .row 2 (.node c50 c2 .leaf) [c1] false 109 0
def c52 : AV := .ptr 4 2
def c53 : AV := .ptr 9 0
def c54 : Blk := .row 32 (.node c9 c25 c15) [] false 114 0
def c55 : AV := .ptr 28 2
def c56 : AV := .sc (.bool false)
def c57 : AV := .slc 12 0 1 (.op 5)
def c58 : AV := .agg [c27, c24, c20, c21, c29]
def c59 : AV := .ptr 18 0
def c60 : AV := .ptr 65 0
def c61 : AV := .ptr 65 2
def c62 : Option AV := some (.emp 104)
def c63 : Tree AV := .node .leaf c62 .leaf
def c64 : AV := .slc 62 0 1 (.op 5)
def c65 : Tree AV := .node c14 c25 c14
def c66 : AV := .slc 109 0 2 (.op 5)
def c67 : Tree AV := .node .leaf c32 .leaf
def c68 : Option AV := some c48
def c69 : Tree AV := .node .leaf c68 .leaf
def c70 : Option AV := some c46
def c71 : Blk := .row 10 (.node (.node (.node c67 c22 .leaf) c25 (.node c69 c70 .leaf)) c28 (.node (.node c23 c30 .leaf) c32 c34)) [] true 58 0
def c72 : AV := .slc 111 0 2 (.op 5)
def c73 : AV := .ptr 63 0
def c74 : AV := .sc (.string ⟨⟨ [] ⟩⟩)
def c75 : Option AV := some c74
def c76 : Tree AV := .node .leaf c75 .leaf
def c77 : AV := .slc 111 0 1 (.op 5)
def c78 : AV := .slc 118 0 1 (.op 5)
def c79 : Blk := .row 5 (.node c26 c70 (.node c69 c32 .leaf)) [] true 58 0
def c80 : AV := .agg [c46, c24, c20, c21, c48]
def c81 : AV := .ptr 115 0
def c82 : Blk := .row 1 c76 [] false 9 0
def c83 : AV := .slc 123 0 1 (.op 2)
def c84 : Blk := .row 2 (.node c34 c70 .leaf) [] true 27 0
def c85 : AV := .sc (.int .u64 2)
def c86 : AV := .agg [c27, c85]
def c87 : AV := .slc 127 0 1 (.op 1)
def c88 : AV := .sc (.int .u8 0)
def c89 : Option AV := some c88
def c90 : Tree AV := .node .leaf c89 .leaf
def c91 : Blk := .row 1 c90 [] true 5 0
def c92 : AV := .slc 131 0 2 (.op 1)
def c93 : Option AV := some (.sc (.int .u8 2))
def c94 : Tree AV := .node .leaf c93 .leaf
def c95 : Blk := .row 2 (.node c94 c89 .leaf) [] true 5 0
def c96 : AV := .slc 135 0 3 (.op 1)
def c97 : Blk := .row 3 (.node c94 c89 c94) [] true 5 0
def c98 : AV := .slc 140 0 5 (.op 1)
def c99 : Option AV := some (.sc (.int .u8 1))
def c100 : Tree AV := .node .leaf c99 .leaf
def c101 : Tree AV := .node c100 c93 .leaf
def c102 : Option AV := some (.sc (.int .u8 99))
def c103 : Tree AV := .node .leaf c102 .leaf
def c104 : Tree AV := .node c103 c93 .leaf
def c105 : Blk := .row 5 (.node c101 c89 c104) [] true 5 0
def c106 : AV := .slc 144 0 6 (.op 1)
def c107 : Tree AV := .node c100 c93 c90
def c108 : Blk := .row 6 (.node c107 c89 c104) [] true 5 0
def c109 : AV := .slc 148 0 7 (.op 1)
def c110 : Tree AV := .node c103 c93 c90
def c111 : Blk := .row 7 (.node c107 c89 c110) [] true 5 0
def c112 : AV := .slc 152 0 8 (.op 1)
def c113 : Tree AV := .node c100 c99 .leaf
def c114 : Tree AV := .node c113 c93 c90
def c115 : Blk := .row 8 (.node c114 c89 c110) [] true 5 0
def c116 : AV := .slc 157 0 9 (.op 1)
def c117 : Tree AV := .node (.node c100 c102 .leaf) c93 c90
def c118 : Blk := .row 9 (.node c114 c89 c117) [] true 5 0
def c119 : AV := .slc 161 0 10 (.op 1)
def c120 : Tree AV := .node c100 c89 .leaf
def c121 : Blk := .row 10 (.node (.node c113 c93 c120) c89 c117) [] true 5 0
def c122 : AV := .slc 164 0 10 (.op 1)
def c123 : AV := .slc 192 0 1 (.op 1)
def c124 : Blk := .row 1 c94 [] true 5 0
def c125 : AV := .slc 197 0 2 (.op 1)
def c126 : Blk := .row 2 (.node c90 c93 .leaf) [] true 5 0
def c127 : AV := .slc 201 0 3 (.op 1)
def c128 : Blk := .row 3 (.node c90 c93 c100) [] true 5 0
def c129 : AV := .slc 205 0 4 (.op 1)
def c130 : Tree AV := .node c90 c89 .leaf
def c131 : Blk := .row 4 (.node c130 c93 c100) [] true 5 0
def c132 : AV := .slc 210 0 5 (.op 1)
def c133 : Blk := .row 5 (.node c130 c93 c113) [] true 5 0
def c134 : AV := .slc 214 0 6 (.op 1)
def c135 : Tree AV := .node c90 c89 c100
def c136 : Blk := .row 6 (.node c135 c93 c113) [] true 5 0
def c137 : AV := .slc 221 0 8 (.op 1)
def c138 : Tree AV := .node c90 c99 .leaf
def c139 : Tree AV := .node c138 c93 c100
def c140 : Option AV := some (.sc (.int .u8 7))
def c141 : Blk := .row 8 (.node c139 c140 c135) [] true 5 0
def c142 : AV := .slc 225 0 9 (.op 1)
def c143 : Tree AV := .node c120 c89 c100
def c144 : Blk := .row 9 (.node c139 c140 c143) [] true 5 0
def c145 : AV := .slc 230 0 10 (.op 1)
def c146 : Tree AV := .node c138 c93 c113
def c147 : Blk := .row 10 (.node c146 c140 c143) [] true 5 0
def c148 : AV := .slc 234 0 11 (.op 1)
def c149 : Tree AV := .node c120 c89 c113
def c150 : Blk := .row 11 (.node c146 c140 c149) [] true 5 0
def c151 : AV := .slc 239 0 13 (.op 1)
def c152 : Tree AV := .node c90 c99 c100
def c153 : Tree AV := .node c152 c93 c113
def c154 : Tree AV := .node c100 c89 c103
def c155 : Tree AV := .node c154 c89 c113
def c156 : Blk := .row 13 (.node c153 c140 c155) [] true 5 0
def c157 : AV := .slc 244 0 16 (.op 1)
def c158 : Tree AV := .node .leaf (some (.sc (.int .u8 110))) .leaf
def c159 : Tree AV := .node c158 c89 .leaf
def c160 : Tree AV := .node c100 c99 c94
def c161 : Tree AV := .node (.node c159 c99 c100) c93 c160
def c162 : Tree AV := .node .leaf (some (.sc (.int .u8 102))) .leaf
def c163 : Tree AV := .node c100 c99 c162
def c164 : Blk := .row 16 (.node c161 c140 (.node c154 c89 c163)) [] true 5 0
def c165 : AV := .slc 249 0 21 (.op 1)
def c166 : Tree AV := .node c158 c99 .leaf
def c167 : Tree AV := .node (.node .leaf (some (.sc (.int .u8 4))) .leaf) c99 .leaf
def c168 : Blk := .row 21 (.node (.node (.node c159 c99 c166) c93 (.node (.node (.node .leaf (some (.sc (.int .u8 65))) .leaf) c99 .leaf) c99 c94)) c140 (.node (.node c167 c89 (.node (.node .leaf (some (.sc (.int .u8 97))) .leaf) c102 .leaf)) c89 (.node c166 c99 c162))) [] true 5 0
def c169 : AV := .slc 251 0 21 (.op 1)
def c170 : AV := .slc 253 0 7 (.op 1)
def c171 : Blk := .row 7 (.node c135 c93 (.node c100 c99 c90)) [] true 5 0
def c172 : AV := .slc 255 0 7 (.op 1)
def c173 : AV := .ptr 165 0
def c174 : Tree AV := .node .leaf (some c56) .leaf
def c175 : AV := .tup [c10, c46, c45]
def c176 : AV := .tup [c85, c46, c45]
def c177 : AV := .tup [c24, c46, c45]
def c178 : AV := .ptr 252 0
def c179 : AV := .sc (.int .u64 7)
def c180 : AV := .ptr 256 0
def c181 : Tree AV := .node .leaf c70 .leaf
def c182 : Tree AV := .node c34 c2 .leaf
def c183 : AV := .ptr 257 0
def c184 : Blk := .row 32 (.node c9 c25 c65) [] false 114 0
def c185 : Blk := .row 6 (.node (.node c181 c25 c3) c28 c182) [] true 133 0
def c186 : AV := .slc 279 0 1 (.op 1)
def c187 : AV := .slc 284 0 2 (.op 1)
def c188 : AV := .slc 288 0 3 (.op 1)
def c189 : AV := .slc 292 0 4 (.op 1)
def c190 : AV := .slc 297 0 5 (.op 1)
def c191 : AV := .slc 301 0 6 (.op 1)
def c192 : AV := .slc 333 0 1 (.op 1)
def c193 : AV := .slc 338 0 2 (.op 1)
def c194 : AV := .slc 342 0 3 (.op 1)
def c195 : AV := .slc 346 0 4 (.op 1)
def c196 : AV := .slc 351 0 5 (.op 1)
def c197 : AV := .slc 355 0 6 (.op 1)
def c198 : AV := .slc 362 0 8 (.op 1)
def c199 : AV := .slc 366 0 9 (.op 1)
def c200 : AV := .slc 371 0 10 (.op 1)
def c201 : AV := .slc 375 0 11 (.op 1)
def c202 : AV := .slc 380 0 13 (.op 1)
def c203 : AV := .slc 385 0 16 (.op 1)
def c204 : AV := .slc 305 0 7 (.op 1)
def c205 : AV := .slc 390 0 21 (.op 1)
def c206 : AV := .sc (.int .u64 4)
def c207 : AV := .ptr 257 2
def c208 : AV := .ptr 391 0
def c209 : AV := .ptr 429 0
def c210 : AV := .ptr 429 2
def c211 : AV := .slc 311 0 1 (.op 5)
def c212 : AV := .slc 426 0 1 (.op 5)
def c213 : Option AV := some c85
def c214 : Option AV := some (.emp 468)
def c215 : AV := .ptr 480 0
def c216 : AV := .slc 471 0 1 (.op 5)
def c217 : AV := .slc 473 0 1 (.op 5)
def c218 : AV := .slc 475 0 1 (.op 5)
def c219 : AV := .slc 471 0 0 (.op 5)
def c220 : AV := .slc 476 0 0 (.ex 0)
def c221 : AV := .sc (.int .i64 2)
def c222 : AV := .agg [c27, c85, c221, c20, c74, c74, (.slc 168 0 1 (.op 2))]
def c223 : AV := .agg [c27, c85, c221, c20, c74, c74, c83]
def c224 : AV := .ptr 306 0
def c225 : Option AV := some c183
def c226 : AV := .agg [c27, c10, c27, c74, c74, c74, c1]
def c227 : AV := .tup [c10, c27, c56]
def c228 : Tree AV := .node .leaf (some c45) .leaf
def c229 : AV := .ptr 8 0
def c230 : AV := .slc 7 0 0 (.ex 0)
def c231 : Option AV := some c230
def c232 : AV := .sc (.int .i64 14)
def c233 : AV := .agg [c27, c24, c46, c20, c21, c29, c1]
def c234 : AV := .agg [c46, c24, c46, c20, c21, c48, c43]
def c235 : AV := .slc 218 0 7 (.op 1)
def c236 : Blk := .row 1 (.node .leaf c140 .leaf) [] true 5 0
def c237 : Blk := .row 12 (.node c153 c140 c149) [] true 5 0
def c238 : Blk := .row 14 (.node (.node c152 c93 c160) c140 c155) [] true 5 0
def c239 : Blk := .row 17 (.node c161 c140 (.node (.node c167 c89 c103) c89 c163)) [] true 5 0
def c240 : AV := .sc (.int .i64 15)
def c241 : AV := .sc (.int .i64 64)
def c242 : AV := .sc (.int .i64 512)
def c243 : AV := .sc (.int .i64 16)
def c244 : AV := .sc (.int .i64 4)
def c245 : AV := .slc 359 0 7 (.op 1)
def c246 : AV := .tup [c233, c27]
def c247 : AV := .tup [c234, c27]
def c248 : AV := .tup [c223, c27]
def c249 : AV := .ptr 3 0
def c250 : AV := .ptr 64 0
def c251 : AV := .ptr 428 0
def c252 : AV := .sc (.string ⟨⟨ [2, 0, 1, 0, 1, 1, 0] ⟩⟩)
def c253 : AV := .tup [(.sc (.pointer none)), c232]
def c254 : AV := .tup [c45, c27]
def B1 : Table := [(38, [{args := [], ans := .rows 0 c0 [(0, c16)] 1}, {args := [], ans := .rows 4 c17 [(4, c16)] 5}, {args := [], ans := .rows 28 c18 [(28, c16)] 29}]), (36, [{args := [c19, c20], fp := [(0, c16), (1, (.row 2 (.node c3 (some c0) .leaf) [] false 75 0))], nx := 6, ans := .val c1}, {args := [c19, c20], fp := [(14, c33), (10, c35), (4, (.row 32 (.node (.node c7 c36 c8) c25 c15) [] false 114 0)), (1, (.row 2 (.node (.node .leaf (some c37) .leaf) (some c17) .leaf) [] false 75 0))], ans := .rows 19 c38 [(21, c33)] 22}]), (86, [{args := [c1, (.fn (.func 78) [] [c39])], fp := [(5, c40)], nx := 6, ans := .val c41}]), (79, [{args := [c1, (.fn (.func 80) [] [])], nx := 7, ans := .val c42}, {args := [c43, (.fn (.func 80) [] [])], fp := [(26, (.row 2 (.node c34 c28 .leaf) [] true 27 0))], nx := 27, ans := .val c42}]), (58, [{args := [c44], nx := 8, ans := .val c45}, {args := [c47], nx := 28, ans := .val c45}]), (59, [{args := [c20, c21, c29], nx := 8, ans := .val c45}, {args := [c20, c21, c48], nx := 28, ans := .val c45}]), (96, [{args := [(.slc 6 0 2 (.ex 2))], fp := [(6, c49)], nx := 7, ans := .val c1}, {args := [(.slc 8 0 2 (.ex 2))], fp := [(8, c49)], nx := 9, ans := .val c1}, {args := [(.slc 10 0 2 (.ex 2))], fp := [(10, c49)], nx := 11, ans := .val c1}, {args := [(.slc 12 0 2 (.ex 2))], fp := [(12, c49)], nx := 13, ans := .val c1}, {args := [(.slc 14 0 2 (.ex 2))], fp := [(14, c49)], nx := 15, ans := .val c1}, {args := [(.slc 16 0 2 (.ex 2))], fp := [(16, c49)], nx := 17, ans := .val c1}, {args := [(.slc 18 0 2 (.ex 2))], fp := [(18, c49)], nx := 19, ans := .val c1}, {args := [(.slc 20 0 2 (.ex 2))], fp := [(20, c49)], nx := 21, ans := .val c1}, {args := [(.slc 22 0 2 (.ex 2))], fp := [(22, c49)], nx := 23, ans := .val c1}, {args := [(.slc 24 0 2 (.ex 2))], fp := [(24, c49)], nx := 25, ans := .val c1}, {args := [(.slc 26 0 2 (.ex 2))], fp := [(26, c49)], nx := 27, ans := .val c1}, {args := [(.slc 28 0 2 (.ex 2))], fp := [(28, c49)], nx := 29, ans := .val c1}, {args := [(.slc 30 0 2 (.ex 2))], fp := [(30, c49)], nx := 31, ans := .val c1}, {args := [(.slc 32 0 2 (.ex 2))], fp := [(32, c49)], nx := 33, ans := .val c1}, {args := [(.slc 34 0 2 (.ex 2))], fp := [(34, c49)], nx := 35, ans := .val c1}, {args := [(.slc 36 0 2 (.ex 2))], fp := [(36, c49)], nx := 37, ans := .val c1}, {args := [(.slc 30 0 2 (.ex 2))], fp := [(10, c35), (30, c51)], nx := 31, ans := .val c1}, {args := [(.slc 38 0 2 (.ex 2))], fp := [(38, c49)], nx := 39, ans := .val c1}]), (97, [{args := [c1], nx := 7, ans := .val c42}]), (98, [{args := [c1], nx := 7, ans := .val c1}]), (99, [{args := [c17], fp := [(4, c16)], nx := 7, ans := .val c42}, {args := [c52], fp := [(4, c16)], nx := 9, ans := .val c42}, {args := [(.ptr 4 4)], fp := [(4, c16)], nx := 11, ans := .val c42}, {args := [(.ptr 4 6)], fp := [(4, c16)], nx := 13, ans := .val c42}, {args := [(.ptr 4 8)], fp := [(4, c16)], nx := 15, ans := .val c42}, {args := [(.ptr 4 10)], fp := [(4, c16)], nx := 17, ans := .val c42}, {args := [(.ptr 4 12)], fp := [(4, c16)], nx := 19, ans := .val c42}, {args := [(.ptr 4 14)], fp := [(4, c16)], nx := 21, ans := .val c42}, {args := [(.ptr 4 16)], fp := [(4, c16)], nx := 23, ans := .val c42}, {args := [(.ptr 4 18)], fp := [(4, c16)], nx := 25, ans := .val c42}, {args := [(.ptr 4 20)], fp := [(4, c16)], nx := 27, ans := .val c42}, {args := [(.ptr 4 22)], fp := [(4, c16)], nx := 29, ans := .val c42}, {args := [(.ptr 4 24)], fp := [(4, c16)], nx := 31, ans := .val c42}, {args := [(.ptr 4 26)], fp := [(4, c16)], nx := 33, ans := .val c42}, {args := [(.ptr 4 28)], fp := [(4, c16)], nx := 35, ans := .val c42}, {args := [(.ptr 4 30)], fp := [(4, c16)], nx := 37, ans := .val c42}, {args := [c53], fp := [(10, c35), (9, (.row 2 (.node (.node .leaf (some (.slc 10 0 1 (.op 1))) .leaf) c11 .leaf) [c10, c1] false 111 0))], ans := .rows 11 c42 [(9, (.row 2 (.node c50 c25 .leaf) [c10, c1] false 111 0))] 11}, {args := [c18], fp := [(28, c54)], nx := 31, ans := .val c42}, {args := [c55], fp := [(28, c54)], nx := 33, ans := .val c42}, {args := [(.ptr 28 4)], fp := [(28, c54)], nx := 35, ans := .val c42}, {args := [(.ptr 28 6)], fp := [(28, c54)], nx := 37, ans := .val c42}]), (77, [{args := [c0, c24], fp := [(0, c16)], nx := 12, ans := .val c56}]), (43, [{args := [c1], nx := 12, ans := .val c1}, {args := [c57], fp := [(12, c33)], ans := .rows 13 c37 [(14, c33)] 15}]), (82, [{args := [c57, c27, c46, c46, (.fn (.func 45) [] [])], fp := [(12, c33)], nx := 13, ans := .val c42}]), (87, [{args := [c1, c44], nx := 17, ans := .val c41}]), (33, [{args := [c17, c0], fp := [(0, c16), (10, c35), (4, (.row 32 (.node (.node c7 c36 c8) c25 c15) [] false 114 0))], nx := 15, ans := .val c56}]), (78, [{args := [c58, c59], fp := [(18, c40)], nx := 22, ans := .val c56}])]
theorem b1 : batchOk Tryz.prog ext [] 100000 200 B1 = true := by kernel_rfl
def T1 : Table := B1 ++ []
theorem t1 : TabOk Tryz.prog Iv T1 := TabOk.nil.add xok mixed b1
def B2 : Table := [(99, [{args := [(.ptr 28 8)], fp := [(28, c54)], nx := 39, ans := .val c42}, {args := [(.ptr 28 10)], fp := [(28, c54)], nx := 41, ans := .val c42}, {args := [(.ptr 28 12)], fp := [(28, c54)], nx := 43, ans := .val c42}, {args := [(.ptr 28 14)], fp := [(28, c54)], nx := 45, ans := .val c42}, {args := [(.ptr 28 16)], fp := [(28, c54)], nx := 47, ans := .val c42}, {args := [(.ptr 28 18)], fp := [(28, c54)], nx := 49, ans := .val c42}, {args := [(.ptr 28 20)], fp := [(28, c54)], nx := 51, ans := .val c42}, {args := [(.ptr 28 22)], fp := [(28, c54)], nx := 53, ans := .val c42}, {args := [(.ptr 28 24)], fp := [(28, c54)], nx := 55, ans := .val c42}, {args := [(.ptr 28 26)], fp := [(28, c54)], nx := 57, ans := .val c42}, {args := [(.ptr 28 28)], fp := [(28, c54)], nx := 59, ans := .val c42}, {args := [(.ptr 28 30)], fp := [(28, c54)], nx := 61, ans := .val c42}, {args := [c60], fp := [(65, c54)], nx := 68, ans := .val c42}, {args := [c61], fp := [(65, c54)], nx := 70, ans := .val c42}, {args := [(.ptr 65 4)], fp := [(65, c54)], nx := 72, ans := .val c42}, {args := [(.ptr 65 6)], fp := [(65, c54)], nx := 74, ans := .val c42}, {args := [(.ptr 65 8)], fp := [(65, c54)], nx := 76, ans := .val c42}, {args := [(.ptr 65 10)], fp := [(65, c54)], nx := 78, ans := .val c42}, {args := [(.ptr 65 12)], fp := [(65, c54)], nx := 80, ans := .val c42}, {args := [(.ptr 65 14)], fp := [(65, c54)], nx := 82, ans := .val c42}, {args := [(.ptr 65 16)], fp := [(65, c54)], nx := 84, ans := .val c42}, {args := [(.ptr 65 18)], fp := [(65, c54)], nx := 86, ans := .val c42}, {args := [(.ptr 65 20)], fp := [(65, c54)], nx := 88, ans := .val c42}, {args := [(.ptr 65 22)], fp := [(65, c54)], nx := 90, ans := .val c42}, {args := [(.ptr 65 24)], fp := [(65, c54)], nx := 92, ans := .val c42}, {args := [(.ptr 65 26)], fp := [(65, c54)], nx := 94, ans := .val c42}, {args := [(.ptr 65 28)], fp := [(65, c54)], nx := 96, ans := .val c42}, {args := [(.ptr 65 30)], fp := [(65, c54)], nx := 98, ans := .val c42}, {args := [(.ptr 103 0)], fp := [(104, c35), (103, (.row 2 (.node (.node .leaf (some (.slc 104 0 1 (.op 1))) .leaf) c11 .leaf) [c10, c1] false 111 0))], ans := .rows 105 c42 [(103, (.row 2 (.node c63 c25 .leaf) [c10, c1] false 111 0))] 105}]), (96, [{args := [(.slc 40 0 2 (.ex 2))], fp := [(40, c49)], nx := 41, ans := .val c1}, {args := [(.slc 42 0 2 (.ex 2))], fp := [(42, c49)], nx := 43, ans := .val c1}, {args := [(.slc 44 0 2 (.ex 2))], fp := [(44, c49)], nx := 45, ans := .val c1}, {args := [(.slc 46 0 2 (.ex 2))], fp := [(46, c49)], nx := 47, ans := .val c1}, {args := [(.slc 48 0 2 (.ex 2))], fp := [(48, c49)], nx := 49, ans := .val c1}, {args := [(.slc 50 0 2 (.ex 2))], fp := [(50, c49)], nx := 51, ans := .val c1}, {args := [(.slc 52 0 2 (.ex 2))], fp := [(52, c49)], nx := 53, ans := .val c1}, {args := [(.slc 54 0 2 (.ex 2))], fp := [(54, c49)], nx := 55, ans := .val c1}, {args := [(.slc 56 0 2 (.ex 2))], fp := [(56, c49)], nx := 57, ans := .val c1}, {args := [(.slc 58 0 2 (.ex 2))], fp := [(58, c49)], nx := 59, ans := .val c1}, {args := [(.slc 60 0 2 (.ex 2))], fp := [(60, c49)], nx := 61, ans := .val c1}, {args := [(.slc 67 0 2 (.ex 2))], fp := [(67, c49)], nx := 68, ans := .val c1}, {args := [(.slc 69 0 2 (.ex 2))], fp := [(69, c49)], nx := 70, ans := .val c1}, {args := [(.slc 71 0 2 (.ex 2))], fp := [(71, c49)], nx := 72, ans := .val c1}, {args := [(.slc 73 0 2 (.ex 2))], fp := [(73, c49)], nx := 74, ans := .val c1}, {args := [(.slc 75 0 2 (.ex 2))], fp := [(75, c49)], nx := 76, ans := .val c1}, {args := [(.slc 77 0 2 (.ex 2))], fp := [(77, c49)], nx := 78, ans := .val c1}, {args := [(.slc 79 0 2 (.ex 2))], fp := [(79, c49)], nx := 80, ans := .val c1}, {args := [(.slc 81 0 2 (.ex 2))], fp := [(81, c49)], nx := 82, ans := .val c1}, {args := [(.slc 83 0 2 (.ex 2))], fp := [(83, c49)], nx := 84, ans := .val c1}, {args := [(.slc 85 0 2 (.ex 2))], fp := [(85, c49)], nx := 86, ans := .val c1}, {args := [(.slc 87 0 2 (.ex 2))], fp := [(87, c49)], nx := 88, ans := .val c1}, {args := [(.slc 89 0 2 (.ex 2))], fp := [(89, c49)], nx := 90, ans := .val c1}, {args := [(.slc 91 0 2 (.ex 2))], fp := [(91, c49)], nx := 92, ans := .val c1}, {args := [(.slc 93 0 2 (.ex 2))], fp := [(93, c49)], nx := 94, ans := .val c1}, {args := [(.slc 95 0 2 (.ex 2))], fp := [(95, c49)], nx := 96, ans := .val c1}, {args := [(.slc 97 0 2 (.ex 2))], fp := [(97, c49)], nx := 98, ans := .val c1}]), (43, [{args := [c37], fp := [(14, c33)], ans := .rows 61 c64 [(62, c33)] 63}]), (38, [{args := [], ans := .rows 65 c60 [(65, c16)] 66}]), (81, [{args := [c60, c24], fp := [(104, c35), (65, (.row 32 (.node (.node (.node c5 c62 c6) c2 c8) c25 c65) [] false 114 0))], nx := 107, ans := .val c45}]), (77, [{args := [c55, c24], fp := [(28, c54)], nx := 107, ans := .val c56}])]
theorem b2 : batchOk Tryz.prog ext T1 100000 200 B2 = true := by kernel_rfl
def T2 : Table := B2 ++ T1
theorem t2 : TabOk Tryz.prog Iv T2 := t1.add xok mixed b2
def B3 : Table := [(43, [{args := [c64], fp := [(62, c33)], ans := .rows 107 (.slc 108 0 1 (.op 5)) [(108, c33)] 109}, {args := [c66], fp := [(109, c71)], ans := .rows 110 c72 [(111, c71)] 112}]), (85, [{args := [c20, c20], nx := 112, ans := .val c27}, {args := [c21, c21], nx := 112, ans := .val c27}]), (80, [{args := [c47, c44], nx := 112, ans := .val c46}]), (87, [{args := [c43, c44], fp := [(26, (.row 2 (.node c34 c28 .leaf) [] true 27 0))], nx := 114, ans := .val c27}, {args := [c43, c47], fp := [(26, (.row 2 (.node c34 c28 .leaf) [] true 27 0))], nx := 115, ans := .val c41}]), (33, [{args := [c60, c18], fp := [(28, c54), (104, c35), (65, (.row 32 (.node (.node (.node c5 c62 c6) c2 c8) c25 c65) [] false 114 0))], nx := 113, ans := .val c56}]), (36, [{args := [c73, c20], fp := [(111, (.row 10 (.node (.node (.node c76 c22 .leaf) c25 (.node c76 c28 .leaf)) c70 (.node (.node c76 c68 .leaf) c32 c12)) [] true 58 0)), (104, c35), (65, (.row 32 (.node (.node (.node c5 c62 c6) c2 c8) c25 c65) [] false 114 0)), (63, (.row 2 (.node (.node .leaf (some c77) .leaf) (some c60) .leaf) [] false 75 0))], ans := .rows 116 c78 [(118, c79)] 119}]), (78, [{args := [c80, c81], fp := [(115, c82)], nx := 119, ans := .val c56}]), (79, [{args := [c83, (.fn (.func 80) [] [])], fp := [(123, c84)], nx := 124, ans := .val c42}]), (58, [{args := [c86], nx := 125, ans := .val c45}]), (59, [{args := [c20, c74, c74], nx := 125, ans := .val c45}]), (88, [{args := [c1], nx := 126, ans := .val c1}, {args := [c87], fp := [(127, c91)], ans := .rows 128 (.slc 129 0 1 (.op 1)) [(129, c91)] 130}, {args := [c92], fp := [(131, c95)], ans := .rows 132 (.slc 133 0 2 (.op 1)) [(133, c95)] 134}, {args := [c96], fp := [(135, c97)], ans := .rows 136 (.slc 137 0 3 (.op 1)) [(137, c97)] 138}, {args := [c98], fp := [(140, c105)], ans := .rows 141 (.slc 142 0 5 (.op 1)) [(142, c105)] 143}, {args := [c106], fp := [(144, c108)], ans := .rows 145 (.slc 146 0 6 (.op 1)) [(146, c108)] 147}, {args := [c109], fp := [(148, c111)], ans := .rows 149 (.slc 150 0 7 (.op 1)) [(150, c111)] 151}, {args := [c112], fp := [(152, c115)], ans := .rows 154 (.slc 155 0 8 (.op 1)) [(155, c115)] 156}, {args := [c116], fp := [(157, c118)], ans := .rows 158 (.slc 159 0 9 (.op 1)) [(159, c118)] 160}, {args := [c119], fp := [(161, c121)], ans := .rows 163 c122 [(164, c121)] 165}, {args := [c123], fp := [(192, c124)], ans := .rows 194 (.slc 195 0 1 (.op 1)) [(195, c124)] 196}, {args := [c125], fp := [(197, c126)], ans := .rows 198 (.slc 199 0 2 (.op 1)) [(199, c126)] 200}, {args := [c127], fp := [(201, c128)], ans := .rows 202 (.slc 203 0 3 (.op 1)) [(203, c128)] 204}, {args := [c129], fp := [(205, c131)], ans := .rows 207 (.slc 208 0 4 (.op 1)) [(208, c131)] 209}, {args := [c132], fp := [(210, c133)], ans := .rows 211 (.slc 212 0 5 (.op 1)) [(212, c133)] 213}, {args := [c134], fp := [(214, c136)], ans := .rows 215 (.slc 216 0 6 (.op 1)) [(216, c136)] 217}, {args := [c137], fp := [(221, c141)], ans := .rows 222 (.slc 223 0 8 (.op 1)) [(223, c141)] 224}, {args := [c142], fp := [(225, c144)], ans := .rows 227 (.slc 228 0 9 (.op 1)) [(228, c144)] 229}, {args := [c145], fp := [(230, c147)], ans := .rows 231 (.slc 232 0 10 (.op 1)) [(232, c147)] 233}, {args := [c148], fp := [(234, c150)], ans := .rows 235 (.slc 236 0 11 (.op 1)) [(236, c150)] 237}, {args := [c151], fp := [(239, c156)], ans := .rows 240 (.slc 241 0 13 (.op 1)) [(241, c156)] 242}, {args := [c157], fp := [(244, c164)], ans := .rows 245 (.slc 246 0 16 (.op 1)) [(246, c164)] 247}, {args := [c165], fp := [(249, c168)], ans := .rows 250 c169 [(251, c168)] 252}, {args := [c170], fp := [(253, c171)], ans := .rows 254 c172 [(255, c171)] 256}]), (89, [{args := [c173], fp := [(164, c121), (165, (.row 2 (.node c174 (some c122) .leaf) [] false 127 0))], nx := 166, ans := .val c175}, {args := [c173], fp := [(164, c121), (165, (.row 2 (.node c174 (some (.slc 164 1 9 (.op 1))) .leaf) [] false 127 0))], nx := 166, ans := .val c176}, {args := [c173], fp := [(164, c121), (165, (.row 2 (.node c174 (some (.slc 164 2 8 (.op 1))) .leaf) [] false 127 0))], nx := 166, ans := .val c176}, {args := [c173], fp := [(164, c121), (165, (.row 2 (.node c174 (some (.slc 164 3 7 (.op 1))) .leaf) [] false 127 0))], nx := 166, ans := .val c177}, {args := [c173], fp := [(164, c121), (165, (.row 2 (.node c174 (some (.slc 164 5 5 (.op 1))) .leaf) [] false 127 0))], nx := 166, ans := .val c175}, {args := [c173], fp := [(164, c121), (165, (.row 2 (.node c174 (some (.slc 164 6 4 (.op 1))) .leaf) [] false 127 0))], nx := 166, ans := .val c175}, {args := [c173], fp := [(164, c121), (165, (.row 2 (.node c174 (some (.slc 164 7 3 (.op 1))) .leaf) [] false 127 0))], nx := 167, ans := .val c177}, {args := [c173], fp := [(164, c121), (165, (.row 2 (.node c174 (some (.slc 164 8 2 (.op 1))) .leaf) [] false 127 0))], nx := 167, ans := .val c177}, {args := [c173], fp := [(164, c121), (165, (.row 2 (.node c174 (some (.slc 164 9 1 (.op 1))) .leaf) [] false 127 0))], nx := 167, ans := .val c177}, {args := [c178], fp := [(251, c168), (252, (.row 2 (.node c174 (some c169) .leaf) [] false 127 0))], nx := 253, ans := .val (.tup [c179, c46, c45])}, {args := [c180], fp := [(255, c171), (256, (.row 2 (.node c174 (some c172) .leaf) [] false 127 0))], nx := 258, ans := .val c176}, {args := [c180], fp := [(255, c171), (256, (.row 2 (.node c174 (some (.slc 255 1 6 (.op 1))) .leaf) [] false 127 0))], nx := 258, ans := .val c175}, {args := [c180], fp := [(255, c171), (256, (.row 2 (.node c174 (some (.slc 255 2 5 (.op 1))) .leaf) [] false 127 0))], nx := 258, ans := .val c177}, {args := [c180], fp := [(255, c171), (256, (.row 2 (.node c174 (some (.slc 255 3 4 (.op 1))) .leaf) [] false 127 0))], nx := 258, ans := .val c175}, {args := [c180], fp := [(255, c171), (256, (.row 2 (.node c174 (some (.slc 255 4 3 (.op 1))) .leaf) [] false 127 0))], nx := 258, ans := .val c177}, {args := [c180], fp := [(255, c171), (256, (.row 2 (.node c174 (some (.slc 255 5 2 (.op 1))) .leaf) [] false 127 0))], nx := 258, ans := .val c177}, {args := [c180], fp := [(255, c171), (256, (.row 2 (.node c174 (some (.slc 255 6 1 (.op 1))) .leaf) [] false 127 0))], nx := 258, ans := .val c175}]), (54, [{args := [c173], fp := [(164, c121), (165, (.row 2 (.node c174 (some (.emp 164)) .leaf) [] false 127 0))], nx := 169, ans := .val c27}, {args := [c180], fp := [(255, c171), (256, (.row 2 (.node c174 (some (.emp 255)) .leaf) [] false 127 0))], nx := 258, ans := .val c27}]), (91, [{args := [c60], fp := [(104, c35), (65, (.row 32 (.node (.node (.node c5 c62 c6) c2 c8) c25 c65) [] false 114 0))], ans := .rows 170 (.slc 176 0 2 (.op 3)) [(174, (.row 0 .leaf [c10] false 25 0)), (176, (.row 6 (.node (.node c181 c25 (.node .leaf (some (.slc 174 0 0 (.ex 0))) .leaf)) c28 c182) [] true 133 0))] 191}, {args := [c183], fp := [(257, c184)], ans := .rows 258 (.slc 263 0 2 (.op 3)) [(263, c185)] 278}]), (38, [{args := [], ans := .rows 257 c183 [(257, c16)] 258}]), (90, [{args := [c183], fp := [(257, c184)], nx := 258, ans := .val c45}])]
theorem b3 : batchOk Tryz.prog ext T2 100000 200 B3 = true := by kernel_rfl
def T3 : Table := B3 ++ T2
theorem t3 : TabOk Tryz.prog Iv T3 := t2.add xok mixed b3
def B4 : Table := [(88, [{args := [c186], fp := [(279, c124)], ans := .rows 281 (.slc 282 0 1 (.op 1)) [(282, c124)] 283}, {args := [c187], fp := [(284, c126)], ans := .rows 285 (.slc 286 0 2 (.op 1)) [(286, c126)] 287}, {args := [c188], fp := [(288, c128)], ans := .rows 289 (.slc 290 0 3 (.op 1)) [(290, c128)] 291}, {args := [c189], fp := [(292, c131)], ans := .rows 294 (.slc 295 0 4 (.op 1)) [(295, c131)] 296}, {args := [c190], fp := [(297, c133)], ans := .rows 298 (.slc 299 0 5 (.op 1)) [(299, c133)] 300}, {args := [c191], fp := [(301, c136)], ans := .rows 302 (.slc 303 0 6 (.op 1)) [(303, c136)] 304}, {args := [c192], fp := [(333, c124)], ans := .rows 335 (.slc 336 0 1 (.op 1)) [(336, c124)] 337}, {args := [c193], fp := [(338, c126)], ans := .rows 339 (.slc 340 0 2 (.op 1)) [(340, c126)] 341}, {args := [c194], fp := [(342, c128)], ans := .rows 343 (.slc 344 0 3 (.op 1)) [(344, c128)] 345}, {args := [c195], fp := [(346, c131)], ans := .rows 348 (.slc 349 0 4 (.op 1)) [(349, c131)] 350}, {args := [c196], fp := [(351, c133)], ans := .rows 352 (.slc 353 0 5 (.op 1)) [(353, c133)] 354}, {args := [c197], fp := [(355, c136)], ans := .rows 356 (.slc 357 0 6 (.op 1)) [(357, c136)] 358}, {args := [c198], fp := [(362, c141)], ans := .rows 363 (.slc 364 0 8 (.op 1)) [(364, c141)] 365}, {args := [c199], fp := [(366, c144)], ans := .rows 368 (.slc 369 0 9 (.op 1)) [(369, c144)] 370}, {args := [c200], fp := [(371, c147)], ans := .rows 372 (.slc 373 0 10 (.op 1)) [(373, c147)] 374}, {args := [c201], fp := [(375, c150)], ans := .rows 376 (.slc 377 0 11 (.op 1)) [(377, c150)] 378}, {args := [c202], fp := [(380, c156)], ans := .rows 381 (.slc 382 0 13 (.op 1)) [(382, c156)] 383}, {args := [c203], fp := [(385, c164)], ans := .rows 386 (.slc 387 0 16 (.op 1)) [(387, c164)] 388}]), (57, [{args := [c204, c170], fp := [(253, c171), (305, c171)], nx := 306, ans := .val c45}, {args := [c205, c165], fp := [(249, c168), (390, c168)], nx := 391, ans := .val c45}]), (89, [{args := [c178], fp := [(251, c168), (252, (.row 2 (.node c174 (some (.slc 251 8 13 (.op 1))) .leaf) [] false 127 0))], nx := 308, ans := .val c177}, {args := [c178], fp := [(251, c168), (252, (.row 2 (.node c174 (some (.slc 251 9 12 (.op 1))) .leaf) [] false 127 0))], nx := 308, ans := .val c177}, {args := [c178], fp := [(251, c168), (252, (.row 2 (.node c174 (some (.slc 251 10 11 (.op 1))) .leaf) [] false 127 0))], nx := 308, ans := .val c177}, {args := [c178], fp := [(251, c168), (252, (.row 2 (.node c174 (some (.slc 251 11 10 (.op 1))) .leaf) [] false 127 0))], nx := 310, ans := .val c177}, {args := [c178], fp := [(251, c168), (252, (.row 2 (.node c174 (some (.slc 251 13 8 (.op 1))) .leaf) [] false 127 0))], nx := 310, ans := .val c176}, {args := [c178], fp := [(251, c168), (252, (.row 2 (.node c174 (some (.slc 251 16 5 (.op 1))) .leaf) [] false 127 0))], nx := 310, ans := .val (.tup [c206, c46, c45])}]), (56, [{args := [c178], fp := [(251, c168), (252, (.row 2 (.node c174 (some (.emp 251)) .leaf) [] false 127 0))], nx := 310, ans := .val c27}]), (77, [{args := [c207, c24], fp := [(257, c184)], nx := 311, ans := .val c45}]), (54, [{args := [c178], fp := [(251, c168), (252, (.row 2 (.node c174 (some (.emp 251)) .leaf) [] false 127 0))], nx := 312, ans := .val c27}]), (91, [{args := [c183], fp := [(257, c184)], ans := .rows 312 (.slc 317 0 2 (.op 3)) [(317, c185)] 332}]), (38, [{args := [], ans := .rows 391 c208 [(391, c16)] 392}]), (96, [{args := [(.slc 393 0 2 (.ex 2))], fp := [(393, c49)], nx := 394, ans := .val c1}, {args := [(.slc 395 0 2 (.ex 2))], fp := [(395, c49)], nx := 396, ans := .val c1}, {args := [(.slc 397 0 2 (.ex 2))], fp := [(397, c49)], nx := 398, ans := .val c1}, {args := [(.slc 399 0 2 (.ex 2))], fp := [(399, c49)], nx := 400, ans := .val c1}, {args := [(.slc 401 0 2 (.ex 2))], fp := [(401, c49)], nx := 402, ans := .val c1}, {args := [(.slc 403 0 2 (.ex 2))], fp := [(403, c49)], nx := 404, ans := .val c1}, {args := [(.slc 405 0 2 (.ex 2))], fp := [(405, c49)], nx := 406, ans := .val c1}, {args := [(.slc 407 0 2 (.ex 2))], fp := [(407, c49)], nx := 408, ans := .val c1}, {args := [(.slc 409 0 2 (.ex 2))], fp := [(409, c49)], nx := 410, ans := .val c1}, {args := [(.slc 411 0 2 (.ex 2))], fp := [(411, c49)], nx := 412, ans := .val c1}, {args := [(.slc 413 0 2 (.ex 2))], fp := [(413, c49)], nx := 414, ans := .val c1}, {args := [(.slc 415 0 2 (.ex 2))], fp := [(415, c49)], nx := 416, ans := .val c1}, {args := [(.slc 417 0 2 (.ex 2))], fp := [(417, c49)], nx := 418, ans := .val c1}, {args := [(.slc 419 0 2 (.ex 2))], fp := [(419, c49)], nx := 420, ans := .val c1}, {args := [(.slc 421 0 2 (.ex 2))], fp := [(421, c49)], nx := 422, ans := .val c1}]), (99, [{args := [c208], fp := [(391, c54)], nx := 394, ans := .val c42}, {args := [(.ptr 391 2)], fp := [(391, c184)], nx := 396, ans := .val c42}, {args := [(.ptr 391 4)], fp := [(391, c184)], nx := 398, ans := .val c42}, {args := [(.ptr 391 6)], fp := [(391, c184)], nx := 400, ans := .val c42}, {args := [(.ptr 391 8)], fp := [(391, c184)], nx := 402, ans := .val c42}, {args := [(.ptr 391 10)], fp := [(391, c184)], nx := 404, ans := .val c42}, {args := [(.ptr 391 12)], fp := [(391, c184)], nx := 406, ans := .val c42}, {args := [(.ptr 391 14)], fp := [(391, c184)], nx := 408, ans := .val c42}, {args := [(.ptr 391 16)], fp := [(391, c184)], nx := 410, ans := .val c42}, {args := [(.ptr 391 18)], fp := [(391, c184)], nx := 412, ans := .val c42}, {args := [(.ptr 391 20)], fp := [(391, c184)], nx := 414, ans := .val c42}, {args := [(.ptr 391 22)], fp := [(391, c184)], nx := 416, ans := .val c42}, {args := [(.ptr 391 24)], fp := [(391, c184)], nx := 418, ans := .val c42}, {args := [(.ptr 391 26)], fp := [(391, c184)], nx := 420, ans := .val c42}])]
theorem b4 : batchOk Tryz.prog ext T3 100000 200 B4 = true := by kernel_rfl
def T4 : Table := B4 ++ T3
theorem t4 : TabOk Tryz.prog Iv T4 := t3.add xok mixed b4
def B5 : Table := [(99, [{args := [(.ptr 391 28)], fp := [(391, c184)], nx := 422, ans := .val c42}, {args := [(.ptr 391 30)], fp := [(391, c184)], nx := 424, ans := .val c42}, {args := [c183], fp := [(257, c184)], nx := 430, ans := .val c42}, {args := [c207], fp := [(257, c184)], nx := 432, ans := .val c42}, {args := [(.ptr 257 4)], fp := [(257, c184)], nx := 434, ans := .val c42}, {args := [(.ptr 257 6)], fp := [(257, c184)], nx := 436, ans := .val c42}, {args := [(.ptr 257 8)], fp := [(257, c184)], nx := 438, ans := .val c42}, {args := [(.ptr 257 10)], fp := [(257, c184)], nx := 440, ans := .val c42}, {args := [(.ptr 257 12)], fp := [(257, c184)], nx := 442, ans := .val c42}, {args := [(.ptr 257 14)], fp := [(257, c184)], nx := 444, ans := .val c42}, {args := [(.ptr 257 16)], fp := [(257, c184)], nx := 446, ans := .val c42}, {args := [(.ptr 257 18)], fp := [(257, c184)], nx := 448, ans := .val c42}, {args := [(.ptr 257 20)], fp := [(257, c184)], nx := 450, ans := .val c42}, {args := [(.ptr 257 22)], fp := [(257, c184)], nx := 452, ans := .val c42}, {args := [(.ptr 257 24)], fp := [(257, c184)], nx := 454, ans := .val c42}, {args := [(.ptr 257 26)], fp := [(257, c184)], nx := 456, ans := .val c42}, {args := [(.ptr 257 28)], fp := [(257, c184)], nx := 458, ans := .val c42}, {args := [(.ptr 257 30)], fp := [(257, c184)], nx := 460, ans := .val c42}, {args := [c209], fp := [(429, c54)], nx := 432, ans := .val c42}, {args := [c210], fp := [(429, c184)], nx := 434, ans := .val c42}, {args := [(.ptr 429 4)], fp := [(429, c184)], nx := 436, ans := .val c42}, {args := [(.ptr 429 6)], fp := [(429, c184)], nx := 438, ans := .val c42}, {args := [(.ptr 429 8)], fp := [(429, c184)], nx := 440, ans := .val c42}, {args := [(.ptr 429 10)], fp := [(429, c184)], nx := 442, ans := .val c42}, {args := [(.ptr 429 12)], fp := [(429, c184)], nx := 444, ans := .val c42}, {args := [(.ptr 429 14)], fp := [(429, c184)], nx := 446, ans := .val c42}, {args := [(.ptr 429 16)], fp := [(429, c184)], nx := 448, ans := .val c42}, {args := [(.ptr 429 18)], fp := [(429, c184)], nx := 450, ans := .val c42}, {args := [(.ptr 429 20)], fp := [(429, c184)], nx := 452, ans := .val c42}, {args := [(.ptr 429 22)], fp := [(429, c184)], nx := 454, ans := .val c42}, {args := [(.ptr 429 24)], fp := [(429, c184)], nx := 456, ans := .val c42}, {args := [(.ptr 429 26)], fp := [(429, c184)], nx := 458, ans := .val c42}, {args := [(.ptr 429 28)], fp := [(429, c184)], nx := 460, ans := .val c42}]), (96, [{args := [(.slc 423 0 2 (.ex 2))], fp := [(423, c49)], nx := 424, ans := .val c1}, {args := [(.slc 429 0 2 (.ex 2))], fp := [(10, c35), (429, c51)], nx := 430, ans := .val c1}, {args := [(.slc 431 0 2 (.ex 2))], fp := [(431, c49)], nx := 432, ans := .val c1}, {args := [(.slc 433 0 2 (.ex 2))], fp := [(433, c49)], nx := 434, ans := .val c1}, {args := [(.slc 435 0 2 (.ex 2))], fp := [(435, c49)], nx := 436, ans := .val c1}, {args := [(.slc 437 0 2 (.ex 2))], fp := [(437, c49)], nx := 438, ans := .val c1}, {args := [(.slc 439 0 2 (.ex 2))], fp := [(439, c49)], nx := 440, ans := .val c1}, {args := [(.slc 441 0 2 (.ex 2))], fp := [(441, c49)], nx := 442, ans := .val c1}, {args := [(.slc 443 0 2 (.ex 2))], fp := [(443, c49)], nx := 444, ans := .val c1}, {args := [(.slc 445 0 2 (.ex 2))], fp := [(445, c49)], nx := 446, ans := .val c1}, {args := [(.slc 447 0 2 (.ex 2))], fp := [(447, c49)], nx := 448, ans := .val c1}, {args := [(.slc 449 0 2 (.ex 2))], fp := [(449, c49)], nx := 450, ans := .val c1}, {args := [(.slc 451 0 2 (.ex 2))], fp := [(451, c49)], nx := 452, ans := .val c1}, {args := [(.slc 453 0 2 (.ex 2))], fp := [(453, c49)], nx := 454, ans := .val c1}, {args := [(.slc 455 0 2 (.ex 2))], fp := [(455, c49)], nx := 456, ans := .val c1}, {args := [(.slc 457 0 2 (.ex 2))], fp := [(457, c49)], nx := 458, ans := .val c1}, {args := [(.slc 459 0 2 (.ex 2))], fp := [(459, c49)], nx := 460, ans := .val c1}, {args := [(.slc 433 0 2 (.ex 2))], fp := [(104, c35), (433, (.row 2 (.node c63 c2 .leaf) [c1] false 109 0))], nx := 434, ans := .val c1}, {args := [(.slc 461 0 2 (.ex 2))], fp := [(461, c49)], nx := 462, ans := .val c1}]), (49, [{args := [c211, c77], fp := [(111, (.row 10 (.node (.node (.node c76 c22 .leaf) c25 (.node c76 c28 .leaf)) c70 (.node (.node c76 c68 .leaf) c32 c12)) [] true 58 0)), (311, c79)], nx := 424, ans := .val c45}]), (33, [{args := [c183, c60], fp := [(104, c35), (65, (.row 32 (.node (.node (.node c5 c62 c6) c2 c8) c25 c65) [] false 114 0)), (257, c184)], nx := 424, ans := .val c45}, {args := [c60, c183], fp := [(257, c184), (104, c35), (65, (.row 32 (.node (.node (.node c5 c62 c6) c2 c8) c25 c65) [] false 114 0))], nx := 424, ans := .val c45}]), (80, [{args := [c44, c47], nx := 429, ans := .val c41}]), (77, [{args := [c52, c24], fp := [(10, c35), (4, (.row 32 (.node (.node c7 c36 c8) c25 c15) [] false 114 0))], nx := 426, ans := .val c56}, {args := [c183, c24], fp := [(257, c184)], nx := 429, ans := .val c45}]), (82, [{args := [c212, c27, c46, c46, (.fn (.func 45) [] [])], fp := [(426, c79)], nx := 428, ans := .val c42}]), (38, [{args := [], ans := .rows 429 c209 [(429, c16)] 430}])]
theorem b5 : batchOk Tryz.prog ext T4 100000 200 B5 = true := by kernel_rfl
def T5 : Table := B5 ++ T4
theorem t5 : TabOk Tryz.prog Iv T5 := t4.add xok mixed b5
def B6 : Table := [(99, [{args := [(.ptr 429 30)], fp := [(429, c184)], nx := 462, ans := .val c42}, {args := [(.ptr 467 0)], fp := [(468, (.row 1 (.node .leaf c213 .leaf) [] true 25 0)), (467, (.row 2 (.node (.node .leaf (some (.slc 468 0 1 (.op 1))) .leaf) c25 .leaf) [c10, c1] false 111 0))], ans := .rows 469 c42 [(467, (.row 2 (.node (.node .leaf c214 .leaf) c213 .leaf) [c10, c1] false 111 0))] 469}, {args := [c215], fp := [(480, c54)], nx := 483, ans := .val c42}, {args := [(.ptr 480 2)], fp := [(480, c184)], nx := 485, ans := .val c42}, {args := [(.ptr 480 4)], fp := [(480, c184)], nx := 487, ans := .val c42}, {args := [(.ptr 480 6)], fp := [(480, c184)], nx := 489, ans := .val c42}, {args := [(.ptr 480 8)], fp := [(480, c184)], nx := 491, ans := .val c42}, {args := [(.ptr 480 10)], fp := [(480, c184)], nx := 493, ans := .val c42}, {args := [(.ptr 480 12)], fp := [(480, c184)], nx := 495, ans := .val c42}, {args := [(.ptr 480 14)], fp := [(480, c184)], nx := 497, ans := .val c42}, {args := [(.ptr 480 16)], fp := [(480, c184)], nx := 499, ans := .val c42}, {args := [(.ptr 480 18)], fp := [(480, c184)], nx := 501, ans := .val c42}, {args := [(.ptr 480 20)], fp := [(480, c184)], nx := 503, ans := .val c42}, {args := [(.ptr 480 22)], fp := [(480, c184)], nx := 505, ans := .val c42}, {args := [(.ptr 480 24)], fp := [(480, c184)], nx := 507, ans := .val c42}, {args := [(.ptr 480 26)], fp := [(480, c184)], nx := 509, ans := .val c42}, {args := [(.ptr 480 28)], fp := [(480, c184)], nx := 511, ans := .val c42}, {args := [(.ptr 480 30)], fp := [(480, c184)], nx := 513, ans := .val c42}]), (81, [{args := [c210, c24], fp := [(468, (.row 1 (.node .leaf c213 .leaf) [] true 25 0)), (429, (.row 32 (.node (.node c7 c214 c8) c213 c65) [] false 114 0))], nx := 471, ans := .val c45}]), (43, [{args := [c77], fp := [(111, (.row 10 (.node (.node (.node c76 c22 .leaf) c25 (.node c76 c28 .leaf)) c70 (.node (.node c76 c68 .leaf) c32 c12)) [] true 58 0))], ans := .rows 470 c216 [(471, c79)] 472}, {args := [c212], fp := [(426, c79)], ans := .rows 472 c217 [(473, c79)] 474}, {args := [c212], fp := [(426, c79)], ans := .rows 474 c218 [(475, c79)] 476}, {args := [c219], fp := [(471, (.row 5 (.node (.node c76 c11 .leaf) c28 (.node c76 c75 .leaf)) [] true 58 0))], ans := .rows 476 c220 [(476, (.row 0 .leaf [c27, c10, c74, c74, c74] false 58 0))] 477}]), (87, [{args := [c83, c47], fp := [(123, c84)], nx := 474, ans := .val c27}]), (33, [{args := [c209, c60], fp := [(104, c35), (65, (.row 32 (.node (.node (.node c5 c62 c6) c2 c8) c25 c65) [] false 114 0)), (468, (.row 1 (.node .leaf c213 .leaf) [] true 25 0)), (429, (.row 32 (.node (.node c7 c214 c8) c213 c65) [] false 114 0))], nx := 472, ans := .val c56}]), (34, [{args := [c222, c223], fp := [(123, c84), (168, c84)], nx := 472, ans := .val c45}]), (35, [{args := [c73], fp := [(471, (.row 5 (.node (.node c76 c11 .leaf) c28 (.node c76 c75 .leaf)) [] true 58 0)), (468, (.row 1 (.node .leaf c213 .leaf) [] true 25 0)), (429, (.row 32 (.node (.node c7 c214 c8) c213 c65) [] false 114 0)), (63, (.row 2 (.node (.node .leaf (some c219) .leaf) (some c209) .leaf) [] false 75 0))], nx := 477, ans := .val c1}]), (36, [{args := [c224, c20], fp := [(426, c79), (257, c184), (306, (.row 2 (.node (.node .leaf (some c212) .leaf) c225 .leaf) [] false 75 0))], ans := .rows 477 (.slc 479 0 1 (.op 5)) [(479, c79)] 480}]), (38, [{args := [], ans := .rows 480 c215 [(480, c16)] 481}, {args := [], ans := .rows 9 c53 [(9, c16)] 10}]), (96, [{args := [(.slc 482 0 2 (.ex 2))], fp := [(482, c49)], nx := 483, ans := .val c1}, {args := [(.slc 484 0 2 (.ex 2))], fp := [(484, c49)], nx := 485, ans := .val c1}, {args := [(.slc 486 0 2 (.ex 2))], fp := [(486, c49)], nx := 487, ans := .val c1}, {args := [(.slc 488 0 2 (.ex 2))], fp := [(488, c49)], nx := 489, ans := .val c1}, {args := [(.slc 490 0 2 (.ex 2))], fp := [(490, c49)], nx := 491, ans := .val c1}, {args := [(.slc 492 0 2 (.ex 2))], fp := [(492, c49)], nx := 493, ans := .val c1}, {args := [(.slc 494 0 2 (.ex 2))], fp := [(494, c49)], nx := 495, ans := .val c1}, {args := [(.slc 496 0 2 (.ex 2))], fp := [(496, c49)], nx := 497, ans := .val c1}, {args := [(.slc 498 0 2 (.ex 2))], fp := [(498, c49)], nx := 499, ans := .val c1}, {args := [(.slc 500 0 2 (.ex 2))], fp := [(500, c49)], nx := 501, ans := .val c1}, {args := [(.slc 502 0 2 (.ex 2))], fp := [(502, c49)], nx := 503, ans := .val c1}, {args := [(.slc 504 0 2 (.ex 2))], fp := [(504, c49)], nx := 505, ans := .val c1}, {args := [(.slc 506 0 2 (.ex 2))], fp := [(506, c49)], nx := 507, ans := .val c1}, {args := [(.slc 508 0 2 (.ex 2))], fp := [(508, c49)], nx := 509, ans := .val c1}, {args := [(.slc 510 0 2 (.ex 2))], fp := [(510, c49)], nx := 511, ans := .val c1}, {args := [(.slc 512 0 2 (.ex 2))], fp := [(512, c49)], nx := 513, ans := .val c1}]), (77, [{args := [c215, c24], fp := [(480, c184)], nx := 514, ans := .val c45}]), (86, [{args := [c1, (.fn (.func 78) [] [c17])], fp := [(4, c82)], nx := 5, ans := .val c41}]), (13, [{args := [c19, c44, c20, c74, (.sc (.string ⟨⟨ [120] ⟩⟩))], fp := [(0, c16), (1, (.row 2 (.node c3 (some c0) .leaf) [] false 75 0))], nx := 3, ans := .val (.tup [c226, c46])}]), (58, [{args := [(.agg [c27, c10])], nx := 6, ans := .val c56}]), (89, [{args := [c39], fp := [(5, (.row 2 (.node c174 c2 .leaf) [] false 127 0))], nx := 6, ans := .val c227}, {args := [c39], fp := [(5, (.row 2 (.node c228 c2 .leaf) [] false 127 0))], nx := 6, ans := .val c227}, {args := [c229], fp := [(7, (.row 0 .leaf [c88] false 5 0)), (8, (.row 2 (.node c174 c231 .leaf) [] false 127 0))], nx := 10, ans := .val c227}]), (54, [{args := [c39], fp := [(5, (.row 2 (.node c228 c2 .leaf) [] false 127 0))], nx := 7, ans := .val c232}, {args := [c229], fp := [(7, (.row 0 .leaf [c88] false 5 0)), (8, (.row 2 (.node c228 c231 .leaf) [] false 127 0))], nx := 10, ans := .val c232}]), (88, [{args := [(.slc 6 0 0 (.op 1))], fp := [(6, (.row 0 .leaf [] true 5 0))], ans := .rows 7 c230 [(7, (.row 0 .leaf [c88] false 5 0))] 8}])]
theorem b6 : batchOk Tryz.prog ext T5 100000 200 B6 = true := by kernel_rfl
def T6 : Table := B6 ++ T5
theorem t6 : TabOk Tryz.prog Iv T6 := t5.add xok mixed b6
def B7 : Table := [(11, [{args := [], ans := .rows 0 c19 [(0, c16), (1, (.row 2 (.node c3 (some c0) .leaf) [] false 75 0))] 2}]), (46, [{args := [c1, (.fn (.func 78) [] [c39])], fp := [(5, c40)], nx := 6, ans := .val c1}]), (17, [{args := [c233], nx := 7, ans := .val c45}, {args := [c234], fp := [(26, (.row 2 (.node c34 c28 .leaf) [] true 27 0))], nx := 27, ans := .val c45}, {args := [c223], fp := [(123, c84)], nx := 124, ans := .val c45}, {args := [c222], fp := [(168, c84)], nx := 169, ans := .val c45}]), (73, [{args := [c17, c0], fp := [(0, c16), (4, c16)], nx := 5, ans := .val c42}, {args := [c18, c17], fp := [(10, c35), (4, (.row 32 (.node (.node c7 c36 c8) c25 c15) [] false 114 0)), (28, c16)], ans := .rows 29 c42 [(28, c54)] 61}, {args := [c60, c18], fp := [(28, c54), (65, c16)], ans := .rows 66 c42 [(65, c54)] 98}]), (81, [{args := [c17, c24], fp := [(4, c16)], ans := .rows 8 c45 [(10, c35), (4, (.row 32 (.node (.node c7 c36 c8) c25 c15) [] false 114 0))] 11}, {args := [c61, c24], fp := [(65, c54)], ans := .rows 102 c45 [(104, c35), (65, (.row 32 (.node (.node (.node c5 c62 c6) c2 c8) c25 c65) [] false 114 0))] 105}]), (37, [{args := [c0, c44], fp := [(0, c16)], nx := 11, ans := .val c56}, {args := [c18, c47], fp := [(28, c54)], nx := 106, ans := .val c56}]), (44, [{args := [c57, (.fn (.func 45) [] [])], fp := [(12, c33)], nx := 13, ans := .val c42}]), (48, [{args := [c1, c44], nx := 16, ans := .val c56}, {args := [c43, c44], fp := [(26, (.row 2 (.node c34 c28 .leaf) [] true 27 0))], nx := 113, ans := .val c45}, {args := [c43, c47], fp := [(26, (.row 2 (.node c34 c28 .leaf) [] true 27 0))], nx := 114, ans := .val c56}]), (86, [{args := [c38, (.fn (.func 78) [] [c59])], fp := [(18, c40), (21, c33)], nx := 22, ans := .val c41}, {args := [c78, (.fn (.func 78) [] [c81])], fp := [(115, c82), (118, c79)], nx := 119, ans := .val c41}]), (42, [{args := [c60, c44], fp := [(104, c35), (65, (.row 32 (.node (.node (.node c5 c62 c6) c2 c8) c25 c65) [] false 114 0))], nx := 106, ans := .val c27}]), (45, [{args := [c80, c58], nx := 110, ans := .val c46}]), (63, [{args := [c1, c10], ans := .rows 126 c87 [(127, c91)] 128}, {args := [c87, c85], fp := [(127, c91)], ans := .rows 128 c92 [(131, c95)] 132}, {args := [c92, c85], fp := [(131, c95)], ans := .rows 132 c96 [(135, c97)] 136}, {args := [c96, c24], fp := [(135, c97)], ans := .rows 136 (.slc 139 0 4 (.op 1)) [(139, (.row 4 (.node c101 c89 c94) [] true 5 0))] 140}, {args := [c98, c10], fp := [(140, c105)], ans := .rows 141 c106 [(144, c108)] 145}, {args := [c106, c10], fp := [(144, c108)], ans := .rows 145 c109 [(148, c111)] 149}, {args := [c109, c24], fp := [(148, c111)], ans := .rows 149 c112 [(152, c115)] 153}, {args := [c112, c24], fp := [(152, c115)], ans := .rows 154 c116 [(157, c118)] 158}, {args := [c116, c24], fp := [(157, c118)], ans := .rows 158 c119 [(161, c121)] 162}, {args := [c1, c85], ans := .rows 191 c123 [(192, c124)] 193}, {args := [c123, c10], fp := [(192, c124)], ans := .rows 194 c125 [(197, c126)] 198}, {args := [c125, c24], fp := [(197, c126)], ans := .rows 198 c127 [(201, c128)] 202}, {args := [c127, c10], fp := [(201, c128)], ans := .rows 202 c129 [(205, c131)] 206}, {args := [c129, c24], fp := [(205, c131)], ans := .rows 207 c132 [(210, c133)] 211}, {args := [c132, c24], fp := [(210, c133)], ans := .rows 211 c134 [(214, c136)] 215}, {args := [c134, c10], fp := [(214, c136)], ans := .rows 215 c235 [(218, c171)] 219}, {args := [c1, c179], ans := .rows 219 (.slc 220 0 1 (.op 1)) [(220, c236)] 221}, {args := [c137, c24], fp := [(221, c141)], ans := .rows 222 c142 [(225, c144)] 226}, {args := [c142, c24], fp := [(225, c144)], ans := .rows 227 c145 [(230, c147)] 231}, {args := [c145, c24], fp := [(230, c147)], ans := .rows 231 c148 [(234, c150)] 235}, {args := [c148, c24], fp := [(234, c150)], ans := .rows 235 (.slc 238 0 12 (.op 1)) [(238, c237)] 239}, {args := [c151, c85], fp := [(239, c156)], ans := .rows 240 (.slc 243 0 14 (.op 1)) [(243, c238)] 244}, {args := [c157, c206], fp := [(244, c164)], ans := .rows 245 (.slc 248 0 17 (.op 1)) [(248, c239)] 249}]), (50, [{args := [c119], fp := [(161, c121)], ans := .rows 163 c173 [(164, c121), (165, (.row 2 (.node c174 (some c122) .leaf) [] false 127 0))] 166}, {args := [c165], fp := [(249, c168)], ans := .rows 250 c178 [(251, c168), (252, (.row 2 (.node c174 (some c169) .leaf) [] false 127 0))] 253}, {args := [c170], fp := [(253, c171)], ans := .rows 254 c180 [(255, c171), (256, (.row 2 (.node c174 (some c172) .leaf) [] false 127 0))] 257}]), (51, [{args := [c173, c240], fp := [(164, c121), (165, (.row 2 (.node c174 (some c122) .leaf) [] false 127 0))], ans := .rows 166 c27 [(165, (.row 2 (.node c174 (some (.slc 164 1 9 (.op 1))) .leaf) [] false 127 0))] 166}, {args := [c173, c221], fp := [(164, c121), (165, (.row 2 (.node c174 (some (.slc 164 2 8 (.op 1))) .leaf) [] false 127 0))], ans := .rows 166 c221 [(165, (.row 2 (.node c174 (some (.slc 164 3 7 (.op 1))) .leaf) [] false 127 0))] 166}, {args := [c173, c241], fp := [(164, c121), (165, (.row 2 (.node c174 (some (.slc 164 3 7 (.op 1))) .leaf) [] false 127 0))], ans := .rows 166 c46 [(165, (.row 2 (.node c174 (some (.slc 164 4 6 (.op 1))) .leaf) [] false 127 0))] 166}, {args := [c173, c241], fp := [(164, c121), (165, (.row 2 (.node c174 (some (.slc 164 5 5 (.op 1))) .leaf) [] false 127 0))], ans := .rows 166 c27 [(165, (.row 2 (.node c174 (some (.slc 164 6 4 (.op 1))) .leaf) [] false 127 0))] 166}, {args := [c173, c242], fp := [(164, c121), (165, (.row 2 (.node c174 (some (.slc 164 6 4 (.op 1))) .leaf) [] false 127 0))], ans := .rows 166 c27 [(165, (.row 2 (.node c174 (some (.slc 164 7 3 (.op 1))) .leaf) [] false 127 0))] 166}, {args := [c173, c241], fp := [(164, c121), (165, (.row 2 (.node c174 (some (.slc 164 7 3 (.op 1))) .leaf) [] false 127 0))], ans := .rows 167 c46 [(165, (.row 2 (.node c174 (some (.slc 164 8 2 (.op 1))) .leaf) [] false 127 0))] 167}, {args := [c173, c240], fp := [(164, c121), (165, (.row 2 (.node c174 (some (.slc 164 8 2 (.op 1))) .leaf) [] false 127 0))], ans := .rows 167 c46 [(165, (.row 2 (.node c174 (some (.slc 164 9 1 (.op 1))) .leaf) [] false 127 0))] 167}, {args := [c178, (.sc (.int .i64 21))], fp := [(251, c168), (252, (.row 2 (.node c174 (some c169) .leaf) [] false 127 0))], ans := .rows 253 (.sc (.int .i64 7)) [(252, (.row 2 (.node c174 (some (.slc 251 1 20 (.op 1))) .leaf) [] false 127 0))] 253}, {args := [c180, c243], fp := [(255, c171), (256, (.row 2 (.node c174 (some c172) .leaf) [] false 127 0))], ans := .rows 258 c221 [(256, (.row 2 (.node c174 (some (.slc 255 1 6 (.op 1))) .leaf) [] false 127 0))] 258}, {args := [c180, c240], fp := [(255, c171), (256, (.row 2 (.node c174 (some (.slc 255 1 6 (.op 1))) .leaf) [] false 127 0))], ans := .rows 258 c27 [(256, (.row 2 (.node c174 (some (.slc 255 2 5 (.op 1))) .leaf) [] false 127 0))] 258}]), (52, [{args := [c173], fp := [(164, c121), (165, (.row 2 (.node c174 (some (.slc 164 1 9 (.op 1))) .leaf) [] false 127 0))], ans := .rows 166 c85 [(165, (.row 2 (.node c174 (some (.slc 164 2 8 (.op 1))) .leaf) [] false 127 0))] 166}, {args := [c173], fp := [(164, c121), (165, (.row 2 (.node c174 (some (.slc 164 9 1 (.op 1))) .leaf) [] false 127 0))], ans := .rows 167 c24 [(165, (.row 2 (.node c174 (some (.emp 164)) .leaf) [] false 127 0))] 167}, {args := [c180], fp := [(255, c171), (256, (.row 2 (.node c174 (some (.slc 255 2 5 (.op 1))) .leaf) [] false 127 0))], ans := .rows 258 c24 [(256, (.row 2 (.node c174 (some (.slc 255 3 4 (.op 1))) .leaf) [] false 127 0))] 258}])]
theorem b7 : batchOk Tryz.prog ext T6 100000 200 B7 = true := by kernel_rfl
def T7 : Table := B7 ++ T6
theorem t7 : TabOk Tryz.prog Iv T7 := t6.add xok mixed b7
def B8 : Table := [(51, [{args := [c180, (.sc (.int .i64 4096))], fp := [(255, c171), (256, (.row 2 (.node c174 (some (.slc 255 3 4 (.op 1))) .leaf) [] false 127 0))], ans := .rows 258 c27 [(256, (.row 2 (.node c174 (some (.slc 255 4 3 (.op 1))) .leaf) [] false 127 0))] 258}, {args := [c180, c240], fp := [(255, c171), (256, (.row 2 (.node c174 (some (.slc 255 4 3 (.op 1))) .leaf) [] false 127 0))], ans := .rows 258 c46 [(256, (.row 2 (.node c174 (some (.slc 255 5 2 (.op 1))) .leaf) [] false 127 0))] 258}, {args := [c180, (.sc (.int .i64 4096))], fp := [(255, c171), (256, (.row 2 (.node c174 (some (.slc 255 6 1 (.op 1))) .leaf) [] false 127 0))], ans := .rows 258 c27 [(256, (.row 2 (.node c174 (some (.emp 255)) .leaf) [] false 127 0))] 258}, {args := [c178, (.sc (.int .i64 21))], fp := [(251, c168), (252, (.row 2 (.node c174 (some (.slc 251 8 13 (.op 1))) .leaf) [] false 127 0))], ans := .rows 308 c46 [(252, (.row 2 (.node c174 (some (.slc 251 9 12 (.op 1))) .leaf) [] false 127 0))] 308}, {args := [c178, c240], fp := [(251, c168), (252, (.row 2 (.node c174 (some (.slc 251 9 12 (.op 1))) .leaf) [] false 127 0))], ans := .rows 308 c46 [(252, (.row 2 (.node c174 (some (.slc 251 10 11 (.op 1))) .leaf) [] false 127 0))] 308}, {args := [c178, c241], fp := [(251, c168), (252, (.row 2 (.node c174 (some (.slc 251 11 10 (.op 1))) .leaf) [] false 127 0))], ans := .rows 310 c46 [(252, (.row 2 (.node c174 (some (.slc 251 12 9 (.op 1))) .leaf) [] false 127 0))] 310}, {args := [c178, c241], fp := [(251, c168), (252, (.row 2 (.node c174 (some (.slc 251 13 8 (.op 1))) .leaf) [] false 127 0))], ans := .rows 310 c221 [(252, (.row 2 (.node c174 (some (.slc 251 14 7 (.op 1))) .leaf) [] false 127 0))] 310}, {args := [c178, c242], fp := [(251, c168), (252, (.row 2 (.node c174 (some (.slc 251 16 5 (.op 1))) .leaf) [] false 127 0))], ans := .rows 310 c244 [(252, (.row 2 (.node c174 (some (.slc 251 17 4 (.op 1))) .leaf) [] false 127 0))] 310}, {args := [c39, c240], fp := [(5, (.row 2 (.node c174 c2 .leaf) [] false 127 0))], ans := .rows 6 c27 [(5, (.row 2 (.node c228 c2 .leaf) [] false 127 0))] 6}, {args := [c39, c221], fp := [(5, (.row 2 (.node c228 c2 .leaf) [] false 127 0))], nx := 6, ans := .val c27}, {args := [c39, c241], fp := [(5, (.row 2 (.node c228 c2 .leaf) [] false 127 0))], nx := 6, ans := .val c27}, {args := [c39, c242], fp := [(5, (.row 2 (.node c228 c2 .leaf) [] false 127 0))], nx := 6, ans := .val c27}, {args := [c39, c27], fp := [(5, (.row 2 (.node c174 c2 .leaf) [] false 127 0))], ans := .rows 6 c27 [(5, (.row 2 (.node c228 c2 .leaf) [] false 127 0))] 6}, {args := [c229, c243], fp := [(7, (.row 0 .leaf [c88] false 5 0)), (8, (.row 2 (.node c174 c231 .leaf) [] false 127 0))], ans := .rows 10 c27 [(8, (.row 2 (.node c228 c231 .leaf) [] false 127 0))] 10}]), (52, [{args := [c180], fp := [(255, c171), (256, (.row 2 (.node c174 (some (.slc 255 5 2 (.op 1))) .leaf) [] false 127 0))], ans := .rows 258 c24 [(256, (.row 2 (.node c174 (some (.slc 255 6 1 (.op 1))) .leaf) [] false 127 0))] 258}, {args := [c178], fp := [(251, c168), (252, (.row 2 (.node c174 (some (.slc 251 10 11 (.op 1))) .leaf) [] false 127 0))], ans := .rows 308 c24 [(252, (.row 2 (.node c174 (some (.slc 251 11 10 (.op 1))) .leaf) [] false 127 0))] 308}, {args := [c39], fp := [(5, (.row 2 (.node c228 c2 .leaf) [] false 127 0))], nx := 6, ans := .val c10}]), (63, [{args := [c1, c85], ans := .rows 278 c186 [(279, c124)] 280}, {args := [c186, c10], fp := [(279, c124)], ans := .rows 281 c187 [(284, c126)] 285}, {args := [c187, c24], fp := [(284, c126)], ans := .rows 285 c188 [(288, c128)] 289}, {args := [c188, c10], fp := [(288, c128)], ans := .rows 289 c189 [(292, c131)] 293}, {args := [c189, c24], fp := [(292, c131)], ans := .rows 294 c190 [(297, c133)] 298}, {args := [c190, c24], fp := [(297, c133)], ans := .rows 298 c191 [(301, c136)] 302}, {args := [c191, c10], fp := [(301, c136)], ans := .rows 302 c204 [(305, c171)] 306}, {args := [c1, c85], ans := .rows 332 c192 [(333, c124)] 334}, {args := [c192, c10], fp := [(333, c124)], ans := .rows 335 c193 [(338, c126)] 339}, {args := [c193, c24], fp := [(338, c126)], ans := .rows 339 c194 [(342, c128)] 343}, {args := [c194, c10], fp := [(342, c128)], ans := .rows 343 c195 [(346, c131)] 347}, {args := [c195, c24], fp := [(346, c131)], ans := .rows 348 c196 [(351, c133)] 352}, {args := [c196, c24], fp := [(351, c133)], ans := .rows 352 c197 [(355, c136)] 356}, {args := [c197, c10], fp := [(355, c136)], ans := .rows 356 c245 [(359, c171)] 360}, {args := [c1, c179], ans := .rows 360 (.slc 361 0 1 (.op 1)) [(361, c236)] 362}, {args := [c198, c24], fp := [(362, c141)], ans := .rows 363 c199 [(366, c144)] 367}, {args := [c199, c24], fp := [(366, c144)], ans := .rows 368 c200 [(371, c147)] 372}, {args := [c200, c24], fp := [(371, c147)], ans := .rows 372 c201 [(375, c150)] 376}, {args := [c201, c24], fp := [(375, c150)], ans := .rows 376 (.slc 379 0 12 (.op 1)) [(379, c237)] 380}, {args := [c202, c85], fp := [(380, c156)], ans := .rows 381 (.slc 384 0 14 (.op 1)) [(384, c238)] 385}, {args := [c203, c206], fp := [(385, c164)], ans := .rows 386 (.slc 389 0 17 (.op 1)) [(389, c239)] 390}]), (37, [{args := [c183, c47], fp := [(257, c184)], nx := 310, ans := .val c45}, {args := [c17, c47], fp := [(10, c35), (4, (.row 32 (.node (.node c7 c36 c8) c25 c15) [] false 114 0))], nx := 425, ans := .val c56}, {args := [c183, c44], fp := [(257, c184)], nx := 428, ans := .val c45}, {args := [c215, c44], fp := [(480, c184)], nx := 513, ans := .val c45}]), (73, [{args := [c208, c183], fp := [(257, c184), (391, c16)], ans := .rows 392 c42 [(391, c184)] 424}, {args := [c183, c17], fp := [(10, c35), (4, (.row 32 (.node (.node c7 c36 c8) c25 c15) [] false 114 0)), (257, c184)], nx := 428, ans := .val c42}, {args := [c209, c60], fp := [(104, c35), (65, (.row 32 (.node (.node (.node c5 c62 c6) c2 c8) c25 c65) [] false 114 0)), (429, c16)], ans := .rows 430 c42 [(429, c184)] 462}, {args := [c215, c183], fp := [(257, c184), (480, c16)], ans := .rows 481 c42 [(480, c184)] 513}]), (24, [{args := [c224, c73], fp := [(111, (.row 10 (.node (.node (.node c76 c22 .leaf) c25 (.node c76 c28 .leaf)) c70 (.node (.node c76 c68 .leaf) c32 c12)) [] true 58 0)), (104, c35), (65, (.row 32 (.node (.node (.node c5 c62 c6) c2 c8) c25 c65) [] false 114 0)), (63, (.row 2 (.node (.node .leaf (some c77) .leaf) (some c60) .leaf) [] false 75 0)), (311, c79), (257, c184), (306, (.row 2 (.node (.node .leaf (some c211) .leaf) c225 .leaf) [] false 75 0))], nx := 424, ans := .val c45}]), (45, [{args := [c58, c80], nx := 427, ans := .val c41}]), (44, [{args := [c212, (.fn (.func 45) [] [])], fp := [(426, c79)], nx := 428, ans := .val c42}]), (81, [{args := [c209, c85], fp := [(429, c184)], ans := .rows 466 c45 [(468, (.row 1 (.node .leaf c213 .leaf) [] true 25 0)), (429, (.row 32 (.node (.node c7 c214 c8) c213 c65) [] false 114 0))] 469}]), (42, [{args := [c209, c47], fp := [(468, (.row 1 (.node .leaf c213 .leaf) [] true 25 0)), (429, (.row 32 (.node (.node c7 c214 c8) c213 c65) [] false 114 0))], nx := 470, ans := .val c27}]), (48, [{args := [c83, c47], fp := [(123, c84)], nx := 473, ans := .val c45}]), (18, [{args := [c224], fp := [(426, c79), (257, c184), (306, (.row 2 (.node (.node .leaf (some c212) .leaf) c225 .leaf) [] false 75 0))], ans := .rows 472 c217 [(473, c79)] 474}, {args := [c224], fp := [(426, c79), (257, c184), (306, (.row 2 (.node (.node .leaf (some c212) .leaf) c225 .leaf) [] false 75 0))], ans := .rows 474 c218 [(475, c79)] 476}, {args := [c73], fp := [(471, (.row 5 (.node (.node c76 c11 .leaf) c28 (.node c76 c75 .leaf)) [] true 58 0)), (468, (.row 1 (.node .leaf c213 .leaf) [] true 25 0)), (429, (.row 32 (.node (.node c7 c214 c8) c213 c65) [] false 114 0)), (63, (.row 2 (.node (.node .leaf (some c219) .leaf) (some c209) .leaf) [] false 75 0))], ans := .rows 476 c220 [(476, (.row 0 .leaf [c27, c10, c74, c74, c74] false 58 0))] 477}, {args := [c19], fp := [(0, c16), (1, (.row 2 (.node c3 (some c0) .leaf) [] false 75 0))], nx := 5, ans := .val c1}]), (46, [{args := [c1, (.fn (.func 78) [] [c17])], fp := [(4, c82)], nx := 5, ans := .val c1}]), (17, [{args := [c226], nx := 5, ans := .val c56}]), (50, [{args := [c1], ans := .rows 5 c39 [(5, (.row 2 (.node c174 c2 .leaf) [] false 127 0))] 6}, {args := [(.slc 6 0 0 (.op 1))], fp := [(6, (.row 0 .leaf [] true 5 0))], ans := .rows 7 c229 [(7, (.row 0 .leaf [c88] false 5 0)), (8, (.row 2 (.node c174 c231 .leaf) [] false 127 0))] 9}])]
theorem b8 : batchOk Tryz.prog ext T7 100000 200 B8 = true := by kernel_rfl
def T8 : Table := B8 ++ T7
theorem t8 : TabOk Tryz.prog Iv T8 := t7.add xok mixed b8
def B9 : Table := [(39, [{args := [c19, c20, c21], fp := [(0, c16), (1, (.row 2 (.node c3 (some c0) .leaf) [] false 75 0))], nx := 5, ans := .val c1}, {args := [c19, c20, c74], fp := [(0, c16), (1, (.row 2 (.node c3 (some c0) .leaf) [] false 75 0))], nx := 4, ans := .val c1}]), (40, [{args := [c233, c1], nx := 5, ans := .val c246}, {args := [(.agg [c46, c24, c46, c20, c21, c48, c1]), c38], fp := [(21, c33)], ans := .rows 22 c247 [(26, (.row 2 (.node c34 c28 .leaf) [] true 27 0))] 27}, {args := [(.agg [c27, c85, c221, c20, c74, c74, c1]), c78], fp := [(118, c79)], ans := .rows 119 c248 [(123, c84)] 124}]), (41, [{args := [c0], fp := [(0, c16)], ans := .rows 4 c17 [(4, c16)] 5}, {args := [c17], fp := [(10, c35), (4, (.row 32 (.node (.node c7 c36 c8) c25 c15) [] false 114 0))], ans := .rows 28 c18 [(28, c54)] 61}, {args := [c18], fp := [(28, c54)], ans := .rows 65 c60 [(65, c54)] 98}, {args := [c183], fp := [(257, c184)], ans := .rows 391 c208 [(391, c184)] 424}, {args := [c60], fp := [(104, c35), (65, (.row 32 (.node (.node (.node c5 c62 c6) c2 c8) c25 c65) [] false 114 0))], ans := .rows 429 c209 [(429, c184)] 462}, {args := [c183], fp := [(257, c184)], ans := .rows 480 c215 [(480, c184)] 513}]), (42, [{args := [c17, c44], fp := [(4, c16)], ans := .rows 7 c27 [(10, c35), (4, (.row 32 (.node (.node c7 c36 c8) c25 c15) [] false 114 0))] 11}, {args := [c60, c47], fp := [(65, c54)], ans := .rows 101 c27 [(104, c35), (65, (.row 32 (.node (.node (.node c5 c62 c6) c2 c8) c25 c65) [] false 114 0))] 105}, {args := [c209, c86], fp := [(429, c184)], ans := .rows 465 c27 [(468, (.row 1 (.node .leaf c213 .leaf) [] true 25 0)), (429, (.row 32 (.node (.node c7 c214 c8) c213 c65) [] false 114 0))] 469}]), (47, [{args := [c58, c249], fp := [(3, (.row 7 (.node (.node c67 c25 c31) c28 (.node c23 c70 c3)) [] false 30 0))], nx := 15, ans := .val c56}, {args := [c58, c250], fp := [(26, (.row 2 (.node c34 c28 .leaf) [] true 27 0)), (64, (.row 7 (.node (.node c67 c25 c69) c70 (.node c23 c70 (.node .leaf (some c43) .leaf))) [] false 30 0))], nx := 112, ans := .val c45}, {args := [c80, c250], fp := [(26, (.row 2 (.node c34 c28 .leaf) [] true 27 0)), (64, (.row 7 (.node (.node c67 c25 c69) c70 (.node c23 c70 (.node .leaf (some c43) .leaf))) [] false 30 0))], nx := 113, ans := .val c56}, {args := [c80, c251], fp := [(123, c84), (428, (.row 7 (.node (.node c67 c213 c76) c28 (.node c76 (some c221) (.node .leaf (some c83) .leaf))) [] false 30 0))], nx := 472, ans := .val c45}]), (46, [{args := [c38, (.fn (.func 78) [] [c59])], fp := [(18, c40), (21, c33)], ans := .rows 22 c38 [] 22}, {args := [c78, (.fn (.func 78) [] [c81])], fp := [(115, c82), (118, c79)], ans := .rows 119 c78 [] 119}]), (82, [{args := [c66, c27, c221, c221, (.fn (.func 45) [] [])], fp := [(109, c71)], nx := 110, ans := .val c42}]), (64, [{args := [c96, c20], fp := [(135, c97)], ans := .rows 136 c98 [(140, c105)] 141}, {args := [c98, c74], fp := [(140, c105)], ans := .rows 141 c106 [(144, c108)] 145}, {args := [c106, c74], fp := [(144, c108)], ans := .rows 145 c109 [(148, c111)] 149}, {args := [c1, c252], ans := .rows 219 c137 [(221, c141)] 222}, {args := [c148, c20], fp := [(234, c150)], ans := .rows 235 c151 [(239, c156)] 240}, {args := [c151, c21], fp := [(239, c156)], ans := .rows 240 c157 [(244, c164)] 245}, {args := [c157, c48], fp := [(244, c164)], ans := .rows 245 c165 [(249, c168)] 250}, {args := [c1, c252], ans := .rows 360 c198 [(362, c141)] 363}, {args := [c201, c20], fp := [(375, c150)], ans := .rows 376 c202 [(380, c156)] 381}, {args := [c202, c21], fp := [(380, c156)], ans := .rows 381 c203 [(385, c164)] 386}, {args := [c203, c48], fp := [(385, c164)], ans := .rows 386 c205 [(390, c168)] 391}]), (53, [{args := [c173, c241], fp := [(164, c121), (165, (.row 2 (.node c174 (some (.slc 164 3 7 (.op 1))) .leaf) [] false 127 0))], ans := .rows 166 c20 [(165, (.row 2 (.node c174 (some (.slc 164 5 5 (.op 1))) .leaf) [] false 127 0))] 166}, {args := [c173, c241], fp := [(164, c121), (165, (.row 2 (.node c174 (some (.slc 164 5 5 (.op 1))) .leaf) [] false 127 0))], ans := .rows 166 c74 [(165, (.row 2 (.node c174 (some (.slc 164 6 4 (.op 1))) .leaf) [] false 127 0))] 166}, {args := [c173, c242], fp := [(164, c121), (165, (.row 2 (.node c174 (some (.slc 164 6 4 (.op 1))) .leaf) [] false 127 0))], ans := .rows 166 c74 [(165, (.row 2 (.node c174 (some (.slc 164 7 3 (.op 1))) .leaf) [] false 127 0))] 166}, {args := [c178, (.sc (.int .i64 21))], fp := [(251, c168), (252, (.row 2 (.node c174 (some c169) .leaf) [] false 127 0))], ans := .rows 253 c252 [(252, (.row 2 (.node c174 (some (.slc 251 8 13 (.op 1))) .leaf) [] false 127 0))] 253}, {args := [c178, c241], fp := [(251, c168), (252, (.row 2 (.node c174 (some (.slc 251 11 10 (.op 1))) .leaf) [] false 127 0))], ans := .rows 310 c20 [(252, (.row 2 (.node c174 (some (.slc 251 13 8 (.op 1))) .leaf) [] false 127 0))] 310}, {args := [c178, c241], fp := [(251, c168), (252, (.row 2 (.node c174 (some (.slc 251 13 8 (.op 1))) .leaf) [] false 127 0))], ans := .rows 310 c21 [(252, (.row 2 (.node c174 (some (.slc 251 16 5 (.op 1))) .leaf) [] false 127 0))] 310}, {args := [c178, c242], fp := [(251, c168), (252, (.row 2 (.node c174 (some (.slc 251 16 5 (.op 1))) .leaf) [] false 127 0))], ans := .rows 310 c48 [(252, (.row 2 (.node c174 (some (.emp 251)) .leaf) [] false 127 0))] 310}, {args := [c39, c241], fp := [(5, (.row 2 (.node c228 c2 .leaf) [] false 127 0))], nx := 6, ans := .val c74}, {args := [c39, c242], fp := [(5, (.row 2 (.node c228 c2 .leaf) [] false 127 0))], nx := 6, ans := .val c74}, {args := [c39, c27], fp := [(5, (.row 2 (.node c174 c2 .leaf) [] false 127 0))], ans := .rows 6 c74 [(5, (.row 2 (.node c228 c2 .leaf) [] false 127 0))] 6}]), (65, [{args := [c60], fp := [(104, c35), (65, (.row 32 (.node (.node (.node c5 c62 c6) c2 c8) c25 c65) [] false 114 0))], ans := .rows 170 c235 [(218, c171)] 219}, {args := [c183], fp := [(257, c184)], ans := .rows 258 c204 [(305, c171)] 306}, {args := [c183], fp := [(257, c184)], ans := .rows 312 c245 [(359, c171)] 360}]), (72, [{args := [c19, c80], fp := [(14, c33), (10, c35), (4, (.row 32 (.node (.node c7 c36 c8) c25 c15) [] false 114 0)), (1, (.row 2 (.node (.node .leaf (some c37) .leaf) (some c17) .leaf) [] false 75 0))], nx := 425, ans := .val c56}, {args := [c224, c58], fp := [(311, c79), (257, c184), (306, (.row 2 (.node (.node .leaf (some c211) .leaf) c225 .leaf) [] false 75 0))], nx := 428, ans := .val c56}]), (14, [{args := [c19, c226], fp := [(0, c16), (1, (.row 2 (.node c3 (some c0) .leaf) [] false 75 0))], nx := 4, ans := .val (.tup [c56, c46])}]), (55, [{args := [(.slc 6 0 0 (.op 1))], fp := [(6, (.row 0 .leaf [] true 5 0))], nx := 7, ans := .val c253}])]
theorem b9 : batchOk Tryz.prog ext T8 100000 200 B9 = true := by kernel_rfl
def T9 : Table := B9 ++ T8
theorem t9 : TabOk Tryz.prog Iv T9 := t8.add xok mixed b9
def B10 : Table := [(13, [{args := [c19, c44, c20, c21, c29], fp := [(0, c16), (1, (.row 2 (.node c3 (some c0) .leaf) [] false 75 0))], nx := 2, ans := .val c246}]), (86, [{args := [c37, (.fn (.func 47) [] [c249])], fp := [(3, (.row 7 (.node (.node c67 c25 c31) c28 (.node c23 c70 c3)) [] false 30 0)), (14, c33)], nx := 15, ans := .val c41}, {args := [c72, (.fn (.func 47) [] [c250])], fp := [(26, (.row 2 (.node c34 c28 .leaf) [] true 27 0)), (64, (.row 7 (.node (.node c67 c25 c69) c70 (.node c23 c70 (.node .leaf (some c43) .leaf))) [] false 30 0)), (111, c71)], nx := 112, ans := .val c27}, {args := [c216, (.fn (.func 47) [] [c251])], fp := [(123, c84), (428, (.row 7 (.node (.node c67 c213 c76) c28 (.node c76 (some c221) (.node .leaf (some c83) .leaf))) [] false 30 0)), (471, c79)], nx := 472, ans := .val c27}]), (39, [{args := [c19, c20, c21], fp := [(14, c33), (10, c35), (4, (.row 32 (.node (.node c7 c36 c8) c25 c15) [] false 114 0)), (1, (.row 2 (.node (.node .leaf (some c37) .leaf) (some c17) .leaf) [] false 75 0))], ans := .rows 18 c38 [(21, c33)] 22}, {args := [c73, c20, c74], fp := [(111, (.row 10 (.node (.node (.node c76 c22 .leaf) c25 (.node c76 c28 .leaf)) c70 (.node (.node c76 c68 .leaf) c32 c12)) [] true 58 0)), (104, c35), (65, (.row 32 (.node (.node (.node c5 c62 c6) c2 c8) c25 c65) [] false 114 0)), (63, (.row 2 (.node (.node .leaf (some c77) .leaf) (some c60) .leaf) [] false 75 0))], ans := .rows 115 c78 [(118, c79)] 119}]), (25, [{args := [c19], fp := [(14, c33), (10, c35), (4, (.row 32 (.node (.node c7 c36 c8) c25 c15) [] false 114 0)), (1, (.row 2 (.node (.node .leaf (some c37) .leaf) (some c17) .leaf) [] false 75 0))], ans := .rows 28 c73 [(62, c33), (28, c54), (63, (.row 2 (.node (.node .leaf (some c64) .leaf) (some c18) .leaf) [] false 75 0))] 64}]), (44, [{args := [c66, (.fn (.func 45) [] [])], fp := [(109, c71)], nx := 110, ans := .val c42}]), (28, [{args := [c223], fp := [(123, c84)], ans := .rows 125 (.tup [c119, c27]) [(161, c121)] 162}]), (15, [{args := [c119], fp := [(161, c121)], ans := .rows 162 (.tup [c222, c27]) [(168, c84)] 169}, {args := [c1], nx := 4, ans := .val (.tup [c226, c232])}]), (22, [{args := [c73], fp := [(111, (.row 10 (.node (.node (.node c76 c22 .leaf) c25 (.node c76 c28 .leaf)) c70 (.node (.node c76 c68 .leaf) c32 c12)) [] true 58 0)), (104, c35), (65, (.row 32 (.node (.node (.node c5 c62 c6) c2 c8) c25 c65) [] false 114 0)), (63, (.row 2 (.node (.node .leaf (some c77) .leaf) (some c60) .leaf) [] false 75 0))], ans := .rows 170 c165 [(249, c168)] 250}, {args := [c224], fp := [(311, c79), (257, c184), (306, (.row 2 (.node (.node .leaf (some c211) .leaf) c225 .leaf) [] false 75 0))], ans := .rows 312 c205 [(390, c168)] 391}]), (55, [{args := [c170], fp := [(253, c171)], ans := .rows 254 (.tup [c183, c27]) [(257, c184)] 306}]), (32, [{args := [c224], fp := [(311, c79), (257, c184), (306, (.row 2 (.node (.node .leaf (some c211) .leaf) c225 .leaf) [] false 75 0))], ans := .rows 391 c208 [(391, c184)] 424}, {args := [c224], fp := [(426, c79), (257, c184), (306, (.row 2 (.node (.node .leaf (some c212) .leaf) c225 .leaf) [] false 75 0))], ans := .rows 480 c215 [(480, c184)] 513}]), (26, [{args := [c224, c19], fp := [(14, c33), (10, c35), (4, (.row 32 (.node (.node c7 c36 c8) c25 c15) [] false 114 0)), (1, (.row 2 (.node (.node .leaf (some c37) .leaf) (some c17) .leaf) [] false 75 0)), (311, c79), (257, c184), (306, (.row 2 (.node (.node .leaf (some c211) .leaf) c225 .leaf) [] false 75 0))], ans := .rows 424 c42 [(426, c79), (306, (.row 2 (.node (.node .leaf (some c212) .leaf) c225 .leaf) [] false 75 0))] 428}]), (12, [{args := [c19, c44, c20, c74], fp := [(0, c16), (1, (.row 2 (.node c3 (some c0) .leaf) [] false 75 0))], nx := 2, ans := .val (.tup [c226, c244])}]), (16, [{args := [c1], nx := 5, ans := .val c253}])]
theorem b10 : batchOk Tryz.prog ext T9 100000 200 B10 = true := by kernel_rfl
def T10 : Table := B10 ++ T9
theorem t10 : TabOk Tryz.prog Iv T10 := t9.add xok mixed b10
def B11 : Table := [(46, [{args := [c37, (.fn (.func 47) [] [c249])], fp := [(3, (.row 7 (.node (.node c67 c25 c31) c28 (.node c23 c70 c3)) [] false 30 0)), (14, c33)], ans := .rows 15 c37 [] 15}, {args := [c72, (.fn (.func 47) [] [c250])], fp := [(26, (.row 2 (.node c34 c28 .leaf) [] true 27 0)), (64, (.row 7 (.node (.node c67 c25 c69) c70 (.node c23 c70 (.node .leaf (some c43) .leaf))) [] false 30 0)), (111, c71)], ans := .rows 112 c77 [(111, (.row 10 (.node (.node (.node c76 c22 .leaf) c25 (.node c76 c28 .leaf)) c70 (.node (.node c76 c68 .leaf) c32 c12)) [] true 58 0))] 113}, {args := [c216, (.fn (.func 47) [] [c251])], fp := [(123, c84), (428, (.row 7 (.node (.node c67 c213 c76) c28 (.node c76 (some c221) (.node .leaf (some c83) .leaf))) [] false 30 0)), (471, c79)], ans := .rows 472 c219 [(471, (.row 5 (.node (.node c76 c11 .leaf) c28 (.node c76 c75 .leaf)) [] true 58 0))] 472}]), (13, [{args := [c19, c47, c20, c21, c48], fp := [(14, c33), (10, c35), (4, (.row 32 (.node (.node c7 c36 c8) c25 c15) [] false 114 0)), (1, (.row 2 (.node (.node .leaf (some c37) .leaf) (some c17) .leaf) [] false 75 0))], ans := .rows 15 c247 [(26, (.row 2 (.node c34 c28 .leaf) [] true 27 0))] 27}]), (12, [{args := [c73, c86, c20, c74], fp := [(111, (.row 10 (.node (.node (.node c76 c22 .leaf) c25 (.node c76 c28 .leaf)) c70 (.node (.node c76 c68 .leaf) c32 c12)) [] true 58 0)), (104, c35), (65, (.row 32 (.node (.node (.node c5 c62 c6) c2 c8) c25 c65) [] false 114 0)), (63, (.row 2 (.node (.node .leaf (some c77) .leaf) (some c60) .leaf) [] false 75 0))], ans := .rows 113 c248 [(123, c84)] 124}]), (16, [{args := [c165], fp := [(249, c168)], ans := .rows 250 (.tup [c224, c27]) [(311, c79), (257, c184), (306, (.row 2 (.node (.node .leaf (some c211) .leaf) c225 .leaf) [] false 75 0))] 391}])]
theorem b11 : batchOk Tryz.prog ext T10 100000 200 B11 = true := by kernel_rfl
def T11 : Table := B11 ++ T10
theorem t11 : TabOk Tryz.prog Iv T11 := t10.add xok mixed b11
def B12 : Table := [(14, [{args := [c19, c233], fp := [(0, c16), (1, (.row 2 (.node c3 (some c0) .leaf) [] false 75 0))], ans := .rows 3 c254 [(14, c33), (10, c35), (4, (.row 32 (.node (.node c7 c36 c8) c25 c15) [] false 114 0)), (1, (.row 2 (.node (.node .leaf (some c37) .leaf) (some c17) .leaf) [] false 75 0))] 15}, {args := [c73, c234], fp := [(26, (.row 2 (.node c34 c28 .leaf) [] true 27 0)), (62, c33), (28, c54), (63, (.row 2 (.node (.node .leaf (some c64) .leaf) (some c18) .leaf) [] false 75 0))], ans := .rows 64 c254 [(111, (.row 10 (.node (.node (.node c76 c22 .leaf) c25 (.node c76 c28 .leaf)) c70 (.node (.node c76 c68 .leaf) c32 c12)) [] true 58 0)), (104, c35), (65, (.row 32 (.node (.node (.node c5 c62 c6) c2 c8) c25 c65) [] false 114 0)), (63, (.row 2 (.node (.node .leaf (some c77) .leaf) (some c60) .leaf) [] false 75 0))] 113}, {args := [c73, c223], fp := [(123, c84), (111, (.row 10 (.node (.node (.node c76 c22 .leaf) c25 (.node c76 c28 .leaf)) c70 (.node (.node c76 c68 .leaf) c32 c12)) [] true 58 0)), (104, c35), (65, (.row 32 (.node (.node (.node c5 c62 c6) c2 c8) c25 c65) [] false 114 0)), (63, (.row 2 (.node (.node .leaf (some c77) .leaf) (some c60) .leaf) [] false 75 0))], ans := .rows 428 c254 [(471, (.row 5 (.node (.node c76 c11 .leaf) c28 (.node c76 c75 .leaf)) [] true 58 0)), (468, (.row 1 (.node .leaf c213 .leaf) [] true 25 0)), (429, (.row 32 (.node (.node c7 c214 c8) c213 c65) [] false 114 0)), (63, (.row 2 (.node (.node .leaf (some c219) .leaf) (some c209) .leaf) [] false 75 0))] 472}])]
theorem b12 : batchOk Tryz.prog ext T11 100000 200 B12 = true := by kernel_rfl
def T12 : Table := B12 ++ T11
theorem t12 : TabOk Tryz.prog Iv T12 := t11.add xok mixed b12
def B13 : Table := [(10, [{args := [], nx := 0, ans := .val c45}])]
theorem b13 : batchOk Tryz.prog ext T12 100000 200 B13 = true := by kernel_rfl
def T13 : Table := B13 ++ T12
theorem t13 : TabOk Tryz.prog Iv T13 := t12.add xok mixed b13
theorem t : TabOk Tryz.prog Iv T13 := t13
abbrev T : Table := T13
end Go.Proofs.YtlhlnchhaminjaaGreat
namespace Go.Proofs.YtlhlnchhaminjaaGreat
open Go Go.Ab Go.RowKit
def BA : Table := [(10, [{ args := [], ans := .val (.sc (.bool true)) }])]
theorem bA : batchOk Tryz.prog ext T 100000 200 BA = true := by kernel_rfl
def TA : Table := BA ++ T
theorem tA : TabOk Tryz.prog Iv TA := t.add xok mixed bA
end Go.Proofs.YtlhlnchhaminjaaGreat
set_option maxRecDepth 100000
set_option linter.unusedVariables false
set_option linter.unusedSimpArgs false
namespace Go.Proofs.YtlhlnchhaminjaaGreat.crdtGrows
open Go Go.Ab Go.ChangeShapes Go.WideShapes Go.ChangeAt Go.RowKit
theorem own : ownKnob Tryz.prog.godebug = none := by kernel_rfl
open Go.Ab.Dot Go.Ab.Crw Go.Proofs.YtlhlnchhaminjaaGreat.cshare
def base (w : World) : Base := ⟨w.heap.size, fun _ => True, fun _ _ _ _ => trivial⟩
theorem awake {B : Base} : AwakeC B (CallsR Tryz.prog 10) := by
  intro M Q hM hQ
  exact callsR_tab tA ⟨Tryz.f10, _, Tryz.func10, rfl⟩ (fun A => by kernel_rfl) (fun _ _ => trivial) hQ
theorem walk (w : World) (v0 v1 : Value) (h0 : FitsA Tryz.prog (RM.old (base w) w) 43 (absA w.heap.size v0)) (h1 : FitsA Tryz.prog (RM.old (base w) w) 3 (absA w.heap.size v1)) :
    Calls Tryz.prog 9 #[v0, v1] w fun e w' => e = .returned (.bool true) ∧ Below w.heap.size w w' := by
  have hf := h0.one (by kernel_rfl)
  obtain ⟨u0, l, e0, hl, _⟩ := fits_evs hf
  obtain ⟨n, e1, _, _⟩ := (h1.one (by kernel_rfl)).int_inv Tryz.underlying3
  refine CallsR.close (base := base w) rfl trivial ?_
  simp only [List.map_cons, List.map_nil]
  rw [show absA (base w).n v0 = u0 from (List.cons.inj e0).1, show absA (base w).n v1 = N .i64 n from (List.cons.inj e1).1]
  obtain ⟨a0, a1, e, h⟩ := crdtGrows_spec (TE := 30) (M := RM.old (base w) w) (n := n) (Q := fun v _ => v = Bo true) (awake (B := base w)) cshare.own cshare.state cshare.newSt cshare.seen cshare.apply cshare.within cshare.copySt cshare.joinSt cshare.sameSt rfl hl (fun M' k => cut_evs hf e0 ((hl.keep k (by simp)).mono (fun d hd => Nat.lt_of_lt_of_le hd k.next))) (fun M' => rfl)
  cases e
  exact r_CrdtGrows_calls h
set_option maxRecDepth 100000 in
theorem lifted (os : Os) (started : os.Started) (H : Type) (enc : TypeId × Value → H) :
    ReturnsInHanded {} Tryz.checked os 9 .any (Rows.crdtGrowsSpec.pre6 enc Tryz.prog Tryz.f9 Rows.crdtGrowsRow.domain false) (Rows.crdtGrowsSpec.post enc Tryz.prog Tryz.f9 false true false false) := by
  refine returnsInHanded_of_change_sized (C := Tryz.checked) own started (by kernel_rfl) Tryz.func9
    (ChangeSpec.witness6 (enc := enc) (C := Tryz.checked) false ⟨#[], #[.slice none 0 0, .int .i64 0], []⟩ 8 (by kernel_rfl) (by kernel_rfl) (by kernel_rfl) (by kernel_rfl)) ?_
  intro W b0 args ds gs before hval hW hcnd hwt _
  have hW' := hW
  obtain ⟨p, q, hA, hV, rfl, hfz, hnd⟩ := hW
  rw [Tryz.params9] at hA hwt
  obtain ⟨rfl, rfl⟩ := trodVars_none hV
  have hfit := fits_all (base := base W) rfl hA (fun j t v hj hv => hval j t v (by rw [Tryz.params9]; simpa using hj) (by simpa using hv)) (fun y hy => by
    have hwt2 : (DataW.weightsEach Tryz.prog [43, 3] (ds ++ [])).all (· ≤ reachBytes) = true := hwt
    have := List.all_eq_true.1 hwt2 y (by rw [List.append_nil]; exact hy)
    simpa using this)
  simp only [List.append_nil] at hW'
  have hlt : ∀ x ∈ p, x.block < W.heap.size := fun x hx => hW'.lt x hx
  obtain ⟨v0, v1, d0, d1, p0, p1, rfl, rfl, rfl, h0, h1⟩ := trodAll_two hA
  refine (walk W v0 v1 (hfit 0 _ _ rfl rfl) (hfit 1 _ _ rfl rfl)).mono fun e W' ⟨he, hg⟩ => ?_
  subst he
  exact ⟨_, rfl, post_of_below (pa := _) (pv := []) hW' (fun _ _ _ => (trodAll_cons_mk (shut_bool Tryz.underlying4 _) trodAll_mk0)) (fun sp hsp => by
      rw [Tryz.params9]
      exact trodAll_stays (by kernel_rfl) hg (fun t ht => by
        have ht : t = 43 ∨ t = 3 := by simpa using ht
        rcases ht with rfl | rfl <;> exact ⟨by kernel_rfl, of_decide_eq_true (by kernel_rfl)⟩) hA hlt hsp) (fun _ _ => rfl) (by simp)
    hg (ok_one (by kernel_rfl) rfl (okWide_bool_mk Tryz.underlying4 _))⟩
theorem over : Rows.crdtGrowsRow.holds Tryz.pinned (OpenSpec.ofChange Rows.crdtGrowsSpec) :=
  OpenClaim.holds_of_wide 9 Tryz.f9 rfl rfl rfl rfl rfl rfl rfl ⟨rfl, rfl, rfl, rfl, rfl⟩ rfl rfl rfl rfl rfl (by kernel_rfl) Tryz.func9 (by kernel_rfl)
    (of_decide_eq_true (by kernel_rfl)) (by unfold Func.isWrapper; first | (rw [if_pos (by decide +kernel)]; kernel_rfl) | (rw [if_neg (by decide +kernel)]; exact ⟨rfl, rfl⟩))
    (fun os started H enc _ => lifted os started H enc)
theorem proved : Rows.CrdtGrowsSaid :=
  over
end Go.Proofs.YtlhlnchhaminjaaGreat.crdtGrows
