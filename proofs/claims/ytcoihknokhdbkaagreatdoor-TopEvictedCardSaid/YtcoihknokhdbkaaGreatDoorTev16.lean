/- Part 16 of the ground of the proofs of this seat (texts PP1b to PP1b). By an AI agent. -/
import Derived.Test.YtcoihknokhdbkaaGreatDoorTev8
set_option maxRecDepth 1000000
namespace Go.Proofs.YtcoihknokhdbkaaGreatDoor
open Go Go.Ab Go.Ab.Sy
theorem Gi:PC C1 38 Z.BJ=true:=by kernel_rfl
theorem GK:PC C1 8 Z.BX=true:=by kernel_rfl
theorem Dx:PC C1 197 Z.xD=true:=by kernel_rfl
theorem Cv:PC C1 38 Z.yH=true:=by kernel_rfl
theorem Ls:PC C1 7 Z.Fv=true:=by kernel_rfl
theorem LK:PC C1 7 Z.FR=true:=by kernel_rfl
theorem adO:PC C1 15 Z.aah=true:=by kernel_rfl
theorem CE:PC C1 13 Z.yD=true:=by kernel_rfl
theorem Cs:PC C1 20 Z.yP=true:=by kernel_rfl
theorem Cm:PC C1 20 Z.xU=true:=by kernel_rfl
end Go.Proofs.YtcoihknokhdbkaaGreatDoor
