/- Part 17 of the ground of the proofs of this seat (texts PP1c to PP1c). By an AI agent. -/
import Derived.Test.YtcoihknokhdbkaaGreatDoorTev8
set_option maxRecDepth 1000000
namespace Go.Proofs.YtcoihknokhdbkaaGreatDoor
open Go Go.Ab Go.Ab.Sy
theorem Ho:PC C1 38 Z.Bb=true:=by kernel_rfl
theorem Lf:PC C1 38 Z.EG=true:=by kernel_rfl
theorem Lp:PC C1 8 Z.F6=true:=by kernel_rfl
theorem Iy:PC C1 38 Z.AY=true:=by kernel_rfl
theorem GZ:PC C1 38 Z.Au=true:=by kernel_rfl
theorem Oj:PC C1 6 Z.Kr=true:=by kernel_rfl
theorem Li:PC C1 6 Z.E9=true:=by kernel_rfl
theorem aal:PC C1 20 Z.aaa=true:=by kernel_rfl
theorem Cn:PC C1 20 Z.yT=true:=by kernel_rfl
theorem Dz:PC C1 15 Z.yM=true:=by kernel_rfl
end Go.Proofs.YtcoihknokhdbkaaGreatDoor
