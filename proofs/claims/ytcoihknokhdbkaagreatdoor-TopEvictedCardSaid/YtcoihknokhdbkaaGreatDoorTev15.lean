/- Part 15 of the ground of the proofs of this seat (texts PP1a to PP1a). By an AI agent. -/
import Derived.Test.YtcoihknokhdbkaaGreatDoorTev8
set_option maxRecDepth 1000000
namespace Go.Proofs.YtcoihknokhdbkaaGreatDoor
open Go Go.Ab Go.Ab.Sy
theorem Dm:PC C1 197 Z.xG=true:=by kernel_rfl
theorem Gw:PC C1 8 Z.BQ=true:=by kernel_rfl
theorem Dw:PC C1 108 Z.xJ=true:=by kernel_rfl
theorem LY:PC C1 7 Z.FJ=true:=by kernel_rfl
theorem Lg:PC C1 9 Z.EM=true:=by kernel_rfl
theorem Lt:PC C1 6 Z.FD=true:=by kernel_rfl
theorem CO:PC C1 13 Z.yI=true:=by kernel_rfl
theorem Di:PC C1 20 Z.xS=true:=by kernel_rfl
theorem CV:PC C1 20 Z.xM=true:=by kernel_rfl
theorem CB:PC C1 15 Z.xO=true:=by kernel_rfl
end Go.Proofs.YtcoihknokhdbkaaGreatDoor
