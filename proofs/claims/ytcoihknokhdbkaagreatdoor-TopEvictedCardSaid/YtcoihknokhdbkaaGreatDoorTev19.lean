/- Part 19 of the ground of the proofs of this seat (texts PP1e to PP1e). By an AI agent. -/
import Derived.Test.YtcoihknokhdbkaaGreatDoorTev8
set_option maxRecDepth 1000000
namespace Go.Proofs.YtcoihknokhdbkaaGreatDoor
open Go Go.Ab Go.Ab.Sy
theorem Cx:PC C1 38 Z.wZ=true:=by kernel_rfl
theorem G6:PC C1 38 Z.BK=true:=by kernel_rfl
theorem LV:PC C1 8 Z.EQ=true:=by kernel_rfl
theorem Du:PC C1 38 Z.wW=true:=by kernel_rfl
theorem LZ:PC C1 7 Z.Fb=true:=by kernel_rfl
theorem Ip:PC C1 38 Z.Bi=true:=by kernel_rfl
theorem Pk:PC C1 6 Z.Kl=true:=by kernel_rfl
theorem adJ:PC C1 20 Z.aag=true:=by kernel_rfl
theorem CK:PC C1 13 Z.xB=true:=by kernel_rfl
theorem Cq:PC C1 20 Z.yO=true:=by kernel_rfl
theorem CQ:PC C1 15 Z.xN=true:=by kernel_rfl
end Go.Proofs.YtcoihknokhdbkaaGreatDoor
