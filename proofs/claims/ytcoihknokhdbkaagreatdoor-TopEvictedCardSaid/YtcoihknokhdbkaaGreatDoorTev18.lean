/- Part 18 of the ground of the proofs of this seat (texts PP1d to PP1d). By an AI agent. -/
import Derived.Test.YtcoihknokhdbkaaGreatDoorTev8
set_option maxRecDepth 1000000
namespace Go.Proofs.YtcoihknokhdbkaaGreatDoor
open Go Go.Ab Go.Ab.Sy
theorem Ha:PC C1 38 Z.BI=true:=by kernel_rfl
theorem Cr:PC C1 197 Z.xC=true:=by kernel_rfl
theorem Dr:PC C1 197 Z.xH=true:=by kernel_rfl
theorem Cw:PC C1 38 Z.xI=true:=by kernel_rfl
theorem Gp:PC C1 38 Z.AA=true:=by kernel_rfl
theorem P7:PC C1 7 Z.JK=true:=by kernel_rfl
theorem adX:PC C1 13 Z.aaj=true:=by kernel_rfl
theorem Dj:PC C1 13 Z.xP=true:=by kernel_rfl
theorem DD:PC C1 20 Z.xQ=true:=by kernel_rfl
theorem Cz:PC C1 20 Z.wX=true:=by kernel_rfl
theorem CG:PC C1 15 Z.xA=true:=by kernel_rfl
end Go.Proofs.YtcoihknokhdbkaaGreatDoor
