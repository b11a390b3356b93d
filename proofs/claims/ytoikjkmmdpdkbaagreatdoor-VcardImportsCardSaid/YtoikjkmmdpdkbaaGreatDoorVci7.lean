/- 'VcardImports' returns true, in whatever world it is called. By an AI agent. -/
import Derived.Test.YtoikjkmmdpdkbaaGreatDoorVci6
import Derived.KernelRfl
import Derived.Test.YtoikjkmmdpdkbaaGreatDoorProg
import Derived.Lib.LaidTab
import Derived.Lib.LaidU8
import Derived.Shelf.Vars
import Derived.Shelf.LaysC
import Derived.Shelf.Unicode.ValidAny
import Derived.Shelf.Unicode.DecodeAny
import Derived.Shelf.Strings.SlTrimAscii
import Derived.Shelf.Strings.IndexAnyAll
import Derived.Shelf.Strconv.Itoa3
import Derived.Shelf.Strconv.AtoiAll
import Derived.WalkKit
import Derived.Below
import Derived.ProofKit
import Derived.Test.YtoikjkmmdpdkbaaGreatDoorRows
import Derived.LaidMore
import Derived.Lay
import Derived.Test.YtoikjkmmdpdkbaaGreatDoorTie
import Derived.Test.YtoikjkmmdpdkbaaGreatDoorCards
import Derived.Carry
import Derived.OpenShut
import Derived.SevenTiedAt
import Derived.Stop.Joined
set_option maxRecDepth 100000
set_option linter.unusedVariables false
set_option linter.unusedSimpArgs false
namespace Go.Proofs.YtoikjkmmdpdkbaaGreatDoor
open Go Go.Ab
abbrev ax := @gK Tryz.prog
theorem pok:Eo Tryz.prog:=⟨Yd (by kernel_rfl),by kernel_rfl⟩
theorem bz {f:FuncId} {fn:Func} {args:List AV} {M:RM} {Q:ak} {B:Prop} (h:B) (hfn:Tryz.prog.funcs[f]?=some fn:=by kernel_rfl) (e:B=LD Tryz.prog fn args M Q:=by kernel_rfl) : ax f args M Q:=V4 pok hfn (e▸h)
variable {a0 a1 a2 a3 a4 a5 a6 a7:AV} {M:RM} {Q:ak}
theorem uO (h:Go.Ab.Vc.mZ (ax 8) (ax 9) (ax 12) (ax 13) a0 M Q) : ax 4 [a0] M Q:=bz (fn:=Tryz.f4) h
theorem D6 (h:Go.Ab.Vc.vG (ax 9) (ax 10) (ax 15) 48 (ax 16) 30 (ax 11)  M Q) : ax 8 [] M Q:=bz (fn:=Tryz.f8) h
theorem CW (h:Go.Ab.Vc.sS (ax 17) (ax 18) (ax 19) 33 a0 M Q) : ax 9 [a0] M Q:=bz (fn:=Tryz.f9) h
theorem Cq (h:Go.Ab.Vc.sZ 33 30 (ax 20) 48 (ax 11) (ax 21) (ax 22) a0 M Q) : ax 10 [a0] M Q:=bz (fn:=Tryz.f10) h
theorem ER (h:Go.Ab.Vc.yZ 30 (ax 15) 48 a0 M Q) : ax 11 [a0] M Q:=bz (fn:=Tryz.f11) h
theorem C9 (h:Go.Ab.Vc.si (ax 23) (ax 24) 40 (ax 25) (ax 26) 75 (ax 27) (ax 28) a0 M Q) : ax 12 [a0] M Q:=bz (fn:=Tryz.f12) h
theorem Em (h:Go.Ab.Vc.uS a0 a1 M Q) : ax 13 [a0,a1] M Q:=bz (fn:=Tryz.f13) h
theorem FM (h:Go.Ab.Vc.xJ 30 48 (ax 20) a0 M Q) : ax 15 [a0] M Q:=bz (fn:=Tryz.f15) h
theorem D5 (h:Go.Ab.Vc.uW 48 30 (ax 22) (ax 29) (ax 21) (ax 30) a0 a1 M Q) : ax 16 [a0,a1] M Q:=bz (fn:=Tryz.f16) h
theorem FK (h:Go.Ab.Vl.wV (ax 31) (ax 32) 48 a0 M Q) : ax 17 [a0] M Q:=bz (fn:=Tryz.f17) h
theorem G6 (h:Go.Ab.Vc.AB 48 (ax 33) (ax 29) 53 a0 M Q) : ax 18 [a0] M Q:=bz (fn:=Tryz.f18) h
theorem FJ (h:Go.Ab.Vc.yO 33 48 (ax 21) 30 (ax 30) (ax 34) a0 M Q) : ax 19 [a0] M Q:=bz (fn:=Tryz.f19) h
theorem Fw (h:Go.Ab.Vc.yR 30 48 (ax 35) (ax 36) (ax 37) (ax 38) (ax 16) a0 M Q) : ax 20 [a0] M Q:=bz (fn:=Tryz.f20) h
theorem FH (h:Go.Ab.Vc.yV 48 30 (ax 39) (ax 37) (ax 40) (ax 38) a0 M Q) : ax 21 [a0] M Q:=bz (fn:=Tryz.f21) h
theorem Eh (h:Go.Ab.Vl.uV 48 (ax 41) (ax 42) (ax 43) a0 M Q) : ax 22 [a0] M Q:=bz (fn:=Tryz.f22) h
theorem EX (h:Go.Ab.Vl.yH (ax 44) 72 (ax 45) a0 M Q) : ax 23 [a0] M Q:=bz (fn:=Tryz.f23) h
theorem Eg (h:Go.Ab.Vc.uN 72 (ax 46) a0 M Q) : ax 24 [a0] M Q:=bz (fn:=Tryz.f24) h
theorem Fu (h:Go.Ab.Vc.yB 5 (ax 47) a0 a1 M Q) : ax 25 [a0,a1] M Q:=bz (fn:=Tryz.f25) h
theorem Ed (h:Go.Ab.Vc.u6 72 75 (ax 48) (ax 49) (ax 50) (ax 51) a0 M Q) : ax 26 [a0] M Q:=bz (fn:=Tryz.f26) h
theorem GQ (h:Go.Ab.Vc.Ap a0 M Q) : ax 27 [a0] M Q:=bz (fn:=Tryz.f27) h
theorem Fx (h:Go.Ab.Vc.yM (ax 52) a0 a1 M Q) : ax 28 [a0,a1] M Q:=bz (fn:=Tryz.f28) h
theorem Aq (h:Go.Ab.Vc.qF a0 M Q) : ax 29 [a0] M Q:=bz (fn:=Tryz.f29) h
theorem Al (h:Go.Ab.Vc.qH (ax 53) a0 a1 M Q) : ax 30 [a0,a1] M Q:=bz (fn:=Tryz.f30) h
theorem CO (h:Go.Ab.Vl.tQ (ax 54) (ax 55) 9 3 a0 M Q) : ax 31 [a0] M Q:=bz (fn:=Tryz.f31) h
theorem Fp (h:Go.Ab.Vl.xL 48 (ax 56) (ax 57) (ax 58) (ax 59) (ax 60) (ax 61) a0 M Q) : ax 32 [a0] M Q:=bz (fn:=Tryz.f32) h
theorem Bf (h:Go.Ab.Vc.rA 48 (ax 62) a0 a1 M Q) : ax 33 [a0,a1] M Q:=bz (fn:=Tryz.f33) h
theorem BD (h:Go.Ab.Vc.rD 48 5 (ax 64) (ax 63) a0 a1 M Q) : ax 34 [a0,a1] M Q:=bz (fn:=Tryz.f34) h
theorem ol (h:Go.Ab.Vl.jk (ax 65) a0 a1 M Q) : ax 35 [a0,a1] M Q:=bz (fn:=Tryz.f35) h
theorem BC (h:Go.Ab.Vc.rO 48 (ax 66) (ax 35) (ax 58) 114 (ax 67) 9 (ax 68) a0 M Q) : ax 36 [a0] M Q:=bz (fn:=Tryz.f36) h
theorem CQ (h:Go.Ab.Vc.sw a0 M Q) : ax 37 [a0] M Q:=bz (fn:=Tryz.f37) h
theorem BU (h:Go.Ab.Vl.sQ 122 5 (ax 69) (ax 70) (ax 71) a0 M Q) : ax 38 [a0] M Q:=bz (fn:=Tryz.f38) h
theorem Eb (h:Go.Ab.Vc.vH 48 114 (ax 72) a0 M Q) : ax 39 [a0] M Q:=bz (fn:=Tryz.f39) h
theorem Ah (h:Go.Ab.Vl.qI 122 (ax 69) (ax 73) (ax 71) a0 M Q) : ax 40 [a0] M Q:=bz (fn:=Tryz.f40) h
theorem Fy (h:Go.Ab.Vl.xC 48 (ax 59) (ax 61) 114 (ax 74) 75 a0 M Q) : ax 41 [a0] M Q:=bz (fn:=Tryz.f41) h
theorem FC (h:Go.Ab.Vl.yD 48 122 (ax 70) (ax 76) 114 (ax 69) (ax 72) (ax 71) a0 M Q) : ax 42 [a0] M Q:=bz (fn:=Tryz.f42) h
theorem EF (h:Go.Ab.Vl.xU 122 (ax 77) (ax 70) (ax 71) a0 M Q) : ax 43 [a0] M Q:=bz (fn:=Tryz.f43) h
theorem Ct (h:Go.Ab.Vl.tC (ax 78) 9 3 a0 M Q) : ax 44 [a0] M Q:=bz (fn:=Tryz.f44) h
theorem Ee (h:Go.Ab.Vl.vF 72 (ax 79) (ax 80) (ax 81) 130 (ax 82) (ax 83) a0 M Q) : ax 45 [a0] M Q:=bz (fn:=Tryz.f45) h
theorem FD (h:Go.Ab.Vc.xH 72 (ax 81) a0 a1 a2 M Q) : ax 46 [a0,a1,a2] M Q:=bz (fn:=Tryz.f46) h
theorem GU (h:Go.Ab.Sha.zY (ax 84) 111 (ax 85) a0 M Q) : ax 47 [a0] M Q:=bz (fn:=Tryz.f47) h
theorem BL (h:Go.Ab.Vl.tL 72 (ax 86) (ax 87) a0 a1 a2 M Q) : ax 48 [a0,a1,a2] M Q:=bz (fn:=Tryz.f48) h
theorem FI (h:Go.Ab.Vc.wR 9 a0 M Q) : ax 49 [a0] M Q:=bz (fn:=Tryz.f49) h
theorem Ag (h:Go.Ab.Vl.qG 5 a0 M Q) : ax 50 [a0] M Q:=bz (fn:=Tryz.f50) h
theorem Dn (h:Go.Ab.Vl.sN 5 a0 M Q) : ax 51 [a0] M Q:=bz (fn:=Tryz.f51) h
theorem GX (h:Go.Ab.Vc.AR (ax 52) a0 M Q) : ax 52 [a0] M Q:=bz (fn:=Tryz.f52) h
theorem rX (h:Go.Ab.Vl.nQ (ax 89) a0 a1 M Q) : ax 54 [a0,a1] M Q:=bz (fn:=Tryz.f54) h
theorem uX (h:Go.Ab.Vl.nA (ax 90) a0 a1 M Q) : ax 55 [a0,a1] M Q:=bz (fn:=Tryz.f55) h
theorem EB (h:Go.Ab.Vl.yJ (ax 93) (ax 92) a0 M Q) : ax 57 [a0] M Q:=bz (fn:=Tryz.f57) h
theorem vK (h:Go.Ab.Vl.nY (ax 94) a0 a1 M Q) : ax 58 [a0,a1] M Q:=bz (fn:=Tryz.f58) h
theorem AJ (h:Go.Ab.Vl.qJ (ax 95) a0 M Q) : ax 59 [a0] M Q:=bz (fn:=Tryz.f59) h
theorem Dy (h:Go.Ab.Vl.sM (ax 58) 114 (ax 57) (ax 59) (ax 96) 9 a0 M Q) : ax 60 [a0] M Q:=bz (fn:=Tryz.f60) h
theorem zB (h:Go.Ab.Vl.pO 5 (ax 97) (ax 73) (ax 56) a0 a1 M Q) : ax 61 [a0,a1] M Q:=bz (fn:=Tryz.f61) h
theorem vN (h:Go.Ab.Vc.nW (ax 98) (ax 99) a0 a1 M Q) : ax 62 [a0,a1] M Q:=bz (fn:=Tryz.f62) h
theorem Jq (h:Go.Ab.Sha.Et 111 5 a0 M Q) : ax 63 [a0] M Q:=bz (fn:=Tryz.f63) h
theorem Km (h:Go.Ab.Sha.Fv 111 (ax 100) 144 (ax 101) 147 (ax 102) (ax 103) 5 a0 M Q) : ax 64 [a0] M Q:=bz (fn:=Tryz.f64) h
theorem ji (h:Go.Ab.Vl.eZ (ax 94) a0 a1 M Q) : ax 65 [a0,a1] M Q:=bz (fn:=Tryz.f65) h
theorem Ez (h:Go.Ab.Vc.xZ (ax 92) a0 M Q) : ax 66 [a0] M Q:=bz (fn:=Tryz.f66) h
theorem D8 (h:Go.Ab.Vc.uY (ax 35) (ax 54) (ax 104) a0 M Q) : ax 67 [a0] M Q:=bz (fn:=Tryz.f67) h
theorem kw (h:Go.Ab.Vl.gp (ax 107) 5 a0 a1 M Q) : ax 69 [a0,a1] M Q:=bz (fn:=Tryz.f69) h
theorem jH (h:Go.Ab.Vl.fM (ax 107) 5 a0 a1 M Q) : ax 70 [a0,a1] M Q:=bz (fn:=Tryz.f70) h
theorem qZ (h:Go.Ab.Vl.kV 5 a0 M Q) : ax 71 [a0] M Q:=bz (fn:=Tryz.f71) h
theorem mU (h:Go.Ab.Vl.iK (ax 104) a0 a1 M Q) : ax 72 [a0,a1] M Q:=bz (fn:=Tryz.f72) h
theorem vR (h:Go.Ab.Vl.rW (ax 108) a0 a1 M Q) : ax 73 [a0,a1] M Q:=bz (fn:=Tryz.f73) h
theorem uE (h:Go.Ab.Vl.mq (ax 109) a0 a1 M Q) : ax 74 [a0,a1] M Q:=bz (fn:=Tryz.f74) h
theorem Dm (h:Go.Ab.Vl.sD (ax 61) a0 M Q) : ax 75 [a0] M Q:=bz (fn:=Tryz.f75) h
theorem DZ (h:Go.Ab.Vl.uQ 5 a0 M Q) : ax 76 [a0] M Q:=bz (fn:=Tryz.f76) h
theorem D7 (h:Go.Ab.Vl.vB (ax 98) a0 a1 M Q) : ax 77 [a0,a1] M Q:=bz (fn:=Tryz.f77) h
theorem G7 (h:Go.Ab.Vl.Au 9 a0 M Q) : ax 78 [a0] M Q:=bz (fn:=Tryz.f78) h
theorem CE (h:Go.Ab.Vl.sH (ax 110) a0 M Q) : ax 79 [a0] M Q:=bz (fn:=Tryz.f79) h
theorem FT (h:Go.Ab.Vl.xS a0 M Q) : ax 80 [a0] M Q:=bz (fn:=Tryz.f80) h
theorem GN (h:Go.Ab.Vl.Af 5 a0 M Q) : ax 81 [a0] M Q:=bz (fn:=Tryz.f81) h
theorem Ce (h:Go.Ab.Vl.tH (ax 83) 9 a0 M Q) : ax 82 [a0] M Q:=bz (fn:=Tryz.f82) h
theorem Ej (h:Go.Ab.Vl.uT a0 M Q) : ax 83 [a0] M Q:=bz (fn:=Tryz.f83) h
theorem IR (h:Go.Ab.Sha.CF 111 (ax 111) 5 (ax 112) a0 M Q) : ax 84 [a0] M Q:=bz (fn:=Tryz.f84) h
theorem IU (h:Go.Ab.Sha.Dj 5 a0 M Q) : ax 85 [a0] M Q:=bz (fn:=Tryz.f85) h
theorem GY (h:Go.Ab.Vl.Ay a0 a1 M Q) : ax 87 [a0,a1] M Q:=bz (fn:=Tryz.f87) h
theorem kY (h:Go.Ab.Vl.gJ (ax 114) a0 a1 M Q) : ax 89 [a0,a1] M Q:=bz (fn:=Tryz.f89) h
theorem nN (h:Go.Ab.Vl.iB (ax 115) a0 a1 M Q) : ax 90 [a0,a1] M Q:=bz (fn:=Tryz.f90) h
theorem yL (h:Go.Ab.Vl.uo (ax 116) (ax 117) 164 (ax 118) (ax 119) a0 a1 M Q) : ax 92 [a0,a1] M Q:=bz (fn:=Tryz.f92) h
theorem El (h:Go.Ab.Vl.uZ 5 a0 M Q) : ax 93 [a0] M Q:=bz (fn:=Tryz.f93) h
theorem jg (h:Go.Ab.Vl.fe a0 a1 M Q) : ax 94 [a0,a1] M Q:=bz (fn:=Tryz.f94) h
theorem Ch (h:Go.Ab.Vl.Bn (ax 120) (ax 116) (ax 117) 164 (ax 121) (ax 118) (ax 122) (ax 119) a0 a1 M Q) : ax 95 [a0,a1] M Q:=bz (fn:=Tryz.f95) h
theorem D9 (h:Go.Ab.Vl.u7 (ax 35) (ax 54) (ax 61) (ax 104) a0 M Q) : ax 96 [a0] M Q:=bz (fn:=Tryz.f96) h
theorem DY (h:Go.Ab.Vl.uP a0 M Q) : ax 97 [a0] M Q:=bz (fn:=Tryz.f97) h
theorem Bd (h:Go.Ab.Sha.rH 144  M Q) : ax 100 [] M Q:=bz (fn:=Tryz.f100) h
theorem GR (h:Go.Ab.Sha.AA 147  M Q) : ax 101 [] M Q:=bz (fn:=Tryz.f101) h
theorem AX (h:Go.Ab.Sha.qD 144 (ax 126) 147 a0 a1 a2 M Q) : ax 102 [a0,a1,a2] M Q:=bz (fn:=Tryz.f102) h
theorem Fz (h:Go.Ab.Dot.yA 5 a0 M Q) : ax 103 [a0] M Q:=bz (fn:=Tryz.f103) h
theorem yS (h:Go.Ab.Vl.oI (ax 127) (ax 128) (ax 117) 164 (ax 129) a0 a1 M Q) : ax 104 [a0,a1] M Q:=bz (fn:=Tryz.f104) h
theorem pW (h:Go.Ab.Vl.jy (J4 Tryz.prog 135) 122 a0 M Q) : ax 107 [a0] M Q:=bz (fn:=Tryz.f107) h
theorem nV (h:Go.Ab.Vl.kI (J4 Tryz.prog 136) a0 a1 M Q) : ax 108 [a0,a1] M Q:=bz (fn:=Tryz.f108) h
theorem xK (h:Go.Ab.Vl.oG (ax) a0 a1 M Q) : ax 109 [a0,a1] M Q:=bz (fn:=Tryz.f109) h
theorem FO (h:Go.Ab.Vl.wY a0 M Q) : ax 110 [a0] M Q:=bz (fn:=Tryz.f110) h
theorem Ef (h:Go.Ab.Sha.uM (ax 137) 143 (ax 138)  M Q) : ax 111 [] M Q:=bz (fn:=Tryz.f111) h
theorem EJ (h:Go.Ab.Sha.wT 144 (ax 139) 143 a0 a1 a2 M Q) : ax 112 [a0,a1,a2] M Q:=bz (fn:=Tryz.f112) h
theorem pU (h:Go.Ab.Vc.gX (ax 108) 5 (J4 Tryz.prog 144) (ax 145) (ax 146) a0 a1 M Q) : ax 114 [a0,a1] M Q:=bz (fn:=Tryz.f114) h
theorem nU (h:Go.Ab.Vl.iF a0 a1 M Q) : ax 115 [a0,a1] M Q:=bz (fn:=Tryz.f115) h
theorem Jk (h:Go.Ab.Sha.CK (ax 149) a0 a1 M Q) : ax 126 [a0,a1] M Q:=bz (fn:=Tryz.f126) h
theorem wF (h:Go.Ab.Vc.lc (ax 73) (ax 150) (ax 145) a0 a1 M Q) : ax 127 [a0,a1] M Q:=bz (fn:=Tryz.f127) h
theorem qa (h:Go.Ab.Vl.mJ a0 M Q) : ax 128 [a0] M Q:=bz (fn:=Tryz.f128) h
theorem Ea (h:Go.Ab.Sha.vC 3 (ax 154) a0 M Q) : ax 137 [a0] M Q:=bz (fn:=Tryz.f137) h
theorem G5 (h:Go.Ab.Sha.Av (ax 156) (ax 155) 211 (ax 157) a0 a1 M Q) : ax 138 [a0,a1] M Q:=bz (fn:=Tryz.f138) h
theorem GV (h:Go.Ab.Sha.Aw a0 a1 M Q) : ax 139 [a0,a1] M Q:=bz (fn:=Tryz.f139) h
theorem rV (h:Go.Ab.Sha.kE a0 a1 M Q) : ax 149 [a0,a1] M Q:=bz (fn:=Tryz.f149) h
theorem rU (h:Go.Ab.Vl.kS a0 M Q) : ax 150 [a0] M Q:=bz (fn:=Tryz.f150) h
theorem Fj (h:Go.Ab.Sha.yU a0 M Q) : ax 154 [a0] M Q:=bz (fn:=Tryz.f154) h
theorem FL (h:Go.Ab.Sha.xB 211 a0 a1 M Q) : ax 155 [a0,a1] M Q:=bz (fn:=Tryz.f155) h
theorem Jy (h:Go.Ab.Sha.Er 211 a0 M Q) : ax 156 [a0] M Q:=bz (fn:=Tryz.f156) h
theorem Fa (h:Go.Ab.Sha.wZ 211 a0 a1 M Q) : ax 157 [a0,a1] M Q:=bz (fn:=Tryz.f157) h
end Go.Proofs.YtoikjkmmdpdkbaaGreatDoor
namespace Go.Proofs
open Go.RowKit Go.Shelf
def Tryz.lays197_ren:Go.Shelf.Ren:=⟨fun | 197=>98 | 260=>123 | n=>n,fun | 9=>9 | 21=>21 | 3=>3 | 4=>4 | 5=>5 | 105=>140 | 119=>135 | 0=>0 | 46=>139 | 139=>138 | 138=>137 | n=>n,fun | 3=>0 | 4=>1 | n=>n⟩
theorem Tryz.lays197:Go.Proofs.Lays.n197 Tryz.prog Tryz.lays197_ren where
 mixed:=by kernel_rfl
 f197:=Tryz.func98.trans (congrArg some (by kernel_rfl))
 f260:=Tryz.func123.trans (congrArg some (by kernel_rfl))
 t0:=Tryz.underlying0
 a0:=Tryz.isAgg0
 z0:=Tryz.sizeOf0
 v0:=Tryz.zeroValue0
 t3:=Tryz.underlying3
 a3:=Tryz.isAgg3
 z3:=Tryz.sizeOf3
 v3:=Tryz.zeroValue3
 t4:=Tryz.underlying4
 a4:=Tryz.isAgg4
 z4:=Tryz.sizeOf4
 v4:=Tryz.zeroValue4
 t5:=Tryz.underlying5
 a5:=Tryz.isAgg5
 z5:=Tryz.sizeOf5
 v5:=Tryz.zeroValue5
 t9:=Tryz.underlying9
 a9:=Tryz.isAgg9
 z9:=Tryz.sizeOf9
 v9:=Tryz.zeroValue9
 t21:=Tryz.underlying21
 a21:=Tryz.isAgg21
 z21:=Tryz.sizeOf21
 v21:=Tryz.zeroValue21
 t46:=Tryz.underlying139
 a46:=Tryz.isAgg139
 z46:=Tryz.sizeOf139
 v46:=Tryz.zeroValue139
 t105:=Tryz.underlying140
 a105:=Tryz.isAgg140
 z105:=Tryz.sizeOf140
 v105:=Tryz.zeroValue140
 t119:=Tryz.underlying135
 a119:=Tryz.isAgg135
 z119:=Tryz.sizeOf135
 t138:=Tryz.underlying137
 a138:=Tryz.isAgg137
 z138:=Tryz.sizeOf137
 v138:=Tryz.zeroValue137
 t139:=Tryz.underlying138
 a139:=Tryz.isAgg138
 z139:=Tryz.sizeOf138
 v139:=Tryz.zeroValue138
 g3:=by kernel_rfl
 g4:=by kernel_rfl
def Tryz.lays196_ren:Go.Shelf.Ren:=⟨fun | 196=>56 | 259=>91 | n=>n,fun | 9=>9 | 4=>4 | 3=>3 | 5=>5 | 12=>12 | 119=>135 | 0=>0 | 46=>139 | 139=>138 | 138=>137 | 53=>152 | n=>n,fun | 3=>0 | 4=>1 | n=>n⟩
theorem Tryz.lays196:Go.Proofs.Lays.n196 Tryz.prog Tryz.lays196_ren where
 mixed:=by kernel_rfl
 f196:=Tryz.func56.trans (congrArg some (by kernel_rfl))
 f259:=Tryz.func91.trans (congrArg some (by kernel_rfl))
 t0:=Tryz.underlying0
 a0:=Tryz.isAgg0
 z0:=Tryz.sizeOf0
 v0:=Tryz.zeroValue0
 t3:=Tryz.underlying3
 a3:=Tryz.isAgg3
 z3:=Tryz.sizeOf3
 v3:=Tryz.zeroValue3
 t4:=Tryz.underlying4
 a4:=Tryz.isAgg4
 z4:=Tryz.sizeOf4
 v4:=Tryz.zeroValue4
 t5:=Tryz.underlying5
 a5:=Tryz.isAgg5
 z5:=Tryz.sizeOf5
 v5:=Tryz.zeroValue5
 t9:=Tryz.underlying9
 a9:=Tryz.isAgg9
 z9:=Tryz.sizeOf9
 v9:=Tryz.zeroValue9
 t12:=Tryz.underlying12
 a12:=Tryz.isAgg12
 z12:=Tryz.sizeOf12
 v12:=Tryz.zeroValue12
 t46:=Tryz.underlying139
 a46:=Tryz.isAgg139
 z46:=Tryz.sizeOf139
 v46:=Tryz.zeroValue139
 t53:=Tryz.underlying152
 a53:=Tryz.isAgg152
 z53:=Tryz.sizeOf152
 v53:=Tryz.zeroValue152
 t119:=Tryz.underlying135
 a119:=Tryz.isAgg135
 z119:=Tryz.sizeOf135
 t138:=Tryz.underlying137
 a138:=Tryz.isAgg137
 z138:=Tryz.sizeOf137
 v138:=Tryz.zeroValue137
 t139:=Tryz.underlying138
 a139:=Tryz.isAgg138
 z139:=Tryz.sizeOf138
 v139:=Tryz.zeroValue138
 g3:=by kernel_rfl
 g4:=by kernel_rfl
def Tryz.lays160_ren:Go.Shelf.Ren:=⟨fun | 160=>95 | 232=>120 | 231=>116 | 227=>117 | 234=>121 | 233=>118 | 236=>122 | 235=>119 | 228=>129 | 271=>148 | 151=>147 | 197=>98 | 120=>164 | 152=>127 | 260=>123 | 137=>73 | 119=>150 | 224=>145 | 225=>144 | 217=>108 | 266=>136 | n=>n,fun | 9=>9 | 4=>4 | 3=>3 | 5=>5 | 117=>165 | 116=>164 | 0=>0 | 124=>168 | 21=>21 | 105=>140 | 46=>139 | 119=>135 | 139=>138 | 138=>137 | n=>n,fun | 3=>0 | 4=>1 | n=>n⟩
theorem Tryz.lays160:Go.Proofs.Lays.n160 Tryz.prog Tryz.lays160_ren where
 mixed:=by kernel_rfl
 f119:=Tryz.func150.trans (congrArg some (by kernel_rfl))
 f120:=Tryz.func164.trans (congrArg some (by kernel_rfl))
 f137:=Tryz.func73.trans (congrArg some (by kernel_rfl))
 f151:=Tryz.func147.trans (congrArg some (by kernel_rfl))
 f152:=Tryz.func127.trans (congrArg some (by kernel_rfl))
 f160:=Tryz.func95.trans (congrArg some (by kernel_rfl))
 f197:=Tryz.func98.trans (congrArg some (by kernel_rfl))
 f217:=Tryz.func108.trans (congrArg some (by kernel_rfl))
 f224:=Tryz.func145.trans (congrArg some (by kernel_rfl))
 f225:=Tryz.func144.trans (congrArg some (by kernel_rfl))
 f227:=Tryz.func117.trans (congrArg some (by kernel_rfl))
 f228:=Tryz.func129.trans (congrArg some (by kernel_rfl))
 f231:=Tryz.func116.trans (congrArg some (by kernel_rfl))
 f232:=Tryz.func120.trans (congrArg some (by kernel_rfl))
 f233:=Tryz.func118.trans (congrArg some (by kernel_rfl))
 f234:=Tryz.func121.trans (congrArg some (by kernel_rfl))
 f235:=Tryz.func119.trans (congrArg some (by kernel_rfl))
 f236:=Tryz.func122.trans (congrArg some (by kernel_rfl))
 f260:=Tryz.func123.trans (congrArg some (by kernel_rfl))
 f266:=Tryz.func136.trans (congrArg some (by kernel_rfl))
 f271:=Tryz.func148.trans (congrArg some (by kernel_rfl))
 t0:=Tryz.underlying0
 a0:=Tryz.isAgg0
 z0:=Tryz.sizeOf0
 v0:=Tryz.zeroValue0
 t3:=Tryz.underlying3
 a3:=Tryz.isAgg3
 z3:=Tryz.sizeOf3
 v3:=Tryz.zeroValue3
 t4:=Tryz.underlying4
 a4:=Tryz.isAgg4
 z4:=Tryz.sizeOf4
 v4:=Tryz.zeroValue4
 t5:=Tryz.underlying5
 a5:=Tryz.isAgg5
 z5:=Tryz.sizeOf5
 v5:=Tryz.zeroValue5
 t9:=Tryz.underlying9
 a9:=Tryz.isAgg9
 z9:=Tryz.sizeOf9
 v9:=Tryz.zeroValue9
 t21:=Tryz.underlying21
 a21:=Tryz.isAgg21
 z21:=Tryz.sizeOf21
 v21:=Tryz.zeroValue21
 t46:=Tryz.underlying139
 a46:=Tryz.isAgg139
 z46:=Tryz.sizeOf139
 v46:=Tryz.zeroValue139
 t105:=Tryz.underlying140
 a105:=Tryz.isAgg140
 z105:=Tryz.sizeOf140
 v105:=Tryz.zeroValue140
 t116:=Tryz.underlying164
 a116:=Tryz.isAgg164
 z116:=Tryz.sizeOf164
 t117:=Tryz.underlying165
 a117:=Tryz.isAgg165
 z117:=Tryz.sizeOf165
 v117:=Tryz.zeroValue165
 t119:=Tryz.underlying135
 a119:=Tryz.isAgg135
 z119:=Tryz.sizeOf135
 t124:=Tryz.underlying168
 a124:=Tryz.isAgg168
 z124:=Tryz.sizeOf168
 v124:=Tryz.zeroValue168
 t138:=Tryz.underlying137
 a138:=Tryz.isAgg137
 z138:=Tryz.sizeOf137
 v138:=Tryz.zeroValue137
 t139:=Tryz.underlying138
 a139:=Tryz.isAgg138
 z139:=Tryz.sizeOf138
 v139:=Tryz.zeroValue138
 g3:=by kernel_rfl
 g4:=by kernel_rfl
def Tryz.lays161_ren:Go.Shelf.Ren:=⟨fun | 161=>92 | 231=>116 | 227=>117 | 233=>118 | 235=>119 | 228=>129 | 197=>98 | 151=>147 | 260=>123 | 152=>127 | 137=>73 | 119=>150 | 224=>145 | 225=>144 | 217=>108 | 266=>136 | n=>n,fun | 9=>9 | 4=>4 | 3=>3 | 5=>5 | 117=>165 | 116=>164 | 0=>0 | 124=>168 | 105=>140 | 21=>21 | 119=>135 | 46=>139 | 139=>138 | 138=>137 | n=>n,fun | 3=>0 | 4=>1 | n=>n⟩
theorem Tryz.lays161:Go.Proofs.Lays.n161 Tryz.prog Tryz.lays161_ren where
 mixed:=by kernel_rfl
 f119:=Tryz.func150.trans (congrArg some (by kernel_rfl))
 f137:=Tryz.func73.trans (congrArg some (by kernel_rfl))
 f151:=Tryz.func147.trans (congrArg some (by kernel_rfl))
 f152:=Tryz.func127.trans (congrArg some (by kernel_rfl))
 f161:=Tryz.func92.trans (congrArg some (by kernel_rfl))
 f197:=Tryz.func98.trans (congrArg some (by kernel_rfl))
 f217:=Tryz.func108.trans (congrArg some (by kernel_rfl))
 f224:=Tryz.func145.trans (congrArg some (by kernel_rfl))
 f225:=Tryz.func144.trans (congrArg some (by kernel_rfl))
 f227:=Tryz.func117.trans (congrArg some (by kernel_rfl))
 f228:=Tryz.func129.trans (congrArg some (by kernel_rfl))
 f231:=Tryz.func116.trans (congrArg some (by kernel_rfl))
 f233:=Tryz.func118.trans (congrArg some (by kernel_rfl))
 f235:=Tryz.func119.trans (congrArg some (by kernel_rfl))
 f260:=Tryz.func123.trans (congrArg some (by kernel_rfl))
 f266:=Tryz.func136.trans (congrArg some (by kernel_rfl))
 t0:=Tryz.underlying0
 a0:=Tryz.isAgg0
 z0:=Tryz.sizeOf0
 v0:=Tryz.zeroValue0
 t3:=Tryz.underlying3
 a3:=Tryz.isAgg3
 z3:=Tryz.sizeOf3
 v3:=Tryz.zeroValue3
 t4:=Tryz.underlying4
 a4:=Tryz.isAgg4
 z4:=Tryz.sizeOf4
 v4:=Tryz.zeroValue4
 t5:=Tryz.underlying5
 a5:=Tryz.isAgg5
 z5:=Tryz.sizeOf5
 v5:=Tryz.zeroValue5
 t9:=Tryz.underlying9
 a9:=Tryz.isAgg9
 z9:=Tryz.sizeOf9
 v9:=Tryz.zeroValue9
 t21:=Tryz.underlying21
 a21:=Tryz.isAgg21
 z21:=Tryz.sizeOf21
 v21:=Tryz.zeroValue21
 t46:=Tryz.underlying139
 a46:=Tryz.isAgg139
 z46:=Tryz.sizeOf139
 v46:=Tryz.zeroValue139
 t105:=Tryz.underlying140
 a105:=Tryz.isAgg140
 z105:=Tryz.sizeOf140
 v105:=Tryz.zeroValue140
 t116:=Tryz.underlying164
 a116:=Tryz.isAgg164
 z116:=Tryz.sizeOf164
 t117:=Tryz.underlying165
 a117:=Tryz.isAgg165
 z117:=Tryz.sizeOf165
 v117:=Tryz.zeroValue165
 t119:=Tryz.underlying135
 a119:=Tryz.isAgg135
 z119:=Tryz.sizeOf135
 t124:=Tryz.underlying168
 a124:=Tryz.isAgg168
 z124:=Tryz.sizeOf168
 v124:=Tryz.zeroValue168
 t138:=Tryz.underlying137
 a138:=Tryz.isAgg137
 z138:=Tryz.sizeOf137
 v138:=Tryz.zeroValue137
 t139:=Tryz.underlying138
 a139:=Tryz.isAgg138
 z139:=Tryz.sizeOf138
 v139:=Tryz.zeroValue138
 g3:=by kernel_rfl
 g4:=by kernel_rfl
def Tryz.lays153_ren:Go.Shelf.Ren:=⟨fun | 153=>104 | 152=>127 | 226=>128 | 227=>117 | 228=>129 | 137=>73 | 119=>150 | 224=>145 | 225=>144 | 217=>108 | 266=>136 | n=>n,fun | 9=>9 | 3=>3 | 4=>4 | 5=>5 | 21=>21 | 117=>165 | 116=>164 | 0=>0 | 46=>139 | 124=>168 | n=>n,fun | n=>n⟩
theorem Tryz.lays153:Go.Proofs.Lays.n153 Tryz.prog Tryz.lays153_ren where
 mixed:=by kernel_rfl
 f119:=Tryz.func150.trans (congrArg some (by kernel_rfl))
 f137:=Tryz.func73.trans (congrArg some (by kernel_rfl))
 f152:=Tryz.func127.trans (congrArg some (by kernel_rfl))
 f153:=Tryz.func104.trans (congrArg some (by kernel_rfl))
 f217:=Tryz.func108.trans (congrArg some (by kernel_rfl))
 f224:=Tryz.func145.trans (congrArg some (by kernel_rfl))
 f225:=Tryz.func144.trans (congrArg some (by kernel_rfl))
 f226:=Tryz.func128.trans (congrArg some (by kernel_rfl))
 f227:=Tryz.func117.trans (congrArg some (by kernel_rfl))
 f228:=Tryz.func129.trans (congrArg some (by kernel_rfl))
 f266:=Tryz.func136.trans (congrArg some (by kernel_rfl))
 t0:=Tryz.underlying0
 a0:=Tryz.isAgg0
 z0:=Tryz.sizeOf0
 v0:=Tryz.zeroValue0
 t3:=Tryz.underlying3
 a3:=Tryz.isAgg3
 z3:=Tryz.sizeOf3
 v3:=Tryz.zeroValue3
 t4:=Tryz.underlying4
 a4:=Tryz.isAgg4
 z4:=Tryz.sizeOf4
 v4:=Tryz.zeroValue4
 t5:=Tryz.underlying5
 a5:=Tryz.isAgg5
 z5:=Tryz.sizeOf5
 v5:=Tryz.zeroValue5
 t9:=Tryz.underlying9
 a9:=Tryz.isAgg9
 z9:=Tryz.sizeOf9
 v9:=Tryz.zeroValue9
 t21:=Tryz.underlying21
 a21:=Tryz.isAgg21
 z21:=Tryz.sizeOf21
 v21:=Tryz.zeroValue21
 t46:=Tryz.underlying139
 a46:=Tryz.isAgg139
 z46:=Tryz.sizeOf139
 v46:=Tryz.zeroValue139
 t116:=Tryz.underlying164
 a116:=Tryz.isAgg164
 z116:=Tryz.sizeOf164
 t117:=Tryz.underlying165
 a117:=Tryz.isAgg165
 z117:=Tryz.sizeOf165
 v117:=Tryz.zeroValue165
 t124:=Tryz.underlying168
 a124:=Tryz.isAgg168
 z124:=Tryz.sizeOf168
 v124:=Tryz.zeroValue168
def Tryz.lays171_ren:Go.Shelf.Ren:=⟨fun | 171=>53 | 243=>88 | 246=>113 | 283=>140 | 284=>141 | 285=>142 | 286=>143 | 129=>159 | 317=>158 | 318=>160 | 319=>161 | 320=>162 | 337=>167 | 338=>168 | n=>n,fun | 3=>3 | 9=>9 | 2=>2 | 4=>4 | 171=>193 | 0=>0 | 53=>152 | 37=>98 | 5=>5 | 173=>196 | 212=>216 | 51=>143 | 20=>20 | 213=>217 | 46=>139 | 232=>111 | 233=>226 | n=>n,fun | 17=>8 | 18=>9 | 19=>10 | n=>n⟩
theorem Tryz.lays171:Go.Proofs.LaysM.n171 Tryz.prog Tryz.lays171_ren where
 mixed:=by kernel_rfl
 f129:=Tryz.func159.trans (congrArg some (by kernel_rfl))
 f171:=Tryz.func53.trans (congrArg some (by kernel_rfl))
 f243:=Tryz.func88.trans (congrArg some (by kernel_rfl))
 f246:=Tryz.func113.trans (congrArg some (by kernel_rfl))
 f283:=Tryz.func140.trans (congrArg some (by kernel_rfl))
 f284:=Tryz.func141.trans (congrArg some (by kernel_rfl))
 f285:=Tryz.func142.trans (congrArg some (by kernel_rfl))
 f286:=Tryz.func143.trans (congrArg some (by kernel_rfl))
 f317:=Tryz.func158.trans (congrArg some (by kernel_rfl))
 f318:=Tryz.func160.trans (congrArg some (by kernel_rfl))
 f319:=Tryz.func161.trans (congrArg some (by kernel_rfl))
 f320:=Tryz.func162.trans (congrArg some (by kernel_rfl))
 f337:=Tryz.func167.trans (congrArg some (by kernel_rfl))
 f338:=Tryz.func168.trans (congrArg some (by kernel_rfl))
 t0:=Tryz.underlying0
 a0:=Tryz.isAgg0
 z0:=Tryz.sizeOf0
 v0:=Tryz.zeroValue0
 t2:=Tryz.underlying2
 a2:=Tryz.isAgg2
 z2:=Tryz.sizeOf2
 v2:=Tryz.zeroValue2
 t3:=Tryz.underlying3
 a3:=Tryz.isAgg3
 z3:=Tryz.sizeOf3
 v3:=Tryz.zeroValue3
 t4:=Tryz.underlying4
 a4:=Tryz.isAgg4
 z4:=Tryz.sizeOf4
 v4:=Tryz.zeroValue4
 t5:=Tryz.underlying5
 a5:=Tryz.isAgg5
 z5:=Tryz.sizeOf5
 v5:=Tryz.zeroValue5
 t9:=Tryz.underlying9
 a9:=Tryz.isAgg9
 z9:=Tryz.sizeOf9
 v9:=Tryz.zeroValue9
 t20:=Tryz.underlying20
 a20:=Tryz.isAgg20
 z20:=Tryz.sizeOf20
 v20:=Tryz.zeroValue20
 t37:=Tryz.underlying98
 a37:=Tryz.isAgg98
 z37:=Tryz.sizeOf98
 v37:=Tryz.zeroValue98
 t46:=Tryz.underlying139
 a46:=Tryz.isAgg139
 z46:=Tryz.sizeOf139
 v46:=Tryz.zeroValue139
 t51:=Tryz.underlying143
 a51:=Tryz.isAgg143
 z51:=Tryz.sizeOf143
 v51:=Tryz.zeroValue143
 t53:=Tryz.underlying152
 a53:=Tryz.isAgg152
 z53:=Tryz.sizeOf152
 v53:=Tryz.zeroValue152
 t171:=Tryz.underlying193
 a171:=Tryz.isAgg193
 z171:=Tryz.sizeOf193
 v171:=Tryz.zeroValue193
 t173:=Tryz.underlying196
 a173:=Tryz.isAgg196
 z173:=Tryz.sizeOf196
 v173:=Tryz.zeroValue196
 t212:=Tryz.underlying216
 a212:=Tryz.isAgg216
 z212:=Tryz.sizeOf216
 v212:=Tryz.zeroValue216
 t213:=Tryz.underlying217
 a213:=Tryz.isAgg217
 z213:=Tryz.sizeOf217
 t232:=Tryz.underlying111
 a232:=Tryz.isAgg111
 z232:=Tryz.sizeOf111
 v232:=Tryz.zeroValue111
 t233:=Tryz.underlying226
 a233:=Tryz.isAgg226
 z233:=Tryz.sizeOf226
 v233:=Tryz.zeroValue226
 g17:=by kernel_rfl
 g18:=by kernel_rfl
 g19:=by kernel_rfl
 i0:=by kernel_rfl
 i2:=by kernel_rfl
 i3:=by kernel_rfl
 i4:=by kernel_rfl
 i5:=by kernel_rfl
 i9:=by kernel_rfl
 i20:=by kernel_rfl
 i37:=by kernel_rfl
 i46:=by kernel_rfl
 i51:=by kernel_rfl
 i53:=by kernel_rfl
 i171:=by kernel_rfl
 i173:=by kernel_rfl
 i212:=by kernel_rfl
 i232:=by kernel_rfl
 i233:=by kernel_rfl
 m17:=by kernel_rfl
 m18:=by kernel_rfl
 m19:=by kernel_rfl
def Tryz.lays172_ren:Go.Shelf.Ren:=⟨fun | 172=>68 | 244=>105 | 245=>106 | 247=>130 | 279=>131 | 280=>132 | 281=>133 | 282=>134 | 287=>151 | 316=>152 | 171=>53 | 205=>153 | 321=>165 | 322=>166 | 243=>88 | 246=>113 | 283=>140 | 284=>141 | 285=>142 | 286=>143 | 129=>159 | 317=>158 | 318=>160 | 319=>161 | 320=>162 | 337=>167 | 338=>168 | n=>n,fun | 9=>9 | 3=>3 | 75=>117 | 76=>118 | 4=>4 | 5=>5 | 167=>182 | 37=>98 | 0=>0 | 85=>183 | 2=>2 | 168=>185 | 53=>152 | 175=>205 | 46=>139 | 210=>208 | 127=>155 | 145=>224 | 143=>222 | 21=>21 | 171=>193 | 173=>196 | 212=>216 | 51=>143 | 20=>20 | 213=>217 | 232=>111 | 233=>226 | 80=>124 | n=>n,fun | 15=>6 | 16=>7 | 17=>8 | 18=>9 | 19=>10 | n=>n⟩
theorem Tryz.lays172:Go.Proofs.LaysC.n172 Tryz.prog Tryz.lays172_ren where
 mixed:=by kernel_rfl
 f129:=Tryz.func159.trans (congrArg some (by kernel_rfl))
 f171:=Tryz.func53.trans (congrArg some (by kernel_rfl))
 f172:=Tryz.func68.trans (congrArg some (by kernel_rfl))
 f205:=Tryz.func153.trans (congrArg some (by kernel_rfl))
 f243:=Tryz.func88.trans (congrArg some (by kernel_rfl))
 f244:=Tryz.func105.trans (congrArg some (by kernel_rfl))
 f245:=Tryz.func106.trans (congrArg some (by kernel_rfl))
 f246:=Tryz.func113.trans (congrArg some (by kernel_rfl))
 f247:=Tryz.func130.trans (congrArg some (by kernel_rfl))
 f279:=Tryz.func131.trans (congrArg some (by kernel_rfl))
 f280:=Tryz.func132.trans (congrArg some (by kernel_rfl))
 f281:=Tryz.func133.trans (congrArg some (by kernel_rfl))
 f282:=Tryz.func134.trans (congrArg some (by kernel_rfl))
 f283:=Tryz.func140.trans (congrArg some (by kernel_rfl))
 f284:=Tryz.func141.trans (congrArg some (by kernel_rfl))
 f285:=Tryz.func142.trans (congrArg some (by kernel_rfl))
 f286:=Tryz.func143.trans (congrArg some (by kernel_rfl))
 f287:=Tryz.func151.trans (congrArg some (by kernel_rfl))
 f316:=Tryz.func152.trans (congrArg some (by kernel_rfl))
 f317:=Tryz.func158.trans (congrArg some (by kernel_rfl))
 f318:=Tryz.func160.trans (congrArg some (by kernel_rfl))
 f319:=Tryz.func161.trans (congrArg some (by kernel_rfl))
 f320:=Tryz.func162.trans (congrArg some (by kernel_rfl))
 f321:=Tryz.func165.trans (congrArg some (by kernel_rfl))
 f322:=Tryz.func166.trans (congrArg some (by kernel_rfl))
 f337:=Tryz.func167.trans (congrArg some (by kernel_rfl))
 f338:=Tryz.func168.trans (congrArg some (by kernel_rfl))
 t0:=Tryz.underlying0
 a0:=Tryz.isAgg0
 z0:=Tryz.sizeOf0
 v0:=Tryz.zeroValue0
 t2:=Tryz.underlying2
 a2:=Tryz.isAgg2
 z2:=Tryz.sizeOf2
 v2:=Tryz.zeroValue2
 t3:=Tryz.underlying3
 a3:=Tryz.isAgg3
 z3:=Tryz.sizeOf3
 v3:=Tryz.zeroValue3
 t4:=Tryz.underlying4
 a4:=Tryz.isAgg4
 z4:=Tryz.sizeOf4
 v4:=Tryz.zeroValue4
 t5:=Tryz.underlying5
 a5:=Tryz.isAgg5
 z5:=Tryz.sizeOf5
 v5:=Tryz.zeroValue5
 t9:=Tryz.underlying9
 a9:=Tryz.isAgg9
 z9:=Tryz.sizeOf9
 v9:=Tryz.zeroValue9
 t20:=Tryz.underlying20
 a20:=Tryz.isAgg20
 z20:=Tryz.sizeOf20
 v20:=Tryz.zeroValue20
 t21:=Tryz.underlying21
 a21:=Tryz.isAgg21
 z21:=Tryz.sizeOf21
 v21:=Tryz.zeroValue21
 t37:=Tryz.underlying98
 a37:=Tryz.isAgg98
 z37:=Tryz.sizeOf98
 v37:=Tryz.zeroValue98
 t46:=Tryz.underlying139
 a46:=Tryz.isAgg139
 z46:=Tryz.sizeOf139
 v46:=Tryz.zeroValue139
 t51:=Tryz.underlying143
 a51:=Tryz.isAgg143
 z51:=Tryz.sizeOf143
 v51:=Tryz.zeroValue143
 t53:=Tryz.underlying152
 a53:=Tryz.isAgg152
 z53:=Tryz.sizeOf152
 v53:=Tryz.zeroValue152
 t75:=Tryz.underlying117
 a75:=Tryz.isAgg117
 z75:=Tryz.sizeOf117
 v75:=Tryz.zeroValue117
 t76:=Tryz.underlying118
 a76:=Tryz.isAgg118
 z76:=Tryz.sizeOf118
 v76:=Tryz.zeroValue118
 t85:=Tryz.underlying183
 a85:=Tryz.isAgg183
 z85:=Tryz.sizeOf183
 v85:=Tryz.zeroValue183
 t127:=Tryz.underlying155
 a127:=Tryz.isAgg155
 z127:=Tryz.sizeOf155
 v127:=Tryz.zeroValue155
 t143:=Tryz.underlying222
 a143:=Tryz.isAgg222
 z143:=Tryz.sizeOf222
 v143:=Tryz.zeroValue222
 t145:=Tryz.underlying224
 a145:=Tryz.isAgg224
 z145:=Tryz.sizeOf224
 v145:=Tryz.zeroValue224
 t167:=Tryz.underlying182
 a167:=Tryz.isAgg182
 z167:=Tryz.sizeOf182
 v167:=Tryz.zeroValue182
 t168:=Tryz.underlying185
 a168:=Tryz.isAgg185
 z168:=Tryz.sizeOf185
 v168:=Tryz.zeroValue185
 t171:=Tryz.underlying193
 a171:=Tryz.isAgg193
 z171:=Tryz.sizeOf193
 v171:=Tryz.zeroValue193
 t173:=Tryz.underlying196
 a173:=Tryz.isAgg196
 z173:=Tryz.sizeOf196
 v173:=Tryz.zeroValue196
 t175:=Tryz.underlying205
 a175:=Tryz.isAgg205
 z175:=Tryz.sizeOf205
 v175:=Tryz.zeroValue205
 t210:=Tryz.underlying208
 a210:=Tryz.isAgg208
 z210:=Tryz.sizeOf208
 v210:=Tryz.zeroValue208
 t212:=Tryz.underlying216
 a212:=Tryz.isAgg216
 z212:=Tryz.sizeOf216
 v212:=Tryz.zeroValue216
 t213:=Tryz.underlying217
 a213:=Tryz.isAgg217
 z213:=Tryz.sizeOf217
 t232:=Tryz.underlying111
 a232:=Tryz.isAgg111
 z232:=Tryz.sizeOf111
 v232:=Tryz.zeroValue111
 t233:=Tryz.underlying226
 a233:=Tryz.isAgg226
 z233:=Tryz.sizeOf226
 v233:=Tryz.zeroValue226
 g15:=by kernel_rfl
 g16:=by kernel_rfl
 g17:=by kernel_rfl
 g18:=by kernel_rfl
 g19:=by kernel_rfl
 t80:=Tryz.underlying124
 a80:=Tryz.isAgg124
 z80:=Tryz.sizeOf124
 v80:=Tryz.zeroValue124
 i0:=by kernel_rfl
 i2:=by kernel_rfl
 i3:=by kernel_rfl
 i4:=by kernel_rfl
 i5:=by kernel_rfl
 i9:=by kernel_rfl
 i20:=by kernel_rfl
 i21:=by kernel_rfl
 i37:=by kernel_rfl
 i46:=by kernel_rfl
 i51:=by kernel_rfl
 i53:=by kernel_rfl
 i75:=by kernel_rfl
 i76:=by kernel_rfl
 i80:=by kernel_rfl
 i85:=by kernel_rfl
 i127:=by kernel_rfl
 i143:=by kernel_rfl
 i145:=by kernel_rfl
 i167:=by kernel_rfl
 i168:=by kernel_rfl
 i171:=by kernel_rfl
 i173:=by kernel_rfl
 i175:=by kernel_rfl
 i210:=by kernel_rfl
 i212:=by kernel_rfl
 i232:=by kernel_rfl
 i233:=by kernel_rfl
 m15:=by kernel_rfl
 m16:=by kernel_rfl
 m17:=by kernel_rfl
 m18:=by kernel_rfl
 m19:=by kernel_rfl
 c0:=by kernel_rfl
 c2:=by kernel_rfl
 c3:=by kernel_rfl
 c4:=by kernel_rfl
 c5:=by kernel_rfl
 c9:=by kernel_rfl
 c20:=by kernel_rfl
 c21:=by kernel_rfl
 c37:=by kernel_rfl
 c46:=by kernel_rfl
 c51:=by kernel_rfl
 c53:=by kernel_rfl
 c75:=by kernel_rfl
 c76:=by kernel_rfl
 c80:=by kernel_rfl
 c85:=by kernel_rfl
 c127:=by kernel_rfl
 c143:=by kernel_rfl
 c145:=by kernel_rfl
 c167:=by kernel_rfl
 c168:=by kernel_rfl
 c171:=by kernel_rfl
 c173:=by kernel_rfl
 c175:=by kernel_rfl
 c210:=by kernel_rfl
 c212:=by kernel_rfl
 c213:=by kernel_rfl
 c232:=by kernel_rfl
 c233:=by kernel_rfl
end Go.Proofs
namespace Go.Proofs.YtoikjkmmdpdkbaaGreatDoor.vcl
open Go Go.Ab Go.Ab.Vl Go.Ab.Vc Go.RowKit Go.Proofs Go.Proofs.YtoikjkmmdpdkbaaGreatDoor
abbrev LC:List Int:=[0,1,2,3,4,5,6,7,8,9,10,11,12,13,14,15,16,17,18,19,20,21,22,23,24,25,26,27,28,29,30,31,32,33,34,35,36,37,38,39,40,41,42,43,44,45,46,47,48,49,50,51,52,53,54,55,56,57,58,59,60,61,62,63,64,97,98,99,100,101,102,103,104,105,106,107,108,109,110,111,112,113,114,115,116,117,118,119,120,121,122,91,92,93,94,95,96,65,66,67,68,69,70,71,72,73,74,8490,76,77,78,79,80,81,82,383,84,85,86,87,88,89,90,123,124,125,126,127]
structure Iv (w:World) : Prop where
 u8:Lib.Utf8Tabs 0 1 w
 p10:Lib.TabIs Tryz.prog w "internal/strconv.uint64pow10" .u64 Lib.pow10Tab
 fold:Lib.TabIs Tryz.prog w "unicode.asciiFold" .u16 LC
 es:∃ ev,w.cell? ⟨6,0,none⟩=some ev∧(ev=.nilIface∨∃ te pe,ev=.iface te pe)
 er:∃ ev,w.cell? ⟨7,0,none⟩=some ev∧(ev=.nilIface∨∃ te pe,ev=.iface te pe)
theorem XY (w:World) (q:Nat) (os:Array Obj) : Below w.heap.size w (Go.Sort.grow (w.drewN q) os) :=
 ⟨rfl,rfl,rfl,by first | (simp[Go.Sort.grow]; done) | (simp[Go.Sort.grow]; omega),fun i hi=>by
  show((w.drewN q).heap++os)[i]?=_
  rw[Array.getElem?_append_left (by show i<w.heap.size; omega)]
  rfl⟩
theorem Kc {w:World} {b o:Nat} {v:Value} (h:w.cell? ⟨b,o,none⟩=some v) : b<w.heap.size:=by
 unfold World.cell? at h
 cases hb:w.heap[b]? with
 | none=>simp[hb] at h
 | some x=>exact(Array.getElem?_eq_some_iff.1 hb).1
theorem wQ {w w' : World} {b:Nat} (h:w'.heap[b]?=w.heap[b]?) (o:Nat) : w'.cell? ⟨b,o,none⟩=w.cell? ⟨b,o,none⟩:=by
 unfold World.cell?
 simp only[h]
theorem varLt {w:World} {n:String} {g:Nat} {vs:Array Value} (hg:Tryz.prog.globalNamed n=some g) (h:w.var? Tryz.prog n=some vs) : g<w.heap.size:=by
 unfold World.var? at h
 rw[hg] at h
 simp only[Option.bind_some] at h
 cases hb:w.heap[g]? with
 | none=>rw[hb] at h; cases h
 | some x=>exact(Array.getElem?_eq_some_iff.1 hb).1
theorem Td {w w' : World} {n:String} {g:Nat} (hg:Tryz.prog.globalNamed n=some g) (h:w'.heap[g]?=w.heap[g]?) : w'.var? Tryz.prog n=w.var? Tryz.prog n:=by
 unfold World.var?
 rw[hg]
 simp only[Option.bind_some,h]
theorem Zp:Tryz.prog.globalNamed "internal/strconv.uint64pow10" = some 8:=by kernel_rfl
theorem Om:Tryz.prog.globalNamed "unicode.asciiFold" = some 2:=by kernel_rfl
def base (w:World) (hi:Iv w) : Base where
 n:=w.heap.size
 inv w':=Iv w'
 low u u' hlow hu:=by
  obtain⟨e1,c1,d1⟩:=hi.es
  obtain⟨e2,c2,d2⟩:=hi.er
  obtain⟨e3,c3,d3⟩:=hu.es
  obtain⟨e4,c4,d4⟩:=hu.er
  have h0:=Kc (hi.u8.1 0 (by omega))
  have h1:=Kc (hi.u8.2 0 (by omega)).1
  refine⟨⟨fun c hc=>(wQ (hlow 0 h0) c).trans (hu.u8.1 c hc),fun i hi'=>⟨(wQ (hlow 1 h1) _).trans (hu.u8.2 i hi').1,(wQ (hlow 1 h1) _).trans (hu.u8.2 i hi').2⟩⟩, ?_, ?_,
   ⟨e3,(wQ (hlow 6 (Kc c1)) 0).trans c3,d3⟩,⟨e4,(wQ (hlow 7 (Kc c2)) 0).trans c4,d4⟩⟩
  ·exact(Td Zp (hlow 8 (varLt Zp hi.p10))).trans hu.p10
  ·exact(Td Om (hlow 2 (varLt Om hi.fold))).trans hu.fold
section
variable {w0:World} {hi:Iv w0}
theorem K5 {M:RM} {ρ:Ab.Ren} {w:World} (hM:M.base=base w0 hi) (hw:dV Tryz.prog ρ M w) : Iv w:=by
 have:=dV.inv hw
 rw[hM] at this
 exact this
theorem abz (s:List UInt8) (h:s≠[]) : Lib.decodeGo ⟨⟨s⟩⟩=dec s:=by
 have hs:(⟨⟨s⟩⟩ : ByteArray).size=s.length:=rfl
 have hp:=List.length_pos_iff.2 h
 have g:∀ i,((⟨⟨s⟩⟩ : ByteArray).get! i).toNat=bt s i:=fun i=>by
  simp only[ByteArray.get!,bt,List.getD_eq_getElem?_getD]
  simp[getElem!_def]
  cases s[i]? <;> rfl
 rw[Lib.decodeGo,if_neg (by rw[hs]; omega),Lib.decode_at,g,g,g,g,hs]
 rfl
theorem abS:ZZ (base w0 hi) (ax 98):=by
 intro M s Q hM hne hl hQ
 refine gK.ny (v:=.tup [N .i32 ((dec s).1:Int),N .i64 (rs s:Int)]) ⟨Tryz.f98,_,Tryz.func98,rfl⟩ (fun ρ w us hus hw=>?_) hQ
 cases hus with
 | cons _ u1 _ us r1 hus =>
 cases hus
 obtain⟨rfl,_⟩:=aZ r1
 refine(Any.utf8_DecodeRuneInString Tryz.lays197 ⟨⟨s⟩⟩ w (K5 hM hw).u8).mono fun e w' ⟨he,hb⟩=>⟨_,he,hb, ?_⟩
 rw[abz s hne,show(dec s).2=rs s by rw[rs,if_neg hne]]
 exact .tup _ _ (.cons _ _ _ _ (.sc _ rfl) (.cons _ _ _ _ (.sc _ rfl) .nil))
theorem decode:Qg (base w0 hi) (ax 98):=fun h1 h2 h3 h4=>abS h1 h2 h3 (h4 _)
theorem valid:OW (base w0 hi) (ax 56):=by
 intro M s Q hM hl hQ
 refine gK.ny (v:=Bo (iL s)) ⟨Tryz.f56,_,Tryz.func56,rfl⟩ (fun ρ w us hus hw=>?_) hQ
 cases hus with
 | cons _ u1 _ us r1 hus =>
 cases hus
 obtain⟨rfl,_⟩:=aZ r1
 refine(Any.utf8_ValidString Tryz.lays196 ⟨⟨s⟩⟩ w (by show s.length≤_; omega) (K5 hM hw).u8).mono fun e w' ⟨he,hb⟩=>⟨_,he,hb, ?_⟩
 rw[show(⟨⟨s⟩⟩ : ByteArray).data.toList=s from rfl,Kr s.length s (Nat.le_refl _)]
 exact .sc _ rfl
end
theorem KF:∀ (j:Nat) b,(⟨⟨fD⟩⟩ : ByteArray).data.toList[j]?=some b→b.toNat<128:=fun j b h=>by
 have hm:b∈fD:=List.mem_of_getElem? h
 have:fD.all (fun b=>decide (b.toNat<128))=true:=by decide
 exact of_decide_eq_true (List.all_eq_true.1 this b hm)
theorem trimLeft {B:Base} : OZ B (ax 92):=by
 intro M s Q hM hl hQ
 by_cases hne:s=[]
 ·subst hne
  refine yL ?_
  unfold uo
  simp only[dN,go_sem,beq_self_eq_true]
  exact hQ M (ag.refl _ _)
 have hp:=List.length_pos_iff.2 hne
 refine gK.ny (v:=St (s.dropWhile (fD.contains ·))) ⟨Tryz.f92,_,Tryz.func92,rfl⟩ (fun ρ w us hus hw=>?_) (hQ M (ag.refl _ _))
 cases hus with
 | cons _ u1 _ us r1 hus =>
 cases hus with
 | cons _ u2 _ us r2 hus =>
 cases hus
 obtain⟨rfl,_⟩:=aZ r1
 obtain⟨rfl,_⟩:=aZ r2
 refine(Any.strings_TrimLeft_set Tryz.lays161 (by exact Tryz.zeroValue164) (by kernel_rfl) ⟨⟨s⟩⟩ ⟨⟨fD⟩⟩ w (by decide) (by show 0<s.length; omega) (by decide) KF).mono fun e w' ⟨he,hb⟩=>⟨_,he, ?_,.sc _ rfl⟩
 rw[hb]
 have h1:=(Below.refl w.heap.size w).alloc (Nat.le_refl _) (.cells (Lib.setCells fD) (Tryz.lays161_ren.t 116))
 exact h1.alloc h1.size _
theorem trim {B:Base} : O3 B (fun s=>Lib.trimS s fD) (ax 95):=by
 intro M s Q hM hl hQ
 by_cases hne:s=[]
 ·subst hne
  refine Ch ?_
  unfold Bn
  simp only[dN,go_sem,beq_self_eq_true]
  exact hQ M (ag.refl _ _)
 have hp:=List.length_pos_iff.2 hne
 refine gK.ny (v:=St (Lib.trimS s fD)) ⟨Tryz.f95,_,Tryz.func95,rfl⟩ (fun ρ w us hus hw=>?_) (hQ M (ag.refl _ _))
 cases hus with
 | cons _ u1 _ us r1 hus =>
 cases hus with
 | cons _ u2 _ us r2 hus =>
 cases hus
 obtain⟨rfl,_⟩:=aZ r1
 obtain⟨rfl,_⟩:=aZ r2
 refine(Any.strings_Trim_set Tryz.lays160 (by exact Tryz.zeroValue164) (by kernel_rfl) ⟨⟨s⟩⟩ ⟨⟨fD⟩⟩ w (by decide) (by show 0<s.length; omega) (by show s.length≤_; omega) (by decide) KF).mono fun e w' ⟨he,q,hb⟩=>⟨_,he, ?_,.sc _ rfl⟩
 rw[hb]
 have h1:=(Below.refl w.heap.size w).alloc (Nat.le_refl _) (.cells (Lib.setCells fD) (Tryz.lays160_ren.t 116))
 have h2:=h1.alloc h1.size (.cells (Lib.setCells fD) (Tryz.lays160_ren.t 116))
 exact⟨h2.os,h2.tape,h2.output,h2.size,h2.block⟩
theorem VV {M:RM} {s:List UInt8} {x:UInt8} : Tc Tryz.prog 136 [St s,By x] M (N .i64 (Lib.indexByte s x)):=by
 intro ρ w us hus hw
 cases hus with
 | cons _ u1 _ us r1 hus =>
 cases hus with
 | cons _ u2 _ us r2 hus =>
 cases hus
 obtain⟨rfl,_⟩:=aZ r1
 obtain⟨rfl,_⟩:=aZ r2
 refine⟨.int .i64 (Lib.indexByte s x), ?_,.sc _ rfl⟩
 refine Cf (fn:=Tryz.f136) (s:=Extern.BytealgIndexByte.indexByte) (by kernel_rfl) (pok.ng 136 Tryz.f136 (by kernel_rfl)) (by kernel_rfl) (by kernel_rfl) (by kernel_rfl) (fun w=>?_) w
 rw[Lib.run_indexByteString]
 congr 2
 simp
theorem XD:sP (ax 108):=by
 intro M s x Q hQ
 refine nV ?_
 unfold kI
 exact .inr (.inr (.inr (.inl ⟨_,VV,hQ⟩)))
theorem Uv:sP (ax 73):=by
 intro M s x Q hQ
 refine vR ?_
 unfold rW
 exact XD hQ
theorem validRune:Di (ax 150):=by
 intro M r Q hQ
 obtain⟨a0,e,h⟩:=Mi hQ
 cases e
 exact rU h
theorem WG {cs:Vc.Str} (h1:Asc cs) (h2:cs.length≤1000) : BZ cs (ax 127):=by
 intro M r Q h3 h4
 obtain⟨a0,a1,e,h⟩:=Kt (cq:=ax 145) h1 h2 Uv validRune h3 h4
 cases e
 exact wF h
theorem indexAny {B:Base} {cs:Vc.Str} (ha:Asc cs) (h2:2≤cs.length) (aav:cs.length≤1000) : oH cs B (ax 104):=by
 intro M s Q hM hl hQ
 have hasc:∀ (j:Nat) b,(⟨⟨cs⟩⟩ : ByteArray).data.toList[j]?=some b→b.toNat<128:=fun j b h=>ha b (List.mem_of_getElem? h)
 by_cases h8:s.length≤8
 ·refine yS (Mh ha h2 aav h8 (WG ha aav) ?_ hQ)
  intro M n Q h
  refine qa ?_
  unfold mJ
  simp only[go_sem]
  rw[show decide ((n:Int) > 8)=decide (8<n) by simp; omega]
  exact h
 refine gK.ny (v:=N .i64 (Lib.indexAny s cs)) ⟨Tryz.f104,_,Tryz.func104,rfl⟩ (fun ρ w us hus hw=>?_) (hQ M (ag.refl _ _))
 cases hus with
 | cons _ u1 _ us r1 hus =>
 cases hus with
 | cons _ u2 _ us r2 hus =>
 cases hus
 obtain⟨rfl,_⟩:=aZ r1
 obtain⟨rfl,_⟩:=aZ r2
 refine(Any.strings_IndexAny_long Tryz.lays153 (by exact Tryz.zeroValue164) (by kernel_rfl) ⟨⟨s⟩⟩ ⟨⟨cs⟩⟩ w (by show 1<cs.length; omega) (by show 8<s.length; omega) (by show s.length<_; omega) (by show cs.length<_; omega) hasc).mono fun e w' ⟨he,hb⟩=>⟨_,he, ?_,.sc _ rfl⟩
 rw[hb]
 exact((Below.refl _ _).alloc (Nat.le_refl _) _).alloc (by simp) _
theorem XT {cs:Vc.Str} (h:cs.all (fun b=>decide (b.toNat<128))=true) : Asc cs:=fun x hx=>of_decide_eq_true (List.all_eq_true.1 h x hx)
theorem ia3 {B:Base} : oH mi B (ax 104):=indexAny (XT (by decide)) (by decide) (by decide)
theorem ia4 {B:Base} : oH kX B (ax 104):=indexAny (XT (by decide)) (by decide) (by decide)
section
variable {w0:World} {hi:Iv w0}
theorem itoa:Vc.Z0 (base w0 hi) (ax 53):=by
 intro M n Q hB h1 h2 hQ
 refine gK.ny (v:=St (Lib.itoa n)) ⟨Tryz.f53,_,Tryz.func53,rfl⟩ (fun ρ w us hus hw=>?_) (hQ M (ag.refl _ _))
 cases hus with
 | cons _ u1 _ us r1 hus =>
 cases hus
 obtain⟨rfl,_⟩:=aZ r1
 refine(Any.strconv_Itoa Tryz.lays171 n h1 h2 w (K5 hB hw).p10).mono fun e w' ⟨he,k,os,hb⟩=>⟨_,he, ?_,.sc _ rfl⟩
 rw[hb]
 exact XY w k os
theorem atoi:Vc.aap (base w0 hi) (ax 68):=by
 intro M s Q hB hl hQ
 unfold Cv at hQ
 have bad:∀ (v:Int),(Lib.atoiAll s=Lib.atoiAll [] ∧ v=0∨Lib.atoiAll s=.range∧v=Lib.atoiSat s)→Q (.tup [N .i64 v,.ifc (Tryz.lays172_ren.t 168) .top]) M→ax 68 [St s] M Q:=by
  intro v hv hq
  refine gK.ny (v:=.tup [N .i64 v,.ifc (Tryz.lays172_ren.t 168) .top]) ⟨Tryz.f68,_,Tryz.func68,rfl⟩ (fun ρ w us hus hw=>?_) hq
  cases hus with
  | cons _ u1 _ us r1 hus =>
  cases hus
  obtain⟨rfl,_⟩:=aZ r1
  rcases hv with⟨hv,rfl⟩ | ⟨hv,rfl⟩
  ·obtain⟨ev,c1,d1⟩:=(K5 hB hw).es
   refine(Any.strconv_Atoi_syntax Tryz.lays172 ⟨⟨s⟩⟩ (by show s.length≤_; omega) hv ev w c1 d1).mono fun e w' ⟨N,he,_,_,hb⟩=>⟨_,he,hb, ?_⟩
   exact .tup _ _ (.cons _ _ _ _ (.sc _ rfl) (.cons _ _ _ _ (.ifc _ _ _ (.top _)) .nil))
  ·obtain⟨ev,c1,d1⟩:=(K5 hB hw).er
   refine(Any.strconv_Atoi_range Tryz.lays172 ⟨⟨s⟩⟩ (by show s.length≤_; omega) hv ev w c1 d1).mono fun e w' ⟨N,he,_,_,hb⟩=>⟨_,he,hb, ?_⟩
   exact .tup _ _ (.cons _ _ _ _ (.sc _ rfl) (.cons _ _ _ _ (.ifc _ _ _ (.top _)) .nil))
 have hno:∀ K:AV→Prop,K (Bo false)→KG false (.ifc (Tryz.lays172_ren.t 168) .top) (.sc .nilIface) K:=fun K hK=>.inl ⟨rfl,false,rfl,hK⟩
 cases ha:Lib.atoiAll s with
 | ok v =>
   rw[ha] at hQ
   refine gK.ny (v:=.tup [N .i64 v,.sc .nilIface]) ⟨Tryz.f68,_,Tryz.func68,rfl⟩ (fun ρ w us hus hw=>?_) (hQ M _ (ag.refl _ _) fun K hK=>.inr ⟨rfl,rfl,hK⟩)
   cases hus with
   | cons _ u1 _ us r1 hus =>
   cases hus
   obtain⟨rfl,_⟩:=aZ r1
   refine(Any.strconv_Atoi_ok Tryz.lays172 ⟨⟨s⟩⟩ (by show s.length≤_; omega) v ha w).mono fun e w' ⟨he,hb⟩=>⟨_,he, ?_,.tup _ _ (.cons _ _ _ _ (.sc _ rfl) (.cons _ _ _ _ (.sc _ rfl) .nil))⟩
   rcases hb with rfl | ⟨t,rfl⟩
   ·exact Below.refl _ _
   ·exact Lib.bytesWorld_below w _ t
 | range =>
   rw[ha] at hQ
   exact bad _ (.inr ⟨ha,rfl⟩) (hQ M _ (ag.refl _ _) hno)
 | _ =>
   rw[ha] at hQ
   exact bad 0 (.inl ⟨ha,rfl⟩) (hQ M _ (ag.refl _ _) hno)
end
end Go.Proofs.YtoikjkmmdpdkbaaGreatDoor.vcl
namespace Go.Proofs.YtoikjkmmdpdkbaaGreatDoor
open Go Go.RowKit Go.Proofs
set_option maxHeartbeats 4000000 in
theorem VW (k:Nat) (x:Int) (hk:k<128) (w:World) (hc:w.cell? ⟨2,k,none⟩=some (.int .u16 x)) (hx:0≤x∧x<65536) :
  Calls Tryz.prog 99 #[.int .i32 (k:Int)] w fun e w'=>e=.returned (.int .i32 x)∧w'=w:=by
 have h1:¬ ((k:Int)<0):=by omega
 have h2:¬ ((k:Int) > 1114111):=by omega
 have h3:(k:Int)<128:=by omega
 go_enter Tryz.func99,Tryz.ntmps99
 go_wp2
 go_ret
 exact⟨rfl,rfl⟩
namespace vcl
open Go.Ab Go.Ab.Vl Go.Ab.Vc
theorem qg {w0:World} {hi:Iv w0} {k:Nat} {x:Int} (hk:k<128) (hx:LC.getD k 0=x) (hb:0≤x∧x<65536) {M:RM} {Q:ak} (hM:M.base=base w0 hi) (hQ:Q (N .i32 x) M) : ax 99 [N .i32 (k:Int)] M Q:=by
 refine gK.ny (v:=N .i32 x) ⟨Tryz.f99,_,Tryz.func99,rfl⟩ (fun ρ w us hus hw=>?_) hQ
 cases hus with
 | cons _ u1 _ us r1 hus =>
 cases hus
 obtain⟨rfl,_⟩:=aZ r1
 have hc:=(K5 hM hw).fold.cell Om k (by show k<128; omega)
 rw[hx] at hc
 refine(VW k x hk w hc hb).mono fun e w' ⟨he,hw'⟩=>⟨_,he,by rw[hw']; exact Below.refl _ _,.sc _ rfl⟩
theorem abL {w0:World} {hi:Iv w0} : Xj (base w0 hi) (ax 99):=by
 constructor
 ·intro M y Q hM hy hQ
  simp only[List.mem_cons,List.not_mem_nil,or_false] at hy
  rcases hy with rfl | rfl | rfl | rfl | rfl
  ·exact qg (k:=118) (by decide) (by kernel_rfl) (by decide) hM hQ
  ·exact qg (k:=99) (by decide) (by kernel_rfl) (by decide) hM hQ
  ·exact qg (k:=97) (by decide) (by kernel_rfl) (by decide) hM hQ
  ·exact qg (k:=114) (by decide) (by kernel_rfl) (by decide) hM hQ
  ·exact qg (k:=100) (by decide) (by kernel_rfl) (by decide) hM hQ
 ·intro M y Q hM hy hQ
  simp only[List.mem_cons,List.not_mem_nil,or_false] at hy
  rcases hy with rfl | rfl | rfl | rfl | rfl
  ·exact qg (k:=86) (by decide) (by kernel_rfl) (by decide) hM hQ
  ·exact qg (k:=67) (by decide) (by kernel_rfl) (by decide) hM hQ
  ·exact qg (k:=65) (by decide) (by kernel_rfl) (by decide) hM hQ
  ·exact qg (k:=82) (by decide) (by kernel_rfl) (by decide) hM hQ
  ·exact qg (k:=68) (by decide) (by kernel_rfl) (by decide) hM hQ
end vcl
end Go.Proofs.YtoikjkmmdpdkbaaGreatDoor
namespace Go.Proofs.YtoikjkmmdpdkbaaGreatDoor.vcl
open Go Go.Ab Go.Ab.Vl Go.Ab.Vc Go.RowKit Go.Proofs Go.Proofs.YtoikjkmmdpdkbaaGreatDoor
theorem Ot {f:FuncId} {W:RM→ak→Prop} (h:∀ {M:RM} {Q:ak},W M Q→ax f [] M Q) : ∀ args M Q,(args=[]∧W M Q)→ax f args M Q:=by
 rintro args M Q ⟨rfl,k⟩; exact h k
theorem cZ {f:FuncId} {W:AV→RM→ak→Prop} (h:∀ {a0:AV} {M:RM} {Q:ak},W a0 M Q→ax f [a0] M Q) : ∀ args M Q,(∃ a0,args=[a0]∧W a0 M Q)→ax f args M Q:=by
 rintro args M Q ⟨a0,rfl,k⟩; exact h k
theorem ek {f:FuncId} {W:AV→AV→RM→ak→Prop} (h:∀ {a0 a1:AV} {M:RM} {Q:ak},W a0 a1 M Q→ax f [a0,a1] M Q) : ∀ args M Q,(∃ a0 a1,args=[a0,a1]∧W a0 a1 M Q)→ax f args M Q:=by
 rintro args M Q ⟨a0,a1,rfl,k⟩; exact h k
theorem Od {f:FuncId} {W:AV→AV→AV→RM→ak→Prop} (h:∀ {a0 a1 a2:AV} {M:RM} {Q:ak},W a0 a1 a2 M Q→ax f [a0,a1,a2] M Q) : ∀ args M Q,(∃ a0 a1 a2,args=[a0,a1,a2]∧W a0 a1 a2 M Q)→ax f args M Q:=by
 rintro args M Q ⟨a0,a1,a2,rfl,k⟩; exact h k
section
variable {w0:World} {hi:Iv w0}
theorem Gl:WW (J4 Tryz.prog 135):=by
 intro v M Q hQ
 exact .inr (.inr (.inl ⟨⟨Tryz.f135,by kernel_rfl,by kernel_rfl,by kernel_rfl,by kernel_rfl⟩,v,rfl,hQ⟩))
theorem check:BF 122 (ax 107):=by
 intro x0 x1 x2 x3 x4 x5 x6 x7 x8
 refine cZ pW _ _ _ ?_
 apply (Uq Gl) <;> assumption
theorem Um:CL 122 5 (ax 69):=by
 intro x0 x1 x2 x3 x4 x5 x6 x7 x8
 refine ek kw _ _ _ ?_
 apply (Ky check) <;> assumption
theorem ND:vU 122 5 (ax 69):=by
 intro x0 x1 x2 x3 x4 x5 x6 x7 x8
 refine ek kw _ _ _ ?_
 apply (KX check) <;> assumption
theorem writeString:rC 122 5 (ax 70):=by
 intro x0 x1 x2 x3 x4 x5 x6 x7 x8
 refine ek jH _ _ _ ?_
 apply (Jh check) <;> assumption
theorem P6:wU 122 5 (ax 70):=by
 intro x0 x1 x2 x3 x4 x5 x6 x7 x8
 refine ek jH _ _ _ ?_
 apply (GZ check) <;> assumption
theorem Gd:wI 122 5 (ax 71):=by
 intro x0 x1 x2 x3 x4 x5 x6 x7
 refine cZ qZ _ _ _ ?_
 apply RQ <;> assumption
theorem Xg {x:UInt8} : Vl.K4 x (ax 114):=by
 intro x0 x1 x2 x3
 refine ek pU _ _ _ ?_
 apply (QG XD) <;> assumption
theorem index:Vl.Wn (ax 114):=fun h=>Xg h
theorem afD:Vl.A9 (ax 89):=by
 intro x0 x1 x2 x3 x4
 refine ek kY _ _ _ ?_
 apply (NS index) <;> assumption
theorem cut:Vl.A9 (ax 54):=by
 intro x0 x1 x2 x3 x4
 refine ek rX _ _ _ ?_
 apply (Vl.H8 afD) <;> assumption
theorem hasSuffix:DF (ax 115):=by
 intro x0 x1 x2 x3 x4
 refine ek nU _ _ _ ?_
 apply Lt <;> assumption
theorem ad4:GG (ax 90):=by
 intro x0 x1 x2 x3 x4
 refine ek nN _ _ _ ?_
 apply (LW hasSuffix) <;> assumption
theorem trimS:GG (ax 55):=by
 intro x0 x1 x2 x3 x4
 refine ek uX _ _ _ ?_
 apply (VU ad4) <;> assumption
theorem aaG:sU 9 3 (ax 31):=by
 intro x0 x1 x2 x3 x4
 refine cZ CO _ _ _ ?_
 apply (OQ cut trimS) <;> assumption
theorem rune:Vw (ax 110):=by
 intro x0 x1 x2 x3 x4
 refine cZ FO _ _ _ ?_
 apply VY <;> assumption
theorem formed:KV (ax 79):=by
 intro x0 x1 x2 x3 x4
 refine cZ CE _ _ _ ?_
 apply (Rm rune) <;> assumption
theorem raw:YA 9 (ax 78):=by
 intro x0 x1 x2 x3 x4
 refine cZ G7 _ _ _ ?_
 apply ZG <;> assumption
theorem piece:PM (base w0 hi) (ax 77):=by
 intro x0 x1 x2 x3 x4 x5 x6 x7
 refine ek D7 _ _ _ ?_
 apply (Vo decode) <;> assumption
theorem fold:XB (base w0 hi) (ax 43):=by
 intro M s Q h1 h2 h3
 exact EF (Ww (T8:=5) (piece (hi:=hi)) writeString Gd h1 h2 h3)
theorem aeb {x:UInt8} : De x (ax 89):=by
 intro x0 x1 x2 x3 x4
 refine ek kY _ _ _ ?_
 apply (KT Xg) <;> assumption
theorem acY {x:UInt8} : De x (ax 54):=by
 intro x0 x1 x2 x3 x4
 refine ek rX _ _ _ ?_
 apply (VO aeb) <;> assumption
theorem Tp:pu (ax 94):=by
 intro x0 x1 x2 x3 x4 x5
 refine ek jg _ _ _ ?_
 apply Im <;> assumption
theorem KU:pu (ax 58):=by
 intro x0 x1 x2 x3 x4 x5
 refine ek vK _ _ _ ?_
 apply (Ry Tp) <;> assumption
theorem plain:xI (ax 97):=by
 intro x0 x1 x2 x3
 refine cZ DY _ _ _ ?_
 apply VH <;> assumption
theorem acr:xN (ax 93):=by
 intro x0 x1 x2 x3 x4
 refine cZ El _ _ _ ?_
 apply UU <;> assumption
theorem T9:lu (ax 65):=by
 intro x0 x1 x2 x3 x4 x5
 refine ek ji _ _ _ ?_
 apply (Ec Tp) <;> assumption
theorem F6:lu (ax 35):=by
 intro x0 x1 x2 x3 x4 x5
 refine ek ol _ _ _ ?_
 apply (Mv T9) <;> assumption
theorem aeQ:Y5 (ax 94):=by
 intro x0 x1 x2 x3 x4
 refine ek jg _ _ _ ?_
 apply NJ <;> assumption
theorem abh:wL (ax 65):=by
 intro x0 x1 x2 x3 x4
 refine ek ji _ _ _ ?_
 apply (IA aeQ) <;> assumption
theorem aaB:wL (ax 35):=by
 intro x0 x1 x2 x3 x4
 refine ek ol _ _ _ ?_
 apply (Ri abh) <;> assumption
theorem zS:pg (base w0 hi) (ax 61):=by
 intro x0 x1 x2 x3 x4 x5 x6
 refine ek zB _ _ _ ?_
 apply (LA plain Uv valid) <;> assumption
theorem Je:uy (base w0 hi) eG (ax 59):=by
 intro x0 x1 x2 x3 x4 x5
 refine cZ AJ _ _ _ ?_
 apply (NQ trim) <;> assumption
theorem word:Oy (base w0 hi) (ax 57):=by
 intro x0 x1 x2 x3 x4 x5
 refine cZ EB _ _ _ ?_
 apply (Ws acr trimLeft) <;> assumption
theorem value:Q5 (base w0 hi) (ax 96):=by
 intro x0 x1 x2 x3 x4 x5
 refine cZ D9 _ _ _ ?_
 apply (Vp F6 acY zS ia3) <;> assumption
theorem params:Lm (base w0 hi) eG 114 (ax 60):=by
 intro x0 x1 x2 x3 x4 x5 x6
 refine cZ Dy _ _ _ ?_
 apply (Rz KU word Je value) <;> assumption
theorem adC:RdC (base w0 hi) eG (ax 32):=by
 intro x0 x1 x2 x3 x4 x5 x6
 refine cZ Fp _ _ _ ?_
 apply (Vl.Fg (TP:=114) valid word KU Je params zS) <;> assumption
theorem readAll:xP (base w0 hi) eG (ax 17):=by
 intro x0 x1 x2 x3 x4 x5 x6
 refine cZ FK _ _ _ ?_
 apply (QJ aaG adC) <;> assumption
theorem great:PV (ax 76):=by
 intro x0 x1 x2 x3 x4
 refine cZ DZ _ _ _ ?_
 apply Vn <;> assumption
theorem afE:YG (base w0 hi) (ax 72):=by
 intro x0 x1 x2 x3 x4 x5
 refine ek mU _ _ _ ?_
 apply (YW ia3) <;> assumption
theorem ad3:Uk (base w0 hi) (ax 72):=by
 intro x0 x1 x2 x3 x4 x5
 refine ek mU _ _ _ ?_
 apply (Xz ia4) <;> assumption
theorem afy:Zz (base w0 hi) (ax 75):=by
 intro x0 x1 x2 x3 x4 x5
 refine cZ Dm _ _ _ ?_
 apply (UH zS) <;> assumption
theorem adb:Lh (base w0 hi) 75 (ax 109):=by
 intro x0 x1 x2 x3 x4 x5 x6 x7 x8
 refine ek xK _ _ _ ?_
 apply (NL (n:=75) (cv:=ax) afy) <;> assumption
theorem acz:LU (base w0 hi) 75 (ax 74):=by
 intro x0 x1 x2 x3 x4 x5 x6 x7 x8
 refine ek uE _ _ _ ?_
 apply (Ji adb) <;> assumption
theorem adz:Pt (base w0 hi) eG (ax 41):=by
 intro x0 x1 x2 x3 x4 x5 x6 x7 x8 x9
 refine cZ Fy _ _ _ ?_
 apply (Vl.E8 Je zS acz) <;> assumption
theorem adB:UN (base w0 hi) (ax 42):=by
 intro x0 x1 x2 x3 x4 x5 x6 x7 x8 x9 x10
 refine cZ FC _ _ _ ?_
 apply (Wq P6 great Um afE Gd) <;> assumption
theorem WA:Kb (base w0 hi) (kH eG) (ax 22):=by
 intro x0 x1 x2 x3 x4 x5 x6 x7 x8 x9 x10
 refine cZ Eh _ _ _ ?_
 apply (VA adz adB fold) <;> assumption
theorem adm:Iu (ax 38):=by
 intro x0 x1 x2 x3 x4
 refine cZ BU _ _ _ ?_
 apply (RV ND writeString Gd) <;> assumption
theorem acC:BG (N .i64 14) (N .i64 0) (ax 40):=by
 intro x0 x1 x2 x3 x4
 refine cZ Ah _ _ _ ?_
 apply (NK ND Uv Gd) <;> assumption
theorem aau:Oq (ax 29):=by
 intro x0 x1 x2 x3
 refine cZ Aq _ _ _ ?_
 apply WY <;> assumption
theorem aah:Oo (ax 37):=by
 intro x0 x1 x2 x3
 refine cZ CQ _ _ _ ?_
 apply X5 <;> assumption
theorem abY:TZ (base w0 hi) (ax 30):=by
 intro x0 x1 x2 x3 x4 x5 x6
 refine ek Al _ _ _ ?_
 apply (X6 itoa) <;> assumption
theorem acZ:Qx (base w0 hi) (ax 39):=by
 intro x0 x1 x2 x3 x4 x5 x6 x7 x8 x9 x10
 refine cZ Eb _ _ _ ?_
 apply (UQ ad3) <;> assumption
theorem UX:Jo (base w0 hi) (ax 21):=by
 intro x0 x1 x2 x3 x4 x5 x6 x7 x8 x9 x10
 refine cZ FH _ _ _ ?_
 apply (Xb acZ aah acC adm) <;> assumption
theorem WL:J7 (base w0 hi) (ax 16):=by
 intro x0 x1 x2 x3 x4 x5 x6 x7 x8 x9 x10 x11
 refine ek D5 _ _ _ ?_
 apply (TQ WA aau UX abY) <;> assumption
theorem foldEq:Lr (base w0 hi) (ax 62):=by
 intro x0 x1 x2 x3 x4 x5
 refine ek vN _ _ _ ?_
 apply (Ro abS abL) <;> assumption
theorem acM:Qc (base w0 hi) (ax 33):=by
 intro x0 x1 x2 x3 x4 x5 x6 x7 x8 x9 x10
 refine ek Bf _ _ _ ?_
 apply (TD foldEq) <;> assumption
theorem aco:Qh (base w0 hi) (ax 66):=by
 intro x0 x1 x2 x3 x4 x5
 refine cZ Ez _ _ _ ?_
 apply (VJ trimLeft) <;> assumption
theorem ad9:Ue (base w0 hi) (ax 67):=by
 intro x0 x1 x2 x3 x4 x5
 refine cZ D8 _ _ _ ?_
 apply (XE F6 acY ia4) <;> assumption
theorem unC:UnC (base w0 hi) (ax 36):=by
 intro x0 x1 x2 x3 x4 x5
 refine cZ BC _ _ _ ?_
 apply (aa7 aco F6 KU ad9 atoi) <;> assumption
theorem Z9:OA (base w0 hi) (ax 20):=by
 intro x0 x1 x2 x3 x4 x5 x6
 refine cZ Fw _ _ _ ?_
 apply (W9 aaB unC aah adm WL) <;> assumption
theorem XC:Ko (base w0 hi) (ax 15):=by
 intro x0 x1 x2 x3 x4 x5 x6
 refine cZ FM _ _ _ ?_
 apply (U9 Z9) <;> assumption
theorem XV:Oh (base w0 hi) (ax 11):=by
 intro x0 x1 x2 x3 x4 x5 x6
 refine cZ ER _ _ _ ?_
 apply (Vc.E8 XC) <;> assumption
theorem afh:YE (base w0 hi) (ax 10):=by
 intro x0 x1 x2 x3 x4 x5 x6 x7 x8 x9 x10
 refine cZ Cq _ _ _ ?_
 apply (ZJ Z9 XV UX WA) <;> assumption
theorem aeO:Vc.A9 (base w0 hi) (ax 18):=by
 intro x0 x1 x2 x3 x4 x5 x6 x7 x8 x9 x10
 refine cZ G6 _ _ _ ?_
 apply (Vc.H8 acM aau) <;> assumption
theorem abp:Sha.Qt 5 (ax 103):=by
 intro x0 x1 x2 x3 x4 x5 x6
 refine cZ Fz _ _ _ ?_
 apply Sha.TN <;> assumption
theorem ad8:Sha.Zn (ax 149):=by
 intro x0 x1 x2 x3 x4 x5
 refine ek rV _ _ _ ?_
 apply Sha.Y3 <;> assumption
theorem abW:Sha.Gs .i64 (ax 126):=by
 intro x0 x1 x2 x3 x4 x5
 refine ek Jk _ _ _ ?_
 apply (Sha.XA ad8) <;> assumption
theorem acX:Sha.TT 144 147 (ax 102):=by
 intro x0 x1 x2 x3 x4 x5 x6 x7 x8 x9 x10 x11 x12 x13 x14 x15 x16 x17
 refine Od AX _ _ _ ?_
 apply (Sha.WE abW) <;> assumption
theorem abf:Sha.Bu Sha.kW (ax 100):=by
 intro x0 x1 x2
 refine Ot Bd _ _ _ ?_
 apply Sha.Lx <;> assumption
theorem aaz:Sha.Bu Sha.hW (ax 101):=by
 intro x0 x1 x2
 refine Ot GR _ _ _ ?_
 apply Sha.TE <;> assumption
theorem aec:Sha.Ml (ax 64):=by
 intro x0 x1 x2 x3 x4 x5 x6
 refine cZ Km _ _ _ ?_
 apply (Sha.YR abf aaz acX abp) <;> assumption
theorem adR:Sha.Vq (ax 63):=by
 intro x0 x1 x2 x3 x4
 refine cZ Jq _ _ _ ?_
 apply Sha.Wy <;> assumption
theorem adW:Ut (base w0 hi) (ax 34):=by
 intro x0 x1 x2 x3 x4 x5 x6 x7 x8 x9
 refine ek BD _ _ _ ?_
 apply (V8 (B:=base w0 hi) aec adR) <;> assumption
theorem aee:Uo (base w0 hi) (ax 19):=by
 intro x0 x1 x2 x3 x4 x5 x6 x7 x8 x9 x10 x11 x12
 refine cZ FJ _ _ _ ?_
 apply (Vc.Fg UX abY (adW (hi:=hi))) <;> assumption
theorem acH:LY (base w0 hi) (ax 9):=by
 intro x0 x1 x2 x3 x4 x5 x6 x7
 refine cZ CW _ _ _ ?_
 apply (Yo readAll aeO aee) <;> assumption
theorem awake:AwC (base w0 hi) (ax 8):=by
 intro x0 x1 x2 x3
 refine Ot D6 _ _ _ ?_
 apply (UZ acH afh XC WL XV) <;> assumption
end
end Go.Proofs.YtoikjkmmdpdkbaaGreatDoor.vcl
namespace Go.Proofs
open Go.RowKit Go.Shelf
def Tryz.lays260_ren:Go.Shelf.Ren:=⟨fun | 260=>123 | n=>n,fun | 9=>9 | 21=>21 | 3=>3 | 4=>4 | 5=>5 | 119=>135 | 0=>0 | 46=>139 | 139=>138 | 138=>137 | n=>n,fun | 3=>0 | 4=>1 | n=>n⟩
theorem Tryz.lays260:Go.Proofs.Lays.n260 Tryz.prog Tryz.lays260_ren where
 mixed:=by kernel_rfl
 f260:=Tryz.func123.trans (congrArg some (by kernel_rfl))
 t0:=Tryz.underlying0
 a0:=Tryz.isAgg0
 z0:=Tryz.sizeOf0
 v0:=Tryz.zeroValue0
 t3:=Tryz.underlying3
 a3:=Tryz.isAgg3
 z3:=Tryz.sizeOf3
 v3:=Tryz.zeroValue3
 t4:=Tryz.underlying4
 a4:=Tryz.isAgg4
 z4:=Tryz.sizeOf4
 v4:=Tryz.zeroValue4
 t5:=Tryz.underlying5
 a5:=Tryz.isAgg5
 z5:=Tryz.sizeOf5
 v5:=Tryz.zeroValue5
 t9:=Tryz.underlying9
 a9:=Tryz.isAgg9
 z9:=Tryz.sizeOf9
 v9:=Tryz.zeroValue9
 t21:=Tryz.underlying21
 a21:=Tryz.isAgg21
 z21:=Tryz.sizeOf21
 v21:=Tryz.zeroValue21
 t46:=Tryz.underlying139
 a46:=Tryz.isAgg139
 z46:=Tryz.sizeOf139
 v46:=Tryz.zeroValue139
 t119:=Tryz.underlying135
 a119:=Tryz.isAgg135
 z119:=Tryz.sizeOf135
 t138:=Tryz.underlying137
 a138:=Tryz.isAgg137
 z138:=Tryz.sizeOf137
 v138:=Tryz.zeroValue137
 t139:=Tryz.underlying138
 a139:=Tryz.isAgg138
 z139:=Tryz.sizeOf138
 v139:=Tryz.zeroValue138
 g3:=by kernel_rfl
 g4:=by kernel_rfl
end Go.Proofs
namespace Go.Proofs.YtoikjkmmdpdkbaaGreatDoor.vcl
open Go Go.Ab Go.RowKit Go.Proofs Go.Lib
open Go.Proofs.YtoikjkmmdpdkbaaGreatDoor
theorem mO {P:Program} {n:String} {d:DataW Unit} {r:List (String × DataW Unit)} {w:World} (h:laidMet P ((n,d) :: r) w) : laidMet P r w:=by
 obtain⟨ps,⟨g,t,cs,fuel,p,q,_,_,_,_,hs,rfl⟩,hnd,hall⟩:=h
 exact⟨q,hs,(List.nodup_append.1 hnd).2.1,fun b off hm=>hall b off (by simp[hm])⟩
theorem BA {P:Program} {w:World} {n:String} {d:DataW Unit} {g t:Nat} {ms:Array (String × TypeId)} (hg:P.globalNamed n=some g) (ht:(P.globals[g]?).map (·.type)=some t) (hu:P.underlying t=some (.interface ms))
  (h:VarReads P w n d) : ∃ ev,w.cell? ⟨g,0,none⟩=some ev∧(ev=.nilIface∨∃ te pe,ev=.iface te pe):=by
 obtain⟨g',t',cs,fuel,p,hg',ht',hvar,hd⟩:=h
 obtain rfl:=Option.some.inj (hg.symm.trans hg')
 obtain rfl:=Option.some.inj (ht.symm.trans ht')
 have hc:=World.var?_cell hg hvar 0
 cases fuel with
 | zero=>simp[DataW.trod] at hd
 | succ fuel =>
   have hl:cs[0]?=cs.toList[0]?:=by simp
   rw[hl] at hc
   unfold DataW.trod at hd
   simp only[hu] at hd
   generalize cs.toList=l at hc hd
   cases l with
   | nil=>simp at hd
   | cons v r =>
     cases r with
     | cons _ _=>simp at hd
     | nil =>
       refine⟨v,hc, ?_⟩
       cases v with
       | nilIface=>exact .inl rfl
       | iface te pe=>exact .inr ⟨te,pe,rfl⟩
       | _=>simp at hd
theorem abm:Rows.vcardKnownRow.laid=("math/bits.deBruijn32tab",Rows.laid_math_bits_deBruijn32tab) :: ("math/bits.deBruijn64tab",Rows.laid_math_bits_deBruijn64tab) :: ("internal/strconv.uint64pow10",Lib.tabData .u64 Lib.pow10Tab) ::
  ("unicode/utf8.acceptRanges",Lib.acceptData) :: ("strconv.ErrRange",Rows.laid_strconv_ErrRange) :: ("strconv.ErrSyntax",Rows.laid_strconv_ErrSyntax) :: ("unicode.asciiFold",Lib.tabData .u16 LC) ::
  ("unicode.caseOrbit",Rows.laid_unicode_caseOrbit) :: ("unicode.CaseRanges",Rows.laid_unicode_CaseRanges) :: ("unicode/utf8.first",Lib.firstData) :: []:=by kernel_rfl
theorem inv_of (w:World) (h:laidMetH Tryz.prog Rows.vcardKnownRow.laid w) : Iv w:=by
 rw[MakeChecks.laidMetH_plain _ _ _ (by kernel_rfl),abm] at h
 refine⟨?_, ?_, ?_, ?_, ?_⟩
 ·exact utf8Tabs_of_reads (ρ:=Tryz.lays260_ren) Tryz.lays260 ⟨by kernel_rfl,by kernel_rfl,by kernel_rfl,by kernel_rfl,by kernel_rfl,by kernel_rfl,by kernel_rfl⟩
   (Lib.laidMet.reads h (.tail _ (.tail _ (.tail _ (.tail _ (.tail _ (.tail _ (.tail _ (.tail _ (.tail _ (.head _))))))))))) (Lib.laidMet.reads h (.tail _ (.tail _ (.tail _ (.head _)))))
 ·exact Lib.tabIs_of_head (g:=8) (t:=216) (e:=152) (n:=20) Zp (by kernel_rfl) (by kernel_rfl) (by kernel_rfl) (by kernel_rfl) (by kernel_rfl) (mO (mO h))
 ·exact Lib.tabIs_of_head (g:=2) (t:=170) (e:=169) (n:=128) Om (by kernel_rfl) (by kernel_rfl) (by kernel_rfl) (by kernel_rfl) (by kernel_rfl) (mO (mO (mO (mO (mO (mO h))))))
 ·exact BA (n := "strconv.ErrSyntax") (t:=117) (by kernel_rfl) (by kernel_rfl) Tryz.underlying117 (Lib.laidMet.reads h (.tail _ (.tail _ (.tail _ (.tail _ (.tail _ (.head _)))))))
 ·exact BA (n := "strconv.ErrRange") (t:=117) (by kernel_rfl) (by kernel_rfl) Tryz.underlying117 (Lib.laidMet.reads h (.tail _ (.tail _ (.tail _ (.tail _ (.head _))))))
end Go.Proofs.YtoikjkmmdpdkbaaGreatDoor.vcl
namespace Go.Proofs.YtoikjkmmdpdkbaaGreatDoor.vcl
open Go Go.Ab Go.Ab.Vl Go.Ab.Vc Go.RowKit Go.Proofs Go.Proofs.YtoikjkmmdpdkbaaGreatDoor
section
variable {w0:World} {hi:Iv w0}
theorem OV:Vl.xI (ax 83):=by
 intro x0 x1 x2 x3
 refine cZ Ej _ _ _ ?_
 apply NP <;> assumption
theorem abe:QZ (ax 80):=by
 intro x0 x1 x2 x3 x4
 refine cZ FT _ _ _ ?_
 apply Qo <;> assumption
theorem XK:xN (ax 81):=by
 intro x0 x1 x2 x3 x4
 refine cZ GN _ _ _ ?_
 apply Rl <;> assumption
theorem XH:Iy 9 (ax 82):=by
 intro x0 x1 x2 x3 x4 x5
 refine cZ Ce _ _ _ ?_
 apply (Vl.RG OV) <;> assumption
theorem Ya:ZF (ax 45):=by
 intro x0 x1 x2 x3 x4 x5
 refine cZ Ee _ _ _ ?_
 apply (Vl.TR formed abe XK XH OV) <;> assumption
theorem Xp:sU 9 3 (ax 44):=by
 intro x0 x1 x2 x3 x4
 refine cZ Ct _ _ _ ?_
 apply (Mg raw) <;> assumption
theorem Zi:P8 72 (ax 23):=by
 intro x0 x1 x2 x3 x4 x5
 refine cZ EX _ _ _ ?_
 apply (NW Xp Ya) <;> assumption
theorem acg:Iu (ax 51):=by
 intro x0 x1 x2 x3 x4
 refine cZ Dn _ _ _ ?_
 apply Mk <;> assumption
theorem Ym:BG (Bo false) (Bo true) (ax 50):=by
 intro x0 x1 x2 x3 x4
 refine cZ Ag _ _ _ ?_
 apply Jf <;> assumption
theorem ack:UW (ax 87):=by
 intro x0 x1 x2 x3 x4
 refine ek GY _ _ _ ?_
 apply VT <;> assumption
theorem aa2:QF (ax 48):=by
 intro x0 x1 x2 x3 x4 x5 x6 x7 x8 x9
 refine Od BL _ _ _ ?_
 apply (U1 ack) <;> assumption
theorem adD:Zc (ax 49):=by
 intro x0 x1 x2 x3
 refine cZ FI _ _ _ ?_
 apply ZQ <;> assumption
theorem abb:QN (ax 26):=by
 intro x0 x1 x2 x3 x4 x5 x6 x7 x8 x9
 refine cZ Ed _ _ _ ?_
 apply (U5 aa2 adD Ym acg) <;> assumption
theorem adq:U6 (ax 27):=by
 intro x0 x1 x2 x3 x4 x5 x6 x7
 refine cZ GQ _ _ _ ?_
 apply Xl <;> assumption
theorem acQ:Qg (ax 52):=by
 intro n
 induction n using Nat.strongRecOn with
 | _ n ih =>
   intro hn M Q hQ
   exact GX (Y1 hn (fun m hm {M} {Q} h=>ih m hm (by omega) h) hQ)
theorem aa1:Vt (ax 28):=by
 intro x0 x1 x2 x3 x4 x5 x6
 refine ek Fx _ _ _ ?_
 apply (Wu acQ) <;> assumption
theorem aaZ:UJ (ax 46):=by
 intro x0 x1 x2 x3 x4 x5 x6 x7 x8 x9 x10
 refine Od FD _ _ _ ?_
 apply (Xv XK) <;> assumption
theorem Yb:PK (ax 24):=by
 intro x0 x1 x2 x3 x4 x5 x6 x7 x8
 refine cZ Eg _ _ _ ?_
 apply (Vy aaZ) <;> assumption
theorem abo:Sha.Gs .u64 (ax 139):=by
 intro x0 x1 x2 x3 x4 x5
 refine ek GV _ _ _ ?_
 apply Sha.QB <;> assumption
theorem YI:Sha.O7 143 (ax 112):=by
 intro x0 x1 x2 x3 x4 x5 x6 x7 x8 x9 x10 x11 x12 x13 x14
 refine Od EJ _ _ _ ?_
 apply (Sha.Vx abo) <;> assumption
theorem YL:Sha.Pb (ax 154):=by
 intro x0 x1 x2 x3 x4 x5
 refine cZ Fj _ _ _ ?_
 apply Sha.Vm <;> assumption
theorem Xf:Sha.LP 3 (ax 137):=by
 intro x0 x1 x2
 refine cZ Ea _ _ _ ?_
 apply (Sha.Re YL) <;> assumption
theorem ZI:Sha.Qu (ax 155):=by
 intro x0 x1 x2 x3 x4 x5 x6 x7
 refine ek FL _ _ _ ?_
 apply Sha.Vs <;> assumption
theorem adZ:Sha.Wh (ax 156):=by
 intro x0 x1 x2 x3 x4
 refine cZ Jy _ _ _ ?_
 apply Sha.Tn <;> assumption
theorem YC:Sha.Qa (ax 157):=by
 intro x0 x1 x2 x3 x4 x5 x6
 refine ek Fa _ _ _ ?_
 apply Sha.Vi <;> assumption
theorem aaJ:Sha.UK (ax 138):=by
 intro x0 x1 x2 x3 x4 x5
 refine ek G5 _ _ _ ?_
 apply (Sha.VR adZ ZI YC) <;> assumption
theorem XW:Sha.Me 143 (ax 111):=by
 intro x0 x1 x2
 refine Ot Ef _ _ _ ?_
 apply (Sha.RX (TI:=3) Xf aaJ) <;> assumption
theorem abE:Sha.Ml (ax 84):=by
 intro x0 x1 x2 x3 x4 x5 x6
 refine cZ IR _ _ _ ?_
 apply (Sha.Rc XW YI) <;> assumption
theorem aaX:Sha.VB (ax 85):=by
 intro x0 x1 x2 x3 x4 x5 x6
 refine cZ IU _ _ _ ?_
 apply Sha.V6 <;> assumption
theorem Zt:Sha.UC (ax 47):=by
 intro x0 x1 x2 x3 x4 x5 x6
 refine cZ GU _ _ _ ?_
 apply (Sha.Q7 abE aaX) <;> assumption
theorem aaQ:QQ (ax 25):=by
 intro x0 x1 x2 x3 x4 x5 x6 x7 x8 x9 x10 x11 x12 x13 x14 x15 x16 x17 x18 x19 x20 x21 x22 x23 x24 x25 x26
 refine ek Fu _ _ _ ?_
 apply (Vf Zt) <;> assumption
theorem abr:VM (ax 12):=by
 intro x0 x1 x2 x3 x4 x5
 refine cZ C9 _ _ _ ?_
 apply (Xm Zi Yb aaQ abb adq aa1) <;> assumption
theorem abB:QR (ax 13):=by
 intro x0 x1 x2 x3 x4 x5 x6 x7 x8
 refine ek Em _ _ _ ?_
 apply VC <;> assumption
end
end Go.Proofs.YtoikjkmmdpdkbaaGreatDoor.vcl
namespace Go.Proofs.YtoikjkmmdpdkbaaGreatDoor.vcardImports
open Go Go.Ab Go.ChangeShapes Go.WideShapes Go.ChangeAt Go.RowKit
theorem own:ownKnob Tryz.prog.godebug=none:=by kernel_rfl
open Go.Ab.Vc Go.Proofs.YtoikjkmmdpdkbaaGreatDoor.vcl
def Inv (w:World) : Prop:=Iv w
theorem inv_of (w:World) (h:laidMetH Tryz.prog Rows.vcardImportsRow.laid w) : Inv w:=vcl.inv_of w h
theorem walk (w:World) (hi:Inv w) (v0:Value) (h0:uh Tryz.prog (RM.old (base w hi) w) 9 (Cn w.heap.size v0)) :
  Calls Tryz.prog 4 #[v0] w fun e w'=>e=.returned (.bool true)∧Below w.heap.size w w':=by
 obtain⟨s0,e0,_⟩:=(h0.one (by kernel_rfl)).abl Tryz.underlying9
 refine gK.close (base:=base w hi) rfl hi ?_
 simp only[List.map_cons,List.map_nil]
 rw[show Cn (base w hi).n v0=St s0 from(List.cons.inj e0).1]
 exact uO (QX (awake (hi:=hi)) acH abr abB rfl fun M' _=>rfl)
set_option maxRecDepth 100000 in
theorem lifted (os:Os) (started:os.Started) (H:Type) (enc:TypeId × Value→H) :
  ReturnsInHanded {} Tryz.checked os 4 .any (fun w args=>(Rows.vcardImportsSpec.pre enc Tryz.prog Tryz.f4 Rows.vcardImportsRow.domain false w args∧laidMetH Tryz.prog Rows.vcardImportsRow.laid w)∧sizedMet enc Tryz.prog Tryz.f4 (OpenSpec.ofChange Rows.vcardImportsSpec) false w args)
   (Rows.vcardImportsSpec.post enc Tryz.prog Tryz.f4 false true false false):=by
 refine returnsInHanded_of_change_and (C:=Tryz.checked) (X:=fun w _=>laidMetH Tryz.prog Rows.vcardImportsRow.laid w) (fun _ _ _ hh h=>h.of_heap hh) own started (by kernel_rfl) Tryz.func4
  (ChangeSpec.witness_shaped (enc:=enc) (C:=Tryz.checked) (os:=os) (X:=fun w _=>laidMetH Tryz.prog Rows.vcardImportsRow.laid w) false (World.laidAll Tryz.prog os Rows.vcardImportsRow.laid) #[.string ⟨#[]⟩] 8 (World.laidAll_os _ _ _)
   (World.shaped_of_ZipB (by kernel_rfl) (by kernel_rfl)) (by kernel_rfl) (by kernel_rfl) (by kernel_rfl)
   (by rw[MakeChecks.laidMetH_plain _ _ _ (by kernel_rfl)]; exact laidMet_laidAll _ (by kernel_rfl) (by kernel_rfl))) ?_
 intro W b0 args ds gs before hval hW hcnd hwt hL _
 have hW':=hW
 obtain⟨p,q,hA,hV,rfl,hfz,hnd⟩:=hW
 rw[Tryz.params4] at hA hwt
 have hi:Inv W:=inv_of W hL
 obtain⟨rfl,rfl⟩:=trodVars_none hV
 have hfit:=QV (base:=base W hi) rfl hA (fun j t v hj hv=>hval j t v (by rw[Tryz.params4]; simpa using hj) (by simpa using hv)) (fun y hy=>by
  have afi:(DataW.weightsEach Tryz.prog [9] (ds++[])).all (· ≤ reachBytes)=true:=hwt
  have:=List.all_eq_true.1 afi y (by rw[List.append_nil]; exact hy)
  simpa using this)
 simp only[List.append_nil] at hW'
 have hlt:∀ x∈p,x.block<W.heap.size:=fun x hx=>hW'.lt x hx
 obtain⟨v0,d0,rfl,rfl,h0⟩:=trodAll_one hA
 refine(walk W hi v0 (hfit 0 _ _ rfl rfl)).mono fun e W' ⟨he,hg⟩=>?_
 subst he
 exact⟨_,rfl,NU (pa:=p) (pv:=[]) hW' (fun _ _ _=>(trodAll_cons_mk (shut_bool Tryz.underlying4 _) trodAll_mk0)) (fun sp hsp=>by
   rw[Tryz.params4]
   exact DX (by kernel_rfl) hg (fun t ht=>by
    have ht:t=9:=by simpa using ht
    subst ht; exact⟨by kernel_rfl,of_decide_eq_true (by kernel_rfl)⟩) hA hlt hsp) (fun _ _=>rfl) (by simp)
  hg (ok_one (by kernel_rfl) rfl (okWide_bool_mk Tryz.underlying4 _))⟩
theorem over:Rows.VcardImportsSaid :=
 OpenClaim.holds_of_wide 4 Tryz.f4 rfl rfl rfl rfl rfl rfl rfl ⟨rfl,rfl,rfl,rfl,rfl⟩ rfl rfl rfl rfl rfl (by kernel_rfl) Tryz.func4 (by kernel_rfl)
  (of_decide_eq_true (by kernel_rfl)) (by unfold Func.isWrapper; first | (rw[if_pos (by decide +kernel)]; kernel_rfl) | (rw[if_neg (by decide +kernel)]; exact⟨rfl,rfl⟩))
  (fun os started H enc _=>lifted os started H enc)
theorem proved:Rows.VcardImportsCardSaid :=
 Claim7.holds_tied_plain_at .later [] [.data,.data,.data,.data,.sentinel,.sentinel,.data,.data,.pinned,.pinned] true (true,"eb59256b20cf9d8d51688f576570b28cac727539ba32f5a417697ee14c2f5683") true
  over (fun _ h=>by cases h) (by kernel_rfl) (fun _ h=>by cases h) vcardImports_row_tie rfl ⟨rfl,rfl⟩ (by kernel_rfl) rfl
  (fun f fn hf hfn=>by
   obtain rfl:f=4:=Option.some.inj ((show Tryz.prog.funcNamed "rolodex/rolodexlaw24.VcardImports" = some 4 by kernel_rfl).symm.trans hf) |>.symm
   obtain rfl:fn=Tryz.f4:=(Option.some.inj (Tryz.func4.symm.trans hfn)).symm
   exact⟨by kernel_rfl,fun j t ht=>by
    rw[Tryz.params4] at ht
    have hm:=Array.mem_of_getElem? ht
    have hm:t=9:=by simpa using hm
    subst hm
    ·exact(by kernel_rfl:Tryz.prog.wantsStandIn 9=false)⟩)
  (by kernel_rfl)
end Go.Proofs.YtoikjkmmdpdkbaaGreatDoor.vcardImports
