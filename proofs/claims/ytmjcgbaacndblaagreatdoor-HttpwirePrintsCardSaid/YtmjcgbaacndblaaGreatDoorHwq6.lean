/- - 'HttpwirePrints' returns true, in whatever world it is called. By an AI agent. -/
import Derived.Test.YtmjcgbaacndblaaGreatDoorHwq5
import Derived.KernelRfl
import Derived.Test.YtmjcgbaacndblaaGreatDoorProg
import Derived.Lib.LaidTab
import Derived.Shelf.Vars
import Derived.Shelf.Strings.Split
import Derived.Shelf.Strings.SlTrimAscii
import Derived.Shelf.Strconv.Itoa3
import Derived.Shelf.Strconv.Atoi
import Derived.Lib.AtoiErrMem
import Derived.Shelf.Spec.TrailingZeros
import Derived.Shelf.Bytes.SlIndexWhole
import Derived.Test.YtmjcgbaacndblaaGreatDoorRows
import Derived.LaidMore
import Derived.Lay
import Derived.Test.YtmjcgbaacndblaaGreatDoorTie
import Derived.Test.YtmjcgbaacndblaaGreatDoorCards
import Derived.Carry
import Derived.WalkKit
import Derived.ProofKit
import Derived.OpenShut
import Derived.SevenTiedAt
import Derived.Stop.Joined
set_option maxRecDepth 100000
set_option linter.unusedVariables false
set_option linter.unusedSimpArgs false
namespace Go.Proofs.YtmjcgbaacndblaaGreatDoor
open Go Go.Ab
abbrev au := @fe Tryz.prog
theorem V4:zV Tryz.prog:=⟨Qn (by kernel_rfl),by kernel_rfl⟩
theorem aX {f:FuncId} {fn:Func} {args:List AV} {M:RM} {Q:ah} {B:Prop} (h:B) (hfn:Tryz.prog.funcs[f]?=some fn:=by kernel_rfl) (e:B=Fv Tryz.prog fn args M Q:=by kernel_rfl) : au f args M Q:=OH V4 hfn (e▸h)
variable {a0 a1 a2 a3 a4 a5 a6 a7:AV} {M:RM} {Q:ah}
theorem pg (h:Go.Ab.Hw.mX 26 (au 10) 34 (au 12) (au 13) (au 19) (au 17) (au 20) (au 18) (au 21) a0 a1 a2 a3 a4 M Q) : au 5 [a0,a1,a2,a3,a4] M Q:=aX (fn:=Tryz.f5) h
theorem zK (h:Go.Ab.Hw.zC 56 26 (au 12) 5 (au 11) (au 22) (au 13) (au 14) 34 (au 23) 3 (au 19)  M Q) : au 10 [] M Q:=aX (fn:=Tryz.f10) h
theorem pJ (h:Go.Ab.Hw.jA 26 26 (au 25) (au 30) a0 M Q) : au 11 [a0] M Q:=aX (fn:=Tryz.f11) h
theorem oN (h:Go.Ab.Hw.je 26 (au 31) (au 33) (au 32) a0 M Q) : au 12 [a0] M Q:=aX (fn:=Tryz.f12) h
theorem oD (h:Go.Ab.Hw.iX 34 (au 34) (au 33) (au 32) a0 M Q) : au 13 [a0] M Q:=aX (fn:=Tryz.f13) h
theorem oP (h:Go.Ab.Hw.jd 34 35 (au 25) (au 30) a0 M Q) : au 14 [a0] M Q:=aX (fn:=Tryz.f14) h
theorem wH (h:Go.Ab.Hw.oH 26 39 (au 46) a0 M Q) : au 17 [a0] M Q:=aX (fn:=Tryz.f17) h
theorem u7 (h:Go.Ab.Hw.nu 34 39 (au 46) a0 M Q) : au 18 [a0] M Q:=aX (fn:=Tryz.f18) h
theorem rY (h:Go.Ab.Hw.lv 26 (au 31) (au 47) 3 5 (au 49) 24 (au 48) (au 32) a0 a1 M Q) : au 19 [a0,a1] M Q:=aX (fn:=Tryz.f19) h
theorem zH (h:Go.Ab.Hw.qy 39 (au 50) (au 51) (au 52) 83 (au 24) (au 53) (au 54) 5 a0 a1 a2 a3 M Q) : au 20 [a0,a1,a2,a3] M Q:=aX (fn:=Tryz.f20) h
theorem zQ (h:Go.Ab.Hw.Am 5 (au 11) 26 a0 a1 a2 a3 M Q) : au 21 [a0,a1,a2,a3] M Q:=aX (fn:=Tryz.f21) h
theorem pR (h:Go.Ab.Hw.jv 26 (au 55) a0 a1 M Q) : au 22 [a0,a1] M Q:=aX (fn:=Tryz.f22) h
theorem oO (h:Go.Ab.Hw.jb 34 (au 55) a0 a1 M Q) : au 23 [a0,a1] M Q:=aX (fn:=Tryz.f23) h
theorem BG (h:Go.Ab.Hw.vT 5 a0 M Q) : au 24 [a0] M Q:=aX (fn:=Tryz.f24) h
theorem wT (h:Go.Ab.Hw.ou (au 56) (au) (au 57) 56 a0 a1 M Q) : au 25 [a0,a1] M Q:=aX (fn:=Tryz.f25) h
theorem oq (h:Go.Ab.Hw.iR (au 27) (au 28) (au 29) a0 a1 M Q) : au 26 [a0,a1] M Q:=aX (fn:=Tryz.f26) h
theorem qm (h:Go.Ab.Hw.jT (au 59) (au 37) 60 a0 M Q) : au 28 [a0] M Q:=aX (fn:=Tryz.f28) h
theorem rH (h:Go.Ab.Hw.kP (au 61) (au 37) 62 a0 M Q) : au 29 [a0] M Q:=aX (fn:=Tryz.f29) h
theorem wS (h:Go.Ab.Hw.om (au 63) (au 64) (au 65) (au 59) (au 37) 38 (au 40) (au 66) a0 a1 a2 M Q) : au 30 [a0,a1,a2] M Q:=aX (fn:=Tryz.f30) h
theorem oV (h:Go.Ab.Hw.jC 26 (au 28) (au 29) a0 M Q) : au 31 [a0] M Q:=aX (fn:=Tryz.f31) h
theorem tF (h:Go.Ab.Hw.lu 56 (au 67) (au 68) (au 64) 5 a0 a1 a2 a3 a4 M Q) : au 32 [a0,a1,a2,a3,a4] M Q:=aX (fn:=Tryz.f32) h
theorem tX (h:Go.Ab.Hw.lF 56 (au 34) a0 M Q) : au 33 [a0] M Q:=aX (fn:=Tryz.f33) h
theorem nU (h:Go.Ab.Hw.iL (au 36) (au 37) 38 39 (au 40) a0 a1 M Q) : au 35 [a0,a1] M Q:=aX (fn:=Tryz.f35) h
theorem rM (h:Go.Ab.Vl.kU (au 70) a0 a1 M Q) : au 36 [a0,a1] M Q:=aX (fn:=Tryz.f36) h
theorem dY (h:Go.Ab.Hw.pW 5 (au) a0 a1 M Q) : au 37 [a0,a1] M Q:=aX (fn:=Tryz.f37) h
theorem vL (h:Go.Ab.Hw.nG a0 M Q) : au 38 [a0] M Q:=aX (fn:=Tryz.f38) h
theorem mP (h:Go.Ab.Hw.ic a0 M Q) : au 39 [a0] M Q:=aX (fn:=Tryz.f39) h
theorem wG (h:Go.Ab.Hw.nV 83 a0 M Q) : au 46 [a0] M Q:=aX (fn:=Tryz.f46) h
theorem BH (h:Go.Ab.Hw.uZ 3 a0 M Q) : au 47 [a0] M Q:=aX (fn:=Tryz.f47) h
theorem zI (h:Go.Ab.Hw.qz 9 (au 75) 5 a0 M Q) : au 48 [a0] M Q:=aX (fn:=Tryz.f48) h
theorem rO (h:Go.Ab.Hw.oQ (au 76) a0 a1 M Q) : au 49 [a0,a1] M Q:=aX (fn:=Tryz.f49) h
theorem xL (h:Go.Ab.Hw.oZ a0 M Q) : au 50 [a0] M Q:=aX (fn:=Tryz.f50) h
theorem zX (h:Go.Ab.Hw.tq a0 M Q) : au 51 [a0] M Q:=aX (fn:=Tryz.f51) h
theorem BD (h:Go.Ab.Hw.vQ (au 52) a0 a1 M Q) : au 52 [a0,a1] M Q:=aX (fn:=Tryz.f52) h
theorem Av (h:Go.Ab.Hw.sK a0 M Q) : au 53 [a0] M Q:=aX (fn:=Tryz.f53) h
theorem zL (h:Go.Ab.Hw.qK (au 77) a0 M Q) : au 54 [a0] M Q:=aX (fn:=Tryz.f54) h
theorem uS (h:Go.Ab.Hw.nM (au 63) a0 a1 M Q) : au 55 [a0,a1] M Q:=aX (fn:=Tryz.f55) h
theorem wI (h:Go.Ab.Hw.oG 5 (au 78) a0 a1 M Q) : au 56 [a0,a1] M Q:=aX (fn:=Tryz.f56) h
theorem uo (h:Go.Ab.Hw.mJ 56 (au 79) (au 80) (au 67) (au 68) a0 M Q) : au 57 [a0] M Q:=aX (fn:=Tryz.f57) h
theorem uq (h:Go.Ab.Hw.mr a0 a1 a2 M Q) : au 59 [a0,a1,a2] M Q:=aX (fn:=Tryz.f59) h
theorem vG (h:Go.Ab.Hw.nz a0 M Q) : au 60 [a0] M Q:=aX (fn:=Tryz.f60) h
theorem qP (h:Go.Ab.Vl.oU (au 84) a0 a1 M Q) : au 61 [a0,a1] M Q:=aX (fn:=Tryz.f61) h
theorem ui (h:Go.Ab.Hw.lH a0 M Q) : au 62 [a0] M Q:=aX (fn:=Tryz.f62) h
theorem u6 (h:Go.Ab.Hw.nH 56 (au 64) 9 a0 a1 M Q) : au 63 [a0,a1] M Q:=aX (fn:=Tryz.f63) h
theorem vU (h:Go.Ab.Hw.nk 5 a0 M Q) : au 64 [a0] M Q:=aX (fn:=Tryz.f64) h
theorem tK (h:Go.Ab.Hw.lW (au 85) 5 a0 a1 M Q) : au 65 [a0,a1] M Q:=aX (fn:=Tryz.f65) h
theorem A9 (h:Go.Ab.Dot.rZ 5 a0 M Q) : au 66 [a0] M Q:=aX (fn:=Tryz.f66) h
theorem q9 (h:Go.Ab.Hw.kR (au 59) (au 64) (au 37) 86 a0 M Q) : au 67 [a0] M Q:=aX (fn:=Tryz.f67) h
theorem qI (h:Go.Ab.Hw.kC (au 80) (au 37) 87 a0 M Q) : au 68 [a0] M Q:=aX (fn:=Tryz.f68) h
theorem kN (h:Go.Ab.Vl.fI (au 84) a0 a1 M Q) : au 70 [a0,a1] M Q:=aX (fn:=Tryz.f70) h
theorem BB (h:Go.Ab.Hw.vW 9 5 a0 a1 M Q) : au 75 [a0,a1] M Q:=aX (fn:=Tryz.f75) h
theorem mI (h:Go.Ab.Hw.gL (au 93) 125 (au 94) (au 95) (au 96) a0 a1 M Q) : au 76 [a0,a1] M Q:=aX (fn:=Tryz.f76) h
theorem zG (h:Go.Ab.Hw.qG a0 M Q) : au 77 [a0] M Q:=aX (fn:=Tryz.f77) h
theorem zF (h:Go.Ab.Vl.qJ (au 102) a0 a1 M Q) : au 79 [a0,a1] M Q:=aX (fn:=Tryz.f79) h
theorem xV (h:Go.Ab.Vl.wQ (au 104) (au 103) (au 105) 135 (au 107) (au 106) (au 109) (au 108) a0 a1 M Q) : au 80 [a0,a1] M Q:=aX (fn:=Tryz.f80) h
theorem kW (h:Go.Ab.Vl.fH a0 a1 M Q) : au 84 [a0,a1] M Q:=aX (fn:=Tryz.f84) h
theorem wD (h:Go.Ab.Hw.oI 5 (au 114) (au 59) (au 64) (au 37) 115 (au 116) a0 a1 M Q) : au 85 [a0,a1] M Q:=aX (fn:=Tryz.f85) h
theorem qx (h:Go.Ab.Hw.jP (au 38) a0 M Q) : au 86 [a0] M Q:=aX (fn:=Tryz.f86) h
theorem pU (h:Go.Ab.Hw.jG a0 M Q) : au 87 [a0] M Q:=aX (fn:=Tryz.f87) h
theorem mi (h:Go.Ab.Hw.gH 9 154 (au 123) (au 124) 5 a0 a1 a2 a3 a4 M Q) : au 96 [a0,a1,a2,a3,a4] M Q:=aX (fn:=Tryz.f96) h
theorem nI (h:Go.Ab.Vl.iB (au 113) a0 a1 M Q) : au 102 [a0,a1] M Q:=aX (fn:=Tryz.f102) h
theorem mE (h:Go.Ab.Hw.dx (au 131) 0 (GL Tryz.prog 132) (au 100) (au 133) a0 a1 M Q) : au 113 [a0,a1] M Q:=aX (fn:=Tryz.f113) h
theorem BF (h:Go.Ab.Hw.vH (au 78) a0 a1 M Q) : au 114 [a0,a1] M Q:=aX (fn:=Tryz.f114) h
theorem uu (h:Go.Ab.Hw.mG (au 38) a0 M Q) : au 115 [a0] M Q:=aX (fn:=Tryz.f115) h
theorem rQ (h:Go.Ab.Hw.kV (au 117) (au 72) a0 a1 a2 M Q) : au 116 [a0,a1,a2] M Q:=aX (fn:=Tryz.f116) h
theorem mD (h:Go.Ab.Hw.gM 119 (au 134) 5 (au 135) a0 a1 a2 M Q) : au 117 [a0,a1,a2] M Q:=aX (fn:=Tryz.f117) h
theorem lg (h:Go.Ab.Hw.fU a0 M Q) : au 123 [a0] M Q:=aX (fn:=Tryz.f123) h
theorem kQ (h:Go.Ab.Vl.iT (GL Tryz.prog 140) a0 a1 M Q) : au 131 [a0,a1] M Q:=aX (fn:=Tryz.f131) h
theorem oz (h:Go.Ab.Hw.iQ a0 M Q) : au 134 [a0] M Q:=aX (fn:=Tryz.f134) h
end Go.Proofs.YtmjcgbaacndblaaGreatDoor
namespace Go.Proofs
open Go.RowKit Go.Shelf
def Tryz.lays185_ren:Go.Shelf.Ren:=⟨fun | 185=>78 | 187=>97 | 115=>98 | 253=>99 | 224=>100 | 254=>101 | 255=>125 | 291=>126 | n=>n,fun | 37=>24 | 3=>3 | 4=>4 | 0=>0 | 5=>5 | 46=>60 | 9=>9 | 146=>157 | 51=>153 | n=>n,fun | 1=>0 | n=>n⟩
theorem Tryz.lays185:Go.Proofs.Lays.n185 Tryz.prog Tryz.lays185_ren where
 mixed:=by kernel_rfl
 f115:=Tryz.func98.trans (congrArg some (by kernel_rfl))
 f185:=Tryz.func78.trans (congrArg some (by kernel_rfl))
 f187:=Tryz.func97.trans (congrArg some (by kernel_rfl))
 f224:=Tryz.func100.trans (congrArg some (by kernel_rfl))
 f253:=Tryz.func99.trans (congrArg some (by kernel_rfl))
 f254:=Tryz.func101.trans (congrArg some (by kernel_rfl))
 f255:=Tryz.func125.trans (congrArg some (by kernel_rfl))
 f291:=Tryz.func126.trans (congrArg some (by kernel_rfl))
 t0:=Tryz.underlying0
 a0:=Tryz.isAgg0
 z0:=Tryz.sizeOf0
 v0:=Tryz.zeroValue0
 t3:=Tryz.underlying3
 a3:=Tryz.isAgg3
 z3:=Tryz.sizeOf3
 v3:=Tryz.zeroValue3
 t4:=Tryz.underlying4
 a4:=Tryz.isAgg4
 z4:=Tryz.sizeOf4
 v4:=Tryz.zeroValue4
 t5:=Tryz.underlying5
 a5:=Tryz.isAgg5
 z5:=Tryz.sizeOf5
 v5:=Tryz.zeroValue5
 t9:=Tryz.underlying9
 a9:=Tryz.isAgg9
 z9:=Tryz.sizeOf9
 v9:=Tryz.zeroValue9
 t37:=Tryz.underlying24
 a37:=Tryz.isAgg24
 z37:=Tryz.sizeOf24
 v37:=Tryz.zeroValue24
 t46:=Tryz.underlying60
 a46:=Tryz.isAgg60
 z46:=Tryz.sizeOf60
 v46:=Tryz.zeroValue60
 t51:=Tryz.underlying153
 a51:=Tryz.isAgg153
 z51:=Tryz.sizeOf153
 v51:=Tryz.zeroValue153
 t146:=Tryz.underlying157
 a146:=Tryz.isAgg157
 z146:=Tryz.sizeOf157
 v146:=Tryz.zeroValue157
 g1:=by kernel_rfl
def Tryz.lays146_ren:Go.Shelf.Ren:=⟨fun | 146=>27 | 221=>58 | 268=>81 | 138=>82 | 143=>83 | 195=>110 | 197=>111 | 218=>112 | 219=>113 | 260=>130 | 217=>131 | 225=>132 | 224=>100 | 267=>133 | 266=>140 | 314=>141 | n=>n,fun | 9=>9 | 31=>64 | 3=>3 | 4=>4 | 0=>0 | 105=>141 | 21=>21 | 5=>5 | 46=>60 | 119=>167 | 139=>170 | 138=>169 | 146=>157 | 51=>153 | n=>n,fun | 1=>0 | 3=>4 | 4=>5 | n=>n⟩
theorem Tryz.lays146:Go.Proofs.Lays.n146 Tryz.prog Tryz.lays146_ren where
 mixed:=by kernel_rfl
 f138:=Tryz.func82.trans (congrArg some (by kernel_rfl))
 f143:=Tryz.func83.trans (congrArg some (by kernel_rfl))
 f146:=Tryz.func27.trans (congrArg some (by kernel_rfl))
 f195:=Tryz.func110.trans (congrArg some (by kernel_rfl))
 f197:=Tryz.func111.trans (congrArg some (by kernel_rfl))
 f217:=Tryz.func131.trans (congrArg some (by kernel_rfl))
 f218:=Tryz.func112.trans (congrArg some (by kernel_rfl))
 f219:=Tryz.func113.trans (congrArg some (by kernel_rfl))
 f221:=Tryz.func58.trans (congrArg some (by kernel_rfl))
 f224:=Tryz.func100.trans (congrArg some (by kernel_rfl))
 f225:=Tryz.func132.trans (congrArg some (by kernel_rfl))
 f260:=Tryz.func130.trans (congrArg some (by kernel_rfl))
 f266:=Tryz.func140.trans (congrArg some (by kernel_rfl))
 f267:=Tryz.func133.trans (congrArg some (by kernel_rfl))
 f268:=Tryz.func81.trans (congrArg some (by kernel_rfl))
 f314:=Tryz.func141.trans (congrArg some (by kernel_rfl))
 t0:=Tryz.underlying0
 a0:=Tryz.isAgg0
 z0:=Tryz.sizeOf0
 v0:=Tryz.zeroValue0
 t3:=Tryz.underlying3
 a3:=Tryz.isAgg3
 z3:=Tryz.sizeOf3
 v3:=Tryz.zeroValue3
 t4:=Tryz.underlying4
 a4:=Tryz.isAgg4
 z4:=Tryz.sizeOf4
 v4:=Tryz.zeroValue4
 t5:=Tryz.underlying5
 a5:=Tryz.isAgg5
 z5:=Tryz.sizeOf5
 v5:=Tryz.zeroValue5
 t9:=Tryz.underlying9
 a9:=Tryz.isAgg9
 z9:=Tryz.sizeOf9
 v9:=Tryz.zeroValue9
 t21:=Tryz.underlying21
 a21:=Tryz.isAgg21
 z21:=Tryz.sizeOf21
 v21:=Tryz.zeroValue21
 t31:=Tryz.underlying64
 a31:=Tryz.isAgg64
 z31:=Tryz.sizeOf64
 v31:=Tryz.zeroValue64
 t46:=Tryz.underlying60
 a46:=Tryz.isAgg60
 z46:=Tryz.sizeOf60
 v46:=Tryz.zeroValue60
 t51:=Tryz.underlying153
 a51:=Tryz.isAgg153
 z51:=Tryz.sizeOf153
 v51:=Tryz.zeroValue153
 t105:=Tryz.underlying141
 a105:=Tryz.isAgg141
 z105:=Tryz.sizeOf141
 v105:=Tryz.zeroValue141
 t119:=Tryz.underlying167
 a119:=Tryz.isAgg167
 z119:=Tryz.sizeOf167
 t138:=Tryz.underlying169
 a138:=Tryz.isAgg169
 z138:=Tryz.sizeOf169
 v138:=Tryz.zeroValue169
 t139:=Tryz.underlying170
 a139:=Tryz.isAgg170
 z139:=Tryz.sizeOf170
 v139:=Tryz.zeroValue170
 t146:=Tryz.underlying157
 a146:=Tryz.isAgg157
 z146:=Tryz.sizeOf157
 v146:=Tryz.zeroValue157
 g1:=by kernel_rfl
 g3:=by kernel_rfl
 g4:=by kernel_rfl
def Tryz.lays160_ren:Go.Shelf.Ren:=⟨fun | 160=>80 | 232=>104 | 231=>103 | 227=>105 | 234=>107 | 233=>106 | 236=>109 | 235=>108 | 228=>127 | 271=>129 | 151=>128 | 197=>111 | 120=>139 | 152=>138 | 260=>130 | 137=>142 | 119=>143 | 224=>100 | 225=>132 | 217=>131 | 266=>140 | n=>n,fun | 9=>9 | 4=>4 | 3=>3 | 5=>5 | 117=>136 | 116=>135 | 0=>0 | 124=>139 | 21=>21 | 105=>141 | 46=>60 | 119=>167 | 139=>170 | 138=>169 | n=>n,fun | 3=>4 | 4=>5 | n=>n⟩
theorem Tryz.lays160:Go.Proofs.Lays.n160 Tryz.prog Tryz.lays160_ren where
 mixed:=by kernel_rfl
 f119:=Tryz.func143.trans (congrArg some (by kernel_rfl))
 f120:=Tryz.func139.trans (congrArg some (by kernel_rfl))
 f137:=Tryz.func142.trans (congrArg some (by kernel_rfl))
 f151:=Tryz.func128.trans (congrArg some (by kernel_rfl))
 f152:=Tryz.func138.trans (congrArg some (by kernel_rfl))
 f160:=Tryz.func80.trans (congrArg some (by kernel_rfl))
 f197:=Tryz.func111.trans (congrArg some (by kernel_rfl))
 f217:=Tryz.func131.trans (congrArg some (by kernel_rfl))
 f224:=Tryz.func100.trans (congrArg some (by kernel_rfl))
 f225:=Tryz.func132.trans (congrArg some (by kernel_rfl))
 f227:=Tryz.func105.trans (congrArg some (by kernel_rfl))
 f228:=Tryz.func127.trans (congrArg some (by kernel_rfl))
 f231:=Tryz.func103.trans (congrArg some (by kernel_rfl))
 f232:=Tryz.func104.trans (congrArg some (by kernel_rfl))
 f233:=Tryz.func106.trans (congrArg some (by kernel_rfl))
 f234:=Tryz.func107.trans (congrArg some (by kernel_rfl))
 f235:=Tryz.func108.trans (congrArg some (by kernel_rfl))
 f236:=Tryz.func109.trans (congrArg some (by kernel_rfl))
 f260:=Tryz.func130.trans (congrArg some (by kernel_rfl))
 f266:=Tryz.func140.trans (congrArg some (by kernel_rfl))
 f271:=Tryz.func129.trans (congrArg some (by kernel_rfl))
 t0:=Tryz.underlying0
 a0:=Tryz.isAgg0
 z0:=Tryz.sizeOf0
 v0:=Tryz.zeroValue0
 t3:=Tryz.underlying3
 a3:=Tryz.isAgg3
 z3:=Tryz.sizeOf3
 v3:=Tryz.zeroValue3
 t4:=Tryz.underlying4
 a4:=Tryz.isAgg4
 z4:=Tryz.sizeOf4
 v4:=Tryz.zeroValue4
 t5:=Tryz.underlying5
 a5:=Tryz.isAgg5
 z5:=Tryz.sizeOf5
 v5:=Tryz.zeroValue5
 t9:=Tryz.underlying9
 a9:=Tryz.isAgg9
 z9:=Tryz.sizeOf9
 v9:=Tryz.zeroValue9
 t21:=Tryz.underlying21
 a21:=Tryz.isAgg21
 z21:=Tryz.sizeOf21
 v21:=Tryz.zeroValue21
 t46:=Tryz.underlying60
 a46:=Tryz.isAgg60
 z46:=Tryz.sizeOf60
 v46:=Tryz.zeroValue60
 t105:=Tryz.underlying141
 a105:=Tryz.isAgg141
 z105:=Tryz.sizeOf141
 v105:=Tryz.zeroValue141
 t116:=Tryz.underlying135
 a116:=Tryz.isAgg135
 z116:=Tryz.sizeOf135
 t117:=Tryz.underlying136
 a117:=Tryz.isAgg136
 z117:=Tryz.sizeOf136
 v117:=Tryz.zeroValue136
 t119:=Tryz.underlying167
 a119:=Tryz.isAgg167
 z119:=Tryz.sizeOf167
 t124:=Tryz.underlying139
 a124:=Tryz.isAgg139
 z124:=Tryz.sizeOf139
 v124:=Tryz.zeroValue139
 t138:=Tryz.underlying169
 a138:=Tryz.isAgg169
 z138:=Tryz.sizeOf169
 v138:=Tryz.zeroValue169
 t139:=Tryz.underlying170
 a139:=Tryz.isAgg170
 z139:=Tryz.sizeOf170
 v139:=Tryz.zeroValue170
 g3:=by kernel_rfl
 g4:=by kernel_rfl
def Tryz.lays172_ren:Go.Shelf.Ren:=⟨fun | 172=>40 | 244=>71 | 245=>72 | 247=>88 | 279=>89 | 280=>90 | 281=>91 | 282=>92 | 287=>117 | 316=>118 | 171=>34 | 205=>119 | 321=>134 | 322=>135 | 243=>69 | 246=>76 | 283=>93 | 284=>94 | 285=>95 | 286=>96 | 129=>121 | 317=>120 | 318=>122 | 319=>123 | 320=>124 | 337=>136 | 338=>137 | n=>n,fun | 9=>9 | 3=>3 | 75=>77 | 76=>78 | 4=>4 | 5=>5 | 167=>119 | 37=>24 | 0=>0 | 85=>120 | 2=>2 | 168=>122 | 53=>126 | 175=>146 | 46=>60 | 210=>149 | 127=>161 | 145=>164 | 143=>162 | 21=>21 | 171=>125 | 173=>129 | 212=>152 | 51=>153 | 20=>20 | 213=>154 | 232=>172 | 233=>173 | 80=>175 | n=>n,fun | 15=>1 | 16=>2 | 17=>3 | 18=>6 | 19=>7 | n=>n⟩
theorem Tryz.lays172:Go.Proofs.Lays.n172 Tryz.prog Tryz.lays172_ren where
 mixed:=by kernel_rfl
 f129:=Tryz.func121.trans (congrArg some (by kernel_rfl))
 f171:=Tryz.func34.trans (congrArg some (by kernel_rfl))
 f172:=Tryz.func40.trans (congrArg some (by kernel_rfl))
 f205:=Tryz.func119.trans (congrArg some (by kernel_rfl))
 f243:=Tryz.func69.trans (congrArg some (by kernel_rfl))
 f244:=Tryz.func71.trans (congrArg some (by kernel_rfl))
 f245:=Tryz.func72.trans (congrArg some (by kernel_rfl))
 f246:=Tryz.func76.trans (congrArg some (by kernel_rfl))
 f247:=Tryz.func88.trans (congrArg some (by kernel_rfl))
 f279:=Tryz.func89.trans (congrArg some (by kernel_rfl))
 f280:=Tryz.func90.trans (congrArg some (by kernel_rfl))
 f281:=Tryz.func91.trans (congrArg some (by kernel_rfl))
 f282:=Tryz.func92.trans (congrArg some (by kernel_rfl))
 f283:=Tryz.func93.trans (congrArg some (by kernel_rfl))
 f284:=Tryz.func94.trans (congrArg some (by kernel_rfl))
 f285:=Tryz.func95.trans (congrArg some (by kernel_rfl))
 f286:=Tryz.func96.trans (congrArg some (by kernel_rfl))
 f287:=Tryz.func117.trans (congrArg some (by kernel_rfl))
 f316:=Tryz.func118.trans (congrArg some (by kernel_rfl))
 f317:=Tryz.func120.trans (congrArg some (by kernel_rfl))
 f318:=Tryz.func122.trans (congrArg some (by kernel_rfl))
 f319:=Tryz.func123.trans (congrArg some (by kernel_rfl))
 f320:=Tryz.func124.trans (congrArg some (by kernel_rfl))
 f321:=Tryz.func134.trans (congrArg some (by kernel_rfl))
 f322:=Tryz.func135.trans (congrArg some (by kernel_rfl))
 f337:=Tryz.func136.trans (congrArg some (by kernel_rfl))
 f338:=Tryz.func137.trans (congrArg some (by kernel_rfl))
 t0:=Tryz.underlying0
 a0:=Tryz.isAgg0
 z0:=Tryz.sizeOf0
 v0:=Tryz.zeroValue0
 t2:=Tryz.underlying2
 a2:=Tryz.isAgg2
 z2:=Tryz.sizeOf2
 v2:=Tryz.zeroValue2
 t3:=Tryz.underlying3
 a3:=Tryz.isAgg3
 z3:=Tryz.sizeOf3
 v3:=Tryz.zeroValue3
 t4:=Tryz.underlying4
 a4:=Tryz.isAgg4
 z4:=Tryz.sizeOf4
 v4:=Tryz.zeroValue4
 t5:=Tryz.underlying5
 a5:=Tryz.isAgg5
 z5:=Tryz.sizeOf5
 v5:=Tryz.zeroValue5
 t9:=Tryz.underlying9
 a9:=Tryz.isAgg9
 z9:=Tryz.sizeOf9
 v9:=Tryz.zeroValue9
 t20:=Tryz.underlying20
 a20:=Tryz.isAgg20
 z20:=Tryz.sizeOf20
 v20:=Tryz.zeroValue20
 t21:=Tryz.underlying21
 a21:=Tryz.isAgg21
 z21:=Tryz.sizeOf21
 v21:=Tryz.zeroValue21
 t37:=Tryz.underlying24
 a37:=Tryz.isAgg24
 z37:=Tryz.sizeOf24
 v37:=Tryz.zeroValue24
 t46:=Tryz.underlying60
 a46:=Tryz.isAgg60
 z46:=Tryz.sizeOf60
 v46:=Tryz.zeroValue60
 t51:=Tryz.underlying153
 a51:=Tryz.isAgg153
 z51:=Tryz.sizeOf153
 v51:=Tryz.zeroValue153
 t53:=Tryz.underlying126
 a53:=Tryz.isAgg126
 z53:=Tryz.sizeOf126
 v53:=Tryz.zeroValue126
 t75:=Tryz.underlying77
 a75:=Tryz.isAgg77
 z75:=Tryz.sizeOf77
 v75:=Tryz.zeroValue77
 t76:=Tryz.underlying78
 a76:=Tryz.isAgg78
 z76:=Tryz.sizeOf78
 v76:=Tryz.zeroValue78
 t85:=Tryz.underlying120
 a85:=Tryz.isAgg120
 z85:=Tryz.sizeOf120
 v85:=Tryz.zeroValue120
 t127:=Tryz.underlying161
 a127:=Tryz.isAgg161
 z127:=Tryz.sizeOf161
 v127:=Tryz.zeroValue161
 t143:=Tryz.underlying162
 a143:=Tryz.isAgg162
 z143:=Tryz.sizeOf162
 v143:=Tryz.zeroValue162
 t145:=Tryz.underlying164
 a145:=Tryz.isAgg164
 z145:=Tryz.sizeOf164
 v145:=Tryz.zeroValue164
 t167:=Tryz.underlying119
 a167:=Tryz.isAgg119
 z167:=Tryz.sizeOf119
 v167:=Tryz.zeroValue119
 t168:=Tryz.underlying122
 a168:=Tryz.isAgg122
 z168:=Tryz.sizeOf122
 v168:=Tryz.zeroValue122
 t171:=Tryz.underlying125
 a171:=Tryz.isAgg125
 z171:=Tryz.sizeOf125
 v171:=Tryz.zeroValue125
 t173:=Tryz.underlying129
 a173:=Tryz.isAgg129
 z173:=Tryz.sizeOf129
 v173:=Tryz.zeroValue129
 t175:=Tryz.underlying146
 a175:=Tryz.isAgg146
 z175:=Tryz.sizeOf146
 v175:=Tryz.zeroValue146
 t210:=Tryz.underlying149
 a210:=Tryz.isAgg149
 z210:=Tryz.sizeOf149
 v210:=Tryz.zeroValue149
 t212:=Tryz.underlying152
 a212:=Tryz.isAgg152
 z212:=Tryz.sizeOf152
 v212:=Tryz.zeroValue152
 t213:=Tryz.underlying154
 a213:=Tryz.isAgg154
 z213:=Tryz.sizeOf154
 t232:=Tryz.underlying172
 a232:=Tryz.isAgg172
 z232:=Tryz.sizeOf172
 v232:=Tryz.zeroValue172
 t233:=Tryz.underlying173
 a233:=Tryz.isAgg173
 z233:=Tryz.sizeOf173
 v233:=Tryz.zeroValue173
 g15:=by kernel_rfl
 g16:=by kernel_rfl
 g17:=by kernel_rfl
 g18:=by kernel_rfl
 g19:=by kernel_rfl
def Tryz.laysM171_ren:Go.Shelf.Ren:=⟨fun | 171=>34 | 243=>69 | 246=>76 | 283=>93 | 284=>94 | 285=>95 | 286=>96 | 129=>121 | 317=>120 | 318=>122 | 319=>123 | 320=>124 | 337=>136 | 338=>137 | n=>n,fun | 3=>3 | 9=>9 | 2=>2 | 4=>4 | 171=>125 | 0=>0 | 53=>126 | 37=>24 | 5=>5 | 173=>129 | 212=>152 | 51=>153 | 20=>20 | 213=>154 | 46=>60 | 232=>172 | 233=>173 | n=>n,fun | 17=>3 | 18=>6 | 19=>7 | n=>n⟩
theorem Tryz.laysM171:Go.Proofs.LaysM.n171 Tryz.prog Tryz.laysM171_ren where
 mixed:=by kernel_rfl
 f129:=Tryz.func121.trans (congrArg some (by kernel_rfl))
 f171:=Tryz.func34.trans (congrArg some (by kernel_rfl))
 f243:=Tryz.func69.trans (congrArg some (by kernel_rfl))
 f246:=Tryz.func76.trans (congrArg some (by kernel_rfl))
 f283:=Tryz.func93.trans (congrArg some (by kernel_rfl))
 f284:=Tryz.func94.trans (congrArg some (by kernel_rfl))
 f285:=Tryz.func95.trans (congrArg some (by kernel_rfl))
 f286:=Tryz.func96.trans (congrArg some (by kernel_rfl))
 f317:=Tryz.func120.trans (congrArg some (by kernel_rfl))
 f318:=Tryz.func122.trans (congrArg some (by kernel_rfl))
 f319:=Tryz.func123.trans (congrArg some (by kernel_rfl))
 f320:=Tryz.func124.trans (congrArg some (by kernel_rfl))
 f337:=Tryz.func136.trans (congrArg some (by kernel_rfl))
 f338:=Tryz.func137.trans (congrArg some (by kernel_rfl))
 t0:=Tryz.underlying0
 a0:=Tryz.isAgg0
 z0:=Tryz.sizeOf0
 v0:=Tryz.zeroValue0
 t2:=Tryz.underlying2
 a2:=Tryz.isAgg2
 z2:=Tryz.sizeOf2
 v2:=Tryz.zeroValue2
 t3:=Tryz.underlying3
 a3:=Tryz.isAgg3
 z3:=Tryz.sizeOf3
 v3:=Tryz.zeroValue3
 t4:=Tryz.underlying4
 a4:=Tryz.isAgg4
 z4:=Tryz.sizeOf4
 v4:=Tryz.zeroValue4
 t5:=Tryz.underlying5
 a5:=Tryz.isAgg5
 z5:=Tryz.sizeOf5
 v5:=Tryz.zeroValue5
 t9:=Tryz.underlying9
 a9:=Tryz.isAgg9
 z9:=Tryz.sizeOf9
 v9:=Tryz.zeroValue9
 t20:=Tryz.underlying20
 a20:=Tryz.isAgg20
 z20:=Tryz.sizeOf20
 v20:=Tryz.zeroValue20
 t37:=Tryz.underlying24
 a37:=Tryz.isAgg24
 z37:=Tryz.sizeOf24
 v37:=Tryz.zeroValue24
 t46:=Tryz.underlying60
 a46:=Tryz.isAgg60
 z46:=Tryz.sizeOf60
 v46:=Tryz.zeroValue60
 t51:=Tryz.underlying153
 a51:=Tryz.isAgg153
 z51:=Tryz.sizeOf153
 v51:=Tryz.zeroValue153
 t53:=Tryz.underlying126
 a53:=Tryz.isAgg126
 z53:=Tryz.sizeOf126
 v53:=Tryz.zeroValue126
 t171:=Tryz.underlying125
 a171:=Tryz.isAgg125
 z171:=Tryz.sizeOf125
 v171:=Tryz.zeroValue125
 t173:=Tryz.underlying129
 a173:=Tryz.isAgg129
 z173:=Tryz.sizeOf129
 v173:=Tryz.zeroValue129
 t212:=Tryz.underlying152
 a212:=Tryz.isAgg152
 z212:=Tryz.sizeOf152
 v212:=Tryz.zeroValue152
 t213:=Tryz.underlying154
 a213:=Tryz.isAgg154
 z213:=Tryz.sizeOf154
 t232:=Tryz.underlying172
 a232:=Tryz.isAgg172
 z232:=Tryz.sizeOf172
 v232:=Tryz.zeroValue172
 t233:=Tryz.underlying173
 a233:=Tryz.isAgg173
 z233:=Tryz.sizeOf173
 v233:=Tryz.zeroValue173
 g17:=by kernel_rfl
 g18:=by kernel_rfl
 g19:=by kernel_rfl
 i0:=by kernel_rfl
 i2:=by kernel_rfl
 i3:=by kernel_rfl
 i4:=by kernel_rfl
 i5:=by kernel_rfl
 i9:=by kernel_rfl
 i20:=by kernel_rfl
 i37:=by kernel_rfl
 i46:=by kernel_rfl
 i51:=by kernel_rfl
 i53:=by kernel_rfl
 i171:=by kernel_rfl
 i173:=by kernel_rfl
 i212:=by kernel_rfl
 i232:=by kernel_rfl
 i233:=by kernel_rfl
 m17:=by kernel_rfl
 m18:=by kernel_rfl
 m19:=by kernel_rfl
def Tryz.lays727_ren:Go.Shelf.Ren:=⟨fun | 27=>124 | 28=>136 | 29=>137 | n=>n,fun | 25=>60 | 3=>3 | 27=>153 | 22=>126 | 4=>4 | 53=>172 | 0=>0 | 5=>5 | 54=>173 | n=>n,fun | 0=>6 | 1=>7 | n=>n⟩
theorem Tryz.lays727:Go.Proofs.Lays7.n27 Tryz.prog Tryz.lays727_ren where
 mixed:=by kernel_rfl
 f27:=Tryz.func124.trans (congrArg some (by kernel_rfl))
 f28:=Tryz.func136.trans (congrArg some (by kernel_rfl))
 f29:=Tryz.func137.trans (congrArg some (by kernel_rfl))
 t0:=Tryz.underlying0
 a0:=Tryz.isAgg0
 z0:=Tryz.sizeOf0
 v0:=Tryz.zeroValue0
 i0:=by kernel_rfl
 t3:=Tryz.underlying3
 a3:=Tryz.isAgg3
 z3:=Tryz.sizeOf3
 v3:=Tryz.zeroValue3
 i3:=by kernel_rfl
 t4:=Tryz.underlying4
 a4:=Tryz.isAgg4
 z4:=Tryz.sizeOf4
 v4:=Tryz.zeroValue4
 i4:=by kernel_rfl
 t5:=Tryz.underlying5
 a5:=Tryz.isAgg5
 z5:=Tryz.sizeOf5
 v5:=Tryz.zeroValue5
 i5:=by kernel_rfl
 t22:=Tryz.underlying126
 a22:=Tryz.isAgg126
 z22:=Tryz.sizeOf126
 v22:=Tryz.zeroValue126
 i22:=by kernel_rfl
 t25:=Tryz.underlying60
 a25:=Tryz.isAgg60
 z25:=Tryz.sizeOf60
 v25:=Tryz.zeroValue60
 i25:=by kernel_rfl
 t27:=Tryz.underlying153
 a27:=Tryz.isAgg153
 z27:=Tryz.sizeOf153
 v27:=Tryz.zeroValue153
 i27:=by kernel_rfl
 t53:=Tryz.underlying172
 a53:=Tryz.isAgg172
 z53:=Tryz.sizeOf172
 v53:=Tryz.zeroValue172
 i53:=by kernel_rfl
 t54:=Tryz.underlying173
 a54:=Tryz.isAgg173
 z54:=Tryz.sizeOf173
 g0:=by kernel_rfl
 g1:=by kernel_rfl
end Go.Proofs
namespace Go.Ab.Hw
open Go Go.Ab Go.Ab.Sm Go.RowKit Go.Proofs
open Go.Proofs.YtmjcgbaacndblaaGreatDoor
open Go.Ab.Vl (iD)
abbrev LQ:List Int:=Lib.deBruijn64tab.map fun(n:Nat)=>(n:Int)
structure Iv (w:World) : Prop where
 mx:∃ m,w.cell? ⟨0,0,none⟩=some (.int .i64 m)
 p10:Lib.TabIs Tryz.prog w "internal/strconv.uint64pow10" .u64 Lib.pow10Tab
 db:Lib.TabIs Tryz.prog w "math/bits.deBruijn64tab" .u8 LQ
theorem NI (w:World) (q:Nat) : Below w.heap.size w (w.drewN q):=⟨rfl,rfl,rfl,Nat.le_refl _,fun _ _=>rfl⟩
theorem Ox (w:World) (q:Nat) (os:Array Obj) : Below w.heap.size w (Go.Sort.grow (w.drewN q) os) :=
 ⟨rfl,rfl,rfl,by first | (simp[Go.Sort.grow]; done) | (simp[Go.Sort.grow]; omega),fun i hi=>by
  show((w.drewN q).heap++os)[i]?=_
  rw[Array.getElem?_append_left (by show i<w.heap.size; omega)]
  rfl⟩
theorem TL {w:World} {b o:Nat} {v:Value} (h:w.cell? ⟨b,o,none⟩=some v) : b<w.heap.size:=by
 unfold World.cell? at h
 cases hb:w.heap[b]? with
 | none=>simp[hb] at h
 | some x=>exact(Array.getElem?_eq_some_iff.1 hb).1
theorem PI {w w' : World} {b:Nat} (h:w'.heap[b]?=w.heap[b]?) (o:Nat) : w'.cell? ⟨b,o,none⟩=w.cell? ⟨b,o,none⟩:=by
 unfold World.cell?
 simp only[h]
theorem varLt {w:World} {n:String} {g:Nat} {vs:Array Value} (hg:Tryz.prog.globalNamed n=some g) (h:w.var? Tryz.prog n=some vs) : g<w.heap.size:=by
 unfold World.var? at h
 rw[hg] at h
 simp only[Option.bind_some] at h
 cases hb:w.heap[g]? with
 | none=>rw[hb] at h; cases h
 | some x=>exact(Array.getElem?_eq_some_iff.1 hb).1
theorem KA {w w' : World} {n:String} {g:Nat} (hg:Tryz.prog.globalNamed n=some g) (h:w'.heap[g]?=w.heap[g]?) : w'.var? Tryz.prog n=w.var? Tryz.prog n:=by
 unfold World.var?
 rw[hg]
 simp only[Option.bind_some,h]
theorem g3:Tryz.prog.globalNamed "internal/strconv.uint64pow10" = some 3:=by kernel_rfl
theorem g7:Tryz.prog.globalNamed "math/bits.deBruijn64tab" = some 7:=by kernel_rfl
def base (w:World) (hi:Iv w) : Base where
 n:=w.heap.size
 inv w':=Iv w'
 low u u' hlow hu:=by
  obtain⟨m0,hm0⟩:=hi.mx
  obtain⟨m,hm⟩:=hu.mx
  refine⟨⟨m,(PI (hlow 0 (TL hm0)) 0).trans hm⟩, ?_, ?_⟩
  ·exact(KA g3 (hlow 3 (varLt g3 hi.p10))).trans hu.p10
  ·exact(KA g7 (hlow 7 (varLt g7 hi.db))).trans hu.db
theorem Iv.tab {w:World} (h:Iv w) : TabAt 7 Lib.deBruijn64tab w:=fun j hj=>by
 have:=h.db.cell g7 j (by simpa using hj)
 rw[this]
 congr 2
 simp only[LQ,List.getD_eq_getElem?_getD,List.getElem?_map,List.getElem?_eq_getElem hj]
 rfl
section
variable {w0:World} {hi:Iv w0}
theorem ME {M:RM} {ρ:Ren} {w:World} (hM:M.base=base w0 hi) (hw:bP Tryz.prog ρ M w) : Iv w:=by
 have:=bP.inv hw
 rw[hM] at this
 exact this
theorem OW {M:RM} {s:List UInt8} {x:UInt8} : Ku Tryz.prog 140 [St s,By x] M (N .i64 (Lib.indexByte s x)):=by
 intro ρ w us hus hw
 cases hus with
 | cons _ u1 _ us r1 hus =>
 cases hus with
 | cons _ u2 _ us r2 hus =>
 cases hus
 obtain⟨rfl,_⟩:=aD r1
 obtain⟨rfl,_⟩:=aD r2
 refine⟨.int .i64 (Lib.indexByte s x), ?_,.sc _ rfl⟩
 refine xX (fn:=Tryz.f140) (s:=Extern.BytealgIndexByte.indexByte) (by kernel_rfl) (V4.ng 140 Tryz.f140 (by kernel_rfl)) (by kernel_rfl) (by kernel_rfl) (by kernel_rfl) (fun w=>?_) w
 rw[Lib.run_indexByteString]
 congr 2
 simp
theorem UE:iD (au 131):=by
 intro M s x Q hQ
 refine kQ ?_
 unfold Go.Ab.Vl.iT
 exact .inr (.inr (.inr (.inl ⟨_,OW,hQ⟩)))
theorem Wo {M:RM} {Q:ah} (hB:M.base=base w0 hi) (hQ:Q (N .i64 4) M) : au 124 [N .u64 16] M Q:=by
 refine fe.r9 (v:=N .i64 4) ⟨Tryz.f124,_,Tryz.func124,rfl⟩ (fun ρ w us hus hw=>?_) hQ
 cases hus with
 | cons _ u1 _ us r1 hus =>
 cases hus
 obtain⟨rfl,_⟩:=aD r1
 refine(Any7.bits_TrailingZeros Tryz.lays727 16 (by decide) w (fun _=>(ME hB hw).tab)).mono fun e w' ⟨he,hb⟩=>⟨_,he,by rw[hb]; exact Below.refl _ _, ?_⟩
 exact .sc _ rfl
theorem NZ:GJ (base w0 hi) (au 80):=by
 intro M s Q hB hl hQ
 cases s with
 | nil =>
   refine xV ?_
   unfold Go.Ab.Vl.wQ
   simp only[fu,bX]
   rw[show(([] : List UInt8) == [])=true from rfl]
   simp only[bS,bU,bW]
   exact hQ M (ae.refl _ _)
 | cons x s =>
   have hasc:∀ (j:Nat) b,(⟨⟨[32,9]⟩⟩ : ByteArray).data.toList[j]?=some b→b.toNat<128:=fun j b h=>by
    have hm:b∈([32,9] : List UInt8):=List.mem_of_getElem? h
    simp at hm
    rcases hm with rfl | rfl <;> decide
   refine fe.r9 (v:=St (trimB (x :: s))) ⟨Tryz.f80,_,Tryz.func80,rfl⟩ (fun ρ w us hus hw=>?_) (hQ M (ae.refl _ _))
   cases hus with
   | cons _ u1 _ us r1 hus =>
   cases hus with
   | cons _ u2 _ us r2 hus =>
   cases hus
   obtain⟨rfl,_⟩:=aD r1
   obtain⟨rfl,_⟩:=aD r2
   refine(Any.strings_Trim_set Tryz.lays160 Tryz.zeroValue135 (by kernel_rfl) ⟨⟨x :: s⟩⟩ ⟨⟨[32,9]⟩⟩ w (by decide) (by show 0<(x :: s).length; simp) (by show(x :: s).length≤_; omega) (by decide) hasc).mono fun e w' ⟨he,q,hb⟩=>⟨_,he, ?_,.sc _ rfl⟩
   rw[hb]
   have h1:=(Below.refl w.heap.size w).alloc (Nat.le_refl _) (.cells (Lib.setCells [32,9]) (Tryz.lays160_ren.t 116))
   have h2:=h1.alloc h1.size (.cells (Lib.setCells [32,9]) (Tryz.lays160_ren.t 116))
   exact⟨h2.os,h2.tape,h2.output,h2.size,h2.block⟩
theorem zZ:∀ (s:Str) (acc:Nat),s.all fo=true→Lib.decFrom acc s=some (s.foldl (fun n x=>n * 10 + (x.toNat - 48)) acc)
 | [],acc,_=>rfl
 | x :: s,acc,h=>by
   simp only[List.all_cons,Bool.and_eq_true] at h
   have hx:=h.1
   unfold fo at hx
   simp only[Bool.and_eq_true,decide_eq_true_eq] at hx
   have hd:Lib.digitVal x=some (x.toNat - 48):=by unfold Lib.digitVal; rw[if_pos (by omega)]
   rw[Lib.decFrom,hd]
   exact zZ s _ h.2
theorem NH:Lp (au 40):=by
 intro M s Q h1 h9 hd hQ
 have ha:Lib.atoi s=some ((gy s:Nat) : Int):=by
  cases s with
  | nil=>simp at h1
  | cons x s =>
    have hx:fo x=true:=by simp only[List.all_cons,Bool.and_eq_true] at hd; exact hd.1
    unfold fo at hx
    simp only[Bool.and_eq_true,decide_eq_true_eq] at hx
    have e1:(x == 45)=false:=by
     cases h:x == 45
     ·rfl
     ·have:x=45:=by simpa using h
      subst this; simp at hx
    have e2:(x == 43)=false:=by
     cases h:x == 43
     ·rfl
     ·have:x=43:=by simpa using h
      subst this; simp at hx
    unfold Lib.atoi
    simp only[e1,e2,Bool.false_eq_true,if_false]
    unfold Lib.decNat
    simp only[List.isEmpty_cons,Bool.false_eq_true,if_false,zZ _ _ hd,Option.map_some]
    rfl
 refine fe.r9 (v:=.tup [N .i64 (gy s:Int),.sc .nilIface]) ⟨Tryz.f40,_,Tryz.func40,rfl⟩ (fun ρ w us hus hw=>?_) (hQ M (ae.refl _ _))
 cases hus with
 | cons _ u1 _ us r1 hus =>
 cases hus
 obtain⟨rfl,_⟩:=aD r1
 refine(Any.strconv_Atoi Tryz.lays172 ⟨⟨s⟩⟩ _ (by show s.length≤_; omega) ha w).mono fun e w' ⟨he,t,hb⟩=>⟨_,he, ?_,.tup _ _ (.cons _ _ _ _ (.sc _ rfl) (.cons _ _ _ _ (.sc _ rfl) .nil))⟩
 rw[hb]
 exact Lib.bytesWorld_below w _ t
theorem yT:∀ (f n:Nat),n<10 ^ f→1≤f→Lib.decDigits n=iP 10 f n
 | 0,n,h,h1=>by omega
 | f + 1,n,h,_=>by
   rw[Lib.decDigits]
   by_cases hn:n<10
   ·rw[dif_pos hn,l8 hn]
    unfold fC; rw[if_pos hn]
   ·rw[dif_neg hn,uh hn]
    have hf:1≤f:=by
     rcases Nat.eq_zero_or_pos f with e | e
     ·subst e; simp at h; omega
     ·exact e
    rw[yT f (n / 10) (by rw[Nat.pow_succ] at h; exact Nat.div_lt_of_lt_mul (by rw[Nat.mul_comm]; exact h)) hf]
    unfold fC
    rw[if_pos (Nat.mod_lt _ (by decide))]
theorem OB:MF (base w0 hi) (au 34):=by
 intro M n Q hB hn hQ
 refine fe.r9 (v:=St (eZ n)) ⟨Tryz.f34,_,Tryz.func34,rfl⟩ (fun ρ w us hus hw=>?_) (hQ M (ae.refl _ _))
 cases hus with
 | cons _ u1 _ us r1 hus =>
 cases hus
 obtain⟨rfl,_⟩:=aD r1
 refine(Any.strconv_Itoa Tryz.laysM171 (n:Int) (by omega) (by omega) w (ME hB hw).p10).mono fun e w' ⟨he,k,os,hb⟩=>⟨_,he, ?_, ?_⟩
 ·rw[hb]
  exact Ox w k os
 ·have:Lib.itoa (n:Int)=eZ n:=by
   unfold Lib.itoa eZ
   rw[if_neg (by omega),Int.toNat_natCast]
   exact yT 20 n (Nat.lt_of_lt_of_le hn (by decide)) (by decide)
  rw[this]
  exact .sc _ rfl
theorem KG {P:Program} {ρ:Ren} {M:RM} {w:World} {v:AV} {s:Str} {u:Value} (hw:bP P ρ M w) (hb:Bs M v s) (hv:ag ρ v u) :
  (u=.slice none 0 0∧s=[])∨∃ a c,u=.slice (some a) s.length c∧s.length≤c∧∀ i,i<s.length→w.cell? (a.add i)=some (.int .u8 ((s.map fun x=>(x.toNat:Int)).getD i 0)):=by
 obtain⟨hs,hc⟩:=hb
 unfold Sl at hs
 generalize hn:s.length=n at *
 generalize hcs:BY.row s=cs at *
 cases hs with
 | nil =>
   obtain⟨rfl,_⟩:=aD hv
   exact .inl ⟨rfl,List.length_eq_zero_iff.1 hn⟩
 | emp b =>
   cases hv with
   | emp _ a c=>exact .inr ⟨a,c,rfl,Nat.zero_le _,fun i hi=>absurd hi (Nat.not_lt_zero _)⟩
 | slc b o _ cap _ hlt hld =>
   obtain⟨i0,c,hb,hu⟩:=Ab.dU hv
   have hcap:n≤c:=by
    cases cap with
    | ex k =>
      have hk:n≤k:=hc
      cases hv with
      | gX _ _ _ _ j hj =>
        injection hu with _ _ h6
        omega
    | op e =>
      obtain⟨k,j,_,_,_,h4,h5⟩:=CX hv
      rw[hu] at h5
      injection h5 with _ _ h6
      omega
   subst hu
   refine .inr ⟨⟨i0.cb,i0.sh + o,none⟩,c,rfl,hcap,fun i hi=>?_⟩
   ·subst hcs
    have Xq:M.loads b o (n * 1)=some (BY.row s):=hld
    have h1:=uz Xq i 1 (by omega)
    have hi' : i<s.length:=by omega
    have e1:((BY.row s).drop i).take 1=[By s[i]]:=by
     have:=Enc.ED (E:=BY) hi'
     simpa [BY] using this
    rw[e1] at h1
    obtain⟨x,hx,hcell⟩:=Ao hw hb h1
    obtain⟨rfl,_⟩:=aD hx
    have ea:(⟨i0.cb,i0.sh + o,none⟩ : Addr).add i=⟨i0.cb,i0.sh + (o + i),none⟩:=by
     unfold Addr.add
     split
     ·rename_i e; subst e; rfl
     ·simp[Nat.add_assoc]
    rw[ea,hcell]
    simp[List.getD_eq_getElem?_getD,List.getElem?_eq_getElem hi']
theorem bytesOf_map (s:Str) : Lib.bytesOf (s.map fun x=>(x.toNat:Int))=s:=by
 unfold Lib.bytesOf
 rw[List.map_map]
 conv=>rhs; rw[← List.map_id s]
 apply List.map_congr_left
 intro x _
 simp
theorem Kr:Eb (base w0 hi) (au 78):=by
 intro M v w s Q hB hv hw hl hQ
 refine fe.r9 (v:=N .i64 (Lib.index s [13,10])) ⟨Tryz.f78,_,Tryz.func78,rfl⟩ (fun ρ W us hus hW=>?_) hQ
 cases hus with
 | cons _ u1 _ us r1 hus =>
 cases hus with
 | cons _ u2 _ us r2 hus =>
 cases hus
 obtain⟨m,hm⟩:=(ME hB hW).mx
 rcases KG hW hw r2 with⟨_,h⟩ | ⟨a2,c2,rfl,hc2,hx2⟩
 ·cases h
 rcases KG hW hv r1 with⟨rfl,rfl⟩ | ⟨a1,c1,rfl,hc1,hx1⟩
 ·refine(Any.bytes_Index_nil Tryz.lays185 (some a2) 2 c2 W (by decide) (fun h=>by cases h)).mono fun e w' ⟨he,hb⟩=>⟨_,he,by rw[hb]; exact Below.refl _ _, ?_⟩
  exact .sc _ rfl
 ·have hr:∀ (t:Str),∀ x∈t.map (fun x:UInt8=>(x.toNat:Int)),0≤x∧x<256:=fun t x hx=>by
   rw[List.mem_map] at hx
   obtain⟨y,_,rfl⟩:=hx
   have:=y.toNat_lt
   omega
  have:=Any.bytes_Index_at Tryz.lays185 a1 a2 s.length c1 2 c2 (s.map fun x=>(x.toNat:Int)) (([13,10] : Str).map fun x=>(x.toNat:Int)) m W (by simp) (by simp) (hr s) (hr _) hx1 hx2 hc1 (by omega) (by decide) hm
  rw[bytesOf_map,bytesOf_map] at this
  refine this.mono fun e w' ⟨he,q,hb⟩=>⟨_,he,by rw[hb]; exact(NI W q), ?_⟩
  exact .sc _ rfl
theorem NT (ρ' : Ren) : ∀ l:List ByteArray,aI ρ' (nY.row (l.map (·.data.toList))) (l.map Value.string)
 | []=>.nil
 | b :: l=>.cons _ _ _ _ (.sc _ (by rfl)) (NT ρ' l)
theorem Lm (s:Str) : s.count 32=Lib.countB ⟨⟨s⟩⟩ ⟨⟨[32]⟩⟩:=(Lib.count_one 32 s).symm
theorem Rv:JB (base w0 hi) 9 (au 27):=by
 intro M s Q hB hl hQ
 refine fe.SS (cs:=nY.row (words 32 s)) (n:=(words 32 s).length) ⟨Tryz.f27,_,Tryz.func27,rfl⟩ (by kernel_rfl) (nY.rW _) (by rw[Enc.gz]; simp[nY]) (fun ρ w us hus hw=>?_) (fun v M' o k=>hQ v M' (Own.mono o (Nat.le_refl _)) k)
 cases hus with
 | cons _ u1 _ us r1 hus =>
 cases hus with
 | cons _ u2 _ us r2 hus =>
 cases hus
 obtain⟨rfl,_⟩:=aD r1
 obtain⟨rfl,_⟩:=aD r2
 obtain⟨m,hm⟩:=(ME hB hw).mx
 refine(Any.strings_Split Tryz.lays146 (by kernel_rfl) ⟨⟨s⟩⟩ ⟨⟨[32]⟩⟩ m w (by show s.length<_; omega) hm (by decide)).mono fun e w' ⟨he,hb⟩=>?_
 have hd:(Lib.splitB ⟨⟨[32]⟩⟩ 0 (Lib.countB ⟨⟨s⟩⟩ ⟨⟨[32]⟩⟩) ⟨⟨s⟩⟩).map (·.data.toList)=words 32 s:=by
  rw[Lib.splitB_data]
  exact AB 32 _ s (Lm s)
 have hlen:(Lib.splitB ⟨⟨[32]⟩⟩ 0 (Lib.countB ⟨⟨s⟩⟩ ⟨⟨[32]⟩⟩) ⟨⟨s⟩⟩).length=Lib.countB ⟨⟨s⟩⟩ ⟨⟨[32]⟩⟩ + 1:=Lib.splitB_all ⟨⟨[32]⟩⟩ (by decide) 0 _ _ rfl
 generalize Lib.splitB ⟨⟨[32]⟩⟩ 0 (Lib.countB ⟨⟨s⟩⟩ ⟨⟨[32]⟩⟩) ⟨⟨s⟩⟩=l at *
 rw[← hlen] at he
 have hwl:(words 32 s).length=l.length:=by rw[← hd]; simp
 refine⟨_,l.map Value.string,he,⟨by simp[hwl],.inr ⟨w.heap.size,l.length,(l.map Value.string).toArray,by rw[hwl],Nat.le_refl _, ?_,Nat.le_of_eq hwl, ?_,by simp, ?_⟩⟩,fun ρ'=>?_, ?_⟩
 ·rw[hb]
  show(w.heap.push _)[w.heap.size]?=_
  rw[Array.getElem?_push_size]
  rfl
 ·have:=Lib.countB_le ⟨⟨[32]⟩⟩ (by decide) s.length ⟨⟨s⟩⟩ (Nat.le_refl _)
  have h2:maxLen=9223372036854775807:=rfl
  have h3:(⟨⟨s⟩⟩ : ByteArray).size=s.length:=rfl
  omega
 ·exact List.take_of_length_le (by simp[hwl])
 ·rw[← hd]
  exact NT ρ' l
 ·rw[hb]; exact(Below.refl _ _).alloc (Nat.le_refl _) _
end
end Go.Ab.Hw
namespace Go.Ab.Hw
open Go Go.Ab Go.Ab.Sm Go.RowKit Go.Proofs
open Go.Proofs.YtmjcgbaacndblaaGreatDoor
open Go.Ab.Vl (iD lZ)
section
variable {w0:World} {hi:Iv w0}
theorem E5:nN fo (au 38):=by
 intro M x Q hQ
 obtain⟨a0,e,h⟩:=Ll hQ
 cases e
 exact vL h
theorem Rs:nN jO (au 60):=by
 intro M x Q hQ
 obtain⟨a0,e,h⟩:=La hQ
 cases e
 exact vG h
theorem Nu:nN pz (au 62):=by
 intro M x Q hQ
 obtain⟨a0,e,h⟩:=Io hQ
 cases e
 exact ui h
theorem is32:nN p32 (au 39):=by
 intro M x Q hQ
 obtain⟨a0,e,h⟩:=Py hQ
 cases e
 exact mP h
theorem VN:nN mH (au 87):=by
 intro M x Q hQ
 obtain⟨a0,e,h⟩:=Pf hQ
 cases e
 exact pU h
theorem Ui:nN qg (au 86):=by
 intro M x Q hQ
 obtain⟨a0,e,h⟩:=LA E5 hQ
 cases e
 exact qx h
theorem U4:nN jZ (au 115):=by
 intro M x Q hQ
 obtain⟨a0,e,h⟩:=OD E5 hQ
 cases e
 exact uu h
theorem ND:mF fo (.fn (.func 38) [] []) (au 37):=by
 intro M s Q hl hQ
 obtain⟨a0,a1,e,h⟩:=nJ (T8:=5) (g:=38) (p:=fo) (cv:=au) E5 hl hQ
 cases e
 exact dY h
theorem Qe:mF jO (.fn (.func 60) [] []) (au 37):=by
 intro M s Q hl hQ
 obtain⟨a0,a1,e,h⟩:=nJ (T8:=5) (g:=60) (p:=jO) (cv:=au) Rs hl hQ
 cases e
 exact dY h
theorem SX:mF pz (.fn (.func 62) [] []) (au 37):=by
 intro M s Q hl hQ
 obtain⟨a0,a1,e,h⟩:=nJ (T8:=5) (g:=62) (p:=pz) (cv:=au) Nu hl hQ
 cases e
 exact dY h
theorem VO:mF p32 (.fn (.func 39) [] []) (au 37):=by
 intro M s Q hl hQ
 obtain⟨a0,a1,e,h⟩:=nJ (T8:=5) (g:=39) (p:=p32) (cv:=au) is32 hl hQ
 cases e
 exact dY h
theorem Ug:mF mH (.fn (.func 87) [] []) (au 37):=by
 intro M s Q hl hQ
 obtain⟨a0,a1,e,h⟩:=nJ (T8:=5) (g:=87) (p:=mH) (cv:=au) VN hl hQ
 cases e
 exact dY h
theorem Rn:mF qg (.fn (.func 86) [] []) (au 37):=by
 intro M s Q hl hQ
 obtain⟨a0,a1,e,h⟩:=nJ (T8:=5) (g:=86) (p:=qg) (cv:=au) Ui hl hQ
 cases e
 exact dY h
theorem TT:mF jZ (.fn (.func 115) [] []) (au 37):=by
 intro M s Q hl hQ
 obtain⟨a0,a1,e,h⟩:=nJ (T8:=5) (g:=115) (p:=jZ) (cv:=au) U4 hl hQ
 cases e
 exact dY h
theorem wV:vK (au 64):=by
 intro M s Q hl hQ
 obtain⟨a0,e,h⟩:=DL (T8:=5) hl hQ
 cases e
 exact vU h
theorem yI:rV (au 59):=by
 intro M s a b Q hQ
 obtain⟨a0,a1,a2,e,h⟩:=Kb hQ
 cases e
 exact uq h
theorem QK:fD bR (au 67):=by
 intro M s Q hl hQ
 obtain⟨a0,e,h⟩:=yQ yI wV Rn hl hQ
 cases e
 exact q9 h
theorem NR:Ed (base w0 hi) aY (au 68):=by
 intro M s Q hB hl hQ
 obtain⟨a0,e,h⟩:=wR NZ Ug hB hl hQ
 cases e
 exact qI h
theorem KE:fD cO (au 28):=by
 intro M s Q hl hQ
 obtain⟨a0,e,h⟩:=Em yI Qe hl hQ
 cases e
 exact qm h
theorem Qy:CL (au 84):=by
 intro M s q Q hQ
 obtain⟨a0,a1,e,h⟩:=GD hQ
 cases e
 exact kW h
theorem Vt:CL (au 61):=by
 intro M s q Q hQ
 obtain⟨a0,a1,e,h⟩:=Ph Qy hQ
 cases e
 exact qP h
theorem QL:fD dO (au 29):=by
 intro M s Q hl hQ
 obtain⟨a0,e,h⟩:=Gr Vt SX hl hQ
 cases e
 exact rH h
theorem Vn:rU (au 70):=by
 intro M s q Q hQ
 obtain⟨a0,a1,e,h⟩:=Cm Qy hQ
 cases e
 exact kN h
theorem VB:rU (au 36):=by
 intro M s q Q hQ
 obtain⟨a0,a1,e,h⟩:=J6 Vn hQ
 cases e
 exact rM h
theorem Ul:wE 58 (au 113):=by
 intro M s Q hQ
 obtain⟨a0,a1,e,h⟩:=Cc UE (g:=0) (xx:=GL Tryz.prog 132) (c1:=au 100) (c2:=au 133) hQ
 cases e
 exact mE h
theorem SV:lZ 58 (au 102):=by
 intro M s Q hl hQ
 obtain⟨a0,a1,e,h⟩:=Vl.EG Ul hl hQ
 cases e
 exact nI h
theorem U1:lZ 58 (au 79):=by
 intro M s Q hl hQ
 obtain⟨a0,a1,e,h⟩:=Vl.Ny SV hl hQ
 cases e
 exact zF h
theorem Qu:EM (base w0 hi) (au 57):=by
 intro M s Q hB hl h1 h2
 obtain⟨a0,e,h⟩:=JZ (T:=56) U1 NZ QK NR hB hl h1 h2
 cases e
 exact uo h
theorem T9:LK (base w0 hi) (au 56):=by
 intro M v b at' Q hB h1 h2 h3 h4 h5 h6
 obtain⟨a0,a1,e,h⟩:=Oh (T:=5) Kr hB h1 h2 h3 h4 h5 h6
 cases e
 exact wI h
theorem Ng {a1:AV} {q:Str→Bool} {br:Nat} {X0:RB} {X:Str→RB} (hF:Dy (base w0 hi) (au) a1 q br X0 X) : GU (base w0 hi) a1 q br X0 X 56 (au 25):=by
 intro M v b Q hB h1 h2 h3 h4 h5 h6 h7
 obtain⟨a0,a1,e,h⟩:=OM T9 Qu hF hB h1 h2 h3 h4 h5 h6 h7
 cases e
 exact wT h
theorem KH:Da 9 (au 63):=by
 intro M v l n Q h1 h2 h3 h4 h5
 obtain⟨a0,a1,e,h⟩:=Lx (TH:=56) wV h1 h2 h3 h4 h5
 cases e
 exact u6 h
theorem K5:L6 (au 55):=by
 intro M v l n Q h1 h2 h3 h4 h5
 obtain⟨a0,a1,e,h⟩:=LC KH h1 h2 h3 h4 h5
 cases e
 exact uS h
theorem SI:Ld (base w0 hi) (au 114):=by
 intro M v w s Q hB h1 h2 h3 h4 h5
 obtain⟨a0,a1,e,h⟩:=Ni Kr hB h1 h2 h3 h4 h5
 cases e
 exact BF h
theorem Rl:Ig (au 134):=by
 intro M x Q hQ
 obtain⟨a0,e,h⟩:=ML hQ
 cases e
 exact oz h
theorem VP:Fp (au 117):=by
 intro M s Q h1 h2 h3 h4
 obtain⟨a0,a1,a2,e,h⟩:=DK (TE:=119) (T8:=5) (cu:=au 135) Rl h1 h2 h3 h4
 cases e
 exact mD h
theorem U0:Fp (au 116):=by
 intro M s Q h1 h2 h3 h4
 obtain⟨a0,a1,a2,e,h⟩:=Ez (ct:=au 72) VP h1 h2 h3 h4
 cases e
 exact rQ h
theorem Sc:MI (base w0 hi) (au 85):=by
 intro M v b at' Q hB h1 h2 h3 h4 h5
 obtain⟨a0,a1,e,h⟩:=OI (T:=5) SI yI wV TT U0 hB h1 h2 h3 h4 h5
 cases e
 exact wD h
theorem Oc:Cn (base w0 hi) 5 (au 65):=by
 intro M v b at' Q hB h1 h2 h3 h4 h5
 obtain⟨a0,a1,e,h⟩:=Jd Sc hB h1 h2 h3 h4 h5
 cases e
 exact tK h
theorem RJ:Ih 5 (au 66):=by
 intro M v s Q h1 h2 h3
 obtain⟨a0,e,h⟩:=K8 h1 h2 h3
 cases e
 exact A9 h
theorem Nj:GZ (base w0 hi) 5 (au 30):=by
 intro M v hv b l at' Q hB h1 h2 h3 h4 h5 h6 h7 h8
 obtain⟨a0,a1,a2,e,h⟩:=NG KH wV Oc yI ND NH RJ hB h1 h2 h3 h4 h5 h6 h7 h8
 cases e
 exact wS h
theorem OY (br:Nat) : Dy (base w0 hi) (au) (.fn (.func 26) [] [.ptr br 0]) oo br (jN 26 [] []) (Ic 26):=by
 intro M s K hB hbr hX hl h0 h1
 rw[Cr]
 exact oq (Nt (TS:=9) Rv KE QL hB hbr hX hl h0 h1)
theorem L9 (br:Nat) : Dy (base w0 hi) (au) (.fn (.func 35) [] [.ptr br 0]) qU br (iK 34 0) (GY 34):=by
 intro M s K hB hbr hX hl h0 h1
 rw[Cr]
 exact nU (LB VB ND VO NH hbr hX hl h0 h1)
theorem xD:I9 (base w0 hi) 56 5 (au 11):=by
 intro M v b Q hB h1 h2 h3 h4
 obtain⟨a0,e,h⟩:=Jl (T:=26) (g:=26) (fun br=>Ng (OY br)) Nj hB h1 h2 h3 h4
 cases e
 exact pJ h
theorem Ot:FE (base w0 hi) 56 5 (au 14):=by
 intro M v b Q hB h1 h2 h3 h4
 obtain⟨a0,e,h⟩:=GH (T:=34) (g:=35) (fun br=>Ng (L9 br)) Nj hB h1 h2 h3 h4
 cases e
 exact oP h
theorem zR:sZ (base w0 hi) 5 (au 32):=by
 intro M v bv f b l m z Q hB h1 h2 h3 h4 h5 h6 h7 h8 h9 h10
 obtain⟨a0,a1,a2,a3,a4,e,h⟩:=Jf (TH:=56) QK NR wV hB h1 h2 h3 h4 h5 h6 h7 h8 h9 h10
 cases e
 exact tF h
theorem F4:xZ (base w0 hi) (au 33):=by
 intro M n Q hB h1 h2
 obtain⟨a0,e,h⟩:=IR (T:=56) OB hB h1 h2
 cases e
 exact tX h
theorem Uc:xM (au 31):=by
 intro M m q x y Q h1 h2 h3 h4 h5
 obtain⟨a0,e,h⟩:=Il (T:=26) KE QL h1 h2 h3 h4 h5
 cases e
 exact oV h
theorem Gb:FR (base w0 hi) 5 (au 12):=by
 intro M hv bv m q b l Q hB h1 h2 h3 h4 h5 h6 h7 h8 h9
 obtain⟨a0,e,h⟩:=GG (T:=26) Uc F4 zR hB h1 h2 h3 h4 h5 h6 h7 h8 h9
 cases e
 exact oN h
theorem DT:DR (base w0 hi) 5 (au 13):=by
 intro M hv bv n b l Q hB h1 h2 h3 h4 h5 h6 h7
 obtain⟨a0,e,h⟩:=Ff (T:=34) OB F4 zR hB h1 h2 h3 h4 h5 h6 h7
 cases e
 exact oD h
theorem TV:Hu 5 (au 75):=by
 intro M n Q h1 h2 h3
 obtain⟨a0,a1,e,h⟩:=Ma (TS:=9) h1 h2 h3
 cases e
 exact BB h
theorem Pt:CQ 5 (au 48):=by
 intro M bb TB vs xss Q h1 h2 h3 h4 h5 h6 h7 h8
 obtain⟨a0,e,h⟩:=JE (TS:=9) TV h1 h2 h3 h4 h5 h6 h7 h8
 cases e
 exact zI h
theorem PH:EX 3 (au 47):=by
 intro M v s Q h1 h2 h3
 obtain⟨a0,e,h⟩:=J8 h1 h2 h3
 cases e
 exact BH h
theorem Ve:LY (au 123):=by
 intro M Q h1
 obtain⟨a0,e,h⟩:=PN h1
 cases e
 exact lg h
theorem Uf:MW (base w0 hi) (au 96):=by
 intro M n Q hB h1 h2
 obtain⟨a0,a1,a2,a3,a4,e,h⟩:=OE (TS:=9) (TA:=154) (T8:=5) Ve Wo hB h1 h2
 cases e
 exact mi h
theorem U5:EW (base w0 hi) (au 76):=by
 intro M n Q hB h1 h2
 obtain⟨a0,a1,e,h⟩:=N8 (c1:=au 93) (TA:=125) (c2:=au 94) (c3:=au 95) Uf hB h1 h2
 cases e
 exact mI h
theorem Vf:EW (base w0 hi) (au 49):=by
 intro M n Q hB h1 h2
 obtain⟨a0,a1,e,h⟩:=PK U5 hB h1 h2
 cases e
 exact rO h
theorem BV:Cb (base w0 hi) 5 (au 19):=by
 intro M hv bv sv m q b l sz Q hB h1 h2 h3 h4 h5 h6 h7 h8 h9 h10 h11
 obtain⟨a0,a1,e,h⟩:=En (T:=26) (TI:=3) (TB:=24) Uc PH Vf Pt zR hB h1 h2 h3 h4 h5 h6 h7 h8 h9 h10 h11
 cases e
 exact rY h
end
end Go.Ab.Hw
namespace Go.Ab.Hw
open Go Go.Ab Go.Ab.Sm Go.RowKit Go.Proofs
open Go.Proofs.YtmjcgbaacndblaaGreatDoor
abbrev oL:Str:=[71,69,84]
abbrev uy:Str:=[47,97]
abbrev lX:List Hd:=[([88],[49])]
def wF:Except Nat Str→Str
 | .ok s=>s
 | .error _=>[]
abbrev sA:Str:=[71,69,84,32,47,97,32,72,84,84,80,47,49,46,49,13,10,88,58,32,49,13,10,67,111,110,116,101,110,116,45,76,101,110,103,116,104,58,32,48,13,10,13,10]
def sC:Str:=wF (eQ 404 [] [110,111])
def sD:Str:=wF (bY oL uy lX [97,98,99,100] [3])
theorem pA:dZ oL uy lX []=.ok sA:=by kernel_rfl
theorem rA:eu (sA++[120])=.ok ((oL,uy,lX++[(jY,[48])],[]),[120]):=by kernel_rfl
theorem pC:eQ 404 [] [110,111]=.ok sC:=by kernel_rfl
theorem rC:mZ sC=.ok ((404,[(jY,[50])],[110,111]),[]):=by kernel_rfl
theorem pD:bY oL uy lX [97,98,99,100] [3]=.ok sD:=by kernel_rfl
theorem rD:eu sD=.ok ((oL,uy,lX++[(xO,qi)],[97,98,99,100]),[]):=by kernel_rfl
theorem nA:bu (lX++[(jY,[48])]) [120]=[[49]]:=by kernel_rfl
theorem nC:bu [(jY,[50])] [67,79,78,84,69,78,84,45,76,69,78,71,84,72]=[[50]]:=by kernel_rfl
theorem lC:sC.length≤1000:=by decide +kernel
theorem lD:sD.length≤1000:=by decide +kernel
theorem KJ {T n:Nat} {M:RM} {parts:List (Nat × Nat × AV)} (s:Str) {K:ah} (he:qc (dQ [(N .u8 0)] n) parts=some (BY.row s)) (hn:s.length=n)
  (hK:∀ v M',Bs M' v s→ae [] M M'→(∀ b∈aH v,M.next≤b)→K v M') : dW T n [(N .u8 0)] parts fun r f=>bf r f M fun t14 M1=>qN t14 M1 fun t15 M_0=>K t15 M_0:=by
 refine⟨BY.row s,he, ?_⟩
 simp only[aU]
 refine⟨M.next,0,n,n,BY.row s,T,rfl,by simp[RM.push], ?_⟩
 refine hK _ _ ⟨?_,Nat.le_refl _⟩ (((ae.refl _ _).push _).new _ (Nat.le_refl _)) (fun b hb=>by simp[aH] at hb; omega)
 subst hn
 refine aG.slc _ _ _ _ _ (by simp[RM.push,RM.put]) ?_
 rw[RM.iM (aP _) (by rw[lS]; simp[BY]),List.drop_zero,List.take_of_length_le (by rw[lS]; simp[BY])]
theorem XY {T:Nat} {M:RM} {z cs:List AV} {K:AV→RM→Prop} (n:Nat) (hz:z.length=n) (hc:cs.length=n) (h1:cs.all oneCell=true)
  (hK:∀ M',ae [] M M'→M'.heap M.next=some (.row cs false T 0)→M.next<M'.next→K (.agg cs) M') :
  bf (.row z false T 0) (fun b=>.ptr b 0) M fun t M1=>aK M1 t (.agg cs) n fun M2=>bI M2 t n fun r=>K r M2:=by
 simp only[aU]
 have n1:(M.push (.row z false T 0)).heap M.next=some (.row z false T 0):=by simp[RM.push]
 rw[iY n1 hc hz h1,bN (aP _) hc]
 exact hK _ (((ae.refl _ _).push _).new _ (Nat.le_refl _)) (aP _) (by simp[RM.push,RM.put])
theorem Db {T:Nat} {M:RM} {z cs:List AV} {K:AV→RM→Prop} (n:Nat) (hz:z.length=n) (hc:cs.length=n) (h1:cs.all oneCell=true)
  (hK:∀ M',ae [] M M'→M'.heap M.next=some (.row cs false T 0)→M.next<M'.next→K (.ptr M.next 0) M') :
  bf (.row z false T 0) (fun b=>.ptr b 0) M fun t M1=>aK M1 t (.agg cs) n fun M2=>K t M2:=by
 simp only[aU]
 have n1:(M.push (.row z false T 0)).heap M.next=some (.row z false T 0):=by simp[RM.push]
 rw[iY n1 hc hz h1]
 exact hK _ (((ae.refl _ _).push _).new _ (Nat.le_refl _)) (aP _) (by simp[RM.push,RM.put])
theorem tL {α:Type} {x y:α} {r:Except Nat α} (h:r=.ok x) (k:r=.ok y) : x=y:=by rw[h] at k; exact Except.ok.inj k
theorem tZ {α:Type} {x:α} {e:Nat} {r:Except Nat α} (h:r=.ok x) (k:r=.error e) : False:=by rw[h] at k; cases k
theorem Qz:∀ h∈lX,h.1.length≤281474976710656∧h.2.length≤281474976710656:=fun h hx=>by
 simp at hx; subst hx; simp
def Sg (B:Base) (c:ak) : Prop:=∀ {M:RM} {Q:ah},M.base=B→(∀ M',ae [] M M'→Q (Bo true) M')→c [] M Q
section
variable {w0:World} {hi:Iv w0}
theorem UD:Sg (base w0 hi) (au 10):=by
 intro M Q hB hQ
 refine zK ?_
 unfold zC
 rw[gF]
 refine⟨_,zN rfl rfl rfl rfl, ?_⟩
 rw[yM (by rfl) (by rfl) (by rfl)]
 simp only[aU (x:=.row (AV.agg [St [88],St [49]]).cells false 56 0)]
 have k1:ae [] M (M.push (.row (AV.agg [St [88],St [49]]).cells false 56 0)):=(ae.refl _ _).push _
 have s1:Sl HD (M.push (.row (AV.agg [St [88],St [49]]).cells false 56 0)) (.slc M.next 0 1 (.ex 1)) lX:=Sl.new (E:=HD) lX
 generalize M.push (.row (AV.agg [St [88],St [49]]).cells false 56 0)=M1 at *
 rw[gF]
 refine⟨[St oL,St uy,.slc M.next 0 1 (.ex 1),aA],rfl, ?_⟩
 have bx:∀ K:AV→AV→RM→Prop,(∀ M2,ae [] M1 M2→M2.heap M1.next=some (.row [St oL,St uy,.slc M.next 0 1 (.ex 1),aA] false 26 0)→M1.next<M2.next→K (.ptr M1.next 0) (.agg [St oL,St uy,.slc M.next 0 1 (.ex 1),aA]) M2) →
   bf (.row [St [],St [],aA,aA] false 26 0) (fun b=>.ptr b 0) M1 fun t M2=>aK M2 t (.agg [St oL,St uy,.slc M.next 0 1 (.ex 1),aA]) 4 fun M3=>bI M3 t 4 fun r=>K t r M3:=fun K h=>by
  refine Db (K:=fun t M3=>bI M3 t 4 fun r=>K t r M3) 4 rfl rfl rfl fun M2 k2 n2 l2=>?_
  rw[bN n2 (by rfl)]
  exact h M2 k2 n2 l2
 refine bx _ fun M2 k2 n2 l2=>?_
 have k02:=k1.trans k2
 have s2:Sl HD M2 (.slc M.next 0 1 (.ex 1)) lX:=aG.keep s1 k2 (by simp)
 refine Gb (hi:=hi) (k02.base.trans hB) s2 (by simp) Qz (by simp) (by simp) (body:=[]) .nil (by simp) (fun s v3 M3 e3 _ k3 o3=>?_) (fun e M3 e3 _ _=>(tZ pA e3).elim)
 obtain rfl:=tL pA e3
 simp only[bB,bz]
 rw[G8]
 simp only[aU (x:=.row [] false 5 0)]
 have k3' : ae [] M3 (M3.push (.row [] false 5 0)):=(ae.refl _ _).push _
 refine kL (E:=BY) (Ow.lit BY M3) (by simp[RM.push]) (by decide) (aG.keep (Own.kZ o3) k3' (by simp)) (by simp) (by simp) fun v4 M4 o4 k4 _ _=>?_
 have k34:ae [] M3 M4:=ae.own k3' k4 (fun b hb=>by simp[aH] at hb; omega)
 rw[yM (by rfl) (by rfl) (by rfl)]
 simp only[aU (x:=.row (N .u8 120).cells false 5 0)]
 refine wN (E:=BY) (a:=120) o4 k34.next (by decide) (by simp) (by simp) fun v5 M5 o5 k5 _ _=>?_
 have k35:ae [] M3 M5:=ae.own k34 k5 (fun b hb=>(Own.blk o4 b hb).1)
 have k25:=k3.trans k35
 rw[List.nil_append] at o5
 refine xD (hi:=hi) ((k02.trans k25).base.trans hB) (Bs.own o5) (by simp) (fun m p l out r at6 hv6 ov6 M6 e6 h61 h62 _ _ _ k6 oh6 ob6=>?_) (fun e M6 e6 _ _=>(tZ rA e6).elim)
 have e6':=tL rA e6
 simp only[Prod.mk.injEq] at e6'
 obtain⟨⟨rfl,rfl,rfl,rfl⟩,rfl⟩:=e6'
 have Xu:at6=44:=by
  have:=congrArg List.length h62
  simp at this h61; omega
 subst Xu
 simp only[bB,bz,fF]
 have c6:([St oL,St uy,hv6,ov6] : List AV).all oneCell=true:=by
  have h1:=Own.one oh6; have h2:=Own.one ob6
  simp only[List.all_cons,List.all_nil,h1,h2]; rfl
 refine XY (K:=fun t40 AL=>_) 4 rfl rfl c6 fun M7 k7 _ _=>?_
 have k26:=k25.trans (k6.trans k7)
 have sh7:Sl HD M7 hv6 (lX++[(jY,[48])]):=aG.keep (Own.kZ oh6) k7 (by simp)
 refine pR (Qf K5 sh7 (by simp) (by decide) (by decide) c6 fun M8 k8=>?_)
 rw[nA]
 simp only[lM,bB,bz]
 have k28:=k26.trans k8
 refine KJ [110,111] rfl rfl fun v9 M9 b9 k9 _=>?_
 rw[gF]
 have ob9:=aG.one b9.sl
 have fl9:jK [N .i64 0,aA,aA] [(0,1,N .i64 404),(2,1,v9)]=some [N .i64 404,aA,v9]:=by
  have h1:=aG.known b9.sl
  have h2:=aG.cells b9.sl
  rw[jK,if_pos ⟨rfl,rfl,by decide⟩,jK,if_pos ⟨h1,by rw[h2]; rfl,by decide⟩,h2]
  rfl
 refine⟨_,fl9, ?_⟩
 have k29:=k28.trans k9
 refine DT (hi:=hi) ((k02.trans k29).base.trans hB) (l:=[]) .nil (by simp) (by simp) b9.sl (by simp) (fun s v10 M10 e10 _ k10 o10=>?_) (fun e M10 e10 _ _=>(tZ pC e10).elim)
 obtain rfl:=tL pC e10
 simp only[bB,bz]
 have Lh:=k29.trans k10
 refine Ot (hi:=hi) ((k02.trans Lh).base.trans hB) (Bs.own o10) (by have:=lC; omega) (fun n l out r WJ Fh EQ M11 e11 h111 h112 _ _ _ k11 TR Qo=>?_) (fun e M11 e11 _ _=>(tZ rC e11).elim)
 have Ur:=tL rC e11
 simp only[Prod.mk.injEq] at Ur
 obtain⟨⟨rfl,rfl,rfl⟩,rfl⟩:=Ur
 have U2:WJ=sC.length:=by
  have:=congrArg List.length h112
  simp at this; omega
 subst U2
 simp only[bB,bz,fF]
 have c11:([N .i64 ((404:Nat) : Int),Fh,EQ] : List AV).all oneCell=true:=by
  have h1:=Own.one TR; have h2:=Own.one Qo
  simp only[List.all_cons,List.all_nil,h1,h2]; rfl
 have bx2:∀ K:AV→AV→RM→Prop,(∀ M2,ae [] M11 M2→M2.heap M11.next=some (.row [N .i64 ((404:Nat) : Int),Fh,EQ] false 34 0)→M11.next<M2.next→K (.ptr M11.next 0) (.agg [N .i64 ((404:Nat) : Int),Fh,EQ]) M2) →
   bf (.row [N .i64 0,aA,aA] false 34 0) (fun b=>.ptr b 0) M11 fun t M2=>aK M2 t (.agg [N .i64 ((404:Nat) : Int),Fh,EQ]) 3 fun M3=>bI M3 t 3 fun r=>K t r M3:=fun K h=>by
  refine Db (K:=fun t M3=>bI M3 t 3 fun r=>K t r M3) 3 rfl rfl c11 fun M2 k2 n2 l2=>?_
  rw[bN n2 (by rfl)]
  exact h M2 k2 n2 l2
 refine bx2 _ fun M12 k12 n12 l12=>?_
 have Xi:Sl HD M12 Fh [(jY,[50])]:=aG.keep (Own.kZ TR) k12 (by simp)
 refine oO (NA K5 Xi (by simp) (by decide) (by decide) c11 fun M13 k13=>?_)
 rw[nC]
 simp only[lM,bB,bz]
 have S9:=Lh.trans (k11.trans (k12.trans k13))
 refine KJ [97,98,99,100] rfl rfl fun v14 M14 b14 k14 XR=>?_
 have Lb:=S9.trans k14
 have n14:=Lb.aL n2 l2 (by simp)
 have l14:=Nat.lt_of_lt_of_le l2 Lb.next
 have c14:=aG.cells b14.sl
 have XN:=aG.one b14.sl
 rw[iO,Nat.zero_add,gZ [St oL,St uy,.slc M.next 0 1 (.ex 1),v14] n14 (by simp) c14 XN rfl,bN (aP _) (by rfl)]
 have k15:ae [M1.next] M14 (M14.put M1.next (.row [St oL,St uy,.slc M.next 0 1 (.ex 1),v14] false 26 0)):=(ae.refl _ _).put _ (.inr (by simp))
 generalize M14.put M1.next (.row [St oL,St uy,.slc M.next 0 1 (.ex 1),v14] false 26 0)=M15 at *
 have kk:∀ {X Y:RM},ae [] X Y→ae [M1.next] X Y:=fun k=>k.mono (by simp)
 have b15:Bs M15 v14 [97,98,99,100]:=b14.keep k15 (fun x hx hm=>by have:=XR x hx; have:=S9.next; simp at hm; omega)
 have ne1:∀ b,M2.next≤b→b≠M1.next:=fun b h e=>by omega
 have s15:Sl HD M15 (.slc M.next 0 1 (.ex 1)) lX:=aG.keep (aG.keep s2 Lb (by simp)) k15 (fun x hx hm=>by have:=aG.lt s1 x hx; simp at hm; omega)
 rw[yM (by rfl) (by rfl) (by rfl)]
 simp only[aU (x:=.row (N .i64 3).cells false 3 0)]
 have k16:ae [] M15 (M15.push (.row (N .i64 3).cells false 3 0)):=(ae.refl _ _).push _
 have s16:Sl INT (M15.push (.row (N .i64 3).cells false 3 0)) (.slc M15.next 0 1 (.ex 1)) [3]:=Sl.new (E:=INT) [3]
 generalize M15.push (.row (N .i64 3).cells false 3 0)=M16 at *
 have PU:ae [M1.next] M2 M16:=(kk Lb).trans (k15.trans (kk k16))
 refine BV (hi:=hi) ((PU.base.trans k02.base).trans hB) (aG.keep s15 k16 (by simp)) (by simp) Qz (by simp) (by simp) (b15.keep k16 (by simp)) (by simp) s16 (by simp) (fun s v17 M17 e17 _ k17 o17=>?_) (fun e M17 e17 _ _=>(tZ pD e17).elim)
 obtain rfl:=tL pD e17
 simp only[bB,bz]
 refine xD (hi:=hi) ((k17.base.trans (PU.base.trans k02.base)).trans hB) (Bs.own o17) (by have:=lD; omega) (fun m p l out r XF Ww Uu M18 e18 h181 WY _ _ _ k18 WM TG=>?_) (fun e M18 e18 _ _=>(tZ rD e18).elim)
 have Uo:=tL rD e18
 simp only[Prod.mk.injEq] at Uo
 obtain⟨⟨rfl,rfl,rfl,rfl⟩,rfl⟩:=Uo
 have Vd:XF=sD.length:=by
  have:=congrArg List.length WY
  simp at this; omega
 subst Vd
 simp only[bB,bz,fF]
 have c18:([St oL,St uy,Ww,Uu] : List AV).all oneCell=true:=by
  have h1:=Own.one WM; have h2:=Own.one TG
  simp only[List.all_cons,List.all_nil,h1,h2]; rfl
 refine Db (K:=fun t Tv=>_) 4 rfl rfl c18 fun M19 k19 n19 l19=>?_
 -- what stands at the end
 have WZ:ae [M1.next] M3 M19:=by
  have a:=kk (k35.trans (k6.trans (k7.trans (k8.trans (k9.trans (k10.trans (k11.trans (k12.trans (k13.trans k14)))))))))
  exact a.trans (k15.trans (kk (k16.trans (k17.trans (k18.trans k19)))))
 have bA:Bs M19 v3 sA:=(Bs.own o3).keep WZ (fun x hx hm=>by have:=(Own.blk o3 x hx).1; simp at hm; omega)
 have VG:ae [M1.next] M10 M19:=(kk (k11.trans (k12.trans (k13.trans k14)))).trans (k15.trans (kk (k16.trans (k17.trans (k18.trans k19)))))
 have bC:Bs M19 v10 sC:=(Bs.own o10).keep VG (fun x hx hm=>by have:=(Own.blk o10 x hx).1; have:=k29.next; simp at hm; omega)
 have Qx:ae [M1.next] M12 M19:=(kk (k13.trans k14)).trans (k15.trans (kk (k16.trans (k17.trans (k18.trans k19)))))
 have h11:M19.heap M11.next=some (.row [N .i64 ((404:Nat) : Int),Fh,EQ] false 34 0):=Qx.aL n12 l12 (by
  have:=(Lh.trans k11).next; simp; omega)
 have WE:Bs M19 EQ [110,111]:=((Bs.own Qo).keep k12 (by simp)).keep Qx (fun x hx hm=>by have:=(Own.blk Qo x hx).1; have:=Lh.next; simp at hm; omega)
 have bD:Bs M19 v17 sD:=(Bs.own o17).keep (k18.trans k19) (by simp)
 have Yf:Bs M19 Uu [97,98,99,100]:=(Bs.own TG).keep k19 (by simp)
 have go1:∀ {α:Type} [BEq α] [LawfulBEq α] (a:α),(a == a)=true:=fun a=>beq_self_eq_true a
 simp only[bU,bM,bE,fu,go1]
 rw[bA.str]
 simp only[bU,bM,bE,fu,go1]
 rw[bA.len]
 rw[bE,show(((44:Nat) : Int) == ((sA.length:Nat) : Int))=true by decide]
 simp only[bU,bM,bE,fu,go1]
 rw[bC.len]
 simp only[bU,bM,bE,fu,go1,iO,Nat.zero_add]
 rw[az h11 rfl]
 rw[bE,show(((404:Nat) : Int) == 404)=true from rfl]
 simp only[bU,bM,bE,fu,go1]
 rw[az h11 rfl,WE.str]
 simp only[bU,bM,bE,fu,go1]
 rw[bD.len]
 simp only[bU,bM,bE,fu,go1]
 rw[az n19 rfl,Yf.str]
 simp only[bU,bM,bE,fu,go1]
 exact hQ _ (sJ k02 (PU.trans (kk (k17.trans (k18.trans k19)))) (by have:=k1.next; omega))
end
theorem Uk {α:Type} {x:α} {e:Nat} {r:Except Nat α} (h:r=.error e) (k:r=.ok x) : False:=by rw[h] at k; cases k
theorem Rm {α:Type} {e f:Nat} {r:Except Nat α} (h:r=.error e) (k:r=.error f) : e=f:=by rw[h] at k; exact Except.error.inj k
section
variable {w0:World} {hi:Iv w0}
theorem Us:vK (au 24):=by
 intro M s Q h1 h2
 obtain⟨a0,e,h⟩:=JP (T8:=5) h1 h2
 cases e
 exact BG h
end
def xA (T:Nat) (c:ak) : Prop:=∀ {M:RM} {v:AV} {l:List Hd} {Q:ah},Sl HD M v l→l.length≤1000→(∀ v' M',Ow HD M' M.next T v' l→ae [] M M'→Q v' M')→c [v] M Q
theorem JI {T:Nat} : xA T fun args M Q=>∃ a0,args=[a0]∧nV T a0 M Q:=by
 intro M v l Q hv hl hQ
 refine⟨_,rfl, ?_⟩
 unfold nV
 refine di (fun m ys M3=>∃ (i:Nat) (o:AV),m=l.length - i∧ys=[o,N .i64 (i:Int)]∧i≤l.length∧Ow HD M3 M.next T o (l.take i)∧ae [] M M3) _ ⟨0,aA,rfl,rfl,Nat.zero_le _,.nil,ae.refl _ _⟩ ?_
 rintro next m ys M3 hnext ⟨i,o,rfl,rfl,hi,hO,k3⟩
 simp only[aV,dE]
 have hv3:Sl HD M3 v l:=aG.keep hv k3 (by simp)
 rw[aG.len hv3,ny]
 refine bH (fun h=>?_) fun h=>?_
 ·have hlt:i<l.length:=by simpa using h
  obtain⟨b,off,hb,_,hix,hld⟩:=hv3.at 2 (i:Int) hlt
  rw[hix,iO,dD]
  refine⟨St l[i].1,qH hld (j:=0) (x:=St l[i].1) rfl, ?_⟩
  rw[hix,iO,dD]
  refine⟨St l[i].2,qH hld (j:=1) (x:=St l[i].2) rfl, ?_⟩
  rw[gF]
  refine⟨_,zN rfl rfl rfl rfl, ?_⟩
  rw[yM (by rfl) (by rfl) (by rfl)]
  simp only[Bp]
  refine wN (E:=HD) (a:=l[i]) hO k3.next (by decide) (by simp; omega) (by simp; omega) fun v7 M7 o7 k7 _ _=>?_
  rw[add1 (by omega)]
  refine hnext _ _ _ (by omega) ⟨i + 1,v7,rfl,rfl,by omega, ?_,ae.own k3 k7 (fun x hx=>(hO.blk x hx).1)⟩
  rw[List.take_succ_eq_append_getElem hlt]; exact o7
 ·have:i=l.length:=by simp at h; omega
  subst this
  rw[List.take_length] at hO
  exact hQ o M3 hO k3
theorem Uw (s:Str) : (s != s)=false:=by simp
theorem Tn (s:Int) : (s != s)=false:=by simp
theorem Po {m p:Str} {hv' bv:AV} (h1:known hv'=true) (h2:hv'.cells=[hv']) (h3:known bv=true) (h4:bv.cells=[bv]) : jK [St [],St [],N .i64 0,aA,aA] [(0,1,St m),(1,1,St p),(3,1,hv'),(4,1,bv)]=some [St m,St p,N .i64 0,hv',bv]:=by
 have e1:known (St m)=true:=rfl
 have e2:known (St p)=true:=rfl
 have e3:(St m).cells=[St m]:=rfl
 have e4:(St p).cells=[St p]:=rfl
 simp[jK,h1,h2,h3,h4,e1,e2,e3,e4]
theorem NU {n:Int} {hv' bv:AV} (h1:known hv'=true) (h2:hv'.cells=[hv']) (h3:known bv=true) (h4:bv.cells=[bv]) : jK [St [],St [],N .i64 0,aA,aA] [(2,1,N .i64 n),(3,1,hv'),(4,1,bv)]=some [St [],St [],N .i64 n,hv',bv]:=by
 have e1:known (N .i64 n)=true:=rfl
 have e3:(N .i64 n).cells=[N .i64 n]:=rfl
 simp[jK,h1,h2,h3,h4,e1,e3]
def Iq (c:ak) : Prop:=∀ {M:RM} {hv bv:AV} {m p body:Str} {l:List Hd} {Q:ah},Sl HD M hv l→l.length≤1000→Sl BY M bv body →
 (∀ hv' M',Sl HD M' hv' l→ae [] M M'→Q (.agg [St m,St p,N .i64 0,hv',bv]) M')→c [.agg [St m,St p,hv,bv]] M Q
theorem Jk {T TM TH:Nat} {ch:ak} (hh:xA TH ch) : Iq fun args M Q=>∃ a0,args=[a0]∧oH T TM ch a0 M Q:=by
 intro M hv bv m p body l Q hs hl hb hQ
 refine⟨_,rfl, ?_⟩
 unfold oH
 have ohv:=aG.one hs
 have obv:=aG.one hb
 rw[iU (by simp only[List.all_cons,List.all_nil,ohv,obv]; rfl) (by simp)]
 simp only[aU]
 have k0:ae [] M ((M.push (.row [St m,St p,hv,bv] false T 0)).push (.row [St [],St [],N .i64 0,aA,aA] false TM 0)):=((ae.refl _ _).push _).push _
 have n1:((M.push (.row [St m,St p,hv,bv] false T 0)).push (.row [St [],St [],N .i64 0,aA,aA] false TM 0)).heap M.next=some (.row [St m,St p,hv,bv] false T 0):=by simp[RM.push]
 have n2:((M.push (.row [St m,St p,hv,bv] false T 0)).push (.row [St [],St [],N .i64 0,aA,aA] false TM 0)).heap (M.push (.row [St m,St p,hv,bv] false T 0)).next=some (.row [St [],St [],N .i64 0,aA,aA] false TM 0):=by simp[RM.push]
 have e2:(M.push (.row [St m,St p,hv,bv] false T 0)).next=M.next + 1:=rfl
 have l0:((M.push (.row [St m,St p,hv,bv] false T 0)).push (.row [St [],St [],N .i64 0,aA,aA] false TM 0)).next=M.next + 2:=rfl
 rw[e2] at n2 ⊢
 generalize (M.push (.row [St m,St p,hv,bv] false T 0)).push (.row [St [],St [],N .i64 0,aA,aA] false TM 0)=M0 at *
 simp only[gK]
 rw[az n1 (i:=0) rfl,az n1 (i:=1) rfl,az n1 (i:=2) rfl,az n1 (i:=3) rfl]
 refine hh (aG.keep hs k0 (by simp)) hl fun hv' M1 o1 k1=>?_
 have n11:=k1.aL n1 (by omega) (by simp)
 have n21:=k1.aL n2 (by omega) (by simp)
 rw[az n11 (i:=0) rfl]; refine⟨rfl, ?_⟩
 rw[az n11 (i:=1) rfl]; refine⟨rfl, ?_⟩
 rw[az n11 (i:=3) rfl]; refine⟨rfl, ?_⟩
 have fl:=Po (m:=m) (p:=p) (aG.known o1.kZ) (aG.cells o1.kZ) (aG.known hb) (aG.cells hb)
 rw[gF]
 refine⟨_,fl, ?_⟩
 have o1':=Own.one o1
 rw[iY n21 (by rfl) (by rfl) (by simp only[List.all_cons,List.all_nil,o1',obv]; rfl),bN (aP _) (by rfl)]
 refine hQ hv' _ (aG.keep o1.kZ ((ae.refl [M.next + 1] M1).put _ (.inr (by simp))) (fun x hx hm=>?_)) ((k0.trans k1).new _ (by omega))
 have:=(o1.blk x hx).1
 simp at hm; omega
section
variable {w0:World} {hi:Iv w0}
theorem Gn:xA 83 (au 46):=by
 intro M v l Q h1 h2 h3
 obtain⟨a0,e,h⟩:=JI h1 h2 h3
 cases e
 exact wG h
theorem FY:Iq (au 17):=by
 intro M hv bv m p body l Q h1 h2 h3 h4
 obtain⟨a0,e,h⟩:=Jk (T:=26) (TM:=39) Gn h1 h2 h3 h4
 cases e
 exact wH h
end
theorem Sw:nN dV (au 77):=by
 intro M x Q h1
 obtain⟨a0,e,h⟩:=GI h1
 cases e
 exact zG h
theorem RQ:fD cO (au 50):=by
 intro M s Q h1 h2
 obtain⟨a0,e,h⟩:=EI h1 h2
 cases e
 exact xL h
theorem Vz:fD dO (au 51):=by
 intro M s Q h1 h2
 obtain⟨a0,e,h⟩:=Jy h1 h2
 cases e
 exact zX h
theorem VJ:fD bR (au 53):=by
 intro M s Q h1 h2
 obtain⟨a0,e,h⟩:=IY h1 h2
 cases e
 exact Av h
theorem Ub:fD aY (au 54):=by
 intro M s Q h1 h2
 obtain⟨a0,e,h⟩:=Gu Sw h1 h2
 cases e
 exact zL h
theorem MK {base:Nat} (h2:2≤base) (h16:base≤16) : ∀ (f:Nat),f≤1000→∀ (n:Nat),n<base ^ f→n<1000000000→1≤f→∀ {M:RM} {Q:ah},Q (St (iP base f n)) M→au 52 [N .i64 (n:Int),N .i64 (base:Int)] M Q
 | 0,_,_,_,_,h,_,_,_=>absurd h (by omega)
 | f + 1,hf,n,hn,hb,_,M,Q,hQ=>BD (JY (f:=f) h2 h16 (MK h2 h16 f (by omega)) hn hb (by omega) hQ)
theorem UK:HY 10 (au 52):=fun {M n Q} hn hQ=>MK (by decide) (by decide) 20 (by decide) n (Nat.lt_of_lt_of_le hn (by decide)) hn (by decide) hQ
theorem UC:HY 16 (au 52):=fun {M n Q} hn hQ=>MK (by decide) (by decide) 20 (by decide) n (Nat.lt_of_lt_of_le hn (by decide)) hn (by decide) hQ
theorem Tp:Gm 5 (au 20):=by
 intro M m p body n hv bv sv l sizes rq ck Q h1 h2 h3 h4 h5 h6 h7 h8 h9 h10 h11 h12
 obtain⟨a0,a1,a2,a3,e,h⟩:=Gy (T:=39) (TH:=83) RQ Vz UK UC Us VJ Ub h1 h2 h3 h4 h5 h6 h7 h8 h9 h10 h11 h12
 cases e
 exact zH h
def F3 (c:ak) : Prop:=∀ {M:RM} {hv bv:AV} {n:Int} {body:Str} {l:List Hd} {Q:ah},Sl HD M hv l→l.length≤1000→Sl BY M bv body →
 (∀ hv' M',Sl HD M' hv' l→(∀ x∈aH hv',M.next≤x)→ae [] M M'→Q (.agg [St [],St [],N .i64 n,hv',bv]) M')→c [.agg [N .i64 n,hv,bv]] M Q
theorem Gp {T TM TH:Nat} {ch:ak} (hh:xA TH ch) : F3 fun args M Q=>∃ a0,args=[a0]∧nu T TM ch a0 M Q:=by
 intro M hv bv n body l Q hs hl hb hQ
 refine⟨_,rfl, ?_⟩
 unfold nu
 have ohv:=aG.one hs
 have obv:=aG.one hb
 rw[iU (by simp only[List.all_cons,List.all_nil,ohv,obv]; rfl) (by simp)]
 simp only[aU]
 have k0:ae [] M ((M.push (.row [N .i64 n,hv,bv] false T 0)).push (.row [St [],St [],N .i64 0,aA,aA] false TM 0)):=((ae.refl _ _).push _).push _
 have n1:((M.push (.row [N .i64 n,hv,bv] false T 0)).push (.row [St [],St [],N .i64 0,aA,aA] false TM 0)).heap M.next=some (.row [N .i64 n,hv,bv] false T 0):=by simp[RM.push]
 have n2:((M.push (.row [N .i64 n,hv,bv] false T 0)).push (.row [St [],St [],N .i64 0,aA,aA] false TM 0)).heap (M.push (.row [N .i64 n,hv,bv] false T 0)).next=some (.row [St [],St [],N .i64 0,aA,aA] false TM 0):=by simp[RM.push]
 have e2:(M.push (.row [N .i64 n,hv,bv] false T 0)).next=M.next + 1:=rfl
 have l0:((M.push (.row [N .i64 n,hv,bv] false T 0)).push (.row [St [],St [],N .i64 0,aA,aA] false TM 0)).next=M.next + 2:=rfl
 rw[e2] at n2 ⊢
 generalize (M.push (.row [N .i64 n,hv,bv] false T 0)).push (.row [St [],St [],N .i64 0,aA,aA] false TM 0)=M0 at *
 simp only[gK]
 rw[az n1 (i:=0) rfl,az n1 (i:=1) rfl,az n1 (i:=2) rfl]
 refine hh (aG.keep hs k0 (by simp)) hl fun hv' M1 o1 k1=>?_
 have n11:=k1.aL n1 (by omega) (by simp)
 have n21:=k1.aL n2 (by omega) (by simp)
 rw[az n11 (i:=0) rfl]; refine⟨rfl, ?_⟩
 rw[az n11 (i:=2) rfl]; refine⟨rfl, ?_⟩
 have fl:=NU (n:=n) (aG.known o1.kZ) (aG.cells o1.kZ) (aG.known hb) (aG.cells hb)
 rw[gF]
 refine⟨_,fl, ?_⟩
 have o1':=Own.one o1
 rw[iY n21 (by rfl) (by rfl) (by simp only[List.all_cons,List.all_nil,o1',obv]; rfl),bN (aP _) (by rfl)]
 refine hQ hv' _ (aG.keep o1.kZ ((ae.refl [M.next + 1] M1).put _ (.inr (by simp))) (fun x hx hm=>?_)) (fun x hx=>?_) ((k0.trans k1).new _ (by omega))
 ·have:=(o1.blk x hx).1
  simp at hm; omega
 ·have:=(o1.blk x hx).1
  omega
theorem Lg:F3 (au 18):=by
 intro M hv bv n body l Q h1 h2 h3 h4
 obtain⟨a0,e,h⟩:=Gp (T:=34) (TM:=39) Gn h1 h2 h3 h4
 cases e
 exact u7 h
end Go.Ab.Hw
namespace Go.Ab.Hw
open Go Go.Ab Go.Ab.Sm Go.RowKit Go.Proofs
open Go.Proofs.YtmjcgbaacndblaaGreatDoor
open Go.Ab.Vl (gq gp)
structure uM (M:RM) (hv bv:AV) (m p body:Str) (l:List Hd) : Prop where
 hs:Sl HD M hv l
 hb:Bs M bv body
 ll:∀ h∈l,h.1.length≤281474976710656∧h.2.length≤281474976710656
 lm:m.length≤281474976710656
 lp:p.length≤281474976710656
theorem uM.keep {M M' : RM} {hv bv:AV} {m p body:Str} {l:List Hd} (h:uM M hv bv m p body l) (k:ae [] M M') : uM M' hv bv m p body l:=⟨aG.keep h.hs k (by simp),h.hb.keep k (by simp),h.ll,h.lm,h.lp⟩
section
variable {w0:World} {hi:Iv w0}
end
def Fin (H body c:Str) : Prop:=∃ Z,Vr H 0 Z∧c=Z++body
structure Let (H body:Str) (n b:Nat) (M:RM) (i m:Nat) (P A T:Str) : Prop where
 row:Rw BY M b true 5 (P++(A++T))
 len:P.length + (A.length + T.length)=n
 at_:i=P.length∨(A=[]∧P.length≤i)
 tl:T.length≤body.length
 al:A≠[]→T.length=body.length
 fin:∀ B,Vr A m B→Fin H body (P++(B++T))
section
variable {w0:World} {hi:Iv w0}
end
end Go.Ab.Hw
namespace Go.Ab.Hw
open Go Go.Ab Go.Ab.Sm Go.RowKit Go.Proofs
open Go.Proofs.YtmjcgbaacndblaaGreatDoor
abbrev Rd:=Except Nat ((Str × Str × Nat × List Hd × Str) × Str)
structure Yv (B0:Nat) (M:RM) (rd:Rd) (b:Str) (m p:Str) (c:Nat) (hv ov:AV) (l:List Hd) (out:Str) (n e:Nat) : Prop where
 sh:Sl HD M hv l
 so:Sl BY M ov out
 hb:∀ x∈aH hv,B0≤x
 ob:∀ x∈aH ov,B0≤x
 ll:l.length≤33
 ok:(∃ r,rd=.ok ((m,p,c,l,out),r)∧n≤b.length∧b.drop n=r∧e=0)∨(rd=.error e∧m=[]∧p=[]∧c=0∧l=[]∧out=[]∧n=0∧e≠0)
section
variable {w0:World} {hi:Iv w0}
end
def UI:Except Nat Str→Nat
 | .ok _=>0
 | .error n=>n
structure PR (M:RM) (d:Except Nat Str) (v:AV) (n:Nat) : Prop where
 sl:Bs M v (wF d)
 er:n=UI d
 ln:(wF d).length≤100000000
theorem PR.keep {M M' : RM} {d:Except Nat Str} {v:AV} {n:Nat} (h:PR M d v n) (k:ae [] M M') : PR M' d v n:=⟨h.sl.keep k (by simp),h.er,h.ln⟩
theorem PR.ok {M:RM} {s:Str} {v:AV} {d:Except Nat Str} {T b:Nat} (h:d=.ok s) (o:Ow BY M b T v s) (hl:s.length≤100000000) : PR M d v 0:=by
 subst h
 exact⟨Bs.own o,rfl,hl⟩
theorem PR.err {M:RM} {d:Except Nat Str} {e:Nat} (h:d=.error e) : PR M d aA e:=by
 subst h
 exact⟨⟨.nil,trivial⟩,rfl,by simp[wF]⟩
def Vk (B:Base) (c:ak) : Prop:=∀ {M:RM} {v bv hv:AV} {b body behind m p:Str} {l:List Hd} {cut:Int} {Q:ah},M.base=B→Bs M v b→b.length≤100000000→Bs M bv body→Bs M hv behind→behind.length≤1000 →
 (∀ t,eu (b++t)=.ok ((m,p,l,body),t))→(∀ M',ae [] M M'→Q (Bo true) M')→c [v,bv,hv,N .i64 cut] M Q
section
variable {w0:World} {hi:Iv w0}
theorem Od:Vk (base w0 hi) (au 21):=by
 intro M v bv hv b body behind m p l cut Q hB hv0 hbl hb hh hhl hread hQ
 refine zQ ?_
 unfold Am
 rw[G8,aU]
 have k1:ae [] M (M.push (.row [] false 5 0)):=(ae.refl _ _).push _
 refine kL (E:=BY) (Ow.lit BY M) (by simp[RM.push]) (by decide) (hv0.keep k1 (by simp)).sl (by simp; omega) (by simp; omega) fun w2 M2 o2 k2 _ _=>?_
 have k02:ae [] M M2:=ae.own k1 k2 (fun x hx=>by simp[aH] at hx; omega)
 refine kL (E:=BY) o2 k02.next (by decide) (hh.keep k02 (by simp)).sl (by simp; omega) (by simp; omega) fun w3 M3 o3 k3 _ _=>?_
 have k03:ae [] M M3:=ae.own k02 k3 (fun x hx=>(Own.blk o2 x hx).1)
 rw[List.nil_append] at o3
 refine xD (hi:=hi) (k03.base.trans hB) (Bs.own o3) (by simp; omega) (fun m' p' l' out r at2 hv' ov M4 e4 hat hr _ _ _ k4 oh ob=>?_) (fun e M4 e4 _ _=>(tZ (hread behind) e4).elim)
 have e4':=tL (hread behind) e4
 simp only[Prod.mk.injEq] at e4'
 obtain⟨⟨rfl,rfl,rfl,rfl⟩,rfl⟩:=e4'
 have hat' : at2=b.length:=by
  have:=congrArg List.length hr
  simp only[List.length_drop,List.length_append] at this hat
  omega
 subst hat'
 simp only[bB,bz,fF]
 have c4:([St m,St p,hv',ov] : List AV).all oneCell=true:=by
  have h1:=Own.one oh; have h2:=Own.one ob
  simp only[List.all_cons,List.all_nil,h1,h2]; rfl
 refine Db (K:=fun t Tv=>_) 4 rfl rfl c4 fun M5 k5 n5 l5=>?_
 have k05:=k03.trans (k4.trans k5)
 have d3:∀ {K:AV→Prop},aj M5 (.ptr M4.next 3) K=K ov:=az n5 rfl
 have s1:∀ {K:AV→Prop},bQ M5 ov K=K (St body):=Sl.str (aG.keep (Own.kZ ob) k5 (by simp))
 have s2:∀ {K:AV→Prop},bQ M5 bv K=K (St body):=(hb.keep k05 (by simp)).str
 have L:∀ {K:AV→Prop},aT v K=K (N .i64 (b.length:Int)):=hv0.len
 simp only[gN,Tn,bg,bZ,L,gK,d3,s1,s2,sw,Uw,bq,eU]
 cases hc:decide (cut<0) with
 | true =>
   simp only[bS,iE,bU,bW]
   exact hQ _ k05
 | false =>
   simp only[bg,bZ,L,dh]
   refine bH (fun _=>hQ _ k05) fun hc2=>?_
   obtain⟨k,rfl⟩ : ∃ k:Nat,cut=(k:Int):=⟨cut.toNat,by have:=of_decide_eq_false hc; omega⟩
   have hk:k<b.length:=by have:=of_decide_eq_false hc2; omega
   refine(hv0.keep k05 (by simp)).sub (Aw _) (kw _ _ _) (Nat.zero_le _) (by omega) fun v6 h6 _=>?_
   rw[List.drop_zero,Nat.sub_zero] at h6
   have hcut:=PQ hread hk
   refine xD (hi:=hi) (k05.base.trans hB) h6 (by rw[List.length_take]; omega) (fun m' p' l' out r at2 hv' ov M6 e6 _ _ _ _ _ _ _ _=>(Uk hcut e6).elim) (fun e M6 e6 _ k6=>?_)
   have:=Rm hcut e6
   subst this
   simp only[bB,bz,fF,bE]
   exact hQ _ (k05.trans k6)
theorem VM {M:RM} {hv bv:AV} {m p body:Str} {l:List Hd} {Q:ah} (hB:M.base=base w0 hi) (h:uM M hv bv m p body l) (h1:l.length≤1000) (h2:body.length≤2000)
  (hQ:∀ v n M',PR M' (dZ m p l body) v n→ae [] M M'→Q (.tup [v,N .i64 (n:Int)]) M') : au 12 [.agg [St m,St p,hv,bv]] M Q :=
 Gb (hi:=hi) hB h.hs h1 h.ll h.lm h.lp h.hb.sl (by omega) (fun s v M' e hl k o=>hQ v 0 M' (PR.ok e o (by omega)) k) (fun e M' h3 h4 k=>hQ aA e M' (PR.err h3) k)
theorem Sa {M:RM} {hv bv:AV} {n:Int} {m p body:Str} {l:List Hd} {Q:ah} (hB:M.base=base w0 hi) (h:uM M hv bv m p body l) (h1:l.length≤1000) (h2:body.length≤2000)
  (hQ:∀ v e M',PR M' (eQ n l body) v e→ae [] M M'→Q (.tup [v,N .i64 (e:Int)]) M') : au 13 [.agg [N .i64 n,hv,bv]] M Q :=
 DT (hi:=hi) hB h.hs h1 h.ll h.hb.sl (by omega) (fun s v M' e hl k o=>hQ v 0 M' (PR.ok e o (by omega)) k) (fun e M' h3 h4 k=>hQ aA e M' (PR.err h3) k)
theorem QV {M:RM} {hv bv sv:AV} {m p body:Str} {l:List Hd} {sz:List Int} {Q:ah} (hB:M.base=base w0 hi) (h:uM M hv bv m p body l) (h1:l.length≤1000) (h2:body.length≤2000) (hs:Sl INT M sv sz) (hsl:sz.length≤1000)
  (hQ:∀ v n M',PR M' (bY m p l body sz) v n→ae [] M M'→Q (.tup [v,N .i64 (n:Int)]) M') : au 19 [.agg [St m,St p,hv,bv],sv] M Q :=
 BV (hi:=hi) hB h.hs h1 h.ll h.lm h.lp h.hb (by omega) hs hsl (fun s v M' e hl k o=>hQ v 0 M' (PR.ok e o hl) k) (fun e M' h3 h4 k=>hQ aA e M' (PR.err h3) k)
structure Iu (M:RM) (d:Except Nat Str) (v:AV) (n:Nat) : Prop where
 sl:Sl BY M v (wF d)
 er:n=UI d
theorem Iu.keep {M M' : RM} {d:Except Nat Str} {v:AV} {n:Nat} (h:Iu M d v n) (k:ae [] M M') : Iu M' d v n:=⟨aG.keep h.sl k (by simp),h.er⟩
theorem MS {M:RM} {m p body:Str} {n:Int} {hv bv sv:AV} {l:List Hd} {sizes:List Int} {rq ck:Bool} {Q:ah} (hs:Sl HD M hv l) (hll:l.length≤1000) (hle:∀ h∈l,h.1.length≤281474976710656∧h.2.length≤281474976710656)
  (hm:m.length≤281474976710656) (hp:p.length≤281474976710656) (hb:Bs M bv body) (hbl:body.length≤1000000) (hz:Sl INT M sv sizes) (hzl:sizes.length≤1000) (hrk:rq=false→ck=false)
  (hQ:∀ v e M',Iu M' (AR rq ck m p n l body sizes) v e→ae [] M M'→Q (.tup [v,N .i64 (e:Int)]) M') : au 20 [.agg [St m,St p,N .i64 n,hv,bv],Bo rq,Bo ck,sv] M Q :=
 Tp hs hll hle hm hp hb hbl hz hzl hrk (fun s v M' e k o=>hQ v 0 M' (by rw[e]; exact⟨Own.kZ o,rfl⟩) k) (fun e M' h3 h4 k=>hQ aA e M' (by rw[h3]; exact⟨.nil,rfl⟩) k)
theorem Vp {n:Int} {hv bv:AV} (h1:known hv=true) (h2:hv.cells=[hv]) (h3:known bv=true) (h4:bv.cells=[bv]) : jK [N .i64 0,aA,aA] [(0,1,N .i64 n),(1,1,hv),(2,1,bv)]=some [N .i64 n,hv,bv]:=by
 have e1:known (N .i64 n)=true:=rfl
 have e3:(N .i64 n).cells=[N .i64 n]:=rfl
 simp[jK,h1,h2,h3,h4,e1,e3]
theorem QD {d:Except Nat Str} (hne:∀ e,d=.error e→e=1∨e=2) (h:UI d=0) : d=.ok (wF d):=by
 cases d with
 | ok s=>rfl
 | error e=>have:=hne e rfl; have h:e=0:=h; omega
theorem AA {first:Str} {l:List Hd} {more:Hd} {sz:Nat} {body:Str} {e:Nat} (h:ed first l more sz body=.error e) : e=1∨e=2:=by
 unfold ed at h
 split at h
 ·cases h; exact .inl rfl
 ·split at h
  ·cases h; exact .inr rfl
  ·cases h
theorem IL {m p:Str} {l:List Hd} {body:Str} (e:Nat) (h:dZ m p l body=.error e) : e=1∨e=2:=by
 unfold dZ at h
 split at h
 ·cases h; exact .inl rfl
 ·exact AA h
theorem Fq {m p:Str} {l:List Hd} {body:Str} {sz:List Int} (e:Nat) (h:bY m p l body sz=.error e) : e=1∨e=2:=by
 unfold bY at h
 split at h
 ·cases h; exact .inl rfl
 ·exact AA h
theorem Nr {M:RM} {hv bv sv ev:AV} {m p body behind:Str} {l:List Hd} {sz:List Int} {code cut:Int} {Q:ah} (hB:M.base=base w0 hi) (ha:uM M hv bv m p body l) (hs:Sl INT M sv sz) (he:Bs M ev behind) (hQ:∀ M',Q (Bo true) M') :
  au 5 [.agg [St m,St p,hv,bv],N .i64 code,sv,ev,N .i64 cut] M Q:=by
 refine pg ?_
 unfold mX
 have o1:=aG.one ha.hs
 have o2:=aG.one ha.hb.sl
 rw[iU (by simp only[List.all_cons,List.all_nil,o1,o2]; rfl) (by simp)]
 simp only[aU (x:=.row [St m,St p,hv,bv] false 26 0)]
 have k0:ae [] M (M.push (.row [St m,St p,hv,bv] false 26 0)):=(ae.refl _ _).push _
 have n1:(M.push (.row [St m,St p,hv,bv] false 26 0)).heap M.next=some (.row [St m,St p,hv,bv] false 26 0):=by simp[RM.push]
 have l2' : (M.push (.row [St m,St p,hv,bv] false 26 0)).next=M.next + 1:=rfl
 generalize M.push (.row [St m,St p,hv,bv] false 26 0)=M0 at *
 have hB0:=k0.base.trans hB
 have ha0:=ha.keep k0
 have hs0:Sl INT M0 sv sz:=aG.keep hs k0 (by simp)
 have he0:=he.keep k0 (by simp)
 clear ha hs he
 refine UD (hi:=hi) hB0 fun M1 k1=>?_
 simp only[bn,Bool.not_true,bq]
 have A:∀ {M' : RM},ae [] M0 M'→M'.heap M.next=some (.row [St m,St p,hv,bv] false 26 0):=fun k=>k.aL n1 (by omega) (by simp)
 have a2:∀ {K:AV→Prop},aj M1 (.ptr M.next 2) K=K hv:=az (A k1) rfl
 have a3:∀ {K:AV→Prop},aj M1 (.ptr M.next 3) K=K bv:=az (A k1) rfl
 have L1:∀ {K:AV→Prop},aT bv K=K (N .i64 (body.length:Int)):=ha0.hb.len
 have L2:∀ {K:AV→Prop},aT ev K=K (N .i64 (behind.length:Int)):=he0.len
 have L3:∀ {K:AV→Prop},aT sv K=K (N .i64 (sz.length:Int)):=aG.len hs0
 have L4:∀ {K:AV→Prop},aT hv K=K (N .i64 (l.length:Int)):=aG.len ha0.hs
 simp only[gK,a3,L1,cZ]
 cases c1:decide ((body.length:Int) > 2000) with
 | true=>simp only[bS,bU,bW]; exact hQ _
 | false =>
 simp only[bg,bZ,a2,L4,cZ]
 cases c2:decide ((l.length:Int) > 40) with
 | true=>simp only[bS,bU,bW]; exact hQ _
 | false =>
 simp only[bg,bZ,L3,cZ]
 cases c3:decide ((sz.length:Int) > 40) with
 | true=>simp only[bS,bU,bW]; exact hQ _
 | false =>
 simp only[bg,bZ,L2,cZ]
 refine bH (fun _=>hQ _) fun c4=>?_
 have g1:body.length≤2000:=by have:=of_decide_eq_false c1; omega
 have g2:l.length≤40:=by have:=of_decide_eq_false c2; omega
 have g3:sz.length≤40:=by have:=of_decide_eq_false c3; omega
 have g4:behind.length≤500:=by have:=of_decide_eq_false c4; omega
 clear c1 c2 c3 c4
 rw[a2,a3,gF]
 refine⟨_,Vp (aG.known ha0.hs) (aG.cells ha0.hs) (aG.known ha0.hb.sl) (aG.cells ha0.hb.sl), ?_⟩
 have c3:([N .i64 code,hv,bv] : List AV).all oneCell=true:=by simp only[List.all_cons,List.all_nil,o1,o2]; rfl
 refine Db (K:=fun t Tv=>_) 3 rfl rfl c3 fun M2 k2 n2 l2=>?_
 have k02:=k1.trans k2
 have D:∀ {M' : RM},ae [] M2 M'→M'.heap M1.next=some (.row [N .i64 code,hv,bv] false 34 0):=fun k=>k.aL n2 l2 (by simp)
 rw[bN (A k02) (by rfl)]
 refine VM (hi:=hi) (k02.base.trans hB0) (ha0.keep k02) (by omega) (by omega) fun vA nA M3 rA k3=>?_
 simp only[bB,bz]
 rw[bN (D k3) (by rfl)]
 have k03:=k02.trans k3
 refine Sa (hi:=hi) (k03.base.trans hB0) (ha0.keep k03) (by omega) (by omega) fun vB nB M4 rB k4=>?_
 simp only[bB,bz]
 have k04:=k03.trans k4
 rw[bN (A k04) (by rfl)]
 refine QV (hi:=hi) (k04.base.trans hB0) (ha0.keep k04) (by omega) (by omega) (aG.keep hs0 k04 (by simp)) (by omega) fun vC nC M5 rC k5=>?_
 simp only[bB,bz]
 have k05:=k04.trans k5
 rw[bN (A k05) (by rfl)]
 have ha5:=ha0.keep k05
 refine FY ha5.hs (by omega) ha5.hb.sl fun h6 M6 s6 k6=>?_
 have k06:=k05.trans k6
 have ha6:=ha0.keep k06
 refine MS (rq:=true) (ck:=false) (sizes:=[]) s6 (by omega) ha0.ll ha0.lm ha0.lp ha6.hb (by omega) (.nil:Sl INT M6 aA []) (by simp) (fun h=>by cases h) fun vD nD M7 rD k7=>?_
 simp only[bB,bz]
 have k07:=k06.trans k7
 have k27:ae [] M2 M7:=k3.trans (k4.trans (k5.trans (k6.trans k7)))
 rw[bN (D k27) (by rfl)]
 have ha7:=ha0.keep k07
 refine Lg ha7.hs (by omega) ha7.hb.sl fun h8 M8 s8 _ k8=>?_
 have k08:=k07.trans k8
 have ha8:=ha0.keep k08
 refine MS (rq:=false) (ck:=false) (sizes:=[]) s8 (by omega) ha0.ll (by simp) (by simp) ha8.hb (by omega) (.nil:Sl INT M8 aA []) (by simp) (fun h=>rfl) fun vE nE M9 rE k9=>?_
 simp only[bB,bz]
 have k09:=k08.trans k9
 rw[bN (A k09) (by rfl)]
 have ha9:=ha0.keep k09
 refine FY ha9.hs (by omega) ha9.hb.sl fun h10 M10 s10 k10=>?_
 have Pb:=k09.trans k10
 have Xk:=ha0.keep Pb
 refine MS (rq:=true) (ck:=true) (sizes:=sz) s10 (by omega) ha0.ll ha0.lm ha0.lp Xk.hb (by omega) (aG.keep hs0 Pb (by simp)) (by omega) (fun h=>by cases h) fun vF nF M11 rF k11=>?_
 simp only[bB,bz]
 have SN:ae [] M7 M11:=k8.trans (k9.trans (k10.trans k11))
 have Yc:ae [] M9 M11:=k10.trans k11
 have Wq:ae [] M6 M11:=k7.trans SN
 have Sj:ae [] M5 M11:=k6.trans Wq
 have Uz:ae [] M4 M11:=k5.trans Sj
 have WN:ae [] M3 M11:=k4.trans Uz
 have HZ:=Pb.trans k11
 have qA:=rA.keep WN
 have qB:=rB.keep Uz
 have qC:=rC.keep Sj
 have qD:Iu M11 (dZ m p l body) vD nD:=rD.keep SN
 have qE:Iu M11 (eQ code l body) vE nE:=rE.keep Yc
 have qF:Iu M11 (bY m p l body sz) vF nF:=rF
 have eA:=qA.er
 have eB:=qB.er
 have eC:=qC.er
 have eD:=qD.er
 have eE:=qE.er
 have eF:=qF.er
 rw[← eA] at eD
 rw[← eB] at eE
 rw[← eC] at eF
 subst eD eE eF
 have sA:∀ {K:AV→Prop},bQ M11 vA K=K (St (wF (dZ m p l body))):=qA.sl.str
 have sB:∀ {K:AV→Prop},bQ M11 vB K=K (St (wF (eQ code l body))):=qB.sl.str
 have sC:∀ {K:AV→Prop},bQ M11 vC K=K (St (wF (bY m p l body sz))):=qC.sl.str
 have sD:∀ {K:AV→Prop},bQ M11 vD K=K (St (wF (dZ m p l body))):=Sl.str qD.sl
 have sE:∀ {K:AV→Prop},bQ M11 vE K=K (St (wF (eQ code l body))):=Sl.str qE.sl
 have sF:∀ {K:AV→Prop},bQ M11 vF K=K (St (wF (bY m p l body sz))):=Sl.str qF.sl
 simp only[gN,Tn,bg,bZ,sA,sB,sC,sD,sE,sF,sw,Uw,bq]
 simp only[bX]
 have ez:∀ n:Nat,((n:Int) == 0)=decide (n=0):=fun n=>by
  rw[Bool.eq_iff_iff,beq_iff_eq,decide_eq_true_iff]; omega
 rw[bE,ez]
 refine xS (P:=ae [] M11) (p:=false) (ae.refl _ _) (fun hc k hk=>?_) fun M12 k12=>?_
 ·have h0:nD=0:=of_decide_eq_true hc
  have hd:=QD (IL (m:=m) (p:=p) (l:=l) (body:=body)) (eA.symm.trans h0)
  rw[az (A HZ) (i:=3) rfl]
  refine Od (hi:=hi) (HZ.base.trans hB0) qA.sl qA.ln (ha0.keep HZ).hb (he0.keep HZ (by simp)) (by omega) (Gs hd) fun M12 k12=>?_
  rw[bn]
  exact hk M12 k12
 have LM:=HZ.trans k12
 simp only[Bool.and_false,bg,bZ]
 rw[bE,ez]
 refine xS (P:=ae [] M12) (p:=false) (ae.refl _ _) (fun hc k hk=>?_) fun M13 k13=>?_
 ·have h0:nF=0:=of_decide_eq_true hc
  have hd:=QD (Fq (m:=m) (p:=p) (l:=l) (body:=body) (sz:=sz)) (eC.symm.trans h0)
  rw[az (A LM) (i:=3) rfl]
  have qC':=qC.keep k12
  refine Od (hi:=hi) (LM.base.trans hB0) qC'.sl qC'.ln (ha0.keep LM).hb (he0.keep LM (by simp)) (by omega) (DI hd) fun M13 k13=>?_
  rw[bn]
  exact hk M13 k13
 simp only[Bool.and_false,bq]
 exact hQ _
end
end Go.Ab.Hw
namespace Go.Ab.Hw
open Go Go.Ab Go.RowKit Go.Proofs
open Go.Proofs.YtmjcgbaacndblaaGreatDoor
theorem Ar {P:Program} {n:String} {d:DataW Unit} {r:List (String × DataW Unit)} {w:World} (h:laidMet P ((n,d) :: r) w) : laidMet P r w:=by
 obtain⟨ps,⟨g,t,cs,fuel,p,q,_,_,_,_,hs,rfl⟩,hnd,hall⟩:=h
 exact⟨q,hs,(List.nodup_append.1 hnd).2.1,fun b off hm=>hall b off (by simp[hm])⟩
theorem RF:Rows.httpwireKnownRow.laid=("math/bits.deBruijn32tab",Rows.laid_math_bits_deBruijn32tab) :: ("math/bits.deBruijn64tab",Lib.tabData .u8 LQ) :: ("internal/strconv.uint64pow10",Lib.tabData .u64 Lib.pow10Tab) :: Rows.httpwireKnownRow.laid.drop 3:=by kernel_rfl
theorem inv_of (w:World) (h:laidMetH Tryz.prog Rows.httpwireKnownRow.laid w) (hsh:w.ShapedOpen Tryz.prog) : Iv w:=by
 rw[MakeChecks.laidMetH_plain _ _ _ (by kernel_rfl),RF] at h
 refine⟨cell_of_shapedOpen_int (g:=0) (t:=3) (zero := #[.int .i64 0]) hsh (by decide +kernel) (by kernel_rfl) (by kernel_rfl) (by kernel_rfl) (by kernel_rfl) (by kernel_rfl), ?_, ?_⟩
 ·exact Lib.tabIs_of_head (g:=3) (t:=152) (e:=126) (n:=20) g3 (by kernel_rfl) (by kernel_rfl) (by kernel_rfl) (by kernel_rfl) (by kernel_rfl) (Ar (Ar h))
 ·exact Lib.tabIs_of_head (g:=7) (t:=173) (e:=5) (n:=64) g7 (by kernel_rfl) (by kernel_rfl) (by kernel_rfl) (by kernel_rfl) (by kernel_rfl) (Ar h)
theorem NM {P:Program} {M:RM} {t e:TypeId} {v:AV} (h:Fits P M t [v]) (hu:P.underlying t=some (.slice e)) (hz:0<P.cellsOf e) : MO v:=by
 generalize hc:[v]=cs at h
 cases h with
 | K9 _ e' h1=>cases hc; trivial
 | emp _ e' b h1=>cases hc; trivial
 | slc _ e' b o n c ds h1 h2 h3 h4 h5 h6=>cases hc; exact h3
 | zero _ e' _ h1 h2=>rw[hu] at h1; cases h1; omega
 | _=>simp_all [tH]
theorem xC:reachBytes≤281474976710656:=by decide +kernel
theorem cells5:Tryz.prog.cellsOf 5=1:=by kernel_rfl
theorem OP:Tryz.prog.cellsOf 9=1:=by kernel_rfl
theorem cells3:Tryz.prog.cellsOf 3=1:=by kernel_rfl
theorem RV:Tryz.prog.cellsOf 23=1:=by kernel_rfl
theorem RN:Tryz.prog.cellsOf 24=1:=by kernel_rfl
theorem EK:Tryz.prog.cellsOf 56=2:=by kernel_rfl
theorem Q6:Tryz.prog.cellsOf 26=4:=by kernel_rfl
theorem Rt {M:RM} {cs:List AV} (h:Fits Tryz.prog M 5 cs) : ∃ k:UInt8,cs=[By k]:=by
 obtain⟨n,rfl,h1,h2⟩:=h.Bq Tryz.underlying5
 have h1:(0:Int)≤n:=h1
 have h2:n≤(255:Int):=h2
 refine⟨UInt8.ofNat n.toNat, ?_⟩
 have:((UInt8.ofNat n.toNat).toNat:Int)=n:=by
  rw[UInt8.toNat_ofNat']
  omega
 rw[By,this]
theorem C8 {M:RM} {cs:List AV} (h:Fits Tryz.prog M 24 cs) : ∃ v,∃ bs:Str,cs=[v]∧Bs M v bs:=by
 obtain⟨v,n,ds,rfl,hs,hb,he⟩:=h.A8 Tryz.underlying24 (by rw[cells5]; decide)
 have hc:=NM h Tryz.underlying24 (by rw[cells5]; decide)
 rw[cells5] at hs he
 obtain⟨xs,rfl,rfl,_⟩:=uD (size:=1) BY.cells (fun _=>True) (fun _=>rfl) n ds hs.length fun i hi=>by
  obtain⟨k,e⟩:=Rt (he i hi)
  exact⟨k,trivial,e⟩
 exact⟨v,xs,rfl,hs,hc⟩
theorem Rb {M:RM} {cs:List AV} (h:Fits Tryz.prog M 56 cs) : ∃ x:Hd,(x.1.length≤281474976710656∧x.2.length≤281474976710656)∧cs=HD.cells x:=by
 obtain⟨hl,hf⟩:=h.Dw Tryz.underlying56
 rw[EK] at hl
 match cs,hl with
 | [a,b],_ =>
   have f0:Fits Tryz.prog M 9 (([a,b].drop 0).take (Tryz.prog.cellsOf 9)):=hf 0 _ rfl
   have f1:Fits Tryz.prog M 9 (([a,b].drop 1).take (Tryz.prog.cellsOf 9)):=hf 1 _ rfl
   rw[OP] at f0 f1
   obtain⟨s,e,g⟩:=f0.Bw Tryz.underlying9
   obtain⟨t,e',g'⟩:=f1.Bw Tryz.underlying9
   cases e; cases e'
   exact⟨(s,t),⟨Nat.le_trans g xC,Nat.le_trans g' xC⟩,rfl⟩
theorem O6 {M:RM} {cs:List AV} (h:Fits Tryz.prog M 23 cs) : ∃ v,∃ l:List Hd,cs=[v]∧Sl HD M v l∧∀ x∈l,x.1.length≤281474976710656∧x.2.length≤281474976710656:=by
 obtain⟨v,n,ds,rfl,hs,hb,he⟩:=h.A8 Tryz.underlying23 (by rw[EK]; decide)
 rw[EK] at hs he
 obtain⟨xs,rfl,rfl,hp⟩:=uD (size:=2) HD.cells (fun x:Hd=>x.1.length≤281474976710656∧x.2.length≤281474976710656) (fun _=>rfl) n ds hs.length fun i hi=>by
  obtain⟨x,g,e⟩:=Rb (he i hi)
  exact⟨x,g,e⟩
 exact⟨v,xs,rfl,hs,hp⟩
theorem Ol {M:RM} {cs:List AV} (h:Fits Tryz.prog M 46 cs) : ∃ v,∃ l:List Int,cs=[v]∧Sl INT M v l:=by
 obtain⟨v,n,ds,rfl,hs,hb,he⟩:=h.A8 Tryz.underlying46 (by rw[cells3]; decide)
 rw[cells3] at hs he
 obtain⟨xs,rfl,rfl,_⟩:=uD (size:=1) INT.cells (fun _=>True) (fun _=>rfl) n ds hs.length fun i hi=>by
  obtain⟨k,e,_⟩:=(he i hi).Bq Tryz.underlying3
  exact⟨k,trivial,e⟩
 exact⟨v,xs,rfl,hs⟩
theorem Pz {M:RM} {cs:List AV} (h:Fits Tryz.prog M 26 cs) : ∃ (m p body:Str) (hv bv:AV) (l:List Hd),cs=[St m,St p,hv,bv]∧m.length≤281474976710656∧p.length≤281474976710656∧Sl HD M hv l∧(∀ x∈l,x.1.length≤281474976710656∧x.2.length≤281474976710656)∧Bs M bv body:=by
 obtain⟨hl,hf⟩:=h.Dw Tryz.underlying26
 rw[Q6] at hl
 match cs,hl with
 | [a,b,c,d],_ =>
   have f0:Fits Tryz.prog M 9 (([a,b,c,d].drop 0).take (Tryz.prog.cellsOf 9)):=hf 0 _ rfl
   have f1:Fits Tryz.prog M 9 (([a,b,c,d].drop 1).take (Tryz.prog.cellsOf 9)):=hf 1 _ rfl
   have f2:Fits Tryz.prog M 23 (([a,b,c,d].drop 2).take (Tryz.prog.cellsOf 23)):=hf 2 _ rfl
   have f3:Fits Tryz.prog M 24 (([a,b,c,d].drop 3).take (Tryz.prog.cellsOf 24)):=hf 3 _ rfl
   rw[OP] at f0 f1
   rw[RV] at f2
   rw[RN] at f3
   obtain⟨s,e,g⟩:=f0.Bw Tryz.underlying9
   obtain⟨t,e',g'⟩:=f1.Bw Tryz.underlying9
   obtain⟨hv,l,e2,s2,g2⟩:=O6 f2
   obtain⟨bv,bs,e3,s3⟩:=C8 f3
   cases e; cases e'; cases e2; cases e3
   exact⟨s,t,bs,_,_,l,rfl,Nat.le_trans g xC,Nat.le_trans g' xC,s2,g2,s3⟩
end Go.Ab.Hw
namespace Go.Proofs.YtmjcgbaacndblaaGreatDoor.httpwirePrints
open Go Go.Ab Go.ChangeShapes Go.WideShapes Go.ChangeAt Go.RowKit
theorem own:ownKnob Tryz.prog.godebug=none:=by kernel_rfl
open Go.Ab.Hw
def Inv (w:World) : Prop:=Iv w
theorem inv_of (w:World) (h:laidMetH Tryz.prog Rows.httpwirePrintsRow.laid w) (hsh:w.ShapedOpen Tryz.prog) : Inv w:=Go.Ab.Hw.inv_of w h hsh
theorem walk (w:World) (hi:Inv w) (v0 v1 v2 v3 v4:Value) (h0:kX Tryz.prog (RM.old (base w hi) w) 26 (lJ w.heap.size v0)) (h1:kX Tryz.prog (RM.old (base w hi) w) 3 (lJ w.heap.size v1)) (h2:kX Tryz.prog (RM.old (base w hi) w) 46 (lJ w.heap.size v2)) (h3:kX Tryz.prog (RM.old (base w hi) w) 24 (lJ w.heap.size v3)) (h4:kX Tryz.prog (RM.old (base w hi) w) 3 (lJ w.heap.size v4)) :
  Calls Tryz.prog 5 #[v0,v1,v2,v3,v4] w fun e w'=>e=.returned (.bool true)∧Below w.heap.size w w':=by
 obtain⟨cs0,f0,hf0⟩:=h0.agg (by kernel_rfl)
 obtain⟨m0,p0,y0,hv0,bv0,l0,e0,gm0,gp0,gs0,gl0,gb0⟩:=Pz hf0
 rw[e0] at f0
 have r0:uM (RM.old (base w hi) w) hv0 bv0 m0 p0 y0 l0:=⟨gs0,gb0,gl0,gm0,gp0⟩
 obtain⟨n1,e1,_⟩:=(h1.one (by kernel_rfl)).Bq Tryz.underlying3
 obtain⟨u2,b2,e2,g2⟩:=Ol (h2.one (by kernel_rfl))
 obtain⟨u3,b3,e3,g3⟩:=C8 (h3.one (by kernel_rfl))
 obtain⟨n4,e4,_⟩:=(h4.one (by kernel_rfl)).Bq Tryz.underlying3
 refine fe.close (base:=base w hi) rfl hi ?_
 simp only[List.map_cons,List.map_nil]
 rw[show lJ (base w hi).n v0=.agg [St m0,St p0,hv0,bv0] from f0,show lJ (base w hi).n v1=N .i64 n1 from(List.cons.inj e1).1,show lJ (base w hi).n v2=u2 from(List.cons.inj e2).1,show lJ (base w hi).n v3=u3 from(List.cons.inj e3).1,show lJ (base w hi).n v4=N .i64 n4 from(List.cons.inj e4).1]
 exact Nr (hi:=hi) rfl r0 g2 g3 fun M'=>rfl
set_option maxRecDepth 100000 in
theorem lifted (os:Os) (started:os.Started) (H:Type) (enc:TypeId × Value→H) :
  ReturnsInHanded {} Tryz.checked os 5 .any (fun w args=>(Rows.httpwirePrintsSpec.pre enc Tryz.prog Tryz.f5 Rows.httpwirePrintsRow.domain false w args∧laidMetH Tryz.prog Rows.httpwirePrintsRow.laid w)∧sizedMet enc Tryz.prog Tryz.f5 (OpenSpec.ofChange Rows.httpwirePrintsSpec) false w args)
   (Rows.httpwirePrintsSpec.post enc Tryz.prog Tryz.f5 false true false false):=by
 refine BC (C:=Tryz.checked) (X:=fun w _=>laidMetH Tryz.prog Rows.httpwirePrintsRow.laid w) (fun _ _ _ hh h=>h.of_heap hh) own started (by kernel_rfl) Tryz.func5
  (ChangeSpec.witness_shaped (enc:=enc) (C:=Tryz.checked) (os:=os) (X:=fun w _=>laidMetH Tryz.prog Rows.httpwirePrintsRow.laid w) false (World.laidAll Tryz.prog os Rows.httpwirePrintsRow.laid) #[.agg ⟨[.string ⟨#[]⟩,.string ⟨#[]⟩,.slice none 0 0,.slice none 0 0]⟩,.int .i64 0,.slice none 0 0,.slice none 0 0,.int .i64 0] 8 (World.laidAll_os _ _ _)
   (World.shaped_of_ZipB (by kernel_rfl) (by kernel_rfl)) (by kernel_rfl) (by kernel_rfl) (by kernel_rfl)
   (by rw[MakeChecks.laidMetH_plain _ _ _ (by kernel_rfl)]; exact laidMet_laidAll _ (by kernel_rfl) (by kernel_rfl))) ?_
 intro W b0 args ds gs before hval hW hcnd hwt hL hsh _
 have hW':=hW
 obtain⟨p,q,hA,hV,rfl,hfz,hnd⟩:=hW
 rw[Tryz.params5] at hA hwt
 have hi:Inv W:=inv_of W hL hsh
 obtain⟨rfl,rfl⟩:=trodVars_none hV
 have hfit:=Ik (base:=base W hi) rfl hA (fun j t v hj hv=>hval j t v (by rw[Tryz.params5]; simpa using hj) (by simpa using hv)) (fun y hy=>by
  have XZ:(DataW.weightsEach Tryz.prog [26,3,46,24,3] (ds++[])).all (· ≤ reachBytes)=true:=hwt
  have:=List.all_eq_true.1 XZ y (by rw[List.append_nil]; exact hy)
  simpa using this)
 simp only[List.append_nil] at hW'
 have hlt:∀ x∈p,x.block<W.heap.size:=fun x hx=>hW'.lt x hx
 obtain⟨v0,v1,v2,v3,v4,d0,d1,d2,d3,d4,p0,p1,p2,p3,p4,rfl,rfl,rfl,h0,h1,h2,h3,h4⟩:=IV hA
 refine(walk W hi v0 v1 v2 v3 v4 (hfit 0 _ _ rfl rfl) (hfit 1 _ _ rfl rfl) (hfit 2 _ _ rfl rfl) (hfit 3 _ _ rfl rfl) (hfit 4 _ _ rfl rfl)).mono fun e W' ⟨he,hg⟩=>?_
 subst he
 exact⟨_,rfl,Gq (pa:=_) (pv:=[]) hW' (fun _ _ _=>(trodAll_cons_mk (shut_bool Tryz.underlying4 _) trodAll_mk0)) (fun sp hsp=>by
   rw[Tryz.params5]
   exact yX (by kernel_rfl) hg (fun t ht=>by
    have ht:t=26∨t=3∨t=46∨t=24∨t=3:=by simpa using ht
    rcases ht with rfl | rfl | rfl | rfl | rfl <;> exact⟨by kernel_rfl,of_decide_eq_true (by kernel_rfl)⟩) hA hlt hsp) (fun _ _=>rfl) (by simp)
  hg (ok_one (by kernel_rfl) rfl (okWide_bool_mk Tryz.underlying4 _))⟩
theorem over:Rows.HttpwirePrintsSaid :=
 OpenClaim.holds_of_wide 5 Tryz.f5 rfl rfl rfl rfl rfl rfl rfl ⟨rfl,rfl,rfl,rfl,rfl⟩ rfl rfl rfl rfl rfl (by kernel_rfl) Tryz.func5 (by kernel_rfl)
  (of_decide_eq_true (by kernel_rfl)) (by unfold Func.isWrapper; first | (rw[if_pos (by decide +kernel)]; kernel_rfl) | (rw[if_neg (by decide +kernel)]; exact⟨rfl,rfl⟩))
  (fun os started H enc _=>lifted os started H enc)
theorem proved:Rows.HttpwirePrintsCardSaid :=
 Claim7.holds_tied_plain_at .later [] [.data,.data,.data,.data,.sentinel,.sentinel,.pinned] true (true,"362dc9c824334cfe19c170802755e1a7d2dd71729a4e635eeb53d76f24be5b19") true
  over (fun _ h=>by cases h) (by kernel_rfl) (fun _ h=>by cases h) httpwirePrints_row_tie rfl ⟨rfl,rfl⟩ (by kernel_rfl) rfl
  (fun f fn hf hfn=>by
   obtain rfl:f=5:=Option.some.inj ((show Tryz.prog.funcNamed "rolodex/rolodexlaw17.HttpwirePrints" = some 5 by kernel_rfl).symm.trans hf) |>.symm
   obtain rfl:fn=Tryz.f5:=(Option.some.inj (Tryz.func5.symm.trans hfn)).symm
   exact⟨by kernel_rfl,fun j t ht=>by
    rw[Tryz.params5] at ht
    have hm:=Array.mem_of_getElem? ht
    have hm:t=26∨t=3∨t=46∨t=24∨t=3:=by simpa using hm
    rcases hm with rfl | rfl | rfl | rfl | rfl
    ·exact(by kernel_rfl:Tryz.prog.wantsStandIn 26=false)
    ·exact(by kernel_rfl:Tryz.prog.wantsStandIn 3=false)
    ·exact(by kernel_rfl:Tryz.prog.wantsStandIn 46=false)
    ·exact(by kernel_rfl:Tryz.prog.wantsStandIn 24=false)
    ·exact(by kernel_rfl:Tryz.prog.wantsStandIn 3=false)⟩)
  (by kernel_rfl)
end Go.Proofs.YtmjcgbaacndblaaGreatDoor.httpwirePrints
