/- - 'HttpwireGets' returns true, in whatever world it is called. By an AI agent. -/
import Derived.Test.YtmjcgbaacndblaaGreatDoorHwg4
import Derived.KernelRfl
import Derived.Test.YtmjcgbaacndblaaGreatDoorProg
import Derived.Lib.LaidTab
import Derived.Shelf.Vars
import Derived.Shelf.Strings.Split
import Derived.Shelf.Strings.SlTrimAscii
import Derived.Shelf.Strconv.Itoa3
import Derived.Shelf.Strconv.Atoi
import Derived.Lib.AtoiErrMem
import Derived.Shelf.Spec.TrailingZeros
import Derived.Shelf.Bytes.SlIndexWhole
import Derived.Test.YtmjcgbaacndblaaGreatDoorRows
import Derived.LaidMore
import Derived.Lay
import Derived.Test.YtmjcgbaacndblaaGreatDoorTie
import Derived.Test.YtmjcgbaacndblaaGreatDoorCards
import Derived.Carry
import Derived.WalkKit
import Derived.ProofKit
import Derived.OpenShut
import Derived.SevenTiedAt
import Derived.Stop.Joined
set_option maxRecDepth 100000
set_option linter.unusedVariables false
set_option linter.unusedSimpArgs false
namespace Go.Proofs.YtmjcgbaacndblaaGreatDoor
open Go Go.Ab
abbrev aj := @dD Tryz.prog
theorem PS:vJ Tryz.prog:=⟨KL (by kernel_rfl),by kernel_rfl⟩
theorem aV {f:FuncId} {fn:Func} {args:List AV} {M:RM} {Q:ah} {B:Prop} (h:B) (hfn:Tryz.prog.funcs[f]?=some fn:=by kernel_rfl) (e:B=Cz Tryz.prog fn args M Q:=by kernel_rfl) : aj f args M Q:=Km PS hfn (e▸h)
variable {a0 a1 a2 a3 a4 a5 a6 a7:AV} {M:RM} {Q:ah}
theorem ol (h:Go.Ab.Hw.mE (aj 10) (aj 22) (aj 23) (aj 24) a0 a1 M Q) : aj 6 [a0,a1] M Q:=aV (fn:=Tryz.f6) h
theorem vE (h:Go.Ab.Hw.uY 56 26 (aj 12) 5 (aj 11) (aj 22) (aj 13) (aj 14) 34 (aj 23) 3 (aj 19)  M Q) : aj 10 [] M Q:=aV (fn:=Tryz.f10) h
theorem mR (h:Go.Ab.Hw.iG 26 26 (aj 25) (aj 30) a0 M Q) : aj 11 [a0] M Q:=aV (fn:=Tryz.f11) h
theorem mK (h:Go.Ab.Hw.gU 26 (aj 31) (aj 33) (aj 32) a0 M Q) : aj 12 [a0] M Q:=aV (fn:=Tryz.f12) h
theorem mH (h:Go.Ab.Hw.gL 34 (aj 34) (aj 33) (aj 32) a0 M Q) : aj 13 [a0] M Q:=aV (fn:=Tryz.f13) h
theorem mM (h:Go.Ab.Hw.gP 34 35 (aj 25) (aj 30) a0 M Q) : aj 14 [a0] M Q:=aV (fn:=Tryz.f14) h
theorem ql (h:Go.Ab.Hw.jW 26 (aj 31) (aj 47) 3 5 (aj 49) 24 (aj 48) (aj 32) a0 a1 M Q) : aj 19 [a0,a1] M Q:=aV (fn:=Tryz.f19) h
theorem iQ (h:Go.Ab.Hw.iH 26 (aj 55) a0 a1 M Q) : aj 22 [a0,a1] M Q:=aV (fn:=Tryz.f22) h
theorem iL (h:Go.Ab.Hw.gQ 34 (aj 55) a0 a1 M Q) : aj 23 [a0,a1] M Q:=aV (fn:=Tryz.f23) h
theorem xV (h:Go.Ab.Hw.rH 5 a0 M Q) : aj 24 [a0] M Q:=aV (fn:=Tryz.f24) h
theorem tF (h:Go.Ab.Hw.mg (aj 56) (aj) (aj 57) 56 a0 a1 M Q) : aj 25 [a0,a1] M Q:=aV (fn:=Tryz.f25) h
theorem mI (h:Go.Ab.Hw.gI (aj 27) (aj 28) (aj 29) a0 a1 M Q) : aj 26 [a0,a1] M Q:=aV (fn:=Tryz.f26) h
theorem nZ (h:Go.Ab.Hw.iZ (aj 59) (aj 37) 60 a0 M Q) : aj 28 [a0] M Q:=aV (fn:=Tryz.f28) h
theorem oG (h:Go.Ab.Hw.jC (aj 61) (aj 37) 62 a0 M Q) : aj 29 [a0] M Q:=aV (fn:=Tryz.f29) h
theorem sK (h:Go.Ab.Hw.mh (aj 63) (aj 64) (aj 65) (aj 59) (aj 37) 38 (aj 40) (aj 66) a0 a1 a2 M Q) : aj 30 [a0,a1,a2] M Q:=aV (fn:=Tryz.f30) h
theorem mX (h:Go.Ab.Hw.iC 26 (aj 28) (aj 29) a0 M Q) : aj 31 [a0] M Q:=aV (fn:=Tryz.f31) h
theorem qB (h:Go.Ab.Hw.jU 56 (aj 67) (aj 68) (aj 64) 5 a0 a1 a2 a3 a4 M Q) : aj 32 [a0,a1,a2,a3,a4] M Q:=aV (fn:=Tryz.f32) h
theorem qE (h:Go.Ab.Hw.jM 56 (aj 34) a0 M Q) : aj 33 [a0] M Q:=aV (fn:=Tryz.f33) h
theorem lS (h:Go.Ab.Hw.fZ (aj 36) (aj 37) 38 39 (aj 40) a0 a1 M Q) : aj 35 [a0,a1] M Q:=aV (fn:=Tryz.f35) h
theorem oz (h:Go.Ab.Vl.jr (aj 70) a0 a1 M Q) : aj 36 [a0,a1] M Q:=aV (fn:=Tryz.f36) h
theorem cZ (h:Go.Ab.Hw.nH 5 (aj) a0 a1 M Q) : aj 37 [a0,a1] M Q:=aV (fn:=Tryz.f37) h
theorem rY (h:Go.Ab.Hw.lh a0 M Q) : aj 38 [a0] M Q:=aV (fn:=Tryz.f38) h
theorem kT (h:Go.Ab.Hw.fD a0 M Q) : aj 39 [a0] M Q:=aV (fn:=Tryz.f39) h
theorem xS (h:Go.Ab.Hw.sw 3 a0 M Q) : aj 47 [a0] M Q:=aV (fn:=Tryz.f47) h
theorem vD (h:Go.Ab.Hw.oo 9 (aj 75) 5 a0 M Q) : aj 48 [a0] M Q:=aV (fn:=Tryz.f48) h
theorem oH (h:Go.Ab.Hw.mQ (aj 76) a0 a1 M Q) : aj 49 [a0,a1] M Q:=aV (fn:=Tryz.f49) h
theorem sj (h:Go.Ab.Hw.lv (aj 63) a0 a1 M Q) : aj 55 [a0,a1] M Q:=aV (fn:=Tryz.f55) h
theorem sP (h:Go.Ab.Hw.mG 5 (aj 78) a0 a1 M Q) : aj 56 [a0,a1] M Q:=aV (fn:=Tryz.f56) h
theorem qN (h:Go.Ab.Hw.kF 56 (aj 79) (aj 80) (aj 67) (aj 68) a0 M Q) : aj 57 [a0] M Q:=aV (fn:=Tryz.f57) h
theorem qO (h:Go.Ab.Hw.kG a0 a1 a2 M Q) : aj 59 [a0,a1,a2] M Q:=aV (fn:=Tryz.f59) h
theorem si (h:Go.Ab.Hw.lI a0 M Q) : aj 60 [a0] M Q:=aV (fn:=Tryz.f60) h
theorem oJ (h:Go.Ab.Vl.mO (aj 84) a0 a1 M Q) : aj 61 [a0,a1] M Q:=aV (fn:=Tryz.f61) h
theorem pX (h:Go.Ab.Hw.jI a0 M Q) : aj 62 [a0] M Q:=aV (fn:=Tryz.f62) h
theorem rR (h:Go.Ab.Hw.kZ 56 (aj 64) 9 a0 a1 M Q) : aj 63 [a0,a1] M Q:=aV (fn:=Tryz.f63) h
theorem rV (h:Go.Ab.Hw.lG 5 a0 M Q) : aj 64 [a0] M Q:=aV (fn:=Tryz.f64) h
theorem pO (h:Go.Ab.Hw.jY (aj 85) 5 a0 a1 M Q) : aj 65 [a0,a1] M Q:=aV (fn:=Tryz.f65) h
theorem vG (h:Go.Ab.Dot.qF 5 a0 M Q) : aj 66 [a0] M Q:=aV (fn:=Tryz.f66) h
theorem oC (h:Go.Ab.Hw.jA (aj 59) (aj 64) (aj 37) 86 a0 M Q) : aj 67 [a0] M Q:=aV (fn:=Tryz.f67) h
theorem oh (h:Go.Ab.Hw.jk (aj 80) (aj 37) 87 a0 M Q) : aj 68 [a0] M Q:=aV (fn:=Tryz.f68) h
theorem jw (h:Go.Ab.Vl.dR (aj 84) a0 a1 M Q) : aj 70 [a0,a1] M Q:=aV (fn:=Tryz.f70) h
theorem xX (h:Go.Ab.Hw.rJ 9 5 a0 a1 M Q) : aj 75 [a0,a1] M Q:=aV (fn:=Tryz.f75) h
theorem kC (h:Go.Ab.Hw.eY (aj 93) 125 (aj 94) (aj 95) (aj 96) a0 a1 M Q) : aj 76 [a0,a1] M Q:=aV (fn:=Tryz.f76) h
theorem vC (h:Go.Ab.Vl.og (aj 102) a0 a1 M Q) : aj 79 [a0,a1] M Q:=aV (fn:=Tryz.f79) h
theorem uk (h:Go.Ab.Vl.sM (aj 104) (aj 103) (aj 105) 135 (aj 107) (aj 106) (aj 109) (aj 108) a0 a1 M Q) : aj 80 [a0,a1] M Q:=aV (fn:=Tryz.f80) h
theorem jy (h:Go.Ab.Vl.dO a0 a1 M Q) : aj 84 [a0,a1] M Q:=aV (fn:=Tryz.f84) h
theorem sQ (h:Go.Ab.Hw.mi 5 (aj 114) (aj 59) (aj 64) (aj 37) 115 (aj 116) a0 a1 M Q) : aj 85 [a0,a1] M Q:=aV (fn:=Tryz.f85) h
theorem nX (h:Go.Ab.Hw.iN (aj 38) a0 M Q) : aj 86 [a0] M Q:=aV (fn:=Tryz.f86) h
theorem ni (h:Go.Ab.Hw.iA a0 M Q) : aj 87 [a0] M Q:=aV (fn:=Tryz.f87) h
theorem j5 (h:Go.Ab.Hw.eO 9 154 (aj 123) (aj 124) 5 a0 a1 a2 a3 a4 M Q) : aj 96 [a0,a1,a2,a3,a4] M Q:=aV (fn:=Tryz.f96) h
theorem lu (h:Go.Ab.Vl.fT (aj 113) a0 a1 M Q) : aj 102 [a0,a1] M Q:=aV (fn:=Tryz.f102) h
theorem kK (h:Go.Ab.Hw.bL (aj 131) 0 (DN Tryz.prog 132) (aj 100) (aj 133) a0 a1 M Q) : aj 113 [a0,a1] M Q:=aV (fn:=Tryz.f113) h
theorem xU (h:Go.Ab.Hw.r9 (aj 78) a0 a1 M Q) : aj 114 [a0,a1] M Q:=aV (fn:=Tryz.f114) h
theorem qP (h:Go.Ab.Hw.kD (aj 38) a0 M Q) : aj 115 [a0] M Q:=aV (fn:=Tryz.f115) h
theorem oO (h:Go.Ab.Hw.jB (aj 117) (aj 72) a0 a1 a2 M Q) : aj 116 [a0,a1,a2] M Q:=aV (fn:=Tryz.f116) h
theorem kH (h:Go.Ab.Hw.fq 119 (aj 134) 5 (aj 135) a0 a1 a2 M Q) : aj 117 [a0,a1,a2] M Q:=aV (fn:=Tryz.f117) h
theorem jF (h:Go.Ab.Hw.ed a0 M Q) : aj 123 [a0] M Q:=aV (fn:=Tryz.f123) h
theorem jv (h:Go.Ab.Vl.gG (DN Tryz.prog 140) a0 a1 M Q) : aj 131 [a0,a1] M Q:=aV (fn:=Tryz.f131) h
theorem mF (h:Go.Ab.Hw.gH a0 M Q) : aj 134 [a0] M Q:=aV (fn:=Tryz.f134) h
end Go.Proofs.YtmjcgbaacndblaaGreatDoor
namespace Go.Proofs
open Go.RowKit Go.Shelf
def Tryz.lays185_ren:Go.Shelf.Ren:=⟨fun | 185=>78 | 187=>97 | 115=>98 | 253=>99 | 224=>100 | 254=>101 | 255=>125 | 291=>126 | n=>n,fun | 37=>24 | 3=>3 | 4=>4 | 0=>0 | 5=>5 | 46=>60 | 9=>9 | 146=>157 | 51=>153 | n=>n,fun | 1=>0 | n=>n⟩
theorem Tryz.lays185:Go.Proofs.Lays.n185 Tryz.prog Tryz.lays185_ren where
 mixed:=by kernel_rfl
 f115:=Tryz.func98.trans (congrArg some (by kernel_rfl))
 f185:=Tryz.func78.trans (congrArg some (by kernel_rfl))
 f187:=Tryz.func97.trans (congrArg some (by kernel_rfl))
 f224:=Tryz.func100.trans (congrArg some (by kernel_rfl))
 f253:=Tryz.func99.trans (congrArg some (by kernel_rfl))
 f254:=Tryz.func101.trans (congrArg some (by kernel_rfl))
 f255:=Tryz.func125.trans (congrArg some (by kernel_rfl))
 f291:=Tryz.func126.trans (congrArg some (by kernel_rfl))
 t0:=Tryz.underlying0
 a0:=Tryz.isAgg0
 z0:=Tryz.sizeOf0
 v0:=Tryz.zeroValue0
 t3:=Tryz.underlying3
 a3:=Tryz.isAgg3
 z3:=Tryz.sizeOf3
 v3:=Tryz.zeroValue3
 t4:=Tryz.underlying4
 a4:=Tryz.isAgg4
 z4:=Tryz.sizeOf4
 v4:=Tryz.zeroValue4
 t5:=Tryz.underlying5
 a5:=Tryz.isAgg5
 z5:=Tryz.sizeOf5
 v5:=Tryz.zeroValue5
 t9:=Tryz.underlying9
 a9:=Tryz.isAgg9
 z9:=Tryz.sizeOf9
 v9:=Tryz.zeroValue9
 t37:=Tryz.underlying24
 a37:=Tryz.isAgg24
 z37:=Tryz.sizeOf24
 v37:=Tryz.zeroValue24
 t46:=Tryz.underlying60
 a46:=Tryz.isAgg60
 z46:=Tryz.sizeOf60
 v46:=Tryz.zeroValue60
 t51:=Tryz.underlying153
 a51:=Tryz.isAgg153
 z51:=Tryz.sizeOf153
 v51:=Tryz.zeroValue153
 t146:=Tryz.underlying157
 a146:=Tryz.isAgg157
 z146:=Tryz.sizeOf157
 v146:=Tryz.zeroValue157
 g1:=by kernel_rfl
def Tryz.lays146_ren:Go.Shelf.Ren:=⟨fun | 146=>27 | 221=>58 | 268=>81 | 138=>82 | 143=>83 | 195=>110 | 197=>111 | 218=>112 | 219=>113 | 260=>130 | 217=>131 | 225=>132 | 224=>100 | 267=>133 | 266=>140 | 314=>141 | n=>n,fun | 9=>9 | 31=>64 | 3=>3 | 4=>4 | 0=>0 | 105=>141 | 21=>21 | 5=>5 | 46=>60 | 119=>167 | 139=>170 | 138=>169 | 146=>157 | 51=>153 | n=>n,fun | 1=>0 | 3=>4 | 4=>5 | n=>n⟩
theorem Tryz.lays146:Go.Proofs.Lays.n146 Tryz.prog Tryz.lays146_ren where
 mixed:=by kernel_rfl
 f138:=Tryz.func82.trans (congrArg some (by kernel_rfl))
 f143:=Tryz.func83.trans (congrArg some (by kernel_rfl))
 f146:=Tryz.func27.trans (congrArg some (by kernel_rfl))
 f195:=Tryz.func110.trans (congrArg some (by kernel_rfl))
 f197:=Tryz.func111.trans (congrArg some (by kernel_rfl))
 f217:=Tryz.func131.trans (congrArg some (by kernel_rfl))
 f218:=Tryz.func112.trans (congrArg some (by kernel_rfl))
 f219:=Tryz.func113.trans (congrArg some (by kernel_rfl))
 f221:=Tryz.func58.trans (congrArg some (by kernel_rfl))
 f224:=Tryz.func100.trans (congrArg some (by kernel_rfl))
 f225:=Tryz.func132.trans (congrArg some (by kernel_rfl))
 f260:=Tryz.func130.trans (congrArg some (by kernel_rfl))
 f266:=Tryz.func140.trans (congrArg some (by kernel_rfl))
 f267:=Tryz.func133.trans (congrArg some (by kernel_rfl))
 f268:=Tryz.func81.trans (congrArg some (by kernel_rfl))
 f314:=Tryz.func141.trans (congrArg some (by kernel_rfl))
 t0:=Tryz.underlying0
 a0:=Tryz.isAgg0
 z0:=Tryz.sizeOf0
 v0:=Tryz.zeroValue0
 t3:=Tryz.underlying3
 a3:=Tryz.isAgg3
 z3:=Tryz.sizeOf3
 v3:=Tryz.zeroValue3
 t4:=Tryz.underlying4
 a4:=Tryz.isAgg4
 z4:=Tryz.sizeOf4
 v4:=Tryz.zeroValue4
 t5:=Tryz.underlying5
 a5:=Tryz.isAgg5
 z5:=Tryz.sizeOf5
 v5:=Tryz.zeroValue5
 t9:=Tryz.underlying9
 a9:=Tryz.isAgg9
 z9:=Tryz.sizeOf9
 v9:=Tryz.zeroValue9
 t21:=Tryz.underlying21
 a21:=Tryz.isAgg21
 z21:=Tryz.sizeOf21
 v21:=Tryz.zeroValue21
 t31:=Tryz.underlying64
 a31:=Tryz.isAgg64
 z31:=Tryz.sizeOf64
 v31:=Tryz.zeroValue64
 t46:=Tryz.underlying60
 a46:=Tryz.isAgg60
 z46:=Tryz.sizeOf60
 v46:=Tryz.zeroValue60
 t51:=Tryz.underlying153
 a51:=Tryz.isAgg153
 z51:=Tryz.sizeOf153
 v51:=Tryz.zeroValue153
 t105:=Tryz.underlying141
 a105:=Tryz.isAgg141
 z105:=Tryz.sizeOf141
 v105:=Tryz.zeroValue141
 t119:=Tryz.underlying167
 a119:=Tryz.isAgg167
 z119:=Tryz.sizeOf167
 t138:=Tryz.underlying169
 a138:=Tryz.isAgg169
 z138:=Tryz.sizeOf169
 v138:=Tryz.zeroValue169
 t139:=Tryz.underlying170
 a139:=Tryz.isAgg170
 z139:=Tryz.sizeOf170
 v139:=Tryz.zeroValue170
 t146:=Tryz.underlying157
 a146:=Tryz.isAgg157
 z146:=Tryz.sizeOf157
 v146:=Tryz.zeroValue157
 g1:=by kernel_rfl
 g3:=by kernel_rfl
 g4:=by kernel_rfl
def Tryz.lays160_ren:Go.Shelf.Ren:=⟨fun | 160=>80 | 232=>104 | 231=>103 | 227=>105 | 234=>107 | 233=>106 | 236=>109 | 235=>108 | 228=>127 | 271=>129 | 151=>128 | 197=>111 | 120=>139 | 152=>138 | 260=>130 | 137=>142 | 119=>143 | 224=>100 | 225=>132 | 217=>131 | 266=>140 | n=>n,fun | 9=>9 | 4=>4 | 3=>3 | 5=>5 | 117=>136 | 116=>135 | 0=>0 | 124=>139 | 21=>21 | 105=>141 | 46=>60 | 119=>167 | 139=>170 | 138=>169 | n=>n,fun | 3=>4 | 4=>5 | n=>n⟩
theorem Tryz.lays160:Go.Proofs.Lays.n160 Tryz.prog Tryz.lays160_ren where
 mixed:=by kernel_rfl
 f119:=Tryz.func143.trans (congrArg some (by kernel_rfl))
 f120:=Tryz.func139.trans (congrArg some (by kernel_rfl))
 f137:=Tryz.func142.trans (congrArg some (by kernel_rfl))
 f151:=Tryz.func128.trans (congrArg some (by kernel_rfl))
 f152:=Tryz.func138.trans (congrArg some (by kernel_rfl))
 f160:=Tryz.func80.trans (congrArg some (by kernel_rfl))
 f197:=Tryz.func111.trans (congrArg some (by kernel_rfl))
 f217:=Tryz.func131.trans (congrArg some (by kernel_rfl))
 f224:=Tryz.func100.trans (congrArg some (by kernel_rfl))
 f225:=Tryz.func132.trans (congrArg some (by kernel_rfl))
 f227:=Tryz.func105.trans (congrArg some (by kernel_rfl))
 f228:=Tryz.func127.trans (congrArg some (by kernel_rfl))
 f231:=Tryz.func103.trans (congrArg some (by kernel_rfl))
 f232:=Tryz.func104.trans (congrArg some (by kernel_rfl))
 f233:=Tryz.func106.trans (congrArg some (by kernel_rfl))
 f234:=Tryz.func107.trans (congrArg some (by kernel_rfl))
 f235:=Tryz.func108.trans (congrArg some (by kernel_rfl))
 f236:=Tryz.func109.trans (congrArg some (by kernel_rfl))
 f260:=Tryz.func130.trans (congrArg some (by kernel_rfl))
 f266:=Tryz.func140.trans (congrArg some (by kernel_rfl))
 f271:=Tryz.func129.trans (congrArg some (by kernel_rfl))
 t0:=Tryz.underlying0
 a0:=Tryz.isAgg0
 z0:=Tryz.sizeOf0
 v0:=Tryz.zeroValue0
 t3:=Tryz.underlying3
 a3:=Tryz.isAgg3
 z3:=Tryz.sizeOf3
 v3:=Tryz.zeroValue3
 t4:=Tryz.underlying4
 a4:=Tryz.isAgg4
 z4:=Tryz.sizeOf4
 v4:=Tryz.zeroValue4
 t5:=Tryz.underlying5
 a5:=Tryz.isAgg5
 z5:=Tryz.sizeOf5
 v5:=Tryz.zeroValue5
 t9:=Tryz.underlying9
 a9:=Tryz.isAgg9
 z9:=Tryz.sizeOf9
 v9:=Tryz.zeroValue9
 t21:=Tryz.underlying21
 a21:=Tryz.isAgg21
 z21:=Tryz.sizeOf21
 v21:=Tryz.zeroValue21
 t46:=Tryz.underlying60
 a46:=Tryz.isAgg60
 z46:=Tryz.sizeOf60
 v46:=Tryz.zeroValue60
 t105:=Tryz.underlying141
 a105:=Tryz.isAgg141
 z105:=Tryz.sizeOf141
 v105:=Tryz.zeroValue141
 t116:=Tryz.underlying135
 a116:=Tryz.isAgg135
 z116:=Tryz.sizeOf135
 t117:=Tryz.underlying136
 a117:=Tryz.isAgg136
 z117:=Tryz.sizeOf136
 v117:=Tryz.zeroValue136
 t119:=Tryz.underlying167
 a119:=Tryz.isAgg167
 z119:=Tryz.sizeOf167
 t124:=Tryz.underlying139
 a124:=Tryz.isAgg139
 z124:=Tryz.sizeOf139
 v124:=Tryz.zeroValue139
 t138:=Tryz.underlying169
 a138:=Tryz.isAgg169
 z138:=Tryz.sizeOf169
 v138:=Tryz.zeroValue169
 t139:=Tryz.underlying170
 a139:=Tryz.isAgg170
 z139:=Tryz.sizeOf170
 v139:=Tryz.zeroValue170
 g3:=by kernel_rfl
 g4:=by kernel_rfl
def Tryz.lays172_ren:Go.Shelf.Ren:=⟨fun | 172=>40 | 244=>71 | 245=>72 | 247=>88 | 279=>89 | 280=>90 | 281=>91 | 282=>92 | 287=>117 | 316=>118 | 171=>34 | 205=>119 | 321=>134 | 322=>135 | 243=>69 | 246=>76 | 283=>93 | 284=>94 | 285=>95 | 286=>96 | 129=>121 | 317=>120 | 318=>122 | 319=>123 | 320=>124 | 337=>136 | 338=>137 | n=>n,fun | 9=>9 | 3=>3 | 75=>77 | 76=>78 | 4=>4 | 5=>5 | 167=>119 | 37=>24 | 0=>0 | 85=>120 | 2=>2 | 168=>122 | 53=>126 | 175=>146 | 46=>60 | 210=>149 | 127=>161 | 145=>164 | 143=>162 | 21=>21 | 171=>125 | 173=>129 | 212=>152 | 51=>153 | 20=>20 | 213=>154 | 232=>172 | 233=>173 | 80=>175 | n=>n,fun | 15=>1 | 16=>2 | 17=>3 | 18=>6 | 19=>7 | n=>n⟩
theorem Tryz.lays172:Go.Proofs.Lays.n172 Tryz.prog Tryz.lays172_ren where
 mixed:=by kernel_rfl
 f129:=Tryz.func121.trans (congrArg some (by kernel_rfl))
 f171:=Tryz.func34.trans (congrArg some (by kernel_rfl))
 f172:=Tryz.func40.trans (congrArg some (by kernel_rfl))
 f205:=Tryz.func119.trans (congrArg some (by kernel_rfl))
 f243:=Tryz.func69.trans (congrArg some (by kernel_rfl))
 f244:=Tryz.func71.trans (congrArg some (by kernel_rfl))
 f245:=Tryz.func72.trans (congrArg some (by kernel_rfl))
 f246:=Tryz.func76.trans (congrArg some (by kernel_rfl))
 f247:=Tryz.func88.trans (congrArg some (by kernel_rfl))
 f279:=Tryz.func89.trans (congrArg some (by kernel_rfl))
 f280:=Tryz.func90.trans (congrArg some (by kernel_rfl))
 f281:=Tryz.func91.trans (congrArg some (by kernel_rfl))
 f282:=Tryz.func92.trans (congrArg some (by kernel_rfl))
 f283:=Tryz.func93.trans (congrArg some (by kernel_rfl))
 f284:=Tryz.func94.trans (congrArg some (by kernel_rfl))
 f285:=Tryz.func95.trans (congrArg some (by kernel_rfl))
 f286:=Tryz.func96.trans (congrArg some (by kernel_rfl))
 f287:=Tryz.func117.trans (congrArg some (by kernel_rfl))
 f316:=Tryz.func118.trans (congrArg some (by kernel_rfl))
 f317:=Tryz.func120.trans (congrArg some (by kernel_rfl))
 f318:=Tryz.func122.trans (congrArg some (by kernel_rfl))
 f319:=Tryz.func123.trans (congrArg some (by kernel_rfl))
 f320:=Tryz.func124.trans (congrArg some (by kernel_rfl))
 f321:=Tryz.func134.trans (congrArg some (by kernel_rfl))
 f322:=Tryz.func135.trans (congrArg some (by kernel_rfl))
 f337:=Tryz.func136.trans (congrArg some (by kernel_rfl))
 f338:=Tryz.func137.trans (congrArg some (by kernel_rfl))
 t0:=Tryz.underlying0
 a0:=Tryz.isAgg0
 z0:=Tryz.sizeOf0
 v0:=Tryz.zeroValue0
 t2:=Tryz.underlying2
 a2:=Tryz.isAgg2
 z2:=Tryz.sizeOf2
 v2:=Tryz.zeroValue2
 t3:=Tryz.underlying3
 a3:=Tryz.isAgg3
 z3:=Tryz.sizeOf3
 v3:=Tryz.zeroValue3
 t4:=Tryz.underlying4
 a4:=Tryz.isAgg4
 z4:=Tryz.sizeOf4
 v4:=Tryz.zeroValue4
 t5:=Tryz.underlying5
 a5:=Tryz.isAgg5
 z5:=Tryz.sizeOf5
 v5:=Tryz.zeroValue5
 t9:=Tryz.underlying9
 a9:=Tryz.isAgg9
 z9:=Tryz.sizeOf9
 v9:=Tryz.zeroValue9
 t20:=Tryz.underlying20
 a20:=Tryz.isAgg20
 z20:=Tryz.sizeOf20
 v20:=Tryz.zeroValue20
 t21:=Tryz.underlying21
 a21:=Tryz.isAgg21
 z21:=Tryz.sizeOf21
 v21:=Tryz.zeroValue21
 t37:=Tryz.underlying24
 a37:=Tryz.isAgg24
 z37:=Tryz.sizeOf24
 v37:=Tryz.zeroValue24
 t46:=Tryz.underlying60
 a46:=Tryz.isAgg60
 z46:=Tryz.sizeOf60
 v46:=Tryz.zeroValue60
 t51:=Tryz.underlying153
 a51:=Tryz.isAgg153
 z51:=Tryz.sizeOf153
 v51:=Tryz.zeroValue153
 t53:=Tryz.underlying126
 a53:=Tryz.isAgg126
 z53:=Tryz.sizeOf126
 v53:=Tryz.zeroValue126
 t75:=Tryz.underlying77
 a75:=Tryz.isAgg77
 z75:=Tryz.sizeOf77
 v75:=Tryz.zeroValue77
 t76:=Tryz.underlying78
 a76:=Tryz.isAgg78
 z76:=Tryz.sizeOf78
 v76:=Tryz.zeroValue78
 t85:=Tryz.underlying120
 a85:=Tryz.isAgg120
 z85:=Tryz.sizeOf120
 v85:=Tryz.zeroValue120
 t127:=Tryz.underlying161
 a127:=Tryz.isAgg161
 z127:=Tryz.sizeOf161
 v127:=Tryz.zeroValue161
 t143:=Tryz.underlying162
 a143:=Tryz.isAgg162
 z143:=Tryz.sizeOf162
 v143:=Tryz.zeroValue162
 t145:=Tryz.underlying164
 a145:=Tryz.isAgg164
 z145:=Tryz.sizeOf164
 v145:=Tryz.zeroValue164
 t167:=Tryz.underlying119
 a167:=Tryz.isAgg119
 z167:=Tryz.sizeOf119
 v167:=Tryz.zeroValue119
 t168:=Tryz.underlying122
 a168:=Tryz.isAgg122
 z168:=Tryz.sizeOf122
 v168:=Tryz.zeroValue122
 t171:=Tryz.underlying125
 a171:=Tryz.isAgg125
 z171:=Tryz.sizeOf125
 v171:=Tryz.zeroValue125
 t173:=Tryz.underlying129
 a173:=Tryz.isAgg129
 z173:=Tryz.sizeOf129
 v173:=Tryz.zeroValue129
 t175:=Tryz.underlying146
 a175:=Tryz.isAgg146
 z175:=Tryz.sizeOf146
 v175:=Tryz.zeroValue146
 t210:=Tryz.underlying149
 a210:=Tryz.isAgg149
 z210:=Tryz.sizeOf149
 v210:=Tryz.zeroValue149
 t212:=Tryz.underlying152
 a212:=Tryz.isAgg152
 z212:=Tryz.sizeOf152
 v212:=Tryz.zeroValue152
 t213:=Tryz.underlying154
 a213:=Tryz.isAgg154
 z213:=Tryz.sizeOf154
 t232:=Tryz.underlying172
 a232:=Tryz.isAgg172
 z232:=Tryz.sizeOf172
 v232:=Tryz.zeroValue172
 t233:=Tryz.underlying173
 a233:=Tryz.isAgg173
 z233:=Tryz.sizeOf173
 v233:=Tryz.zeroValue173
 g15:=by kernel_rfl
 g16:=by kernel_rfl
 g17:=by kernel_rfl
 g18:=by kernel_rfl
 g19:=by kernel_rfl
def Tryz.laysM171_ren:Go.Shelf.Ren:=⟨fun | 171=>34 | 243=>69 | 246=>76 | 283=>93 | 284=>94 | 285=>95 | 286=>96 | 129=>121 | 317=>120 | 318=>122 | 319=>123 | 320=>124 | 337=>136 | 338=>137 | n=>n,fun | 3=>3 | 9=>9 | 2=>2 | 4=>4 | 171=>125 | 0=>0 | 53=>126 | 37=>24 | 5=>5 | 173=>129 | 212=>152 | 51=>153 | 20=>20 | 213=>154 | 46=>60 | 232=>172 | 233=>173 | n=>n,fun | 17=>3 | 18=>6 | 19=>7 | n=>n⟩
theorem Tryz.laysM171:Go.Proofs.LaysM.n171 Tryz.prog Tryz.laysM171_ren where
 mixed:=by kernel_rfl
 f129:=Tryz.func121.trans (congrArg some (by kernel_rfl))
 f171:=Tryz.func34.trans (congrArg some (by kernel_rfl))
 f243:=Tryz.func69.trans (congrArg some (by kernel_rfl))
 f246:=Tryz.func76.trans (congrArg some (by kernel_rfl))
 f283:=Tryz.func93.trans (congrArg some (by kernel_rfl))
 f284:=Tryz.func94.trans (congrArg some (by kernel_rfl))
 f285:=Tryz.func95.trans (congrArg some (by kernel_rfl))
 f286:=Tryz.func96.trans (congrArg some (by kernel_rfl))
 f317:=Tryz.func120.trans (congrArg some (by kernel_rfl))
 f318:=Tryz.func122.trans (congrArg some (by kernel_rfl))
 f319:=Tryz.func123.trans (congrArg some (by kernel_rfl))
 f320:=Tryz.func124.trans (congrArg some (by kernel_rfl))
 f337:=Tryz.func136.trans (congrArg some (by kernel_rfl))
 f338:=Tryz.func137.trans (congrArg some (by kernel_rfl))
 t0:=Tryz.underlying0
 a0:=Tryz.isAgg0
 z0:=Tryz.sizeOf0
 v0:=Tryz.zeroValue0
 t2:=Tryz.underlying2
 a2:=Tryz.isAgg2
 z2:=Tryz.sizeOf2
 v2:=Tryz.zeroValue2
 t3:=Tryz.underlying3
 a3:=Tryz.isAgg3
 z3:=Tryz.sizeOf3
 v3:=Tryz.zeroValue3
 t4:=Tryz.underlying4
 a4:=Tryz.isAgg4
 z4:=Tryz.sizeOf4
 v4:=Tryz.zeroValue4
 t5:=Tryz.underlying5
 a5:=Tryz.isAgg5
 z5:=Tryz.sizeOf5
 v5:=Tryz.zeroValue5
 t9:=Tryz.underlying9
 a9:=Tryz.isAgg9
 z9:=Tryz.sizeOf9
 v9:=Tryz.zeroValue9
 t20:=Tryz.underlying20
 a20:=Tryz.isAgg20
 z20:=Tryz.sizeOf20
 v20:=Tryz.zeroValue20
 t37:=Tryz.underlying24
 a37:=Tryz.isAgg24
 z37:=Tryz.sizeOf24
 v37:=Tryz.zeroValue24
 t46:=Tryz.underlying60
 a46:=Tryz.isAgg60
 z46:=Tryz.sizeOf60
 v46:=Tryz.zeroValue60
 t51:=Tryz.underlying153
 a51:=Tryz.isAgg153
 z51:=Tryz.sizeOf153
 v51:=Tryz.zeroValue153
 t53:=Tryz.underlying126
 a53:=Tryz.isAgg126
 z53:=Tryz.sizeOf126
 v53:=Tryz.zeroValue126
 t171:=Tryz.underlying125
 a171:=Tryz.isAgg125
 z171:=Tryz.sizeOf125
 v171:=Tryz.zeroValue125
 t173:=Tryz.underlying129
 a173:=Tryz.isAgg129
 z173:=Tryz.sizeOf129
 v173:=Tryz.zeroValue129
 t212:=Tryz.underlying152
 a212:=Tryz.isAgg152
 z212:=Tryz.sizeOf152
 v212:=Tryz.zeroValue152
 t213:=Tryz.underlying154
 a213:=Tryz.isAgg154
 z213:=Tryz.sizeOf154
 t232:=Tryz.underlying172
 a232:=Tryz.isAgg172
 z232:=Tryz.sizeOf172
 v232:=Tryz.zeroValue172
 t233:=Tryz.underlying173
 a233:=Tryz.isAgg173
 z233:=Tryz.sizeOf173
 v233:=Tryz.zeroValue173
 g17:=by kernel_rfl
 g18:=by kernel_rfl
 g19:=by kernel_rfl
 i0:=by kernel_rfl
 i2:=by kernel_rfl
 i3:=by kernel_rfl
 i4:=by kernel_rfl
 i5:=by kernel_rfl
 i9:=by kernel_rfl
 i20:=by kernel_rfl
 i37:=by kernel_rfl
 i46:=by kernel_rfl
 i51:=by kernel_rfl
 i53:=by kernel_rfl
 i171:=by kernel_rfl
 i173:=by kernel_rfl
 i212:=by kernel_rfl
 i232:=by kernel_rfl
 i233:=by kernel_rfl
 m17:=by kernel_rfl
 m18:=by kernel_rfl
 m19:=by kernel_rfl
def Tryz.lays727_ren:Go.Shelf.Ren:=⟨fun | 27=>124 | 28=>136 | 29=>137 | n=>n,fun | 25=>60 | 3=>3 | 27=>153 | 22=>126 | 4=>4 | 53=>172 | 0=>0 | 5=>5 | 54=>173 | n=>n,fun | 0=>6 | 1=>7 | n=>n⟩
theorem Tryz.lays727:Go.Proofs.Lays7.n27 Tryz.prog Tryz.lays727_ren where
 mixed:=by kernel_rfl
 f27:=Tryz.func124.trans (congrArg some (by kernel_rfl))
 f28:=Tryz.func136.trans (congrArg some (by kernel_rfl))
 f29:=Tryz.func137.trans (congrArg some (by kernel_rfl))
 t0:=Tryz.underlying0
 a0:=Tryz.isAgg0
 z0:=Tryz.sizeOf0
 v0:=Tryz.zeroValue0
 i0:=by kernel_rfl
 t3:=Tryz.underlying3
 a3:=Tryz.isAgg3
 z3:=Tryz.sizeOf3
 v3:=Tryz.zeroValue3
 i3:=by kernel_rfl
 t4:=Tryz.underlying4
 a4:=Tryz.isAgg4
 z4:=Tryz.sizeOf4
 v4:=Tryz.zeroValue4
 i4:=by kernel_rfl
 t5:=Tryz.underlying5
 a5:=Tryz.isAgg5
 z5:=Tryz.sizeOf5
 v5:=Tryz.zeroValue5
 i5:=by kernel_rfl
 t22:=Tryz.underlying126
 a22:=Tryz.isAgg126
 z22:=Tryz.sizeOf126
 v22:=Tryz.zeroValue126
 i22:=by kernel_rfl
 t25:=Tryz.underlying60
 a25:=Tryz.isAgg60
 z25:=Tryz.sizeOf60
 v25:=Tryz.zeroValue60
 i25:=by kernel_rfl
 t27:=Tryz.underlying153
 a27:=Tryz.isAgg153
 z27:=Tryz.sizeOf153
 v27:=Tryz.zeroValue153
 i27:=by kernel_rfl
 t53:=Tryz.underlying172
 a53:=Tryz.isAgg172
 z53:=Tryz.sizeOf172
 v53:=Tryz.zeroValue172
 i53:=by kernel_rfl
 t54:=Tryz.underlying173
 a54:=Tryz.isAgg173
 z54:=Tryz.sizeOf173
 g0:=by kernel_rfl
 g1:=by kernel_rfl
end Go.Proofs
namespace Go.Ab.Hw
open Go Go.Ab Go.Ab.Sm Go.RowKit Go.Proofs
open Go.Proofs.YtmjcgbaacndblaaGreatDoor
open Go.Ab.Vl (fP)
abbrev IL:List Int:=Lib.deBruijn64tab.map fun(n:Nat)=>(n:Int)
structure Iv (w:World) : Prop where
 mx:∃ m,w.cell? ⟨0,0,none⟩=some (.int .i64 m)
 p10:Lib.TabIs Tryz.prog w "internal/strconv.uint64pow10" .u64 Lib.pow10Tab
 db:Lib.TabIs Tryz.prog w "math/bits.deBruijn64tab" .u8 IL
theorem Kr (w:World) (q:Nat) : Below w.heap.size w (w.drewN q):=⟨rfl,rfl,rfl,Nat.le_refl _,fun _ _=>rfl⟩
theorem Ju (w:World) (q:Nat) (os:Array Obj) : Below w.heap.size w (Go.Sort.grow (w.drewN q) os) :=
 ⟨rfl,rfl,rfl,by first | (simp[Go.Sort.grow]; done) | (simp[Go.Sort.grow]; omega),fun i hi=>by
  show((w.drewN q).heap++os)[i]?=_
  rw[Array.getElem?_append_left (by show i<w.heap.size; omega)]
  rfl⟩
theorem Oa {w:World} {b o:Nat} {v:Value} (h:w.cell? ⟨b,o,none⟩=some v) : b<w.heap.size:=by
 unfold World.cell? at h
 cases hb:w.heap[b]? with
 | none=>simp[hb] at h
 | some x=>exact(Array.getElem?_eq_some_iff.1 hb).1
theorem Lg {w w' : World} {b:Nat} (h:w'.heap[b]?=w.heap[b]?) (o:Nat) : w'.cell? ⟨b,o,none⟩=w.cell? ⟨b,o,none⟩:=by
 unfold World.cell?
 simp only[h]
theorem varLt {w:World} {n:String} {g:Nat} {vs:Array Value} (hg:Tryz.prog.globalNamed n=some g) (h:w.var? Tryz.prog n=some vs) : g<w.heap.size:=by
 unfold World.var? at h
 rw[hg] at h
 simp only[Option.bind_some] at h
 cases hb:w.heap[g]? with
 | none=>rw[hb] at h; cases h
 | some x=>exact(Array.getElem?_eq_some_iff.1 hb).1
theorem Gp {w w' : World} {n:String} {g:Nat} (hg:Tryz.prog.globalNamed n=some g) (h:w'.heap[g]?=w.heap[g]?) : w'.var? Tryz.prog n=w.var? Tryz.prog n:=by
 unfold World.var?
 rw[hg]
 simp only[Option.bind_some,h]
theorem g3:Tryz.prog.globalNamed "internal/strconv.uint64pow10" = some 3:=by kernel_rfl
theorem g7:Tryz.prog.globalNamed "math/bits.deBruijn64tab" = some 7:=by kernel_rfl
def base (w:World) (hi:Iv w) : Base where
 n:=w.heap.size
 inv w':=Iv w'
 low u u' hlow hu:=by
  obtain⟨m0,hm0⟩:=hi.mx
  obtain⟨m,hm⟩:=hu.mx
  refine⟨⟨m,(Lg (hlow 0 (Oa hm0)) 0).trans hm⟩, ?_, ?_⟩
  ·exact(Gp g3 (hlow 3 (varLt g3 hi.p10))).trans hu.p10
  ·exact(Gp g7 (hlow 7 (varLt g7 hi.db))).trans hu.db
theorem Iv.tab {w:World} (h:Iv w) : TabAt 7 Lib.deBruijn64tab w:=fun j hj=>by
 have:=h.db.cell g7 j (by simpa using hj)
 rw[this]
 congr 2
 simp only[IL,List.getD_eq_getElem?_getD,List.getElem?_map,List.getElem?_eq_getElem hj]
 rfl
section
variable {w0:World} {hi:Iv w0}
theorem Ig {M:RM} {ρ:Ren} {w:World} (hM:M.base=base w0 hi) (hw:bi Tryz.prog ρ M w) : Iv w:=by
 have:=bi.inv hw
 rw[hM] at this
 exact this
theorem Js {M:RM} {s:List UInt8} {x:UInt8} : GQ Tryz.prog 140 [St s,By x] M (N .i64 (Lib.indexByte s x)):=by
 intro ρ w us hus hw
 cases hus with
 | cons _ u1 _ us r1 hus =>
 cases hus with
 | cons _ u2 _ us r2 hus =>
 cases hus
 obtain⟨rfl,_⟩:=aB r1
 obtain⟨rfl,_⟩:=aB r2
 refine⟨.int .i64 (Lib.indexByte s x), ?_,.sc _ rfl⟩
 refine uz (fn:=Tryz.f140) (s:=Extern.BytealgIndexByte.indexByte) (by kernel_rfl) (PS.ng 140 Tryz.f140 (by kernel_rfl)) (by kernel_rfl) (by kernel_rfl) (by kernel_rfl) (fun w=>?_) w
 rw[Lib.run_indexByteString]
 congr 2
 simp
theorem NB:fP (aj 131):=by
 intro M s x Q hQ
 refine jv ?_
 unfold Go.Ab.Vl.gG
 exact .inr (.inr (.inr (.inl ⟨_,Js,hQ⟩)))
theorem Qx {M:RM} {Q:ah} (hB:M.base=base w0 hi) (hQ:Q (N .i64 4) M) : aj 124 [N .u64 16] M Q:=by
 refine dD.qp (v:=N .i64 4) ⟨Tryz.f124,_,Tryz.func124,rfl⟩ (fun ρ w us hus hw=>?_) hQ
 cases hus with
 | cons _ u1 _ us r1 hus =>
 cases hus
 obtain⟨rfl,_⟩:=aB r1
 refine(Any7.bits_TrailingZeros Tryz.lays727 16 (by decide) w (fun _=>(Ig hB hw).tab)).mono fun e w' ⟨he,hb⟩=>⟨_,he,by rw[hb]; exact Below.refl _ _, ?_⟩
 exact .sc _ rfl
theorem J4:DV (base w0 hi) (aj 80):=by
 intro M s Q hB hl hQ
 cases s with
 | nil =>
   refine uk ?_
   unfold Go.Ab.Vl.sM
   simp only[df,bW]
   rw[show(([] : List UInt8) == [])=true from rfl]
   simp only[fE,dh,bS]
   exact hQ M (ae.refl _ _)
 | cons x s =>
   have hasc:∀ (j:Nat) b,(⟨⟨[32,9]⟩⟩ : ByteArray).data.toList[j]?=some b→b.toNat<128:=fun j b h=>by
    have hm:b∈([32,9] : List UInt8):=List.mem_of_getElem? h
    simp at hm
    rcases hm with rfl | rfl <;> decide
   refine dD.qp (v:=St (trimB (x :: s))) ⟨Tryz.f80,_,Tryz.func80,rfl⟩ (fun ρ w us hus hw=>?_) (hQ M (ae.refl _ _))
   cases hus with
   | cons _ u1 _ us r1 hus =>
   cases hus with
   | cons _ u2 _ us r2 hus =>
   cases hus
   obtain⟨rfl,_⟩:=aB r1
   obtain⟨rfl,_⟩:=aB r2
   refine(Any.strings_Trim_set Tryz.lays160 Tryz.zeroValue135 (by kernel_rfl) ⟨⟨x :: s⟩⟩ ⟨⟨[32,9]⟩⟩ w (by decide) (by show 0<(x :: s).length; simp) (by show(x :: s).length≤_; omega) (by decide) hasc).mono fun e w' ⟨he,q,hb⟩=>⟨_,he, ?_,.sc _ rfl⟩
   rw[hb]
   have h1:=(Below.refl w.heap.size w).alloc (Nat.le_refl _) (.cells (Lib.setCells [32,9]) (Tryz.lays160_ren.t 116))
   have h2:=h1.alloc h1.size (.cells (Lib.setCells [32,9]) (Tryz.lays160_ren.t 116))
   exact⟨h2.os,h2.tape,h2.output,h2.size,h2.block⟩
theorem vS:∀ (s:Str) (acc:Nat),s.all dI=true→Lib.decFrom acc s=some (s.foldl (fun n x=>n * 10 + (x.toNat - 48)) acc)
 | [],acc,_=>rfl
 | x :: s,acc,h=>by
   simp only[List.all_cons,Bool.and_eq_true] at h
   have hx:=h.1
   unfold dI at hx
   simp only[Bool.and_eq_true,decide_eq_true_eq] at hx
   have hd:Lib.digitVal x=some (x.toNat - 48):=by unfold Lib.digitVal; rw[if_pos (by omega)]
   rw[Lib.decFrom,hd]
   exact vS s _ h.2
theorem JA:IK (aj 40):=by
 intro M s Q h1 h9 hd hQ
 have ha:Lib.atoi s=some ((jg s:Nat) : Int):=by
  cases s with
  | nil=>simp at h1
  | cons x s =>
    have hx:dI x=true:=by simp only[List.all_cons,Bool.and_eq_true] at hd; exact hd.1
    unfold dI at hx
    simp only[Bool.and_eq_true,decide_eq_true_eq] at hx
    have e1:(x == 45)=false:=by
     cases h:x == 45
     ·rfl
     ·have:x=45:=by simpa using h
      subst this; simp at hx
    have e2:(x == 43)=false:=by
     cases h:x == 43
     ·rfl
     ·have:x=43:=by simpa using h
      subst this; simp at hx
    unfold Lib.atoi
    simp only[e1,e2,Bool.false_eq_true,if_false]
    unfold Lib.decNat
    simp only[List.isEmpty_cons,Bool.false_eq_true,if_false,vS _ _ hd,Option.map_some]
    rfl
 refine dD.qp (v:=.tup [N .i64 (jg s:Int),.sc .nilIface]) ⟨Tryz.f40,_,Tryz.func40,rfl⟩ (fun ρ w us hus hw=>?_) (hQ M (ae.refl _ _))
 cases hus with
 | cons _ u1 _ us r1 hus =>
 cases hus
 obtain⟨rfl,_⟩:=aB r1
 refine(Any.strconv_Atoi Tryz.lays172 ⟨⟨s⟩⟩ _ (by show s.length≤_; omega) ha w).mono fun e w' ⟨he,t,hb⟩=>⟨_,he, ?_,.tup _ _ (.cons _ _ _ _ (.sc _ rfl) (.cons _ _ _ _ (.sc _ rfl) .nil))⟩
 rw[hb]
 exact Lib.bytesWorld_below w _ t
theorem uU:∀ (f n:Nat),n<10 ^ f→1≤f→Lib.decDigits n=lY 10 f n
 | 0,n,h,h1=>by omega
 | f + 1,n,h,_=>by
   rw[Lib.decDigits]
   by_cases hn:n<10
   ·rw[dif_pos hn,Bq hn]
    unfold vP; rw[if_pos hn]
   ·rw[dif_neg hn,Ff hn]
    have hf:1≤f:=by
     rcases Nat.eq_zero_or_pos f with e | e
     ·subst e; simp at h; omega
     ·exact e
    rw[uU f (n / 10) (by rw[Nat.pow_succ] at h; exact Nat.div_lt_of_lt_mul (by rw[Nat.mul_comm]; exact h)) hf]
    unfold vP
    rw[if_pos (Nat.mod_lt _ (by decide))]
theorem Jq:IX (base w0 hi) (aj 34):=by
 intro M n Q hB hn hQ
 refine dD.qp (v:=St (gM n)) ⟨Tryz.f34,_,Tryz.func34,rfl⟩ (fun ρ w us hus hw=>?_) (hQ M (ae.refl _ _))
 cases hus with
 | cons _ u1 _ us r1 hus =>
 cases hus
 obtain⟨rfl,_⟩:=aB r1
 refine(Any.strconv_Itoa Tryz.laysM171 (n:Int) (by omega) (by omega) w (Ig hB hw).p10).mono fun e w' ⟨he,k,os,hb⟩=>⟨_,he, ?_, ?_⟩
 ·rw[hb]
  exact Ju w k os
 ·have:Lib.itoa (n:Int)=gM n:=by
   unfold Lib.itoa gM
   rw[if_neg (by omega),Int.toNat_natCast]
   exact uU 20 n (Nat.lt_of_lt_of_le hn (by decide)) (by decide)
  rw[this]
  exact .sc _ rfl
theorem Gw {P:Program} {ρ:Ren} {M:RM} {w:World} {v:AV} {s:Str} {u:Value} (hw:bi P ρ M w) (hb:Bs M v s) (hv:ag ρ v u) :
  (u=.slice none 0 0∧s=[])∨∃ a c,u=.slice (some a) s.length c∧s.length≤c∧∀ i,i<s.length→w.cell? (a.add i)=some (.int .u8 ((s.map fun x=>(x.toNat:Int)).getD i 0)):=by
 obtain⟨hs,hc⟩:=hb
 unfold Sl at hs
 generalize hn:s.length=n at *
 generalize hcs:BY.row s=cs at *
 cases hs with
 | nil =>
   obtain⟨rfl,_⟩:=aB hv
   exact .inl ⟨rfl,List.length_eq_zero_iff.1 hn⟩
 | emp b =>
   cases hv with
   | emp _ a c=>exact .inr ⟨a,c,rfl,Nat.zero_le _,fun i hi=>absurd hi (Nat.not_lt_zero _)⟩
 | slc b o _ cap _ hlt hld =>
   obtain⟨i0,c,hb,hu⟩:=Ab.cO hv
   have hcap:n≤c:=by
    cases cap with
    | ex k =>
      have hk:n≤k:=hc
      cases hv with
      | fG _ _ _ _ j hj =>
        injection hu with _ _ h6
        omega
    | op e =>
      obtain⟨k,j,_,_,_,h4,h5⟩:=zL hv
      rw[hu] at h5
      injection h5 with _ _ h6
      omega
   subst hu
   refine .inr ⟨⟨i0.cb,i0.sh + o,none⟩,c,rfl,hcap,fun i hi=>?_⟩
   ·subst hcs
    have Qp:M.loads b o (n * 1)=some (BY.row s):=hld
    have h1:=qU Qp i 1 (by omega)
    have hi' : i<s.length:=by omega
    have e1:((BY.row s).drop i).take 1=[By s[i]]:=by
     have:=Enc.Cs (E:=BY) hi'
     simpa [BY] using this
    rw[e1] at h1
    obtain⟨x,hx,hcell⟩:=wG hw hb h1
    obtain⟨rfl,_⟩:=aB hx
    have ea:(⟨i0.cb,i0.sh + o,none⟩ : Addr).add i=⟨i0.cb,i0.sh + (o + i),none⟩:=by
     unfold Addr.add
     split
     ·rename_i e; subst e; rfl
     ·simp[Nat.add_assoc]
    rw[ea,hcell]
    simp[List.getD_eq_getElem?_getD,List.getElem?_eq_getElem hi']
theorem bytesOf_map (s:Str) : Lib.bytesOf (s.map fun x=>(x.toNat:Int))=s:=by
 unfold Lib.bytesOf
 rw[List.map_map]
 conv=>rhs; rw[← List.map_id s]
 apply List.map_congr_left
 intro x _
 simp
theorem GU:A7 (base w0 hi) (aj 78):=by
 intro M v w s Q hB hv hw hl hQ
 refine dD.qp (v:=N .i64 (Lib.index s [13,10])) ⟨Tryz.f78,_,Tryz.func78,rfl⟩ (fun ρ W us hus hW=>?_) hQ
 cases hus with
 | cons _ u1 _ us r1 hus =>
 cases hus with
 | cons _ u2 _ us r2 hus =>
 cases hus
 obtain⟨m,hm⟩:=(Ig hB hW).mx
 rcases Gw hW hw r2 with⟨_,h⟩ | ⟨a2,c2,rfl,hc2,hx2⟩
 ·cases h
 rcases Gw hW hv r1 with⟨rfl,rfl⟩ | ⟨a1,c1,rfl,hc1,hx1⟩
 ·refine(Any.bytes_Index_nil Tryz.lays185 (some a2) 2 c2 W (by decide) (fun h=>by cases h)).mono fun e w' ⟨he,hb⟩=>⟨_,he,by rw[hb]; exact Below.refl _ _, ?_⟩
  exact .sc _ rfl
 ·have hr:∀ (t:Str),∀ x∈t.map (fun x:UInt8=>(x.toNat:Int)),0≤x∧x<256:=fun t x hx=>by
   rw[List.mem_map] at hx
   obtain⟨y,_,rfl⟩:=hx
   have:=y.toNat_lt
   omega
  have:=Any.bytes_Index_at Tryz.lays185 a1 a2 s.length c1 2 c2 (s.map fun x=>(x.toNat:Int)) (([13,10] : Str).map fun x=>(x.toNat:Int)) m W (by simp) (by simp) (hr s) (hr _) hx1 hx2 hc1 (by omega) (by decide) hm
  rw[bytesOf_map,bytesOf_map] at this
  refine this.mono fun e w' ⟨he,q,hb⟩=>⟨_,he,by rw[hb]; exact(Kr W q), ?_⟩
  exact .sc _ rfl
theorem Ka (ρ' : Ren) : ∀ l:List ByteArray,aC ρ' (l9.row (l.map (·.data.toList))) (l.map Value.string)
 | []=>.nil
 | b :: l=>.cons _ _ _ _ (.sc _ (by rfl)) (Ka ρ' l)
theorem I8 (s:Str) : s.count 32=Lib.countB ⟨⟨s⟩⟩ ⟨⟨[32]⟩⟩:=(Lib.count_one 32 s).symm
theorem MK:EO (base w0 hi) 9 (aj 27):=by
 intro M s Q hB hl hQ
 refine dD.NT (cs:=l9.row (words 32 s)) (n:=(words 32 s).length) ⟨Tryz.f27,_,Tryz.func27,rfl⟩ (by kernel_rfl) (l9.pu _) (by rw[Enc.fo]; simp[l9]) (fun ρ w us hus hw=>?_) (fun v M' o k=>hQ v M' (Own.mono o (Nat.le_refl _)) k)
 cases hus with
 | cons _ u1 _ us r1 hus =>
 cases hus with
 | cons _ u2 _ us r2 hus =>
 cases hus
 obtain⟨rfl,_⟩:=aB r1
 obtain⟨rfl,_⟩:=aB r2
 obtain⟨m,hm⟩:=(Ig hB hw).mx
 refine(Any.strings_Split Tryz.lays146 (by kernel_rfl) ⟨⟨s⟩⟩ ⟨⟨[32]⟩⟩ m w (by show s.length<_; omega) hm (by decide)).mono fun e w' ⟨he,hb⟩=>?_
 have hd:(Lib.splitB ⟨⟨[32]⟩⟩ 0 (Lib.countB ⟨⟨s⟩⟩ ⟨⟨[32]⟩⟩) ⟨⟨s⟩⟩).map (·.data.toList)=words 32 s:=by
  rw[Lib.splitB_data]
  exact vN 32 _ s (I8 s)
 have hlen:(Lib.splitB ⟨⟨[32]⟩⟩ 0 (Lib.countB ⟨⟨s⟩⟩ ⟨⟨[32]⟩⟩) ⟨⟨s⟩⟩).length=Lib.countB ⟨⟨s⟩⟩ ⟨⟨[32]⟩⟩ + 1:=Lib.splitB_all ⟨⟨[32]⟩⟩ (by decide) 0 _ _ rfl
 generalize Lib.splitB ⟨⟨[32]⟩⟩ 0 (Lib.countB ⟨⟨s⟩⟩ ⟨⟨[32]⟩⟩) ⟨⟨s⟩⟩=l at *
 rw[← hlen] at he
 have hwl:(words 32 s).length=l.length:=by rw[← hd]; simp
 refine⟨_,l.map Value.string,he,⟨by simp[hwl],.inr ⟨w.heap.size,l.length,(l.map Value.string).toArray,by rw[hwl],Nat.le_refl _, ?_,Nat.le_of_eq hwl, ?_,by simp, ?_⟩⟩,fun ρ'=>?_, ?_⟩
 ·rw[hb]
  show(w.heap.push _)[w.heap.size]?=_
  rw[Array.getElem?_push_size]
  rfl
 ·have:=Lib.countB_le ⟨⟨[32]⟩⟩ (by decide) s.length ⟨⟨s⟩⟩ (Nat.le_refl _)
  have h2:maxLen=9223372036854775807:=rfl
  have h3:(⟨⟨s⟩⟩ : ByteArray).size=s.length:=rfl
  omega
 ·exact List.take_of_length_le (by simp[hwl])
 ·rw[← hd]
  exact Ka ρ' l
 ·rw[hb]; exact(Below.refl _ _).alloc (Nat.le_refl _) _
end
end Go.Ab.Hw
namespace Go.Ab.Hw
open Go Go.Ab Go.Ab.Sm Go.RowKit Go.Proofs
open Go.Proofs.YtmjcgbaacndblaaGreatDoor
open Go.Ab.Vl (fP ku)
section
variable {w0:World} {hi:Iv w0}
theorem BU:nU dI (aj 38):=by
 intro M x Q hQ
 obtain⟨a0,e,h⟩:=Jj hQ
 cases e
 exact rY h
theorem Mm:nU qI (aj 60):=by
 intro M x Q hQ
 obtain⟨a0,e,h⟩:=IP hQ
 cases e
 exact si h
theorem Jw:nU zQ (aj 62):=by
 intro M x Q hQ
 obtain⟨a0,e,h⟩:=FC hQ
 cases e
 exact pX h
theorem is32:nU p32 (aj 39):=by
 intro M x Q hQ
 obtain⟨a0,e,h⟩:=LP hQ
 cases e
 exact kT h
theorem PI:nU zZ (aj 87):=by
 intro M x Q hQ
 obtain⟨a0,e,h⟩:=Lt hQ
 cases e
 exact ni h
theorem Nt:nU uP (aj 86):=by
 intro M x Q hQ
 obtain⟨a0,e,h⟩:=Im BU hQ
 cases e
 exact nX h
theorem PP:nU kJ (aj 115):=by
 intro M x Q hQ
 obtain⟨a0,e,h⟩:=JU BU hQ
 cases e
 exact qP h
theorem Kb:kI dI (.fn (.func 38) [] []) (aj 37):=by
 intro M s Q hl hQ
 obtain⟨a0,a1,e,h⟩:=lq (T8:=5) (g:=38) (p:=dI) (cv:=aj) BU hl hQ
 cases e
 exact cZ h
theorem LW:kI qI (.fn (.func 60) [] []) (aj 37):=by
 intro M s Q hl hQ
 obtain⟨a0,a1,e,h⟩:=lq (T8:=5) (g:=60) (p:=qI) (cv:=aj) Mm hl hQ
 cases e
 exact cZ h
theorem NH:kI zQ (.fn (.func 62) [] []) (aj 37):=by
 intro M s Q hl hQ
 obtain⟨a0,a1,e,h⟩:=lq (T8:=5) (g:=62) (p:=zQ) (cv:=aj) Jw hl hQ
 cases e
 exact cZ h
theorem PD:kI p32 (.fn (.func 39) [] []) (aj 37):=by
 intro M s Q hl hQ
 obtain⟨a0,a1,e,h⟩:=lq (T8:=5) (g:=39) (p:=p32) (cv:=aj) is32 hl hQ
 cases e
 exact cZ h
theorem Og:kI zZ (.fn (.func 87) [] []) (aj 37):=by
 intro M s Q hl hQ
 obtain⟨a0,a1,e,h⟩:=lq (T8:=5) (g:=87) (p:=zZ) (cv:=aj) PI hl hQ
 cases e
 exact cZ h
theorem Mo:kI uP (.fn (.func 86) [] []) (aj 37):=by
 intro M s Q hl hQ
 obtain⟨a0,a1,e,h⟩:=lq (T8:=5) (g:=86) (p:=uP) (cv:=aj) Nt hl hQ
 cases e
 exact cZ h
theorem OM:kI kJ (.fn (.func 115) [] []) (aj 37):=by
 intro M s Q hl hQ
 obtain⟨a0,a1,e,h⟩:=lq (T8:=5) (g:=115) (p:=kJ) (cv:=aj) PP hl hQ
 cases e
 exact cZ h
theorem sJ:uw (aj 64):=by
 intro M s Q hl hQ
 obtain⟨a0,e,h⟩:=Aq (T8:=5) hl hQ
 cases e
 exact rV h
theorem uB:pF (aj 59):=by
 intro M s a b Q hQ
 obtain⟨a0,a1,a2,e,h⟩:=FM hQ
 cases e
 exact qO h
theorem Ma:kW j3 (aj 67):=by
 intro M s Q hl hQ
 obtain⟨a0,e,h⟩:=uV uB sJ Mo hl hQ
 cases e
 exact oC h
theorem Kt:Ad (base w0 hi) ic (aj 68):=by
 intro M s Q hB hl hQ
 obtain⟨a0,e,h⟩:=sI J4 Og hB hl hQ
 cases e
 exact oh h
theorem GG:kW il (aj 28):=by
 intro M s Q hl hQ
 obtain⟨a0,e,h⟩:=BC uB LW hl hQ
 cases e
 exact nZ h
theorem Mf:yZ (aj 84):=by
 intro M s q Q hQ
 obtain⟨a0,a1,e,h⟩:=Dy hQ
 cases e
 exact jy h
theorem Pg:yZ (aj 61):=by
 intro M s q Q hQ
 obtain⟨a0,a1,e,h⟩:=KN Mf hQ
 cases e
 exact oJ h
theorem L8:kW jd (aj 29):=by
 intro M s Q hl hQ
 obtain⟨a0,e,h⟩:=Dz Pg NH hl hQ
 cases e
 exact oG h
theorem Pb:pE (aj 70):=by
 intro M s q Q hQ
 obtain⟨a0,a1,e,h⟩:=zS Mf hQ
 cases e
 exact jw h
theorem O0:pE (aj 36):=by
 intro M s q Q hQ
 obtain⟨a0,a1,e,h⟩:=Gh Pb hQ
 cases e
 exact oz h
theorem NC:sN 58 (aj 113):=by
 intro M s Q hQ
 obtain⟨a0,a1,e,h⟩:=yJ NB (g:=0) (xx:=DN Tryz.prog 132) (c1:=aj 100) (c2:=aj 133) hQ
 cases e
 exact kK h
theorem OJ:ku 58 (aj 102):=by
 intro M s Q hl hQ
 obtain⟨a0,a1,e,h⟩:=Vl.BI NC hl hQ
 cases e
 exact lu h
theorem O6:ku 58 (aj 79):=by
 intro M s Q hl hQ
 obtain⟨a0,a1,e,h⟩:=Vl.Ku OJ hl hQ
 cases e
 exact vC h
theorem LB:BG (base w0 hi) (aj 57):=by
 intro M s Q hB hl h1 h2
 obtain⟨a0,e,h⟩:=FN (T:=56) O6 J4 Ma Kt hB hl h1 h2
 cases e
 exact qN h
theorem Nh:Je (base w0 hi) (aj 56):=by
 intro M v b at' Q hB h1 h2 h3 h4 h5 h6
 obtain⟨a0,a1,e,h⟩:=JG (T:=5) GU hB h1 h2 h3 h4 h5 h6
 cases e
 exact sP h
theorem Jv {a1:AV} {q:Str→Bool} {br:Nat} {X0:RB} {X:Str→RB} (hF:AZ (base w0 hi) (aj) a1 q br X0 X) : DY (base w0 hi) a1 q br X0 X 56 (aj 25):=by
 intro M v b Q hB h1 h2 h3 h4 h5 h6 h7
 obtain⟨a0,a1,e,h⟩:=Ky Nh LB hF hB h1 h2 h3 h4 h5 h6 h7
 cases e
 exact tF h
theorem GI:Br 9 (aj 63):=by
 intro M v l n Q h1 h2 h3 h4 h5
 obtain⟨a0,a1,e,h⟩:=Ja (TH:=56) sJ h1 h2 h3 h4 h5
 cases e
 exact rR h
theorem xN:Hq (aj 55):=by
 intro M v l n Q h1 h2 h3 h4 h5
 obtain⟨a0,a1,e,h⟩:=Iu GI h1 h2 h3 h4 h5
 cases e
 exact sj h
theorem NW:Ji (base w0 hi) (aj 114):=by
 intro M v w s Q hB h1 h2 h3 h4 h5
 obtain⟨a0,a1,e,h⟩:=Ko GU hB h1 h2 h3 h4 h5
 cases e
 exact xU h
theorem MG:Fh (aj 134):=by
 intro M x Q hQ
 obtain⟨a0,e,h⟩:=IY hQ
 cases e
 exact mF h
theorem PM:Cq (aj 117):=by
 intro M s Q h1 h2 h3 h4
 obtain⟨a0,a1,a2,e,h⟩:=Ai (TE:=119) (T8:=5) (cu:=aj 135) MG h1 h2 h3 h4
 cases e
 exact kH h
theorem O9:Cq (aj 116):=by
 intro M s Q h1 h2 h3 h4
 obtain⟨a0,a1,a2,e,h⟩:=Cr (ct:=aj 72) PM h1 h2 h3 h4
 cases e
 exact oO h
theorem Om:I9 (base w0 hi) (aj 85):=by
 intro M v b at' Q hB h1 h2 h3 h4 h5
 obtain⟨a0,a1,e,h⟩:=J7 (T:=5) NW uB sJ OM O9 hB h1 h2 h3 h4 h5
 cases e
 exact sQ h
theorem Ki:yQ (base w0 hi) 5 (aj 65):=by
 intro M v b at' Q hB h1 h2 h3 h4 h5
 obtain⟨a0,a1,e,h⟩:=Fj Om hB h1 h2 h3 h4 h5
 cases e
 exact pO h
theorem MZ:FI 5 (aj 66):=by
 intro M v s Q h1 h2 h3
 obtain⟨a0,e,h⟩:=Hg h1 h2 h3
 cases e
 exact vG h
theorem JX:DW (base w0 hi) 5 (aj 30):=by
 intro M v hv b l at' Q hB h1 h2 h3 h4 h5 h6 h7 h8
 obtain⟨a0,a1,a2,e,h⟩:=Kk GI sJ Ki uB Kb JA MZ hB h1 h2 h3 h4 h5 h6 h7 h8
 cases e
 exact sK h
theorem JV (br:Nat) : AZ (base w0 hi) (aj) (.fn (.func 26) [] [.ptr br 0]) ul br (iT 26 [] []) (Fx 26):=by
 intro M s K hB hbr hX hl h0 h1
 rw[yM]
 exact mI (JM (TS:=9) MK GG L8 hB hbr hX hl h0 h1)
theorem II (br:Nat) : AZ (base w0 hi) (aj) (.fn (.func 35) [] [.ptr br 0]) oW br (gp 34 0) (DZ 34):=by
 intro M s K hB hbr hX hl h0 h1
 rw[yM]
 exact lS (Ib O0 Kb PD JA hbr hX hl h0 h1)
theorem Fe:EQ (base w0 hi) 56 5 (aj 11):=by
 intro M v b Q hB h1 h2 h3 h4
 obtain⟨a0,e,h⟩:=FB (T:=26) (g:=26) (fun br=>Jv (JV br)) JX hB h1 h2 h3 h4
 cases e
 exact mR h
theorem Jr:Dh (base w0 hi) 56 5 (aj 14):=by
 intro M v b Q hB h1 h2 h3 h4
 obtain⟨a0,e,h⟩:=Dx (T:=34) (g:=35) (fun br=>Jv (II br)) JX hB h1 h2 h3 h4
 cases e
 exact mM h
theorem vR:pJ (base w0 hi) 5 (aj 32):=by
 intro M v bv f b l m z Q hB h1 h2 h3 h4 h5 h6 h7 h8 h9 h10
 obtain⟨a0,a1,a2,a3,a4,e,h⟩:=EI (TH:=56) Ma Kt sJ hB h1 h2 h3 h4 h5 h6 h7 h8 h9 h10
 cases e
 exact qB h
theorem CW:tJ (base w0 hi) (aj 33):=by
 intro M n Q hB h1 h2
 obtain⟨a0,e,h⟩:=EU (T:=56) Jq hB h1 h2
 cases e
 exact qE h
theorem Nw:tN (aj 31):=by
 intro M m q x y Q h1 h2 h3 h4 h5
 obtain⟨a0,e,h⟩:=ED (T:=26) GG L8 h1 h2 h3 h4 h5
 cases e
 exact mX h
theorem Kw:CY (base w0 hi) 5 (aj 12):=by
 intro M hv bv m q b l Q hB h1 h2 h3 h4 h5 h6 h7 h8 h9
 obtain⟨a0,e,h⟩:=DF (T:=26) Nw CW vR hB h1 h2 h3 h4 h5 h6 h7 h8 h9
 cases e
 exact mK h
theorem IG:Ah (base w0 hi) 5 (aj 13):=by
 intro M hv bv n b l Q hB h1 h2 h3 h4 h5 h6 h7
 obtain⟨a0,e,h⟩:=Ck (T:=34) Jq CW vR hB h1 h2 h3 h4 h5 h6 h7
 cases e
 exact mH h
theorem Ns:Fb 5 (aj 75):=by
 intro M n Q h1 h2 h3
 obtain⟨a0,a1,e,h⟩:=Ih (TS:=9) h1 h2 h3
 cases e
 exact xX h
theorem Lu:yO 5 (aj 48):=by
 intro M bb TB vs xss Q h1 h2 h3 h4 h5 h6 h7 h8
 obtain⟨a0,e,h⟩:=EA (TS:=9) Ns h1 h2 h3 h4 h5 h6 h7 h8
 cases e
 exact vD h
theorem KT:Cx 3 (aj 47):=by
 intro M v s Q h1 h2 h3
 obtain⟨a0,e,h⟩:=FT h1 h2 h3
 cases e
 exact xS h
theorem Pp:Ij (aj 123):=by
 intro M Q h1
 obtain⟨a0,e,h⟩:=Ls h1
 cases e
 exact jF h
theorem Oi:IZ (base w0 hi) (aj 96):=by
 intro M n Q hB h1 h2
 obtain⟨a0,a1,a2,a3,a4,e,h⟩:=JW (TS:=9) (TA:=154) (T8:=5) Pp Qx hB h1 h2
 cases e
 exact j5 h
theorem O1:BV (base w0 hi) (aj 76):=by
 intro M n Q hB h1 h2
 obtain⟨a0,a1,e,h⟩:=Kh (c1:=aj 93) (TA:=125) (c2:=aj 94) (c3:=aj 95) Oi hB h1 h2
 cases e
 exact kC h
theorem Pf:BV (base w0 hi) (aj 49):=by
 intro M n Q hB h1 h2
 obtain⟨a0,a1,e,h⟩:=LJ O1 hB h1 h2
 cases e
 exact oH h
theorem F9:yG (base w0 hi) 5 (aj 19):=by
 intro M hv bv sv m q b l sz Q hB h1 h2 h3 h4 h5 h6 h7 h8 h9 h10 h11
 obtain⟨a0,a1,e,h⟩:=Bj (T:=26) (TI:=3) (TB:=24) Nw KT Pf Lu vR hB h1 h2 h3 h4 h5 h6 h7 h8 h9 h10 h11
 cases e
 exact ql h
end
end Go.Ab.Hw
namespace Go.Ab.Hw
open Go Go.Ab Go.Ab.Sm Go.RowKit Go.Proofs
open Go.Proofs.YtmjcgbaacndblaaGreatDoor
abbrev lT:Str:=[71,69,84]
abbrev q9:Str:=[47,97]
abbrev lX:List Hd:=[([88],[49])]
def PU:Except Nat Str→Str
 | .ok s=>s
 | .error _=>[]
abbrev sA:Str:=[71,69,84,32,47,97,32,72,84,84,80,47,49,46,49,13,10,88,58,32,49,13,10,67,111,110,116,101,110,116,45,76,101,110,103,116,104,58,32,48,13,10,13,10]
def sC:Str:=PU (jH 404 [] [110,111])
def sD:Str:=PU (jf lT q9 lX [97,98,99,100] [3])
theorem pA:mZ lT q9 lX []=.ok sA:=by kernel_rfl
theorem rA:lN (sA++[120])=.ok ((lT,q9,lX++[(nE,[48])],[]),[120]):=by kernel_rfl
theorem pC:jH 404 [] [110,111]=.ok sC:=by kernel_rfl
theorem rC:lH sC=.ok ((404,[(nE,[50])],[110,111]),[]):=by kernel_rfl
theorem pD:jf lT q9 lX [97,98,99,100] [3]=.ok sD:=by kernel_rfl
theorem rD:lN sD=.ok ((lT,q9,lX++[(G6,CO)],[97,98,99,100]),[]):=by kernel_rfl
theorem nA:bf (lX++[(nE,[48])]) [120]=[[49]]:=by kernel_rfl
theorem nC:bf [(nE,[50])] [67,79,78,84,69,78,84,45,76,69,78,71,84,72]=[[50]]:=by kernel_rfl
theorem lC:sC.length≤1000:=by decide +kernel
theorem lD:sD.length≤1000:=by decide +kernel
theorem Gj {T n:Nat} {M:RM} {parts:List (Nat × Nat × AV)} (s:Str) {K:ah} (he:nO (bZ [(N .u8 0)] n) parts=some (BY.row s)) (hn:s.length=n)
  (hK:∀ v M',Bs M' v s→ae [] M M'→(∀ b∈aN v,M.next≤b)→K v M') : dB T n [(N .u8 0)] parts fun r f=>bn r f M fun t14 M1=>oI t14 M1 fun t15 M_0=>K t15 M_0:=by
 refine⟨BY.row s,he, ?_⟩
 simp only[aS]
 refine⟨M.next,0,n,n,BY.row s,T,rfl,by simp[RM.push], ?_⟩
 refine hK _ _ ⟨?_,Nat.le_refl _⟩ (((ae.refl _ _).push _).new _ (Nat.le_refl _)) (fun b hb=>by simp[aN] at hb; omega)
 subst hn
 refine aK.slc _ _ _ _ _ (by simp[RM.push,RM.put]) ?_
 rw[RM.gz (aM _) (by rw[jN]; simp[BY]),List.drop_zero,List.take_of_length_le (by rw[jN]; simp[BY])]
theorem Rn {T:Nat} {M:RM} {z cs:List AV} {K:AV→RM→Prop} (n:Nat) (hz:z.length=n) (hc:cs.length=n) (h1:cs.all oneCell=true)
  (hK:∀ M',ae [] M M'→M'.heap M.next=some (.row cs false T 0)→M.next<M'.next→K (.agg cs) M') :
  bn (.row z false T 0) (fun b=>.ptr b 0) M fun t M1=>aG M1 t (.agg cs) n fun M2=>bG M2 t n fun r=>K r M2:=by
 simp only[aS]
 have n1:(M.push (.row z false T 0)).heap M.next=some (.row z false T 0):=by simp[RM.push]
 rw[jq n1 hc hz h1,bV (aM _) hc]
 exact hK _ (((ae.refl _ _).push _).new _ (Nat.le_refl _)) (aM _) (by simp[RM.push,RM.put])
theorem IB {T:Nat} {M:RM} {z cs:List AV} {K:AV→RM→Prop} (n:Nat) (hz:z.length=n) (hc:cs.length=n) (h1:cs.all oneCell=true)
  (hK:∀ M',ae [] M M'→M'.heap M.next=some (.row cs false T 0)→M.next<M'.next→K (.ptr M.next 0) M') :
  bn (.row z false T 0) (fun b=>.ptr b 0) M fun t M1=>aG M1 t (.agg cs) n fun M2=>K t M2:=by
 simp only[aS]
 have n1:(M.push (.row z false T 0)).heap M.next=some (.row z false T 0):=by simp[RM.push]
 rw[jq n1 hc hz h1]
 exact hK _ (((ae.refl _ _).push _).new _ (Nat.le_refl _)) (aM _) (by simp[RM.push,RM.put])
theorem sW {α:Type} {x y:α} {r:Except Nat α} (h:r=.ok x) (k:r=.ok y) : x=y:=by rw[h] at k; exact Except.ok.inj k
theorem sZ {α:Type} {x:α} {e:Nat} {r:Except Nat α} (h:r=.ok x) (k:r=.error e) : False:=by rw[h] at k; cases k
theorem Md:∀ h∈lX,h.1.length≤281474976710656∧h.2.length≤281474976710656:=fun h hx=>by
 simp at hx; subst hx; simp
def N9 (B:Base) (c:ai) : Prop:=∀ {M:RM} {Q:ah},M.base=B→(∀ M',ae [] M M'→Q (Bo true) M')→c [] M Q
section
variable {w0:World} {hi:Iv w0}
theorem OA:N9 (base w0 hi) (aj 10):=by
 intro M Q hB hQ
 refine vE ?_
 unfold uY
 rw[gF]
 refine⟨_,Af rfl rfl rfl rfl, ?_⟩
 rw[xM (by rfl) (by rfl) (by rfl)]
 simp only[aS (x:=.row (AV.agg [St [88],St [49]]).cells false 56 0)]
 have k1:ae [] M (M.push (.row (AV.agg [St [88],St [49]]).cells false 56 0)):=(ae.refl _ _).push _
 have s1:Sl HD (M.push (.row (AV.agg [St [88],St [49]]).cells false 56 0)) (.slc M.next 0 1 (.ex 1)) lX:=Sl.new (E:=HD) lX
 generalize M.push (.row (AV.agg [St [88],St [49]]).cells false 56 0)=M1 at *
 rw[gF]
 refine⟨[St lT,St q9,.slc M.next 0 1 (.ex 1),aH],rfl, ?_⟩
 have bx:∀ K:AV→AV→RM→Prop,(∀ M2,ae [] M1 M2→M2.heap M1.next=some (.row [St lT,St q9,.slc M.next 0 1 (.ex 1),aH] false 26 0)→M1.next<M2.next→K (.ptr M1.next 0) (.agg [St lT,St q9,.slc M.next 0 1 (.ex 1),aH]) M2) →
   bn (.row [St [],St [],aH,aH] false 26 0) (fun b=>.ptr b 0) M1 fun t M2=>aG M2 t (.agg [St lT,St q9,.slc M.next 0 1 (.ex 1),aH]) 4 fun M3=>bG M3 t 4 fun r=>K t r M3:=fun K h=>by
  refine IB (K:=fun t M3=>bG M3 t 4 fun r=>K t r M3) 4 rfl rfl rfl fun M2 k2 n2 l2=>?_
  rw[bV n2 (by rfl)]
  exact h M2 k2 n2 l2
 refine bx _ fun M2 k2 n2 l2=>?_
 have k02:=k1.trans k2
 have s2:Sl HD M2 (.slc M.next 0 1 (.ex 1)) lX:=aK.keep s1 k2 (by simp)
 refine Kw (hi:=hi) (k02.base.trans hB) s2 (by simp) Md (by simp) (by simp) (body:=[]) .nil (by simp) (fun s v3 M3 e3 _ k3 o3=>?_) (fun e M3 e3 _ _=>(sZ pA e3).elim)
 obtain rfl:=sW pA e3
 simp only[aX,aY]
 rw[Hm]
 simp only[aS (x:=.row [] false 5 0)]
 have k3' : ae [] M3 (M3.push (.row [] false 5 0)):=(ae.refl _ _).push _
 refine pq (E:=BY) (Ow.lit BY M3) (by simp[RM.push]) (by decide) (aK.keep (Own.oq o3) k3' (by simp)) (by simp) (by simp) fun v4 M4 o4 k4 _ _=>?_
 have k34:ae [] M3 M4:=ae.own k3' k4 (fun b hb=>by simp[aN] at hb; omega)
 rw[xM (by rfl) (by rfl) (by rfl)]
 simp only[aS (x:=.row (N .u8 120).cells false 5 0)]
 refine wV (E:=BY) (a:=120) o4 k34.next (by decide) (by simp) (by simp) fun v5 M5 o5 k5 _ _=>?_
 have k35:ae [] M3 M5:=ae.own k34 k5 (fun b hb=>(Own.blk o4 b hb).1)
 have k25:=k3.trans k35
 rw[List.nil_append] at o5
 refine Fe (hi:=hi) ((k02.trans k25).base.trans hB) (Bs.own o5) (by simp) (fun m p l out r at6 hv6 ov6 M6 e6 h61 h62 _ _ _ k6 oh6 ob6=>?_) (fun e M6 e6 _ _=>(sZ rA e6).elim)
 have e6':=sW rA e6
 simp only[Prod.mk.injEq] at e6'
 obtain⟨⟨rfl,rfl,rfl,rfl⟩,rfl⟩:=e6'
 have Q4:at6=44:=by
  have:=congrArg List.length h62
  simp at this h61; omega
 subst Q4
 simp only[aX,aY,eB]
 have c6:([St lT,St q9,hv6,ov6] : List AV).all oneCell=true:=by
  have h1:=Own.one oh6; have h2:=Own.one ob6
  simp only[List.all_cons,List.all_nil,h1,h2]; rfl
 refine Rn (K:=fun t40 IV=>_) 4 rfl rfl c6 fun M7 k7 _ _=>?_
 have k26:=k25.trans (k6.trans k7)
 have sh7:Sl HD M7 hv6 (lX++[(nE,[48])]):=aK.keep (Own.oq oh6) k7 (by simp)
 refine iQ (FK xN sh7 (by simp) (by decide) (by decide) c6 fun M8 k8=>?_)
 rw[nA]
 simp only[jo,aX,aY]
 have k28:=k26.trans k8
 refine Gj [110,111] rfl rfl fun v9 M9 b9 k9 _=>?_
 rw[gF]
 have ob9:=aK.one b9.sl
 have fl9:kY [N .i64 0,aH,aH] [(0,1,N .i64 404),(2,1,v9)]=some [N .i64 404,aH,v9]:=by
  have h1:=aK.known b9.sl
  have h2:=aK.cells b9.sl
  rw[kY,if_pos ⟨rfl,rfl,by decide⟩,kY,if_pos ⟨h1,by rw[h2]; rfl,by decide⟩,h2]
  rfl
 refine⟨_,fl9, ?_⟩
 have k29:=k28.trans k9
 refine IG (hi:=hi) ((k02.trans k29).base.trans hB) (l:=[]) .nil (by simp) (by simp) b9.sl (by simp) (fun s v10 M10 e10 _ k10 o10=>?_) (fun e M10 e10 _ _=>(sZ pC e10).elim)
 obtain rfl:=sW pC e10
 simp only[aX,aY]
 have Jb:=k29.trans k10
 refine Jr (hi:=hi) ((k02.trans Jb).base.trans hB) (Bs.own o10) (by have:=lC; omega) (fun n l out r Rj BK Ch M11 e11 h111 h112 _ _ _ k11 OB K7=>?_) (fun e M11 e11 _ _=>(sZ rC e11).elim)
 have NZ:=sW rC e11
 simp only[Prod.mk.injEq] at NZ
 obtain⟨⟨rfl,rfl,rfl⟩,rfl⟩:=NZ
 have PE:Rj=sC.length:=by
  have:=congrArg List.length h112
  simp at this; omega
 subst PE
 simp only[aX,aY,eB]
 have c11:([N .i64 ((404:Nat) : Int),BK,Ch] : List AV).all oneCell=true:=by
  have h1:=Own.one OB; have h2:=Own.one K7
  simp only[List.all_cons,List.all_nil,h1,h2]; rfl
 have bx2:∀ K:AV→AV→RM→Prop,(∀ M2,ae [] M11 M2→M2.heap M11.next=some (.row [N .i64 ((404:Nat) : Int),BK,Ch] false 34 0)→M11.next<M2.next→K (.ptr M11.next 0) (.agg [N .i64 ((404:Nat) : Int),BK,Ch]) M2) →
   bn (.row [N .i64 0,aH,aH] false 34 0) (fun b=>.ptr b 0) M11 fun t M2=>aG M2 t (.agg [N .i64 ((404:Nat) : Int),BK,Ch]) 3 fun M3=>bG M3 t 3 fun r=>K t r M3:=fun K h=>by
  refine IB (K:=fun t M3=>bG M3 t 3 fun r=>K t r M3) 3 rfl rfl c11 fun M2 k2 n2 l2=>?_
  rw[bV n2 (by rfl)]
  exact h M2 k2 n2 l2
 refine bx2 _ fun M12 k12 n12 l12=>?_
 have QO:Sl HD M12 BK [(nE,[50])]:=aK.keep (Own.oq OB) k12 (by simp)
 refine iL (CR xN QO (by simp) (by decide) (by decide) c11 fun M13 k13=>?_)
 rw[nC]
 simp only[jo,aX,aY]
 have Np:=Jb.trans (k11.trans (k12.trans k13))
 refine Gj [97,98,99,100] rfl rfl fun v14 M14 b14 k14 Ru=>?_
 have HV:=Np.trans k14
 have n14:=HV.aO n2 l2 (by simp)
 have l14:=Nat.lt_of_lt_of_le l2 HV.next
 have c14:=aK.cells b14.sl
 have QD:=aK.one b14.sl
 rw[gK,Nat.zero_add,fF [St lT,St q9,.slc M.next 0 1 (.ex 1),v14] n14 (by simp) c14 QD rfl,bV (aM _) (by rfl)]
 have k15:ae [M1.next] M14 (M14.put M1.next (.row [St lT,St q9,.slc M.next 0 1 (.ex 1),v14] false 26 0)):=(ae.refl _ _).put _ (.inr (by simp))
 generalize M14.put M1.next (.row [St lT,St q9,.slc M.next 0 1 (.ex 1),v14] false 26 0)=M15 at *
 have kk:∀ {X Y:RM},ae [] X Y→ae [M1.next] X Y:=fun k=>k.mono (by simp)
 have b15:Bs M15 v14 [97,98,99,100]:=b14.keep k15 (fun x hx hm=>by have:=Ru x hx; have:=Np.next; simp at hm; omega)
 have ne1:∀ b,M2.next≤b→b≠M1.next:=fun b h e=>by omega
 have s15:Sl HD M15 (.slc M.next 0 1 (.ex 1)) lX:=aK.keep (aK.keep s2 HV (by simp)) k15 (fun x hx hm=>by have:=aK.lt s1 x hx; simp at hm; omega)
 rw[xM (by rfl) (by rfl) (by rfl)]
 simp only[aS (x:=.row (N .i64 3).cells false 3 0)]
 have k16:ae [] M15 (M15.push (.row (N .i64 3).cells false 3 0)):=(ae.refl _ _).push _
 have s16:Sl INT (M15.push (.row (N .i64 3).cells false 3 0)) (.slc M15.next 0 1 (.ex 1)) [3]:=Sl.new (E:=INT) [3]
 generalize M15.push (.row (N .i64 3).cells false 3 0)=M16 at *
 have K9:ae [M1.next] M2 M16:=(kk HV).trans (k15.trans (kk k16))
 refine F9 (hi:=hi) ((K9.base.trans k02.base).trans hB) (aK.keep s15 k16 (by simp)) (by simp) Md (by simp) (by simp) (b15.keep k16 (by simp)) (by simp) s16 (by simp) (fun s v17 M17 e17 _ k17 o17=>?_) (fun e M17 e17 _ _=>(sZ pD e17).elim)
 obtain rfl:=sW pD e17
 simp only[aX,aY]
 refine Fe (hi:=hi) ((k17.base.trans (K9.base.trans k02.base)).trans hB) (Bs.own o17) (by have:=lD; omega) (fun m p l out r QR Rh Ox M18 e18 h181 QB _ _ _ k18 QQ Oq=>?_) (fun e M18 e18 _ _=>(sZ rD e18).elim)
 have NU:=sW rD e18
 simp only[Prod.mk.injEq] at NU
 obtain⟨⟨rfl,rfl,rfl,rfl⟩,rfl⟩:=NU
 have Pw:QR=sD.length:=by
  have:=congrArg List.length QB
  simp at this; omega
 subst Pw
 simp only[aX,aY,eB]
 have c18:([St lT,St q9,Rh,Ox] : List AV).all oneCell=true:=by
  have h1:=Own.one QQ; have h2:=Own.one Oq
  simp only[List.all_cons,List.all_nil,h1,h2]; rfl
 refine IB (K:=fun t M_35=>_) 4 rfl rfl c18 fun M19 k19 n19 l19=>?_
 -- what stands at the end
 have Qq:ae [M1.next] M3 M19:=by
  have a:=kk (k35.trans (k6.trans (k7.trans (k8.trans (k9.trans (k10.trans (k11.trans (k12.trans (k13.trans k14)))))))))
  exact a.trans (k15.trans (kk (k16.trans (k17.trans (k18.trans k19)))))
 have bA:Bs M19 v3 sA:=(Bs.own o3).keep Qq (fun x hx hm=>by have:=(Own.blk o3 x hx).1; simp at hm; omega)
 have Pz:ae [M1.next] M10 M19:=(kk (k11.trans (k12.trans (k13.trans k14)))).trans (k15.trans (kk (k16.trans (k17.trans (k18.trans k19)))))
 have bC:Bs M19 v10 sC:=(Bs.own o10).keep Pz (fun x hx hm=>by have:=(Own.blk o10 x hx).1; have:=k29.next; simp at hm; omega)
 have Ml:ae [M1.next] M12 M19:=(kk (k13.trans k14)).trans (k15.trans (kk (k16.trans (k17.trans (k18.trans k19)))))
 have h11:M19.heap M11.next=some (.row [N .i64 ((404:Nat) : Int),BK,Ch] false 34 0):=Ml.aO n12 l12 (by
  have:=(Jb.trans k11).next; simp; omega)
 have QH:Bs M19 Ch [110,111]:=((Bs.own K7).keep k12 (by simp)).keep Ml (fun x hx hm=>by have:=(Own.blk K7 x hx).1; have:=Jb.next; simp at hm; omega)
 have bD:Bs M19 v17 sD:=(Bs.own o17).keep (k18.trans k19) (by simp)
 have Q3:Bs M19 Ox [97,98,99,100]:=(Bs.own Oq).keep k19 (by simp)
 have go1:∀ {α:Type} [BEq α] [LawfulBEq α] (a:α),(a == a)=true:=fun a=>beq_self_eq_true a
 simp only[dh,bT,bI,df,go1]
 rw[bA.str]
 simp only[dh,bT,bI,df,go1]
 rw[bA.len]
 rw[bI,show(((44:Nat) : Int) == ((sA.length:Nat) : Int))=true by decide]
 simp only[dh,bT,bI,df,go1]
 rw[bC.len]
 simp only[dh,bT,bI,df,go1,gK,Nat.zero_add]
 rw[bu h11 rfl]
 rw[bI,show(((404:Nat) : Int) == 404)=true from rfl]
 simp only[dh,bT,bI,df,go1]
 rw[bu h11 rfl,QH.str]
 simp only[dh,bT,bI,df,go1]
 rw[bD.len]
 simp only[dh,bT,bI,df,go1]
 rw[bu n19 rfl,Q3.str]
 simp only[dh,bT,bI,df,go1]
 exact hQ _ (qJ k02 (K9.trans (kk (k17.trans (k18.trans k19)))) (by have:=k1.next; omega))
end
theorem Em (l:List Hd) (n:Str) (i:Nat) : bf l n=bf (l.take i) n++bf (l.drop i) n:=by
 unfold bf
 rw[← List.map_append,← List.filter_append,List.take_append_drop]
section
variable {w0:World} {hi:Iv w0}
theorem J3:uw (aj 24):=by
 intro M s Q h1 h2
 obtain⟨a0,e,h⟩:=F3 (T8:=5) h1 h2
 cases e
 exact xV h
theorem MS {M:RM} {v:AV} {l:List Hd} {n:Str} {Q:ah} (hB:M.base=base w0 hi) (hv:Sl HD M v l) (hl:∀ h∈l,h.1.length<4611686018427387904) (hn:n.length<4611686018427387904) (hQ:∀ M',Q (Bo true) M') :
  aj 6 [v,St n] M Q:=by
 refine ol ?_
 unfold mE
 refine OA (hi:=hi) hB fun M1 k1=>?_
 have s1:Sl HD M1 v l:=aK.keep hv k1 (by simp)
 simp only[bX,Bool.not_true,bg]
 rw[aK.len s1,eD]
 refine dE (fun _=>hQ _) fun h60=>?_
 have h60:l.length≤60:=by simp at h60; omega
 have kv:=aK.known s1
 have cv:=aK.cells s1
 have ov:=aK.one s1
 rw[gF]
 refine⟨[St [],St [],v,aH],by rw[kY,if_pos ⟨kv,by rw[cv]; rfl,by decide⟩,cv]; rfl, ?_⟩
 refine iQ (FK xN s1 (by omega) hl hn (by simp only[List.all_cons,List.all_nil,ov]; rfl) fun M2 k2=>?_)
 have s2:Sl HD M2 v l:=aK.keep s1 k2 (by simp)
 obtain⟨u,b,hf,hcase⟩ : ∃ u b,jo (bf l n)=.tup [St u,Bo b]∧((bf l n=[]∧u=[]∧b=false)∨(∃ r,bf l n=u :: r∧b=true)):=by
  cases h:bf l n with
  | nil=>exact⟨[],false,rfl,.inl ⟨rfl,rfl,rfl⟩⟩
  | cons x r=>exact⟨x,true,rfl,.inr ⟨r,rfl,rfl⟩⟩
 rw[hf]
 simp only[aX,aY]
 rw[gF]
 refine⟨[N .i64 0,v,aH],by rw[kY,if_pos ⟨kv,by rw[cv]; rfl,by decide⟩,cv]; rfl, ?_⟩
 refine iL (CR xN s2 (by omega) hl hn (by simp only[List.all_cons,List.all_nil,ov]; rfl) fun M3 k3=>?_)
 have s3:Sl HD M3 v l:=aK.keep s2 k3 (by simp)
 rw[hf]
 simp only[aX,aY]
 refine dF (fun m ys M4=>∃ i:Nat,m=l.length - i∧ys=[N .i64 (i:Int)]∧i≤l.length∧bf (l.take i) n=[]∧ae [] M3 M4) _ ⟨0,rfl,rfl,Nat.zero_le _,rfl,ae.refl _ _⟩ ?_
 rintro next m ys M4 hnext ⟨i,rfl,rfl,hi',hno,k4⟩
 have s4:Sl HD M4 v l:=aK.keep s3 k4 (by simp)
 simp only[bz,bW]
 rw[aK.len s4,wB]
 refine dE (fun h=>?_) fun h=>?_
 ·have hlt:i<l.length:=by simpa using h
  obtain⟨b0,off,hb0,_,hix,hld⟩:=s4.at 2 (i:Int) hlt
  rw[hix,gK,dw]
  refine⟨St l[i].1,om hld (j:=0) (x:=St l[i].1) rfl, ?_⟩
  refine J3 (by have:=hl l[i] (List.getElem_mem hlt); omega) fun M5 k5=>?_
  refine J3 (by omega) fun M6 k6=>?_
  have nt:=Ak (n:=n) hlt
  rw[hno,List.nil_append] at nt
  rw[df]
  refine dE (fun h=>?_) fun h=>?_
  ·have hin:isNamed n l[i]=true:=h
   rw[hin,if_pos rfl] at nt
   have hs:=Em l n (i + 1)
   rw[nt] at hs
   rcases hcase with⟨h1,_,_⟩ | ⟨r,h1,rfl⟩
   ·rw[h1] at hs; cases hs
   ·have hu:u=l[i].2:=by rw[h1] at hs; exact(List.cons.inj hs).1
    have s6:Sl HD M6 v l:=aK.keep s4 (k5.trans k6) (by simp)
    obtain⟨b1,off1,_,_,Fu,Co⟩:=s6.at 2 (i:Int) hlt
    simp only[bT,dh]
    rw[Fu,gK,dw]
    refine⟨St l[i].2,om Co (j:=1) (x:=St l[i].2) rfl, ?_⟩
    rw[df,hu,beq_self_eq_true]
    simp only[bT,dh,df,beq_self_eq_true]
    exact hQ _
  ·have hin:isNamed n l[i]=false:=h
   rw[hin,if_neg (by decide)] at nt
   rw[add1 (by omega)]
   exact hnext _ _ _ (by omega) ⟨i + 1,rfl,rfl,by omega,nt,k4.trans (k5.trans k6)⟩
 ·have:i=l.length:=by simp at h; omega
  subst this
  rw[List.take_length] at hno
  rcases hcase with⟨_,rfl,rfl⟩ | ⟨r,h1,_⟩
  ·simp only[bX,Bool.not_false,bT,dh,df,beq_self_eq_true]
   exact hQ _
  ·rw[h1] at hno; cases hno
end
end Go.Ab.Hw
namespace Go.Ab.Hw
open Go Go.Ab Go.RowKit Go.Proofs
open Go.Proofs.YtmjcgbaacndblaaGreatDoor
theorem vI {P:Program} {n:String} {d:DataW Unit} {r:List (String × DataW Unit)} {w:World} (h:laidMet P ((n,d) :: r) w) : laidMet P r w:=by
 obtain⟨ps,⟨g,t,cs,fuel,p,q,_,_,_,_,hs,rfl⟩,hnd,hall⟩:=h
 exact⟨q,hs,(List.nodup_append.1 hnd).2.1,fun b off hm=>hall b off (by simp[hm])⟩
theorem Ms:Rows.httpwireKnownRow.laid=("math/bits.deBruijn32tab",Rows.laid_math_bits_deBruijn32tab) :: ("math/bits.deBruijn64tab",Lib.tabData .u8 IL) :: ("internal/strconv.uint64pow10",Lib.tabData .u64 Lib.pow10Tab) :: Rows.httpwireKnownRow.laid.drop 3:=by kernel_rfl
theorem inv_of (w:World) (h:laidMetH Tryz.prog Rows.httpwireKnownRow.laid w) (hsh:w.ShapedOpen Tryz.prog) : Iv w:=by
 rw[MakeChecks.laidMetH_plain _ _ _ (by kernel_rfl),Ms] at h
 refine⟨cell_of_shapedOpen_int (g:=0) (t:=3) (zero := #[.int .i64 0]) hsh (by decide +kernel) (by kernel_rfl) (by kernel_rfl) (by kernel_rfl) (by kernel_rfl) (by kernel_rfl), ?_, ?_⟩
 ·exact Lib.tabIs_of_head (g:=3) (t:=152) (e:=126) (n:=20) g3 (by kernel_rfl) (by kernel_rfl) (by kernel_rfl) (by kernel_rfl) (by kernel_rfl) (vI (vI h))
 ·exact Lib.tabIs_of_head (g:=7) (t:=173) (e:=5) (n:=64) g7 (by kernel_rfl) (by kernel_rfl) (by kernel_rfl) (by kernel_rfl) (by kernel_rfl) (vI h)
theorem zD:reachBytes≤281474976710656:=by decide +kernel
theorem NR:Tryz.prog.cellsOf 9=1:=by kernel_rfl
theorem BD:Tryz.prog.cellsOf 56=2:=by kernel_rfl
theorem Mq {M:RM} {cs:List AV} (h:Fits Tryz.prog M 56 cs) : ∃ x:Hd,(x.1.length≤281474976710656∧x.2.length≤281474976710656)∧cs=HD.cells x:=by
 obtain⟨hl,hf⟩:=h.IJ Tryz.underlying56
 rw[BD] at hl
 match cs,hl with
 | [a,b],_ =>
   have f0:Fits Tryz.prog M 9 (([a,b].drop 0).take (Tryz.prog.cellsOf 9)):=hf 0 _ rfl
   have f1:Fits Tryz.prog M 9 (([a,b].drop 1).take (Tryz.prog.cellsOf 9)):=hf 1 _ rfl
   rw[NR] at f0 f1
   obtain⟨s,e,g⟩:=f0.Cn Tryz.underlying9
   obtain⟨t,e',g'⟩:=f1.Cn Tryz.underlying9
   cases e; cases e'
   exact⟨(s,t),⟨Nat.le_trans g zD,Nat.le_trans g' zD⟩,rfl⟩
theorem Lp {M:RM} {cs:List AV} (h:Fits Tryz.prog M 23 cs) : ∃ v,∃ l:List Hd,cs=[v]∧Sl HD M v l∧∀ x∈l,x.1.length≤281474976710656∧x.2.length≤281474976710656:=by
 obtain⟨v,n,ds,rfl,hs,hb,he⟩:=h.JJ Tryz.underlying23 (by rw[BD]; decide)
 rw[BD] at hs he
 obtain⟨xs,rfl,rfl,hp⟩:=CG (size:=2) HD.cells (fun x:Hd=>x.1.length≤281474976710656∧x.2.length≤281474976710656) (fun _=>rfl) n ds hs.length fun i hi=>by
  obtain⟨x,g,e⟩:=Mq (he i hi)
  exact⟨x,g,e⟩
 exact⟨v,xs,rfl,hs,hp⟩
end Go.Ab.Hw
namespace Go.Proofs.YtmjcgbaacndblaaGreatDoor.httpwireGets
open Go Go.Ab Go.ChangeShapes Go.WideShapes Go.ChangeAt Go.RowKit
theorem own:ownKnob Tryz.prog.godebug=none:=by kernel_rfl
open Go.Ab.Hw
def Inv (w:World) : Prop:=Iv w
theorem inv_of (w:World) (h:laidMetH Tryz.prog Rows.httpwireGetsRow.laid w) (hsh:w.ShapedOpen Tryz.prog) : Inv w:=Go.Ab.Hw.inv_of w h hsh
theorem walk (w:World) (hi:Inv w) (v0 v1:Value) (h0:mJ Tryz.prog (RM.old (base w hi) w) 23 (qd w.heap.size v0)) (h1:mJ Tryz.prog (RM.old (base w hi) w) 9 (qd w.heap.size v1)) :
  Calls Tryz.prog 6 #[v0,v1] w fun e w'=>e=.returned (.bool true)∧Below w.heap.size w w':=by
 obtain⟨u0,l,e0,hl,hle⟩:=Lp (h0.one (by kernel_rfl))
 obtain⟨s,e1,g1⟩:=(h1.one (by kernel_rfl)).Cn Tryz.underlying9
 have hr:=zD
 refine dD.close (base:=base w hi) rfl hi ?_
 simp only[List.map_cons,List.map_nil]
 rw[show qd (base w hi).n v0=u0 from(List.cons.inj e0).1,show qd (base w hi).n v1=St s from(List.cons.inj e1).1]
 exact MS (hi:=hi) rfl hl (fun h hx=>by have:=(hle h hx).1; omega) (by omega) fun M'=>rfl
set_option maxRecDepth 100000 in
theorem lifted (os:Os) (started:os.Started) (H:Type) (enc:TypeId × Value→H) :
  ReturnsInHanded {} Tryz.checked os 6 .any (fun w args=>(Rows.httpwireGetsSpec.pre enc Tryz.prog Tryz.f6 Rows.httpwireGetsRow.domain false w args∧laidMetH Tryz.prog Rows.httpwireGetsRow.laid w)∧sizedMet enc Tryz.prog Tryz.f6 (OpenSpec.ofChange Rows.httpwireGetsSpec) false w args)
   (Rows.httpwireGetsSpec.post enc Tryz.prog Tryz.f6 false true false false):=by
 refine xW (C:=Tryz.checked) (X:=fun w _=>laidMetH Tryz.prog Rows.httpwireGetsRow.laid w) (fun _ _ _ hh h=>h.of_heap hh) own started (by kernel_rfl) Tryz.func6
  (ChangeSpec.witness_shaped (enc:=enc) (C:=Tryz.checked) (os:=os) (X:=fun w _=>laidMetH Tryz.prog Rows.httpwireGetsRow.laid w) false (World.laidAll Tryz.prog os Rows.httpwireGetsRow.laid) #[.slice none 0 0,.string ⟨#[]⟩] 8 (World.laidAll_os _ _ _)
   (World.shaped_of_ZipB (by kernel_rfl) (by kernel_rfl)) (by kernel_rfl) (by kernel_rfl) (by kernel_rfl)
   (by rw[MakeChecks.laidMetH_plain _ _ _ (by kernel_rfl)]; exact laidMet_laidAll _ (by kernel_rfl) (by kernel_rfl))) ?_
 intro W b0 args ds gs before hval hW hcnd hwt hL hsh _
 have hW':=hW
 obtain⟨p,q,hA,hV,rfl,hfz,hnd⟩:=hW
 rw[Tryz.params6] at hA hwt
 have hi:Inv W:=inv_of W hL hsh
 obtain⟨rfl,rfl⟩:=trodVars_none hV
 have hfit:=Ee (base:=base W hi) rfl hA (fun j t v hj hv=>hval j t v (by rw[Tryz.params6]; simpa using hj) (by simpa using hv)) (fun y hy=>by
  have Qz:(DataW.weightsEach Tryz.prog [23,9] (ds++[])).all (· ≤ reachBytes)=true:=hwt
  have:=List.all_eq_true.1 Qz y (by rw[List.append_nil]; exact hy)
  simpa using this)
 simp only[List.append_nil] at hW'
 have hlt:∀ x∈p,x.block<W.heap.size:=fun x hx=>hW'.lt x hx
 obtain⟨v0,v1,d0,d1,p0,p1,rfl,rfl,rfl,h0,h1⟩:=trodAll_two hA
 refine(walk W hi v0 v1 (hfit 0 _ _ rfl rfl) (hfit 1 _ _ rfl rfl)).mono fun e W' ⟨he,hg⟩=>?_
 subst he
 exact⟨_,rfl,DJ (pa:=_) (pv:=[]) hW' (fun _ _ _=>(trodAll_cons_mk (shut_bool Tryz.underlying4 _) trodAll_mk0)) (fun sp hsp=>by
   rw[Tryz.params6]
   exact uT (by kernel_rfl) hg (fun t ht=>by
    have ht:t=23∨t=9:=by simpa using ht
    rcases ht with rfl | rfl <;> exact⟨by kernel_rfl,of_decide_eq_true (by kernel_rfl)⟩) hA hlt hsp) (fun _ _=>rfl) (by simp)
  hg (ok_one (by kernel_rfl) rfl (okWide_bool_mk Tryz.underlying4 _))⟩
theorem over:Rows.HttpwireGetsSaid :=
 OpenClaim.holds_of_wide 6 Tryz.f6 rfl rfl rfl rfl rfl rfl rfl ⟨rfl,rfl,rfl,rfl,rfl⟩ rfl rfl rfl rfl rfl (by kernel_rfl) Tryz.func6 (by kernel_rfl)
  (of_decide_eq_true (by kernel_rfl)) (by unfold Func.isWrapper; first | (rw[if_pos (by decide +kernel)]; kernel_rfl) | (rw[if_neg (by decide +kernel)]; exact⟨rfl,rfl⟩))
  (fun os started H enc _=>lifted os started H enc)
theorem proved:Rows.HttpwireGetsCardSaid :=
 Claim7.holds_tied_plain_at .later [] [.data,.data,.data,.data,.sentinel,.sentinel,.pinned] true (true,"362dc9c824334cfe19c170802755e1a7d2dd71729a4e635eeb53d76f24be5b19") true
  over (fun _ h=>by cases h) (by kernel_rfl) (fun _ h=>by cases h) httpwireGets_row_tie rfl ⟨rfl,rfl⟩ (by kernel_rfl) rfl
  (fun f fn hf hfn=>by
   obtain rfl:f=6:=Option.some.inj ((show Tryz.prog.funcNamed "rolodex/rolodexlaw17.HttpwireGets" = some 6 by kernel_rfl).symm.trans hf) |>.symm
   obtain rfl:fn=Tryz.f6:=(Option.some.inj (Tryz.func6.symm.trans hfn)).symm
   exact⟨by kernel_rfl,fun j t ht=>by
    rw[Tryz.params6] at ht
    have hm:=Array.mem_of_getElem? ht
    have hm:t=23∨t=9:=by simpa using hm
    rcases hm with rfl | rfl
    ·exact(by kernel_rfl:Tryz.prog.wantsStandIn 23=false)
    ·exact(by kernel_rfl:Tryz.prog.wantsStandIn 9=false)⟩)
  (by kernel_rfl)
end Go.Proofs.YtmjcgbaacndblaaGreatDoor.httpwireGets
