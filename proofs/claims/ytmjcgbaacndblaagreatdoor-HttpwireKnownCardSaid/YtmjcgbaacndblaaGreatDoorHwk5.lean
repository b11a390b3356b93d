/- 'HttpwireKnown' returns true, in whatever world it is called: the examples of chapter 17 answer as they are told; the card's listed variables are tied to the program's text. No other condition. By an AI agent. -/
import Derived.Test.YtmjcgbaacndblaaGreatDoorHwk4
import Derived.KernelRfl
import Derived.Test.YtmjcgbaacndblaaGreatDoorProg
import Derived.Lib.LaidTab
import Derived.Shelf.Vars
import Derived.Shelf.Strings.Split
import Derived.Shelf.Strings.SlTrimAscii
import Derived.Shelf.Strconv.Itoa3
import Derived.Shelf.Strconv.Atoi
import Derived.Lib.AtoiErrMem
import Derived.Shelf.Spec.TrailingZeros
import Derived.Shelf.Bytes.SlIndexWhole
import Derived.Test.YtmjcgbaacndblaaGreatDoorRows
import Derived.LaidMore
import Derived.Lay
import Derived.Test.YtmjcgbaacndblaaGreatDoorTie
import Derived.Test.YtmjcgbaacndblaaGreatDoorCards
import Derived.WalkKit
import Derived.ProofKit
import Derived.OpenShut
import Derived.SevenTiedAt
import Derived.Stop.Joined
set_option maxRecDepth 100000
set_option linter.unusedVariables false
set_option linter.unusedSimpArgs false
namespace Go.Proofs.YtmjcgbaacndblaaGreatDoor
open Go Go.Ab
abbrev aj := @dm Tryz.prog
theorem PM:vP Tryz.prog:=⟨La (by kernel_rfl),by kernel_rfl⟩
theorem aX {f:FuncId} {fn:Func} {args:List AV} {M:RM} {Q:ah} {B:Prop} (h:B) (hfn:Tryz.prog.funcs[f]?=some fn:=by kernel_rfl) (e:B=BJ Tryz.prog fn args M Q:=by kernel_rfl) : aj f args M Q:=JP PM hfn (e▸h)
variable {a0 a1 a2 a3 a4 a5 a6 a7:AV} {M:RM} {Q:ah}
theorem nO (h:Go.Ab.Hw.lM (aj 10) 5 (aj 11) 26 (aj 12) (aj 13) (aj 14) 34  M Q) : aj 3 [] M Q:=aX (fn:=Tryz.f3) h
theorem uU (h:Go.Ab.Hw.uK 56 26 (aj 12) 5 (aj 11) (aj 22) (aj 13) (aj 14) 34 (aj 23) 3 (aj 19)  M Q) : aj 10 [] M Q:=aX (fn:=Tryz.f10) h
theorem nz (h:Go.Ab.Hw.iB 26 26 (aj 25) (aj 30) a0 M Q) : aj 11 [a0] M Q:=aX (fn:=Tryz.f11) h
theorem mI (h:Go.Ab.Hw.gP 26 (aj 31) (aj 33) (aj 32) a0 M Q) : aj 12 [a0] M Q:=aX (fn:=Tryz.f12) h
theorem mE (h:Go.Ab.Hw.gI 34 (aj 34) (aj 33) (aj 32) a0 M Q) : aj 13 [a0] M Q:=aX (fn:=Tryz.f13) h
theorem mH (h:Go.Ab.Hw.gQ 34 35 (aj 25) (aj 30) a0 M Q) : aj 14 [a0] M Q:=aX (fn:=Tryz.f14) h
theorem qx (h:Go.Ab.Hw.jK 26 (aj 31) (aj 47) 3 5 (aj 49) 24 (aj 48) (aj 32) a0 a1 M Q) : aj 19 [a0,a1] M Q:=aX (fn:=Tryz.f19) h
theorem mW (h:Go.Ab.Hw.iw 26 (aj 55) a0 a1 M Q) : aj 22 [a0,a1] M Q:=aX (fn:=Tryz.f22) h
theorem mJ (h:Go.Ab.Hw.gN 34 (aj 55) a0 a1 M Q) : aj 23 [a0,a1] M Q:=aX (fn:=Tryz.f23) h
theorem sG (h:Go.Ab.Hw.mD (aj 56) (aj) (aj 57) 56 a0 a1 M Q) : aj 25 [a0,a1] M Q:=aX (fn:=Tryz.f25) h
theorem mG (h:Go.Ab.Hw.gG (aj 27) (aj 28) (aj 29) a0 a1 M Q) : aj 26 [a0,a1] M Q:=aX (fn:=Tryz.f26) h
theorem nV (h:Go.Ab.Hw.iN (aj 59) (aj 37) 60 a0 M Q) : aj 28 [a0] M Q:=aX (fn:=Tryz.f28) h
theorem oH (h:Go.Ab.Hw.jA (aj 61) (aj 37) 62 a0 M Q) : aj 29 [a0] M Q:=aX (fn:=Tryz.f29) h
theorem sj (h:Go.Ab.Hw.mo (aj 63) (aj 64) (aj 65) (aj 59) (aj 37) 38 (aj 40) (aj 66) a0 a1 a2 M Q) : aj 30 [a0,a1,a2] M Q:=aX (fn:=Tryz.f30) h
theorem mZ (h:Go.Ab.Hw.iF 26 (aj 28) (aj 29) a0 M Q) : aj 31 [a0] M Q:=aX (fn:=Tryz.f31) h
theorem pq (h:Go.Ab.Hw.jJ 56 (aj 67) (aj 68) (aj 64) 5 a0 a1 a2 a3 a4 M Q) : aj 32 [a0,a1,a2,a3,a4] M Q:=aX (fn:=Tryz.f32) h
theorem qm (h:Go.Ab.Hw.jO 56 (aj 34) a0 M Q) : aj 33 [a0] M Q:=aX (fn:=Tryz.f33) h
theorem lS (h:Go.Ab.Hw.gu (aj 36) (aj 37) 38 39 (aj 40) a0 a1 M Q) : aj 35 [a0,a1] M Q:=aX (fn:=Tryz.f35) h
theorem ou (h:Go.Ab.Vl.jv (aj 70) a0 a1 M Q) : aj 36 [a0,a1] M Q:=aX (fn:=Tryz.f36) h
theorem cK (h:Go.Ab.Hw.mU 5 (aj) a0 a1 M Q) : aj 37 [a0,a1] M Q:=aX (fn:=Tryz.f37) h
theorem rQ (h:Go.Ab.Hw.lm a0 M Q) : aj 38 [a0] M Q:=aX (fn:=Tryz.f38) h
theorem kT (h:Go.Ab.Hw.fB a0 M Q) : aj 39 [a0] M Q:=aX (fn:=Tryz.f39) h
theorem xK (h:Go.Ab.Hw.rH 3 a0 M Q) : aj 47 [a0] M Q:=aX (fn:=Tryz.f47) h
theorem uW (h:Go.Ab.Hw.og 9 (aj 75) 5 a0 M Q) : aj 48 [a0] M Q:=aX (fn:=Tryz.f48) h
theorem oN (h:Go.Ab.Hw.mM (aj 76) a0 a1 M Q) : aj 49 [a0,a1] M Q:=aX (fn:=Tryz.f49) h
theorem rT (h:Go.Ab.Hw.lH (aj 63) a0 a1 M Q) : aj 55 [a0,a1] M Q:=aX (fn:=Tryz.f55) h
theorem sH (h:Go.Ab.Hw.mf 5 (aj 78) a0 a1 M Q) : aj 56 [a0,a1] M Q:=aX (fn:=Tryz.f56) h
theorem qG (h:Go.Ab.Hw.kK 56 (aj 79) (aj 80) (aj 67) (aj 68) a0 M Q) : aj 57 [a0] M Q:=aX (fn:=Tryz.f57) h
theorem qH (h:Go.Ab.Hw.kC a0 a1 a2 M Q) : aj 59 [a0,a1,a2] M Q:=aX (fn:=Tryz.f59) h
theorem q9 (h:Go.Ab.Hw.ll a0 M Q) : aj 60 [a0] M Q:=aX (fn:=Tryz.f60) h
theorem oD (h:Go.Ab.Vl.mO (aj 84) a0 a1 M Q) : aj 61 [a0,a1] M Q:=aX (fn:=Tryz.f61) h
theorem pF (h:Go.Ab.Hw.jY a0 M Q) : aj 62 [a0] M Q:=aX (fn:=Tryz.f62) h
theorem rF (h:Go.Ab.Hw.lv 56 (aj 64) 9 a0 a1 M Q) : aj 63 [a0,a1] M Q:=aX (fn:=Tryz.f63) h
theorem qY (h:Go.Ab.Hw.lc 5 a0 M Q) : aj 64 [a0] M Q:=aX (fn:=Tryz.f64) h
theorem qy (h:Go.Ab.Hw.jQ (aj 85) 5 a0 a1 M Q) : aj 65 [a0,a1] M Q:=aX (fn:=Tryz.f65) h
theorem vT (h:Go.Ab.Dot.qF 5 a0 M Q) : aj 66 [a0] M Q:=aX (fn:=Tryz.f66) h
theorem oO (h:Go.Ab.Hw.jr (aj 59) (aj 64) (aj 37) 86 a0 M Q) : aj 67 [a0] M Q:=aX (fn:=Tryz.f67) h
theorem oh (h:Go.Ab.Hw.ja (aj 80) (aj 37) 87 a0 M Q) : aj 68 [a0] M Q:=aX (fn:=Tryz.f68) h
theorem jq (h:Go.Ab.Vl.dS (aj 84) a0 a1 M Q) : aj 70 [a0,a1] M Q:=aX (fn:=Tryz.f70) h
theorem xJ (h:Go.Ab.Hw.rR 9 5 a0 a1 M Q) : aj 75 [a0,a1] M Q:=aX (fn:=Tryz.f75) h
theorem kN (h:Go.Ab.Hw.fe (aj 93) 125 (aj 94) (aj 95) (aj 96) a0 a1 M Q) : aj 76 [a0,a1] M Q:=aX (fn:=Tryz.f76) h
theorem uV (h:Go.Ab.Vl.nZ (aj 102) a0 a1 M Q) : aj 79 [a0,a1] M Q:=aX (fn:=Tryz.f79) h
theorem tV (h:Go.Ab.Vl.sw (aj 104) (aj 103) (aj 105) 135 (aj 107) (aj 106) (aj 109) (aj 108) a0 a1 M Q) : aj 80 [a0,a1] M Q:=aX (fn:=Tryz.f80) h
theorem jy (h:Go.Ab.Vl.dM a0 a1 M Q) : aj 84 [a0,a1] M Q:=aX (fn:=Tryz.f84) h
theorem sQ (h:Go.Ab.Hw.lW 5 (aj 114) (aj 59) (aj 64) (aj 37) 115 (aj 116) a0 a1 M Q) : aj 85 [a0,a1] M Q:=aX (fn:=Tryz.f85) h
theorem nS (h:Go.Ab.Hw.iU (aj 38) a0 M Q) : aj 86 [a0] M Q:=aX (fn:=Tryz.f86) h
theorem mX (h:Go.Ab.Hw.iD a0 M Q) : aj 87 [a0] M Q:=aX (fn:=Tryz.f87) h
theorem ku (h:Go.Ab.Hw.eH 9 154 (aj 123) (aj 124) 5 a0 a1 a2 a3 a4 M Q) : aj 96 [a0,a1,a2,a3,a4] M Q:=aX (fn:=Tryz.f96) h
theorem lg (h:Go.Ab.Vl.fT (aj 113) a0 a1 M Q) : aj 102 [a0,a1] M Q:=aX (fn:=Tryz.f102) h
theorem kD (h:Go.Ab.Hw.bJ (aj 131) 0 (DI Tryz.prog 132) (aj 100) (aj 133) a0 a1 M Q) : aj 113 [a0,a1] M Q:=aX (fn:=Tryz.f113) h
theorem xM (h:Go.Ab.Hw.rV (aj 78) a0 a1 M Q) : aj 114 [a0,a1] M Q:=aX (fn:=Tryz.f114) h
theorem qI (h:Go.Ab.Hw.kL (aj 38) a0 M Q) : aj 115 [a0] M Q:=aX (fn:=Tryz.f115) h
theorem oz (h:Go.Ab.Hw.jB (aj 117) (aj 72) a0 a1 a2 M Q) : aj 116 [a0,a1,a2] M Q:=aX (fn:=Tryz.f116) h
theorem kG (h:Go.Ab.Hw.eT 119 (aj 134) 5 (aj 135) a0 a1 a2 M Q) : aj 117 [a0,a1,a2] M Q:=aX (fn:=Tryz.f117) h
theorem jE (h:Go.Ab.Hw.ed a0 M Q) : aj 123 [a0] M Q:=aX (fn:=Tryz.f123) h
theorem jw (h:Go.Ab.Vl.gJ (DI Tryz.prog 140) a0 a1 M Q) : aj 131 [a0,a1] M Q:=aX (fn:=Tryz.f131) h
theorem ma (h:Go.Ab.Hw.gF a0 M Q) : aj 134 [a0] M Q:=aX (fn:=Tryz.f134) h
end Go.Proofs.YtmjcgbaacndblaaGreatDoor
namespace Go.Proofs
open Go.RowKit Go.Shelf
def Tryz.lays185_ren:Go.Shelf.Ren:=⟨fun | 185=>78 | 187=>97 | 115=>98 | 253=>99 | 224=>100 | 254=>101 | 255=>125 | 291=>126 | n=>n,fun | 37=>24 | 3=>3 | 4=>4 | 0=>0 | 5=>5 | 46=>60 | 9=>9 | 146=>157 | 51=>153 | n=>n,fun | 1=>0 | n=>n⟩
theorem Tryz.lays185:Go.Proofs.Lays.n185 Tryz.prog Tryz.lays185_ren where
 mixed:=by kernel_rfl
 f115:=Tryz.func98.trans (congrArg some (by kernel_rfl))
 f185:=Tryz.func78.trans (congrArg some (by kernel_rfl))
 f187:=Tryz.func97.trans (congrArg some (by kernel_rfl))
 f224:=Tryz.func100.trans (congrArg some (by kernel_rfl))
 f253:=Tryz.func99.trans (congrArg some (by kernel_rfl))
 f254:=Tryz.func101.trans (congrArg some (by kernel_rfl))
 f255:=Tryz.func125.trans (congrArg some (by kernel_rfl))
 f291:=Tryz.func126.trans (congrArg some (by kernel_rfl))
 t0:=Tryz.underlying0
 a0:=Tryz.isAgg0
 z0:=Tryz.sizeOf0
 v0:=Tryz.zeroValue0
 t3:=Tryz.underlying3
 a3:=Tryz.isAgg3
 z3:=Tryz.sizeOf3
 v3:=Tryz.zeroValue3
 t4:=Tryz.underlying4
 a4:=Tryz.isAgg4
 z4:=Tryz.sizeOf4
 v4:=Tryz.zeroValue4
 t5:=Tryz.underlying5
 a5:=Tryz.isAgg5
 z5:=Tryz.sizeOf5
 v5:=Tryz.zeroValue5
 t9:=Tryz.underlying9
 a9:=Tryz.isAgg9
 z9:=Tryz.sizeOf9
 v9:=Tryz.zeroValue9
 t37:=Tryz.underlying24
 a37:=Tryz.isAgg24
 z37:=Tryz.sizeOf24
 v37:=Tryz.zeroValue24
 t46:=Tryz.underlying60
 a46:=Tryz.isAgg60
 z46:=Tryz.sizeOf60
 v46:=Tryz.zeroValue60
 t51:=Tryz.underlying153
 a51:=Tryz.isAgg153
 z51:=Tryz.sizeOf153
 v51:=Tryz.zeroValue153
 t146:=Tryz.underlying157
 a146:=Tryz.isAgg157
 z146:=Tryz.sizeOf157
 v146:=Tryz.zeroValue157
 g1:=by kernel_rfl
def Tryz.lays146_ren:Go.Shelf.Ren:=⟨fun | 146=>27 | 221=>58 | 268=>81 | 138=>82 | 143=>83 | 195=>110 | 197=>111 | 218=>112 | 219=>113 | 260=>130 | 217=>131 | 225=>132 | 224=>100 | 267=>133 | 266=>140 | 314=>141 | n=>n,fun | 9=>9 | 31=>64 | 3=>3 | 4=>4 | 0=>0 | 105=>141 | 21=>21 | 5=>5 | 46=>60 | 119=>167 | 139=>170 | 138=>169 | 146=>157 | 51=>153 | n=>n,fun | 1=>0 | 3=>4 | 4=>5 | n=>n⟩
theorem Tryz.lays146:Go.Proofs.Lays.n146 Tryz.prog Tryz.lays146_ren where
 mixed:=by kernel_rfl
 f138:=Tryz.func82.trans (congrArg some (by kernel_rfl))
 f143:=Tryz.func83.trans (congrArg some (by kernel_rfl))
 f146:=Tryz.func27.trans (congrArg some (by kernel_rfl))
 f195:=Tryz.func110.trans (congrArg some (by kernel_rfl))
 f197:=Tryz.func111.trans (congrArg some (by kernel_rfl))
 f217:=Tryz.func131.trans (congrArg some (by kernel_rfl))
 f218:=Tryz.func112.trans (congrArg some (by kernel_rfl))
 f219:=Tryz.func113.trans (congrArg some (by kernel_rfl))
 f221:=Tryz.func58.trans (congrArg some (by kernel_rfl))
 f224:=Tryz.func100.trans (congrArg some (by kernel_rfl))
 f225:=Tryz.func132.trans (congrArg some (by kernel_rfl))
 f260:=Tryz.func130.trans (congrArg some (by kernel_rfl))
 f266:=Tryz.func140.trans (congrArg some (by kernel_rfl))
 f267:=Tryz.func133.trans (congrArg some (by kernel_rfl))
 f268:=Tryz.func81.trans (congrArg some (by kernel_rfl))
 f314:=Tryz.func141.trans (congrArg some (by kernel_rfl))
 t0:=Tryz.underlying0
 a0:=Tryz.isAgg0
 z0:=Tryz.sizeOf0
 v0:=Tryz.zeroValue0
 t3:=Tryz.underlying3
 a3:=Tryz.isAgg3
 z3:=Tryz.sizeOf3
 v3:=Tryz.zeroValue3
 t4:=Tryz.underlying4
 a4:=Tryz.isAgg4
 z4:=Tryz.sizeOf4
 v4:=Tryz.zeroValue4
 t5:=Tryz.underlying5
 a5:=Tryz.isAgg5
 z5:=Tryz.sizeOf5
 v5:=Tryz.zeroValue5
 t9:=Tryz.underlying9
 a9:=Tryz.isAgg9
 z9:=Tryz.sizeOf9
 v9:=Tryz.zeroValue9
 t21:=Tryz.underlying21
 a21:=Tryz.isAgg21
 z21:=Tryz.sizeOf21
 v21:=Tryz.zeroValue21
 t31:=Tryz.underlying64
 a31:=Tryz.isAgg64
 z31:=Tryz.sizeOf64
 v31:=Tryz.zeroValue64
 t46:=Tryz.underlying60
 a46:=Tryz.isAgg60
 z46:=Tryz.sizeOf60
 v46:=Tryz.zeroValue60
 t51:=Tryz.underlying153
 a51:=Tryz.isAgg153
 z51:=Tryz.sizeOf153
 v51:=Tryz.zeroValue153
 t105:=Tryz.underlying141
 a105:=Tryz.isAgg141
 z105:=Tryz.sizeOf141
 v105:=Tryz.zeroValue141
 t119:=Tryz.underlying167
 a119:=Tryz.isAgg167
 z119:=Tryz.sizeOf167
 t138:=Tryz.underlying169
 a138:=Tryz.isAgg169
 z138:=Tryz.sizeOf169
 v138:=Tryz.zeroValue169
 t139:=Tryz.underlying170
 a139:=Tryz.isAgg170
 z139:=Tryz.sizeOf170
 v139:=Tryz.zeroValue170
 t146:=Tryz.underlying157
 a146:=Tryz.isAgg157
 z146:=Tryz.sizeOf157
 v146:=Tryz.zeroValue157
 g1:=by kernel_rfl
 g3:=by kernel_rfl
 g4:=by kernel_rfl
def Tryz.lays160_ren:Go.Shelf.Ren:=⟨fun | 160=>80 | 232=>104 | 231=>103 | 227=>105 | 234=>107 | 233=>106 | 236=>109 | 235=>108 | 228=>127 | 271=>129 | 151=>128 | 197=>111 | 120=>139 | 152=>138 | 260=>130 | 137=>142 | 119=>143 | 224=>100 | 225=>132 | 217=>131 | 266=>140 | n=>n,fun | 9=>9 | 4=>4 | 3=>3 | 5=>5 | 117=>136 | 116=>135 | 0=>0 | 124=>139 | 21=>21 | 105=>141 | 46=>60 | 119=>167 | 139=>170 | 138=>169 | n=>n,fun | 3=>4 | 4=>5 | n=>n⟩
theorem Tryz.lays160:Go.Proofs.Lays.n160 Tryz.prog Tryz.lays160_ren where
 mixed:=by kernel_rfl
 f119:=Tryz.func143.trans (congrArg some (by kernel_rfl))
 f120:=Tryz.func139.trans (congrArg some (by kernel_rfl))
 f137:=Tryz.func142.trans (congrArg some (by kernel_rfl))
 f151:=Tryz.func128.trans (congrArg some (by kernel_rfl))
 f152:=Tryz.func138.trans (congrArg some (by kernel_rfl))
 f160:=Tryz.func80.trans (congrArg some (by kernel_rfl))
 f197:=Tryz.func111.trans (congrArg some (by kernel_rfl))
 f217:=Tryz.func131.trans (congrArg some (by kernel_rfl))
 f224:=Tryz.func100.trans (congrArg some (by kernel_rfl))
 f225:=Tryz.func132.trans (congrArg some (by kernel_rfl))
 f227:=Tryz.func105.trans (congrArg some (by kernel_rfl))
 f228:=Tryz.func127.trans (congrArg some (by kernel_rfl))
 f231:=Tryz.func103.trans (congrArg some (by kernel_rfl))
 f232:=Tryz.func104.trans (congrArg some (by kernel_rfl))
 f233:=Tryz.func106.trans (congrArg some (by kernel_rfl))
 f234:=Tryz.func107.trans (congrArg some (by kernel_rfl))
 f235:=Tryz.func108.trans (congrArg some (by kernel_rfl))
 f236:=Tryz.func109.trans (congrArg some (by kernel_rfl))
 f260:=Tryz.func130.trans (congrArg some (by kernel_rfl))
 f266:=Tryz.func140.trans (congrArg some (by kernel_rfl))
 f271:=Tryz.func129.trans (congrArg some (by kernel_rfl))
 t0:=Tryz.underlying0
 a0:=Tryz.isAgg0
 z0:=Tryz.sizeOf0
 v0:=Tryz.zeroValue0
 t3:=Tryz.underlying3
 a3:=Tryz.isAgg3
 z3:=Tryz.sizeOf3
 v3:=Tryz.zeroValue3
 t4:=Tryz.underlying4
 a4:=Tryz.isAgg4
 z4:=Tryz.sizeOf4
 v4:=Tryz.zeroValue4
 t5:=Tryz.underlying5
 a5:=Tryz.isAgg5
 z5:=Tryz.sizeOf5
 v5:=Tryz.zeroValue5
 t9:=Tryz.underlying9
 a9:=Tryz.isAgg9
 z9:=Tryz.sizeOf9
 v9:=Tryz.zeroValue9
 t21:=Tryz.underlying21
 a21:=Tryz.isAgg21
 z21:=Tryz.sizeOf21
 v21:=Tryz.zeroValue21
 t46:=Tryz.underlying60
 a46:=Tryz.isAgg60
 z46:=Tryz.sizeOf60
 v46:=Tryz.zeroValue60
 t105:=Tryz.underlying141
 a105:=Tryz.isAgg141
 z105:=Tryz.sizeOf141
 v105:=Tryz.zeroValue141
 t116:=Tryz.underlying135
 a116:=Tryz.isAgg135
 z116:=Tryz.sizeOf135
 t117:=Tryz.underlying136
 a117:=Tryz.isAgg136
 z117:=Tryz.sizeOf136
 v117:=Tryz.zeroValue136
 t119:=Tryz.underlying167
 a119:=Tryz.isAgg167
 z119:=Tryz.sizeOf167
 t124:=Tryz.underlying139
 a124:=Tryz.isAgg139
 z124:=Tryz.sizeOf139
 v124:=Tryz.zeroValue139
 t138:=Tryz.underlying169
 a138:=Tryz.isAgg169
 z138:=Tryz.sizeOf169
 v138:=Tryz.zeroValue169
 t139:=Tryz.underlying170
 a139:=Tryz.isAgg170
 z139:=Tryz.sizeOf170
 v139:=Tryz.zeroValue170
 g3:=by kernel_rfl
 g4:=by kernel_rfl
def Tryz.lays172_ren:Go.Shelf.Ren:=⟨fun | 172=>40 | 244=>71 | 245=>72 | 247=>88 | 279=>89 | 280=>90 | 281=>91 | 282=>92 | 287=>117 | 316=>118 | 171=>34 | 205=>119 | 321=>134 | 322=>135 | 243=>69 | 246=>76 | 283=>93 | 284=>94 | 285=>95 | 286=>96 | 129=>121 | 317=>120 | 318=>122 | 319=>123 | 320=>124 | 337=>136 | 338=>137 | n=>n,fun | 9=>9 | 3=>3 | 75=>77 | 76=>78 | 4=>4 | 5=>5 | 167=>119 | 37=>24 | 0=>0 | 85=>120 | 2=>2 | 168=>122 | 53=>126 | 175=>146 | 46=>60 | 210=>149 | 127=>161 | 145=>164 | 143=>162 | 21=>21 | 171=>125 | 173=>129 | 212=>152 | 51=>153 | 20=>20 | 213=>154 | 232=>172 | 233=>173 | 80=>175 | n=>n,fun | 15=>1 | 16=>2 | 17=>3 | 18=>6 | 19=>7 | n=>n⟩
theorem Tryz.lays172:Go.Proofs.Lays.n172 Tryz.prog Tryz.lays172_ren where
 mixed:=by kernel_rfl
 f129:=Tryz.func121.trans (congrArg some (by kernel_rfl))
 f171:=Tryz.func34.trans (congrArg some (by kernel_rfl))
 f172:=Tryz.func40.trans (congrArg some (by kernel_rfl))
 f205:=Tryz.func119.trans (congrArg some (by kernel_rfl))
 f243:=Tryz.func69.trans (congrArg some (by kernel_rfl))
 f244:=Tryz.func71.trans (congrArg some (by kernel_rfl))
 f245:=Tryz.func72.trans (congrArg some (by kernel_rfl))
 f246:=Tryz.func76.trans (congrArg some (by kernel_rfl))
 f247:=Tryz.func88.trans (congrArg some (by kernel_rfl))
 f279:=Tryz.func89.trans (congrArg some (by kernel_rfl))
 f280:=Tryz.func90.trans (congrArg some (by kernel_rfl))
 f281:=Tryz.func91.trans (congrArg some (by kernel_rfl))
 f282:=Tryz.func92.trans (congrArg some (by kernel_rfl))
 f283:=Tryz.func93.trans (congrArg some (by kernel_rfl))
 f284:=Tryz.func94.trans (congrArg some (by kernel_rfl))
 f285:=Tryz.func95.trans (congrArg some (by kernel_rfl))
 f286:=Tryz.func96.trans (congrArg some (by kernel_rfl))
 f287:=Tryz.func117.trans (congrArg some (by kernel_rfl))
 f316:=Tryz.func118.trans (congrArg some (by kernel_rfl))
 f317:=Tryz.func120.trans (congrArg some (by kernel_rfl))
 f318:=Tryz.func122.trans (congrArg some (by kernel_rfl))
 f319:=Tryz.func123.trans (congrArg some (by kernel_rfl))
 f320:=Tryz.func124.trans (congrArg some (by kernel_rfl))
 f321:=Tryz.func134.trans (congrArg some (by kernel_rfl))
 f322:=Tryz.func135.trans (congrArg some (by kernel_rfl))
 f337:=Tryz.func136.trans (congrArg some (by kernel_rfl))
 f338:=Tryz.func137.trans (congrArg some (by kernel_rfl))
 t0:=Tryz.underlying0
 a0:=Tryz.isAgg0
 z0:=Tryz.sizeOf0
 v0:=Tryz.zeroValue0
 t2:=Tryz.underlying2
 a2:=Tryz.isAgg2
 z2:=Tryz.sizeOf2
 v2:=Tryz.zeroValue2
 t3:=Tryz.underlying3
 a3:=Tryz.isAgg3
 z3:=Tryz.sizeOf3
 v3:=Tryz.zeroValue3
 t4:=Tryz.underlying4
 a4:=Tryz.isAgg4
 z4:=Tryz.sizeOf4
 v4:=Tryz.zeroValue4
 t5:=Tryz.underlying5
 a5:=Tryz.isAgg5
 z5:=Tryz.sizeOf5
 v5:=Tryz.zeroValue5
 t9:=Tryz.underlying9
 a9:=Tryz.isAgg9
 z9:=Tryz.sizeOf9
 v9:=Tryz.zeroValue9
 t20:=Tryz.underlying20
 a20:=Tryz.isAgg20
 z20:=Tryz.sizeOf20
 v20:=Tryz.zeroValue20
 t21:=Tryz.underlying21
 a21:=Tryz.isAgg21
 z21:=Tryz.sizeOf21
 v21:=Tryz.zeroValue21
 t37:=Tryz.underlying24
 a37:=Tryz.isAgg24
 z37:=Tryz.sizeOf24
 v37:=Tryz.zeroValue24
 t46:=Tryz.underlying60
 a46:=Tryz.isAgg60
 z46:=Tryz.sizeOf60
 v46:=Tryz.zeroValue60
 t51:=Tryz.underlying153
 a51:=Tryz.isAgg153
 z51:=Tryz.sizeOf153
 v51:=Tryz.zeroValue153
 t53:=Tryz.underlying126
 a53:=Tryz.isAgg126
 z53:=Tryz.sizeOf126
 v53:=Tryz.zeroValue126
 t75:=Tryz.underlying77
 a75:=Tryz.isAgg77
 z75:=Tryz.sizeOf77
 v75:=Tryz.zeroValue77
 t76:=Tryz.underlying78
 a76:=Tryz.isAgg78
 z76:=Tryz.sizeOf78
 v76:=Tryz.zeroValue78
 t85:=Tryz.underlying120
 a85:=Tryz.isAgg120
 z85:=Tryz.sizeOf120
 v85:=Tryz.zeroValue120
 t127:=Tryz.underlying161
 a127:=Tryz.isAgg161
 z127:=Tryz.sizeOf161
 v127:=Tryz.zeroValue161
 t143:=Tryz.underlying162
 a143:=Tryz.isAgg162
 z143:=Tryz.sizeOf162
 v143:=Tryz.zeroValue162
 t145:=Tryz.underlying164
 a145:=Tryz.isAgg164
 z145:=Tryz.sizeOf164
 v145:=Tryz.zeroValue164
 t167:=Tryz.underlying119
 a167:=Tryz.isAgg119
 z167:=Tryz.sizeOf119
 v167:=Tryz.zeroValue119
 t168:=Tryz.underlying122
 a168:=Tryz.isAgg122
 z168:=Tryz.sizeOf122
 v168:=Tryz.zeroValue122
 t171:=Tryz.underlying125
 a171:=Tryz.isAgg125
 z171:=Tryz.sizeOf125
 v171:=Tryz.zeroValue125
 t173:=Tryz.underlying129
 a173:=Tryz.isAgg129
 z173:=Tryz.sizeOf129
 v173:=Tryz.zeroValue129
 t175:=Tryz.underlying146
 a175:=Tryz.isAgg146
 z175:=Tryz.sizeOf146
 v175:=Tryz.zeroValue146
 t210:=Tryz.underlying149
 a210:=Tryz.isAgg149
 z210:=Tryz.sizeOf149
 v210:=Tryz.zeroValue149
 t212:=Tryz.underlying152
 a212:=Tryz.isAgg152
 z212:=Tryz.sizeOf152
 v212:=Tryz.zeroValue152
 t213:=Tryz.underlying154
 a213:=Tryz.isAgg154
 z213:=Tryz.sizeOf154
 t232:=Tryz.underlying172
 a232:=Tryz.isAgg172
 z232:=Tryz.sizeOf172
 v232:=Tryz.zeroValue172
 t233:=Tryz.underlying173
 a233:=Tryz.isAgg173
 z233:=Tryz.sizeOf173
 v233:=Tryz.zeroValue173
 g15:=by kernel_rfl
 g16:=by kernel_rfl
 g17:=by kernel_rfl
 g18:=by kernel_rfl
 g19:=by kernel_rfl
def Tryz.laysM171_ren:Go.Shelf.Ren:=⟨fun | 171=>34 | 243=>69 | 246=>76 | 283=>93 | 284=>94 | 285=>95 | 286=>96 | 129=>121 | 317=>120 | 318=>122 | 319=>123 | 320=>124 | 337=>136 | 338=>137 | n=>n,fun | 3=>3 | 9=>9 | 2=>2 | 4=>4 | 171=>125 | 0=>0 | 53=>126 | 37=>24 | 5=>5 | 173=>129 | 212=>152 | 51=>153 | 20=>20 | 213=>154 | 46=>60 | 232=>172 | 233=>173 | n=>n,fun | 17=>3 | 18=>6 | 19=>7 | n=>n⟩
theorem Tryz.laysM171:Go.Proofs.LaysM.n171 Tryz.prog Tryz.laysM171_ren where
 mixed:=by kernel_rfl
 f129:=Tryz.func121.trans (congrArg some (by kernel_rfl))
 f171:=Tryz.func34.trans (congrArg some (by kernel_rfl))
 f243:=Tryz.func69.trans (congrArg some (by kernel_rfl))
 f246:=Tryz.func76.trans (congrArg some (by kernel_rfl))
 f283:=Tryz.func93.trans (congrArg some (by kernel_rfl))
 f284:=Tryz.func94.trans (congrArg some (by kernel_rfl))
 f285:=Tryz.func95.trans (congrArg some (by kernel_rfl))
 f286:=Tryz.func96.trans (congrArg some (by kernel_rfl))
 f317:=Tryz.func120.trans (congrArg some (by kernel_rfl))
 f318:=Tryz.func122.trans (congrArg some (by kernel_rfl))
 f319:=Tryz.func123.trans (congrArg some (by kernel_rfl))
 f320:=Tryz.func124.trans (congrArg some (by kernel_rfl))
 f337:=Tryz.func136.trans (congrArg some (by kernel_rfl))
 f338:=Tryz.func137.trans (congrArg some (by kernel_rfl))
 t0:=Tryz.underlying0
 a0:=Tryz.isAgg0
 z0:=Tryz.sizeOf0
 v0:=Tryz.zeroValue0
 t2:=Tryz.underlying2
 a2:=Tryz.isAgg2
 z2:=Tryz.sizeOf2
 v2:=Tryz.zeroValue2
 t3:=Tryz.underlying3
 a3:=Tryz.isAgg3
 z3:=Tryz.sizeOf3
 v3:=Tryz.zeroValue3
 t4:=Tryz.underlying4
 a4:=Tryz.isAgg4
 z4:=Tryz.sizeOf4
 v4:=Tryz.zeroValue4
 t5:=Tryz.underlying5
 a5:=Tryz.isAgg5
 z5:=Tryz.sizeOf5
 v5:=Tryz.zeroValue5
 t9:=Tryz.underlying9
 a9:=Tryz.isAgg9
 z9:=Tryz.sizeOf9
 v9:=Tryz.zeroValue9
 t20:=Tryz.underlying20
 a20:=Tryz.isAgg20
 z20:=Tryz.sizeOf20
 v20:=Tryz.zeroValue20
 t37:=Tryz.underlying24
 a37:=Tryz.isAgg24
 z37:=Tryz.sizeOf24
 v37:=Tryz.zeroValue24
 t46:=Tryz.underlying60
 a46:=Tryz.isAgg60
 z46:=Tryz.sizeOf60
 v46:=Tryz.zeroValue60
 t51:=Tryz.underlying153
 a51:=Tryz.isAgg153
 z51:=Tryz.sizeOf153
 v51:=Tryz.zeroValue153
 t53:=Tryz.underlying126
 a53:=Tryz.isAgg126
 z53:=Tryz.sizeOf126
 v53:=Tryz.zeroValue126
 t171:=Tryz.underlying125
 a171:=Tryz.isAgg125
 z171:=Tryz.sizeOf125
 v171:=Tryz.zeroValue125
 t173:=Tryz.underlying129
 a173:=Tryz.isAgg129
 z173:=Tryz.sizeOf129
 v173:=Tryz.zeroValue129
 t212:=Tryz.underlying152
 a212:=Tryz.isAgg152
 z212:=Tryz.sizeOf152
 v212:=Tryz.zeroValue152
 t213:=Tryz.underlying154
 a213:=Tryz.isAgg154
 z213:=Tryz.sizeOf154
 t232:=Tryz.underlying172
 a232:=Tryz.isAgg172
 z232:=Tryz.sizeOf172
 v232:=Tryz.zeroValue172
 t233:=Tryz.underlying173
 a233:=Tryz.isAgg173
 z233:=Tryz.sizeOf173
 v233:=Tryz.zeroValue173
 g17:=by kernel_rfl
 g18:=by kernel_rfl
 g19:=by kernel_rfl
 i0:=by kernel_rfl
 i2:=by kernel_rfl
 i3:=by kernel_rfl
 i4:=by kernel_rfl
 i5:=by kernel_rfl
 i9:=by kernel_rfl
 i20:=by kernel_rfl
 i37:=by kernel_rfl
 i46:=by kernel_rfl
 i51:=by kernel_rfl
 i53:=by kernel_rfl
 i171:=by kernel_rfl
 i173:=by kernel_rfl
 i212:=by kernel_rfl
 i232:=by kernel_rfl
 i233:=by kernel_rfl
 m17:=by kernel_rfl
 m18:=by kernel_rfl
 m19:=by kernel_rfl
def Tryz.lays727_ren:Go.Shelf.Ren:=⟨fun | 27=>124 | 28=>136 | 29=>137 | n=>n,fun | 25=>60 | 3=>3 | 27=>153 | 22=>126 | 4=>4 | 53=>172 | 0=>0 | 5=>5 | 54=>173 | n=>n,fun | 0=>6 | 1=>7 | n=>n⟩
theorem Tryz.lays727:Go.Proofs.Lays7.n27 Tryz.prog Tryz.lays727_ren where
 mixed:=by kernel_rfl
 f27:=Tryz.func124.trans (congrArg some (by kernel_rfl))
 f28:=Tryz.func136.trans (congrArg some (by kernel_rfl))
 f29:=Tryz.func137.trans (congrArg some (by kernel_rfl))
 t0:=Tryz.underlying0
 a0:=Tryz.isAgg0
 z0:=Tryz.sizeOf0
 v0:=Tryz.zeroValue0
 i0:=by kernel_rfl
 t3:=Tryz.underlying3
 a3:=Tryz.isAgg3
 z3:=Tryz.sizeOf3
 v3:=Tryz.zeroValue3
 i3:=by kernel_rfl
 t4:=Tryz.underlying4
 a4:=Tryz.isAgg4
 z4:=Tryz.sizeOf4
 v4:=Tryz.zeroValue4
 i4:=by kernel_rfl
 t5:=Tryz.underlying5
 a5:=Tryz.isAgg5
 z5:=Tryz.sizeOf5
 v5:=Tryz.zeroValue5
 i5:=by kernel_rfl
 t22:=Tryz.underlying126
 a22:=Tryz.isAgg126
 z22:=Tryz.sizeOf126
 v22:=Tryz.zeroValue126
 i22:=by kernel_rfl
 t25:=Tryz.underlying60
 a25:=Tryz.isAgg60
 z25:=Tryz.sizeOf60
 v25:=Tryz.zeroValue60
 i25:=by kernel_rfl
 t27:=Tryz.underlying153
 a27:=Tryz.isAgg153
 z27:=Tryz.sizeOf153
 v27:=Tryz.zeroValue153
 i27:=by kernel_rfl
 t53:=Tryz.underlying172
 a53:=Tryz.isAgg172
 z53:=Tryz.sizeOf172
 v53:=Tryz.zeroValue172
 i53:=by kernel_rfl
 t54:=Tryz.underlying173
 a54:=Tryz.isAgg173
 z54:=Tryz.sizeOf173
 g0:=by kernel_rfl
 g1:=by kernel_rfl
end Go.Proofs
namespace Go.Ab.Hw
open Go Go.Ab Go.Ab.Sm Go.RowKit Go.Proofs
open Go.Proofs.YtmjcgbaacndblaaGreatDoor
open Go.Ab.Vl (fQ)
abbrev He:List Int:=Lib.deBruijn64tab.map fun(n:Nat)=>(n:Int)
structure Iv (w:World) : Prop where
 mx:∃ m,w.cell? ⟨0,0,none⟩=some (.int .i64 m)
 p10:Lib.TabIs Tryz.prog w "internal/strconv.uint64pow10" .u64 Lib.pow10Tab
 db:Lib.TabIs Tryz.prog w "math/bits.deBruijn64tab" .u8 He
theorem Jz (w:World) (q:Nat) : Below w.heap.size w (w.drewN q):=⟨rfl,rfl,rfl,Nat.le_refl _,fun _ _=>rfl⟩
theorem JA (w:World) (q:Nat) (os:Array Obj) : Below w.heap.size w (Go.Sort.grow (w.drewN q) os) :=
 ⟨rfl,rfl,rfl,by first | (simp[Go.Sort.grow]; done) | (simp[Go.Sort.grow]; omega),fun i hi=>by
  show((w.drewN q).heap++os)[i]?=_
  rw[Array.getElem?_append_left (by show i<w.heap.size; omega)]
  rfl⟩
theorem NT {w:World} {b o:Nat} {v:Value} (h:w.cell? ⟨b,o,none⟩=some v) : b<w.heap.size:=by
 unfold World.cell? at h
 cases hb:w.heap[b]? with
 | none=>simp[hb] at h
 | some x=>exact(Array.getElem?_eq_some_iff.1 hb).1
theorem KJ {w w' : World} {b:Nat} (h:w'.heap[b]?=w.heap[b]?) (o:Nat) : w'.cell? ⟨b,o,none⟩=w.cell? ⟨b,o,none⟩:=by
 unfold World.cell?
 simp only[h]
theorem varLt {w:World} {n:String} {g:Nat} {vs:Array Value} (hg:Tryz.prog.globalNamed n=some g) (h:w.var? Tryz.prog n=some vs) : g<w.heap.size:=by
 unfold World.var? at h
 rw[hg] at h
 simp only[Option.bind_some] at h
 cases hb:w.heap[g]? with
 | none=>rw[hb] at h; cases h
 | some x=>exact(Array.getElem?_eq_some_iff.1 hb).1
theorem F3 {w w' : World} {n:String} {g:Nat} (hg:Tryz.prog.globalNamed n=some g) (h:w'.heap[g]?=w.heap[g]?) : w'.var? Tryz.prog n=w.var? Tryz.prog n:=by
 unfold World.var?
 rw[hg]
 simp only[Option.bind_some,h]
theorem g3:Tryz.prog.globalNamed "internal/strconv.uint64pow10" = some 3:=by kernel_rfl
theorem g7:Tryz.prog.globalNamed "math/bits.deBruijn64tab" = some 7:=by kernel_rfl
def base (w:World) (hi:Iv w) : Base where
 n:=w.heap.size
 inv w':=Iv w'
 low u u' hlow hu:=by
  obtain⟨m0,hm0⟩:=hi.mx
  obtain⟨m,hm⟩:=hu.mx
  refine⟨⟨m,(KJ (hlow 0 (NT hm0)) 0).trans hm⟩, ?_, ?_⟩
  ·exact(F3 g3 (hlow 3 (varLt g3 hi.p10))).trans hu.p10
  ·exact(F3 g7 (hlow 7 (varLt g7 hi.db))).trans hu.db
theorem Iv.tab {w:World} (h:Iv w) : TabAt 7 Lib.deBruijn64tab w:=fun j hj=>by
 have:=h.db.cell g7 j (by simpa using hj)
 rw[this]
 congr 2
 simp only[He,List.getD_eq_getElem?_getD,List.getElem?_map,List.getElem?_eq_getElem hj]
 rfl
section
variable {w0:World} {hi:Iv w0}
theorem GY {M:RM} {ρ:Ren} {w:World} (hM:M.base=base w0 hi) (hw:bi Tryz.prog ρ M w) : Iv w:=by
 have:=bi.inv hw
 rw[hM] at this
 exact this
theorem IW {M:RM} {s:List UInt8} {x:UInt8} : FY Tryz.prog 140 [St s,By x] M (N .i64 (Lib.indexByte s x)):=by
 intro ρ w us hus hw
 cases hus with
 | cons _ u1 _ us r1 hus =>
 cases hus with
 | cons _ u2 _ us r2 hus =>
 cases hus
 obtain⟨rfl,_⟩:=aB r1
 obtain⟨rfl,_⟩:=aB r2
 refine⟨.int .i64 (Lib.indexByte s x), ?_,.sc _ rfl⟩
 refine uG (fn:=Tryz.f140) (s:=Extern.BytealgIndexByte.indexByte) (by kernel_rfl) (PM.ng 140 Tryz.f140 (by kernel_rfl)) (by kernel_rfl) (by kernel_rfl) (by kernel_rfl) (fun w=>?_) w
 rw[Lib.run_indexByteString]
 congr 2
 simp
theorem Nn:fQ (aj 131):=by
 intro M s x Q hQ
 refine jw ?_
 unfold Go.Ab.Vl.gJ
 exact .inr (.inr (.inr (.inl ⟨_,IW,hQ⟩)))
theorem Q6 {M:RM} {Q:ah} (hB:M.base=base w0 hi) (hQ:Q (N .i64 4) M) : aj 124 [N .u64 16] M Q:=by
 refine dm.qg (v:=N .i64 4) ⟨Tryz.f124,_,Tryz.func124,rfl⟩ (fun ρ w us hus hw=>?_) hQ
 cases hus with
 | cons _ u1 _ us r1 hus =>
 cases hus
 obtain⟨rfl,_⟩:=aB r1
 refine(Any7.bits_TrailingZeros Tryz.lays727 16 (by decide) w (fun _=>(GY hB hw).tab)).mono fun e w' ⟨he,hb⟩=>⟨_,he,by rw[hb]; exact Below.refl _ _, ?_⟩
 exact .sc _ rfl
theorem I9:DF (base w0 hi) (aj 80):=by
 intro M s Q hB hl hQ
 cases s with
 | nil =>
   refine tV ?_
   unfold Go.Ab.Vl.sw
   simp only[dQ,cO]
   rw[show(([] : List UInt8) == [])=true from rfl]
   simp only[fG,dx,bR]
   exact hQ M (ae.refl _ _)
 | cons x s =>
   have hasc:∀ (j:Nat) b,(⟨⟨[32,9]⟩⟩ : ByteArray).data.toList[j]?=some b→b.toNat<128:=fun j b h=>by
    have hm:b∈([32,9] : List UInt8):=List.mem_of_getElem? h
    simp at hm
    rcases hm with rfl | rfl <;> decide
   refine dm.qg (v:=St (trimB (x :: s))) ⟨Tryz.f80,_,Tryz.func80,rfl⟩ (fun ρ w us hus hw=>?_) (hQ M (ae.refl _ _))
   cases hus with
   | cons _ u1 _ us r1 hus =>
   cases hus with
   | cons _ u2 _ us r2 hus =>
   cases hus
   obtain⟨rfl,_⟩:=aB r1
   obtain⟨rfl,_⟩:=aB r2
   refine(Any.strings_Trim_set Tryz.lays160 Tryz.zeroValue135 (by kernel_rfl) ⟨⟨x :: s⟩⟩ ⟨⟨[32,9]⟩⟩ w (by decide) (by show 0<(x :: s).length; simp) (by show(x :: s).length≤_; omega) (by decide) hasc).mono fun e w' ⟨he,q,hb⟩=>⟨_,he, ?_,.sc _ rfl⟩
   rw[hb]
   have h1:=(Below.refl w.heap.size w).alloc (Nat.le_refl _) (.cells (Lib.setCells [32,9]) (Tryz.lays160_ren.t 116))
   have h2:=h1.alloc h1.size (.cells (Lib.setCells [32,9]) (Tryz.lays160_ren.t 116))
   exact⟨h2.os,h2.tape,h2.output,h2.size,h2.block⟩
theorem wD:∀ (s:Str) (acc:Nat),s.all dD=true→Lib.decFrom acc s=some (s.foldl (fun n x=>n * 10 + (x.toNat - 48)) acc)
 | [],acc,_=>rfl
 | x :: s,acc,h=>by
   simp only[List.all_cons,Bool.and_eq_true] at h
   have hx:=h.1
   unfold dD at hx
   simp only[Bool.and_eq_true,decide_eq_true_eq] at hx
   have hd:Lib.digitVal x=some (x.toNat - 48):=by unfold Lib.digitVal; rw[if_pos (by omega)]
   rw[Lib.decFrom,hd]
   exact wD s _ h.2
theorem Jf:Hq (aj 40):=by
 intro M s Q h1 h9 hd hQ
 have ha:Lib.atoi s=some ((jk s:Nat) : Int):=by
  cases s with
  | nil=>simp at h1
  | cons x s =>
    have hx:dD x=true:=by simp only[List.all_cons,Bool.and_eq_true] at hd; exact hd.1
    unfold dD at hx
    simp only[Bool.and_eq_true,decide_eq_true_eq] at hx
    have e1:(x == 45)=false:=by
     cases h:x == 45
     ·rfl
     ·have:x=45:=by simpa using h
      subst this; simp at hx
    have e2:(x == 43)=false:=by
     cases h:x == 43
     ·rfl
     ·have:x=43:=by simpa using h
      subst this; simp at hx
    unfold Lib.atoi
    simp only[e1,e2,Bool.false_eq_true,if_false]
    unfold Lib.decNat
    simp only[List.isEmpty_cons,Bool.false_eq_true,if_false,wD _ _ hd,Option.map_some]
    rfl
 refine dm.qg (v:=.tup [N .i64 (jk s:Int),.sc .nilIface]) ⟨Tryz.f40,_,Tryz.func40,rfl⟩ (fun ρ w us hus hw=>?_) (hQ M (ae.refl _ _))
 cases hus with
 | cons _ u1 _ us r1 hus =>
 cases hus
 obtain⟨rfl,_⟩:=aB r1
 refine(Any.strconv_Atoi Tryz.lays172 ⟨⟨s⟩⟩ _ (by show s.length≤_; omega) ha w).mono fun e w' ⟨he,t,hb⟩=>⟨_,he, ?_,.tup _ _ (.cons _ _ _ _ (.sc _ rfl) (.cons _ _ _ _ (.sc _ rfl) .nil))⟩
 rw[hb]
 exact Lib.bytesWorld_below w _ t
theorem uQ:∀ (f n:Nat),n<10 ^ f→1≤f→Lib.decDigits n=l8 10 f n
 | 0,n,h,h1=>by omega
 | f + 1,n,h,_=>by
   rw[Lib.decDigits]
   by_cases hn:n<10
   ·rw[dif_pos hn,zS hn]
    unfold vM; rw[if_pos hn]
   ·rw[dif_neg hn,EP hn]
    have hf:1≤f:=by
     rcases Nat.eq_zero_or_pos f with e | e
     ·subst e; simp at h; omega
     ·exact e
    rw[uQ f (n / 10) (by rw[Nat.pow_succ] at h; exact Nat.div_lt_of_lt_mul (by rw[Nat.mul_comm]; exact h)) hf]
    unfold vM
    rw[if_pos (Nat.mod_lt _ (by decide))]
theorem Js:G8 (base w0 hi) (aj 34):=by
 intro M n Q hB hn hQ
 refine dm.qg (v:=St (gK n)) ⟨Tryz.f34,_,Tryz.func34,rfl⟩ (fun ρ w us hus hw=>?_) (hQ M (ae.refl _ _))
 cases hus with
 | cons _ u1 _ us r1 hus =>
 cases hus
 obtain⟨rfl,_⟩:=aB r1
 refine(Any.strconv_Itoa Tryz.laysM171 (n:Int) (by omega) (by omega) w (GY hB hw).p10).mono fun e w' ⟨he,k,os,hb⟩=>⟨_,he, ?_, ?_⟩
 ·rw[hb]
  exact JA w k os
 ·have:Lib.itoa (n:Int)=gK n:=by
   unfold Lib.itoa gK
   rw[if_neg (by omega),Int.toNat_natCast]
   exact uQ 20 n (Nat.lt_of_lt_of_le hn (by decide)) (by decide)
  rw[this]
  exact .sc _ rfl
theorem Gb {P:Program} {ρ:Ren} {M:RM} {w:World} {v:AV} {s:Str} {u:Value} (hw:bi P ρ M w) (hb:Bs M v s) (hv:ag ρ v u) :
  (u=.slice none 0 0∧s=[])∨∃ a c,u=.slice (some a) s.length c∧s.length≤c∧∀ i,i<s.length→w.cell? (a.add i)=some (.int .u8 ((s.map fun x=>(x.toNat:Int)).getD i 0)):=by
 obtain⟨hs,hc⟩:=hb
 unfold Sl at hs
 generalize hn:s.length=n at *
 generalize hcs:BY.row s=cs at *
 cases hs with
 | nil =>
   obtain⟨rfl,_⟩:=aB hv
   exact .inl ⟨rfl,List.length_eq_zero_iff.1 hn⟩
 | emp b =>
   cases hv with
   | emp _ a c=>exact .inr ⟨a,c,rfl,Nat.zero_le _,fun i hi=>absurd hi (Nat.not_lt_zero _)⟩
 | slc b o _ cap _ hlt hld =>
   obtain⟨i0,c,hb,hu⟩:=Ab.cz hv
   have hcap:n≤c:=by
    cases cap with
    | ex k =>
      have hk:n≤k:=hc
      cases hv with
      | fD _ _ _ _ j hj =>
        injection hu with _ _ h6
        omega
    | op e =>
      obtain⟨k,j,_,_,_,h4,h5⟩:=yS hv
      rw[hu] at h5
      injection h5 with _ _ h6
      omega
   subst hu
   refine .inr ⟨⟨i0.cb,i0.sh + o,none⟩,c,rfl,hcap,fun i hi=>?_⟩
   ·subst hcs
    have QP:M.loads b o (n * 1)=some (BY.row s):=hld
    have h1:=qL QP i 1 (by omega)
    have hi' : i<s.length:=by omega
    have e1:((BY.row s).drop i).take 1=[By s[i]]:=by
     have:=Enc.Bz (E:=BY) hi'
     simpa [BY] using this
    rw[e1] at h1
    obtain⟨x,hx,hcell⟩:=vF hw hb h1
    obtain⟨rfl,_⟩:=aB hx
    have ea:(⟨i0.cb,i0.sh + o,none⟩ : Addr).add i=⟨i0.cb,i0.sh + (o + i),none⟩:=by
     unfold Addr.add
     split
     ·rename_i e; subst e; rfl
     ·simp[Nat.add_assoc]
    rw[ea,hcell]
    simp[List.getD_eq_getElem?_getD,List.getElem?_eq_getElem hi']
theorem bytesOf_map (s:Str) : Lib.bytesOf (s.map fun x=>(x.toNat:Int))=s:=by
 unfold Lib.bytesOf
 rw[List.map_map]
 conv=>rhs; rw[← List.map_id s]
 apply List.map_congr_left
 intro x _
 simp
theorem Gf:Bh (base w0 hi) (aj 78):=by
 intro M v w s Q hB hv hw hl hQ
 refine dm.qg (v:=N .i64 (Lib.index s [13,10])) ⟨Tryz.f78,_,Tryz.func78,rfl⟩ (fun ρ W us hus hW=>?_) hQ
 cases hus with
 | cons _ u1 _ us r1 hus =>
 cases hus with
 | cons _ u2 _ us r2 hus =>
 cases hus
 obtain⟨m,hm⟩:=(GY hB hW).mx
 rcases Gb hW hw r2 with⟨_,h⟩ | ⟨a2,c2,rfl,hc2,hx2⟩
 ·cases h
 rcases Gb hW hv r1 with⟨rfl,rfl⟩ | ⟨a1,c1,rfl,hc1,hx1⟩
 ·refine(Any.bytes_Index_nil Tryz.lays185 (some a2) 2 c2 W (by decide) (fun h=>by cases h)).mono fun e w' ⟨he,hb⟩=>⟨_,he,by rw[hb]; exact Below.refl _ _, ?_⟩
  exact .sc _ rfl
 ·have hr:∀ (t:Str),∀ x∈t.map (fun x:UInt8=>(x.toNat:Int)),0≤x∧x<256:=fun t x hx=>by
   rw[List.mem_map] at hx
   obtain⟨y,_,rfl⟩:=hx
   have:=y.toNat_lt
   omega
  have:=Any.bytes_Index_at Tryz.lays185 a1 a2 s.length c1 2 c2 (s.map fun x=>(x.toNat:Int)) (([13,10] : Str).map fun x=>(x.toNat:Int)) m W (by simp) (by simp) (hr s) (hr _) hx1 hx2 hc1 (by omega) (by decide) hm
  rw[bytesOf_map,bytesOf_map] at this
  refine this.mono fun e w' ⟨he,q,hb⟩=>⟨_,he,by rw[hb]; exact(Jz W q), ?_⟩
  exact .sc _ rfl
theorem JY (ρ' : Ren) : ∀ l:List ByteArray,aD ρ' (mg.row (l.map (·.data.toList))) (l.map Value.string)
 | []=>.nil
 | b :: l=>.cons _ _ _ _ (.sc _ (by rfl)) (JY ρ' l)
theorem GA (s:Str) : s.count 32=Lib.countB ⟨⟨s⟩⟩ ⟨⟨[32]⟩⟩:=(Lib.count_one 32 s).symm
theorem LV:Er (base w0 hi) 9 (aj 27):=by
 intro M s Q hB hl hQ
 refine dm.Oc (cs:=mg.row (words 32 s)) (n:=(words 32 s).length) ⟨Tryz.f27,_,Tryz.func27,rfl⟩ (by kernel_rfl) (mg.o8 _) (by rw[Enc.eY]; simp[mg]) (fun ρ w us hus hw=>?_) (fun v M' o k=>hQ v M' (Own.mono o (Nat.le_refl _)) k)
 cases hus with
 | cons _ u1 _ us r1 hus =>
 cases hus with
 | cons _ u2 _ us r2 hus =>
 cases hus
 obtain⟨rfl,_⟩:=aB r1
 obtain⟨rfl,_⟩:=aB r2
 obtain⟨m,hm⟩:=(GY hB hw).mx
 refine(Any.strings_Split Tryz.lays146 (by kernel_rfl) ⟨⟨s⟩⟩ ⟨⟨[32]⟩⟩ m w (by show s.length<_; omega) hm (by decide)).mono fun e w' ⟨he,hb⟩=>?_
 have hd:(Lib.splitB ⟨⟨[32]⟩⟩ 0 (Lib.countB ⟨⟨s⟩⟩ ⟨⟨[32]⟩⟩) ⟨⟨s⟩⟩).map (·.data.toList)=words 32 s:=by
  rw[Lib.splitB_data]
  exact wB 32 _ s (GA s)
 have hlen:(Lib.splitB ⟨⟨[32]⟩⟩ 0 (Lib.countB ⟨⟨s⟩⟩ ⟨⟨[32]⟩⟩) ⟨⟨s⟩⟩).length=Lib.countB ⟨⟨s⟩⟩ ⟨⟨[32]⟩⟩ + 1:=Lib.splitB_all ⟨⟨[32]⟩⟩ (by decide) 0 _ _ rfl
 generalize Lib.splitB ⟨⟨[32]⟩⟩ 0 (Lib.countB ⟨⟨s⟩⟩ ⟨⟨[32]⟩⟩) ⟨⟨s⟩⟩=l at *
 rw[← hlen] at he
 have hwl:(words 32 s).length=l.length:=by rw[← hd]; simp
 refine⟨_,l.map Value.string,he,⟨by simp[hwl],.inr ⟨w.heap.size,l.length,(l.map Value.string).toArray,by rw[hwl],Nat.le_refl _, ?_,Nat.le_of_eq hwl, ?_,by simp, ?_⟩⟩,fun ρ'=>?_, ?_⟩
 ·rw[hb]
  show(w.heap.push _)[w.heap.size]?=_
  rw[Array.getElem?_push_size]
  rfl
 ·have:=Lib.countB_le ⟨⟨[32]⟩⟩ (by decide) s.length ⟨⟨s⟩⟩ (Nat.le_refl _)
  have h2:maxLen=9223372036854775807:=rfl
  have h3:(⟨⟨s⟩⟩ : ByteArray).size=s.length:=rfl
  omega
 ·exact List.take_of_length_le (by simp[hwl])
 ·rw[← hd]
  exact JY ρ' l
 ·rw[hb]; exact(Below.refl _ _).alloc (Nat.le_refl _) _
end
end Go.Ab.Hw
namespace Go.Ab.Hw
open Go Go.Ab Go.Ab.Sm Go.RowKit Go.Proofs
open Go.Proofs.YtmjcgbaacndblaaGreatDoor
open Go.Ab.Vl (fQ j4)
section
variable {w0:World} {hi:Iv w0}
theorem BF:nP dD (aj 38):=by
 intro M x Q hQ
 obtain⟨a0,e,h⟩:=IV hQ
 cases e
 exact rQ h
theorem MF:nP qC (aj 60):=by
 intro M x Q hQ
 obtain⟨a0,e,h⟩:=Iw hQ
 cases e
 exact q9 h
theorem JW:nP zO (aj 62):=by
 intro M x Q hQ
 obtain⟨a0,e,h⟩:=EE hQ
 cases e
 exact pF h
theorem is32:nP p32 (aj 39):=by
 intro M x Q hQ
 obtain⟨a0,e,h⟩:=Kj hQ
 cases e
 exact kT h
theorem OM:nP zG (aj 87):=by
 intro M x Q hQ
 obtain⟨a0,e,h⟩:=Ld hQ
 cases e
 exact mX h
theorem NW:nP ug (aj 86):=by
 intro M x Q hQ
 obtain⟨a0,e,h⟩:=GV BF hQ
 cases e
 exact nS h
theorem O4:nP kF (aj 115):=by
 intro M x Q hQ
 obtain⟨a0,e,h⟩:=Ji BF hQ
 cases e
 exact qI h
theorem JI:kJ dD (.fn (.func 38) [] []) (aj 37):=by
 intro M s Q hl hQ
 obtain⟨a0,a1,e,h⟩:=lF (T8:=5) (g:=38) (p:=dD) (cv:=aj) BF hl hQ
 cases e
 exact cK h
theorem Ke:kJ qC (.fn (.func 60) [] []) (aj 37):=by
 intro M s Q hl hQ
 obtain⟨a0,a1,e,h⟩:=lF (T8:=5) (g:=60) (p:=qC) (cv:=aj) MF hl hQ
 cases e
 exact cK h
theorem Nv:kJ zO (.fn (.func 62) [] []) (aj 37):=by
 intro M s Q hl hQ
 obtain⟨a0,a1,e,h⟩:=lF (T8:=5) (g:=62) (p:=zO) (cv:=aj) JW hl hQ
 cases e
 exact cK h
theorem Oy:kJ p32 (.fn (.func 39) [] []) (aj 37):=by
 intro M s Q hl hQ
 obtain⟨a0,a1,e,h⟩:=lF (T8:=5) (g:=39) (p:=p32) (cv:=aj) is32 hl hQ
 cases e
 exact cK h
theorem Ng:kJ zG (.fn (.func 87) [] []) (aj 37):=by
 intro M s Q hl hQ
 obtain⟨a0,a1,e,h⟩:=lF (T8:=5) (g:=87) (p:=zG) (cv:=aj) OM hl hQ
 cases e
 exact cK h
theorem Mt:kJ ug (.fn (.func 86) [] []) (aj 37):=by
 intro M s Q hl hQ
 obtain⟨a0,a1,e,h⟩:=lF (T8:=5) (g:=86) (p:=ug) (cv:=aj) NW hl hQ
 cases e
 exact cK h
theorem MI:kJ kF (.fn (.func 115) [] []) (aj 37):=by
 intro M s Q hl hQ
 obtain⟨a0,a1,e,h⟩:=lF (T8:=5) (g:=115) (p:=kF) (cv:=aj) O4 hl hQ
 cases e
 exact cK h
theorem sN:yG (aj 64):=by
 intro M s Q hl hQ
 obtain⟨a0,e,h⟩:=AX (T8:=5) hl hQ
 cases e
 exact qY h
theorem tO:oW (aj 59):=by
 intro M s a b Q hQ
 obtain⟨a0,a1,a2,e,h⟩:=FN hQ
 cases e
 exact qH h
theorem Lt:kY jG (aj 67):=by
 intro M s Q hl hQ
 obtain⟨a0,e,h⟩:=uM tO sN Mt hl hQ
 cases e
 exact oO h
theorem JE:A7 (base w0 hi) ig (aj 68):=by
 intro M s Q hB hl hQ
 obtain⟨a0,e,h⟩:=su I9 Ng hB hl hQ
 cases e
 exact oh h
theorem F9:kY ik (aj 28):=by
 intro M s Q hl hQ
 obtain⟨a0,e,h⟩:=Af tO Ke hl hQ
 cases e
 exact nV h
theorem LQ:zD (aj 84):=by
 intro M s q Q hQ
 obtain⟨a0,a1,e,h⟩:=De hQ
 cases e
 exact jy h
theorem OU:zD (aj 61):=by
 intro M s q Q hQ
 obtain⟨a0,a1,e,h⟩:=Ky LQ hQ
 cases e
 exact oD h
theorem Lx:kY jd (aj 29):=by
 intro M s Q hl hQ
 obtain⟨a0,e,h⟩:=Dh OU Nv hl hQ
 cases e
 exact oH h
theorem Ot:oZ (aj 70):=by
 intro M s q Q hQ
 obtain⟨a0,a1,e,h⟩:=yJ LQ hQ
 cases e
 exact jq h
theorem Pm:oZ (aj 36):=by
 intro M s q Q hQ
 obtain⟨a0,a1,e,h⟩:=FH Ot hQ
 cases e
 exact ou h
theorem Oh:sI 58 (aj 113):=by
 intro M s Q hQ
 obtain⟨a0,a1,e,h⟩:=xN Nn (g:=0) (xx:=DI Tryz.prog 132) (c1:=aj 100) (c2:=aj 133) hQ
 cases e
 exact kD h
theorem MM:j4 58 (aj 102):=by
 intro M s Q hl hQ
 obtain⟨a0,a1,e,h⟩:=Vl.BS Oh hl hQ
 cases e
 exact lg h
theorem OP:j4 58 (aj 79):=by
 intro M s Q hl hQ
 obtain⟨a0,a1,e,h⟩:=Vl.Jc MM hl hQ
 cases e
 exact uV h
theorem Kz:BI (base w0 hi) (aj 57):=by
 intro M s Q hB hl h1 h2
 obtain⟨a0,e,h⟩:=Fj (T:=56) OP I9 Lt JE hB hl h1 h2
 cases e
 exact qG h
theorem Og:GJ (base w0 hi) (aj 56):=by
 intro M v b at' Q hB h1 h2 h3 h4 h5 h6
 obtain⟨a0,a1,e,h⟩:=J6 (T:=5) Gf hB h1 h2 h3 h4 h5 h6
 cases e
 exact sH h
theorem JK {a1:AV} {q:Str→Bool} {br:Nat} {X0:RB} {X:Str→RB} (hF:Ad (base w0 hi) (aj) a1 q br X0 X) : Dy (base w0 hi) a1 q br X0 X 56 (aj 25):=by
 intro M v b Q hB h1 h2 h3 h4 h5 h6 h7
 obtain⟨a0,a1,e,h⟩:=J9 Og Kz hF hB h1 h2 h3 h4 h5 h6 h7
 cases e
 exact sG h
theorem Gn:Bd 9 (aj 63):=by
 intro M v l n Q h1 h2 h3 h4 h5
 obtain⟨a0,a1,e,h⟩:=IA (TH:=56) sN h1 h2 h3 h4 h5
 cases e
 exact rF h
theorem Gm:GL (aj 55):=by
 intro M v l n Q h1 h2 h3 h4 h5
 obtain⟨a0,a1,e,h⟩:=Hu Gn h1 h2 h3 h4 h5
 cases e
 exact rT h
theorem N9:GQ (base w0 hi) (aj 114):=by
 intro M v w s Q hB h1 h2 h3 h4 h5
 obtain⟨a0,a1,e,h⟩:=JF Gf hB h1 h2 h3 h4 h5
 cases e
 exact xM h
theorem L8:EY (aj 134):=by
 intro M x Q hQ
 obtain⟨a0,e,h⟩:=Iy hQ
 cases e
 exact ma h
theorem OE:BG (aj 117):=by
 intro M s Q h1 h2 h3 h4
 obtain⟨a0,a1,a2,e,h⟩:=AP (TE:=119) (T8:=5) (cu:=aj 135) L8 h1 h2 h3 h4
 cases e
 exact kG h
theorem Ou:BG (aj 116):=by
 intro M s Q h1 h2 h3 h4
 obtain⟨a0,a1,a2,e,h⟩:=BL (ct:=aj 72) OE h1 h2 h3 h4
 cases e
 exact oz h
theorem NR:IU (base w0 hi) (aj 85):=by
 intro M v b at' Q hB h1 h2 h3 h4 h5
 obtain⟨a0,a1,e,h⟩:=JS (T:=5) N9 tO sN MI Ou hB h1 h2 h3 h4 h5
 cases e
 exact sQ h
theorem I1:yM (base w0 hi) 5 (aj 65):=by
 intro M v b at' Q hB h1 h2 h3 h4 h5
 obtain⟨a0,a1,e,h⟩:=Ec NR hB h1 h2 h3 h4 h5
 cases e
 exact qy h
theorem Mc:DT 5 (aj 66):=by
 intro M v s Q h1 h2 h3
 obtain⟨a0,e,h⟩:=Hl h1 h2 h3
 cases e
 exact vT h
theorem JH:DK (base w0 hi) 5 (aj 30):=by
 intro M v hv b l at' Q hB h1 h2 h3 h4 h5 h6 h7 h8
 obtain⟨a0,a1,a2,e,h⟩:=JB Gn sN I1 tO JI Jf Mc hB h1 h2 h3 h4 h5 h6 h7 h8
 cases e
 exact sj h
theorem JL (br:Nat) : Ad (base w0 hi) (aj) (.fn (.func 26) [] [.ptr br 0]) tZ br (iQ 26 [] []) (EH 26):=by
 intro M s K hB hbr hX hl h0 h1
 rw[zF]
 exact mG (JU (TS:=9) LV F9 Lx hB hbr hX hl h0 h1)
theorem GD (br:Nat) : Ad (base w0 hi) (aj) (.fn (.func 35) [] [.ptr br 0]) oQ br (gq 34 0) (Dv 34):=by
 intro M s K hB hbr hX hl h0 h1
 rw[zF]
 exact lS (GN Pm JI Oy Jf hbr hX hl h0 h1)
theorem tX:EJ (base w0 hi) 56 5 (aj 11):=by
 intro M v b Q hB h1 h2 h3 h4
 obtain⟨a0,e,h⟩:=Ee (T:=26) (g:=26) (fun br=>JK (JL br)) JH hB h1 h2 h3 h4
 cases e
 exact nz h
theorem Cu:CU (base w0 hi) 56 5 (aj 14):=by
 intro M v b Q hB h1 h2 h3 h4
 obtain⟨a0,e,h⟩:=Dm (T:=34) (g:=35) (fun br=>JK (GD br)) JH hB h1 h2 h3 h4
 cases e
 exact mH h
theorem vL:pR (base w0 hi) 5 (aj 32):=by
 intro M v bv f b l m z Q hB h1 h2 h3 h4 h5 h6 h7 h8 h9 h10
 obtain⟨a0,a1,a2,a3,a4,e,h⟩:=DV (TH:=56) Lt JE sN hB h1 h2 h3 h4 h5 h6 h7 h8 h9 h10
 cases e
 exact pq h
theorem CP:uI (base w0 hi) (aj 33):=by
 intro M n Q hB h1 h2
 obtain⟨a0,e,h⟩:=D8 (T:=56) Js hB h1 h2
 cases e
 exact qm h
theorem Na:tF (aj 31):=by
 intro M m q x y Q h1 h2 h3 h4 h5
 obtain⟨a0,e,h⟩:=EF (T:=26) F9 Lx h1 h2 h3 h4 h5
 cases e
 exact mZ h
theorem Ct:CJ (base w0 hi) 5 (aj 12):=by
 intro M hv bv m q b l Q hB h1 h2 h3 h4 h5 h6 h7 h8 h9
 obtain⟨a0,e,h⟩:=Dc (T:=26) Na CP vL hB h1 h2 h3 h4 h5 h6 h7 h8 h9
 cases e
 exact mI h
theorem zV:Bb (base w0 hi) 5 (aj 13):=by
 intro M hv bv n b l Q hB h1 h2 h3 h4 h5 h6 h7
 obtain⟨a0,e,h⟩:=Br (T:=34) Js CP vL hB h1 h2 h3 h4 h5 h6 h7
 cases e
 exact mE h
theorem MW:EB 5 (aj 75):=by
 intro M n Q h1 h2 h3
 obtain⟨a0,a1,e,h⟩:=Ib (TS:=9) h1 h2 h3
 cases e
 exact xJ h
theorem Lr:zI 5 (aj 48):=by
 intro M bb TB vs xss Q h1 h2 h3 h4 h5 h6 h7 h8
 obtain⟨a0,e,h⟩:=ED (TS:=9) MW h1 h2 h3 h4 h5 h6 h7 h8
 cases e
 exact uW h
theorem KH:BU 3 (aj 47):=by
 intro M v s Q h1 h2 h3
 obtain⟨a0,e,h⟩:=FQ h1 h2 h3
 cases e
 exact xK h
theorem OL:G6 (aj 123):=by
 intro M Q h1
 obtain⟨a0,e,h⟩:=Kl h1
 cases e
 exact jE h
theorem Nh:Gy (base w0 hi) (aj 96):=by
 intro M n Q hB h1 h2
 obtain⟨a0,a1,a2,a3,a4,e,h⟩:=JC (TS:=9) (TA:=154) (T8:=5) OL Q6 hB h1 h2
 cases e
 exact ku h
theorem Ox:BN (base w0 hi) (aj 76):=by
 intro M n Q hB h1 h2
 obtain⟨a0,a1,e,h⟩:=Jg (c1:=aj 93) (TA:=125) (c2:=aj 94) (c3:=aj 95) Nh hB h1 h2
 cases e
 exact kN h
theorem OJ:BN (base w0 hi) (aj 49):=by
 intro M n Q hB h1 h2
 obtain⟨a0,a1,e,h⟩:=Lb Ox hB h1 h2
 cases e
 exact oN h
theorem Fg:xZ (base w0 hi) 5 (aj 19):=by
 intro M hv bv sv m q b l sz Q hB h1 h2 h3 h4 h5 h6 h7 h8 h9 h10 h11
 obtain⟨a0,a1,e,h⟩:=AL (T:=26) (TI:=3) (TB:=24) Na KH OJ Lr vL hB h1 h2 h3 h4 h5 h6 h7 h8 h9 h10 h11
 cases e
 exact qx h
end
end Go.Ab.Hw
namespace Go.Ab.Hw
open Go Go.Ab Go.Ab.Sm Go.RowKit Go.Proofs
open Go.Proofs.YtmjcgbaacndblaaGreatDoor
abbrev kE:Str:=[71,69,84]
abbrev qO:Str:=[47,97]
abbrev lX:List Hd:=[([88],[49])]
def PS:Except Nat Str→Str
 | .ok s=>s
 | .error _=>[]
abbrev sA:Str:=[71,69,84,32,47,97,32,72,84,84,80,47,49,46,49,13,10,88,58,32,49,13,10,67,111,110,116,101,110,116,45,76,101,110,103,116,104,58,32,48,13,10,13,10]
def sC:Str:=PS (iV 404 [] [110,111])
def sD:Str:=PS (jc kE qO lX [97,98,99,100] [3])
theorem pA:lI kE qO lX []=.ok sA:=by kernel_rfl
theorem rA:jo (sA++[120])=.ok ((kE,qO,lX++[(nD,[48])],[]),[120]):=by kernel_rfl
theorem pC:iV 404 [] [110,111]=.ok sC:=by kernel_rfl
theorem rC:jR sC=.ok ((404,[(nD,[50])],[110,111]),[]):=by kernel_rfl
theorem pD:jc kE qO lX [97,98,99,100] [3]=.ok sD:=by kernel_rfl
theorem rD:jo sD=.ok ((kE,qO,lX++[(Hf,CO)],[97,98,99,100]),[]):=by kernel_rfl
theorem nA:bT (lX++[(nD,[48])]) [120]=[[49]]:=by kernel_rfl
theorem nC:bT [(nD,[50])] [67,79,78,84,69,78,84,45,76,69,78,71,84,72]=[[50]]:=by kernel_rfl
theorem lC:sC.length≤1000:=by decide +kernel
theorem lD:sD.length≤1000:=by decide +kernel
theorem sK {T n:Nat} {M:RM} {parts:List (Nat × Nat × AV)} (s:Str) {K:ah} (he:nJ (bV [(N .u8 0)] n) parts=some (BY.row s)) (hn:s.length=n)
  (hK:∀ v M',Bs M' v s→ae [] M M'→(∀ b∈aN v,M.next≤b)→K v M') : bX T n [(N .u8 0)] parts fun r f=>aV r f M fun t14 M1=>kX t14 M1 fun t15 M_0=>K t15 M_0:=by
 refine⟨BY.row s,he, ?_⟩
 simp only[aS]
 refine⟨M.next,0,n,n,BY.row s,T,rfl,by simp[RM.push], ?_⟩
 refine hK _ _ ⟨?_,Nat.le_refl _⟩ (((ae.refl _ _).push _).new _ (Nat.le_refl _)) (fun b hb=>by simp[aN] at hb; omega)
 subst hn
 refine aL.slc _ _ _ _ _ (by simp[RM.push,RM.put]) ?_
 rw[RM.gD (aM _) (by rw[jN]; simp[BY]),List.drop_zero,List.take_of_length_le (by rw[jN]; simp[BY])]
theorem Qf {T:Nat} {M:RM} {z cs:List AV} {K:AV→RM→Prop} (n:Nat) (hz:z.length=n) (hc:cs.length=n) (h1:cs.all oneCell=true)
  (hK:∀ M',ae [] M M'→M'.heap M.next=some (.row cs false T 0)→M.next<M'.next→K (.agg cs) M') :
  aV (.row z false T 0) (fun b=>.ptr b 0) M fun t M1=>aF M1 t (.agg cs) n fun M2=>bF M2 t n fun r=>K r M2:=by
 simp only[aS]
 have n1:(M.push (.row z false T 0)).heap M.next=some (.row z false T 0):=by simp[RM.push]
 rw[jm n1 hc hz h1,bS (aM _) hc]
 exact hK _ (((ae.refl _ _).push _).new _ (Nat.le_refl _)) (aM _) (by simp[RM.push,RM.put])
theorem wZ {T:Nat} {M:RM} {z cs:List AV} {K:AV→RM→Prop} (n:Nat) (hz:z.length=n) (hc:cs.length=n) (h1:cs.all oneCell=true)
  (hK:∀ M',ae [] M M'→M'.heap M.next=some (.row cs false T 0)→M.next<M'.next→K (.ptr M.next 0) M') :
  aV (.row z false T 0) (fun b=>.ptr b 0) M fun t M1=>aF M1 t (.agg cs) n fun M2=>K t M2:=by
 simp only[aS]
 have n1:(M.push (.row z false T 0)).heap M.next=some (.row z false T 0):=by simp[RM.push]
 rw[jm n1 hc hz h1]
 exact hK _ (((ae.refl _ _).push _).new _ (Nat.le_refl _)) (aM _) (by simp[RM.push,RM.put])
theorem sP {α:Type} {x y:α} {r:Except Nat α} (h:r=.ok x) (k:r=.ok y) : x=y:=by rw[h] at k; exact Except.ok.inj k
theorem si {α:Type} {x:α} {e:Nat} {r:Except Nat α} (h:r=.ok x) (k:r=.error e) : False:=by rw[h] at k; cases k
theorem LF:∀ h∈lX,h.1.length≤281474976710656∧h.2.length≤281474976710656:=fun h hx=>by
 simp at hx; subst hx; simp
def NA (B:Base) (c:ai) : Prop:=∀ {M:RM} {Q:ah},M.base=B→(∀ M',ae [] M M'→Q (Bo true) M')→c [] M Q
section
variable {w0:World} {hi:Iv w0}
theorem MR:NA (base w0 hi) (aj 10):=by
 intro M Q hB hQ
 refine uU ?_
 unfold uK
 rw[gy]
 refine⟨_,zT rfl rfl rfl rfl, ?_⟩
 rw[wQ (by rfl) (by rfl) (by rfl)]
 simp only[aS (x:=.row (AV.agg [St [88],St [49]]).cells false 56 0)]
 have k1:ae [] M (M.push (.row (AV.agg [St [88],St [49]]).cells false 56 0)):=(ae.refl _ _).push _
 have s1:Sl HD (M.push (.row (AV.agg [St [88],St [49]]).cells false 56 0)) (.slc M.next 0 1 (.ex 1)) lX:=Sl.new (E:=HD) lX
 generalize M.push (.row (AV.agg [St [88],St [49]]).cells false 56 0)=M1 at *
 rw[gy]
 refine⟨[St kE,St qO,.slc M.next 0 1 (.ex 1),aH],rfl, ?_⟩
 have bx:∀ K:AV→AV→RM→Prop,(∀ M2,ae [] M1 M2→M2.heap M1.next=some (.row [St kE,St qO,.slc M.next 0 1 (.ex 1),aH] false 26 0)→M1.next<M2.next→K (.ptr M1.next 0) (.agg [St kE,St qO,.slc M.next 0 1 (.ex 1),aH]) M2) →
   aV (.row [St [],St [],aH,aH] false 26 0) (fun b=>.ptr b 0) M1 fun t M2=>aF M2 t (.agg [St kE,St qO,.slc M.next 0 1 (.ex 1),aH]) 4 fun M3=>bF M3 t 4 fun r=>K t r M3:=fun K h=>by
  refine wZ (K:=fun t M3=>bF M3 t 4 fun r=>K t r M3) 4 rfl rfl rfl fun M2 k2 n2 l2=>?_
  rw[bS n2 (by rfl)]
  exact h M2 k2 n2 l2
 refine bx _ fun M2 k2 n2 l2=>?_
 have k02:=k1.trans k2
 have s2:Sl HD M2 (.slc M.next 0 1 (.ex 1)) lX:=aL.keep s1 k2 (by simp)
 refine Ct (hi:=hi) (k02.base.trans hB) s2 (by simp) LF (by simp) (by simp) (body:=[]) .nil (by simp) (fun s v3 M3 e3 _ k3 o3=>?_) (fun e M3 e3 _ _=>(si pA e3).elim)
 obtain rfl:=sP pA e3
 simp only[aT,aU]
 rw[Iu]
 simp only[aS (x:=.row [] false 5 0)]
 have k3' : ae [] M3 (M3.push (.row [] false 5 0)):=(ae.refl _ _).push _
 refine pg (E:=BY) (Ow.lit BY M3) (by simp[RM.push]) (by decide) (aL.keep (Own.ol o3) k3' (by simp)) (by simp) (by simp) fun v4 M4 o4 k4 _ _=>?_
 have k34:ae [] M3 M4:=ae.own k3' k4 (fun b hb=>by simp[aN] at hb; omega)
 rw[wQ (by rfl) (by rfl) (by rfl)]
 simp only[aS (x:=.row (N .u8 120).cells false 5 0)]
 refine wS (E:=BY) (a:=120) o4 k34.next (by decide) (by simp) (by simp) fun v5 M5 o5 k5 _ _=>?_
 have k35:ae [] M3 M5:=ae.own k34 k5 (fun b hb=>(Own.blk o4 b hb).1)
 have k25:=k3.trans k35
 rw[List.nil_append] at o5
 refine tX (hi:=hi) ((k02.trans k25).base.trans hB) (Bs.own o5) (by simp) (fun m p l out r at6 hv6 ov6 M6 e6 h61 h62 _ _ _ k6 oh6 ob6=>?_) (fun e M6 e6 _ _=>(si rA e6).elim)
 have e6':=sP rA e6
 simp only[Prod.mk.injEq] at e6'
 obtain⟨⟨rfl,rfl,rfl,rfl⟩,rfl⟩:=e6'
 have QK:at6=44:=by
  have:=congrArg List.length h62
  simp at this h61; omega
 subst QK
 simp only[aT,aU,dG]
 have c6:([St kE,St qO,hv6,ov6] : List AV).all oneCell=true:=by
  have h1:=Own.one oh6; have h2:=Own.one ob6
  simp only[List.all_cons,List.all_nil,h1,h2]; rfl
 refine Qf (K:=fun t40 GR=>_) 4 rfl rfl c6 fun M7 k7 _ _=>?_
 have k26:=k25.trans (k6.trans k7)
 have sh7:Sl HD M7 hv6 (lX++[(nD,[48])]):=aL.keep (Own.ol oh6) k7 (by simp)
 refine mW (Ko Gm sh7 (by simp) (by decide) (by decide) c6 fun M8 k8=>?_)
 rw[nA]
 simp only[jW,aT,aU]
 have k28:=k26.trans k8
 refine sK [110,111] rfl rfl fun v9 M9 b9 k9 _=>?_
 rw[gy]
 have ob9:=aL.one b9.sl
 have fl9:nM [N .i64 0,aH,aH] [(0,1,N .i64 404),(2,1,v9)]=some [N .i64 404,aH,v9]:=by
  have h1:=aL.known b9.sl
  have h2:=aL.cells b9.sl
  rw[nM,if_pos ⟨rfl,rfl,by decide⟩,nM,if_pos ⟨h1,by rw[h2]; rfl,by decide⟩,h2]
  rfl
 refine⟨_,fl9, ?_⟩
 have k29:=k28.trans k9
 refine zV (hi:=hi) ((k02.trans k29).base.trans hB) (l:=[]) .nil (by simp) (by simp) b9.sl (by simp) (fun s v10 M10 e10 _ k10 o10=>?_) (fun e M10 e10 _ _=>(si pC e10).elim)
 obtain rfl:=sP pC e10
 simp only[aT,aU]
 have Ht:=k29.trans k10
 refine Cu (hi:=hi) ((k02.trans Ht).base.trans hB) (Bs.own o10) (by have:=lC; omega) (fun n l out r Qy Ch BO M11 e11 h111 h112 _ _ _ k11 Nf K7=>?_) (fun e M11 e11 _ _=>(si rC e11).elim)
 have MH:=sP rC e11
 simp only[Prod.mk.injEq] at MH
 obtain⟨⟨rfl,rfl,rfl⟩,rfl⟩:=MH
 have O8:Qy=sC.length:=by
  have:=congrArg List.length h112
  simp at this; omega
 subst O8
 simp only[aT,aU,dG]
 have c11:([N .i64 ((404:Nat) : Int),Ch,BO] : List AV).all oneCell=true:=by
  have h1:=Own.one Nf; have h2:=Own.one K7
  simp only[List.all_cons,List.all_nil,h1,h2]; rfl
 have bx2:∀ K:AV→AV→RM→Prop,(∀ M2,ae [] M11 M2→M2.heap M11.next=some (.row [N .i64 ((404:Nat) : Int),Ch,BO] false 34 0)→M11.next<M2.next→K (.ptr M11.next 0) (.agg [N .i64 ((404:Nat) : Int),Ch,BO]) M2) →
   aV (.row [N .i64 0,aH,aH] false 34 0) (fun b=>.ptr b 0) M11 fun t M2=>aF M2 t (.agg [N .i64 ((404:Nat) : Int),Ch,BO]) 3 fun M3=>bF M3 t 3 fun r=>K t r M3:=fun K h=>by
  refine wZ (K:=fun t M3=>bF M3 t 3 fun r=>K t r M3) 3 rfl rfl c11 fun M2 k2 n2 l2=>?_
  rw[bS n2 (by rfl)]
  exact h M2 k2 n2 l2
 refine bx2 _ fun M12 k12 n12 l12=>?_
 have Qs:Sl HD M12 Ch [(nD,[50])]:=aL.keep (Own.ol Nf) k12 (by simp)
 refine mJ (JR Gm Qs (by simp) (by decide) (by decide) c11 fun M13 k13=>?_)
 rw[nC]
 simp only[jW,aT,aU]
 have NV:=Ht.trans (k11.trans (k12.trans k13))
 refine sK [97,98,99,100] rfl rfl fun v14 M14 b14 k14 QI=>?_
 have Ha:=NV.trans k14
 have n14:=Ha.aO n2 l2 (by simp)
 have l14:=Nat.lt_of_lt_of_le l2 Ha.next
 have c14:=aL.cells b14.sl
 have Qm:=aL.one b14.sl
 rw[jg,Nat.zero_add,fE [St kE,St qO,.slc M.next 0 1 (.ex 1),v14] n14 (by simp) c14 Qm rfl,bS (aM _) (by rfl)]
 have k15:ae [M1.next] M14 (M14.put M1.next (.row [St kE,St qO,.slc M.next 0 1 (.ex 1),v14] false 26 0)):=(ae.refl _ _).put _ (.inr (by simp))
 generalize M14.put M1.next (.row [St kE,St qO,.slc M.next 0 1 (.ex 1),v14] false 26 0)=M15 at *
 have kk:∀ {X Y:RM},ae [] X Y→ae [M1.next] X Y:=fun k=>k.mono (by simp)
 have b15:Bs M15 v14 [97,98,99,100]:=b14.keep k15 (fun x hx hm=>by have:=QI x hx; have:=NV.next; simp at hm; omega)
 have ne1:∀ b,M2.next≤b→b≠M1.next:=fun b h e=>by omega
 have s15:Sl HD M15 (.slc M.next 0 1 (.ex 1)) lX:=aL.keep (aL.keep s2 Ha (by simp)) k15 (fun x hx hm=>by have:=aL.lt s1 x hx; simp at hm; omega)
 rw[wQ (by rfl) (by rfl) (by rfl)]
 simp only[aS (x:=.row (N .i64 3).cells false 3 0)]
 have k16:ae [] M15 (M15.push (.row (N .i64 3).cells false 3 0)):=(ae.refl _ _).push _
 have s16:Sl INT (M15.push (.row (N .i64 3).cells false 3 0)) (.slc M15.next 0 1 (.ex 1)) [3]:=Sl.new (E:=INT) [3]
 generalize M15.push (.row (N .i64 3).cells false 3 0)=M16 at *
 have Lc:ae [M1.next] M2 M16:=(kk Ha).trans (k15.trans (kk k16))
 refine Fg (hi:=hi) ((Lc.base.trans k02.base).trans hB) (aL.keep s15 k16 (by simp)) (by simp) LF (by simp) (by simp) (b15.keep k16 (by simp)) (by simp) s16 (by simp) (fun s v17 M17 e17 _ k17 o17=>?_) (fun e M17 e17 _ _=>(si pD e17).elim)
 obtain rfl:=sP pD e17
 simp only[aT,aU]
 refine tX (hi:=hi) ((k17.base.trans (Lc.base.trans k02.base)).trans hB) (Bs.own o17) (by have:=lD; omega) (fun m p l out r P9 QO MZ M18 e18 h181 Qg _ _ _ k18 P7 NM=>?_) (fun e M18 e18 _ _=>(si rD e18).elim)
 have Ns:=sP rD e18
 simp only[Prod.mk.injEq] at Ns
 obtain⟨⟨rfl,rfl,rfl,rfl⟩,rfl⟩:=Ns
 have O3:P9=sD.length:=by
  have:=congrArg List.length Qg
  simp at this; omega
 subst O3
 simp only[aT,aU,dG]
 have c18:([St kE,St qO,QO,MZ] : List AV).all oneCell=true:=by
  have h1:=Own.one P7; have h2:=Own.one NM
  simp only[List.all_cons,List.all_nil,h1,h2]; rfl
 refine wZ (K:=fun t M_35=>_) 4 rfl rfl c18 fun M19 k19 n19 l19=>?_
 -- what stands at the end
 have QU:ae [M1.next] M3 M19:=by
  have a:=kk (k35.trans (k6.trans (k7.trans (k8.trans (k9.trans (k10.trans (k11.trans (k12.trans (k13.trans k14)))))))))
  exact a.trans (k15.trans (kk (k16.trans (k17.trans (k18.trans k19)))))
 have bA:Bs M19 v3 sA:=(Bs.own o3).keep QU (fun x hx hm=>by have:=(Own.blk o3 x hx).1; simp at hm; omega)
 have O5:ae [M1.next] M10 M19:=(kk (k11.trans (k12.trans (k13.trans k14)))).trans (k15.trans (kk (k16.trans (k17.trans (k18.trans k19)))))
 have bC:Bs M19 v10 sC:=(Bs.own o10).keep O5 (fun x hx hm=>by have:=(Own.blk o10 x hx).1; have:=k29.next; simp at hm; omega)
 have LH:ae [M1.next] M12 M19:=(kk (k13.trans k14)).trans (k15.trans (kk (k16.trans (k17.trans (k18.trans k19)))))
 have h11:M19.heap M11.next=some (.row [N .i64 ((404:Nat) : Int),Ch,BO] false 34 0):=LH.aO n12 l12 (by
  have:=(Ht.trans k11).next; simp; omega)
 have Qr:Bs M19 BO [110,111]:=((Bs.own K7).keep k12 (by simp)).keep LH (fun x hx hm=>by have:=(Own.blk K7 x hx).1; have:=Ht.next; simp at hm; omega)
 have bD:Bs M19 v17 sD:=(Bs.own o17).keep (k18.trans k19) (by simp)
 have P5:Bs M19 MZ [97,98,99,100]:=(Bs.own NM).keep k19 (by simp)
 have go1:∀ {α:Type} [BEq α] [LawfulBEq α] (a:α),(a == a)=true:=fun a=>beq_self_eq_true a
 simp only[dx,bZ,bB,dQ,go1]
 rw[bA.str]
 simp only[dx,bZ,bB,dQ,go1]
 rw[bA.len]
 rw[bB,show(((44:Nat) : Int) == ((sA.length:Nat) : Int))=true by decide]
 simp only[dx,bZ,bB,dQ,go1]
 rw[bC.len]
 simp only[dx,bZ,bB,dQ,go1,jg,Nat.zero_add]
 rw[bq h11 rfl]
 rw[bB,show(((404:Nat) : Int) == 404)=true from rfl]
 simp only[dx,bZ,bB,dQ,go1]
 rw[bq h11 rfl,Qr.str]
 simp only[dx,bZ,bB,dQ,go1]
 rw[bD.len]
 simp only[dx,bZ,bB,dQ,go1]
 rw[bq n19 rfl,P5.str]
 simp only[dx,bZ,bB,dQ,go1]
 exact hQ _ (pK k02 (Lc.trans (kk (k17.trans (k18.trans k19)))) (by have:=k1.next; omega))
end
abbrev PL:Str:=[71,69,84,32,47,97,32,72,84,84,80,47,49,46,49]
abbrev PW:Str:=[103,101,116,32,47,32,72,84,84,80,47,49,46,49,13,10]
abbrev PO:Str:=[72,84,84,80,47,49,46,49,32,50,48,48,32,13,10,67,111,110,116,101,110,116,45,76,101,110,103,116,104,58,32,49,54,51,56,53,13,10,13,10]
theorem PK:jo PL=.error 15:=by kernel_rfl
theorem PD:jo PW=.error 14:=by kernel_rfl
theorem PT:jR PO=.error 2:=by kernel_rfl
theorem PG:lI kE [97] [] []=.error 1:=by kernel_rfl
theorem Ps:iV 99 [] []=.error 1:=by kernel_rfl
theorem wF {α:Type} {x:α} {e:Nat} {r:Except Nat α} (h:r=.error e) (k:r=.ok x) : False:=by rw[h] at k; cases k
theorem sU {α:Type} {e f:Nat} {r:Except Nat α} (h:r=.error e) (k:r=.error f) : e=f:=by rw[h] at k; exact Except.error.inj k
section
variable {w0:World} {hi:Iv w0}
theorem Ku {M:RM} {Q:ah} (hB:M.base=base w0 hi) (hQ:∀ M',Q (Bo true) M') : aj 3 [] M Q:=by
 refine nO ?_
 unfold lM
 refine MR (hi:=hi) hB fun M1 k1=>?_
 simp only[cB,Bool.not_true,bf]
 refine sK PL rfl rfl fun v2 M2 b2 k2 _=>?_
 have k02:=k1.trans k2
 refine tX (hi:=hi) (k02.base.trans hB) b2 (by simp) (fun m p l out r a hv ov M3 e3 _ _ _ _ _ _ _ _=>(wF PK e3).elim) (fun e M3 e3 _ k3=>?_)
 obtain rfl:=sU PK e3
 simp only[aT,aU,dG]
 refine wZ (K:=fun t M_4=>_) 4 rfl rfl rfl fun M4 k4 _ _=>?_
 refine sK PW rfl rfl fun v5 M5 b5 k5 _=>?_
 have k05:=k02.trans (k3.trans (k4.trans k5))
 refine tX (hi:=hi) (k05.base.trans hB) b5 (by simp) (fun m p l out r a hv ov M3 e3 _ _ _ _ _ _ _ _=>(wF PD e3).elim) (fun e M6 e6 _ k6=>?_)
 obtain rfl:=sU PD e6
 simp only[aT,aU,dG]
 refine wZ (K:=fun t M_4=>_) 4 rfl rfl rfl fun M7 k7 _ _=>?_
 rw[gy]
 refine⟨[St kE,St [97],aH,aH],rfl, ?_⟩
 have k07:=k05.trans (k6.trans k7)
 refine Ct (hi:=hi) (k07.base.trans hB) (l:=[]) .nil (by simp) (by simp) (by simp) (by simp) (body:=[]) .nil (by simp) (fun s v3 M3 e3 _ _ _=>(wF PG e3).elim) (fun e M8 e8 _ k8=>?_)
 obtain rfl:=sU PG e8
 simp only[aT,aU]
 rw[gy]
 refine⟨[N .i64 99,aH,aH],rfl, ?_⟩
 have k08:=k07.trans k8
 refine zV (hi:=hi) (k08.base.trans hB) (l:=[]) .nil (by simp) (by simp) (body:=[]) .nil (by simp) (fun s v3 M3 e3 _ _ _=>(wF Ps e3).elim) (fun e M9 e9 _ k9=>?_)
 obtain rfl:=sU Ps e9
 simp only[aT,aU]
 refine sK PO rfl rfl fun v10 M10 b10 k10 _=>?_
 have QL:=k08.trans (k9.trans k10)
 refine Cu (hi:=hi) (QL.base.trans hB) b10 (by simp) (fun n l out r a hv ov M3 e3 _ _ _ _ _ _ _ _=>(wF PT e3).elim) (fun e M11 e11 _ k11=>?_)
 obtain rfl:=sU PT e11
 simp only[aT,aU,dG]
 refine wZ (K:=fun t M_4=>_) 3 rfl rfl rfl fun M12 k12 _ _=>?_
 have e15:(((15:Nat) : Int) == 15)=true:=rfl
 have e14:(((14:Nat) : Int) == 14)=true:=rfl
 have e1:(((1:Nat) : Int) == 1)=true:=rfl
 have e2:(((2:Nat) : Int) == 2)=true:=rfl
 simp only[bB,e15,e14,e1,e2,bZ,dx]
 exact hQ _
end
end Go.Ab.Hw
namespace Go.Ab.Hw
open Go Go.Ab Go.RowKit Go.Proofs
open Go.Proofs.YtmjcgbaacndblaaGreatDoor
theorem wE {P:Program} {n:String} {d:DataW Unit} {r:List (String × DataW Unit)} {w:World} (h:laidMet P ((n,d) :: r) w) : laidMet P r w:=by
 obtain⟨ps,⟨g,t,cs,fuel,p,q,_,_,_,_,hs,rfl⟩,hnd,hall⟩:=h
 exact⟨q,hs,(List.nodup_append.1 hnd).2.1,fun b off hm=>hall b off (by simp[hm])⟩
theorem MB:Rows.httpwireKnownRow.laid=("math/bits.deBruijn32tab",Rows.laid_math_bits_deBruijn32tab) :: ("math/bits.deBruijn64tab",Lib.tabData .u8 He) :: ("internal/strconv.uint64pow10",Lib.tabData .u64 Lib.pow10Tab) :: Rows.httpwireKnownRow.laid.drop 3:=by kernel_rfl
theorem inv_of (w:World) (h:laidMetH Tryz.prog Rows.httpwireKnownRow.laid w) (hsh:w.ShapedOpen Tryz.prog) : Iv w:=by
 rw[MakeChecks.laidMetH_plain _ _ _ (by kernel_rfl),MB] at h
 refine⟨cell_of_shapedOpen_int (g:=0) (t:=3) (zero := #[.int .i64 0]) hsh (by decide +kernel) (by kernel_rfl) (by kernel_rfl) (by kernel_rfl) (by kernel_rfl) (by kernel_rfl), ?_, ?_⟩
 ·exact Lib.tabIs_of_head (g:=3) (t:=152) (e:=126) (n:=20) g3 (by kernel_rfl) (by kernel_rfl) (by kernel_rfl) (by kernel_rfl) (by kernel_rfl) (wE (wE h))
 ·exact Lib.tabIs_of_head (g:=7) (t:=173) (e:=5) (n:=64) g7 (by kernel_rfl) (by kernel_rfl) (by kernel_rfl) (by kernel_rfl) (by kernel_rfl) (wE h)
end Go.Ab.Hw
namespace Go.Proofs.YtmjcgbaacndblaaGreatDoor.httpwireKnown
open Go Go.Ab Go.ChangeShapes Go.WideShapes Go.ChangeAt Go.RowKit
theorem own:ownKnob Tryz.prog.godebug=none:=by kernel_rfl
open Go.Ab.Hw
theorem walk (w:World) (hi:Iv w) : Calls Tryz.prog 3 #[] w fun e w'=>e=.returned (.bool true)∧Below w.heap.size w w':=by
 refine dm.close (base:=base w hi) rfl hi ?_
 exact Ku (hi:=hi) rfl fun M'=>rfl
set_option maxRecDepth 100000 in
theorem lifted (os:Os) (started:os.Started) (H:Type) (enc:TypeId × Value→H) :
  ReturnsInHanded {} Tryz.checked os 3 .any (fun w args=>(Rows.httpwireKnownSpec.pre enc Tryz.prog Tryz.f3 Rows.httpwireKnownRow.domain false w args∧laidMetH Tryz.prog Rows.httpwireKnownRow.laid w)∧sizedMet enc Tryz.prog Tryz.f3 (OpenSpec.ofChange Rows.httpwireKnownSpec) false w args)
   (Rows.httpwireKnownSpec.post enc Tryz.prog Tryz.f3 false true false false):=by
 refine xL (C:=Tryz.checked) (X:=fun w _=>laidMetH Tryz.prog Rows.httpwireKnownRow.laid w) (fun _ _ _ hh h=>h.of_heap hh) own started (by kernel_rfl) Tryz.func3
  (ChangeSpec.witness_shaped (enc:=enc) (C:=Tryz.checked) (os:=os) (X:=fun w _=>laidMetH Tryz.prog Rows.httpwireKnownRow.laid w) false (World.laidAll Tryz.prog os Rows.httpwireKnownRow.laid) #[] 8 (World.laidAll_os _ _ _)
   (World.shaped_of_ZipB (by kernel_rfl) (by kernel_rfl)) (by kernel_rfl) (by kernel_rfl) (by kernel_rfl)
   (by rw[MakeChecks.laidMetH_plain _ _ _ (by kernel_rfl)]; exact laidMet_laidAll _ (by kernel_rfl) (by kernel_rfl))) ?_
 intro W b0 args ds gs before hval0 hW hc _ hL hsh _
 have hval:∀ (j:Nat) t v,Tryz.f3.params[j]?=some t→args[j]?=some v→Value.okWide Tryz.prog W .any b0 t v:=hval0
 have hW':=hW
 obtain⟨p,q,hA0,hV,rfl,_,_⟩:=hW
 have hA:DataW.TrodAll enc Tryz.prog W 0 (fun _=>true) true Tryz.f3.params.toList args.toList ds p:=hA0
 rw[Tryz.params3] at hA hval
 obtain⟨rfl,rfl,rfl⟩:=trodAll_none hA
 obtain⟨rfl,rfl⟩:=trodVars_none hV
 clear hA0 hval0
 simp only[List.append_nil] at hW'
 refine(walk W (Go.Ab.Hw.inv_of W hL hsh)).mono fun e W' ⟨he,hg⟩=>?_
 subst he
 exact⟨_,rfl,Db (pa:=[]) (pv:=[]) hW' (fun _ _ _=>(trodAll_cons_mk (shut_bool Tryz.underlying4 _) trodAll_mk0)) (fun sp _=>rfl) (fun _ _=>rfl) rfl
  hg (ok_one (by kernel_rfl) rfl (okWide_bool_mk Tryz.underlying4 _))⟩
theorem over:Rows.HttpwireKnownSaid :=
 OpenClaim.holds_of_wide 3 Tryz.f3 rfl rfl rfl rfl rfl rfl rfl ⟨rfl,rfl,rfl,rfl,rfl⟩ rfl rfl rfl rfl rfl (by kernel_rfl) Tryz.func3 (by kernel_rfl)
  (of_decide_eq_true (by kernel_rfl)) (by unfold Func.isWrapper; first | (rw[if_pos (by decide +kernel)]; kernel_rfl) | (rw[if_neg (by decide +kernel)]; exact⟨rfl,rfl⟩))
  (fun os started H enc _=>lifted os started H enc)
theorem proved:Rows.HttpwireKnownCardSaid :=
 Claim7.holds_tied_plain_at .later [] [.data,.data,.data,.data,.sentinel,.sentinel,.pinned] true (true,"362dc9c824334cfe19c170802755e1a7d2dd71729a4e635eeb53d76f24be5b19") true
  over (fun _ h=>by cases h) (by kernel_rfl) (fun _ h=>by cases h) httpwireKnown_row_tie rfl ⟨rfl,rfl⟩ (by kernel_rfl) rfl
  (fun f fn hf hfn=>by
   obtain rfl:f=3:=Option.some.inj ((show Tryz.prog.funcNamed "rolodex/rolodexlaw17.HttpwireKnown" = some 3 by kernel_rfl).symm.trans hf) |>.symm
   obtain rfl:fn=Tryz.f3:=(Option.some.inj (Tryz.func3.symm.trans hfn)).symm
   exact⟨by kernel_rfl,fun j t ht=>by
    rw[Tryz.params3] at ht
    simp at ht⟩)
  (by kernel_rfl)
end Go.Proofs.YtmjcgbaacndblaaGreatDoor.httpwireKnown
