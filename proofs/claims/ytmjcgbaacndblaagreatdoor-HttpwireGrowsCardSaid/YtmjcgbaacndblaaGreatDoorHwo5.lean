/- - 'HttpwireGrows' returns true, in whatever world it is called. By an AI agent. -/
import Derived.Test.YtmjcgbaacndblaaGreatDoorHwo4
import Derived.KernelRfl
import Derived.Test.YtmjcgbaacndblaaGreatDoorProg
import Derived.Lib.LaidTab
import Derived.Shelf.Vars
import Derived.Shelf.Strings.Split
import Derived.Shelf.Strings.SlTrimAscii
import Derived.Shelf.Strconv.Itoa3
import Derived.Shelf.Strconv.Atoi
import Derived.Lib.AtoiErrMem
import Derived.Shelf.Spec.TrailingZeros
import Derived.Shelf.Bytes.SlIndexWhole
import Derived.Test.YtmjcgbaacndblaaGreatDoorRows
import Derived.LaidMore
import Derived.Lay
import Derived.Test.YtmjcgbaacndblaaGreatDoorTie
import Derived.Test.YtmjcgbaacndblaaGreatDoorCards
import Derived.Carry
import Derived.WalkKit
import Derived.ProofKit
import Derived.OpenShut
import Derived.SevenTiedAt
import Derived.Stop.Joined
set_option maxRecDepth 100000
set_option linter.unusedVariables false
set_option linter.unusedSimpArgs false
namespace Go.Proofs.YtmjcgbaacndblaaGreatDoor
open Go Go.Ab
abbrev ak := @dE Tryz.prog
theorem Qz:wS Tryz.prog:=⟨Mi (by kernel_rfl),by kernel_rfl⟩
theorem aZ {f:FuncId} {fn:Func} {args:List AV} {M:RM} {Q:ah} {B:Prop} (h:B) (hfn:Tryz.prog.funcs[f]?=some fn:=by kernel_rfl) (e:B=CO Tryz.prog fn args M Q:=by kernel_rfl) : ak f args M Q:=KL Qz hfn (e▸h)
variable {a0 a1 a2 a3 a4 a5 a6 a7:AV} {M:RM} {Q:ah}
theorem oG (h:Go.Ab.Hw.lZ (ak 10) (ak 11) 26 5 (ak 17) (ak 16) a0 a1 M Q) : ak 7 [a0,a1] M Q:=aZ (fn:=Tryz.f7) h
theorem vX (h:Go.Ab.Hw.vP 56 26 (ak 12) 5 (ak 11) (ak 22) (ak 13) (ak 14) 34 (ak 23) 3 (ak 19)  M Q) : ak 10 [] M Q:=aZ (fn:=Tryz.f10) h
theorem nS (h:Go.Ab.Hw.iI 26 26 (ak 25) (ak 30) a0 M Q) : ak 11 [a0] M Q:=aZ (fn:=Tryz.f11) h
theorem mZ (h:Go.Ab.Hw.ic 26 (ak 31) (ak 33) (ak 32) a0 M Q) : ak 12 [a0] M Q:=aZ (fn:=Tryz.f12) h
theorem mO (h:Go.Ab.Hw.gU 34 (ak 34) (ak 33) (ak 32) a0 M Q) : ak 13 [a0] M Q:=aZ (fn:=Tryz.f13) h
theorem mY (h:Go.Ab.Hw.gX 34 35 (ak 25) (ak 30) a0 M Q) : ak 14 [a0] M Q:=aZ (fn:=Tryz.f14) h
theorem xH (h:Go.Ab.Hw.qd 39 a0 a1 M Q) : ak 16 [a0,a1] M Q:=aZ (fn:=Tryz.f16) h
theorem tC (h:Go.Ab.Hw.mq 26 39 (ak 46) a0 M Q) : ak 17 [a0] M Q:=aZ (fn:=Tryz.f17) h
theorem ql (h:Go.Ab.Hw.kw 26 (ak 31) (ak 47) 3 5 (ak 49) 24 (ak 48) (ak 32) a0 a1 M Q) : ak 19 [a0,a1] M Q:=aZ (fn:=Tryz.f19) h
theorem nG (h:Go.Ab.Hw.iQ 26 (ak 55) a0 a1 M Q) : ak 22 [a0,a1] M Q:=aZ (fn:=Tryz.f22) h
theorem ni (h:Go.Ab.Hw.gZ 34 (ak 55) a0 a1 M Q) : ak 23 [a0,a1] M Q:=aZ (fn:=Tryz.f23) h
theorem tH (h:Go.Ab.Hw.mg (ak 56) (ak) (ak 57) 56 a0 a1 M Q) : ak 25 [a0,a1] M Q:=aZ (fn:=Tryz.f25) h
theorem mH (h:Go.Ab.Hw.gN (ak 27) (ak 28) (ak 29) a0 a1 M Q) : ak 26 [a0,a1] M Q:=aZ (fn:=Tryz.f26) h
theorem oq (h:Go.Ab.Hw.iW (ak 59) (ak 37) 60 a0 M Q) : ak 28 [a0] M Q:=aZ (fn:=Tryz.f28) h
theorem pq (h:Go.Ab.Hw.jG (ak 61) (ak 37) 62 a0 M Q) : ak 29 [a0] M Q:=aZ (fn:=Tryz.f29) h
theorem tV (h:Go.Ab.Hw.mU (ak 63) (ak 64) (ak 65) (ak 59) (ak 37) 38 (ak 40) (ak 66) a0 a1 a2 M Q) : ak 30 [a0,a1,a2] M Q:=aZ (fn:=Tryz.f30) h
theorem nV (h:Go.Ab.Hw.iH 26 (ak 28) (ak 29) a0 M Q) : ak 31 [a0] M Q:=aZ (fn:=Tryz.f31) h
theorem qh (h:Go.Ab.Hw.jQ 56 (ak 67) (ak 68) (ak 64) 5 a0 a1 a2 a3 a4 M Q) : ak 32 [a0,a1,a2,a3,a4] M Q:=aZ (fn:=Tryz.f32) h
theorem qz (h:Go.Ab.Hw.jX 56 (ak 34) a0 M Q) : ak 33 [a0] M Q:=aZ (fn:=Tryz.f33) h
theorem l8 (h:Go.Ab.Hw.gG (ak 36) (ak 37) 38 39 (ak 40) a0 a1 M Q) : ak 35 [a0,a1] M Q:=aZ (fn:=Tryz.f35) h
theorem pg (h:Go.Ab.Vl.jI (ak 70) a0 a1 M Q) : ak 36 [a0,a1] M Q:=aZ (fn:=Tryz.f36) h
theorem dw (h:Go.Ab.Hw.nR 5 (ak) a0 a1 M Q) : ak 37 [a0,a1] M Q:=aZ (fn:=Tryz.f37) h
theorem tu (h:Go.Ab.Hw.lQ a0 M Q) : ak 38 [a0] M Q:=aZ (fn:=Tryz.f38) h
theorem kX (h:Go.Ab.Hw.fI a0 M Q) : ak 39 [a0] M Q:=aZ (fn:=Tryz.f39) h
theorem tZ (h:Go.Ab.Hw.mQ 83 a0 M Q) : ak 46 [a0] M Q:=aZ (fn:=Tryz.f46) h
theorem yN (h:Go.Ab.Hw.sK 3 a0 M Q) : ak 47 [a0] M Q:=aZ (fn:=Tryz.f47) h
theorem vW (h:Go.Ab.Hw.oN 9 (ak 75) 5 a0 M Q) : ak 48 [a0] M Q:=aZ (fn:=Tryz.f48) h
theorem pM (h:Go.Ab.Hw.ny (ak 76) a0 a1 M Q) : ak 49 [a0,a1] M Q:=aZ (fn:=Tryz.f49) h
theorem sI (h:Go.Ab.Hw.lM (ak 63) a0 a1 M Q) : ak 55 [a0,a1] M Q:=aZ (fn:=Tryz.f55) h
theorem uh (h:Go.Ab.Hw.mW 5 (ak 78) a0 a1 M Q) : ak 56 [a0,a1] M Q:=aZ (fn:=Tryz.f56) h
theorem rq (h:Go.Ab.Hw.kR 56 (ak 79) (ak 80) (ak 67) (ak 68) a0 M Q) : ak 57 [a0] M Q:=aZ (fn:=Tryz.f57) h
theorem ru (h:Go.Ab.Hw.kQ a0 a1 a2 M Q) : ak 59 [a0,a1,a2] M Q:=aZ (fn:=Tryz.f59) h
theorem su (h:Go.Ab.Hw.lL a0 M Q) : ak 60 [a0] M Q:=aZ (fn:=Tryz.f60) h
theorem pz (h:Go.Ab.Vl.nk (ak 84) a0 a1 M Q) : ak 61 [a0,a1] M Q:=aZ (fn:=Tryz.f61) h
theorem qG (h:Go.Ab.Hw.jR a0 M Q) : ak 62 [a0] M Q:=aZ (fn:=Tryz.f62) h
theorem rY (h:Go.Ab.Hw.lI 56 (ak 64) 9 a0 a1 M Q) : ak 63 [a0,a1] M Q:=aZ (fn:=Tryz.f63) h
theorem sZ (h:Go.Ab.Hw.lF 5 a0 M Q) : ak 64 [a0] M Q:=aZ (fn:=Tryz.f64) h
theorem qy (h:Go.Ab.Hw.jY (ak 85) 5 a0 a1 M Q) : ak 65 [a0,a1] M Q:=aZ (fn:=Tryz.f65) h
theorem wL (h:Go.Ab.Dot.qP 5 a0 M Q) : ak 66 [a0] M Q:=aZ (fn:=Tryz.f66) h
theorem pV (h:Go.Ab.Hw.jJ (ak 59) (ak 64) (ak 37) 86 a0 M Q) : ak 67 [a0] M Q:=aZ (fn:=Tryz.f67) h
theorem oO (h:Go.Ab.Hw.jr (ak 80) (ak 37) 87 a0 M Q) : ak 68 [a0] M Q:=aZ (fn:=Tryz.f68) h
theorem jH (h:Go.Ab.Vl.dR (ak 84) a0 a1 M Q) : ak 70 [a0,a1] M Q:=aZ (fn:=Tryz.f70) h
theorem yK (h:Go.Ab.Hw.sM 9 5 a0 a1 M Q) : ak 75 [a0,a1] M Q:=aZ (fn:=Tryz.f75) h
theorem kW (h:Go.Ab.Hw.fC (ak 93) 125 (ak 94) (ak 95) (ak 96) a0 a1 M Q) : ak 76 [a0,a1] M Q:=aZ (fn:=Tryz.f76) h
theorem vY (h:Go.Ab.Vl.oK (ak 102) a0 a1 M Q) : ak 79 [a0,a1] M Q:=aZ (fn:=Tryz.f79) h
theorem uT (h:Go.Ab.Vl.tQ (ak 104) (ak 103) (ak 105) 135 (ak 107) (ak 106) (ak 109) (ak 108) a0 a1 M Q) : ak 80 [a0,a1] M Q:=aZ (fn:=Tryz.f80) h
theorem jE (h:Go.Ab.Vl.dX a0 a1 M Q) : ak 84 [a0,a1] M Q:=aZ (fn:=Tryz.f84) h
theorem tX (h:Go.Ab.Hw.mP 5 (ak 114) (ak 59) (ak 64) (ak 37) 115 (ak 116) a0 a1 M Q) : ak 85 [a0,a1] M Q:=aZ (fn:=Tryz.f85) h
theorem om (h:Go.Ab.Hw.iY (ak 38) a0 M Q) : ak 86 [a0] M Q:=aZ (fn:=Tryz.f86) h
theorem nU (h:Go.Ab.Hw.iJ a0 M Q) : ak 87 [a0] M Q:=aZ (fn:=Tryz.f87) h
theorem kJ (h:Go.Ab.Hw.eY 9 154 (ak 123) (ak 124) 5 a0 a1 a2 a3 a4 M Q) : ak 96 [a0,a1,a2,a3,a4] M Q:=aZ (fn:=Tryz.f96) h
theorem lv (h:Go.Ab.Vl.gp (ak 113) a0 a1 M Q) : ak 102 [a0,a1] M Q:=aZ (fn:=Tryz.f102) h
theorem kN (h:Go.Ab.Hw.bM (ak 131) 0 (Em Tryz.prog 132) (ak 100) (ak 133) a0 a1 M Q) : ak 113 [a0,a1] M Q:=aZ (fn:=Tryz.f113) h
theorem yL (h:Go.Ab.Hw.sG (ak 78) a0 a1 M Q) : ak 114 [a0,a1] M Q:=aZ (fn:=Tryz.f114) h
theorem rE (h:Go.Ab.Hw.kV (ak 38) a0 M Q) : ak 115 [a0] M Q:=aZ (fn:=Tryz.f115) h
theorem pK (h:Go.Ab.Hw.jD (ak 117) (ak 72) a0 a1 a2 M Q) : ak 116 [a0,a1,a2] M Q:=aZ (fn:=Tryz.f116) h
theorem kT (h:Go.Ab.Hw.fu 119 (ak 134) 5 (ak 135) a0 a1 a2 M Q) : ak 117 [a0,a1,a2] M Q:=aZ (fn:=Tryz.f117) h
theorem jN (h:Go.Ab.Hw.eH a0 M Q) : ak 123 [a0] M Q:=aZ (fn:=Tryz.f123) h
theorem jF (h:Go.Ab.Vl.gT (Em Tryz.prog 140) a0 a1 M Q) : ak 131 [a0,a1] M Q:=aZ (fn:=Tryz.f131) h
theorem mD (h:Go.Ab.Hw.gP a0 M Q) : ak 134 [a0] M Q:=aZ (fn:=Tryz.f134) h
end Go.Proofs.YtmjcgbaacndblaaGreatDoor
namespace Go.Proofs
open Go.RowKit Go.Shelf
def Tryz.lays185_ren:Go.Shelf.Ren:=⟨fun | 185=>78 | 187=>97 | 115=>98 | 253=>99 | 224=>100 | 254=>101 | 255=>125 | 291=>126 | n=>n,fun | 37=>24 | 3=>3 | 4=>4 | 0=>0 | 5=>5 | 46=>60 | 9=>9 | 146=>157 | 51=>153 | n=>n,fun | 1=>0 | n=>n⟩
theorem Tryz.lays185:Go.Proofs.Lays.n185 Tryz.prog Tryz.lays185_ren where
 mixed:=by kernel_rfl
 f115:=Tryz.func98.trans (congrArg some (by kernel_rfl))
 f185:=Tryz.func78.trans (congrArg some (by kernel_rfl))
 f187:=Tryz.func97.trans (congrArg some (by kernel_rfl))
 f224:=Tryz.func100.trans (congrArg some (by kernel_rfl))
 f253:=Tryz.func99.trans (congrArg some (by kernel_rfl))
 f254:=Tryz.func101.trans (congrArg some (by kernel_rfl))
 f255:=Tryz.func125.trans (congrArg some (by kernel_rfl))
 f291:=Tryz.func126.trans (congrArg some (by kernel_rfl))
 t0:=Tryz.underlying0
 a0:=Tryz.isAgg0
 z0:=Tryz.sizeOf0
 v0:=Tryz.zeroValue0
 t3:=Tryz.underlying3
 a3:=Tryz.isAgg3
 z3:=Tryz.sizeOf3
 v3:=Tryz.zeroValue3
 t4:=Tryz.underlying4
 a4:=Tryz.isAgg4
 z4:=Tryz.sizeOf4
 v4:=Tryz.zeroValue4
 t5:=Tryz.underlying5
 a5:=Tryz.isAgg5
 z5:=Tryz.sizeOf5
 v5:=Tryz.zeroValue5
 t9:=Tryz.underlying9
 a9:=Tryz.isAgg9
 z9:=Tryz.sizeOf9
 v9:=Tryz.zeroValue9
 t37:=Tryz.underlying24
 a37:=Tryz.isAgg24
 z37:=Tryz.sizeOf24
 v37:=Tryz.zeroValue24
 t46:=Tryz.underlying60
 a46:=Tryz.isAgg60
 z46:=Tryz.sizeOf60
 v46:=Tryz.zeroValue60
 t51:=Tryz.underlying153
 a51:=Tryz.isAgg153
 z51:=Tryz.sizeOf153
 v51:=Tryz.zeroValue153
 t146:=Tryz.underlying157
 a146:=Tryz.isAgg157
 z146:=Tryz.sizeOf157
 v146:=Tryz.zeroValue157
 g1:=by kernel_rfl
def Tryz.lays146_ren:Go.Shelf.Ren:=⟨fun | 146=>27 | 221=>58 | 268=>81 | 138=>82 | 143=>83 | 195=>110 | 197=>111 | 218=>112 | 219=>113 | 260=>130 | 217=>131 | 225=>132 | 224=>100 | 267=>133 | 266=>140 | 314=>141 | n=>n,fun | 9=>9 | 31=>64 | 3=>3 | 4=>4 | 0=>0 | 105=>141 | 21=>21 | 5=>5 | 46=>60 | 119=>167 | 139=>170 | 138=>169 | 146=>157 | 51=>153 | n=>n,fun | 1=>0 | 3=>4 | 4=>5 | n=>n⟩
theorem Tryz.lays146:Go.Proofs.Lays.n146 Tryz.prog Tryz.lays146_ren where
 mixed:=by kernel_rfl
 f138:=Tryz.func82.trans (congrArg some (by kernel_rfl))
 f143:=Tryz.func83.trans (congrArg some (by kernel_rfl))
 f146:=Tryz.func27.trans (congrArg some (by kernel_rfl))
 f195:=Tryz.func110.trans (congrArg some (by kernel_rfl))
 f197:=Tryz.func111.trans (congrArg some (by kernel_rfl))
 f217:=Tryz.func131.trans (congrArg some (by kernel_rfl))
 f218:=Tryz.func112.trans (congrArg some (by kernel_rfl))
 f219:=Tryz.func113.trans (congrArg some (by kernel_rfl))
 f221:=Tryz.func58.trans (congrArg some (by kernel_rfl))
 f224:=Tryz.func100.trans (congrArg some (by kernel_rfl))
 f225:=Tryz.func132.trans (congrArg some (by kernel_rfl))
 f260:=Tryz.func130.trans (congrArg some (by kernel_rfl))
 f266:=Tryz.func140.trans (congrArg some (by kernel_rfl))
 f267:=Tryz.func133.trans (congrArg some (by kernel_rfl))
 f268:=Tryz.func81.trans (congrArg some (by kernel_rfl))
 f314:=Tryz.func141.trans (congrArg some (by kernel_rfl))
 t0:=Tryz.underlying0
 a0:=Tryz.isAgg0
 z0:=Tryz.sizeOf0
 v0:=Tryz.zeroValue0
 t3:=Tryz.underlying3
 a3:=Tryz.isAgg3
 z3:=Tryz.sizeOf3
 v3:=Tryz.zeroValue3
 t4:=Tryz.underlying4
 a4:=Tryz.isAgg4
 z4:=Tryz.sizeOf4
 v4:=Tryz.zeroValue4
 t5:=Tryz.underlying5
 a5:=Tryz.isAgg5
 z5:=Tryz.sizeOf5
 v5:=Tryz.zeroValue5
 t9:=Tryz.underlying9
 a9:=Tryz.isAgg9
 z9:=Tryz.sizeOf9
 v9:=Tryz.zeroValue9
 t21:=Tryz.underlying21
 a21:=Tryz.isAgg21
 z21:=Tryz.sizeOf21
 v21:=Tryz.zeroValue21
 t31:=Tryz.underlying64
 a31:=Tryz.isAgg64
 z31:=Tryz.sizeOf64
 v31:=Tryz.zeroValue64
 t46:=Tryz.underlying60
 a46:=Tryz.isAgg60
 z46:=Tryz.sizeOf60
 v46:=Tryz.zeroValue60
 t51:=Tryz.underlying153
 a51:=Tryz.isAgg153
 z51:=Tryz.sizeOf153
 v51:=Tryz.zeroValue153
 t105:=Tryz.underlying141
 a105:=Tryz.isAgg141
 z105:=Tryz.sizeOf141
 v105:=Tryz.zeroValue141
 t119:=Tryz.underlying167
 a119:=Tryz.isAgg167
 z119:=Tryz.sizeOf167
 t138:=Tryz.underlying169
 a138:=Tryz.isAgg169
 z138:=Tryz.sizeOf169
 v138:=Tryz.zeroValue169
 t139:=Tryz.underlying170
 a139:=Tryz.isAgg170
 z139:=Tryz.sizeOf170
 v139:=Tryz.zeroValue170
 t146:=Tryz.underlying157
 a146:=Tryz.isAgg157
 z146:=Tryz.sizeOf157
 v146:=Tryz.zeroValue157
 g1:=by kernel_rfl
 g3:=by kernel_rfl
 g4:=by kernel_rfl
def Tryz.lays160_ren:Go.Shelf.Ren:=⟨fun | 160=>80 | 232=>104 | 231=>103 | 227=>105 | 234=>107 | 233=>106 | 236=>109 | 235=>108 | 228=>127 | 271=>129 | 151=>128 | 197=>111 | 120=>139 | 152=>138 | 260=>130 | 137=>142 | 119=>143 | 224=>100 | 225=>132 | 217=>131 | 266=>140 | n=>n,fun | 9=>9 | 4=>4 | 3=>3 | 5=>5 | 117=>136 | 116=>135 | 0=>0 | 124=>139 | 21=>21 | 105=>141 | 46=>60 | 119=>167 | 139=>170 | 138=>169 | n=>n,fun | 3=>4 | 4=>5 | n=>n⟩
theorem Tryz.lays160:Go.Proofs.Lays.n160 Tryz.prog Tryz.lays160_ren where
 mixed:=by kernel_rfl
 f119:=Tryz.func143.trans (congrArg some (by kernel_rfl))
 f120:=Tryz.func139.trans (congrArg some (by kernel_rfl))
 f137:=Tryz.func142.trans (congrArg some (by kernel_rfl))
 f151:=Tryz.func128.trans (congrArg some (by kernel_rfl))
 f152:=Tryz.func138.trans (congrArg some (by kernel_rfl))
 f160:=Tryz.func80.trans (congrArg some (by kernel_rfl))
 f197:=Tryz.func111.trans (congrArg some (by kernel_rfl))
 f217:=Tryz.func131.trans (congrArg some (by kernel_rfl))
 f224:=Tryz.func100.trans (congrArg some (by kernel_rfl))
 f225:=Tryz.func132.trans (congrArg some (by kernel_rfl))
 f227:=Tryz.func105.trans (congrArg some (by kernel_rfl))
 f228:=Tryz.func127.trans (congrArg some (by kernel_rfl))
 f231:=Tryz.func103.trans (congrArg some (by kernel_rfl))
 f232:=Tryz.func104.trans (congrArg some (by kernel_rfl))
 f233:=Tryz.func106.trans (congrArg some (by kernel_rfl))
 f234:=Tryz.func107.trans (congrArg some (by kernel_rfl))
 f235:=Tryz.func108.trans (congrArg some (by kernel_rfl))
 f236:=Tryz.func109.trans (congrArg some (by kernel_rfl))
 f260:=Tryz.func130.trans (congrArg some (by kernel_rfl))
 f266:=Tryz.func140.trans (congrArg some (by kernel_rfl))
 f271:=Tryz.func129.trans (congrArg some (by kernel_rfl))
 t0:=Tryz.underlying0
 a0:=Tryz.isAgg0
 z0:=Tryz.sizeOf0
 v0:=Tryz.zeroValue0
 t3:=Tryz.underlying3
 a3:=Tryz.isAgg3
 z3:=Tryz.sizeOf3
 v3:=Tryz.zeroValue3
 t4:=Tryz.underlying4
 a4:=Tryz.isAgg4
 z4:=Tryz.sizeOf4
 v4:=Tryz.zeroValue4
 t5:=Tryz.underlying5
 a5:=Tryz.isAgg5
 z5:=Tryz.sizeOf5
 v5:=Tryz.zeroValue5
 t9:=Tryz.underlying9
 a9:=Tryz.isAgg9
 z9:=Tryz.sizeOf9
 v9:=Tryz.zeroValue9
 t21:=Tryz.underlying21
 a21:=Tryz.isAgg21
 z21:=Tryz.sizeOf21
 v21:=Tryz.zeroValue21
 t46:=Tryz.underlying60
 a46:=Tryz.isAgg60
 z46:=Tryz.sizeOf60
 v46:=Tryz.zeroValue60
 t105:=Tryz.underlying141
 a105:=Tryz.isAgg141
 z105:=Tryz.sizeOf141
 v105:=Tryz.zeroValue141
 t116:=Tryz.underlying135
 a116:=Tryz.isAgg135
 z116:=Tryz.sizeOf135
 t117:=Tryz.underlying136
 a117:=Tryz.isAgg136
 z117:=Tryz.sizeOf136
 v117:=Tryz.zeroValue136
 t119:=Tryz.underlying167
 a119:=Tryz.isAgg167
 z119:=Tryz.sizeOf167
 t124:=Tryz.underlying139
 a124:=Tryz.isAgg139
 z124:=Tryz.sizeOf139
 v124:=Tryz.zeroValue139
 t138:=Tryz.underlying169
 a138:=Tryz.isAgg169
 z138:=Tryz.sizeOf169
 v138:=Tryz.zeroValue169
 t139:=Tryz.underlying170
 a139:=Tryz.isAgg170
 z139:=Tryz.sizeOf170
 v139:=Tryz.zeroValue170
 g3:=by kernel_rfl
 g4:=by kernel_rfl
def Tryz.lays172_ren:Go.Shelf.Ren:=⟨fun | 172=>40 | 244=>71 | 245=>72 | 247=>88 | 279=>89 | 280=>90 | 281=>91 | 282=>92 | 287=>117 | 316=>118 | 171=>34 | 205=>119 | 321=>134 | 322=>135 | 243=>69 | 246=>76 | 283=>93 | 284=>94 | 285=>95 | 286=>96 | 129=>121 | 317=>120 | 318=>122 | 319=>123 | 320=>124 | 337=>136 | 338=>137 | n=>n,fun | 9=>9 | 3=>3 | 75=>77 | 76=>78 | 4=>4 | 5=>5 | 167=>119 | 37=>24 | 0=>0 | 85=>120 | 2=>2 | 168=>122 | 53=>126 | 175=>146 | 46=>60 | 210=>149 | 127=>161 | 145=>164 | 143=>162 | 21=>21 | 171=>125 | 173=>129 | 212=>152 | 51=>153 | 20=>20 | 213=>154 | 232=>172 | 233=>173 | 80=>175 | n=>n,fun | 15=>1 | 16=>2 | 17=>3 | 18=>6 | 19=>7 | n=>n⟩
theorem Tryz.lays172:Go.Proofs.Lays.n172 Tryz.prog Tryz.lays172_ren where
 mixed:=by kernel_rfl
 f129:=Tryz.func121.trans (congrArg some (by kernel_rfl))
 f171:=Tryz.func34.trans (congrArg some (by kernel_rfl))
 f172:=Tryz.func40.trans (congrArg some (by kernel_rfl))
 f205:=Tryz.func119.trans (congrArg some (by kernel_rfl))
 f243:=Tryz.func69.trans (congrArg some (by kernel_rfl))
 f244:=Tryz.func71.trans (congrArg some (by kernel_rfl))
 f245:=Tryz.func72.trans (congrArg some (by kernel_rfl))
 f246:=Tryz.func76.trans (congrArg some (by kernel_rfl))
 f247:=Tryz.func88.trans (congrArg some (by kernel_rfl))
 f279:=Tryz.func89.trans (congrArg some (by kernel_rfl))
 f280:=Tryz.func90.trans (congrArg some (by kernel_rfl))
 f281:=Tryz.func91.trans (congrArg some (by kernel_rfl))
 f282:=Tryz.func92.trans (congrArg some (by kernel_rfl))
 f283:=Tryz.func93.trans (congrArg some (by kernel_rfl))
 f284:=Tryz.func94.trans (congrArg some (by kernel_rfl))
 f285:=Tryz.func95.trans (congrArg some (by kernel_rfl))
 f286:=Tryz.func96.trans (congrArg some (by kernel_rfl))
 f287:=Tryz.func117.trans (congrArg some (by kernel_rfl))
 f316:=Tryz.func118.trans (congrArg some (by kernel_rfl))
 f317:=Tryz.func120.trans (congrArg some (by kernel_rfl))
 f318:=Tryz.func122.trans (congrArg some (by kernel_rfl))
 f319:=Tryz.func123.trans (congrArg some (by kernel_rfl))
 f320:=Tryz.func124.trans (congrArg some (by kernel_rfl))
 f321:=Tryz.func134.trans (congrArg some (by kernel_rfl))
 f322:=Tryz.func135.trans (congrArg some (by kernel_rfl))
 f337:=Tryz.func136.trans (congrArg some (by kernel_rfl))
 f338:=Tryz.func137.trans (congrArg some (by kernel_rfl))
 t0:=Tryz.underlying0
 a0:=Tryz.isAgg0
 z0:=Tryz.sizeOf0
 v0:=Tryz.zeroValue0
 t2:=Tryz.underlying2
 a2:=Tryz.isAgg2
 z2:=Tryz.sizeOf2
 v2:=Tryz.zeroValue2
 t3:=Tryz.underlying3
 a3:=Tryz.isAgg3
 z3:=Tryz.sizeOf3
 v3:=Tryz.zeroValue3
 t4:=Tryz.underlying4
 a4:=Tryz.isAgg4
 z4:=Tryz.sizeOf4
 v4:=Tryz.zeroValue4
 t5:=Tryz.underlying5
 a5:=Tryz.isAgg5
 z5:=Tryz.sizeOf5
 v5:=Tryz.zeroValue5
 t9:=Tryz.underlying9
 a9:=Tryz.isAgg9
 z9:=Tryz.sizeOf9
 v9:=Tryz.zeroValue9
 t20:=Tryz.underlying20
 a20:=Tryz.isAgg20
 z20:=Tryz.sizeOf20
 v20:=Tryz.zeroValue20
 t21:=Tryz.underlying21
 a21:=Tryz.isAgg21
 z21:=Tryz.sizeOf21
 v21:=Tryz.zeroValue21
 t37:=Tryz.underlying24
 a37:=Tryz.isAgg24
 z37:=Tryz.sizeOf24
 v37:=Tryz.zeroValue24
 t46:=Tryz.underlying60
 a46:=Tryz.isAgg60
 z46:=Tryz.sizeOf60
 v46:=Tryz.zeroValue60
 t51:=Tryz.underlying153
 a51:=Tryz.isAgg153
 z51:=Tryz.sizeOf153
 v51:=Tryz.zeroValue153
 t53:=Tryz.underlying126
 a53:=Tryz.isAgg126
 z53:=Tryz.sizeOf126
 v53:=Tryz.zeroValue126
 t75:=Tryz.underlying77
 a75:=Tryz.isAgg77
 z75:=Tryz.sizeOf77
 v75:=Tryz.zeroValue77
 t76:=Tryz.underlying78
 a76:=Tryz.isAgg78
 z76:=Tryz.sizeOf78
 v76:=Tryz.zeroValue78
 t85:=Tryz.underlying120
 a85:=Tryz.isAgg120
 z85:=Tryz.sizeOf120
 v85:=Tryz.zeroValue120
 t127:=Tryz.underlying161
 a127:=Tryz.isAgg161
 z127:=Tryz.sizeOf161
 v127:=Tryz.zeroValue161
 t143:=Tryz.underlying162
 a143:=Tryz.isAgg162
 z143:=Tryz.sizeOf162
 v143:=Tryz.zeroValue162
 t145:=Tryz.underlying164
 a145:=Tryz.isAgg164
 z145:=Tryz.sizeOf164
 v145:=Tryz.zeroValue164
 t167:=Tryz.underlying119
 a167:=Tryz.isAgg119
 z167:=Tryz.sizeOf119
 v167:=Tryz.zeroValue119
 t168:=Tryz.underlying122
 a168:=Tryz.isAgg122
 z168:=Tryz.sizeOf122
 v168:=Tryz.zeroValue122
 t171:=Tryz.underlying125
 a171:=Tryz.isAgg125
 z171:=Tryz.sizeOf125
 v171:=Tryz.zeroValue125
 t173:=Tryz.underlying129
 a173:=Tryz.isAgg129
 z173:=Tryz.sizeOf129
 v173:=Tryz.zeroValue129
 t175:=Tryz.underlying146
 a175:=Tryz.isAgg146
 z175:=Tryz.sizeOf146
 v175:=Tryz.zeroValue146
 t210:=Tryz.underlying149
 a210:=Tryz.isAgg149
 z210:=Tryz.sizeOf149
 v210:=Tryz.zeroValue149
 t212:=Tryz.underlying152
 a212:=Tryz.isAgg152
 z212:=Tryz.sizeOf152
 v212:=Tryz.zeroValue152
 t213:=Tryz.underlying154
 a213:=Tryz.isAgg154
 z213:=Tryz.sizeOf154
 t232:=Tryz.underlying172
 a232:=Tryz.isAgg172
 z232:=Tryz.sizeOf172
 v232:=Tryz.zeroValue172
 t233:=Tryz.underlying173
 a233:=Tryz.isAgg173
 z233:=Tryz.sizeOf173
 v233:=Tryz.zeroValue173
 g15:=by kernel_rfl
 g16:=by kernel_rfl
 g17:=by kernel_rfl
 g18:=by kernel_rfl
 g19:=by kernel_rfl
def Tryz.laysM171_ren:Go.Shelf.Ren:=⟨fun | 171=>34 | 243=>69 | 246=>76 | 283=>93 | 284=>94 | 285=>95 | 286=>96 | 129=>121 | 317=>120 | 318=>122 | 319=>123 | 320=>124 | 337=>136 | 338=>137 | n=>n,fun | 3=>3 | 9=>9 | 2=>2 | 4=>4 | 171=>125 | 0=>0 | 53=>126 | 37=>24 | 5=>5 | 173=>129 | 212=>152 | 51=>153 | 20=>20 | 213=>154 | 46=>60 | 232=>172 | 233=>173 | n=>n,fun | 17=>3 | 18=>6 | 19=>7 | n=>n⟩
theorem Tryz.laysM171:Go.Proofs.LaysM.n171 Tryz.prog Tryz.laysM171_ren where
 mixed:=by kernel_rfl
 f129:=Tryz.func121.trans (congrArg some (by kernel_rfl))
 f171:=Tryz.func34.trans (congrArg some (by kernel_rfl))
 f243:=Tryz.func69.trans (congrArg some (by kernel_rfl))
 f246:=Tryz.func76.trans (congrArg some (by kernel_rfl))
 f283:=Tryz.func93.trans (congrArg some (by kernel_rfl))
 f284:=Tryz.func94.trans (congrArg some (by kernel_rfl))
 f285:=Tryz.func95.trans (congrArg some (by kernel_rfl))
 f286:=Tryz.func96.trans (congrArg some (by kernel_rfl))
 f317:=Tryz.func120.trans (congrArg some (by kernel_rfl))
 f318:=Tryz.func122.trans (congrArg some (by kernel_rfl))
 f319:=Tryz.func123.trans (congrArg some (by kernel_rfl))
 f320:=Tryz.func124.trans (congrArg some (by kernel_rfl))
 f337:=Tryz.func136.trans (congrArg some (by kernel_rfl))
 f338:=Tryz.func137.trans (congrArg some (by kernel_rfl))
 t0:=Tryz.underlying0
 a0:=Tryz.isAgg0
 z0:=Tryz.sizeOf0
 v0:=Tryz.zeroValue0
 t2:=Tryz.underlying2
 a2:=Tryz.isAgg2
 z2:=Tryz.sizeOf2
 v2:=Tryz.zeroValue2
 t3:=Tryz.underlying3
 a3:=Tryz.isAgg3
 z3:=Tryz.sizeOf3
 v3:=Tryz.zeroValue3
 t4:=Tryz.underlying4
 a4:=Tryz.isAgg4
 z4:=Tryz.sizeOf4
 v4:=Tryz.zeroValue4
 t5:=Tryz.underlying5
 a5:=Tryz.isAgg5
 z5:=Tryz.sizeOf5
 v5:=Tryz.zeroValue5
 t9:=Tryz.underlying9
 a9:=Tryz.isAgg9
 z9:=Tryz.sizeOf9
 v9:=Tryz.zeroValue9
 t20:=Tryz.underlying20
 a20:=Tryz.isAgg20
 z20:=Tryz.sizeOf20
 v20:=Tryz.zeroValue20
 t37:=Tryz.underlying24
 a37:=Tryz.isAgg24
 z37:=Tryz.sizeOf24
 v37:=Tryz.zeroValue24
 t46:=Tryz.underlying60
 a46:=Tryz.isAgg60
 z46:=Tryz.sizeOf60
 v46:=Tryz.zeroValue60
 t51:=Tryz.underlying153
 a51:=Tryz.isAgg153
 z51:=Tryz.sizeOf153
 v51:=Tryz.zeroValue153
 t53:=Tryz.underlying126
 a53:=Tryz.isAgg126
 z53:=Tryz.sizeOf126
 v53:=Tryz.zeroValue126
 t171:=Tryz.underlying125
 a171:=Tryz.isAgg125
 z171:=Tryz.sizeOf125
 v171:=Tryz.zeroValue125
 t173:=Tryz.underlying129
 a173:=Tryz.isAgg129
 z173:=Tryz.sizeOf129
 v173:=Tryz.zeroValue129
 t212:=Tryz.underlying152
 a212:=Tryz.isAgg152
 z212:=Tryz.sizeOf152
 v212:=Tryz.zeroValue152
 t213:=Tryz.underlying154
 a213:=Tryz.isAgg154
 z213:=Tryz.sizeOf154
 t232:=Tryz.underlying172
 a232:=Tryz.isAgg172
 z232:=Tryz.sizeOf172
 v232:=Tryz.zeroValue172
 t233:=Tryz.underlying173
 a233:=Tryz.isAgg173
 z233:=Tryz.sizeOf173
 v233:=Tryz.zeroValue173
 g17:=by kernel_rfl
 g18:=by kernel_rfl
 g19:=by kernel_rfl
 i0:=by kernel_rfl
 i2:=by kernel_rfl
 i3:=by kernel_rfl
 i4:=by kernel_rfl
 i5:=by kernel_rfl
 i9:=by kernel_rfl
 i20:=by kernel_rfl
 i37:=by kernel_rfl
 i46:=by kernel_rfl
 i51:=by kernel_rfl
 i53:=by kernel_rfl
 i171:=by kernel_rfl
 i173:=by kernel_rfl
 i212:=by kernel_rfl
 i232:=by kernel_rfl
 i233:=by kernel_rfl
 m17:=by kernel_rfl
 m18:=by kernel_rfl
 m19:=by kernel_rfl
def Tryz.lays727_ren:Go.Shelf.Ren:=⟨fun | 27=>124 | 28=>136 | 29=>137 | n=>n,fun | 25=>60 | 3=>3 | 27=>153 | 22=>126 | 4=>4 | 53=>172 | 0=>0 | 5=>5 | 54=>173 | n=>n,fun | 0=>6 | 1=>7 | n=>n⟩
theorem Tryz.lays727:Go.Proofs.Lays7.n27 Tryz.prog Tryz.lays727_ren where
 mixed:=by kernel_rfl
 f27:=Tryz.func124.trans (congrArg some (by kernel_rfl))
 f28:=Tryz.func136.trans (congrArg some (by kernel_rfl))
 f29:=Tryz.func137.trans (congrArg some (by kernel_rfl))
 t0:=Tryz.underlying0
 a0:=Tryz.isAgg0
 z0:=Tryz.sizeOf0
 v0:=Tryz.zeroValue0
 i0:=by kernel_rfl
 t3:=Tryz.underlying3
 a3:=Tryz.isAgg3
 z3:=Tryz.sizeOf3
 v3:=Tryz.zeroValue3
 i3:=by kernel_rfl
 t4:=Tryz.underlying4
 a4:=Tryz.isAgg4
 z4:=Tryz.sizeOf4
 v4:=Tryz.zeroValue4
 i4:=by kernel_rfl
 t5:=Tryz.underlying5
 a5:=Tryz.isAgg5
 z5:=Tryz.sizeOf5
 v5:=Tryz.zeroValue5
 i5:=by kernel_rfl
 t22:=Tryz.underlying126
 a22:=Tryz.isAgg126
 z22:=Tryz.sizeOf126
 v22:=Tryz.zeroValue126
 i22:=by kernel_rfl
 t25:=Tryz.underlying60
 a25:=Tryz.isAgg60
 z25:=Tryz.sizeOf60
 v25:=Tryz.zeroValue60
 i25:=by kernel_rfl
 t27:=Tryz.underlying153
 a27:=Tryz.isAgg153
 z27:=Tryz.sizeOf153
 v27:=Tryz.zeroValue153
 i27:=by kernel_rfl
 t53:=Tryz.underlying172
 a53:=Tryz.isAgg172
 z53:=Tryz.sizeOf172
 v53:=Tryz.zeroValue172
 i53:=by kernel_rfl
 t54:=Tryz.underlying173
 a54:=Tryz.isAgg173
 z54:=Tryz.sizeOf173
 g0:=by kernel_rfl
 g1:=by kernel_rfl
end Go.Proofs
namespace Go.Ab.Hw
open Go Go.Ab Go.Ab.Sm Go.RowKit Go.Proofs
open Go.Proofs.YtmjcgbaacndblaaGreatDoor
open Go.Ab.Vl (gm)
abbrev IL:List Int:=Lib.deBruijn64tab.map fun(n:Nat)=>(n:Int)
structure Iv (w:World) : Prop where
 mx:∃ m,w.cell? ⟨0,0,none⟩=some (.int .i64 m)
 p10:Lib.TabIs Tryz.prog w "internal/strconv.uint64pow10" .u64 Lib.pow10Tab
 db:Lib.TabIs Tryz.prog w "math/bits.deBruijn64tab" .u8 IL
theorem KJ (w:World) (q:Nat) : Below w.heap.size w (w.drewN q):=⟨rfl,rfl,rfl,Nat.le_refl _,fun _ _=>rfl⟩
theorem K5 (w:World) (q:Nat) (os:Array Obj) : Below w.heap.size w (Go.Sort.grow (w.drewN q) os) :=
 ⟨rfl,rfl,rfl,by first | (simp[Go.Sort.grow]; done) | (simp[Go.Sort.grow]; omega),fun i hi=>by
  show((w.drewN q).heap++os)[i]?=_
  rw[Array.getElem?_append_left (by show i<w.heap.size; omega)]
  rfl⟩
theorem O6 {w:World} {b o:Nat} {v:Value} (h:w.cell? ⟨b,o,none⟩=some v) : b<w.heap.size:=by
 unfold World.cell? at h
 cases hb:w.heap[b]? with
 | none=>simp[hb] at h
 | some x=>exact(Array.getElem?_eq_some_iff.1 hb).1
theorem LA {w w' : World} {b:Nat} (h:w'.heap[b]?=w.heap[b]?) (o:Nat) : w'.cell? ⟨b,o,none⟩=w.cell? ⟨b,o,none⟩:=by
 unfold World.cell?
 simp only[h]
theorem varLt {w:World} {n:String} {g:Nat} {vs:Array Value} (hg:Tryz.prog.globalNamed n=some g) (h:w.var? Tryz.prog n=some vs) : g<w.heap.size:=by
 unfold World.var? at h
 rw[hg] at h
 simp only[Option.bind_some] at h
 cases hb:w.heap[g]? with
 | none=>rw[hb] at h; cases h
 | some x=>exact(Array.getElem?_eq_some_iff.1 hb).1
theorem GI {w w' : World} {n:String} {g:Nat} (hg:Tryz.prog.globalNamed n=some g) (h:w'.heap[g]?=w.heap[g]?) : w'.var? Tryz.prog n=w.var? Tryz.prog n:=by
 unfold World.var?
 rw[hg]
 simp only[Option.bind_some,h]
theorem g3:Tryz.prog.globalNamed "internal/strconv.uint64pow10" = some 3:=by kernel_rfl
theorem g7:Tryz.prog.globalNamed "math/bits.deBruijn64tab" = some 7:=by kernel_rfl
def base (w:World) (hi:Iv w) : Base where
 n:=w.heap.size
 inv w':=Iv w'
 low u u' hlow hu:=by
  obtain⟨m0,hm0⟩:=hi.mx
  obtain⟨m,hm⟩:=hu.mx
  refine⟨⟨m,(LA (hlow 0 (O6 hm0)) 0).trans hm⟩, ?_, ?_⟩
  ·exact(GI g3 (hlow 3 (varLt g3 hi.p10))).trans hu.p10
  ·exact(GI g7 (hlow 7 (varLt g7 hi.db))).trans hu.db
theorem Iv.tab {w:World} (h:Iv w) : TabAt 7 Lib.deBruijn64tab w:=fun j hj=>by
 have:=h.db.cell g7 j (by simpa using hj)
 rw[this]
 congr 2
 simp only[IL,List.getD_eq_getElem?_getD,List.getElem?_map,List.getElem?_eq_getElem hj]
 rfl
section
variable {w0:World} {hi:Iv w0}
theorem Jc {M:RM} {ρ:Ren} {w:World} (hM:M.base=base w0 hi) (hw:bB Tryz.prog ρ M w) : Iv w:=by
 have:=bB.inv hw
 rw[hM] at this
 exact this
theorem Kw {M:RM} {s:List UInt8} {x:UInt8} : He Tryz.prog 140 [St s,By x] M (N .i64 (Lib.indexByte s x)):=by
 intro ρ w us hus hw
 cases hus with
 | cons _ u1 _ us r1 hus =>
 cases hus with
 | cons _ u2 _ us r2 hus =>
 cases hus
 obtain⟨rfl,_⟩:=aB r1
 obtain⟨rfl,_⟩:=aB r2
 refine⟨.int .i64 (Lib.indexByte s x), ?_,.sc _ rfl⟩
 refine uN (fn:=Tryz.f140) (s:=Extern.BytealgIndexByte.indexByte) (by kernel_rfl) (Qz.ng 140 Tryz.f140 (by kernel_rfl)) (by kernel_rfl) (by kernel_rfl) (by kernel_rfl) (fun w=>?_) w
 rw[Lib.run_indexByteString]
 congr 2
 simp
theorem Og:gm (ak 131):=by
 intro M s x Q hQ
 refine jF ?_
 unfold Go.Ab.Vl.gT
 exact .inr (.inr (.inr (.inl ⟨_,Kw,hQ⟩)))
theorem Rz {M:RM} {Q:ah} (hB:M.base=base w0 hi) (hQ:Q (N .i64 4) M) : ak 124 [N .u64 16] M Q:=by
 refine dE.qA (v:=N .i64 4) ⟨Tryz.f124,_,Tryz.func124,rfl⟩ (fun ρ w us hus hw=>?_) hQ
 cases hus with
 | cons _ u1 _ us r1 hus =>
 cases hus
 obtain⟨rfl,_⟩:=aB r1
 refine(Any7.bits_TrailingZeros Tryz.lays727 16 (by decide) w (fun _=>(Jc hB hw).tab)).mono fun e w' ⟨he,hb⟩=>⟨_,he,by rw[hb]; exact Below.refl _ _, ?_⟩
 exact .sc _ rfl
theorem KZ:En (base w0 hi) (ak 80):=by
 intro M s Q hB hl hQ
 cases s with
 | nil =>
   refine uT ?_
   unfold Go.Ab.Vl.tQ
   simp only[dU,di]
   rw[show(([] : List UInt8) == [])=true from rfl]
   simp only[dH,bW,bP]
   exact hQ M (ae.refl _ _)
 | cons x s =>
   have hasc:∀ (j:Nat) b,(⟨⟨[32,9]⟩⟩ : ByteArray).data.toList[j]?=some b→b.toNat<128:=fun j b h=>by
    have hm:b∈([32,9] : List UInt8):=List.mem_of_getElem? h
    simp at hm
    rcases hm with rfl | rfl <;> decide
   refine dE.qA (v:=St (trimB (x :: s))) ⟨Tryz.f80,_,Tryz.func80,rfl⟩ (fun ρ w us hus hw=>?_) (hQ M (ae.refl _ _))
   cases hus with
   | cons _ u1 _ us r1 hus =>
   cases hus with
   | cons _ u2 _ us r2 hus =>
   cases hus
   obtain⟨rfl,_⟩:=aB r1
   obtain⟨rfl,_⟩:=aB r2
   refine(Any.strings_Trim_set Tryz.lays160 Tryz.zeroValue135 (by kernel_rfl) ⟨⟨x :: s⟩⟩ ⟨⟨[32,9]⟩⟩ w (by decide) (by show 0<(x :: s).length; simp) (by show(x :: s).length≤_; omega) (by decide) hasc).mono fun e w' ⟨he,q,hb⟩=>⟨_,he, ?_,.sc _ rfl⟩
   rw[hb]
   have h1:=(Below.refl w.heap.size w).alloc (Nat.le_refl _) (.cells (Lib.setCells [32,9]) (Tryz.lays160_ren.t 116))
   have h2:=h1.alloc h1.size (.cells (Lib.setCells [32,9]) (Tryz.lays160_ren.t 116))
   exact⟨h2.os,h2.tape,h2.output,h2.size,h2.block⟩
theorem wH:∀ (s:Str) (acc:Nat),s.all dM=true→Lib.decFrom acc s=some (s.foldl (fun n x=>n * 10 + (x.toNat - 48)) acc)
 | [],acc,_=>rfl
 | x :: s,acc,h=>by
   simp only[List.all_cons,Bool.and_eq_true] at h
   have hx:=h.1
   unfold dM at hx
   simp only[Bool.and_eq_true,decide_eq_true_eq] at hx
   have hd:Lib.digitVal x=some (x.toNat - 48):=by unfold Lib.digitVal; rw[if_pos (by omega)]
   rw[Lib.decFrom,hd]
   exact wH s _ h.2
theorem KM:Jz (ak 40):=by
 intro M s Q h1 h9 hd hQ
 have ha:Lib.atoi s=some ((gB s:Nat) : Int):=by
  cases s with
  | nil=>simp at h1
  | cons x s =>
    have hx:dM x=true:=by simp only[List.all_cons,Bool.and_eq_true] at hd; exact hd.1
    unfold dM at hx
    simp only[Bool.and_eq_true,decide_eq_true_eq] at hx
    have e1:(x == 45)=false:=by
     cases h:x == 45
     ·rfl
     ·have:x=45:=by simpa using h
      subst this; simp at hx
    have e2:(x == 43)=false:=by
     cases h:x == 43
     ·rfl
     ·have:x=43:=by simpa using h
      subst this; simp at hx
    unfold Lib.atoi
    simp only[e1,e2,Bool.false_eq_true,if_false]
    unfold Lib.decNat
    simp only[List.isEmpty_cons,Bool.false_eq_true,if_false,wH _ _ hd,Option.map_some]
    rfl
 refine dE.qA (v:=.tup [N .i64 (gB s:Int),.sc .nilIface]) ⟨Tryz.f40,_,Tryz.func40,rfl⟩ (fun ρ w us hus hw=>?_) (hQ M (ae.refl _ _))
 cases hus with
 | cons _ u1 _ us r1 hus =>
 cases hus
 obtain⟨rfl,_⟩:=aB r1
 refine(Any.strconv_Atoi Tryz.lays172 ⟨⟨s⟩⟩ _ (by show s.length≤_; omega) ha w).mono fun e w' ⟨he,t,hb⟩=>⟨_,he, ?_,.tup _ _ (.cons _ _ _ _ (.sc _ rfl) (.cons _ _ _ _ (.sc _ rfl) .nil))⟩
 rw[hb]
 exact Lib.bytesWorld_below w _ t
theorem vK:∀ (f n:Nat),n<10 ^ f→1≤f→Lib.decDigits n=mJ 10 f n
 | 0,n,h,h1=>by omega
 | f + 1,n,h,_=>by
   rw[Lib.decDigits]
   by_cases hn:n<10
   ·rw[dif_pos hn,Bh hn]
    unfold xO; rw[if_pos hn]
   ·rw[dif_neg hn,F6 hn]
    have hf:1≤f:=by
     rcases Nat.eq_zero_or_pos f with e | e
     ·subst e; simp at h; omega
     ·exact e
    rw[vK f (n / 10) (by rw[Nat.pow_succ] at h; exact Nat.div_lt_of_lt_mul (by rw[Nat.mul_comm]; exact h)) hf]
    unfold xO
    rw[if_pos (Nat.mod_lt _ (by decide))]
theorem Kb:IW (base w0 hi) (ak 34):=by
 intro M n Q hB hn hQ
 refine dE.qA (v:=St (gV n)) ⟨Tryz.f34,_,Tryz.func34,rfl⟩ (fun ρ w us hus hw=>?_) (hQ M (ae.refl _ _))
 cases hus with
 | cons _ u1 _ us r1 hus =>
 cases hus
 obtain⟨rfl,_⟩:=aB r1
 refine(Any.strconv_Itoa Tryz.laysM171 (n:Int) (by omega) (by omega) w (Jc hB hw).p10).mono fun e w' ⟨he,k,os,hb⟩=>⟨_,he, ?_, ?_⟩
 ·rw[hb]
  exact K5 w k os
 ·have:Lib.itoa (n:Int)=gV n:=by
   unfold Lib.itoa gV
   rw[if_neg (by omega),Int.toNat_natCast]
   exact vK 20 n (Nat.lt_of_lt_of_le hn (by decide)) (by decide)
  rw[this]
  exact .sc _ rfl
theorem Hr {P:Program} {ρ:Ren} {M:RM} {w:World} {v:AV} {s:Str} {u:Value} (hw:bB P ρ M w) (hb:Bs M v s) (hv:ag ρ v u) :
  (u=.slice none 0 0∧s=[])∨∃ a c,u=.slice (some a) s.length c∧s.length≤c∧∀ i,i<s.length→w.cell? (a.add i)=some (.int .u8 ((s.map fun x=>(x.toNat:Int)).getD i 0)):=by
 obtain⟨hs,hc⟩:=hb
 unfold Sl at hs
 generalize hn:s.length=n at *
 generalize hcs:BY.row s=cs at *
 cases hs with
 | nil =>
   obtain⟨rfl,_⟩:=aB hv
   exact .inl ⟨rfl,List.length_eq_zero_iff.1 hn⟩
 | emp b =>
   cases hv with
   | emp _ a c=>exact .inr ⟨a,c,rfl,Nat.zero_le _,fun i hi=>absurd hi (Nat.not_lt_zero _)⟩
 | slc b o _ cap _ hlt hld =>
   obtain⟨i0,c,hb,hu⟩:=Ab.df hv
   have hcap:n≤c:=by
    cases cap with
    | ex k =>
      have hk:n≤k:=hc
      cases hv with
      | fK _ _ _ _ j hj =>
        injection hu with _ _ h6
        omega
    | op e =>
      obtain⟨k,j,_,_,_,h4,h5⟩:=Aa hv
      rw[hu] at h5
      injection h5 with _ _ h6
      omega
   subst hu
   refine .inr ⟨⟨i0.cb,i0.sh + o,none⟩,c,rfl,hcap,fun i hi=>?_⟩
   ·subst hcs
    have Ru:M.loads b o (n * 1)=some (BY.row s):=hld
    have h1:=rR Ru i 1 (by omega)
    have hi' : i<s.length:=by omega
    have e1:((BY.row s).drop i).take 1=[By s[i]]:=by
     have:=Enc.CQ (E:=BY) hi'
     simpa [BY] using this
    rw[e1] at h1
    obtain⟨x,hx,hcell⟩:=wT hw hb h1
    obtain⟨rfl,_⟩:=aB hx
    have ea:(⟨i0.cb,i0.sh + o,none⟩ : Addr).add i=⟨i0.cb,i0.sh + (o + i),none⟩:=by
     unfold Addr.add
     split
     ·rename_i e; subst e; rfl
     ·simp[Nat.add_assoc]
    rw[ea,hcell]
    simp[List.getD_eq_getElem?_getD,List.getElem?_eq_getElem hi']
theorem bytesOf_map (s:Str) : Lib.bytesOf (s.map fun x=>(x.toNat:Int))=s:=by
 unfold Lib.bytesOf
 rw[List.map_map]
 conv=>rhs; rw[← List.map_id s]
 apply List.map_congr_left
 intro x _
 simp
theorem Hy:Bl (base w0 hi) (ak 78):=by
 intro M v w s Q hB hv hw hl hQ
 refine dE.qA (v:=N .i64 (Lib.index s [13,10])) ⟨Tryz.f78,_,Tryz.func78,rfl⟩ (fun ρ W us hus hW=>?_) hQ
 cases hus with
 | cons _ u1 _ us r1 hus =>
 cases hus with
 | cons _ u2 _ us r2 hus =>
 cases hus
 obtain⟨m,hm⟩:=(Jc hB hW).mx
 rcases Hr hW hw r2 with⟨_,h⟩ | ⟨a2,c2,rfl,hc2,hx2⟩
 ·cases h
 rcases Hr hW hv r1 with⟨rfl,rfl⟩ | ⟨a1,c1,rfl,hc1,hx1⟩
 ·refine(Any.bytes_Index_nil Tryz.lays185 (some a2) 2 c2 W (by decide) (fun h=>by cases h)).mono fun e w' ⟨he,hb⟩=>⟨_,he,by rw[hb]; exact Below.refl _ _, ?_⟩
  exact .sc _ rfl
 ·have hr:∀ (t:Str),∀ x∈t.map (fun x:UInt8=>(x.toNat:Int)),0≤x∧x<256:=fun t x hx=>by
   rw[List.mem_map] at hx
   obtain⟨y,_,rfl⟩:=hx
   have:=y.toNat_lt
   omega
  have:=Any.bytes_Index_at Tryz.lays185 a1 a2 s.length c1 2 c2 (s.map fun x=>(x.toNat:Int)) (([13,10] : Str).map fun x=>(x.toNat:Int)) m W (by simp) (by simp) (hr s) (hr _) hx1 hx2 hc1 (by omega) (by decide) hm
  rw[bytesOf_map,bytesOf_map] at this
  refine this.mono fun e w' ⟨he,q,hb⟩=>⟨_,he,by rw[hb]; exact(KJ W q), ?_⟩
  exact .sc _ rfl
theorem Kr (ρ' : Ren) : ∀ l:List ByteArray,aG ρ' (mV.row (l.map (·.data.toList))) (l.map Value.string)
 | []=>.nil
 | b :: l=>.cons _ _ _ _ (.sc _ (by rfl)) (Kr ρ' l)
theorem I6 (s:Str) : s.count 32=Lib.countB ⟨⟨s⟩⟩ ⟨⟨[32]⟩⟩:=(Lib.count_one 32 s).symm
theorem NT:Fj (base w0 hi) 9 (ak 27):=by
 intro M s Q hB hl hQ
 refine dE.Py (cs:=mV.row (words 32 s)) (n:=(words 32 s).length) ⟨Tryz.f27,_,Tryz.func27,rfl⟩ (by kernel_rfl) (mV.pW _) (by rw[Enc.fA]; simp[mV]) (fun ρ w us hus hw=>?_) (fun v M' o k=>hQ v M' (Own.mono o (Nat.le_refl _)) k)
 cases hus with
 | cons _ u1 _ us r1 hus =>
 cases hus with
 | cons _ u2 _ us r2 hus =>
 cases hus
 obtain⟨rfl,_⟩:=aB r1
 obtain⟨rfl,_⟩:=aB r2
 obtain⟨m,hm⟩:=(Jc hB hw).mx
 refine(Any.strings_Split Tryz.lays146 (by kernel_rfl) ⟨⟨s⟩⟩ ⟨⟨[32]⟩⟩ m w (by show s.length<_; omega) hm (by decide)).mono fun e w' ⟨he,hb⟩=>?_
 have hd:(Lib.splitB ⟨⟨[32]⟩⟩ 0 (Lib.countB ⟨⟨s⟩⟩ ⟨⟨[32]⟩⟩) ⟨⟨s⟩⟩).map (·.data.toList)=words 32 s:=by
  rw[Lib.splitB_data]
  exact wP 32 _ s (I6 s)
 have hlen:(Lib.splitB ⟨⟨[32]⟩⟩ 0 (Lib.countB ⟨⟨s⟩⟩ ⟨⟨[32]⟩⟩) ⟨⟨s⟩⟩).length=Lib.countB ⟨⟨s⟩⟩ ⟨⟨[32]⟩⟩ + 1:=Lib.splitB_all ⟨⟨[32]⟩⟩ (by decide) 0 _ _ rfl
 generalize Lib.splitB ⟨⟨[32]⟩⟩ 0 (Lib.countB ⟨⟨s⟩⟩ ⟨⟨[32]⟩⟩) ⟨⟨s⟩⟩=l at *
 rw[← hlen] at he
 have hwl:(words 32 s).length=l.length:=by rw[← hd]; simp
 refine⟨_,l.map Value.string,he,⟨by simp[hwl],.inr ⟨w.heap.size,l.length,(l.map Value.string).toArray,by rw[hwl],Nat.le_refl _, ?_,Nat.le_of_eq hwl, ?_,by simp, ?_⟩⟩,fun ρ'=>?_, ?_⟩
 ·rw[hb]
  show(w.heap.push _)[w.heap.size]?=_
  rw[Array.getElem?_push_size]
  rfl
 ·have:=Lib.countB_le ⟨⟨[32]⟩⟩ (by decide) s.length ⟨⟨s⟩⟩ (Nat.le_refl _)
  have h2:maxLen=9223372036854775807:=rfl
  have h3:(⟨⟨s⟩⟩ : ByteArray).size=s.length:=rfl
  omega
 ·exact List.take_of_length_le (by simp[hwl])
 ·rw[← hd]
  exact Kr ρ' l
 ·rw[hb]; exact(Below.refl _ _).alloc (Nat.le_refl _) _
end
end Go.Ab.Hw
namespace Go.Ab.Hw
open Go Go.Ab Go.Ab.Sm Go.RowKit Go.Proofs
open Go.Proofs.YtmjcgbaacndblaaGreatDoor
open Go.Ab.Vl (gm kE)
section
variable {w0:World} {hi:Iv w0}
theorem Co:oD dM (ak 38):=by
 intro M x Q hQ
 obtain⟨a0,e,h⟩:=IG hQ
 cases e
 exact tu h
theorem NK:oD qJ (ak 60):=by
 intro M x Q hQ
 obtain⟨a0,e,h⟩:=Jo hQ
 cases e
 exact su h
theorem KY:oD zH (ak 62):=by
 intro M x Q hQ
 obtain⟨a0,e,h⟩:=EX hQ
 cases e
 exact qG h
theorem is32:oD p32 (ak 39):=by
 intro M x Q hQ
 obtain⟨a0,e,h⟩:=LX hQ
 cases e
 exact kX h
theorem PV:oD zU (ak 87):=by
 intro M x Q hQ
 obtain⟨a0,e,h⟩:=Mv hQ
 cases e
 exact nU h
theorem Ox:oD uZ (ak 86):=by
 intro M x Q hQ
 obtain⟨a0,e,h⟩:=Iu Co hQ
 cases e
 exact om h
theorem Qk:oD kL (ak 115):=by
 intro M x Q hQ
 obtain⟨a0,e,h⟩:=Kq Co hQ
 cases e
 exact rE h
theorem JK:kU dM (.fn (.func 38) [] []) (ak 37):=by
 intro M s Q hl hQ
 obtain⟨a0,a1,e,h⟩:=lN (T8:=5) (g:=38) (p:=dM) (cv:=ak) Co hl hQ
 cases e
 exact dw h
theorem Lh:kU qJ (.fn (.func 60) [] []) (ak 37):=by
 intro M s Q hl hQ
 obtain⟨a0,a1,e,h⟩:=lN (T8:=5) (g:=60) (p:=qJ) (cv:=ak) NK hl hQ
 cases e
 exact dw h
theorem O5:kU zH (.fn (.func 62) [] []) (ak 37):=by
 intro M s Q hl hQ
 obtain⟨a0,a1,e,h⟩:=lN (T8:=5) (g:=62) (p:=zH) (cv:=ak) KY hl hQ
 cases e
 exact dw h
theorem PT:kU p32 (.fn (.func 39) [] []) (ak 37):=by
 intro M s Q hl hQ
 obtain⟨a0,a1,e,h⟩:=lN (T8:=5) (g:=39) (p:=p32) (cv:=ak) is32 hl hQ
 cases e
 exact dw h
theorem O1:kU zU (.fn (.func 87) [] []) (ak 37):=by
 intro M s Q hl hQ
 obtain⟨a0,a1,e,h⟩:=lN (T8:=5) (g:=87) (p:=zU) (cv:=ak) PV hl hQ
 cases e
 exact dw h
theorem Nn:kU uZ (.fn (.func 86) [] []) (ak 37):=by
 intro M s Q hl hQ
 obtain⟨a0,a1,e,h⟩:=lN (T8:=5) (g:=86) (p:=uZ) (cv:=ak) Ox hl hQ
 cases e
 exact dw h
theorem OO:kU kL (.fn (.func 115) [] []) (ak 37):=by
 intro M s Q hl hQ
 obtain⟨a0,a1,e,h⟩:=lN (T8:=5) (g:=115) (p:=kL) (cv:=ak) Qk hl hQ
 cases e
 exact dw h
theorem tJ:zZ (ak 64):=by
 intro M s Q hl hQ
 obtain⟨a0,e,h⟩:=A8 (T8:=5) hl hQ
 cases e
 exact sZ h
theorem uH:qa (ak 59):=by
 intro M s a b Q hQ
 obtain⟨a0,a1,a2,e,h⟩:=Gm hQ
 cases e
 exact ru h
theorem MU:lm kg (ak 67):=by
 intro M s Q hl hQ
 obtain⟨a0,e,h⟩:=vL uH tJ Nn hl hQ
 cases e
 exact pV h
theorem Kj:Br (base w0 hi) iy (ak 68):=by
 intro M s Q hB hl hQ
 obtain⟨a0,e,h⟩:=tO KZ O1 hB hl hQ
 cases e
 exact oO h
theorem G6:lm iD (ak 28):=by
 intro M s Q hl hQ
 obtain⟨a0,e,h⟩:=BJ uH Lh hl hQ
 cases e
 exact oq h
theorem Na:Ac (ak 84):=by
 intro M s q Q hQ
 obtain⟨a0,a1,e,h⟩:=DU hQ
 cases e
 exact jE h
theorem PN:Ac (ak 61):=by
 intro M s q Q hQ
 obtain⟨a0,a1,e,h⟩:=Mg Na hQ
 cases e
 exact pz h
theorem MR:lm jl (ak 29):=by
 intro M s Q hl hQ
 obtain⟨a0,e,h⟩:=DX PN O5 hl hQ
 cases e
 exact pq h
theorem PZ:pY (ak 70):=by
 intro M s q Q hQ
 obtain⟨a0,a1,e,h⟩:=zK Na hQ
 cases e
 exact jH h
theorem Qj:pY (ak 36):=by
 intro M s q Q hQ
 obtain⟨a0,a1,e,h⟩:=Gv PZ hQ
 cases e
 exact pg h
theorem Ob:tY 58 (ak 113):=by
 intro M s Q hQ
 obtain⟨a0,a1,e,h⟩:=yZ Og (g:=0) (xx:=Em Tryz.prog 132) (c1:=ak 100) (c2:=ak 133) hQ
 cases e
 exact kN h
theorem NZ:kE 58 (ak 102):=by
 intro M s Q hl hQ
 obtain⟨a0,a1,e,h⟩:=Vl.Cu Ob hl hQ
 cases e
 exact lv h
theorem PS:kE 58 (ak 79):=by
 intro M s Q hl hQ
 obtain⟨a0,a1,e,h⟩:=Vl.Kh NZ hl hQ
 cases e
 exact vY h
theorem Mh:Ck (base w0 hi) (ak 57):=by
 intro M s Q hB hl h1 h2
 obtain⟨a0,e,h⟩:=Gw (T:=56) PS KZ MU Kj hB hl h1 h2
 cases e
 exact rq h
theorem Pt:I7 (base w0 hi) (ak 56):=by
 intro M v b at' Q hB h1 h2 h3 h4 h5 h6
 obtain⟨a0,a1,e,h⟩:=J7 (T:=5) Hy hB h1 h2 h3 h4 h5 h6
 cases e
 exact uh h
theorem Ko {a1:AV} {q:Str→Bool} {br:Nat} {X0:RB} {X:Str→RB} (hF:Bd (base w0 hi) (ak) a1 q br X0 X) : Eb (base w0 hi) a1 q br X0 X 56 (ak 25):=by
 intro M v b Q hB h1 h2 h3 h4 h5 h6 h7
 obtain⟨a0,a1,e,h⟩:=KX Pt Mh hF hB h1 h2 h3 h4 h5 h6 h7
 cases e
 exact tH h
theorem Ho:Bi 9 (ak 63):=by
 intro M v l n Q h1 h2 h3 h4 h5
 obtain⟨a0,a1,e,h⟩:=Il (TH:=56) tJ h1 h2 h3 h4 h5
 cases e
 exact rY h
theorem Hg:IX (ak 55):=by
 intro M v l n Q h1 h2 h3 h4 h5
 obtain⟨a0,a1,e,h⟩:=Jt Ho h1 h2 h3 h4 h5
 cases e
 exact sI h
theorem Oq:Jr (base w0 hi) (ak 114):=by
 intro M v w s Q hB h1 h2 h3 h4 h5
 obtain⟨a0,a1,e,h⟩:=JJ Hy hB h1 h2 h3 h4 h5
 cases e
 exact yL h
theorem Ni:EW (ak 134):=by
 intro M x Q hQ
 obtain⟨a0,e,h⟩:=Je hQ
 cases e
 exact mD h
theorem Qi:Cb (ak 117):=by
 intro M s Q h1 h2 h3 h4
 obtain⟨a0,a1,a2,e,h⟩:=AY (TE:=119) (T8:=5) (cu:=ak 135) Ni h1 h2 h3 h4
 cases e
 exact kT h
theorem Qq:Cb (ak 116):=by
 intro M s Q h1 h2 h3 h4
 obtain⟨a0,a1,a2,e,h⟩:=Cg (ct:=ak 72) Qi h1 h2 h3 h4
 cases e
 exact pK h
theorem Ov:Jf (base w0 hi) (ak 85):=by
 intro M v b at' Q hB h1 h2 h3 h4 h5
 obtain⟨a0,a1,e,h⟩:=JW (T:=5) Oq uH tJ OO Qq hB h1 h2 h3 h4 h5
 cases e
 exact tX h
theorem KA:zW (base w0 hi) 5 (ak 65):=by
 intro M v b at' Q hB h1 h2 h3 h4 h5
 obtain⟨a0,a1,e,h⟩:=EE Ov hB h1 h2 h3 h4 h5
 cases e
 exact qy h
theorem Nt:Ey 5 (ak 66):=by
 intro M v s Q h1 h2 h3
 obtain⟨a0,e,h⟩:=IU h1 h2 h3
 cases e
 exact wL h
theorem JX:El (base w0 hi) 5 (ak 30):=by
 intro M v hv b l at' Q hB h1 h2 h3 h4 h5 h6 h7 h8
 obtain⟨a0,a1,a2,e,h⟩:=K8 Ho tJ KA uH JK KM Nt hB h1 h2 h3 h4 h5 h6 h7 h8
 cases e
 exact tV h
theorem KN (br:Nat) : Bd (base w0 hi) (ak) (.fn (.func 26) [] [.ptr br 0]) oM br (jb 26 [] []) (FV 26):=by
 intro M s K hB hbr hX hl h0 h1
 rw[Ap]
 exact mH (KE (TS:=9) NT G6 MR hB hbr hX hl h0 h1)
theorem I8 (br:Nat) : Bd (base w0 hi) (ak) (.fn (.func 35) [] [.ptr br 0]) oQ br (gD 34 0) (Ep 34):=by
 intro M s K hB hbr hX hl h0 h1
 rw[Ap]
 exact l8 (IM Qj JK PT KM hbr hX hl h0 h1)
theorem vG:EF (base w0 hi) 56 5 (ak 11):=by
 intro M v b Q hB h1 h2 h3 h4
 obtain⟨a0,e,h⟩:=EN (T:=26) (g:=26) (fun br=>Ko (KN br)) JX hB h1 h2 h3 h4
 cases e
 exact nS h
theorem Ku:DJ (base w0 hi) 56 5 (ak 14):=by
 intro M v b Q hB h1 h2 h3 h4
 obtain⟨a0,e,h⟩:=DT (T:=34) (g:=35) (fun br=>Ko (I8 br)) JX hB h1 h2 h3 h4
 cases e
 exact mY h
theorem xN:rf (base w0 hi) 5 (ak 32):=by
 intro M v bv f b l m z Q hB h1 h2 h3 h4 h5 h6 h7 h8 h9 h10
 obtain⟨a0,a1,a2,a3,a4,e,h⟩:=Ev (TH:=56) MU Kj tJ hB h1 h2 h3 h4 h5 h6 h7 h8 h9 h10
 cases e
 exact qh h
theorem Dx:uY (base w0 hi) (ak 33):=by
 intro M n Q hB h1 h2
 obtain⟨a0,e,h⟩:=FW (T:=56) Kb hB h1 h2
 cases e
 exact qz h
theorem O4:uC (ak 31):=by
 intro M m q x y Q h1 h2 h3 h4 h5
 obtain⟨a0,e,h⟩:=EY (T:=26) G6 MR h1 h2 h3 h4 h5
 cases e
 exact nV h
theorem JM:C8 (base w0 hi) 5 (ak 12):=by
 intro M hv bv m q b l Q hB h1 h2 h3 h4 h5 h6 h7 h8 h9
 obtain⟨a0,e,h⟩:=DY (T:=26) O4 Dx xN hB h1 h2 h3 h4 h5 h6 h7 h8 h9
 cases e
 exact mZ h
theorem JB:AL (base w0 hi) 5 (ak 13):=by
 intro M hv bv n b l Q hB h1 h2 h3 h4 h5 h6 h7
 obtain⟨a0,e,h⟩:=Cx (T:=34) Kb Dx xN hB h1 h2 h3 h4 h5 h6 h7
 cases e
 exact mO h
theorem OP:FZ 5 (ak 75):=by
 intro M n Q h1 h2 h3
 obtain⟨a0,a1,e,h⟩:=HV (TS:=9) h1 h2 h3
 cases e
 exact yK h
theorem MK:zV 5 (ak 48):=by
 intro M bb TB vs xss Q h1 h2 h3 h4 h5 h6 h7 h8
 obtain⟨a0,e,h⟩:=Ff (TS:=9) OP h1 h2 h3 h4 h5 h6 h7 h8
 cases e
 exact vW h
theorem ML:CE 3 (ak 47):=by
 intro M v s Q h1 h2 h3
 obtain⟨a0,e,h⟩:=GD h1 h2 h3
 cases e
 exact yN h
theorem Qp:JA (ak 123):=by
 intro M Q h1
 obtain⟨a0,e,h⟩:=L6 h1
 cases e
 exact jN h
theorem Pq:Iz (base w0 hi) (ak 96):=by
 intro M n Q hB h1 h2
 obtain⟨a0,a1,a2,a3,a4,e,h⟩:=JI (TS:=9) (TA:=154) (T8:=5) Qp Rz hB h1 h2
 cases e
 exact kJ h
theorem P6:Ci (base w0 hi) (ak 76):=by
 intro M n Q hB h1 h2
 obtain⟨a0,a1,e,h⟩:=Kl (c1:=ak 93) (TA:=125) (c2:=ak 94) (c3:=ak 95) Pq hB h1 h2
 cases e
 exact kW h
theorem PP:Ci (base w0 hi) (ak 49):=by
 intro M n Q hB h1 h2
 obtain⟨a0,a1,e,h⟩:=ME P6 hB h1 h2
 cases e
 exact pM h
theorem GA:yO (base w0 hi) 5 (ak 19):=by
 intro M hv bv sv m q b l sz Q hB h1 h2 h3 h4 h5 h6 h7 h8 h9 h10 h11
 obtain⟨a0,a1,e,h⟩:=BA (T:=26) (TI:=3) (TB:=24) O4 ML PP MK xN hB h1 h2 h3 h4 h5 h6 h7 h8 h9 h10 h11
 cases e
 exact ql h
end
end Go.Ab.Hw
namespace Go.Ab.Hw
open Go Go.Ab Go.Ab.Sm Go.RowKit Go.Proofs
open Go.Proofs.YtmjcgbaacndblaaGreatDoor
abbrev mo:Str:=[71,69,84]
abbrev rF:Str:=[47,97]
abbrev lX:List Hd:=[([88],[49])]
def QD:Except Nat Str→Str
 | .ok s=>s
 | .error _=>[]
abbrev sA:Str:=[71,69,84,32,47,97,32,72,84,84,80,47,49,46,49,13,10,88,58,32,49,13,10,67,111,110,116,101,110,116,45,76,101,110,103,116,104,58,32,48,13,10,13,10]
def sC:Str:=QD (j4 404 [] [110,111])
def sD:Str:=QD (jq mo rF lX [97,98,99,100] [3])
theorem pA:nQ mo rF lX []=.ok sA:=by kernel_rfl
theorem rA:fB (sA++[120])=.ok ((mo,rF,lX++[(nK,[48])],[]),[120]):=by kernel_rfl
theorem pC:j4 404 [] [110,111]=.ok sC:=by kernel_rfl
theorem rC:lu sC=.ok ((404,[(nK,[50])],[110,111]),[]):=by kernel_rfl
theorem pD:jq mo rF lX [97,98,99,100] [3]=.ok sD:=by kernel_rfl
theorem rD:fB sD=.ok ((mo,rF,lX++[(IR,BF)],[97,98,99,100]),[]):=by kernel_rfl
theorem nA:bO (lX++[(nK,[48])]) [120]=[[49]]:=by kernel_rfl
theorem nC:bO [(nK,[50])] [67,79,78,84,69,78,84,45,76,69,78,71,84,72]=[[50]]:=by kernel_rfl
theorem lC:sC.length≤1000:=by decide +kernel
theorem lD:sD.length≤1000:=by decide +kernel
theorem G5 {T n:Nat} {M:RM} {parts:List (Nat × Nat × AV)} (s:Str) {K:ah} (he:nW (bX [(N .u8 0)] n) parts=some (BY.row s)) (hn:s.length=n)
  (hK:∀ v M',Bs M' v s→ae [] M M'→(∀ b∈aP v,M.next≤b)→K v M') : cz T n [(N .u8 0)] parts fun r f=>aW r f M fun t14 M1=>pF t14 M1 fun t15 M_0=>K t15 M_0:=by
 refine⟨BY.row s,he, ?_⟩
 simp only[aR]
 refine⟨M.next,0,n,n,BY.row s,T,rfl,by simp[RM.push], ?_⟩
 refine hK _ _ ⟨?_,Nat.le_refl _⟩ (((ae.refl _ _).push _).new _ (Nat.le_refl _)) (fun b hb=>by simp[aP] at hb; omega)
 subst hn
 refine aC.slc _ _ _ _ _ (by simp[RM.push,RM.put]) ?_
 rw[RM.gJ (aM _) (by rw[jZ]; simp[BY]),List.drop_zero,List.take_of_length_le (by rw[jZ]; simp[BY])]
theorem Sy {T:Nat} {M:RM} {z cs:List AV} {K:AV→RM→Prop} (n:Nat) (hz:z.length=n) (hc:cs.length=n) (h1:cs.all oneCell=true)
  (hK:∀ M',ae [] M M'→M'.heap M.next=some (.row cs false T 0)→M.next<M'.next→K (.agg cs) M') :
  aW (.row z false T 0) (fun b=>.ptr b 0) M fun t M1=>aH M1 t (.agg cs) n fun M2=>bi M2 t n fun r=>K r M2:=by
 simp only[aR]
 have n1:(M.push (.row z false T 0)).heap M.next=some (.row z false T 0):=by simp[RM.push]
 rw[iZ n1 hc hz h1,bH (aM _) hc]
 exact hK _ (((ae.refl _ _).push _).new _ (Nat.le_refl _)) (aM _) (by simp[RM.push,RM.put])
theorem uO {T:Nat} {M:RM} {z cs:List AV} {K:AV→RM→Prop} (n:Nat) (hz:z.length=n) (hc:cs.length=n) (h1:cs.all oneCell=true)
  (hK:∀ M',ae [] M M'→M'.heap M.next=some (.row cs false T 0)→M.next<M'.next→K (.ptr M.next 0) M') :
  aW (.row z false T 0) (fun b=>.ptr b 0) M fun t M1=>aH M1 t (.agg cs) n fun M2=>K t M2:=by
 simp only[aR]
 have n1:(M.push (.row z false T 0)).heap M.next=some (.row z false T 0):=by simp[RM.push]
 rw[iZ n1 hc hz h1]
 exact hK _ (((ae.refl _ _).push _).new _ (Nat.le_refl _)) (aM _) (by simp[RM.push,RM.put])
theorem q9 {α:Type} {x y:α} {r:Except Nat α} (h:r=.ok x) (k:r=.ok y) : x=y:=by rw[h] at k; exact Except.ok.inj k
theorem oo {α:Type} {x:α} {e:Nat} {r:Except Nat α} (h:r=.ok x) (k:r=.error e) : False:=by rw[h] at k; cases k
theorem MM:∀ h∈lX,h.1.length≤281474976710656∧h.2.length≤281474976710656:=fun h hx=>by
 simp at hx; subst hx; simp
def OA (B:Base) (c:ai) : Prop:=∀ {M:RM} {Q:ah},M.base=B→(∀ M',ae [] M M'→Q (Bo true) M')→c [] M Q
section
variable {w0:World} {hi:Iv w0}
theorem Oj:OA (base w0 hi) (ak 10):=by
 intro M Q hB hQ
 refine vX ?_
 unfold vP
 rw[gK]
 refine⟨_,wG rfl rfl rfl rfl, ?_⟩
 rw[u6 (by rfl) (by rfl) (by rfl)]
 simp only[aR (x:=.row (AV.agg [St [88],St [49]]).cells false 56 0)]
 have k1:ae [] M (M.push (.row (AV.agg [St [88],St [49]]).cells false 56 0)):=(ae.refl _ _).push _
 have s1:Sl HD (M.push (.row (AV.agg [St [88],St [49]]).cells false 56 0)) (.slc M.next 0 1 (.ex 1)) lX:=Sl.new (E:=HD) lX
 generalize M.push (.row (AV.agg [St [88],St [49]]).cells false 56 0)=M1 at *
 rw[gK]
 refine⟨[St mo,St rF,.slc M.next 0 1 (.ex 1),aF],rfl, ?_⟩
 have bx:∀ K:AV→AV→RM→Prop,(∀ M2,ae [] M1 M2→M2.heap M1.next=some (.row [St mo,St rF,.slc M.next 0 1 (.ex 1),aF] false 26 0)→M1.next<M2.next→K (.ptr M1.next 0) (.agg [St mo,St rF,.slc M.next 0 1 (.ex 1),aF]) M2) →
   aW (.row [St [],St [],aF,aF] false 26 0) (fun b=>.ptr b 0) M1 fun t M2=>aH M2 t (.agg [St mo,St rF,.slc M.next 0 1 (.ex 1),aF]) 4 fun M3=>bi M3 t 4 fun r=>K t r M3:=fun K h=>by
  refine uO (K:=fun t M3=>bi M3 t 4 fun r=>K t r M3) 4 rfl rfl rfl fun M2 k2 n2 l2=>?_
  rw[bH n2 (by rfl)]
  exact h M2 k2 n2 l2
 refine bx _ fun M2 k2 n2 l2=>?_
 have k02:=k1.trans k2
 have s2:Sl HD M2 (.slc M.next 0 1 (.ex 1)) lX:=aC.keep s1 k2 (by simp)
 refine JM (hi:=hi) (k02.base.trans hB) s2 (by simp) MM (by simp) (by simp) (body:=[]) .nil (by simp) (fun s v3 M3 e3 _ k3 o3=>?_) (fun e M3 e3 _ _=>(oo pA e3).elim)
 obtain rfl:=q9 pA e3
 simp only[bg,bf]
 rw[Eh]
 simp only[aR (x:=.row [] false 5 0)]
 have k3' : ae [] M3 (M3.push (.row [] false 5 0)):=(ae.refl _ _).push _
 refine lU (E:=BY) (Ow.lit BY M3) (by simp[RM.push]) (by decide) (aC.keep (Own.j3 o3) k3' (by simp)) (by simp) (by simp) fun v4 M4 o4 k4 _ _=>?_
 have k34:ae [] M3 M4:=ae.own k3' k4 (fun b hb=>by simp[aP] at hb; omega)
 rw[u6 (by rfl) (by rfl) (by rfl)]
 simp only[aR (x:=.row (N .u8 120).cells false 5 0)]
 refine ui (E:=BY) (a:=120) o4 k34.next (by decide) (by simp) (by simp) fun v5 M5 o5 k5 _ _=>?_
 have k35:ae [] M3 M5:=ae.own k34 k5 (fun b hb=>(Own.blk o4 b hb).1)
 have k25:=k3.trans k35
 rw[List.nil_append] at o5
 refine vG (hi:=hi) ((k02.trans k25).base.trans hB) (Bs.own o5) (by simp) (fun m p l out r at6 hv6 ov6 M6 e6 h61 h62 _ _ _ k6 oh6 ob6=>?_) (fun e M6 e6 _ _=>(oo rA e6).elim)
 have e6':=q9 rA e6
 simp only[Prod.mk.injEq] at e6'
 obtain⟨⟨rfl,rfl,rfl,rfl⟩,rfl⟩:=e6'
 have RX:at6=44:=by
  have:=congrArg List.length h62
  simp at this h61; omega
 subst RX
 simp only[bg,bf,dJ]
 have c6:([St mo,St rF,hv6,ov6] : List AV).all oneCell=true:=by
  have h1:=Own.one oh6; have h2:=Own.one ob6
  simp only[List.all_cons,List.all_nil,h1,h2]; rfl
 refine Sy (K:=fun t40 CF=>_) 4 rfl rfl c6 fun M7 k7 _ _=>?_
 have k26:=k25.trans (k6.trans k7)
 have sh7:Sl HD M7 hv6 (lX++[(nK,[48])]):=aC.keep (Own.j3 oh6) k7 (by simp)
 refine nG (Lg Hg sh7 (by simp) (by decide) (by decide) c6 fun M8 k8=>?_)
 rw[nA]
 simp only[j6,bg,bf]
 have k28:=k26.trans k8
 refine G5 [110,111] rfl rfl fun v9 M9 b9 k9 _=>?_
 rw[gK]
 have ob9:=aC.one b9.sl
 have fl9:lq [N .i64 0,aF,aF] [(0,1,N .i64 404),(2,1,v9)]=some [N .i64 404,aF,v9]:=by
  have h1:=aC.known b9.sl
  have h2:=aC.cells b9.sl
  rw[lq,if_pos ⟨rfl,rfl,by decide⟩,lq,if_pos ⟨h1,by rw[h2]; rfl,by decide⟩,h2]
  rfl
 refine⟨_,fl9, ?_⟩
 have k29:=k28.trans k9
 refine JB (hi:=hi) ((k02.trans k29).base.trans hB) (l:=[]) .nil (by simp) (by simp) b9.sl (by simp) (fun s v10 M10 e10 _ k10 o10=>?_) (fun e M10 e10 _ _=>(oo pC e10).elim)
 obtain rfl:=q9 pC e10
 simp only[bg,bf]
 have IK:=k29.trans k10
 refine Ku (hi:=hi) ((k02.trans IK).base.trans hB) (Bs.own o10) (by have:=lC; omega) (fun n l out r Sa BZ CG M11 e11 h111 h112 _ _ _ k11 Oz LF=>?_) (fun e M11 e11 _ _=>(oo rC e11).elim)
 have Pk:=q9 rC e11
 simp only[Prod.mk.injEq] at Pk
 obtain⟨⟨rfl,rfl,rfl⟩,rfl⟩:=Pk
 have PY:Sa=sC.length:=by
  have:=congrArg List.length h112
  simp at this; omega
 subst PY
 simp only[bg,bf,dJ]
 have c11:([N .i64 ((404:Nat) : Int),BZ,CG] : List AV).all oneCell=true:=by
  have h1:=Own.one Oz; have h2:=Own.one LF
  simp only[List.all_cons,List.all_nil,h1,h2]; rfl
 have bx2:∀ K:AV→AV→RM→Prop,(∀ M2,ae [] M11 M2→M2.heap M11.next=some (.row [N .i64 ((404:Nat) : Int),BZ,CG] false 34 0)→M11.next<M2.next→K (.ptr M11.next 0) (.agg [N .i64 ((404:Nat) : Int),BZ,CG]) M2) →
   aW (.row [N .i64 0,aF,aF] false 34 0) (fun b=>.ptr b 0) M11 fun t M2=>aH M2 t (.agg [N .i64 ((404:Nat) : Int),BZ,CG]) 3 fun M3=>bi M3 t 3 fun r=>K t r M3:=fun K h=>by
  refine uO (K:=fun t M3=>bi M3 t 3 fun r=>K t r M3) 3 rfl rfl c11 fun M2 k2 n2 l2=>?_
  rw[bH n2 (by rfl)]
  exact h M2 k2 n2 l2
 refine bx2 _ fun M12 k12 n12 l12=>?_
 have RY:Sl HD M12 BZ [(nK,[50])]:=aC.keep (Own.j3 Oz) k12 (by simp)
 refine ni (La Hg RY (by simp) (by decide) (by decide) c11 fun M13 k13=>?_)
 rw[nC]
 simp only[j6,bg,bf]
 have O9:=IK.trans (k11.trans (k12.trans k13))
 refine G5 [97,98,99,100] rfl rfl fun v14 M14 b14 k14 Sb=>?_
 have IY:=O9.trans k14
 have n14:=IY.aN n2 l2 (by simp)
 have l14:=Nat.lt_of_lt_of_le l2 IY.next
 have c14:=aC.cells b14.sl
 have Rh:=aC.one b14.sl
 rw[gL,Nat.zero_add,fO [St mo,St rF,.slc M.next 0 1 (.ex 1),v14] n14 (by simp) c14 Rh rfl,bH (aM _) (by rfl)]
 have k15:ae [M1.next] M14 (M14.put M1.next (.row [St mo,St rF,.slc M.next 0 1 (.ex 1),v14] false 26 0)):=(ae.refl _ _).put _ (.inr (by simp))
 generalize M14.put M1.next (.row [St mo,St rF,.slc M.next 0 1 (.ex 1),v14] false 26 0)=M15 at *
 have kk:∀ {X Y:RM},ae [] X Y→ae [M1.next] X Y:=fun k=>k.mono (by simp)
 have b15:Bs M15 v14 [97,98,99,100]:=b14.keep k15 (fun x hx hm=>by have:=Sb x hx; have:=O9.next; simp at hm; omega)
 have ne1:∀ b,M2.next≤b→b≠M1.next:=fun b h e=>by omega
 have s15:Sl HD M15 (.slc M.next 0 1 (.ex 1)) lX:=aC.keep (aC.keep s2 IY (by simp)) k15 (fun x hx hm=>by have:=aC.lt s1 x hx; simp at hm; omega)
 rw[u6 (by rfl) (by rfl) (by rfl)]
 simp only[aR (x:=.row (N .i64 3).cells false 3 0)]
 have k16:ae [] M15 (M15.push (.row (N .i64 3).cells false 3 0)):=(ae.refl _ _).push _
 have s16:Sl INT (M15.push (.row (N .i64 3).cells false 3 0)) (.slc M15.next 0 1 (.ex 1)) [3]:=Sl.new (E:=INT) [3]
 generalize M15.push (.row (N .i64 3).cells false 3 0)=M16 at *
 have LW:ae [M1.next] M2 M16:=(kk IY).trans (k15.trans (kk k16))
 refine GA (hi:=hi) ((LW.base.trans k02.base).trans hB) (aC.keep s15 k16 (by simp)) (by simp) MM (by simp) (by simp) (b15.keep k16 (by simp)) (by simp) s16 (by simp) (fun s v17 M17 e17 _ k17 o17=>?_) (fun e M17 e17 _ _=>(oo pD e17).elim)
 obtain rfl:=q9 pD e17
 simp only[bg,bf]
 refine vG (hi:=hi) ((k17.base.trans (LW.base.trans k02.base)).trans hB) (Bs.own o17) (by have:=lD; omega) (fun m p l out r RG Rc O0 M18 e18 h181 Sv _ _ _ k18 Rf OX=>?_) (fun e M18 e18 _ _=>(oo rD e18).elim)
 have O8:=q9 rD e18
 simp only[Prod.mk.injEq] at O8
 obtain⟨⟨rfl,rfl,rfl,rfl⟩,rfl⟩:=O8
 have Qb:RG=sD.length:=by
  have:=congrArg List.length Sv
  simp at this; omega
 subst Qb
 simp only[bg,bf,dJ]
 have c18:([St mo,St rF,Rc,O0] : List AV).all oneCell=true:=by
  have h1:=Own.one Rf; have h2:=Own.one OX
  simp only[List.all_cons,List.all_nil,h1,h2]; rfl
 refine uO (K:=fun t Iw=>_) 4 rfl rfl c18 fun M19 k19 n19 l19=>?_
 -- what stands at the end
 have Rj:ae [M1.next] M3 M19:=by
  have a:=kk (k35.trans (k6.trans (k7.trans (k8.trans (k9.trans (k10.trans (k11.trans (k12.trans (k13.trans k14)))))))))
  exact a.trans (k15.trans (kk (k16.trans (k17.trans (k18.trans k19)))))
 have bA:Bs M19 v3 sA:=(Bs.own o3).keep Rj (fun x hx hm=>by have:=(Own.blk o3 x hx).1; simp at hm; omega)
 have PX:ae [M1.next] M10 M19:=(kk (k11.trans (k12.trans (k13.trans k14)))).trans (k15.trans (kk (k16.trans (k17.trans (k18.trans k19)))))
 have bC:Bs M19 v10 sC:=(Bs.own o10).keep PX (fun x hx hm=>by have:=(Own.blk o10 x hx).1; have:=k29.next; simp at hm; omega)
 have MN:ae [M1.next] M12 M19:=(kk (k13.trans k14)).trans (k15.trans (kk (k16.trans (k17.trans (k18.trans k19)))))
 have h11:M19.heap M11.next=some (.row [N .i64 ((404:Nat) : Int),BZ,CG] false 34 0):=MN.aN n12 l12 (by
  have:=(IK.trans k11).next; simp; omega)
 have RN:Bs M19 CG [110,111]:=((Bs.own LF).keep k12 (by simp)).keep MN (fun x hx hm=>by have:=(Own.blk LF x hx).1; have:=IK.next; simp at hm; omega)
 have bD:Bs M19 v17 sD:=(Bs.own o17).keep (k18.trans k19) (by simp)
 have Ra:Bs M19 O0 [97,98,99,100]:=(Bs.own OX).keep k19 (by simp)
 have go1:∀ {α:Type} [BEq α] [LawfulBEq α] (a:α),(a == a)=true:=fun a=>beq_self_eq_true a
 simp only[bW,bU,bq,dU,go1]
 rw[bA.str]
 simp only[bW,bU,bq,dU,go1]
 rw[bA.len]
 rw[bq,show(((44:Nat) : Int) == ((sA.length:Nat) : Int))=true by decide]
 simp only[bW,bU,bq,dU,go1]
 rw[bC.len]
 simp only[bW,bU,bq,dU,go1,gL,Nat.zero_add]
 rw[aL h11 rfl]
 rw[bq,show(((404:Nat) : Int) == 404)=true from rfl]
 simp only[bW,bU,bq,dU,go1]
 rw[aL h11 rfl,RN.str]
 simp only[bW,bU,bq,dU,go1]
 rw[bD.len]
 simp only[bW,bU,bq,dU,go1]
 rw[aL n19 rfl,Ra.str]
 simp only[bW,bU,bq,dU,go1]
 exact hQ _ (qF k02 (LW.trans (kk (k17.trans (k18.trans k19)))) (by have:=k1.next; omega))
end
theorem NR {α:Type} {e f:Nat} {r:Except Nat α} (h:r=.error e) (k:r=.error f) : e=f:=by rw[h] at k; exact Except.error.inj k
section
variable {w0:World} {hi:Iv w0}
end
def Am (T:Nat) (c:ai) : Prop:=∀ {M:RM} {v:AV} {l:List Hd} {Q:ah},Sl HD M v l→l.length≤1000→(∀ v' M',Ow HD M' M.next T v' l→ae [] M M'→Q v' M')→c [v] M Q
theorem FO {T:Nat} : Am T fun args M Q=>∃ a0,args=[a0]∧mQ T a0 M Q:=by
 intro M v l Q hv hl hQ
 refine⟨_,rfl, ?_⟩
 unfold mQ
 refine dG (fun m ys M3=>∃ (i:Nat) (o:AV),m=l.length - i∧ys=[o,N .i64 (i:Int)]∧i≤l.length∧Ow HD M3 M.next T o (l.take i)∧ae [] M M3) _ ⟨0,aF,rfl,rfl,Nat.zero_le _,.nil,ae.refl _ _⟩ ?_
 rintro next m ys M3 hnext ⟨i,o,rfl,rfl,hi,hO,k3⟩
 simp only[bz,cK]
 have hv3:Sl HD M3 v l:=aC.keep hv k3 (by simp)
 rw[aC.len hv3,uW]
 refine dF (fun h=>?_) fun h=>?_
 ·have hlt:i<l.length:=by simpa using h
  obtain⟨b,off,hb,_,hix,hld⟩:=hv3.at 2 (i:Int) hlt
  rw[hix,gL,dz]
  refine⟨St l[i].1,oL hld (j:=0) (x:=St l[i].1) rfl, ?_⟩
  rw[hix,gL,dz]
  refine⟨St l[i].2,oL hld (j:=1) (x:=St l[i].2) rfl, ?_⟩
  rw[gK]
  refine⟨_,wG rfl rfl rfl rfl, ?_⟩
  rw[u6 (by rfl) (by rfl) (by rfl)]
  simp only[yC]
  refine ui (E:=HD) (a:=l[i]) hO k3.next (by decide) (by simp; omega) (by simp; omega) fun v7 M7 o7 k7 _ _=>?_
  rw[add1 (by omega)]
  refine hnext _ _ _ (by omega) ⟨i + 1,v7,rfl,rfl,by omega, ?_,ae.own k3 k7 (fun x hx=>(hO.blk x hx).1)⟩
  rw[List.take_succ_eq_append_getElem hlt]; exact o7
 ·have:i=l.length:=by simp at h; omega
  subst this
  rw[List.take_length] at hO
  exact hQ o M3 hO k3
theorem Mj {m p:Str} {hv' bv:AV} (h1:known hv'=true) (h2:hv'.cells=[hv']) (h3:known bv=true) (h4:bv.cells=[bv]) : lq [St [],St [],N .i64 0,aF,aF] [(0,1,St m),(1,1,St p),(3,1,hv'),(4,1,bv)]=some [St m,St p,N .i64 0,hv',bv]:=by
 have e1:known (St m)=true:=rfl
 have e2:known (St p)=true:=rfl
 have e3:(St m).cells=[St m]:=rfl
 have e4:(St p).cells=[St p]:=rfl
 simp[lq,h1,h2,h3,h4,e1,e2,e3,e4]
def FN (c:ai) : Prop:=∀ {M:RM} {hv bv:AV} {m p body:Str} {l:List Hd} {Q:ah},Sl HD M hv l→l.length≤1000→Sl BY M bv body →
 (∀ hv' M',Sl HD M' hv' l→ae [] M M'→Q (.agg [St m,St p,N .i64 0,hv',bv]) M')→c [.agg [St m,St p,hv,bv]] M Q
theorem Fs {T TM TH:Nat} {ch:ai} (hh:Am TH ch) : FN fun args M Q=>∃ a0,args=[a0]∧mq T TM ch a0 M Q:=by
 intro M hv bv m p body l Q hs hl hb hQ
 refine⟨_,rfl, ?_⟩
 unfold mq
 have ohv:=aC.one hs
 have obv:=aC.one hb
 rw[iL (by simp only[List.all_cons,List.all_nil,ohv,obv]; rfl) (by simp)]
 simp only[aR]
 have k0:ae [] M ((M.push (.row [St m,St p,hv,bv] false T 0)).push (.row [St [],St [],N .i64 0,aF,aF] false TM 0)):=((ae.refl _ _).push _).push _
 have n1:((M.push (.row [St m,St p,hv,bv] false T 0)).push (.row [St [],St [],N .i64 0,aF,aF] false TM 0)).heap M.next=some (.row [St m,St p,hv,bv] false T 0):=by simp[RM.push]
 have n2:((M.push (.row [St m,St p,hv,bv] false T 0)).push (.row [St [],St [],N .i64 0,aF,aF] false TM 0)).heap (M.push (.row [St m,St p,hv,bv] false T 0)).next=some (.row [St [],St [],N .i64 0,aF,aF] false TM 0):=by simp[RM.push]
 have e2:(M.push (.row [St m,St p,hv,bv] false T 0)).next=M.next + 1:=rfl
 have l0:((M.push (.row [St m,St p,hv,bv] false T 0)).push (.row [St [],St [],N .i64 0,aF,aF] false TM 0)).next=M.next + 2:=rfl
 rw[e2] at n2 ⊢
 generalize (M.push (.row [St m,St p,hv,bv] false T 0)).push (.row [St [],St [],N .i64 0,aF,aF] false TM 0)=M0 at *
 simp only[jk]
 rw[aL n1 (i:=0) rfl,aL n1 (i:=1) rfl,aL n1 (i:=2) rfl,aL n1 (i:=3) rfl]
 refine hh (aC.keep hs k0 (by simp)) hl fun hv' M1 o1 k1=>?_
 have n11:=k1.aN n1 (by omega) (by simp)
 have n21:=k1.aN n2 (by omega) (by simp)
 rw[aL n11 (i:=0) rfl]; refine⟨rfl, ?_⟩
 rw[aL n11 (i:=1) rfl]; refine⟨rfl, ?_⟩
 rw[aL n11 (i:=3) rfl]; refine⟨rfl, ?_⟩
 have fl:=Mj (m:=m) (p:=p) (aC.known o1.j3) (aC.cells o1.j3) (aC.known hb) (aC.cells hb)
 rw[gK]
 refine⟨_,fl, ?_⟩
 have o1':=Own.one o1
 rw[iZ n21 (by rfl) (by rfl) (by simp only[List.all_cons,List.all_nil,o1',obv]; rfl),bH (aM _) (by rfl)]
 refine hQ hv' _ (aC.keep o1.j3 ((ae.refl [M.next + 1] M1).put _ (.inr (by simp))) (fun x hx hm=>?_)) ((k0.trans k1).new _ (by omega))
 have:=(o1.blk x hx).1
 simp at hm; omega
def Nf (c:ai) : Prop:=∀ {M:RM} {m p body:Str} {n:Int} {hv bv hv' bv' : AV} {l:List Hd} {Q:ah},Sl HD M hv l→Sl HD M hv' l→Sl BY M bv body→Sl BY M bv' body→l.length≤1000 →
 (∀ M',ae [] M M'→Q (Bo true) M')→c [.agg [St m,St p,N .i64 n,hv,bv],.agg [St m,St p,N .i64 n,hv',bv']] M Q
theorem J6 {TM:Nat} : Nf fun args M Q=>∃ a0 a1,args=[a0,a1]∧qd TM a0 a1 M Q:=by
 intro M m p body n hv bv hv' bv' l Q hs hs' hb hb' hl hQ
 refine⟨_,_,rfl, ?_⟩
 unfold qd
 have ohv:=aC.one hs
 have obv:=aC.one hb
 have RV:=aC.one hs'
 have QT:=aC.one hb'
 rw[iL (by simp only[List.all_cons,List.all_nil,ohv,obv]; rfl) (by simp)]
 simp only[aR]
 rw[iL (by simp only[List.all_cons,List.all_nil,RV,QT]; rfl) (by simp)]
 simp only[aR]
 have k0:ae [] M ((M.push (.row [St m,St p,N .i64 n,hv,bv] false TM 0)).push (.row [St m,St p,N .i64 n,hv',bv'] false TM 0)):=((ae.refl _ _).push _).push _
 have n1:((M.push (.row [St m,St p,N .i64 n,hv,bv] false TM 0)).push (.row [St m,St p,N .i64 n,hv',bv'] false TM 0)).heap M.next=some (.row [St m,St p,N .i64 n,hv,bv] false TM 0):=by simp[RM.push]
 have n2:((M.push (.row [St m,St p,N .i64 n,hv,bv] false TM 0)).push (.row [St m,St p,N .i64 n,hv',bv'] false TM 0)).heap (M.push (.row [St m,St p,N .i64 n,hv,bv] false TM 0)).next=some (.row [St m,St p,N .i64 n,hv',bv'] false TM 0):=by simp[RM.push]
 have e2:(M.push (.row [St m,St p,N .i64 n,hv,bv] false TM 0)).next=M.next + 1:=rfl
 rw[e2] at n2 ⊢
 generalize (M.push (.row [St m,St p,N .i64 n,hv,bv] false TM 0)).push (.row [St m,St p,N .i64 n,hv',bv'] false TM 0)=M0 at *
 have a0:∀ {K:AV→Prop},aj M0 (.ptr M.next 0) K=K (St m):=aL n1 rfl
 have a1:∀ {K:AV→Prop},aj M0 (.ptr M.next 1) K=K (St p):=aL n1 rfl
 have a2:∀ {K:AV→Prop},aj M0 (.ptr M.next 2) K=K (N .i64 n):=aL n1 rfl
 have a3:∀ {K:AV→Prop},aj M0 (.ptr M.next 3) K=K hv:=aL n1 rfl
 have a4:∀ {K:AV→Prop},aj M0 (.ptr M.next 4) K=K bv:=aL n1 rfl
 have b0:∀ {K:AV→Prop},aj M0 (.ptr (M.next + 1) 0) K=K (St m):=aL n2 rfl
 have b1:∀ {K:AV→Prop},aj M0 (.ptr (M.next + 1) 1) K=K (St p):=aL n2 rfl
 have b2:∀ {K:AV→Prop},aj M0 (.ptr (M.next + 1) 2) K=K (N .i64 n):=aL n2 rfl
 have b3:∀ {K:AV→Prop},aj M0 (.ptr (M.next + 1) 3) K=K hv':=aL n2 rfl
 have b4:∀ {K:AV→Prop},aj M0 (.ptr (M.next + 1) 4) K=K bv':=aL n2 rfl
 have s1:Sl HD M0 hv l:=aC.keep hs k0 (by simp)
 have s2:Sl HD M0 hv' l:=aC.keep hs' k0 (by simp)
 have t1:∀ {K:AV→Prop},dI M0 bv K=K (St body):=Sl.str (aC.keep hb k0 (by simp))
 have t2:∀ {K:AV→Prop},dI M0 bv' K=K (St body):=Sl.str (aC.keep hb' k0 (by simp))
 have l1:∀ {K:AV→Prop},aU hv K=K (N .i64 (l.length:Int)):=aC.len s1
 have l2:∀ {K:AV→Prop},aU hv' K=K (N .i64 (l.length:Int)):=aC.len s2
 have es:∀ s:Str,(s != s)=false:=fun s=>by simp
 have ei:∀ s:Int,(s != s)=false:=fun s=>by simp
 simp only[jk,a0,b0,vD,es,ei,cB,dL,a1,b1,a2,b2,gM,a4,b4,t1,t2,a3,b3,l1,l2,aY]
 refine dG (fun z ys M3=>∃ i:Nat,z=l.length - i∧ys=[N .i64 (i:Int)]∧i≤l.length∧M3=M0) _ ⟨0,rfl,rfl,Nat.zero_le _,rfl⟩ ?_
 rintro next z ys M3 hnext ⟨i,rfl,rfl,hi,rfl⟩
 simp only[bz]
 rw[a3,l1,uW]
 refine dF (fun h=>?_) fun h=>?_
 ·have hlt:i<l.length:=by simpa using h
  obtain⟨c1,o1,_,_,EK,CL⟩:=s1.at 2 (i:Int) hlt
  obtain⟨c2,o2,_,_,LH,Ml⟩:=s2.at 2 (i:Int) hlt
  rw[a3,EK,ow]
  refine⟨_,CL, ?_⟩
  rw[b3,LH,ow]
  refine⟨_,Ml, ?_⟩
  rw[KC (cs:=HD.cells l[i]) (ds:=HD.cells l[i]) (r:=true) (by rfl) (by rfl) (by simp[HD,JE,JF])]
  simp only[show(true != true)=false from rfl,aY]
  rw[add1 (by omega)]
  exact hnext _ _ _ (by omega) ⟨i + 1,rfl,rfl,by omega,rfl⟩
 ·exact hQ _ k0
section
variable {w0:World} {hi:Iv w0}
theorem KG:Am 83 (ak 46):=by
 intro M v l Q h1 h2 h3
 obtain⟨a0,e,h⟩:=FO h1 h2 h3
 cases e
 exact tZ h
theorem DK:FN (ak 17):=by
 intro M hv bv m p body l Q h1 h2 h3 h4
 obtain⟨a0,e,h⟩:=Fs (T:=26) (TM:=39) KG h1 h2 h3 h4
 cases e
 exact tC h
theorem Oh:Nf (ak 16):=by
 intro M m p body n hv bv hv' bv' l Q h1 h2 h3 h4 h5 h6
 obtain⟨a0,a1,e,h⟩:=J6 (TM:=39) h1 h2 h3 h4 h5 h6
 cases e
 exact xH h
theorem K7 {f g:Prop→Prop} {k:Prop} : JZ (Bo true) true f g k=f k:=rfl
theorem LZ {M:RM} {v u:AV} {b more:Str} {Q:ah} (hB:M.base=base w0 hi) (hv:Bs M v b) (hu:Bs M u more) (hQ:∀ M',Q (Bo true) M') :
  ak 7 [v,u] M Q:=by
 refine oG ?_
 unfold lZ
 refine Oj (hi:=hi) hB fun M1 k1=>?_
 simp only[dh,Bool.not_true,aY]
 have v1:Bs M1 v b:=hv.keep k1 (by simp)
 have u1:Bs M1 u more:=hu.keep k1 (by simp)
 rw[v1.len,dS]
 cases h1:decide ((b.length:Int) > 20000) with
 | true=>simp only[dH,bW,bP]; exact hQ _
 | false =>
 simp only[cB,dL]
 rw[u1.len,dS]
 refine dF (fun _=>hQ _) fun h2=>?_
 have hbl:b.length≤20000:=by simp at h1; omega
 have hml:more.length≤20000:=by simp at h2; omega
 -- the second reading,whatever the first one was
 have second:∀ (M4:RM) (K:AV→AV→AV→RM→Prop),ae [] M1 M4 →
   (∀ m p l out r at2 hv' ov bk M6,fB (b++more)=.ok ((m,p,l,out),r)→at2≤(b++more).length→(b++more).drop at2=r→l.length≤32→Sl HD M6 hv' l→Sl BY M6 ov out→ae [] M4 M6→M6.heap bk=some (.row [St m,St p,hv',ov] false 26 0)→bk<M6.next →
    K (.ptr bk 0) (N .i64 (at2:Int)) (N .i64 0) M6) →
   (∀ (e:Nat) bk M6,fB (b++more)=.error e→(e=14∨e=15∨e=2)→K (.ptr bk 0) (N .i64 0) (N .i64 (e:Int)) M6) →
   (cz 5 0 [(N .u8 0)] [] fun r f=>aW r f M4 fun t28 Ct=>appW 5 1 1 [(N .u8 0)] false t28 v Ct fun t30 Fg=>appW 5 1 1 [(N .u8 0)] false t30 u Fg fun t32 Q8=>ak 11 [t32] Q8 fun t33 CF=>aD t33 0 fun t34=>aD t33 1 fun t35=>aD t33 2 fun t36=>aW (.row [(St []),(St []),(.sc (.slice none 0 0)),(.sc (.slice none 0 0))] false 26 0) (fun b=>.ptr b 0) CF fun t8 I9=>aH I9 t8 t34 4 fun FL=>K t8 t35 t36 FL):=by
  intro M4 K k4 hok Rt
  have v4:=v1.keep k4 (by simp)
  have u4:=u1.keep k4 (by simp)
  rw[Eh]
  simp only[aR (x:=.row [] false 5 0)]
  have k5:ae [] M4 (M4.push (.row [] false 5 0)):=(ae.refl _ _).push _
  refine lU (E:=BY) (Ow.lit BY M4) (by simp[RM.push]) (by decide) (v4.keep k5 (by simp)).sl (by simp; omega) (by simp; omega) fun w6 M6 o6 k6 _ _=>?_
  have k46:ae [] M4 M6:=ae.own k5 k6 (fun b hb=>by simp[aP] at hb; omega)
  refine lU (E:=BY) o6 k46.next (by decide) (u4.keep k46 (by simp)).sl (by simp; omega) (by simp; omega) fun w7 M7 o7 k7 _ _=>?_
  have k47:ae [] M4 M7:=ae.own k46 k7 (fun b hb=>(Own.blk o6 b hb).1)
  rw[List.nil_append] at o7
  refine vG (hi:=hi) ((k4.trans k47).base.trans (k1.base.trans hB)) (Bs.own o7) (by simp; omega) (fun m p l out r at2 hv' ov M8 e8 ha hr _ hl _ k8 oh ob=>?_) (fun e M8 e8 he k8=>?_)
  ·simp only[bg,bf,dJ]
   have c8:([St m,St p,hv',ov] : List AV).all oneCell=true:=by
    have h1:=Own.one oh; have h2:=Own.one ob
    simp only[List.all_cons,List.all_nil,h1,h2]; rfl
   refine uO (K:=fun t Iw=>_) 4 rfl rfl c8 fun M9 k9 n9 l9=>?_
   exact hok m p l out r at2 hv' ov _ M9 e8 ha hr hl (aC.keep oh.j3 k9 (by simp)) (aC.keep ob.j3 k9 (by simp)) (k47.trans (k8.trans k9)) n9 l9
  ·simp only[bg,bf,dJ]
   refine uO (K:=fun t Iw=>_) 4 rfl rfl rfl fun M9 k9 n9 l9=>?_
   exact Rt e _ M9 e8 he
 have e00:(((0:Int)) == 0)=true:=rfl
 refine vG (hi:=hi) (k1.base.trans hB) v1 (by omega) (fun m p l out r at2 hv' ov M2 e2 ha hr _ hl _ k2 oh ob=>?_) (fun e M2 e2 he k2=>?_)
 ·simp only[bg,bf,dJ]
  have c2:([St m,St p,hv',ov] : List AV).all oneCell=true:=by
   have h1:=Own.one oh; have h2:=Own.one ob
   simp only[List.all_cons,List.all_nil,h1,h2]; rfl
  refine uO (K:=fun t Iw=>_) 4 rfl rfl c2 fun M3 k3 n3 l3=>?_
  have sh3:Sl HD M3 hv' l:=aC.keep oh.j3 k3 (by simp)
  have sb3:Sl BY M3 ov out:=aC.keep ob.j3 k3 (by simp)
  have eB:=(sj b more).1 _ _ e2
  refine second M3 (fun t8 t35 t36 FL=>_) (k2.trans k3) (fun m' p' l' out' r' LG hv2 ov2 bk M6 e6 ha6 hr6 hl6 sh6 sb6 k6 n6 l6=>?_) (fun e bk M6 e6 _=>(oo eB e6).elim)
  have e6':=q9 eB e6
  simp only[Prod.mk.injEq] at e6'
  obtain⟨⟨rfl,rfl,rfl,rfl⟩,rfl⟩:=e6'
  have hat:LG=at2:=by
   have h1:=congrArg List.length hr6
   have h2:=congrArg List.length hr
   simp only[List.length_drop,List.length_append] at h1 h2 ha6
   omega
  subst hat
  have n36:=k6.aN n3 l3 (by simp)
  simp only[bq,e00,bP,ou,bW,beq_self_eq_true]
  rw[bH n36 (by rfl)]
  try simp only[ou]
  rw[bH n6 (by rfl)]
  try simp only[bU]
  refine DK (aC.keep sh3 k6 (by simp)) (by omega) (aC.keep sb3 k6 (by simp)) fun hw M7 s7 k7=>?_
  simp only[K7,bU]
  rw[bH (k7.aN n6 l6 (by simp)) (by rfl)]
  refine⟨rfl, ?_⟩
  refine DK (aC.keep sh6 k7 (by simp)) (by omega) (aC.keep sb6 k7 (by simp)) fun hw' M8 s8 k8=>?_
  refine Oh (aC.keep s7 k8 (by simp)) s8 (aC.keep (aC.keep sb3 k6 (by simp)) (k7.trans k8) (by simp)) (aC.keep sb6 (k7.trans k8) (by simp)) (by omega) fun M9 k9=>?_
  try simp only[bW,ou]
  rw[v1.len,nL]
  try simp only[bW]
  rw[show decide ((LG:Int)≤(b.length:Int))=true by simp; omega]
  exact hQ _
 ·simp only[bg,bf,dJ]
  refine uO (K:=fun t Iw=>_) 4 rfl rfl rfl fun M3 k3 n3 l3=>?_
  have e0:(((e:Nat) : Int) == 0)=false:=by rcases he with rfl | rfl | rfl <;> rfl
  refine second M3 (fun t8 t35 t36 FL=>_) (k2.trans k3) (fun m' p' l' out' r' LG hv2 ov2 bk M6 e6 ha6 hr6 hl6 sh6 sb6 k6 n6 l6=>?_) (fun e' bk M6 e6 he'=>?_)
  ·simp only[bq,e0,aY]
   rcases(sj b more).2 _ e2 with rfl | h
   ·have e15:(((15:Nat) : Int) == 15)=true:=rfl
    simp only[e15,dH,bW]
    exact hQ _
   ·exact(oo e6 h).elim
  ·simp only[bq,e0,aY]
   rcases(sj b more).2 _ e2 with rfl | h
   ·have e15:(((15:Nat) : Int) == 15)=true:=rfl
    simp only[e15,dH,bW]
    exact hQ _
   ·have:=NR h e6
    subst this
    cases h15:(((e:Nat) : Int) == 15) with
    | true=>simp only[dH,bW]; exact hQ _
    | false =>
      simp only[cB,bU,bW,dL,e00,beq_self_eq_true,bq]
      exact hQ _
end
end Go.Ab.Hw
namespace Go.Ab.Hw
open Go Go.Ab Go.RowKit Go.Proofs
open Go.Proofs.YtmjcgbaacndblaaGreatDoor
theorem wC {P:Program} {n:String} {d:DataW Unit} {r:List (String × DataW Unit)} {w:World} (h:laidMet P ((n,d) :: r) w) : laidMet P r w:=by
 obtain⟨ps,⟨g,t,cs,fuel,p,q,_,_,_,_,hs,rfl⟩,hnd,hall⟩:=h
 exact⟨q,hs,(List.nodup_append.1 hnd).2.1,fun b off hm=>hall b off (by simp[hm])⟩
theorem NL:Rows.httpwireKnownRow.laid=("math/bits.deBruijn32tab",Rows.laid_math_bits_deBruijn32tab) :: ("math/bits.deBruijn64tab",Lib.tabData .u8 IL) :: ("internal/strconv.uint64pow10",Lib.tabData .u64 Lib.pow10Tab) :: Rows.httpwireKnownRow.laid.drop 3:=by kernel_rfl
theorem inv_of (w:World) (h:laidMetH Tryz.prog Rows.httpwireKnownRow.laid w) (hsh:w.ShapedOpen Tryz.prog) : Iv w:=by
 rw[MakeChecks.laidMetH_plain _ _ _ (by kernel_rfl),NL] at h
 refine⟨cell_of_shapedOpen_int (g:=0) (t:=3) (zero := #[.int .i64 0]) hsh (by decide +kernel) (by kernel_rfl) (by kernel_rfl) (by kernel_rfl) (by kernel_rfl) (by kernel_rfl), ?_, ?_⟩
 ·exact Lib.tabIs_of_head (g:=3) (t:=152) (e:=126) (n:=20) g3 (by kernel_rfl) (by kernel_rfl) (by kernel_rfl) (by kernel_rfl) (by kernel_rfl) (wC (wC h))
 ·exact Lib.tabIs_of_head (g:=7) (t:=173) (e:=5) (n:=64) g7 (by kernel_rfl) (by kernel_rfl) (by kernel_rfl) (by kernel_rfl) (by kernel_rfl) (wC h)
theorem KP {P:Program} {M:RM} {t e:TypeId} {v:AV} (h:Fits P M t [v]) (hu:P.underlying t=some (.slice e)) (hz:0<P.cellsOf e) : Iy v:=by
 generalize hc:[v]=cs at h
 cases h with
 | Jk _ e' h1=>cases hc; trivial
 | emp _ e' b h1=>cases hc; trivial
 | slc _ e' b o n c ds h1 h2 h3 h4 h5 h6=>cases hc; exact h3
 | zero _ e' _ h1 h2=>rw[hu] at h1; cases h1; omega
 | _=>simp_all [wR]
theorem cells5:Tryz.prog.cellsOf 5=1:=by kernel_rfl
theorem Nk {M:RM} {cs:List AV} (h:Fits Tryz.prog M 5 cs) : ∃ k:UInt8,cs=[By k]:=by
 obtain⟨n,rfl,h1,h2⟩:=h.NF Tryz.underlying5
 have h1:(0:Int)≤n:=h1
 have h2:n≤(255:Int):=h2
 refine⟨UInt8.ofNat n.toNat, ?_⟩
 have:((UInt8.ofNat n.toNat).toNat:Int)=n:=by
  rw[UInt8.toNat_ofNat']
  omega
 rw[By,this]
theorem Bw {M:RM} {cs:List AV} (h:Fits Tryz.prog M 24 cs) : ∃ v,∃ bs:Str,cs=[v]∧Bs M v bs:=by
 obtain⟨v,n,ds,rfl,hs,hb,he⟩:=h.JO Tryz.underlying24 (by rw[cells5]; decide)
 have hc:=KP h Tryz.underlying24 (by rw[cells5]; decide)
 rw[cells5] at hs he
 obtain⟨xs,rfl,rfl,_⟩:=C9 (size:=1) BY.cells (fun _=>True) (fun _=>rfl) n ds hs.length fun i hi=>by
  obtain⟨k,e⟩:=Nk (he i hi)
  exact⟨k,trivial,e⟩
 exact⟨v,xs,rfl,hs,hc⟩
end Go.Ab.Hw
namespace Go.Proofs.YtmjcgbaacndblaaGreatDoor.httpwireGrows
open Go Go.Ab Go.ChangeShapes Go.WideShapes Go.ChangeAt Go.RowKit
theorem own:ownKnob Tryz.prog.godebug=none:=by kernel_rfl
open Go.Ab.Hw
def Inv (w:World) : Prop:=Iv w
theorem inv_of (w:World) (h:laidMetH Tryz.prog Rows.httpwireGrowsRow.laid w) (hsh:w.ShapedOpen Tryz.prog) : Inv w:=Go.Ab.Hw.inv_of w h hsh
theorem walk (w:World) (hi:Inv w) (v0 v1:Value) (h0:mi Tryz.prog (RM.old (base w hi) w) 24 (qW w.heap.size v0)) (h1:mi Tryz.prog (RM.old (base w hi) w) 24 (qW w.heap.size v1)) :
  Calls Tryz.prog 7 #[v0,v1] w fun e w'=>e=.returned (.bool true)∧Below w.heap.size w w':=by
 obtain⟨u0,b0,e0,g0⟩:=Bw (h0.one (by kernel_rfl))
 obtain⟨u1,b1,e1,g1⟩:=Bw (h1.one (by kernel_rfl))
 refine dE.close (base:=base w hi) rfl hi ?_
 simp only[List.map_cons,List.map_nil]
 rw[show qW (base w hi).n v0=u0 from(List.cons.inj e0).1,show qW (base w hi).n v1=u1 from(List.cons.inj e1).1]
 exact LZ (hi:=hi) rfl g0 g1 fun M'=>rfl
set_option maxRecDepth 100000 in
theorem lifted (os:Os) (started:os.Started) (H:Type) (enc:TypeId × Value→H) :
  ReturnsInHanded {} Tryz.checked os 7 .any (fun w args=>(Rows.httpwireGrowsSpec.pre enc Tryz.prog Tryz.f7 Rows.httpwireGrowsRow.domain false w args∧laidMetH Tryz.prog Rows.httpwireGrowsRow.laid w)∧sizedMet enc Tryz.prog Tryz.f7 (OpenSpec.ofChange Rows.httpwireGrowsSpec) false w args)
   (Rows.httpwireGrowsSpec.post enc Tryz.prog Tryz.f7 false true false false):=by
 refine yM (C:=Tryz.checked) (X:=fun w _=>laidMetH Tryz.prog Rows.httpwireGrowsRow.laid w) (fun _ _ _ hh h=>h.of_heap hh) own started (by kernel_rfl) Tryz.func7
  (ChangeSpec.witness_shaped (enc:=enc) (C:=Tryz.checked) (os:=os) (X:=fun w _=>laidMetH Tryz.prog Rows.httpwireGrowsRow.laid w) false (World.laidAll Tryz.prog os Rows.httpwireGrowsRow.laid) #[.slice none 0 0,.slice none 0 0] 8 (World.laidAll_os _ _ _)
   (World.shaped_of_ZipB (by kernel_rfl) (by kernel_rfl)) (by kernel_rfl) (by kernel_rfl) (by kernel_rfl)
   (by rw[MakeChecks.laidMetH_plain _ _ _ (by kernel_rfl)]; exact laidMet_laidAll _ (by kernel_rfl) (by kernel_rfl))) ?_
 intro W b0 args ds gs before hval hW hcnd hwt hL hsh _
 have hW':=hW
 obtain⟨p,q,hA,hV,rfl,hfz,hnd⟩:=hW
 rw[Tryz.params7] at hA hwt
 have hi:Inv W:=inv_of W hL hsh
 obtain⟨rfl,rfl⟩:=trodVars_none hV
 have hfit:=Fq (base:=base W hi) rfl hA (fun j t v hj hv=>hval j t v (by rw[Tryz.params7]; simpa using hj) (by simpa using hv)) (fun y hy=>by
  have Si:(DataW.weightsEach Tryz.prog [24,24] (ds++[])).all (· ≤ reachBytes)=true:=hwt
  have:=List.all_eq_true.1 Si y (by rw[List.append_nil]; exact hy)
  simpa using this)
 simp only[List.append_nil] at hW'
 have hlt:∀ x∈p,x.block<W.heap.size:=fun x hx=>hW'.lt x hx
 obtain⟨v0,v1,d0,d1,p0,p1,rfl,rfl,rfl,h0,h1⟩:=trodAll_two hA
 refine(walk W hi v0 v1 (hfit 0 _ _ rfl rfl) (hfit 1 _ _ rfl rfl)).mono fun e W' ⟨he,hg⟩=>?_
 subst he
 exact⟨_,rfl,D5 (pa:=_) (pv:=[]) hW' (fun _ _ _=>(trodAll_cons_mk (shut_bool Tryz.underlying4 _) trodAll_mk0)) (fun sp hsp=>by
   rw[Tryz.params7]
   exact vU (by kernel_rfl) hg (fun t ht=>by
    have ht:t=24∨t=24:=by simpa using ht
    rcases ht with rfl | rfl <;> exact⟨by kernel_rfl,of_decide_eq_true (by kernel_rfl)⟩) hA hlt hsp) (fun _ _=>rfl) (by simp)
  hg (ok_one (by kernel_rfl) rfl (okWide_bool_mk Tryz.underlying4 _))⟩
theorem over:Rows.HttpwireGrowsSaid :=
 OpenClaim.holds_of_wide 7 Tryz.f7 rfl rfl rfl rfl rfl rfl rfl ⟨rfl,rfl,rfl,rfl,rfl⟩ rfl rfl rfl rfl rfl (by kernel_rfl) Tryz.func7 (by kernel_rfl)
  (of_decide_eq_true (by kernel_rfl)) (by unfold Func.isWrapper; first | (rw[if_pos (by decide +kernel)]; kernel_rfl) | (rw[if_neg (by decide +kernel)]; exact⟨rfl,rfl⟩))
  (fun os started H enc _=>lifted os started H enc)
theorem proved:Rows.HttpwireGrowsCardSaid :=
 Claim7.holds_tied_plain_at .later [] [.data,.data,.data,.data,.sentinel,.sentinel,.pinned] true (true,"362dc9c824334cfe19c170802755e1a7d2dd71729a4e635eeb53d76f24be5b19") true
  over (fun _ h=>by cases h) (by kernel_rfl) (fun _ h=>by cases h) httpwireGrows_row_tie rfl ⟨rfl,rfl⟩ (by kernel_rfl) rfl
  (fun f fn hf hfn=>by
   obtain rfl:f=7:=Option.some.inj ((show Tryz.prog.funcNamed "rolodex/rolodexlaw17.HttpwireGrows" = some 7 by kernel_rfl).symm.trans hf) |>.symm
   obtain rfl:fn=Tryz.f7:=(Option.some.inj (Tryz.func7.symm.trans hfn)).symm
   exact⟨by kernel_rfl,fun j t ht=>by
    rw[Tryz.params7] at ht
    have hm:=Array.mem_of_getElem? ht
    have hm:t=24∨t=24:=by simpa using hm
    rcases hm with rfl | rfl
    ·exact(by kernel_rfl:Tryz.prog.wantsStandIn 24=false)
    ·exact(by kernel_rfl:Tryz.prog.wantsStandIn 24=false)⟩)
  (by kernel_rfl)
end Go.Proofs.YtmjcgbaacndblaaGreatDoor.httpwireGrows
