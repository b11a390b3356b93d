/- - 'HttpwirePipes' returns true, in whatever world it is called. By an AI agent. -/
import Derived.Test.YtmjcgbaacndblaaGreatDoorHwp4
import Derived.KernelRfl
import Derived.Test.YtmjcgbaacndblaaGreatDoorProg
import Derived.Lib.LaidTab
import Derived.Shelf.Vars
import Derived.Shelf.Strings.Split
import Derived.Shelf.Strings.SlTrimAscii
import Derived.Shelf.Strconv.Itoa3
import Derived.Shelf.Strconv.Atoi
import Derived.Lib.AtoiErrMem
import Derived.Shelf.Spec.TrailingZeros
import Derived.Shelf.Bytes.SlIndexWhole
import Derived.Test.YtmjcgbaacndblaaGreatDoorRows
import Derived.LaidMore
import Derived.Lay
import Derived.Test.YtmjcgbaacndblaaGreatDoorTie
import Derived.Test.YtmjcgbaacndblaaGreatDoorCards
import Derived.Carry
import Derived.WalkKit
import Derived.ProofKit
import Derived.OpenShut
import Derived.SevenTiedAt
import Derived.Stop.Joined
set_option maxRecDepth 100000
set_option linter.unusedVariables false
set_option linter.unusedSimpArgs false
namespace Go.Proofs.YtmjcgbaacndblaaGreatDoor
open Go Go.Ab
abbrev ak := @dL Tryz.prog
theorem RY:yC Tryz.prog:=⟨NP (by kernel_rfl),by kernel_rfl⟩
theorem bi {f:FuncId} {fn:Func} {args:List AV} {M:RM} {Q:ah} {B:Prop} (h:B) (hfn:Tryz.prog.funcs[f]?=some fn:=by kernel_rfl) (e:B=CF Tryz.prog fn args M Q:=by kernel_rfl) : ak f args M Q:=KY RY hfn (e▸h)
variable {a0 a1 a2 a3 a4 a5 a6 a7:AV} {M:RM} {Q:ah}
theorem oO (h:Go.Ab.Hw.mJ 26 (ak 10) (ak 12) (ak 19) 5 (ak 11) a0 a1 a2 a3 M Q) : ak 8 [a0,a1,a2,a3] M Q:=bi (fn:=Tryz.f8) h
theorem wP (h:Go.Ab.Hw.wI 56 26 (ak 12) 5 (ak 11) (ak 22) (ak 13) (ak 14) 34 (ak 23) 3 (ak 19)  M Q) : ak 10 [] M Q:=bi (fn:=Tryz.f10) h
theorem og (h:Go.Ab.Hw.iY 26 26 (ak 25) (ak 30) a0 M Q) : ak 11 [a0] M Q:=bi (fn:=Tryz.f11) h
theorem nL (h:Go.Ab.Hw.ik 26 (ak 31) (ak 33) (ak 32) a0 M Q) : ak 12 [a0] M Q:=bi (fn:=Tryz.f12) h
theorem mY (h:Go.Ab.Hw.gX 34 (ak 34) (ak 33) (ak 32) a0 M Q) : ak 13 [a0] M Q:=bi (fn:=Tryz.f13) h
theorem nM (h:Go.Ab.Hw.iw 34 35 (ak 25) (ak 30) a0 M Q) : ak 14 [a0] M Q:=bi (fn:=Tryz.f14) h
theorem qI (h:Go.Ab.Hw.jY 26 (ak 31) (ak 47) 3 5 (ak 49) 24 (ak 48) (ak 32) a0 a1 M Q) : ak 19 [a0,a1] M Q:=bi (fn:=Tryz.f19) h
theorem nS (h:Go.Ab.Hw.iV 26 (ak 55) a0 a1 M Q) : ak 22 [a0,a1] M Q:=bi (fn:=Tryz.f22) h
theorem nK (h:Go.Ab.Hw.iq 34 (ak 55) a0 a1 M Q) : ak 23 [a0,a1] M Q:=bi (fn:=Tryz.f23) h
theorem uB (h:Go.Ab.Hw.mQ (ak 56) (ak) (ak 57) 56 a0 a1 M Q) : ak 25 [a0,a1] M Q:=bi (fn:=Tryz.f25) h
theorem nI (h:Go.Ab.Hw.gY (ak 27) (ak 28) (ak 29) a0 a1 M Q) : ak 26 [a0,a1] M Q:=bi (fn:=Tryz.f26) h
theorem oU (h:Go.Ab.Hw.je (ak 59) (ak 37) 60 a0 M Q) : ak 28 [a0] M Q:=bi (fn:=Tryz.f28) h
theorem qd (h:Go.Ab.Hw.jR (ak 61) (ak 37) 62 a0 M Q) : ak 29 [a0] M Q:=bi (fn:=Tryz.f29) h
theorem uC (h:Go.Ab.Hw.nD (ak 63) (ak 64) (ak 65) (ak 59) (ak 37) 38 (ak 40) (ak 66) a0 a1 a2 M Q) : ak 30 [a0,a1,a2] M Q:=bi (fn:=Tryz.f30) h
theorem oo (h:Go.Ab.Hw.iN 26 (ak 28) (ak 29) a0 M Q) : ak 31 [a0] M Q:=bi (fn:=Tryz.f31) h
theorem qN (h:Go.Ab.Hw.kJ 56 (ak 67) (ak 68) (ak 64) 5 a0 a1 a2 a3 a4 M Q) : ak 32 [a0,a1,a2,a3,a4] M Q:=bi (fn:=Tryz.f32) h
theorem rE (h:Go.Ab.Hw.kI 56 (ak 34) a0 M Q) : ak 33 [a0] M Q:=bi (fn:=Tryz.f33) h
theorem mO (h:Go.Ab.Hw.gJ (ak 36) (ak 37) 38 39 (ak 40) a0 a1 M Q) : ak 35 [a0,a1] M Q:=bi (fn:=Tryz.f35) h
theorem qo (h:Go.Ab.Vl.jQ (ak 70) a0 a1 M Q) : ak 36 [a0,a1] M Q:=bi (fn:=Tryz.f36) h
theorem dB (h:Go.Ab.Hw.nT 5 (ak) a0 a1 M Q) : ak 37 [a0,a1] M Q:=bi (fn:=Tryz.f37) h
theorem uo (h:Go.Ab.Hw.mi a0 M Q) : ak 38 [a0] M Q:=bi (fn:=Tryz.f38) h
theorem lM (h:Go.Ab.Hw.fU a0 M Q) : ak 39 [a0] M Q:=bi (fn:=Tryz.f39) h
theorem zH (h:Go.Ab.Hw.uf 3 a0 M Q) : ak 47 [a0] M Q:=bi (fn:=Tryz.f47) h
theorem wQ (h:Go.Ab.Hw.pI 9 (ak 75) 5 a0 M Q) : ak 48 [a0] M Q:=bi (fn:=Tryz.f48) h
theorem qw (h:Go.Ab.Hw.nO (ak 76) a0 a1 M Q) : ak 49 [a0,a1] M Q:=bi (fn:=Tryz.f49) h
theorem tF (h:Go.Ab.Hw.mE (ak 63) a0 a1 M Q) : ak 55 [a0,a1] M Q:=bi (fn:=Tryz.f55) h
theorem uw (h:Go.Ab.Hw.nk 5 (ak 78) a0 a1 M Q) : ak 56 [a0,a1] M Q:=bi (fn:=Tryz.f56) h
theorem su (h:Go.Ab.Hw.lg 56 (ak 79) (ak 80) (ak 67) (ak 68) a0 M Q) : ak 57 [a0] M Q:=bi (fn:=Tryz.f57) h
theorem sj (h:Go.Ab.Hw.lq a0 a1 a2 M Q) : ak 59 [a0,a1,a2] M Q:=bi (fn:=Tryz.f59) h
theorem tO (h:Go.Ab.Hw.ma a0 M Q) : ak 60 [a0] M Q:=bi (fn:=Tryz.f60) h
theorem qg (h:Go.Ab.Vl.nN (ak 84) a0 a1 M Q) : ak 61 [a0,a1] M Q:=bi (fn:=Tryz.f61) h
theorem rJ (h:Go.Ab.Hw.kL a0 M Q) : ak 62 [a0] M Q:=bi (fn:=Tryz.f62) h
theorem ui (h:Go.Ab.Hw.mh 56 (ak 64) 9 a0 a1 M Q) : ak 63 [a0,a1] M Q:=bi (fn:=Tryz.f63) h
theorem tN (h:Go.Ab.Hw.mf 5 a0 M Q) : ak 64 [a0] M Q:=bi (fn:=Tryz.f64) h
theorem qO (h:Go.Ab.Hw.jZ (ak 85) 5 a0 a1 M Q) : ak 65 [a0,a1] M Q:=bi (fn:=Tryz.f65) h
theorem xM (h:Go.Ab.Dot.rF 5 a0 M Q) : ak 66 [a0] M Q:=bi (fn:=Tryz.f66) h
theorem qm (h:Go.Ab.Hw.jL (ak 59) (ak 64) (ak 37) 86 a0 M Q) : ak 67 [a0] M Q:=bi (fn:=Tryz.f67) h
theorem pF (h:Go.Ab.Hw.jy (ak 80) (ak 37) 87 a0 M Q) : ak 68 [a0] M Q:=bi (fn:=Tryz.f68) h
theorem jK (h:Go.Ab.Vl.eB (ak 84) a0 a1 M Q) : ak 70 [a0,a1] M Q:=bi (fn:=Tryz.f70) h
theorem zI (h:Go.Ab.Hw.tZ 9 5 a0 a1 M Q) : ak 75 [a0,a1] M Q:=bi (fn:=Tryz.f75) h
theorem lG (h:Go.Ab.Hw.fE (ak 93) 125 (ak 94) (ak 95) (ak 96) a0 a1 M Q) : ak 76 [a0,a1] M Q:=bi (fn:=Tryz.f76) h
theorem wS (h:Go.Ab.Vl.pG (ak 102) a0 a1 M Q) : ak 79 [a0,a1] M Q:=bi (fn:=Tryz.f79) h
theorem vT (h:Go.Ab.Vl.uI (ak 104) (ak 103) (ak 105) 135 (ak 107) (ak 106) (ak 109) (ak 108) a0 a1 M Q) : ak 80 [a0,a1] M Q:=bi (fn:=Tryz.f80) h
theorem jO (h:Go.Ab.Vl.ek a0 a1 M Q) : ak 84 [a0,a1] M Q:=bi (fn:=Tryz.f84) h
theorem uK (h:Go.Ab.Hw.ny 5 (ak 114) (ak 59) (ak 64) (ak 37) 115 (ak 116) a0 a1 M Q) : ak 85 [a0,a1] M Q:=bi (fn:=Tryz.f85) h
theorem oP (h:Go.Ab.Hw.jf (ak 38) a0 M Q) : ak 86 [a0] M Q:=bi (fn:=Tryz.f86) h
theorem ol (h:Go.Ab.Hw.iU a0 M Q) : ak 87 [a0] M Q:=bi (fn:=Tryz.f87) h
theorem kS (h:Go.Ab.Hw.fw 9 154 (ak 123) (ak 124) 5 a0 a1 a2 a3 a4 M Q) : ak 96 [a0,a1,a2,a3,a4] M Q:=bi (fn:=Tryz.f96) h
theorem mg (h:Go.Ab.Vl.gF (ak 113) a0 a1 M Q) : ak 102 [a0,a1] M Q:=bi (fn:=Tryz.f102) h
theorem lF (h:Go.Ab.Hw.bM (ak 131) 0 (EI Tryz.prog 132) (ak 100) (ak 133) a0 a1 M Q) : ak 113 [a0,a1] M Q:=bi (fn:=Tryz.f113) h
theorem zG (h:Go.Ab.Hw.uh (ak 78) a0 a1 M Q) : ak 114 [a0,a1] M Q:=bi (fn:=Tryz.f114) h
theorem sw (h:Go.Ab.Hw.lu (ak 38) a0 M Q) : ak 115 [a0] M Q:=bi (fn:=Tryz.f115) h
theorem pQ (h:Go.Ab.Hw.jM (ak 117) (ak 72) a0 a1 a2 M Q) : ak 116 [a0,a1,a2] M Q:=bi (fn:=Tryz.f116) h
theorem kZ (h:Go.Ab.Hw.fI 119 (ak 134) 5 (ak 135) a0 a1 a2 M Q) : ak 117 [a0,a1,a2] M Q:=bi (fn:=Tryz.f117) h
theorem jU (h:Go.Ab.Hw.eU a0 M Q) : ak 123 [a0] M Q:=bi (fn:=Tryz.f123) h
theorem jN (h:Go.Ab.Vl.gW (EI Tryz.prog 140) a0 a1 M Q) : ak 131 [a0,a1] M Q:=bi (fn:=Tryz.f131) h
theorem nu (h:Go.Ab.Hw.gZ a0 M Q) : ak 134 [a0] M Q:=bi (fn:=Tryz.f134) h
end Go.Proofs.YtmjcgbaacndblaaGreatDoor
namespace Go.Proofs
open Go.RowKit Go.Shelf
def Tryz.lays185_ren:Go.Shelf.Ren:=⟨fun | 185=>78 | 187=>97 | 115=>98 | 253=>99 | 224=>100 | 254=>101 | 255=>125 | 291=>126 | n=>n,fun | 37=>24 | 3=>3 | 4=>4 | 0=>0 | 5=>5 | 46=>60 | 9=>9 | 146=>157 | 51=>153 | n=>n,fun | 1=>0 | n=>n⟩
theorem Tryz.lays185:Go.Proofs.Lays.n185 Tryz.prog Tryz.lays185_ren where
 mixed:=by kernel_rfl
 f115:=Tryz.func98.trans (congrArg some (by kernel_rfl))
 f185:=Tryz.func78.trans (congrArg some (by kernel_rfl))
 f187:=Tryz.func97.trans (congrArg some (by kernel_rfl))
 f224:=Tryz.func100.trans (congrArg some (by kernel_rfl))
 f253:=Tryz.func99.trans (congrArg some (by kernel_rfl))
 f254:=Tryz.func101.trans (congrArg some (by kernel_rfl))
 f255:=Tryz.func125.trans (congrArg some (by kernel_rfl))
 f291:=Tryz.func126.trans (congrArg some (by kernel_rfl))
 t0:=Tryz.underlying0
 a0:=Tryz.isAgg0
 z0:=Tryz.sizeOf0
 v0:=Tryz.zeroValue0
 t3:=Tryz.underlying3
 a3:=Tryz.isAgg3
 z3:=Tryz.sizeOf3
 v3:=Tryz.zeroValue3
 t4:=Tryz.underlying4
 a4:=Tryz.isAgg4
 z4:=Tryz.sizeOf4
 v4:=Tryz.zeroValue4
 t5:=Tryz.underlying5
 a5:=Tryz.isAgg5
 z5:=Tryz.sizeOf5
 v5:=Tryz.zeroValue5
 t9:=Tryz.underlying9
 a9:=Tryz.isAgg9
 z9:=Tryz.sizeOf9
 v9:=Tryz.zeroValue9
 t37:=Tryz.underlying24
 a37:=Tryz.isAgg24
 z37:=Tryz.sizeOf24
 v37:=Tryz.zeroValue24
 t46:=Tryz.underlying60
 a46:=Tryz.isAgg60
 z46:=Tryz.sizeOf60
 v46:=Tryz.zeroValue60
 t51:=Tryz.underlying153
 a51:=Tryz.isAgg153
 z51:=Tryz.sizeOf153
 v51:=Tryz.zeroValue153
 t146:=Tryz.underlying157
 a146:=Tryz.isAgg157
 z146:=Tryz.sizeOf157
 v146:=Tryz.zeroValue157
 g1:=by kernel_rfl
def Tryz.lays146_ren:Go.Shelf.Ren:=⟨fun | 146=>27 | 221=>58 | 268=>81 | 138=>82 | 143=>83 | 195=>110 | 197=>111 | 218=>112 | 219=>113 | 260=>130 | 217=>131 | 225=>132 | 224=>100 | 267=>133 | 266=>140 | 314=>141 | n=>n,fun | 9=>9 | 31=>64 | 3=>3 | 4=>4 | 0=>0 | 105=>141 | 21=>21 | 5=>5 | 46=>60 | 119=>167 | 139=>170 | 138=>169 | 146=>157 | 51=>153 | n=>n,fun | 1=>0 | 3=>4 | 4=>5 | n=>n⟩
theorem Tryz.lays146:Go.Proofs.Lays.n146 Tryz.prog Tryz.lays146_ren where
 mixed:=by kernel_rfl
 f138:=Tryz.func82.trans (congrArg some (by kernel_rfl))
 f143:=Tryz.func83.trans (congrArg some (by kernel_rfl))
 f146:=Tryz.func27.trans (congrArg some (by kernel_rfl))
 f195:=Tryz.func110.trans (congrArg some (by kernel_rfl))
 f197:=Tryz.func111.trans (congrArg some (by kernel_rfl))
 f217:=Tryz.func131.trans (congrArg some (by kernel_rfl))
 f218:=Tryz.func112.trans (congrArg some (by kernel_rfl))
 f219:=Tryz.func113.trans (congrArg some (by kernel_rfl))
 f221:=Tryz.func58.trans (congrArg some (by kernel_rfl))
 f224:=Tryz.func100.trans (congrArg some (by kernel_rfl))
 f225:=Tryz.func132.trans (congrArg some (by kernel_rfl))
 f260:=Tryz.func130.trans (congrArg some (by kernel_rfl))
 f266:=Tryz.func140.trans (congrArg some (by kernel_rfl))
 f267:=Tryz.func133.trans (congrArg some (by kernel_rfl))
 f268:=Tryz.func81.trans (congrArg some (by kernel_rfl))
 f314:=Tryz.func141.trans (congrArg some (by kernel_rfl))
 t0:=Tryz.underlying0
 a0:=Tryz.isAgg0
 z0:=Tryz.sizeOf0
 v0:=Tryz.zeroValue0
 t3:=Tryz.underlying3
 a3:=Tryz.isAgg3
 z3:=Tryz.sizeOf3
 v3:=Tryz.zeroValue3
 t4:=Tryz.underlying4
 a4:=Tryz.isAgg4
 z4:=Tryz.sizeOf4
 v4:=Tryz.zeroValue4
 t5:=Tryz.underlying5
 a5:=Tryz.isAgg5
 z5:=Tryz.sizeOf5
 v5:=Tryz.zeroValue5
 t9:=Tryz.underlying9
 a9:=Tryz.isAgg9
 z9:=Tryz.sizeOf9
 v9:=Tryz.zeroValue9
 t21:=Tryz.underlying21
 a21:=Tryz.isAgg21
 z21:=Tryz.sizeOf21
 v21:=Tryz.zeroValue21
 t31:=Tryz.underlying64
 a31:=Tryz.isAgg64
 z31:=Tryz.sizeOf64
 v31:=Tryz.zeroValue64
 t46:=Tryz.underlying60
 a46:=Tryz.isAgg60
 z46:=Tryz.sizeOf60
 v46:=Tryz.zeroValue60
 t51:=Tryz.underlying153
 a51:=Tryz.isAgg153
 z51:=Tryz.sizeOf153
 v51:=Tryz.zeroValue153
 t105:=Tryz.underlying141
 a105:=Tryz.isAgg141
 z105:=Tryz.sizeOf141
 v105:=Tryz.zeroValue141
 t119:=Tryz.underlying167
 a119:=Tryz.isAgg167
 z119:=Tryz.sizeOf167
 t138:=Tryz.underlying169
 a138:=Tryz.isAgg169
 z138:=Tryz.sizeOf169
 v138:=Tryz.zeroValue169
 t139:=Tryz.underlying170
 a139:=Tryz.isAgg170
 z139:=Tryz.sizeOf170
 v139:=Tryz.zeroValue170
 t146:=Tryz.underlying157
 a146:=Tryz.isAgg157
 z146:=Tryz.sizeOf157
 v146:=Tryz.zeroValue157
 g1:=by kernel_rfl
 g3:=by kernel_rfl
 g4:=by kernel_rfl
def Tryz.lays160_ren:Go.Shelf.Ren:=⟨fun | 160=>80 | 232=>104 | 231=>103 | 227=>105 | 234=>107 | 233=>106 | 236=>109 | 235=>108 | 228=>127 | 271=>129 | 151=>128 | 197=>111 | 120=>139 | 152=>138 | 260=>130 | 137=>142 | 119=>143 | 224=>100 | 225=>132 | 217=>131 | 266=>140 | n=>n,fun | 9=>9 | 4=>4 | 3=>3 | 5=>5 | 117=>136 | 116=>135 | 0=>0 | 124=>139 | 21=>21 | 105=>141 | 46=>60 | 119=>167 | 139=>170 | 138=>169 | n=>n,fun | 3=>4 | 4=>5 | n=>n⟩
theorem Tryz.lays160:Go.Proofs.Lays.n160 Tryz.prog Tryz.lays160_ren where
 mixed:=by kernel_rfl
 f119:=Tryz.func143.trans (congrArg some (by kernel_rfl))
 f120:=Tryz.func139.trans (congrArg some (by kernel_rfl))
 f137:=Tryz.func142.trans (congrArg some (by kernel_rfl))
 f151:=Tryz.func128.trans (congrArg some (by kernel_rfl))
 f152:=Tryz.func138.trans (congrArg some (by kernel_rfl))
 f160:=Tryz.func80.trans (congrArg some (by kernel_rfl))
 f197:=Tryz.func111.trans (congrArg some (by kernel_rfl))
 f217:=Tryz.func131.trans (congrArg some (by kernel_rfl))
 f224:=Tryz.func100.trans (congrArg some (by kernel_rfl))
 f225:=Tryz.func132.trans (congrArg some (by kernel_rfl))
 f227:=Tryz.func105.trans (congrArg some (by kernel_rfl))
 f228:=Tryz.func127.trans (congrArg some (by kernel_rfl))
 f231:=Tryz.func103.trans (congrArg some (by kernel_rfl))
 f232:=Tryz.func104.trans (congrArg some (by kernel_rfl))
 f233:=Tryz.func106.trans (congrArg some (by kernel_rfl))
 f234:=Tryz.func107.trans (congrArg some (by kernel_rfl))
 f235:=Tryz.func108.trans (congrArg some (by kernel_rfl))
 f236:=Tryz.func109.trans (congrArg some (by kernel_rfl))
 f260:=Tryz.func130.trans (congrArg some (by kernel_rfl))
 f266:=Tryz.func140.trans (congrArg some (by kernel_rfl))
 f271:=Tryz.func129.trans (congrArg some (by kernel_rfl))
 t0:=Tryz.underlying0
 a0:=Tryz.isAgg0
 z0:=Tryz.sizeOf0
 v0:=Tryz.zeroValue0
 t3:=Tryz.underlying3
 a3:=Tryz.isAgg3
 z3:=Tryz.sizeOf3
 v3:=Tryz.zeroValue3
 t4:=Tryz.underlying4
 a4:=Tryz.isAgg4
 z4:=Tryz.sizeOf4
 v4:=Tryz.zeroValue4
 t5:=Tryz.underlying5
 a5:=Tryz.isAgg5
 z5:=Tryz.sizeOf5
 v5:=Tryz.zeroValue5
 t9:=Tryz.underlying9
 a9:=Tryz.isAgg9
 z9:=Tryz.sizeOf9
 v9:=Tryz.zeroValue9
 t21:=Tryz.underlying21
 a21:=Tryz.isAgg21
 z21:=Tryz.sizeOf21
 v21:=Tryz.zeroValue21
 t46:=Tryz.underlying60
 a46:=Tryz.isAgg60
 z46:=Tryz.sizeOf60
 v46:=Tryz.zeroValue60
 t105:=Tryz.underlying141
 a105:=Tryz.isAgg141
 z105:=Tryz.sizeOf141
 v105:=Tryz.zeroValue141
 t116:=Tryz.underlying135
 a116:=Tryz.isAgg135
 z116:=Tryz.sizeOf135
 t117:=Tryz.underlying136
 a117:=Tryz.isAgg136
 z117:=Tryz.sizeOf136
 v117:=Tryz.zeroValue136
 t119:=Tryz.underlying167
 a119:=Tryz.isAgg167
 z119:=Tryz.sizeOf167
 t124:=Tryz.underlying139
 a124:=Tryz.isAgg139
 z124:=Tryz.sizeOf139
 v124:=Tryz.zeroValue139
 t138:=Tryz.underlying169
 a138:=Tryz.isAgg169
 z138:=Tryz.sizeOf169
 v138:=Tryz.zeroValue169
 t139:=Tryz.underlying170
 a139:=Tryz.isAgg170
 z139:=Tryz.sizeOf170
 v139:=Tryz.zeroValue170
 g3:=by kernel_rfl
 g4:=by kernel_rfl
def Tryz.lays172_ren:Go.Shelf.Ren:=⟨fun | 172=>40 | 244=>71 | 245=>72 | 247=>88 | 279=>89 | 280=>90 | 281=>91 | 282=>92 | 287=>117 | 316=>118 | 171=>34 | 205=>119 | 321=>134 | 322=>135 | 243=>69 | 246=>76 | 283=>93 | 284=>94 | 285=>95 | 286=>96 | 129=>121 | 317=>120 | 318=>122 | 319=>123 | 320=>124 | 337=>136 | 338=>137 | n=>n,fun | 9=>9 | 3=>3 | 75=>77 | 76=>78 | 4=>4 | 5=>5 | 167=>119 | 37=>24 | 0=>0 | 85=>120 | 2=>2 | 168=>122 | 53=>126 | 175=>146 | 46=>60 | 210=>149 | 127=>161 | 145=>164 | 143=>162 | 21=>21 | 171=>125 | 173=>129 | 212=>152 | 51=>153 | 20=>20 | 213=>154 | 232=>172 | 233=>173 | 80=>175 | n=>n,fun | 15=>1 | 16=>2 | 17=>3 | 18=>6 | 19=>7 | n=>n⟩
theorem Tryz.lays172:Go.Proofs.Lays.n172 Tryz.prog Tryz.lays172_ren where
 mixed:=by kernel_rfl
 f129:=Tryz.func121.trans (congrArg some (by kernel_rfl))
 f171:=Tryz.func34.trans (congrArg some (by kernel_rfl))
 f172:=Tryz.func40.trans (congrArg some (by kernel_rfl))
 f205:=Tryz.func119.trans (congrArg some (by kernel_rfl))
 f243:=Tryz.func69.trans (congrArg some (by kernel_rfl))
 f244:=Tryz.func71.trans (congrArg some (by kernel_rfl))
 f245:=Tryz.func72.trans (congrArg some (by kernel_rfl))
 f246:=Tryz.func76.trans (congrArg some (by kernel_rfl))
 f247:=Tryz.func88.trans (congrArg some (by kernel_rfl))
 f279:=Tryz.func89.trans (congrArg some (by kernel_rfl))
 f280:=Tryz.func90.trans (congrArg some (by kernel_rfl))
 f281:=Tryz.func91.trans (congrArg some (by kernel_rfl))
 f282:=Tryz.func92.trans (congrArg some (by kernel_rfl))
 f283:=Tryz.func93.trans (congrArg some (by kernel_rfl))
 f284:=Tryz.func94.trans (congrArg some (by kernel_rfl))
 f285:=Tryz.func95.trans (congrArg some (by kernel_rfl))
 f286:=Tryz.func96.trans (congrArg some (by kernel_rfl))
 f287:=Tryz.func117.trans (congrArg some (by kernel_rfl))
 f316:=Tryz.func118.trans (congrArg some (by kernel_rfl))
 f317:=Tryz.func120.trans (congrArg some (by kernel_rfl))
 f318:=Tryz.func122.trans (congrArg some (by kernel_rfl))
 f319:=Tryz.func123.trans (congrArg some (by kernel_rfl))
 f320:=Tryz.func124.trans (congrArg some (by kernel_rfl))
 f321:=Tryz.func134.trans (congrArg some (by kernel_rfl))
 f322:=Tryz.func135.trans (congrArg some (by kernel_rfl))
 f337:=Tryz.func136.trans (congrArg some (by kernel_rfl))
 f338:=Tryz.func137.trans (congrArg some (by kernel_rfl))
 t0:=Tryz.underlying0
 a0:=Tryz.isAgg0
 z0:=Tryz.sizeOf0
 v0:=Tryz.zeroValue0
 t2:=Tryz.underlying2
 a2:=Tryz.isAgg2
 z2:=Tryz.sizeOf2
 v2:=Tryz.zeroValue2
 t3:=Tryz.underlying3
 a3:=Tryz.isAgg3
 z3:=Tryz.sizeOf3
 v3:=Tryz.zeroValue3
 t4:=Tryz.underlying4
 a4:=Tryz.isAgg4
 z4:=Tryz.sizeOf4
 v4:=Tryz.zeroValue4
 t5:=Tryz.underlying5
 a5:=Tryz.isAgg5
 z5:=Tryz.sizeOf5
 v5:=Tryz.zeroValue5
 t9:=Tryz.underlying9
 a9:=Tryz.isAgg9
 z9:=Tryz.sizeOf9
 v9:=Tryz.zeroValue9
 t20:=Tryz.underlying20
 a20:=Tryz.isAgg20
 z20:=Tryz.sizeOf20
 v20:=Tryz.zeroValue20
 t21:=Tryz.underlying21
 a21:=Tryz.isAgg21
 z21:=Tryz.sizeOf21
 v21:=Tryz.zeroValue21
 t37:=Tryz.underlying24
 a37:=Tryz.isAgg24
 z37:=Tryz.sizeOf24
 v37:=Tryz.zeroValue24
 t46:=Tryz.underlying60
 a46:=Tryz.isAgg60
 z46:=Tryz.sizeOf60
 v46:=Tryz.zeroValue60
 t51:=Tryz.underlying153
 a51:=Tryz.isAgg153
 z51:=Tryz.sizeOf153
 v51:=Tryz.zeroValue153
 t53:=Tryz.underlying126
 a53:=Tryz.isAgg126
 z53:=Tryz.sizeOf126
 v53:=Tryz.zeroValue126
 t75:=Tryz.underlying77
 a75:=Tryz.isAgg77
 z75:=Tryz.sizeOf77
 v75:=Tryz.zeroValue77
 t76:=Tryz.underlying78
 a76:=Tryz.isAgg78
 z76:=Tryz.sizeOf78
 v76:=Tryz.zeroValue78
 t85:=Tryz.underlying120
 a85:=Tryz.isAgg120
 z85:=Tryz.sizeOf120
 v85:=Tryz.zeroValue120
 t127:=Tryz.underlying161
 a127:=Tryz.isAgg161
 z127:=Tryz.sizeOf161
 v127:=Tryz.zeroValue161
 t143:=Tryz.underlying162
 a143:=Tryz.isAgg162
 z143:=Tryz.sizeOf162
 v143:=Tryz.zeroValue162
 t145:=Tryz.underlying164
 a145:=Tryz.isAgg164
 z145:=Tryz.sizeOf164
 v145:=Tryz.zeroValue164
 t167:=Tryz.underlying119
 a167:=Tryz.isAgg119
 z167:=Tryz.sizeOf119
 v167:=Tryz.zeroValue119
 t168:=Tryz.underlying122
 a168:=Tryz.isAgg122
 z168:=Tryz.sizeOf122
 v168:=Tryz.zeroValue122
 t171:=Tryz.underlying125
 a171:=Tryz.isAgg125
 z171:=Tryz.sizeOf125
 v171:=Tryz.zeroValue125
 t173:=Tryz.underlying129
 a173:=Tryz.isAgg129
 z173:=Tryz.sizeOf129
 v173:=Tryz.zeroValue129
 t175:=Tryz.underlying146
 a175:=Tryz.isAgg146
 z175:=Tryz.sizeOf146
 v175:=Tryz.zeroValue146
 t210:=Tryz.underlying149
 a210:=Tryz.isAgg149
 z210:=Tryz.sizeOf149
 v210:=Tryz.zeroValue149
 t212:=Tryz.underlying152
 a212:=Tryz.isAgg152
 z212:=Tryz.sizeOf152
 v212:=Tryz.zeroValue152
 t213:=Tryz.underlying154
 a213:=Tryz.isAgg154
 z213:=Tryz.sizeOf154
 t232:=Tryz.underlying172
 a232:=Tryz.isAgg172
 z232:=Tryz.sizeOf172
 v232:=Tryz.zeroValue172
 t233:=Tryz.underlying173
 a233:=Tryz.isAgg173
 z233:=Tryz.sizeOf173
 v233:=Tryz.zeroValue173
 g15:=by kernel_rfl
 g16:=by kernel_rfl
 g17:=by kernel_rfl
 g18:=by kernel_rfl
 g19:=by kernel_rfl
def Tryz.laysM171_ren:Go.Shelf.Ren:=⟨fun | 171=>34 | 243=>69 | 246=>76 | 283=>93 | 284=>94 | 285=>95 | 286=>96 | 129=>121 | 317=>120 | 318=>122 | 319=>123 | 320=>124 | 337=>136 | 338=>137 | n=>n,fun | 3=>3 | 9=>9 | 2=>2 | 4=>4 | 171=>125 | 0=>0 | 53=>126 | 37=>24 | 5=>5 | 173=>129 | 212=>152 | 51=>153 | 20=>20 | 213=>154 | 46=>60 | 232=>172 | 233=>173 | n=>n,fun | 17=>3 | 18=>6 | 19=>7 | n=>n⟩
theorem Tryz.laysM171:Go.Proofs.LaysM.n171 Tryz.prog Tryz.laysM171_ren where
 mixed:=by kernel_rfl
 f129:=Tryz.func121.trans (congrArg some (by kernel_rfl))
 f171:=Tryz.func34.trans (congrArg some (by kernel_rfl))
 f243:=Tryz.func69.trans (congrArg some (by kernel_rfl))
 f246:=Tryz.func76.trans (congrArg some (by kernel_rfl))
 f283:=Tryz.func93.trans (congrArg some (by kernel_rfl))
 f284:=Tryz.func94.trans (congrArg some (by kernel_rfl))
 f285:=Tryz.func95.trans (congrArg some (by kernel_rfl))
 f286:=Tryz.func96.trans (congrArg some (by kernel_rfl))
 f317:=Tryz.func120.trans (congrArg some (by kernel_rfl))
 f318:=Tryz.func122.trans (congrArg some (by kernel_rfl))
 f319:=Tryz.func123.trans (congrArg some (by kernel_rfl))
 f320:=Tryz.func124.trans (congrArg some (by kernel_rfl))
 f337:=Tryz.func136.trans (congrArg some (by kernel_rfl))
 f338:=Tryz.func137.trans (congrArg some (by kernel_rfl))
 t0:=Tryz.underlying0
 a0:=Tryz.isAgg0
 z0:=Tryz.sizeOf0
 v0:=Tryz.zeroValue0
 t2:=Tryz.underlying2
 a2:=Tryz.isAgg2
 z2:=Tryz.sizeOf2
 v2:=Tryz.zeroValue2
 t3:=Tryz.underlying3
 a3:=Tryz.isAgg3
 z3:=Tryz.sizeOf3
 v3:=Tryz.zeroValue3
 t4:=Tryz.underlying4
 a4:=Tryz.isAgg4
 z4:=Tryz.sizeOf4
 v4:=Tryz.zeroValue4
 t5:=Tryz.underlying5
 a5:=Tryz.isAgg5
 z5:=Tryz.sizeOf5
 v5:=Tryz.zeroValue5
 t9:=Tryz.underlying9
 a9:=Tryz.isAgg9
 z9:=Tryz.sizeOf9
 v9:=Tryz.zeroValue9
 t20:=Tryz.underlying20
 a20:=Tryz.isAgg20
 z20:=Tryz.sizeOf20
 v20:=Tryz.zeroValue20
 t37:=Tryz.underlying24
 a37:=Tryz.isAgg24
 z37:=Tryz.sizeOf24
 v37:=Tryz.zeroValue24
 t46:=Tryz.underlying60
 a46:=Tryz.isAgg60
 z46:=Tryz.sizeOf60
 v46:=Tryz.zeroValue60
 t51:=Tryz.underlying153
 a51:=Tryz.isAgg153
 z51:=Tryz.sizeOf153
 v51:=Tryz.zeroValue153
 t53:=Tryz.underlying126
 a53:=Tryz.isAgg126
 z53:=Tryz.sizeOf126
 v53:=Tryz.zeroValue126
 t171:=Tryz.underlying125
 a171:=Tryz.isAgg125
 z171:=Tryz.sizeOf125
 v171:=Tryz.zeroValue125
 t173:=Tryz.underlying129
 a173:=Tryz.isAgg129
 z173:=Tryz.sizeOf129
 v173:=Tryz.zeroValue129
 t212:=Tryz.underlying152
 a212:=Tryz.isAgg152
 z212:=Tryz.sizeOf152
 v212:=Tryz.zeroValue152
 t213:=Tryz.underlying154
 a213:=Tryz.isAgg154
 z213:=Tryz.sizeOf154
 t232:=Tryz.underlying172
 a232:=Tryz.isAgg172
 z232:=Tryz.sizeOf172
 v232:=Tryz.zeroValue172
 t233:=Tryz.underlying173
 a233:=Tryz.isAgg173
 z233:=Tryz.sizeOf173
 v233:=Tryz.zeroValue173
 g17:=by kernel_rfl
 g18:=by kernel_rfl
 g19:=by kernel_rfl
 i0:=by kernel_rfl
 i2:=by kernel_rfl
 i3:=by kernel_rfl
 i4:=by kernel_rfl
 i5:=by kernel_rfl
 i9:=by kernel_rfl
 i20:=by kernel_rfl
 i37:=by kernel_rfl
 i46:=by kernel_rfl
 i51:=by kernel_rfl
 i53:=by kernel_rfl
 i171:=by kernel_rfl
 i173:=by kernel_rfl
 i212:=by kernel_rfl
 i232:=by kernel_rfl
 i233:=by kernel_rfl
 m17:=by kernel_rfl
 m18:=by kernel_rfl
 m19:=by kernel_rfl
def Tryz.lays727_ren:Go.Shelf.Ren:=⟨fun | 27=>124 | 28=>136 | 29=>137 | n=>n,fun | 25=>60 | 3=>3 | 27=>153 | 22=>126 | 4=>4 | 53=>172 | 0=>0 | 5=>5 | 54=>173 | n=>n,fun | 0=>6 | 1=>7 | n=>n⟩
theorem Tryz.lays727:Go.Proofs.Lays7.n27 Tryz.prog Tryz.lays727_ren where
 mixed:=by kernel_rfl
 f27:=Tryz.func124.trans (congrArg some (by kernel_rfl))
 f28:=Tryz.func136.trans (congrArg some (by kernel_rfl))
 f29:=Tryz.func137.trans (congrArg some (by kernel_rfl))
 t0:=Tryz.underlying0
 a0:=Tryz.isAgg0
 z0:=Tryz.sizeOf0
 v0:=Tryz.zeroValue0
 i0:=by kernel_rfl
 t3:=Tryz.underlying3
 a3:=Tryz.isAgg3
 z3:=Tryz.sizeOf3
 v3:=Tryz.zeroValue3
 i3:=by kernel_rfl
 t4:=Tryz.underlying4
 a4:=Tryz.isAgg4
 z4:=Tryz.sizeOf4
 v4:=Tryz.zeroValue4
 i4:=by kernel_rfl
 t5:=Tryz.underlying5
 a5:=Tryz.isAgg5
 z5:=Tryz.sizeOf5
 v5:=Tryz.zeroValue5
 i5:=by kernel_rfl
 t22:=Tryz.underlying126
 a22:=Tryz.isAgg126
 z22:=Tryz.sizeOf126
 v22:=Tryz.zeroValue126
 i22:=by kernel_rfl
 t25:=Tryz.underlying60
 a25:=Tryz.isAgg60
 z25:=Tryz.sizeOf60
 v25:=Tryz.zeroValue60
 i25:=by kernel_rfl
 t27:=Tryz.underlying153
 a27:=Tryz.isAgg153
 z27:=Tryz.sizeOf153
 v27:=Tryz.zeroValue153
 i27:=by kernel_rfl
 t53:=Tryz.underlying172
 a53:=Tryz.isAgg172
 z53:=Tryz.sizeOf172
 v53:=Tryz.zeroValue172
 i53:=by kernel_rfl
 t54:=Tryz.underlying173
 a54:=Tryz.isAgg173
 z54:=Tryz.sizeOf173
 g0:=by kernel_rfl
 g1:=by kernel_rfl
end Go.Proofs
namespace Go.Ab.Hw
open Go Go.Ab Go.Ab.Sm Go.RowKit Go.Proofs
open Go.Proofs.YtmjcgbaacndblaaGreatDoor
open Go.Ab.Vl (gD)
abbrev Jq:List Int:=Lib.deBruijn64tab.map fun(n:Nat)=>(n:Int)
structure Iv (w:World) : Prop where
 mx:∃ m,w.cell? ⟨0,0,none⟩=some (.int .i64 m)
 p10:Lib.TabIs Tryz.prog w "internal/strconv.uint64pow10" .u64 Lib.pow10Tab
 db:Lib.TabIs Tryz.prog w "math/bits.deBruijn64tab" .u8 Jq
theorem Lb (w:World) (q:Nat) : Below w.heap.size w (w.drewN q):=⟨rfl,rfl,rfl,Nat.le_refl _,fun _ _=>rfl⟩
theorem LA (w:World) (q:Nat) (os:Array Obj) : Below w.heap.size w (Go.Sort.grow (w.drewN q) os) :=
 ⟨rfl,rfl,rfl,by first | (simp[Go.Sort.grow]; done) | (simp[Go.Sort.grow]; omega),fun i hi=>by
  show((w.drewN q).heap++os)[i]?=_
  rw[Array.getElem?_append_left (by show i<w.heap.size; omega)]
  rfl⟩
theorem PX {w:World} {b o:Nat} {v:Value} (h:w.cell? ⟨b,o,none⟩=some v) : b<w.heap.size:=by
 unfold World.cell? at h
 cases hb:w.heap[b]? with
 | none=>simp[hb] at h
 | some x=>exact(Array.getElem?_eq_some_iff.1 hb).1
theorem Nv {w w' : World} {b:Nat} (h:w'.heap[b]?=w.heap[b]?) (o:Nat) : w'.cell? ⟨b,o,none⟩=w.cell? ⟨b,o,none⟩:=by
 unfold World.cell?
 simp only[h]
theorem varLt {w:World} {n:String} {g:Nat} {vs:Array Value} (hg:Tryz.prog.globalNamed n=some g) (h:w.var? Tryz.prog n=some vs) : g<w.heap.size:=by
 unfold World.var? at h
 rw[hg] at h
 simp only[Option.bind_some] at h
 cases hb:w.heap[g]? with
 | none=>rw[hb] at h; cases h
 | some x=>exact(Array.getElem?_eq_some_iff.1 hb).1
theorem IP {w w' : World} {n:String} {g:Nat} (hg:Tryz.prog.globalNamed n=some g) (h:w'.heap[g]?=w.heap[g]?) : w'.var? Tryz.prog n=w.var? Tryz.prog n:=by
 unfold World.var?
 rw[hg]
 simp only[Option.bind_some,h]
theorem g3:Tryz.prog.globalNamed "internal/strconv.uint64pow10" = some 3:=by kernel_rfl
theorem g7:Tryz.prog.globalNamed "math/bits.deBruijn64tab" = some 7:=by kernel_rfl
def base (w:World) (hi:Iv w) : Base where
 n:=w.heap.size
 inv w':=Iv w'
 low u u' hlow hu:=by
  obtain⟨m0,hm0⟩:=hi.mx
  obtain⟨m,hm⟩:=hu.mx
  refine⟨⟨m,(Nv (hlow 0 (PX hm0)) 0).trans hm⟩, ?_, ?_⟩
  ·exact(IP g3 (hlow 3 (varLt g3 hi.p10))).trans hu.p10
  ·exact(IP g7 (hlow 7 (varLt g7 hi.db))).trans hu.db
theorem Iv.tab {w:World} (h:Iv w) : TabAt 7 Lib.deBruijn64tab w:=fun j hj=>by
 have:=h.db.cell g7 j (by simpa using hj)
 rw[this]
 congr 2
 simp only[Jq,List.getD_eq_getElem?_getD,List.getElem?_map,List.getElem?_eq_getElem hj]
 rfl
section
variable {w0:World} {hi:Iv w0}
theorem JV {M:RM} {ρ:Ren} {w:World} (hM:M.base=base w0 hi) (hw:bq Tryz.prog ρ M w) : Iv w:=by
 have:=bq.inv hw
 rw[hM] at this
 exact this
theorem KX {M:RM} {s:List UInt8} {x:UInt8} : Iw Tryz.prog 140 [St s,By x] M (N .i64 (Lib.indexByte s x)):=by
 intro ρ w us hus hw
 cases hus with
 | cons _ u1 _ us r1 hus =>
 cases hus with
 | cons _ u2 _ us r2 hus =>
 cases hus
 obtain⟨rfl,_⟩:=aB r1
 obtain⟨rfl,_⟩:=aB r2
 refine⟨.int .i64 (Lib.indexByte s x), ?_,.sc _ rfl⟩
 refine uP (fn:=Tryz.f140) (s:=Extern.BytealgIndexByte.indexByte) (by kernel_rfl) (RY.ng 140 Tryz.f140 (by kernel_rfl)) (by kernel_rfl) (by kernel_rfl) (by kernel_rfl) (fun w=>?_) w
 rw[Lib.run_indexByteString]
 congr 2
 simp
theorem Qz:gD (ak 131):=by
 intro M s x Q hQ
 refine jN ?_
 unfold Go.Ab.Vl.gW
 exact .inr (.inr (.inr (.inl ⟨_,KX,hQ⟩)))
theorem Ty {M:RM} {Q:ah} (hB:M.base=base w0 hi) (hQ:Q (N .i64 4) M) : ak 124 [N .u64 16] M Q:=by
 refine dL.r9 (v:=N .i64 4) ⟨Tryz.f124,_,Tryz.func124,rfl⟩ (fun ρ w us hus hw=>?_) hQ
 cases hus with
 | cons _ u1 _ us r1 hus =>
 cases hus
 obtain⟨rfl,_⟩:=aB r1
 refine(Any7.bits_TrailingZeros Tryz.lays727 16 (by decide) w (fun _=>(JV hB hw).tab)).mono fun e w' ⟨he,hb⟩=>⟨_,he,by rw[hb]; exact Below.refl _ _, ?_⟩
 exact .sc _ rfl
theorem K5:ES (base w0 hi) (ak 80):=by
 intro M s Q hB hl hQ
 cases s with
 | nil =>
   refine vT ?_
   unfold Go.Ab.Vl.uI
   simp only[dS,dx]
   rw[show(([] : List UInt8) == [])=true from rfl]
   simp only[dH,bY,bF]
   exact hQ M (ae.refl _ _)
 | cons x s =>
   have hasc:∀ (j:Nat) b,(⟨⟨[32,9]⟩⟩ : ByteArray).data.toList[j]?=some b→b.toNat<128:=fun j b h=>by
    have hm:b∈([32,9] : List UInt8):=List.mem_of_getElem? h
    simp at hm
    rcases hm with rfl | rfl <;> decide
   refine dL.r9 (v:=St (trimB (x :: s))) ⟨Tryz.f80,_,Tryz.func80,rfl⟩ (fun ρ w us hus hw=>?_) (hQ M (ae.refl _ _))
   cases hus with
   | cons _ u1 _ us r1 hus =>
   cases hus with
   | cons _ u2 _ us r2 hus =>
   cases hus
   obtain⟨rfl,_⟩:=aB r1
   obtain⟨rfl,_⟩:=aB r2
   refine(Any.strings_Trim_set Tryz.lays160 Tryz.zeroValue135 (by kernel_rfl) ⟨⟨x :: s⟩⟩ ⟨⟨[32,9]⟩⟩ w (by decide) (by show 0<(x :: s).length; simp) (by show(x :: s).length≤_; omega) (by decide) hasc).mono fun e w' ⟨he,q,hb⟩=>⟨_,he, ?_,.sc _ rfl⟩
   rw[hb]
   have h1:=(Below.refl w.heap.size w).alloc (Nat.le_refl _) (.cells (Lib.setCells [32,9]) (Tryz.lays160_ren.t 116))
   have h2:=h1.alloc h1.size (.cells (Lib.setCells [32,9]) (Tryz.lays160_ren.t 116))
   exact⟨h2.os,h2.tape,h2.output,h2.size,h2.block⟩
theorem xB:∀ (s:Str) (acc:Nat),s.all dM=true→Lib.decFrom acc s=some (s.foldl (fun n x=>n * 10 + (x.toNat - 48)) acc)
 | [],acc,_=>rfl
 | x :: s,acc,h=>by
   simp only[List.all_cons,Bool.and_eq_true] at h
   have hx:=h.1
   unfold dM at hx
   simp only[Bool.and_eq_true,decide_eq_true_eq] at hx
   have hd:Lib.digitVal x=some (x.toNat - 48):=by unfold Lib.digitVal; rw[if_pos (by omega)]
   rw[Lib.decFrom,hd]
   exact xB s _ h.2
theorem LP:Ky (ak 40):=by
 intro M s Q h1 h9 hd hQ
 have ha:Lib.atoi s=some ((gM s:Nat) : Int):=by
  cases s with
  | nil=>simp at h1
  | cons x s =>
    have hx:dM x=true:=by simp only[List.all_cons,Bool.and_eq_true] at hd; exact hd.1
    unfold dM at hx
    simp only[Bool.and_eq_true,decide_eq_true_eq] at hx
    have e1:(x == 45)=false:=by
     cases h:x == 45
     ·rfl
     ·have:x=45:=by simpa using h
      subst this; simp at hx
    have e2:(x == 43)=false:=by
     cases h:x == 43
     ·rfl
     ·have:x=43:=by simpa using h
      subst this; simp at hx
    unfold Lib.atoi
    simp only[e1,e2,Bool.false_eq_true,if_false]
    unfold Lib.decNat
    simp only[List.isEmpty_cons,Bool.false_eq_true,if_false,xB _ _ hd,Option.map_some]
    rfl
 refine dL.r9 (v:=.tup [N .i64 (gM s:Int),.sc .nilIface]) ⟨Tryz.f40,_,Tryz.func40,rfl⟩ (fun ρ w us hus hw=>?_) (hQ M (ae.refl _ _))
 cases hus with
 | cons _ u1 _ us r1 hus =>
 cases hus
 obtain⟨rfl,_⟩:=aB r1
 refine(Any.strconv_Atoi Tryz.lays172 ⟨⟨s⟩⟩ _ (by show s.length≤_; omega) ha w).mono fun e w' ⟨he,t,hb⟩=>⟨_,he, ?_,.tup _ _ (.cons _ _ _ _ (.sc _ rfl) (.cons _ _ _ _ (.sc _ rfl) .nil))⟩
 rw[hb]
 exact Lib.bytesWorld_below w _ t
theorem wH:∀ (f n:Nat),n<10 ^ f→1≤f→Lib.decDigits n=lH 10 f n
 | 0,n,h,h1=>by omega
 | f + 1,n,h,_=>by
   rw[Lib.decDigits]
   by_cases hn:n<10
   ·rw[dif_pos hn,qh hn]
    unfold eX; rw[if_pos hn]
   ·rw[dif_neg hn,vO hn]
    have hf:1≤f:=by
     rcases Nat.eq_zero_or_pos f with e | e
     ·subst e; simp at h; omega
     ·exact e
    rw[wH f (n / 10) (by rw[Nat.pow_succ] at h; exact Nat.div_lt_of_lt_mul (by rw[Nat.mul_comm]; exact h)) hf]
    unfold eX
    rw[if_pos (Nat.mod_lt _ (by decide))]
theorem Ls:Kb (base w0 hi) (ak 34):=by
 intro M n Q hB hn hQ
 refine dL.r9 (v:=St (dY n)) ⟨Tryz.f34,_,Tryz.func34,rfl⟩ (fun ρ w us hus hw=>?_) (hQ M (ae.refl _ _))
 cases hus with
 | cons _ u1 _ us r1 hus =>
 cases hus
 obtain⟨rfl,_⟩:=aB r1
 refine(Any.strconv_Itoa Tryz.laysM171 (n:Int) (by omega) (by omega) w (JV hB hw).p10).mono fun e w' ⟨he,k,os,hb⟩=>⟨_,he, ?_, ?_⟩
 ·rw[hb]
  exact LA w k os
 ·have:Lib.itoa (n:Int)=dY n:=by
   unfold Lib.itoa dY
   rw[if_neg (by omega),Int.toNat_natCast]
   exact wH 20 n (Nat.lt_of_lt_of_le hn (by decide)) (by decide)
  rw[this]
  exact .sc _ rfl
theorem Iz {P:Program} {ρ:Ren} {M:RM} {w:World} {v:AV} {s:Str} {u:Value} (hw:bq P ρ M w) (hb:Bs M v s) (hv:ag ρ v u) :
  (u=.slice none 0 0∧s=[])∨∃ a c,u=.slice (some a) s.length c∧s.length≤c∧∀ i,i<s.length→w.cell? (a.add i)=some (.int .u8 ((s.map fun x=>(x.toNat:Int)).getD i 0)):=by
 obtain⟨hs,hc⟩:=hb
 unfold Sl at hs
 generalize hn:s.length=n at *
 generalize hcs:BY.row s=cs at *
 cases hs with
 | nil =>
   obtain⟨rfl,_⟩:=aB hv
   exact .inl ⟨rfl,List.length_eq_zero_iff.1 hn⟩
 | emp b =>
   cases hv with
   | emp _ a c=>exact .inr ⟨a,c,rfl,Nat.zero_le _,fun i hi=>absurd hi (Nat.not_lt_zero _)⟩
 | slc b o _ cap _ hlt hld =>
   obtain⟨i0,c,hb,hu⟩:=Ab.dm hv
   have hcap:n≤c:=by
    cases cap with
    | ex k =>
      have hk:n≤k:=hc
      cases hv with
      | fV _ _ _ _ j hj =>
        injection hu with _ _ h6
        omega
    | op e =>
      obtain⟨k,j,_,_,_,h4,h5⟩:=AR hv
      rw[hu] at h5
      injection h5 with _ _ h6
      omega
   subst hu
   refine .inr ⟨⟨i0.cb,i0.sh + o,none⟩,c,rfl,hcap,fun i hi=>?_⟩
   ·subst hcs
    have TY:M.loads b o (n * 1)=some (BY.row s):=hld
    have h1:=sW TY i 1 (by omega)
    have hi' : i<s.length:=by omega
    have e1:((BY.row s).drop i).take 1=[By s[i]]:=by
     have:=Enc.CX (E:=BY) hi'
     simpa [BY] using this
    rw[e1] at h1
    obtain⟨x,hx,hcell⟩:=wZ hw hb h1
    obtain⟨rfl,_⟩:=aB hx
    have ea:(⟨i0.cb,i0.sh + o,none⟩ : Addr).add i=⟨i0.cb,i0.sh + (o + i),none⟩:=by
     unfold Addr.add
     split
     ·rename_i e; subst e; rfl
     ·simp[Nat.add_assoc]
    rw[ea,hcell]
    simp[List.getD_eq_getElem?_getD,List.getElem?_eq_getElem hi']
theorem bytesOf_map (s:Str) : Lib.bytesOf (s.map fun x=>(x.toNat:Int))=s:=by
 unfold Lib.bytesOf
 rw[List.map_map]
 conv=>rhs; rw[← List.map_id s]
 apply List.map_congr_left
 intro x _
 simp
theorem Ik:BD (base w0 hi) (ak 78):=by
 intro M v w s Q hB hv hw hl hQ
 refine dL.r9 (v:=N .i64 (Lib.index s [13,10])) ⟨Tryz.f78,_,Tryz.func78,rfl⟩ (fun ρ W us hus hW=>?_) hQ
 cases hus with
 | cons _ u1 _ us r1 hus =>
 cases hus with
 | cons _ u2 _ us r2 hus =>
 cases hus
 obtain⟨m,hm⟩:=(JV hB hW).mx
 rcases Iz hW hw r2 with⟨_,h⟩ | ⟨a2,c2,rfl,hc2,hx2⟩
 ·cases h
 rcases Iz hW hv r1 with⟨rfl,rfl⟩ | ⟨a1,c1,rfl,hc1,hx1⟩
 ·refine(Any.bytes_Index_nil Tryz.lays185 (some a2) 2 c2 W (by decide) (fun h=>by cases h)).mono fun e w' ⟨he,hb⟩=>⟨_,he,by rw[hb]; exact Below.refl _ _, ?_⟩
  exact .sc _ rfl
 ·have hr:∀ (t:Str),∀ x∈t.map (fun x:UInt8=>(x.toNat:Int)),0≤x∧x<256:=fun t x hx=>by
   rw[List.mem_map] at hx
   obtain⟨y,_,rfl⟩:=hx
   have:=y.toNat_lt
   omega
  have:=Any.bytes_Index_at Tryz.lays185 a1 a2 s.length c1 2 c2 (s.map fun x=>(x.toNat:Int)) (([13,10] : Str).map fun x=>(x.toNat:Int)) m W (by simp) (by simp) (hr s) (hr _) hx1 hx2 hc1 (by omega) (by decide) hm
  rw[bytesOf_map,bytesOf_map] at this
  refine this.mono fun e w' ⟨he,q,hb⟩=>⟨_,he,by rw[hb]; exact(Lb W q), ?_⟩
  exact .sc _ rfl
theorem Lx (ρ' : Ren) : ∀ l:List ByteArray,aD ρ' (nE.row (l.map (·.data.toList))) (l.map Value.string)
 | []=>.nil
 | b :: l=>.cons _ _ _ _ (.sc _ (by rfl)) (Lx ρ' l)
theorem Kw (s:Str) : s.count 32=Lib.countB ⟨⟨s⟩⟩ ⟨⟨[32]⟩⟩:=(Lib.count_one 32 s).symm
theorem Oz:GI (base w0 hi) 9 (ak 27):=by
 intro M s Q hB hl hQ
 refine dL.Qx (cs:=nE.row (words 32 s)) (n:=(words 32 s).length) ⟨Tryz.f27,_,Tryz.func27,rfl⟩ (by kernel_rfl) (nE.qC _) (by rw[Enc.fH]; simp[nE]) (fun ρ w us hus hw=>?_) (fun v M' o k=>hQ v M' (Own.mono o (Nat.le_refl _)) k)
 cases hus with
 | cons _ u1 _ us r1 hus =>
 cases hus with
 | cons _ u2 _ us r2 hus =>
 cases hus
 obtain⟨rfl,_⟩:=aB r1
 obtain⟨rfl,_⟩:=aB r2
 obtain⟨m,hm⟩:=(JV hB hw).mx
 refine(Any.strings_Split Tryz.lays146 (by kernel_rfl) ⟨⟨s⟩⟩ ⟨⟨[32]⟩⟩ m w (by show s.length<_; omega) hm (by decide)).mono fun e w' ⟨he,hb⟩=>?_
 have hd:(Lib.splitB ⟨⟨[32]⟩⟩ 0 (Lib.countB ⟨⟨s⟩⟩ ⟨⟨[32]⟩⟩) ⟨⟨s⟩⟩).map (·.data.toList)=words 32 s:=by
  rw[Lib.splitB_data]
  exact xO 32 _ s (Kw s)
 have hlen:(Lib.splitB ⟨⟨[32]⟩⟩ 0 (Lib.countB ⟨⟨s⟩⟩ ⟨⟨[32]⟩⟩) ⟨⟨s⟩⟩).length=Lib.countB ⟨⟨s⟩⟩ ⟨⟨[32]⟩⟩ + 1:=Lib.splitB_all ⟨⟨[32]⟩⟩ (by decide) 0 _ _ rfl
 generalize Lib.splitB ⟨⟨[32]⟩⟩ 0 (Lib.countB ⟨⟨s⟩⟩ ⟨⟨[32]⟩⟩) ⟨⟨s⟩⟩=l at *
 rw[← hlen] at he
 have hwl:(words 32 s).length=l.length:=by rw[← hd]; simp
 refine⟨_,l.map Value.string,he,⟨by simp[hwl],.inr ⟨w.heap.size,l.length,(l.map Value.string).toArray,by rw[hwl],Nat.le_refl _, ?_,Nat.le_of_eq hwl, ?_,by simp, ?_⟩⟩,fun ρ'=>?_, ?_⟩
 ·rw[hb]
  show(w.heap.push _)[w.heap.size]?=_
  rw[Array.getElem?_push_size]
  rfl
 ·have:=Lib.countB_le ⟨⟨[32]⟩⟩ (by decide) s.length ⟨⟨s⟩⟩ (Nat.le_refl _)
  have h2:maxLen=9223372036854775807:=rfl
  have h3:(⟨⟨s⟩⟩ : ByteArray).size=s.length:=rfl
  omega
 ·exact List.take_of_length_le (by simp[hwl])
 ·rw[← hd]
  exact Lx ρ' l
 ·rw[hb]; exact(Below.refl _ _).alloc (Nat.le_refl _) _
end
end Go.Ab.Hw
namespace Go.Ab.Hw
open Go Go.Ab Go.Ab.Sm Go.RowKit Go.Proofs
open Go.Proofs.YtmjcgbaacndblaaGreatDoor
open Go.Ab.Vl (gD kV)
section
variable {w0:World} {hi:Iv w0}
theorem CR:oK dM (ak 38):=by
 intro M x Q hQ
 obtain⟨a0,e,h⟩:=Kk hQ
 cases e
 exact uo h
theorem OE:oK oN (ak 60):=by
 intro M x Q hQ
 obtain⟨a0,e,h⟩:=J5 hQ
 cases e
 exact tO h
theorem Lp:oK xE (ak 62):=by
 intro M x Q hQ
 obtain⟨a0,e,h⟩:=FC hQ
 cases e
 exact rJ h
theorem is32:oK p32 (ak 39):=by
 intro M x Q hQ
 obtain⟨a0,e,h⟩:=MI hQ
 cases e
 exact lM h
theorem Rq:oK ru (ak 87):=by
 intro M x Q hQ
 obtain⟨a0,e,h⟩:=NI hQ
 cases e
 exact ol h
theorem Qn:oK sJ (ak 86):=by
 intro M x Q hQ
 obtain⟨a0,e,h⟩:=Kh CR hQ
 cases e
 exact oP h
theorem Rl:oK jE (ak 115):=by
 intro M x Q hQ
 obtain⟨a0,e,h⟩:=KV CR hQ
 cases e
 exact sw h
theorem KF:lc dM (.fn (.func 38) [] []) (ak 37):=by
 intro M s Q hl hQ
 obtain⟨a0,a1,e,h⟩:=lZ (T8:=5) (g:=38) (p:=dM) (cv:=ak) CR hl hQ
 cases e
 exact dB h
theorem ND:lc oN (.fn (.func 60) [] []) (ak 37):=by
 intro M s Q hl hQ
 obtain⟨a0,a1,e,h⟩:=lZ (T8:=5) (g:=60) (p:=oN) (cv:=ak) OE hl hQ
 cases e
 exact dB h
theorem QB:lc xE (.fn (.func 62) [] []) (ak 37):=by
 intro M s Q hl hQ
 obtain⟨a0,a1,e,h⟩:=lZ (T8:=5) (g:=62) (p:=xE) (cv:=ak) Lp hl hQ
 cases e
 exact dB h
theorem QW:lc p32 (.fn (.func 39) [] []) (ak 37):=by
 intro M s Q hl hQ
 obtain⟨a0,a1,e,h⟩:=lZ (T8:=5) (g:=39) (p:=p32) (cv:=ak) is32 hl hQ
 cases e
 exact dB h
theorem PR:lc ru (.fn (.func 87) [] []) (ak 37):=by
 intro M s Q hl hQ
 obtain⟨a0,a1,e,h⟩:=lZ (T8:=5) (g:=87) (p:=ru) (cv:=ak) Rq hl hQ
 cases e
 exact dB h
theorem O0:lc sJ (.fn (.func 86) [] []) (ak 37):=by
 intro M s Q hl hQ
 obtain⟨a0,a1,e,h⟩:=lZ (T8:=5) (g:=86) (p:=sJ) (cv:=ak) Qn hl hQ
 cases e
 exact dB h
theorem Ql:lc jE (.fn (.func 115) [] []) (ak 37):=by
 intro M s Q hl hQ
 obtain⟨a0,a1,e,h⟩:=lZ (T8:=5) (g:=115) (p:=jE) (cv:=ak) Rl hl hQ
 cases e
 exact dB h
theorem uD:Ah (ak 64):=by
 intro M s Q hl hQ
 obtain⟨a0,e,h⟩:=CE (T8:=5) hl hQ
 cases e
 exact tN h
theorem vY:qB (ak 59):=by
 intro M s a b Q hQ
 obtain⟨a0,a1,a2,e,h⟩:=Hg hQ
 cases e
 exact sj h
theorem NW:lW dP (ak 67):=by
 intro M s Q hl hQ
 obtain⟨a0,e,h⟩:=wJ vY uD O0 hl hQ
 cases e
 exact qm h
theorem KM:Cq (base w0 hi) bQ (ak 68):=by
 intro M s Q hB hl hQ
 obtain⟨a0,e,h⟩:=uH K5 PR hB hl hQ
 cases e
 exact pF h
theorem IQ:lW fK (ak 28):=by
 intro M s Q hl hQ
 obtain⟨a0,e,h⟩:=Cf vY ND hl hQ
 cases e
 exact oU h
theorem Od:A7 (ak 84):=by
 intro M s q Q hQ
 obtain⟨a0,a1,e,h⟩:=Ew hQ
 cases e
 exact jO h
theorem RG:A7 (ak 61):=by
 intro M s q Q hQ
 obtain⟨a0,a1,e,h⟩:=NR Od hQ
 cases e
 exact qg h
theorem Oj:lW ic (ak 29):=by
 intro M s Q hl hQ
 obtain⟨a0,e,h⟩:=Eu RG QB hl hQ
 cases e
 exact qd h
theorem Q7:qD (ak 70):=by
 intro M s q Q hQ
 obtain⟨a0,a1,e,h⟩:=AO Od hQ
 cases e
 exact jK h
theorem RF:qD (ak 36):=by
 intro M s q Q hQ
 obtain⟨a0,a1,e,h⟩:=G7 Q7 hQ
 cases e
 exact qo h
theorem QQ:uJ 58 (ak 113):=by
 intro M s Q hQ
 obtain⟨a0,a1,e,h⟩:=zT Qz (g:=0) (xx:=EI Tryz.prog 132) (c1:=ak 100) (c2:=ak 133) hQ
 cases e
 exact lF h
theorem PQ:kV 58 (ak 102):=by
 intro M s Q hl hQ
 obtain⟨a0,a1,e,h⟩:=Vl.CW QQ hl hQ
 cases e
 exact mg h
theorem Rb:kV 58 (ak 79):=by
 intro M s Q hl hQ
 obtain⟨a0,a1,e,h⟩:=Vl.Lh PQ hl hQ
 cases e
 exact wS h
theorem MH:Di (base w0 hi) (ak 57):=by
 intro M s Q hB hl h1 h2
 obtain⟨a0,e,h⟩:=Ia (T:=56) Rb K5 NW KM hB hl h1 h2
 cases e
 exact su h
theorem Pv:I9 (base w0 hi) (ak 56):=by
 intro M v b at' Q hB h1 h2 h3 h4 h5 h6
 obtain⟨a0,a1,e,h⟩:=KH (T:=5) Ik hB h1 h2 h3 h4 h5 h6
 cases e
 exact uw h
theorem K9 {a1:AV} {q:Str→Bool} {br:Nat} {X0:RB} {X:Str→RB} (hF:BL (base w0 hi) (ak) a1 q br X0 X) : EF (base w0 hi) a1 q br X0 X 56 (ak 25):=by
 intro M v b Q hB h1 h2 h3 h4 h5 h6 h7
 obtain⟨a0,a1,e,h⟩:=LW Pv MH hF hB h1 h2 h3 h4 h5 h6 h7
 cases e
 exact uB h
theorem IM:BA 9 (ak 63):=by
 intro M v l n Q h1 h2 h3 h4 h5
 obtain⟨a0,a1,e,h⟩:=Jj (TH:=56) uD h1 h2 h3 h4 h5
 cases e
 exact ui h
theorem IR:Kj (ak 55):=by
 intro M v l n Q h1 h2 h3 h4 h5
 obtain⟨a0,a1,e,h⟩:=Kg IM h1 h2 h3 h4 h5
 cases e
 exact tF h
theorem Qq:JR (base w0 hi) (ak 114):=by
 intro M v w s Q hB h1 h2 h3 h4 h5
 obtain⟨a0,a1,e,h⟩:=LC Ik hB h1 h2 h3 h4 h5
 cases e
 exact zG h
theorem O5:Gz (ak 134):=by
 intro M x Q hQ
 obtain⟨a0,e,h⟩:=Kt hQ
 cases e
 exact nu h
theorem Rk:CP (ak 117):=by
 intro M s Q h1 h2 h3 h4
 obtain⟨a0,a1,a2,e,h⟩:=Ck (TE:=119) (T8:=5) (cu:=ak 135) O5 h1 h2 h3 h4
 cases e
 exact kZ h
theorem Rn:CP (ak 116):=by
 intro M s Q h1 h2 h3 h4
 obtain⟨a0,a1,a2,e,h⟩:=CV (ct:=ak 72) Rk h1 h2 h3 h4
 cases e
 exact pQ h
theorem P8:Jl (base w0 hi) (ak 85):=by
 intro M v b at' Q hB h1 h2 h3 h4 h5
 obtain⟨a0,a1,e,h⟩:=Ma (T:=5) Qq vY uD Ql Rn hB h1 h2 h3 h4 h5
 cases e
 exact uK h
theorem Mm:Ap (base w0 hi) 5 (ak 65):=by
 intro M v b at' Q hB h1 h2 h3 h4 h5
 obtain⟨a0,a1,e,h⟩:=EX P8 hB h1 h2 h3 h4 h5
 cases e
 exact qO h
theorem O7:F9 5 (ak 66):=by
 intro M v s Q h1 h2 h3
 obtain⟨a0,e,h⟩:=Jy h1 h2 h3
 cases e
 exact xM h
theorem Lt:EW (base w0 hi) 5 (ak 30):=by
 intro M v hv b l at' Q hB h1 h2 h3 h4 h5 h6 h7 h8
 obtain⟨a0,a1,a2,e,h⟩:=KZ IM uD Mm vY KF LP O7 hB h1 h2 h3 h4 h5 h6 h7 h8
 cases e
 exact uC h
theorem Mk (br:Nat) : BL (base w0 hi) (ak) (.fn (.func 26) [] [.ptr br 0]) qJ br (ji 26 [] []) (Gg 26):=by
 intro M s K hB hbr hX hl h0 h1
 rw[Aj]
 exact nI (KT (TS:=9) Oz IQ Oj hB hbr hX hl h0 h1)
theorem Je (br:Nat) : BL (base w0 hi) (ak) (.fn (.func 35) [] [.ptr br 0]) pY br (gK 34 0) (EM 34):=by
 intro M s K hB hbr hX hl h0 h1
 rw[Aj]
 exact mO (Jb RF KF QW LP hbr hX hl h0 h1)
theorem uT:Gu (base w0 hi) 56 5 (ak 11):=by
 intro M v b Q hB h1 h2 h3 h4
 obtain⟨a0,e,h⟩:=GJ (T:=26) (g:=26) (fun br=>K9 (Mk br)) Lt hB h1 h2 h3 h4
 cases e
 exact og h
theorem LG:Ef (base w0 hi) 56 5 (ak 14):=by
 intro M v b Q hB h1 h2 h3 h4
 obtain⟨a0,e,h⟩:=EB (T:=34) (g:=35) (fun br=>K9 (Je br)) Lt hB h1 h2 h3 h4
 cases e
 exact nM h
theorem wV:rR (base w0 hi) 5 (ak 32):=by
 intro M v bv f b l m z Q hB h1 h2 h3 h4 h5 h6 h7 h8 h9 h10
 obtain⟨a0,a1,a2,a3,a4,e,h⟩:=Fw (TH:=56) NW KM uD hB h1 h2 h3 h4 h5 h6 h7 h8 h9 h10
 cases e
 exact qN h
theorem Eh:vR (base w0 hi) (ak 33):=by
 intro M n Q hB h1 h2
 obtain⟨a0,e,h⟩:=F3 (T:=56) Ls hB h1 h2
 cases e
 exact rE h
theorem Qg:vN (ak 31):=by
 intro M m q x y Q h1 h2 h3 h4 h5
 obtain⟨a0,e,h⟩:=FB (T:=26) IQ Oj h1 h2 h3 h4 h5
 cases e
 exact oo h
theorem DW:DZ (base w0 hi) 5 (ak 12):=by
 intro M hv bv m q b l Q hB h1 h2 h3 h4 h5 h6 h7 h8 h9
 obtain⟨a0,e,h⟩:=Er (T:=26) Qg Eh wV hB h1 h2 h3 h4 h5 h6 h7 h8 h9
 cases e
 exact nL h
theorem J6:BI (base w0 hi) 5 (ak 13):=by
 intro M hv bv n b l Q hB h1 h2 h3 h4 h5 h6 h7
 obtain⟨a0,e,h⟩:=CY (T:=34) Ls Eh wV hB h1 h2 h3 h4 h5 h6 h7
 cases e
 exact mY h
theorem Qo:Gx 5 (ak 75):=by
 intro M n Q h1 h2 h3
 obtain⟨a0,a1,e,h⟩:=Jn (TS:=9) h1 h2 h3
 cases e
 exact zI h
theorem NC:AY 5 (ak 48):=by
 intro M bb TB vs xss Q h1 h2 h3 h4 h5 h6 h7 h8
 obtain⟨a0,e,h⟩:=Gj (TS:=9) Qo h1 h2 h3 h4 h5 h6 h7 h8
 cases e
 exact wQ h
theorem MQ:Dl 3 (ak 47):=by
 intro M v s Q h1 h2 h3
 obtain⟨a0,e,h⟩:=Hy h1 h2 h3
 cases e
 exact zH h
theorem Q9:Jm (ak 123):=by
 intro M Q h1
 obtain⟨a0,e,h⟩:=MX h1
 cases e
 exact jU h
theorem QM:JP (base w0 hi) (ak 96):=by
 intro M n Q hB h1 h2
 obtain⟨a0,a1,a2,a3,a4,e,h⟩:=Mg (TS:=9) (TA:=154) (T8:=5) Q9 Ty hB h1 h2
 cases e
 exact kS h
theorem Ra:CU (base w0 hi) (ak 76):=by
 intro M n Q hB h1 h2
 obtain⟨a0,a1,e,h⟩:=Lm (c1:=ak 93) (TA:=125) (c2:=ak 94) (c3:=ak 95) QM hB h1 h2
 cases e
 exact lG h
theorem Ri:CU (base w0 hi) (ak 49):=by
 intro M n Q hB h1 h2
 obtain⟨a0,a1,e,h⟩:=NF Ra hB h1 h2
 cases e
 exact qw h
theorem zX:zO (base w0 hi) 5 (ak 19):=by
 intro M hv bv sv m q b l sz Q hB h1 h2 h3 h4 h5 h6 h7 h8 h9 h10 h11
 obtain⟨a0,a1,e,h⟩:=BX (T:=26) (TI:=3) (TB:=24) Qg MQ Ri NC wV hB h1 h2 h3 h4 h5 h6 h7 h8 h9 h10 h11
 cases e
 exact qI h
end
end Go.Ab.Hw
namespace Go.Ab.Hw
open Go Go.Ab Go.Ab.Sm Go.RowKit Go.Proofs
open Go.Proofs.YtmjcgbaacndblaaGreatDoor
abbrev nH:Str:=[71,69,84]
abbrev sZ:Str:=[47,97]
abbrev lX:List Hd:=[([88],[49])]
def RP:Except Nat Str→Str
 | .ok s=>s
 | .error _=>[]
abbrev sA:Str:=[71,69,84,32,47,97,32,72,84,84,80,47,49,46,49,13,10,88,58,32,49,13,10,67,111,110,116,101,110,116,45,76,101,110,103,116,104,58,32,48,13,10,13,10]
def sC:Str:=RP (jW 404 [] [110,111])
def sD:Str:=RP (fe nH sZ lX [97,98,99,100] [3])
theorem pA:iR nH sZ lX []=.ok sA:=by kernel_rfl
theorem rA:gz (sA++[120])=.ok ((nH,sZ,lX++[(kH,[48])],[]),[120]):=by kernel_rfl
theorem pC:jW 404 [] [110,111]=.ok sC:=by kernel_rfl
theorem rC:mr sC=.ok ((404,[(kH,[50])],[110,111]),[]):=by kernel_rfl
theorem pD:fe nH sZ lX [97,98,99,100] [3]=.ok sD:=by kernel_rfl
theorem rD:gz sD=.ok ((nH,sZ,lX++[(yE,rU)],[97,98,99,100]),[]):=by kernel_rfl
theorem nA:aX (lX++[(kH,[48])]) [120]=[[49]]:=by kernel_rfl
theorem nC:aX [(kH,[50])] [67,79,78,84,69,78,84,45,76,69,78,71,84,72]=[[50]]:=by kernel_rfl
theorem lC:sC.length≤1000:=by decide +kernel
theorem lD:sD.length≤1000:=by decide +kernel
theorem Iu {T n:Nat} {M:RM} {parts:List (Nat × Nat × AV)} (s:Str) {K:ah} (he:oC (cB [(N .u8 0)] n) parts=some (BY.row s)) (hn:s.length=n)
  (hK:∀ v M',Bs M' v s→ae [] M M'→(∀ b∈aP v,M.next≤b)→K v M') : dE T n [(N .u8 0)] parts fun r f=>bf r f M fun t14 M1=>qj t14 M1 fun t15 M_0=>K t15 M_0:=by
 refine⟨BY.row s,he, ?_⟩
 simp only[aT]
 refine⟨M.next,0,n,n,BY.row s,T,rfl,by simp[RM.push], ?_⟩
 refine hK _ _ ⟨?_,Nat.le_refl _⟩ (((ae.refl _ _).push _).new _ (Nat.le_refl _)) (fun b hb=>by simp[aP] at hb; omega)
 subst hn
 refine aF.slc _ _ _ _ _ (by simp[RM.push,RM.put]) ?_
 rw[RM.gU (aN _) (by rw[kG]; simp[BY]),List.drop_zero,List.take_of_length_le (by rw[kG]; simp[BY])]
theorem Tx {T:Nat} {M:RM} {z cs:List AV} {K:AV→RM→Prop} (n:Nat) (hz:z.length=n) (hc:cs.length=n) (h1:cs.all oneCell=true)
  (hK:∀ M',ae [] M M'→M'.heap M.next=some (.row cs false T 0)→M.next<M'.next→K (.agg cs) M') :
  bf (.row z false T 0) (fun b=>.ptr b 0) M fun t M1=>aH M1 t (.agg cs) n fun M2=>bu M2 t n fun r=>K r M2:=by
 simp only[aT]
 have n1:(M.push (.row z false T 0)).heap M.next=some (.row z false T 0):=by simp[RM.push]
 rw[jJ n1 hc hz h1,bJ (aN _) hc]
 exact hK _ (((ae.refl _ _).push _).new _ (Nat.le_refl _)) (aN _) (by simp[RM.push,RM.put])
theorem Br {T:Nat} {M:RM} {z cs:List AV} {K:AV→RM→Prop} (n:Nat) (hz:z.length=n) (hc:cs.length=n) (h1:cs.all oneCell=true)
  (hK:∀ M',ae [] M M'→M'.heap M.next=some (.row cs false T 0)→M.next<M'.next→K (.ptr M.next 0) M') :
  bf (.row z false T 0) (fun b=>.ptr b 0) M fun t M1=>aH M1 t (.agg cs) n fun M2=>K t M2:=by
 simp only[aT]
 have n1:(M.push (.row z false T 0)).heap M.next=some (.row z false T 0):=by simp[RM.push]
 rw[jJ n1 hc hz h1]
 exact hK _ (((ae.refl _ _).push _).new _ (Nat.le_refl _)) (aN _) (by simp[RM.push,RM.put])
theorem pz {α:Type} {x y:α} {r:Except Nat α} (h:r=.ok x) (k:r=.ok y) : x=y:=by rw[h] at k; exact Except.ok.inj k
theorem oM {α:Type} {x:α} {e:Nat} {r:Except Nat α} (h:r=.ok x) (k:r=.error e) : False:=by rw[h] at k; cases k
theorem Oa:∀ h∈lX,h.1.length≤281474976710656∧h.2.length≤281474976710656:=fun h hx=>by
 simp at hx; subst hx; simp
def QK (B:Base) (c:ai) : Prop:=∀ {M:RM} {Q:ah},M.base=B→(∀ M',ae [] M M'→Q (Bo true) M')→c [] M Q
section
variable {w0:World} {hi:Iv w0}
theorem Pw:QK (base w0 hi) (ak 10):=by
 intro M Q hB hQ
 refine wP ?_
 unfold wI
 rw[jl]
 refine⟨_,Bi rfl rfl rfl rfl, ?_⟩
 rw[zB (by rfl) (by rfl) (by rfl)]
 simp only[aT (x:=.row (AV.agg [St [88],St [49]]).cells false 56 0)]
 have k1:ae [] M (M.push (.row (AV.agg [St [88],St [49]]).cells false 56 0)):=(ae.refl _ _).push _
 have s1:Sl HD (M.push (.row (AV.agg [St [88],St [49]]).cells false 56 0)) (.slc M.next 0 1 (.ex 1)) lX:=Sl.new (E:=HD) lX
 generalize M.push (.row (AV.agg [St [88],St [49]]).cells false 56 0)=M1 at *
 rw[jl]
 refine⟨[St nH,St sZ,.slc M.next 0 1 (.ex 1),aJ],rfl, ?_⟩
 have bx:∀ K:AV→AV→RM→Prop,(∀ M2,ae [] M1 M2→M2.heap M1.next=some (.row [St nH,St sZ,.slc M.next 0 1 (.ex 1),aJ] false 26 0)→M1.next<M2.next→K (.ptr M1.next 0) (.agg [St nH,St sZ,.slc M.next 0 1 (.ex 1),aJ]) M2) →
   bf (.row [St [],St [],aJ,aJ] false 26 0) (fun b=>.ptr b 0) M1 fun t M2=>aH M2 t (.agg [St nH,St sZ,.slc M.next 0 1 (.ex 1),aJ]) 4 fun M3=>bu M3 t 4 fun r=>K t r M3:=fun K h=>by
  refine Br (K:=fun t M3=>bu M3 t 4 fun r=>K t r M3) 4 rfl rfl rfl fun M2 k2 n2 l2=>?_
  rw[bJ n2 (by rfl)]
  exact h M2 k2 n2 l2
 refine bx _ fun M2 k2 n2 l2=>?_
 have k02:=k1.trans k2
 have s2:Sl HD M2 (.slc M.next 0 1 (.ex 1)) lX:=aF.keep s1 k2 (by simp)
 refine DW (hi:=hi) (k02.base.trans hB) s2 (by simp) Oa (by simp) (by simp) (body:=[]) .nil (by simp) (fun s v3 M3 e3 _ k3 o3=>?_) (fun e M3 e3 _ _=>(oM pA e3).elim)
 obtain rfl:=pz pA e3
 simp only[aY,aZ]
 rw[EH]
 simp only[aT (x:=.row [] false 5 0)]
 have k3' : ae [] M3 (M3.push (.row [] false 5 0)):=(ae.refl _ _).push _
 refine mF (E:=BY) (Ow.lit BY M3) (by simp[RM.push]) (by decide) (aF.keep (Own.kY o3) k3' (by simp)) (by simp) (by simp) fun v4 M4 o4 k4 _ _=>?_
 have k34:ae [] M3 M4:=ae.own k3' k4 (fun b hb=>by simp[aP] at hb; omega)
 rw[zB (by rfl) (by rfl) (by rfl)]
 simp only[aT (x:=.row (N .u8 120).cells false 5 0)]
 refine zD (E:=BY) (a:=120) o4 k34.next (by decide) (by simp) (by simp) fun v5 M5 o5 k5 _ _=>?_
 have k35:ae [] M3 M5:=ae.own k34 k5 (fun b hb=>(Own.blk o4 b hb).1)
 have k25:=k3.trans k35
 rw[List.nil_append] at o5
 refine uT (hi:=hi) ((k02.trans k25).base.trans hB) (Bs.own o5) (by simp) (fun m p l out r at6 hv6 ov6 M6 e6 h61 h62 _ _ _ k6 oh6 ob6=>?_) (fun e M6 e6 _ _=>(oM rA e6).elim)
 have e6':=pz rA e6
 simp only[Prod.mk.injEq] at e6'
 obtain⟨⟨rfl,rfl,rfl,rfl⟩,rfl⟩:=e6'
 have Tq:at6=44:=by
  have:=congrArg List.length h62
  simp at this h61; omega
 subst Tq
 simp only[aY,aZ,dW]
 have c6:([St nH,St sZ,hv6,ov6] : List AV).all oneCell=true:=by
  have h1:=Own.one oh6; have h2:=Own.one ob6
  simp only[List.all_cons,List.all_nil,h1,h2]; rfl
 refine Tx (K:=fun t40 I4=>_) 4 rfl rfl c6 fun M7 k7 _ _=>?_
 have k26:=k25.trans (k6.trans k7)
 have sh7:Sl HD M7 hv6 (lX++[(kH,[48])]):=aF.keep (Own.kY oh6) k7 (by simp)
 refine nS (MG IR sh7 (by simp) (by decide) (by decide) c6 fun M8 k8=>?_)
 rw[nA]
 simp only[kP,aY,aZ]
 have k28:=k26.trans k8
 refine Iu [110,111] rfl rfl fun v9 M9 b9 k9 _=>?_
 rw[jl]
 have ob9:=aF.one b9.sl
 have fl9:oD [N .i64 0,aJ,aJ] [(0,1,N .i64 404),(2,1,v9)]=some [N .i64 404,aJ,v9]:=by
  have h1:=aF.known b9.sl
  have h2:=aF.cells b9.sl
  rw[oD,if_pos ⟨rfl,rfl,by decide⟩,oD,if_pos ⟨h1,by rw[h2]; rfl,by decide⟩,h2]
  rfl
 refine⟨_,fl9, ?_⟩
 have k29:=k28.trans k9
 refine J6 (hi:=hi) ((k02.trans k29).base.trans hB) (l:=[]) .nil (by simp) (by simp) b9.sl (by simp) (fun s v10 M10 e10 _ k10 o10=>?_) (fun e M10 e10 _ _=>(oM pC e10).elim)
 obtain rfl:=pz pC e10
 simp only[aY,aZ]
 have J4:=k29.trans k10
 refine LG (hi:=hi) ((k02.trans J4).base.trans hB) (Bs.own o10) (by have:=lC; omega) (fun n l out r SL CG Dz M11 e11 h111 h112 _ _ _ k11 Qe Mx=>?_) (fun e M11 e11 _ _=>(oM rC e11).elim)
 have Gs:=pz rC e11
 simp only[Prod.mk.injEq] at Gs
 obtain⟨⟨rfl,rfl,rfl⟩,rfl⟩:=Gs
 have Ru:SL=sC.length:=by
  have:=congrArg List.length h112
  simp at this; omega
 subst Ru
 simp only[aY,aZ,dW]
 have c11:([N .i64 ((404:Nat) : Int),CG,Dz] : List AV).all oneCell=true:=by
  have h1:=Own.one Qe; have h2:=Own.one Mx
  simp only[List.all_cons,List.all_nil,h1,h2]; rfl
 have bx2:∀ K:AV→AV→RM→Prop,(∀ M2,ae [] M11 M2→M2.heap M11.next=some (.row [N .i64 ((404:Nat) : Int),CG,Dz] false 34 0)→M11.next<M2.next→K (.ptr M11.next 0) (.agg [N .i64 ((404:Nat) : Int),CG,Dz]) M2) →
   bf (.row [N .i64 0,aJ,aJ] false 34 0) (fun b=>.ptr b 0) M11 fun t M2=>aH M2 t (.agg [N .i64 ((404:Nat) : Int),CG,Dz]) 3 fun M3=>bu M3 t 3 fun r=>K t r M3:=fun K h=>by
  refine Br (K:=fun t M3=>bu M3 t 3 fun r=>K t r M3) 3 rfl rfl c11 fun M2 k2 n2 l2=>?_
  rw[bJ n2 (by rfl)]
  exact h M2 k2 n2 l2
 refine bx2 _ fun M12 k12 n12 l12=>?_
 have SS:Sl HD M12 CG [(kH,[50])]:=aF.keep (Own.kY Qe) k12 (by simp)
 refine nK (KL IR SS (by simp) (by decide) (by decide) c11 fun M13 k13=>?_)
 rw[nC]
 simp only[kP,aY,aZ]
 have P6:=J4.trans (k11.trans (k12.trans k13))
 refine Iu [97,98,99,100] rfl rfl fun v14 M14 b14 k14 Ur=>?_
 have JS:=P6.trans k14
 have n14:=JS.aO n2 l2 (by simp)
 have l14:=Nat.lt_of_lt_of_le l2 JS.next
 have c14:=aF.cells b14.sl
 have TQ:=aF.one b14.sl
 rw[jD,Nat.zero_add,fT [St nH,St sZ,.slc M.next 0 1 (.ex 1),v14] n14 (by simp) c14 TQ rfl,bJ (aN _) (by rfl)]
 have k15:ae [M1.next] M14 (M14.put M1.next (.row [St nH,St sZ,.slc M.next 0 1 (.ex 1),v14] false 26 0)):=(ae.refl _ _).put _ (.inr (by simp))
 generalize M14.put M1.next (.row [St nH,St sZ,.slc M.next 0 1 (.ex 1),v14] false 26 0)=M15 at *
 have kk:∀ {X Y:RM},ae [] X Y→ae [M1.next] X Y:=fun k=>k.mono (by simp)
 have b15:Bs M15 v14 [97,98,99,100]:=b14.keep k15 (fun x hx hm=>by have:=Ur x hx; have:=P6.next; simp at hm; omega)
 have ne1:∀ b,M2.next≤b→b≠M1.next:=fun b h e=>by omega
 have s15:Sl HD M15 (.slc M.next 0 1 (.ex 1)) lX:=aF.keep (aF.keep s2 JS (by simp)) k15 (fun x hx hm=>by have:=aF.lt s1 x hx; simp at hm; omega)
 rw[zB (by rfl) (by rfl) (by rfl)]
 simp only[aT (x:=.row (N .i64 3).cells false 3 0)]
 have k16:ae [] M15 (M15.push (.row (N .i64 3).cells false 3 0)):=(ae.refl _ _).push _
 have s16:Sl INT (M15.push (.row (N .i64 3).cells false 3 0)) (.slc M15.next 0 1 (.ex 1)) [3]:=Sl.new (E:=INT) [3]
 generalize M15.push (.row (N .i64 3).cells false 3 0)=M16 at *
 have MU:ae [M1.next] M2 M16:=(kk JS).trans (k15.trans (kk k16))
 refine zX (hi:=hi) ((MU.base.trans k02.base).trans hB) (aF.keep s15 k16 (by simp)) (by simp) Oa (by simp) (by simp) (b15.keep k16 (by simp)) (by simp) s16 (by simp) (fun s v17 M17 e17 _ k17 o17=>?_) (fun e M17 e17 _ _=>(oM pD e17).elim)
 obtain rfl:=pz pD e17
 simp only[aY,aZ]
 refine uT (hi:=hi) ((k17.base.trans (MU.base.trans k02.base)).trans hB) (Bs.own o17) (by have:=lD; omega) (fun m p l out r TC Tg Pn M18 e18 h181 TL _ _ _ k18 SB QF=>?_) (fun e M18 e18 _ _=>(oM rD e18).elim)
 have Pp:=pz rD e18
 simp only[Prod.mk.injEq] at Pp
 obtain⟨⟨rfl,rfl,rfl,rfl⟩,rfl⟩:=Pp
 have Q6:TC=sD.length:=by
  have:=congrArg List.length TL
  simp at this; omega
 subst Q6
 simp only[aY,aZ,dW]
 have c18:([St nH,St sZ,Tg,Pn] : List AV).all oneCell=true:=by
  have h1:=Own.one SB; have h2:=Own.one QF
  simp only[List.all_cons,List.all_nil,h1,h2]; rfl
 refine Br (K:=fun t PS=>_) 4 rfl rfl c18 fun M19 k19 n19 l19=>?_
 -- what stands at the end
 have Uh:ae [M1.next] M3 M19:=by
  have a:=kk (k35.trans (k6.trans (k7.trans (k8.trans (k9.trans (k10.trans (k11.trans (k12.trans (k13.trans k14)))))))))
  exact a.trans (k15.trans (kk (k16.trans (k17.trans (k18.trans k19)))))
 have bA:Bs M19 v3 sA:=(Bs.own o3).keep Uh (fun x hx hm=>by have:=(Own.blk o3 x hx).1; simp at hm; omega)
 have QY:ae [M1.next] M10 M19:=(kk (k11.trans (k12.trans (k13.trans k14)))).trans (k15.trans (kk (k16.trans (k17.trans (k18.trans k19)))))
 have bC:Bs M19 v10 sC:=(Bs.own o10).keep QY (fun x hx hm=>by have:=(Own.blk o10 x hx).1; have:=k29.next; simp at hm; omega)
 have NV:ae [M1.next] M12 M19:=(kk (k13.trans k14)).trans (k15.trans (kk (k16.trans (k17.trans (k18.trans k19)))))
 have h11:M19.heap M11.next=some (.row [N .i64 ((404:Nat) : Int),CG,Dz] false 34 0):=NV.aO n12 l12 (by
  have:=(J4.trans k11).next; simp; omega)
 have SG:Bs M19 Dz [110,111]:=((Bs.own Mx).keep k12 (by simp)).keep NV (fun x hx hm=>by have:=(Own.blk Mx x hx).1; have:=J4.next; simp at hm; omega)
 have bD:Bs M19 v17 sD:=(Bs.own o17).keep (k18.trans k19) (by simp)
 have SN:Bs M19 Pn [97,98,99,100]:=(Bs.own QF).keep k19 (by simp)
 have go1:∀ {α:Type} [BEq α] [LawfulBEq α] (a:α),(a == a)=true:=fun a=>beq_self_eq_true a
 simp only[bY,cK,bI,dS,go1]
 rw[bA.str]
 simp only[bY,cK,bI,dS,go1]
 rw[bA.len]
 rw[bI,show(((44:Nat) : Int) == ((sA.length:Nat) : Int))=true by decide]
 simp only[bY,cK,bI,dS,go1]
 rw[bC.len]
 simp only[bY,cK,bI,dS,go1,jD,Nat.zero_add]
 rw[aI h11 rfl]
 rw[bI,show(((404:Nat) : Int) == 404)=true from rfl]
 simp only[bY,cK,bI,dS,go1]
 rw[aI h11 rfl,SG.str]
 simp only[bY,cK,bI,dS,go1]
 rw[bD.len]
 simp only[bY,cK,bI,dS,go1]
 rw[aI n19 rfl,SN.str]
 simp only[bY,cK,bI,dS,go1]
 exact hQ _ (qW k02 (MU.trans (kk (k17.trans (k18.trans k19)))) (by have:=k1.next; omega))
end
section
variable {w0:World} {hi:Iv w0}
end
theorem QG (s:Str) : (s != s)=false:=by simp
theorem PY (s:Int) : (s != s)=false:=by simp
section
variable {w0:World} {hi:Iv w0}
end
end Go.Ab.Hw
namespace Go.Ab.Hw
open Go Go.Ab Go.Ab.Sm Go.RowKit Go.Proofs
open Go.Proofs.YtmjcgbaacndblaaGreatDoor
open Go.Ab.Vl (BO BH)
def Sz (d:Except Nat Str) (M M' : RM) (v:AV) (n:Nat) : Prop:=(∃ s,d=.ok s∧s.length≤100000000∧Ow BY M' M.next 5 v s∧n=0)∨(d=.error n∧(n=1∨n=2)∧v=aJ)
structure qb (M:RM) (hv bv:AV) (m p body:Str) (l:List Hd) : Prop where
 hs:Sl HD M hv l
 hb:Bs M bv body
 ll:∀ h∈l,h.1.length≤281474976710656∧h.2.length≤281474976710656
 lm:m.length≤281474976710656
 lp:p.length≤281474976710656
theorem qb.keep {M M' : RM} {hv bv:AV} {m p body:Str} {l:List Hd} (h:qb M hv bv m p body l) (k:ae [] M M') : qb M' hv bv m p body l:=⟨aF.keep h.hs k (by simp),h.hb.keep k (by simp),h.ll,h.lm,h.lp⟩
section
variable {w0:World} {hi:Iv w0}
theorem Ff {M:RM} {hv bv:AV} {m p body:Str} {l:List Hd} {Q:ah} (hB:M.base=base w0 hi) (h:qb M hv bv m p body l) (h1:l.length≤1000) (h2:body.length≤2000)
  (hQ:∀ v n M',Sz (iR m p l body) M M' v n→ae [] M M'→Q (.tup [v,N .i64 (n:Int)]) M') : ak 12 [.agg [St m,St p,hv,bv]] M Q :=
 DW (hi:=hi) hB h.hs h1 h.ll h.lm h.lp h.hb.sl (by omega) (fun s v M' e hl k o=>hQ v 0 M' (.inl ⟨s,e,by omega,o,rfl⟩) k) (fun e M' h3 h4 k=>hQ aJ e M' (.inr ⟨h3,h4,rfl⟩) k)
theorem MC {M:RM} {hv bv sv:AV} {m p body:Str} {l:List Hd} {sz:List Int} {Q:ah} (hB:M.base=base w0 hi) (h:qb M hv bv m p body l) (h1:l.length≤1000) (h2:body.length≤2000) (hs:Sl INT M sv sz) (hsl:sz.length≤1000)
  (hQ:∀ v n M',Sz (fe m p l body sz) M M' v n→ae [] M M'→Q (.tup [v,N .i64 (n:Int)]) M') : ak 19 [.agg [St m,St p,hv,bv],sv] M Q :=
 zX (hi:=hi) hB h.hs h1 h.ll h.lm h.lp h.hb (by omega) hs hsl (fun s v M' e hl k o=>hQ v 0 M' (.inl ⟨s,e,hl,o,rfl⟩) k) (fun e M' h3 h4 k=>hQ aJ e M' (.inr ⟨h3,h4,rfl⟩) k)
theorem Su {n:Nat} {K:AV→Prop} : af .neq (N .i64 (n:Int)) (N .i64 0) K=K (Bo (n != 0)):=by
 rw[fD]
 congr 2
 cases n with
 | zero=>rfl
 | succ k => 
   have:((k + 1:Nat) : Int)≠0:=by omega
   rw[bne_iff_ne.2 this]; rfl
def Reads (s m p body:Str) (n:Nat) : Prop:=∃ l:List Hd,l.length=n + 1∧∀ t,gz (s++t)=.ok ((m,p,l,body),t)
theorem zR {m p body s:Str} {l:List Hd} (h:iR m p l body=.ok s) : Reads s m p body l.length:=⟨_,by simp,ED h⟩
theorem GU {m p body s:Str} {l:List Hd} {ns:List Int} (h:fe m p l body ns=.ok s) : Reads s m p body l.length:=⟨_,by simp,BG h⟩
theorem MP {M:RM} {hv bv hw bw sv:AV} {m p body m2 p2 vP:Str} {l l2:List Hd} {sz:List Int} {ck:Bool} {Q:ah} (hB:M.base=base w0 hi) (ha:qb M hv bv m p body l) (hb:qb M hw bw m2 p2 vP l2) (hs:Sl INT M sv sz) (hQ:∀ M',Q (Bo true) M') :
  ak 8 [.agg [St m,St p,hv,bv],.agg [St m2,St p2,hw,bw],sv,Bo ck] M Q:=by
 refine oO ?_
 unfold mJ
 have o1:=aF.one ha.hs
 have o2:=aF.one ha.hb.sl
 have o3:=aF.one hb.hs
 have o4:=aF.one hb.hb.sl
 rw[jr (by simp only[List.all_cons,List.all_nil,o1,o2]; rfl) (by simp)]
 simp only[aT (x:=.row [St m,St p,hv,bv] false 26 0)]
 rw[jr (by simp only[List.all_cons,List.all_nil,o3,o4]; rfl) (by simp)]
 simp only[aT (x:=.row [St m2,St p2,hw,bw] false 26 0)]
 have k0:ae [] M ((M.push (.row [St m,St p,hv,bv] false 26 0)).push (.row [St m2,St p2,hw,bw] false 26 0)):=((ae.refl _ _).push _).push _
 have n1:((M.push (.row [St m,St p,hv,bv] false 26 0)).push (.row [St m2,St p2,hw,bw] false 26 0)).heap M.next=some (.row [St m,St p,hv,bv] false 26 0):=by simp[RM.push]
 have n2:((M.push (.row [St m,St p,hv,bv] false 26 0)).push (.row [St m2,St p2,hw,bw] false 26 0)).heap (M.push (.row [St m,St p,hv,bv] false 26 0)).next=some (.row [St m2,St p2,hw,bw] false 26 0):=by simp[RM.push]
 have e2:(M.push (.row [St m,St p,hv,bv] false 26 0)).next=M.next + 1:=rfl
 have l2' : ((M.push (.row [St m,St p,hv,bv] false 26 0)).push (.row [St m2,St p2,hw,bw] false 26 0)).next=M.next + 2:=rfl
 rw[e2] at n2 ⊢
 generalize (M.push (.row [St m,St p,hv,bv] false 26 0)).push (.row [St m2,St p2,hw,bw] false 26 0)=M0 at *
 have hB0:=k0.base.trans hB
 have ha0:=ha.keep k0
 have hb0:=hb.keep k0
 have hs0:Sl INT M0 sv sz:=aF.keep hs k0 (by simp)
 clear ha hb hs
 refine Pw (hi:=hi) hB0 fun M1 k1=>?_
 simp only[di,Bool.not_true,bg]
 have A:∀ {M' : RM},ae [] M0 M'→M'.heap M.next=some (.row [St m,St p,hv,bv] false 26 0):=fun k=>k.aO n1 (by omega) (by simp)
 have B:∀ {M' : RM},ae [] M0 M'→M'.heap (M.next + 1)=some (.row [St m2,St p2,hw,bw] false 26 0):=fun k=>k.aO n2 (by omega) (by simp)
 have a2:∀ {K:AV→Prop},aj M1 (.ptr M.next 2) K=K hv:=aI (A k1) rfl
 have a3:∀ {K:AV→Prop},aj M1 (.ptr M.next 3) K=K bv:=aI (A k1) rfl
 have b2:∀ {K:AV→Prop},aj M1 (.ptr (M.next + 1) 2) K=K hw:=aI (B k1) rfl
 have b3:∀ {K:AV→Prop},aj M1 (.ptr (M.next + 1) 3) K=K bw:=aI (B k1) rfl
 have ha1:=ha0.keep k1
 have hb1:=hb0.keep k1
 have L1:∀ {K:AV→Prop},aR bv K=K (N .i64 (body.length:Int)):=ha1.hb.len
 have L2:∀ {K:AV→Prop},aR bw K=K (N .i64 (vP.length:Int)):=hb1.hb.len
 have L3:∀ {K:AV→Prop},aR sv K=K (N .i64 (sz.length:Int)):=aF.len hs0
 have L4:∀ {K:AV→Prop},aR hv K=K (N .i64 (l.length:Int)):=aF.len ha1.hs
 have L5:∀ {K:AV→Prop},aR hw K=K (N .i64 (l2.length:Int)):=aF.len hb1.hs
 simp only[jb,a3,L1,dI]
 cases c1:decide ((body.length:Int) > 1000) with
 | true=>simp only[dH,bY,bF]; exact hQ _
 | false =>
 simp only[bR,dF,b3,L2,dI]
 cases c2:decide ((vP.length:Int) > 1000) with
 | true=>simp only[dH,bY,bF]; exact hQ _
 | false =>
 simp only[bR,dF,L3,dI]
 cases c3:decide ((sz.length:Int) > 40) with
 | true=>simp only[dH,bY,bF]; exact hQ _
 | false =>
 simp only[bR,dF,a2,L4,dI]
 cases c4:decide ((l.length:Int) > 20) with
 | true=>simp only[dH,bY,bF]; exact hQ _
 | false =>
 simp only[bR,dF,b2,L5,dI]
 refine dQ (fun _=>hQ _) fun c5=>?_
 have g1:body.length≤1000:=by simp at c1; omega
 have g2:vP.length≤1000:=by simp at c2; omega
 have g3:sz.length≤40:=by simp at c3; omega
 have g4:l.length≤20:=by simp at c4; omega
 have g5:l2.length≤20:=by simp at c5; omega
 rw[bJ (A k1) (by rfl)]
 refine Ff (hi:=hi) (k1.base.trans hB0) ha1 (by omega) (by omega) fun v6 n6 M6 r6 k6=>?_
 simp only[aY,aZ]
 have k06:=k1.trans k6
 rw[bJ (B k06) (by rfl)]
 refine Ff (hi:=hi) (k06.base.trans hB0) (hb0.keep k06) (by omega) (by omega) fun v7 n7 M7 r7 k7=>?_
 simp only[aY,aZ]
 have k07:=k06.trans k7
 rw[BO]
 refine BH (fun xs M8=>∃ (v8:AV) (n8:Nat),xs=[v8,N .i64 (n8:Int)]∧ae [] M7 M8∧((n8=0∧∃ s,s.length≤100000000∧Sl BY M8 v8 s∧Reads s m p body l.length)∨n8≠0)) ?_ ?_
 ·rintro xs M8 ⟨v8,n8,rfl,k8,r8⟩
  have k08:=k07.trans k8
  simp only[bB,cO,Su]
  rcases r8 with⟨rfl,x,hx,sx,rx⟩ | hn
  rotate_left
  ·rw[bne_iff_ne.2 hn]
   simp only[dH,bY,bF]
   exact hQ _
  rw[show((0:Nat) != 0)=false from rfl]
  simp only[bR,dF,Su]
  rcases r7 with⟨y,ey,hy,oy,rfl⟩ | ⟨_,h7,_⟩
  rotate_left
  ·rw[show(n7 != 0)=true by rcases h7 with rfl | rfl <;> rfl,bF]
   exact hQ _
  have ry:=zR ey
  have sy:Sl BY M8 v7 y:=aF.keep (Own.kY oy) k8 (by simp)
  rw[show((0:Nat) != 0)=false from rfl,bg]
  rw[EH]
  simp only[aT (x:=.row [] false 5 0)]
  have k9' : ae [] M8 (M8.push (.row [] false 5 0)):=(ae.refl _ _).push _
  refine mF (E:=BY) (Ow.lit BY M8) (by simp[RM.push]) (by decide) (aF.keep sx k9' (by simp)) (by simp; omega) (by simp; omega) fun w9 M9 o9 k9 _ _=>?_
  have k89:ae [] M8 M9:=ae.own k9' k9 (fun b hb=>by simp[aP] at hb; omega)
  refine mF (E:=BY) o9 k89.next (by decide) (aF.keep sy k89 (by simp)) (by simp; omega) (by simp; omega) fun w10 M10 o10 k10 _ _=>?_
  have Uk:ae [] M8 M10:=ae.own k89 k10 (fun b hb=>(Own.blk o9 b hb).1)
  rw[List.nil_append] at o10
  obtain⟨lx,hlx,rx⟩:=rx
  obtain⟨ly,hly,ry⟩:=ry
  have Pt:=k08.trans Uk
  have b10:=Bs.own o10
  refine uT (hi:=hi) (Pt.base.trans hB0) b10 (by simp; omega) (fun m' p' l' out r at2 hv' ov M11 e11 hat hr _ _ _ k11 oh ob=>?_) (fun e M11 e11 _ _=>(oM (rx y) e11).elim)
  have Gs:=pz (rx y) e11
  simp only[Prod.mk.injEq] at Gs
  obtain⟨⟨rfl,rfl,rfl,rfl⟩,rfl⟩:=Gs
  have hat' : at2=x.length:=by
   have:=congrArg List.length hr
   simp only[List.length_drop,List.length_append] at this hat
   omega
  subst hat'
  simp only[aY,aZ,dW]
  have c11:([St m,St p,hv',ov] : List AV).all oneCell=true:=by
   have h1:=Own.one oh; have h2:=Own.one ob
   simp only[List.all_cons,List.all_nil,h1,h2]; rfl
  refine Br (K:=fun t PS=>_) 4 rfl rfl c11 fun M12 k12 n12 l12=>?_
  have NU:=k11.trans k12
  have AQ:=Pt.trans NU
  have d0:∀ {K:AV→Prop},aj M12 (.ptr M11.next 0) K=K (St m):=aI n12 rfl
  have d1:∀ {K:AV→Prop},aj M12 (.ptr M11.next 1) K=K (St p):=aI n12 rfl
  have d2:∀ {K:AV→Prop},aj M12 (.ptr M11.next 2) K=K hv':=aI n12 rfl
  have d3:∀ {K:AV→Prop},aj M12 (.ptr M11.next 3) K=K ov:=aI n12 rfl
  have f0:∀ {K:AV→Prop},aj M12 (.ptr M.next 0) K=K (St m):=aI (A AQ) rfl
  have f1:∀ {K:AV→Prop},aj M12 (.ptr M.next 1) K=K (St p):=aI (A AQ) rfl
  have f2:∀ {K:AV→Prop},aj M12 (.ptr M.next 2) K=K hv:=aI (A AQ) rfl
  have f3:∀ {K:AV→Prop},aj M12 (.ptr M.next 3) K=K bv:=aI (A AQ) rfl
  have s1:∀ {K:AV→Prop},cz M12 ov K=K (St body):=Sl.str (aF.keep (Own.kY ob) k12 (by simp))
  have s2:∀ {K:AV→Prop},cz M12 bv K=K (St body):=(ha0.keep AQ).hb.str
  have l6:∀ {K:AV→Prop},aR v8 K=K (N .i64 (x.length:Int)):=aF.len sx
  have l7:∀ {K:AV→Prop},aR hv' K=K (N .i64 (lx.length:Int)):=aF.len (Own.kY oh)
  have l8:∀ {K:AV→Prop},aR v7 K=K (N .i64 (y.length:Int)):=aF.len sy
  have e00:(((0:Int)) != 0)=false:=rfl
  have e01:(((0:Int)) == 0)=true:=rfl
  simp only[fD,e00,bR,dF,l6,QG,PY,jb,d0,f0,uR,d1,f1,d3,f3,s1,s2,d2,f2,l7,L4]
  rw[add1 (by omega),hlx]
  simp only[fD,QG,PY,bg]
  have b12:=b10.keep NU (by simp)
  refine b12.sub (jX 0 x.length .i64) (Dt _) (by simp) (Nat.le_refl _) fun v13 b13 hb13=>?_
  have e13:((x++y).drop x.length).take ((x++y).length - x.length)=y:=by
   rw[List.drop_left' rfl,List.take_of_length_le (by simp)]
  rw[e13] at b13
  have ry0:gz y=.ok ((m2,p2,ly,vP),[]):=by simpa using ry []
  refine uT (hi:=hi) (AQ.base.trans hB0) b13 (by omega) (fun m' p' l' out r at3 hv3 ov3 M14 e14 hat hr _ _ _ k14 oh3 ob3=>?_) (fun e M14 e14 _ _=>(oM ry0 e14).elim)
  have QL:=pz ry0 e14
  simp only[Prod.mk.injEq] at QL
  obtain⟨⟨rfl,rfl,rfl,rfl⟩,rfl⟩:=QL
  have hat' : at3=y.length:=by
   have:=congrArg List.length hr
   simp only[List.length_drop,List.length_nil] at this
   omega
  subst hat'
  simp only[aY,aZ,dW]
  have c14:([St m2,St p2,hv3,ov3] : List AV).all oneCell=true:=by
   have h1:=Own.one oh3; have h2:=Own.one ob3
   simp only[List.all_cons,List.all_nil,h1,h2]; rfl
  refine Br (K:=fun t PS=>_) 4 rfl rfl c14 fun M15 k15 n15 l15=>?_
  have JG:=AQ.trans (k14.trans k15)
  have d0:∀ {K:AV→Prop},aj M15 (.ptr M14.next 0) K=K (St m2):=aI n15 rfl
  have d1:∀ {K:AV→Prop},aj M15 (.ptr M14.next 1) K=K (St p2):=aI n15 rfl
  have d3:∀ {K:AV→Prop},aj M15 (.ptr M14.next 3) K=K ov3:=aI n15 rfl
  have f0:∀ {K:AV→Prop},aj M15 (.ptr (M.next + 1) 0) K=K (St m2):=aI (B JG) rfl
  have f1:∀ {K:AV→Prop},aj M15 (.ptr (M.next + 1) 1) K=K (St p2):=aI (B JG) rfl
  have f3:∀ {K:AV→Prop},aj M15 (.ptr (M.next + 1) 3) K=K bw:=aI (B JG) rfl
  have s1:∀ {K:AV→Prop},cz M15 ov3 K=K (St vP):=Sl.str (aF.keep (Own.kY ob3) k15 (by simp))
  have s2:∀ {K:AV→Prop},cz M15 bw K=K (St vP):=(hb0.keep JG).hb.str
  simp only[bI,e01,cK,bY,l8,beq_self_eq_true,jb,d0,f0,dS,d1,f1,d3,f3,s1,s2]
  exact hQ _
 ·intro J hJ
  refine dQ (fun h=>?_) fun h=>?_
  ·rw[bJ (A k07) (by rfl)]
   refine MC (hi:=hi) (k07.base.trans hB0) (ha0.keep k07) (by omega) (by omega) (aF.keep hs0 k07 (by simp)) (by omega) fun v8 n8 M8 r8 k8=>?_
   simp only[aY,aZ]
   refine hJ _ _ ⟨v8,n8,rfl,k8, ?_⟩
   rcases r8 with⟨s,es,hs8,o8,rfl⟩ | ⟨_,h8,_⟩
   ·exact .inl ⟨rfl,s,hs8,Own.kY o8,GU es⟩
   ·exact .inr (by omega)
  ·refine hJ _ _ ⟨v6,n6,rfl,ae.refl _ _, ?_⟩
   rcases r6 with⟨s,es,hs8,o8,rfl⟩ | ⟨_,h8,_⟩
   ·exact .inl ⟨rfl,s,hs8,aF.keep (Own.kY o8) k7 (by simp),zR es⟩
   ·exact .inr (by omega)
end
end Go.Ab.Hw
namespace Go.Ab.Hw
open Go Go.Ab Go.RowKit Go.Proofs
open Go.Proofs.YtmjcgbaacndblaaGreatDoor
theorem wW {P:Program} {n:String} {d:DataW Unit} {r:List (String × DataW Unit)} {w:World} (h:laidMet P ((n,d) :: r) w) : laidMet P r w:=by
 obtain⟨ps,⟨g,t,cs,fuel,p,q,_,_,_,_,hs,rfl⟩,hnd,hall⟩:=h
 exact⟨q,hs,(List.nodup_append.1 hnd).2.1,fun b off hm=>hall b off (by simp[hm])⟩
theorem OX:Rows.httpwireKnownRow.laid=("math/bits.deBruijn32tab",Rows.laid_math_bits_deBruijn32tab) :: ("math/bits.deBruijn64tab",Lib.tabData .u8 Jq) :: ("internal/strconv.uint64pow10",Lib.tabData .u64 Lib.pow10Tab) :: Rows.httpwireKnownRow.laid.drop 3:=by kernel_rfl
theorem inv_of (w:World) (h:laidMetH Tryz.prog Rows.httpwireKnownRow.laid w) (hsh:w.ShapedOpen Tryz.prog) : Iv w:=by
 rw[MakeChecks.laidMetH_plain _ _ _ (by kernel_rfl),OX] at h
 refine⟨cell_of_shapedOpen_int (g:=0) (t:=3) (zero := #[.int .i64 0]) hsh (by decide +kernel) (by kernel_rfl) (by kernel_rfl) (by kernel_rfl) (by kernel_rfl) (by kernel_rfl), ?_, ?_⟩
 ·exact Lib.tabIs_of_head (g:=3) (t:=152) (e:=126) (n:=20) g3 (by kernel_rfl) (by kernel_rfl) (by kernel_rfl) (by kernel_rfl) (by kernel_rfl) (wW (wW h))
 ·exact Lib.tabIs_of_head (g:=7) (t:=173) (e:=5) (n:=64) g7 (by kernel_rfl) (by kernel_rfl) (by kernel_rfl) (by kernel_rfl) (by kernel_rfl) (wW h)
theorem LQ {P:Program} {M:RM} {t e:TypeId} {v:AV} (h:Fits P M t [v]) (hu:P.underlying t=some (.slice e)) (hz:0<P.cellsOf e) : I8 v:=by
 generalize hc:[v]=cs at h
 cases h with
 | JY _ e' h1=>cases hc; trivial
 | emp _ e' b h1=>cases hc; trivial
 | slc _ e' b o n c ds h1 h2 h3 h4 h5 h6=>cases hc; exact h3
 | zero _ e' _ h1 h2=>rw[hu] at h1; cases h1; omega
 | _=>simp_all [oQ]
theorem uS:reachBytes≤281474976710656:=by decide +kernel
theorem cells5:Tryz.prog.cellsOf 5=1:=by kernel_rfl
theorem LD:Tryz.prog.cellsOf 9=1:=by kernel_rfl
theorem cells3:Tryz.prog.cellsOf 3=1:=by kernel_rfl
theorem Oq:Tryz.prog.cellsOf 23=1:=by kernel_rfl
theorem Ph:Tryz.prog.cellsOf 24=1:=by kernel_rfl
theorem DC:Tryz.prog.cellsOf 56=2:=by kernel_rfl
theorem Ox:Tryz.prog.cellsOf 26=4:=by kernel_rfl
theorem O4 {M:RM} {cs:List AV} (h:Fits Tryz.prog M 5 cs) : ∃ k:UInt8,cs=[By k]:=by
 obtain⟨n,rfl,h1,h2⟩:=h.Iq Tryz.underlying5
 have h1:(0:Int)≤n:=h1
 have h2:n≤(255:Int):=h2
 refine⟨UInt8.ofNat n.toNat, ?_⟩
 have:((UInt8.ofNat n.toNat).toNat:Int)=n:=by
  rw[UInt8.toNat_ofNat']
  omega
 rw[By,this]
theorem Ke {M:RM} {cs:List AV} (h:Fits Tryz.prog M 24 cs) : ∃ v,∃ bs:Str,cs=[v]∧Bs M v bs:=by
 obtain⟨v,n,ds,rfl,hs,hb,he⟩:=h.yI Tryz.underlying24 (by rw[cells5]; decide)
 have hc:=LQ h Tryz.underlying24 (by rw[cells5]; decide)
 rw[cells5] at hs he
 obtain⟨xs,rfl,rfl,_⟩:=sP (size:=1) BY.cells (fun _=>True) (fun _=>rfl) n ds hs.length fun i hi=>by
  obtain⟨k,e⟩:=O4 (he i hi)
  exact⟨k,trivial,e⟩
 exact⟨v,xs,rfl,hs,hc⟩
theorem Ov {M:RM} {cs:List AV} (h:Fits Tryz.prog M 56 cs) : ∃ x:Hd,(x.1.length≤281474976710656∧x.2.length≤281474976710656)∧cs=HD.cells x:=by
 obtain⟨hl,hf⟩:=h.Bg Tryz.underlying56
 rw[DC] at hl
 match cs,hl with
 | [a,b],_ =>
   have f0:Fits Tryz.prog M 9 (([a,b].drop 0).take (Tryz.prog.cellsOf 9)):=hf 0 _ rfl
   have f1:Fits Tryz.prog M 9 (([a,b].drop 1).take (Tryz.prog.cellsOf 9)):=hf 1 _ rfl
   rw[LD] at f0 f1
   obtain⟨s,e,g⟩:=f0.yQ Tryz.underlying9
   obtain⟨t,e',g'⟩:=f1.yQ Tryz.underlying9
   cases e; cases e'
   exact⟨(s,t),⟨Nat.le_trans g uS,Nat.le_trans g' uS⟩,rfl⟩
theorem Ny {M:RM} {cs:List AV} (h:Fits Tryz.prog M 23 cs) : ∃ v,∃ l:List Hd,cs=[v]∧Sl HD M v l∧∀ x∈l,x.1.length≤281474976710656∧x.2.length≤281474976710656:=by
 obtain⟨v,n,ds,rfl,hs,hb,he⟩:=h.yI Tryz.underlying23 (by rw[DC]; decide)
 rw[DC] at hs he
 obtain⟨xs,rfl,rfl,hp⟩:=sP (size:=2) HD.cells (fun x:Hd=>x.1.length≤281474976710656∧x.2.length≤281474976710656) (fun _=>rfl) n ds hs.length fun i hi=>by
  obtain⟨x,g,e⟩:=Ov (he i hi)
  exact⟨x,g,e⟩
 exact⟨v,xs,rfl,hs,hp⟩
theorem LU {M:RM} {cs:List AV} (h:Fits Tryz.prog M 46 cs) : ∃ v,∃ l:List Int,cs=[v]∧Sl INT M v l:=by
 obtain⟨v,n,ds,rfl,hs,hb,he⟩:=h.yI Tryz.underlying46 (by rw[cells3]; decide)
 rw[cells3] at hs he
 obtain⟨xs,rfl,rfl,_⟩:=sP (size:=1) INT.cells (fun _=>True) (fun _=>rfl) n ds hs.length fun i hi=>by
  obtain⟨k,e,_⟩:=(he i hi).Iq Tryz.underlying3
  exact⟨k,trivial,e⟩
 exact⟨v,xs,rfl,hs⟩
theorem Gw {M:RM} {cs:List AV} (h:Fits Tryz.prog M 26 cs) : ∃ (m p body:Str) (hv bv:AV) (l:List Hd),cs=[St m,St p,hv,bv]∧m.length≤281474976710656∧p.length≤281474976710656∧Sl HD M hv l∧(∀ x∈l,x.1.length≤281474976710656∧x.2.length≤281474976710656)∧Bs M bv body:=by
 obtain⟨hl,hf⟩:=h.Bg Tryz.underlying26
 rw[Ox] at hl
 match cs,hl with
 | [a,b,c,d],_ =>
   have f0:Fits Tryz.prog M 9 (([a,b,c,d].drop 0).take (Tryz.prog.cellsOf 9)):=hf 0 _ rfl
   have f1:Fits Tryz.prog M 9 (([a,b,c,d].drop 1).take (Tryz.prog.cellsOf 9)):=hf 1 _ rfl
   have f2:Fits Tryz.prog M 23 (([a,b,c,d].drop 2).take (Tryz.prog.cellsOf 23)):=hf 2 _ rfl
   have f3:Fits Tryz.prog M 24 (([a,b,c,d].drop 3).take (Tryz.prog.cellsOf 24)):=hf 3 _ rfl
   rw[LD] at f0 f1
   rw[Oq] at f2
   rw[Ph] at f3
   obtain⟨s,e,g⟩:=f0.yQ Tryz.underlying9
   obtain⟨t,e',g'⟩:=f1.yQ Tryz.underlying9
   obtain⟨hv,l,e2,s2,g2⟩:=Ny f2
   obtain⟨bv,bs,e3,s3⟩:=Ke f3
   cases e; cases e'; cases e2; cases e3
   exact⟨s,t,bs,_,_,l,rfl,Nat.le_trans g uS,Nat.le_trans g' uS,s2,g2,s3⟩
end Go.Ab.Hw
namespace Go.Proofs.YtmjcgbaacndblaaGreatDoor.httpwirePipes
open Go Go.Ab Go.ChangeShapes Go.WideShapes Go.ChangeAt Go.RowKit
theorem own:ownKnob Tryz.prog.godebug=none:=by kernel_rfl
open Go.Ab.Hw
def Inv (w:World) : Prop:=Iv w
theorem inv_of (w:World) (h:laidMetH Tryz.prog Rows.httpwirePipesRow.laid w) (hsh:w.ShapedOpen Tryz.prog) : Inv w:=Go.Ab.Hw.inv_of w h hsh
theorem walk (w:World) (hi:Inv w) (v0 v1 v2 v3:Value) (h0:kT Tryz.prog (RM.old (base w hi) w) 26 (mD w.heap.size v0)) (h1:kT Tryz.prog (RM.old (base w hi) w) 26 (mD w.heap.size v1)) (h2:kT Tryz.prog (RM.old (base w hi) w) 46 (mD w.heap.size v2)) (h3:kT Tryz.prog (RM.old (base w hi) w) 4 (mD w.heap.size v3)) :
  Calls Tryz.prog 8 #[v0,v1,v2,v3] w fun e w'=>e=.returned (.bool true)∧Below w.heap.size w w':=by
 obtain⟨cs0,f0,hf0⟩:=h0.agg (by kernel_rfl)
 obtain⟨m0,p0,y0,hv0,bv0,l0,e0,gm0,gp0,gs0,gl0,gb0⟩:=Gw hf0
 rw[e0] at f0
 have r0:qb (RM.old (base w hi) w) hv0 bv0 m0 p0 y0 l0:=⟨gs0,gb0,gl0,gm0,gp0⟩
 obtain⟨cs1,f1,hf1⟩:=h1.agg (by kernel_rfl)
 obtain⟨m1,p1,y1,hv1,bv1,l1,e1,gm1,gp1,gs1,gl1,gb1⟩:=Gw hf1
 rw[e1] at f1
 have r1:qb (RM.old (base w hi) w) hv1 bv1 m1 p1 y1 l1:=⟨gs1,gb1,gl1,gm1,gp1⟩
 obtain⟨u2,b2,e2,g2⟩:=LU (h2.one (by kernel_rfl))
 obtain⟨n3,e3⟩:=(h3.one (by kernel_rfl)).ML Tryz.underlying4
 refine dL.close (base:=base w hi) rfl hi ?_
 simp only[List.map_cons,List.map_nil]
 rw[show mD (base w hi).n v0=.agg [St m0,St p0,hv0,bv0] from f0,show mD (base w hi).n v1=.agg [St m1,St p1,hv1,bv1] from f1,show mD (base w hi).n v2=u2 from(List.cons.inj e2).1,show mD (base w hi).n v3=Bo n3 from(List.cons.inj e3).1]
 exact MP (hi:=hi) rfl r0 r1 g2 fun M'=>rfl
set_option maxRecDepth 100000 in
theorem lifted (os:Os) (started:os.Started) (H:Type) (enc:TypeId × Value→H) :
  ReturnsInHanded {} Tryz.checked os 8 .any (fun w args=>(Rows.httpwirePipesSpec.pre enc Tryz.prog Tryz.f8 Rows.httpwirePipesRow.domain false w args∧laidMetH Tryz.prog Rows.httpwirePipesRow.laid w)∧sizedMet enc Tryz.prog Tryz.f8 (OpenSpec.ofChange Rows.httpwirePipesSpec) false w args)
   (Rows.httpwirePipesSpec.post enc Tryz.prog Tryz.f8 false true false false):=by
 refine zF (C:=Tryz.checked) (X:=fun w _=>laidMetH Tryz.prog Rows.httpwirePipesRow.laid w) (fun _ _ _ hh h=>h.of_heap hh) own started (by kernel_rfl) Tryz.func8
  (ChangeSpec.witness_shaped (enc:=enc) (C:=Tryz.checked) (os:=os) (X:=fun w _=>laidMetH Tryz.prog Rows.httpwirePipesRow.laid w) false (World.laidAll Tryz.prog os Rows.httpwirePipesRow.laid) #[.agg ⟨[.string ⟨#[]⟩,.string ⟨#[]⟩,.slice none 0 0,.slice none 0 0]⟩,.agg ⟨[.string ⟨#[]⟩,.string ⟨#[]⟩,.slice none 0 0,.slice none 0 0]⟩,.slice none 0 0,.bool false] 8 (World.laidAll_os _ _ _)
   (World.shaped_of_ZipB (by kernel_rfl) (by kernel_rfl)) (by kernel_rfl) (by kernel_rfl) (by kernel_rfl)
   (by rw[MakeChecks.laidMetH_plain _ _ _ (by kernel_rfl)]; exact laidMet_laidAll _ (by kernel_rfl) (by kernel_rfl))) ?_
 intro W b0 args ds gs before hval hW hcnd hwt hL hsh _
 have hW':=hW
 obtain⟨p,q,hA,hV,rfl,hfz,hnd⟩:=hW
 rw[Tryz.params8] at hA hwt
 have hi:Inv W:=inv_of W hL hsh
 obtain⟨rfl,rfl⟩:=trodVars_none hV
 have hfit:=Ga (base:=base W hi) rfl hA (fun j t v hj hv=>hval j t v (by rw[Tryz.params8]; simpa using hj) (by simpa using hv)) (fun y hy=>by
  have TD:(DataW.weightsEach Tryz.prog [26,26,46,4] (ds++[])).all (· ≤ reachBytes)=true:=hwt
  have:=List.all_eq_true.1 TD y (by rw[List.append_nil]; exact hy)
  simpa using this)
 simp only[List.append_nil] at hW'
 have hlt:∀ x∈p,x.block<W.heap.size:=fun x hx=>hW'.lt x hx
 obtain⟨v0,v1,v2,v3,d0,d1,d2,d3,p0,p1,p2,p3,rfl,rfl,rfl,h0,h1,h2,h3⟩:=trodAll_four hA
 refine(walk W hi v0 v1 v2 v3 (hfit 0 _ _ rfl rfl) (hfit 1 _ _ rfl rfl) (hfit 2 _ _ rfl rfl) (hfit 3 _ _ rfl rfl)).mono fun e W' ⟨he,hg⟩=>?_
 subst he
 exact⟨_,rfl,EC (pa:=_) (pv:=[]) hW' (fun _ _ _=>(trodAll_cons_mk (shut_bool Tryz.underlying4 _) trodAll_mk0)) (fun sp hsp=>by
   rw[Tryz.params8]
   exact wF (by kernel_rfl) hg (fun t ht=>by
    have ht:t=26∨t=26∨t=46∨t=4:=by simpa using ht
    rcases ht with rfl | rfl | rfl | rfl <;> exact⟨by kernel_rfl,of_decide_eq_true (by kernel_rfl)⟩) hA hlt hsp) (fun _ _=>rfl) (by simp)
  hg (ok_one (by kernel_rfl) rfl (okWide_bool_mk Tryz.underlying4 _))⟩
theorem over:Rows.HttpwirePipesSaid :=
 OpenClaim.holds_of_wide 8 Tryz.f8 rfl rfl rfl rfl rfl rfl rfl ⟨rfl,rfl,rfl,rfl,rfl⟩ rfl rfl rfl rfl rfl (by kernel_rfl) Tryz.func8 (by kernel_rfl)
  (of_decide_eq_true (by kernel_rfl)) (by unfold Func.isWrapper; first | (rw[if_pos (by decide +kernel)]; kernel_rfl) | (rw[if_neg (by decide +kernel)]; exact⟨rfl,rfl⟩))
  (fun os started H enc _=>lifted os started H enc)
theorem proved:Rows.HttpwirePipesCardSaid :=
 Claim7.holds_tied_plain_at .later [] [.data,.data,.data,.data,.sentinel,.sentinel,.pinned] true (true,"362dc9c824334cfe19c170802755e1a7d2dd71729a4e635eeb53d76f24be5b19") true
  over (fun _ h=>by cases h) (by kernel_rfl) (fun _ h=>by cases h) httpwirePipes_row_tie rfl ⟨rfl,rfl⟩ (by kernel_rfl) rfl
  (fun f fn hf hfn=>by
   obtain rfl:f=8:=Option.some.inj ((show Tryz.prog.funcNamed "rolodex/rolodexlaw17.HttpwirePipes" = some 8 by kernel_rfl).symm.trans hf) |>.symm
   obtain rfl:fn=Tryz.f8:=(Option.some.inj (Tryz.func8.symm.trans hfn)).symm
   exact⟨by kernel_rfl,fun j t ht=>by
    rw[Tryz.params8] at ht
    have hm:=Array.mem_of_getElem? ht
    have hm:t=26∨t=26∨t=46∨t=4:=by simpa using hm
    rcases hm with rfl | rfl | rfl | rfl
    ·exact(by kernel_rfl:Tryz.prog.wantsStandIn 26=false)
    ·exact(by kernel_rfl:Tryz.prog.wantsStandIn 26=false)
    ·exact(by kernel_rfl:Tryz.prog.wantsStandIn 46=false)
    ·exact(by kernel_rfl:Tryz.prog.wantsStandIn 4=false)⟩)
  (by kernel_rfl)
end Go.Proofs.YtmjcgbaacndblaaGreatDoor.httpwirePipes
