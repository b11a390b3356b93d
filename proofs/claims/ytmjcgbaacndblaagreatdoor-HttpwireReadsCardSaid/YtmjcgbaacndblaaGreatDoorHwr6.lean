/- - 'HttpwireReads' returns true, in whatever world it is called. By an AI agent. -/
import Derived.Test.YtmjcgbaacndblaaGreatDoorHwr5
import Derived.KernelRfl
import Derived.Test.YtmjcgbaacndblaaGreatDoorProg
import Derived.Lib.LaidTab
import Derived.Shelf.Vars
import Derived.Shelf.Strings.Split
import Derived.Shelf.Strings.SlTrimAscii
import Derived.Shelf.Strconv.Itoa3
import Derived.Shelf.Strconv.Atoi
import Derived.Lib.AtoiErrMem
import Derived.Shelf.Spec.TrailingZeros
import Derived.Shelf.Bytes.SlIndexWhole
import Derived.Test.YtmjcgbaacndblaaGreatDoorRows
import Derived.LaidMore
import Derived.Lay
import Derived.Test.YtmjcgbaacndblaaGreatDoorTie
import Derived.Test.YtmjcgbaacndblaaGreatDoorCards
import Derived.Carry
import Derived.WalkKit
import Derived.ProofKit
import Derived.OpenShut
import Derived.SevenTiedAt
import Derived.Stop.Joined
set_option maxRecDepth 100000
set_option linter.unusedVariables false
set_option linter.unusedSimpArgs false
namespace Go.Proofs.YtmjcgbaacndblaaGreatDoor
open Go Go.Ab
abbrev au := @eZ Tryz.prog
theorem UI:Al Tryz.prog:=⟨OO (by kernel_rfl),by kernel_rfl⟩
theorem bg {f:FuncId} {fn:Func} {args:List AV} {M:RM} {Q:ai} {B:Prop} (h:B) (hfn:Tryz.prog.funcs[f]?=some fn:=by kernel_rfl) (e:B=E8 Tryz.prog fn args M Q:=by kernel_rfl) : au f args M Q:=NQ UI hfn (e▸h)
variable {a0 a1 a2 a3 a4 a5 a6 a7:AV} {M:RM} {Q:ai}
theorem qi (h:Go.Ab.Hw.nD (au 10) 5 (au 11) 26 (au 14) 34 (au 15) 39 (au 17) (au 16) (au 18) a0 M Q) : au 4 [a0] M Q:=bg (fn:=Tryz.f4) h
theorem yY (h:Go.Ab.Hw.yQ 56 26 (au 12) 5 (au 11) (au 22) (au 13) (au 14) 34 (au 23) 3 (au 19)  M Q) : au 10 [] M Q:=bg (fn:=Tryz.f10) h
theorem pF (h:Go.Ab.Hw.jE 26 26 (au 25) (au 30) a0 M Q) : au 11 [a0] M Q:=bg (fn:=Tryz.f11) h
theorem oF (h:Go.Ab.Hw.jf 26 (au 31) (au 33) (au 32) a0 M Q) : au 12 [a0] M Q:=bg (fn:=Tryz.f12) h
theorem nQ (h:Go.Ab.Hw.iT 34 (au 34) (au 33) (au 32) a0 M Q) : au 13 [a0] M Q:=bg (fn:=Tryz.f13) h
theorem oH (h:Go.Ab.Hw.je 34 35 (au 25) (au 30) a0 M Q) : au 14 [a0] M Q:=bg (fn:=Tryz.f14) h
theorem Ai (h:Go.Ab.Hw.rR 39 (au 41) (au 42) (au 44) (au 45) 5 (au 43) 83 a0 a1 M Q) : au 15 [a0,a1] M Q:=bg (fn:=Tryz.f15) h
theorem Ap (h:Go.Ab.Hw.tJ 39 a0 a1 M Q) : au 16 [a0,a1] M Q:=bg (fn:=Tryz.f16) h
theorem vN (h:Go.Ab.Hw.oo 26 39 (au 46) a0 M Q) : au 17 [a0] M Q:=bg (fn:=Tryz.f17) h
theorem uG (h:Go.Ab.Hw.mV 34 39 (au 46) a0 M Q) : au 18 [a0] M Q:=bg (fn:=Tryz.f18) h
theorem sQ (h:Go.Ab.Hw.lN 26 (au 31) (au 47) 3 5 (au 49) 24 (au 48) (au 32) a0 a1 M Q) : au 19 [a0,a1] M Q:=bg (fn:=Tryz.f19) h
theorem pO (h:Go.Ab.Hw.jA 26 (au 55) a0 a1 M Q) : au 22 [a0,a1] M Q:=bg (fn:=Tryz.f22) h
theorem oG (h:Go.Ab.Hw.jd 34 (au 55) a0 a1 M Q) : au 23 [a0,a1] M Q:=bg (fn:=Tryz.f23) h
theorem Bi (h:Go.Ab.Hw.uY 5 a0 M Q) : au 24 [a0] M Q:=bg (fn:=Tryz.f24) h
theorem vU (h:Go.Ab.Hw.oz (au 56) (au) (au 57) 56 a0 a1 M Q) : au 25 [a0,a1] M Q:=bg (fn:=Tryz.f25) h
theorem og (h:Go.Ab.Hw.iW (au 27) (au 28) (au 29) a0 a1 M Q) : au 26 [a0,a1] M Q:=bg (fn:=Tryz.f26) h
theorem qj (h:Go.Ab.Hw.jM (au 59) (au 37) 60 a0 M Q) : au 28 [a0] M Q:=bg (fn:=Tryz.f28) h
theorem qW (h:Go.Ab.Hw.kI (au 61) (au 37) 62 a0 M Q) : au 29 [a0] M Q:=bg (fn:=Tryz.f29) h
theorem vY (h:Go.Ab.Hw.ou (au 63) (au 64) (au 65) (au 59) (au 37) 38 (au 40) (au 66) a0 a1 a2 M Q) : au 30 [a0,a1,a2] M Q:=bg (fn:=Tryz.f30) h
theorem oQ (h:Go.Ab.Hw.jC 26 (au 28) (au 29) a0 M Q) : au 31 [a0] M Q:=bg (fn:=Tryz.f31) h
theorem rO (h:Go.Ab.Hw.lh 56 (au 67) (au 68) (au 64) 5 a0 a1 a2 a3 a4 M Q) : au 32 [a0,a1,a2,a3,a4] M Q:=bg (fn:=Tryz.f32) h
theorem tK (h:Go.Ab.Hw.lQ 56 (au 34) a0 M Q) : au 33 [a0] M Q:=bg (fn:=Tryz.f33) h
theorem nI (h:Go.Ab.Hw.iK (au 36) (au 37) 38 39 (au 40) a0 a1 M Q) : au 35 [a0,a1] M Q:=bg (fn:=Tryz.f35) h
theorem qJ (h:Go.Ab.Vl.kN (au 70) a0 a1 M Q) : au 36 [a0,a1] M Q:=bg (fn:=Tryz.f36) h
theorem eF (h:Go.Ab.Hw.oV 5 (au) a0 a1 M Q) : au 37 [a0,a1] M Q:=bg (fn:=Tryz.f37) h
theorem vC (h:Go.Ab.Hw.mJ a0 M Q) : au 38 [a0] M Q:=bg (fn:=Tryz.f38) h
theorem mq (h:Go.Ab.Hw.il a0 M Q) : au 39 [a0] M Q:=bg (fn:=Tryz.f39) h
theorem Bg (h:Go.Ab.Hw.vD a0 M Q) : au 41 [a0] M Q:=bg (fn:=Tryz.f41) h
theorem yZ (h:Go.Ab.Hw.qx 39 (au 50) (au 51) a0 a1 M Q) : au 42 [a0,a1] M Q:=bg (fn:=Tryz.f42) h
theorem yE (h:Go.Ab.Hw.pQ 83 (au 53) (au 73) (au 54) a0 M Q) : au 43 [a0] M Q:=bg (fn:=Tryz.f43) h
theorem yX (h:Go.Ab.Hw.qA (au 24) a0 M Q) : au 44 [a0] M Q:=bg (fn:=Tryz.f44) h
theorem wU (h:Go.Ab.Hw.oL 5 (au 41) (au 74) a0 M Q) : au 45 [a0] M Q:=bg (fn:=Tryz.f45) h
theorem vL (h:Go.Ab.Hw.nS 83 a0 M Q) : au 46 [a0] M Q:=bg (fn:=Tryz.f46) h
theorem Be (h:Go.Ab.Hw.vH 3 a0 M Q) : au 47 [a0] M Q:=bg (fn:=Tryz.f47) h
theorem yS (h:Go.Ab.Hw.qC 9 (au 75) 5 a0 M Q) : au 48 [a0] M Q:=bg (fn:=Tryz.f48) h
theorem qX (h:Go.Ab.Hw.oJ (au 76) a0 a1 M Q) : au 49 [a0,a1] M Q:=bg (fn:=Tryz.f49) h
theorem wM (h:Go.Ab.Hw.pq a0 M Q) : au 50 [a0] M Q:=bg (fn:=Tryz.f50) h
theorem Ag (h:Go.Ab.Hw.rT a0 M Q) : au 51 [a0] M Q:=bg (fn:=Tryz.f51) h
theorem zX (h:Go.Ab.Hw.sI a0 M Q) : au 53 [a0] M Q:=bg (fn:=Tryz.f53) h
theorem yR (h:Go.Ab.Hw.qp (au 77) a0 M Q) : au 54 [a0] M Q:=bg (fn:=Tryz.f54) h
theorem u6 (h:Go.Ab.Hw.mO (au 63) a0 a1 M Q) : au 55 [a0,a1] M Q:=bg (fn:=Tryz.f55) h
theorem wB (h:Go.Ab.Hw.nV 5 (au 78) a0 a1 M Q) : au 56 [a0,a1] M Q:=bg (fn:=Tryz.f56) h
theorem uf (h:Go.Ab.Hw.l9 56 (au 79) (au 80) (au 67) (au 68) a0 M Q) : au 57 [a0] M Q:=bg (fn:=Tryz.f57) h
theorem uh (h:Go.Ab.Hw.mh a0 a1 a2 M Q) : au 59 [a0,a1,a2] M Q:=bg (fn:=Tryz.f59) h
theorem vE (h:Go.Ab.Hw.mY a0 M Q) : au 60 [a0] M Q:=bg (fn:=Tryz.f60) h
theorem qK (h:Go.Ab.Vl.oK (au 84) a0 a1 M Q) : au 61 [a0,a1] M Q:=bg (fn:=Tryz.f61) h
theorem rX (h:Go.Ab.Hw.lM a0 M Q) : au 62 [a0] M Q:=bg (fn:=Tryz.f62) h
theorem uQ (h:Go.Ab.Hw.mP 56 (au 64) 9 a0 a1 M Q) : au 63 [a0,a1] M Q:=bg (fn:=Tryz.f63) h
theorem uK (h:Go.Ab.Hw.mZ 5 a0 M Q) : au 64 [a0] M Q:=bg (fn:=Tryz.f64) h
theorem sj (h:Go.Ab.Hw.lI (au 85) 5 a0 a1 M Q) : au 65 [a0,a1] M Q:=bg (fn:=Tryz.f65) h
theorem zZ (h:Go.Ab.Dot.si 5 a0 M Q) : au 66 [a0] M Q:=bg (fn:=Tryz.f66) h
theorem qF (h:Go.Ab.Hw.kJ (au 59) (au 64) (au 37) 86 a0 M Q) : au 67 [a0] M Q:=bg (fn:=Tryz.f67) h
theorem qB (h:Go.Ab.Hw.kg (au 80) (au 37) 87 a0 M Q) : au 68 [a0] M Q:=bg (fn:=Tryz.f68) h
theorem kK (h:Go.Ab.Vl.fG (au 84) a0 a1 M Q) : au 70 [a0,a1] M Q:=bg (fn:=Tryz.f70) h
theorem zG (h:Go.Ab.Hw.sO (au 77) a0 M Q) : au 73 [a0] M Q:=bg (fn:=Tryz.f73) h
theorem Bh (h:Go.Ab.Hw.uX a0 M Q) : au 74 [a0] M Q:=bg (fn:=Tryz.f74) h
theorem Bf (h:Go.Ab.Hw.uH 9 5 a0 a1 M Q) : au 75 [a0,a1] M Q:=bg (fn:=Tryz.f75) h
theorem mo (h:Go.Ab.Hw.gN (au 93) 125 (au 94) (au 95) (au 96) a0 a1 M Q) : au 76 [a0,a1] M Q:=bg (fn:=Tryz.f76) h
theorem yU (h:Go.Ab.Hw.qz a0 M Q) : au 77 [a0] M Q:=bg (fn:=Tryz.f77) h
theorem yV (h:Go.Ab.Vl.qy (au 102) a0 a1 M Q) : au 79 [a0,a1] M Q:=bg (fn:=Tryz.f79) h
theorem wV (h:Go.Ab.Vl.vP (au 104) (au 103) (au 105) 135 (au 107) (au 106) (au 109) (au 108) a0 a1 M Q) : au 80 [a0,a1] M Q:=bg (fn:=Tryz.f80) h
theorem kL (h:Go.Ab.Vl.fE a0 a1 M Q) : au 84 [a0,a1] M Q:=bg (fn:=Tryz.f84) h
theorem wE (h:Go.Ab.Hw.nU 5 (au 114) (au 59) (au 64) (au 37) 115 (au 116) a0 a1 M Q) : au 85 [a0,a1] M Q:=bg (fn:=Tryz.f85) h
theorem qg (h:Go.Ab.Hw.jO (au 38) a0 M Q) : au 86 [a0] M Q:=bg (fn:=Tryz.f86) h
theorem pR (h:Go.Ab.Hw.jH a0 M Q) : au 87 [a0] M Q:=bg (fn:=Tryz.f87) h
theorem lZ (h:Go.Ab.Hw.gG 9 154 (au 123) (au 124) 5 a0 a1 a2 a3 a4 M Q) : au 96 [a0,a1,a2,a3,a4] M Q:=bg (fn:=Tryz.f96) h
theorem mW (h:Go.Ab.Vl.iD (au 113) a0 a1 M Q) : au 102 [a0,a1] M Q:=bg (fn:=Tryz.f102) h
theorem mi (h:Go.Ab.Hw.dE (au 131) 0 (GD Tryz.prog 132) (au 100) (au 133) a0 a1 M Q) : au 113 [a0,a1] M Q:=bg (fn:=Tryz.f113) h
theorem Bc (h:Go.Ab.Hw.uI (au 78) a0 a1 M Q) : au 114 [a0,a1] M Q:=bg (fn:=Tryz.f114) h
theorem ug (h:Go.Ab.Hw.ma (au 38) a0 M Q) : au 115 [a0] M Q:=bg (fn:=Tryz.f115) h
theorem qV (h:Go.Ab.Hw.kP (au 117) (au 72) a0 a1 a2 M Q) : au 116 [a0,a1,a2] M Q:=bg (fn:=Tryz.f116) h
theorem l8 (h:Go.Ab.Hw.gM 119 (au 134) 5 (au 135) a0 a1 a2 M Q) : au 117 [a0,a1,a2] M Q:=bg (fn:=Tryz.f117) h
theorem kV (h:Go.Ab.Hw.fT a0 M Q) : au 123 [a0] M Q:=bg (fn:=Tryz.f123) h
theorem kH (h:Go.Ab.Vl.iZ (GD Tryz.prog 140) a0 a1 M Q) : au 131 [a0,a1] M Q:=bg (fn:=Tryz.f131) h
theorem nL (h:Go.Ab.Hw.iY a0 M Q) : au 134 [a0] M Q:=bg (fn:=Tryz.f134) h
end Go.Proofs.YtmjcgbaacndblaaGreatDoor
namespace Go.Proofs
open Go.RowKit Go.Shelf
def Tryz.lays185_ren:Go.Shelf.Ren:=⟨fun | 185=>78 | 187=>97 | 115=>98 | 253=>99 | 224=>100 | 254=>101 | 255=>125 | 291=>126 | n=>n,fun | 37=>24 | 3=>3 | 4=>4 | 0=>0 | 5=>5 | 46=>60 | 9=>9 | 146=>157 | 51=>153 | n=>n,fun | 1=>0 | n=>n⟩
theorem Tryz.lays185:Go.Proofs.Lays.n185 Tryz.prog Tryz.lays185_ren where
 mixed:=by kernel_rfl
 f115:=Tryz.func98.trans (congrArg some (by kernel_rfl))
 f185:=Tryz.func78.trans (congrArg some (by kernel_rfl))
 f187:=Tryz.func97.trans (congrArg some (by kernel_rfl))
 f224:=Tryz.func100.trans (congrArg some (by kernel_rfl))
 f253:=Tryz.func99.trans (congrArg some (by kernel_rfl))
 f254:=Tryz.func101.trans (congrArg some (by kernel_rfl))
 f255:=Tryz.func125.trans (congrArg some (by kernel_rfl))
 f291:=Tryz.func126.trans (congrArg some (by kernel_rfl))
 t0:=Tryz.underlying0
 a0:=Tryz.isAgg0
 z0:=Tryz.sizeOf0
 v0:=Tryz.zeroValue0
 t3:=Tryz.underlying3
 a3:=Tryz.isAgg3
 z3:=Tryz.sizeOf3
 v3:=Tryz.zeroValue3
 t4:=Tryz.underlying4
 a4:=Tryz.isAgg4
 z4:=Tryz.sizeOf4
 v4:=Tryz.zeroValue4
 t5:=Tryz.underlying5
 a5:=Tryz.isAgg5
 z5:=Tryz.sizeOf5
 v5:=Tryz.zeroValue5
 t9:=Tryz.underlying9
 a9:=Tryz.isAgg9
 z9:=Tryz.sizeOf9
 v9:=Tryz.zeroValue9
 t37:=Tryz.underlying24
 a37:=Tryz.isAgg24
 z37:=Tryz.sizeOf24
 v37:=Tryz.zeroValue24
 t46:=Tryz.underlying60
 a46:=Tryz.isAgg60
 z46:=Tryz.sizeOf60
 v46:=Tryz.zeroValue60
 t51:=Tryz.underlying153
 a51:=Tryz.isAgg153
 z51:=Tryz.sizeOf153
 v51:=Tryz.zeroValue153
 t146:=Tryz.underlying157
 a146:=Tryz.isAgg157
 z146:=Tryz.sizeOf157
 v146:=Tryz.zeroValue157
 g1:=by kernel_rfl
def Tryz.lays146_ren:Go.Shelf.Ren:=⟨fun | 146=>27 | 221=>58 | 268=>81 | 138=>82 | 143=>83 | 195=>110 | 197=>111 | 218=>112 | 219=>113 | 260=>130 | 217=>131 | 225=>132 | 224=>100 | 267=>133 | 266=>140 | 314=>141 | n=>n,fun | 9=>9 | 31=>64 | 3=>3 | 4=>4 | 0=>0 | 105=>141 | 21=>21 | 5=>5 | 46=>60 | 119=>167 | 139=>170 | 138=>169 | 146=>157 | 51=>153 | n=>n,fun | 1=>0 | 3=>4 | 4=>5 | n=>n⟩
theorem Tryz.lays146:Go.Proofs.Lays.n146 Tryz.prog Tryz.lays146_ren where
 mixed:=by kernel_rfl
 f138:=Tryz.func82.trans (congrArg some (by kernel_rfl))
 f143:=Tryz.func83.trans (congrArg some (by kernel_rfl))
 f146:=Tryz.func27.trans (congrArg some (by kernel_rfl))
 f195:=Tryz.func110.trans (congrArg some (by kernel_rfl))
 f197:=Tryz.func111.trans (congrArg some (by kernel_rfl))
 f217:=Tryz.func131.trans (congrArg some (by kernel_rfl))
 f218:=Tryz.func112.trans (congrArg some (by kernel_rfl))
 f219:=Tryz.func113.trans (congrArg some (by kernel_rfl))
 f221:=Tryz.func58.trans (congrArg some (by kernel_rfl))
 f224:=Tryz.func100.trans (congrArg some (by kernel_rfl))
 f225:=Tryz.func132.trans (congrArg some (by kernel_rfl))
 f260:=Tryz.func130.trans (congrArg some (by kernel_rfl))
 f266:=Tryz.func140.trans (congrArg some (by kernel_rfl))
 f267:=Tryz.func133.trans (congrArg some (by kernel_rfl))
 f268:=Tryz.func81.trans (congrArg some (by kernel_rfl))
 f314:=Tryz.func141.trans (congrArg some (by kernel_rfl))
 t0:=Tryz.underlying0
 a0:=Tryz.isAgg0
 z0:=Tryz.sizeOf0
 v0:=Tryz.zeroValue0
 t3:=Tryz.underlying3
 a3:=Tryz.isAgg3
 z3:=Tryz.sizeOf3
 v3:=Tryz.zeroValue3
 t4:=Tryz.underlying4
 a4:=Tryz.isAgg4
 z4:=Tryz.sizeOf4
 v4:=Tryz.zeroValue4
 t5:=Tryz.underlying5
 a5:=Tryz.isAgg5
 z5:=Tryz.sizeOf5
 v5:=Tryz.zeroValue5
 t9:=Tryz.underlying9
 a9:=Tryz.isAgg9
 z9:=Tryz.sizeOf9
 v9:=Tryz.zeroValue9
 t21:=Tryz.underlying21
 a21:=Tryz.isAgg21
 z21:=Tryz.sizeOf21
 v21:=Tryz.zeroValue21
 t31:=Tryz.underlying64
 a31:=Tryz.isAgg64
 z31:=Tryz.sizeOf64
 v31:=Tryz.zeroValue64
 t46:=Tryz.underlying60
 a46:=Tryz.isAgg60
 z46:=Tryz.sizeOf60
 v46:=Tryz.zeroValue60
 t51:=Tryz.underlying153
 a51:=Tryz.isAgg153
 z51:=Tryz.sizeOf153
 v51:=Tryz.zeroValue153
 t105:=Tryz.underlying141
 a105:=Tryz.isAgg141
 z105:=Tryz.sizeOf141
 v105:=Tryz.zeroValue141
 t119:=Tryz.underlying167
 a119:=Tryz.isAgg167
 z119:=Tryz.sizeOf167
 t138:=Tryz.underlying169
 a138:=Tryz.isAgg169
 z138:=Tryz.sizeOf169
 v138:=Tryz.zeroValue169
 t139:=Tryz.underlying170
 a139:=Tryz.isAgg170
 z139:=Tryz.sizeOf170
 v139:=Tryz.zeroValue170
 t146:=Tryz.underlying157
 a146:=Tryz.isAgg157
 z146:=Tryz.sizeOf157
 v146:=Tryz.zeroValue157
 g1:=by kernel_rfl
 g3:=by kernel_rfl
 g4:=by kernel_rfl
def Tryz.lays160_ren:Go.Shelf.Ren:=⟨fun | 160=>80 | 232=>104 | 231=>103 | 227=>105 | 234=>107 | 233=>106 | 236=>109 | 235=>108 | 228=>127 | 271=>129 | 151=>128 | 197=>111 | 120=>139 | 152=>138 | 260=>130 | 137=>142 | 119=>143 | 224=>100 | 225=>132 | 217=>131 | 266=>140 | n=>n,fun | 9=>9 | 4=>4 | 3=>3 | 5=>5 | 117=>136 | 116=>135 | 0=>0 | 124=>139 | 21=>21 | 105=>141 | 46=>60 | 119=>167 | 139=>170 | 138=>169 | n=>n,fun | 3=>4 | 4=>5 | n=>n⟩
theorem Tryz.lays160:Go.Proofs.Lays.n160 Tryz.prog Tryz.lays160_ren where
 mixed:=by kernel_rfl
 f119:=Tryz.func143.trans (congrArg some (by kernel_rfl))
 f120:=Tryz.func139.trans (congrArg some (by kernel_rfl))
 f137:=Tryz.func142.trans (congrArg some (by kernel_rfl))
 f151:=Tryz.func128.trans (congrArg some (by kernel_rfl))
 f152:=Tryz.func138.trans (congrArg some (by kernel_rfl))
 f160:=Tryz.func80.trans (congrArg some (by kernel_rfl))
 f197:=Tryz.func111.trans (congrArg some (by kernel_rfl))
 f217:=Tryz.func131.trans (congrArg some (by kernel_rfl))
 f224:=Tryz.func100.trans (congrArg some (by kernel_rfl))
 f225:=Tryz.func132.trans (congrArg some (by kernel_rfl))
 f227:=Tryz.func105.trans (congrArg some (by kernel_rfl))
 f228:=Tryz.func127.trans (congrArg some (by kernel_rfl))
 f231:=Tryz.func103.trans (congrArg some (by kernel_rfl))
 f232:=Tryz.func104.trans (congrArg some (by kernel_rfl))
 f233:=Tryz.func106.trans (congrArg some (by kernel_rfl))
 f234:=Tryz.func107.trans (congrArg some (by kernel_rfl))
 f235:=Tryz.func108.trans (congrArg some (by kernel_rfl))
 f236:=Tryz.func109.trans (congrArg some (by kernel_rfl))
 f260:=Tryz.func130.trans (congrArg some (by kernel_rfl))
 f266:=Tryz.func140.trans (congrArg some (by kernel_rfl))
 f271:=Tryz.func129.trans (congrArg some (by kernel_rfl))
 t0:=Tryz.underlying0
 a0:=Tryz.isAgg0
 z0:=Tryz.sizeOf0
 v0:=Tryz.zeroValue0
 t3:=Tryz.underlying3
 a3:=Tryz.isAgg3
 z3:=Tryz.sizeOf3
 v3:=Tryz.zeroValue3
 t4:=Tryz.underlying4
 a4:=Tryz.isAgg4
 z4:=Tryz.sizeOf4
 v4:=Tryz.zeroValue4
 t5:=Tryz.underlying5
 a5:=Tryz.isAgg5
 z5:=Tryz.sizeOf5
 v5:=Tryz.zeroValue5
 t9:=Tryz.underlying9
 a9:=Tryz.isAgg9
 z9:=Tryz.sizeOf9
 v9:=Tryz.zeroValue9
 t21:=Tryz.underlying21
 a21:=Tryz.isAgg21
 z21:=Tryz.sizeOf21
 v21:=Tryz.zeroValue21
 t46:=Tryz.underlying60
 a46:=Tryz.isAgg60
 z46:=Tryz.sizeOf60
 v46:=Tryz.zeroValue60
 t105:=Tryz.underlying141
 a105:=Tryz.isAgg141
 z105:=Tryz.sizeOf141
 v105:=Tryz.zeroValue141
 t116:=Tryz.underlying135
 a116:=Tryz.isAgg135
 z116:=Tryz.sizeOf135
 t117:=Tryz.underlying136
 a117:=Tryz.isAgg136
 z117:=Tryz.sizeOf136
 v117:=Tryz.zeroValue136
 t119:=Tryz.underlying167
 a119:=Tryz.isAgg167
 z119:=Tryz.sizeOf167
 t124:=Tryz.underlying139
 a124:=Tryz.isAgg139
 z124:=Tryz.sizeOf139
 v124:=Tryz.zeroValue139
 t138:=Tryz.underlying169
 a138:=Tryz.isAgg169
 z138:=Tryz.sizeOf169
 v138:=Tryz.zeroValue169
 t139:=Tryz.underlying170
 a139:=Tryz.isAgg170
 z139:=Tryz.sizeOf170
 v139:=Tryz.zeroValue170
 g3:=by kernel_rfl
 g4:=by kernel_rfl
def Tryz.lays172_ren:Go.Shelf.Ren:=⟨fun | 172=>40 | 244=>71 | 245=>72 | 247=>88 | 279=>89 | 280=>90 | 281=>91 | 282=>92 | 287=>117 | 316=>118 | 171=>34 | 205=>119 | 321=>134 | 322=>135 | 243=>69 | 246=>76 | 283=>93 | 284=>94 | 285=>95 | 286=>96 | 129=>121 | 317=>120 | 318=>122 | 319=>123 | 320=>124 | 337=>136 | 338=>137 | n=>n,fun | 9=>9 | 3=>3 | 75=>77 | 76=>78 | 4=>4 | 5=>5 | 167=>119 | 37=>24 | 0=>0 | 85=>120 | 2=>2 | 168=>122 | 53=>126 | 175=>146 | 46=>60 | 210=>149 | 127=>161 | 145=>164 | 143=>162 | 21=>21 | 171=>125 | 173=>129 | 212=>152 | 51=>153 | 20=>20 | 213=>154 | 232=>172 | 233=>173 | 80=>175 | n=>n,fun | 15=>1 | 16=>2 | 17=>3 | 18=>6 | 19=>7 | n=>n⟩
theorem Tryz.lays172:Go.Proofs.Lays.n172 Tryz.prog Tryz.lays172_ren where
 mixed:=by kernel_rfl
 f129:=Tryz.func121.trans (congrArg some (by kernel_rfl))
 f171:=Tryz.func34.trans (congrArg some (by kernel_rfl))
 f172:=Tryz.func40.trans (congrArg some (by kernel_rfl))
 f205:=Tryz.func119.trans (congrArg some (by kernel_rfl))
 f243:=Tryz.func69.trans (congrArg some (by kernel_rfl))
 f244:=Tryz.func71.trans (congrArg some (by kernel_rfl))
 f245:=Tryz.func72.trans (congrArg some (by kernel_rfl))
 f246:=Tryz.func76.trans (congrArg some (by kernel_rfl))
 f247:=Tryz.func88.trans (congrArg some (by kernel_rfl))
 f279:=Tryz.func89.trans (congrArg some (by kernel_rfl))
 f280:=Tryz.func90.trans (congrArg some (by kernel_rfl))
 f281:=Tryz.func91.trans (congrArg some (by kernel_rfl))
 f282:=Tryz.func92.trans (congrArg some (by kernel_rfl))
 f283:=Tryz.func93.trans (congrArg some (by kernel_rfl))
 f284:=Tryz.func94.trans (congrArg some (by kernel_rfl))
 f285:=Tryz.func95.trans (congrArg some (by kernel_rfl))
 f286:=Tryz.func96.trans (congrArg some (by kernel_rfl))
 f287:=Tryz.func117.trans (congrArg some (by kernel_rfl))
 f316:=Tryz.func118.trans (congrArg some (by kernel_rfl))
 f317:=Tryz.func120.trans (congrArg some (by kernel_rfl))
 f318:=Tryz.func122.trans (congrArg some (by kernel_rfl))
 f319:=Tryz.func123.trans (congrArg some (by kernel_rfl))
 f320:=Tryz.func124.trans (congrArg some (by kernel_rfl))
 f321:=Tryz.func134.trans (congrArg some (by kernel_rfl))
 f322:=Tryz.func135.trans (congrArg some (by kernel_rfl))
 f337:=Tryz.func136.trans (congrArg some (by kernel_rfl))
 f338:=Tryz.func137.trans (congrArg some (by kernel_rfl))
 t0:=Tryz.underlying0
 a0:=Tryz.isAgg0
 z0:=Tryz.sizeOf0
 v0:=Tryz.zeroValue0
 t2:=Tryz.underlying2
 a2:=Tryz.isAgg2
 z2:=Tryz.sizeOf2
 v2:=Tryz.zeroValue2
 t3:=Tryz.underlying3
 a3:=Tryz.isAgg3
 z3:=Tryz.sizeOf3
 v3:=Tryz.zeroValue3
 t4:=Tryz.underlying4
 a4:=Tryz.isAgg4
 z4:=Tryz.sizeOf4
 v4:=Tryz.zeroValue4
 t5:=Tryz.underlying5
 a5:=Tryz.isAgg5
 z5:=Tryz.sizeOf5
 v5:=Tryz.zeroValue5
 t9:=Tryz.underlying9
 a9:=Tryz.isAgg9
 z9:=Tryz.sizeOf9
 v9:=Tryz.zeroValue9
 t20:=Tryz.underlying20
 a20:=Tryz.isAgg20
 z20:=Tryz.sizeOf20
 v20:=Tryz.zeroValue20
 t21:=Tryz.underlying21
 a21:=Tryz.isAgg21
 z21:=Tryz.sizeOf21
 v21:=Tryz.zeroValue21
 t37:=Tryz.underlying24
 a37:=Tryz.isAgg24
 z37:=Tryz.sizeOf24
 v37:=Tryz.zeroValue24
 t46:=Tryz.underlying60
 a46:=Tryz.isAgg60
 z46:=Tryz.sizeOf60
 v46:=Tryz.zeroValue60
 t51:=Tryz.underlying153
 a51:=Tryz.isAgg153
 z51:=Tryz.sizeOf153
 v51:=Tryz.zeroValue153
 t53:=Tryz.underlying126
 a53:=Tryz.isAgg126
 z53:=Tryz.sizeOf126
 v53:=Tryz.zeroValue126
 t75:=Tryz.underlying77
 a75:=Tryz.isAgg77
 z75:=Tryz.sizeOf77
 v75:=Tryz.zeroValue77
 t76:=Tryz.underlying78
 a76:=Tryz.isAgg78
 z76:=Tryz.sizeOf78
 v76:=Tryz.zeroValue78
 t85:=Tryz.underlying120
 a85:=Tryz.isAgg120
 z85:=Tryz.sizeOf120
 v85:=Tryz.zeroValue120
 t127:=Tryz.underlying161
 a127:=Tryz.isAgg161
 z127:=Tryz.sizeOf161
 v127:=Tryz.zeroValue161
 t143:=Tryz.underlying162
 a143:=Tryz.isAgg162
 z143:=Tryz.sizeOf162
 v143:=Tryz.zeroValue162
 t145:=Tryz.underlying164
 a145:=Tryz.isAgg164
 z145:=Tryz.sizeOf164
 v145:=Tryz.zeroValue164
 t167:=Tryz.underlying119
 a167:=Tryz.isAgg119
 z167:=Tryz.sizeOf119
 v167:=Tryz.zeroValue119
 t168:=Tryz.underlying122
 a168:=Tryz.isAgg122
 z168:=Tryz.sizeOf122
 v168:=Tryz.zeroValue122
 t171:=Tryz.underlying125
 a171:=Tryz.isAgg125
 z171:=Tryz.sizeOf125
 v171:=Tryz.zeroValue125
 t173:=Tryz.underlying129
 a173:=Tryz.isAgg129
 z173:=Tryz.sizeOf129
 v173:=Tryz.zeroValue129
 t175:=Tryz.underlying146
 a175:=Tryz.isAgg146
 z175:=Tryz.sizeOf146
 v175:=Tryz.zeroValue146
 t210:=Tryz.underlying149
 a210:=Tryz.isAgg149
 z210:=Tryz.sizeOf149
 v210:=Tryz.zeroValue149
 t212:=Tryz.underlying152
 a212:=Tryz.isAgg152
 z212:=Tryz.sizeOf152
 v212:=Tryz.zeroValue152
 t213:=Tryz.underlying154
 a213:=Tryz.isAgg154
 z213:=Tryz.sizeOf154
 t232:=Tryz.underlying172
 a232:=Tryz.isAgg172
 z232:=Tryz.sizeOf172
 v232:=Tryz.zeroValue172
 t233:=Tryz.underlying173
 a233:=Tryz.isAgg173
 z233:=Tryz.sizeOf173
 v233:=Tryz.zeroValue173
 g15:=by kernel_rfl
 g16:=by kernel_rfl
 g17:=by kernel_rfl
 g18:=by kernel_rfl
 g19:=by kernel_rfl
def Tryz.laysM171_ren:Go.Shelf.Ren:=⟨fun | 171=>34 | 243=>69 | 246=>76 | 283=>93 | 284=>94 | 285=>95 | 286=>96 | 129=>121 | 317=>120 | 318=>122 | 319=>123 | 320=>124 | 337=>136 | 338=>137 | n=>n,fun | 3=>3 | 9=>9 | 2=>2 | 4=>4 | 171=>125 | 0=>0 | 53=>126 | 37=>24 | 5=>5 | 173=>129 | 212=>152 | 51=>153 | 20=>20 | 213=>154 | 46=>60 | 232=>172 | 233=>173 | n=>n,fun | 17=>3 | 18=>6 | 19=>7 | n=>n⟩
theorem Tryz.laysM171:Go.Proofs.LaysM.n171 Tryz.prog Tryz.laysM171_ren where
 mixed:=by kernel_rfl
 f129:=Tryz.func121.trans (congrArg some (by kernel_rfl))
 f171:=Tryz.func34.trans (congrArg some (by kernel_rfl))
 f243:=Tryz.func69.trans (congrArg some (by kernel_rfl))
 f246:=Tryz.func76.trans (congrArg some (by kernel_rfl))
 f283:=Tryz.func93.trans (congrArg some (by kernel_rfl))
 f284:=Tryz.func94.trans (congrArg some (by kernel_rfl))
 f285:=Tryz.func95.trans (congrArg some (by kernel_rfl))
 f286:=Tryz.func96.trans (congrArg some (by kernel_rfl))
 f317:=Tryz.func120.trans (congrArg some (by kernel_rfl))
 f318:=Tryz.func122.trans (congrArg some (by kernel_rfl))
 f319:=Tryz.func123.trans (congrArg some (by kernel_rfl))
 f320:=Tryz.func124.trans (congrArg some (by kernel_rfl))
 f337:=Tryz.func136.trans (congrArg some (by kernel_rfl))
 f338:=Tryz.func137.trans (congrArg some (by kernel_rfl))
 t0:=Tryz.underlying0
 a0:=Tryz.isAgg0
 z0:=Tryz.sizeOf0
 v0:=Tryz.zeroValue0
 t2:=Tryz.underlying2
 a2:=Tryz.isAgg2
 z2:=Tryz.sizeOf2
 v2:=Tryz.zeroValue2
 t3:=Tryz.underlying3
 a3:=Tryz.isAgg3
 z3:=Tryz.sizeOf3
 v3:=Tryz.zeroValue3
 t4:=Tryz.underlying4
 a4:=Tryz.isAgg4
 z4:=Tryz.sizeOf4
 v4:=Tryz.zeroValue4
 t5:=Tryz.underlying5
 a5:=Tryz.isAgg5
 z5:=Tryz.sizeOf5
 v5:=Tryz.zeroValue5
 t9:=Tryz.underlying9
 a9:=Tryz.isAgg9
 z9:=Tryz.sizeOf9
 v9:=Tryz.zeroValue9
 t20:=Tryz.underlying20
 a20:=Tryz.isAgg20
 z20:=Tryz.sizeOf20
 v20:=Tryz.zeroValue20
 t37:=Tryz.underlying24
 a37:=Tryz.isAgg24
 z37:=Tryz.sizeOf24
 v37:=Tryz.zeroValue24
 t46:=Tryz.underlying60
 a46:=Tryz.isAgg60
 z46:=Tryz.sizeOf60
 v46:=Tryz.zeroValue60
 t51:=Tryz.underlying153
 a51:=Tryz.isAgg153
 z51:=Tryz.sizeOf153
 v51:=Tryz.zeroValue153
 t53:=Tryz.underlying126
 a53:=Tryz.isAgg126
 z53:=Tryz.sizeOf126
 v53:=Tryz.zeroValue126
 t171:=Tryz.underlying125
 a171:=Tryz.isAgg125
 z171:=Tryz.sizeOf125
 v171:=Tryz.zeroValue125
 t173:=Tryz.underlying129
 a173:=Tryz.isAgg129
 z173:=Tryz.sizeOf129
 v173:=Tryz.zeroValue129
 t212:=Tryz.underlying152
 a212:=Tryz.isAgg152
 z212:=Tryz.sizeOf152
 v212:=Tryz.zeroValue152
 t213:=Tryz.underlying154
 a213:=Tryz.isAgg154
 z213:=Tryz.sizeOf154
 t232:=Tryz.underlying172
 a232:=Tryz.isAgg172
 z232:=Tryz.sizeOf172
 v232:=Tryz.zeroValue172
 t233:=Tryz.underlying173
 a233:=Tryz.isAgg173
 z233:=Tryz.sizeOf173
 v233:=Tryz.zeroValue173
 g17:=by kernel_rfl
 g18:=by kernel_rfl
 g19:=by kernel_rfl
 i0:=by kernel_rfl
 i2:=by kernel_rfl
 i3:=by kernel_rfl
 i4:=by kernel_rfl
 i5:=by kernel_rfl
 i9:=by kernel_rfl
 i20:=by kernel_rfl
 i37:=by kernel_rfl
 i46:=by kernel_rfl
 i51:=by kernel_rfl
 i53:=by kernel_rfl
 i171:=by kernel_rfl
 i173:=by kernel_rfl
 i212:=by kernel_rfl
 i232:=by kernel_rfl
 i233:=by kernel_rfl
 m17:=by kernel_rfl
 m18:=by kernel_rfl
 m19:=by kernel_rfl
def Tryz.lays727_ren:Go.Shelf.Ren:=⟨fun | 27=>124 | 28=>136 | 29=>137 | n=>n,fun | 25=>60 | 3=>3 | 27=>153 | 22=>126 | 4=>4 | 53=>172 | 0=>0 | 5=>5 | 54=>173 | n=>n,fun | 0=>6 | 1=>7 | n=>n⟩
theorem Tryz.lays727:Go.Proofs.Lays7.n27 Tryz.prog Tryz.lays727_ren where
 mixed:=by kernel_rfl
 f27:=Tryz.func124.trans (congrArg some (by kernel_rfl))
 f28:=Tryz.func136.trans (congrArg some (by kernel_rfl))
 f29:=Tryz.func137.trans (congrArg some (by kernel_rfl))
 t0:=Tryz.underlying0
 a0:=Tryz.isAgg0
 z0:=Tryz.sizeOf0
 v0:=Tryz.zeroValue0
 i0:=by kernel_rfl
 t3:=Tryz.underlying3
 a3:=Tryz.isAgg3
 z3:=Tryz.sizeOf3
 v3:=Tryz.zeroValue3
 i3:=by kernel_rfl
 t4:=Tryz.underlying4
 a4:=Tryz.isAgg4
 z4:=Tryz.sizeOf4
 v4:=Tryz.zeroValue4
 i4:=by kernel_rfl
 t5:=Tryz.underlying5
 a5:=Tryz.isAgg5
 z5:=Tryz.sizeOf5
 v5:=Tryz.zeroValue5
 i5:=by kernel_rfl
 t22:=Tryz.underlying126
 a22:=Tryz.isAgg126
 z22:=Tryz.sizeOf126
 v22:=Tryz.zeroValue126
 i22:=by kernel_rfl
 t25:=Tryz.underlying60
 a25:=Tryz.isAgg60
 z25:=Tryz.sizeOf60
 v25:=Tryz.zeroValue60
 i25:=by kernel_rfl
 t27:=Tryz.underlying153
 a27:=Tryz.isAgg153
 z27:=Tryz.sizeOf153
 v27:=Tryz.zeroValue153
 i27:=by kernel_rfl
 t53:=Tryz.underlying172
 a53:=Tryz.isAgg172
 z53:=Tryz.sizeOf172
 v53:=Tryz.zeroValue172
 i53:=by kernel_rfl
 t54:=Tryz.underlying173
 a54:=Tryz.isAgg173
 z54:=Tryz.sizeOf173
 g0:=by kernel_rfl
 g1:=by kernel_rfl
end Go.Proofs
namespace Go.Ab.Hw
open Go Go.Ab Go.Ab.Sm Go.RowKit Go.Proofs
open Go.Proofs.YtmjcgbaacndblaaGreatDoor
open Go.Ab.Vl (iF)
abbrev KX:List Int:=Lib.deBruijn64tab.map fun(n:Nat)=>(n:Int)
structure Iv (w:World) : Prop where
 mx:∃ m,w.cell? ⟨0,0,none⟩=some (.int .i64 m)
 p10:Lib.TabIs Tryz.prog w "internal/strconv.uint64pow10" .u64 Lib.pow10Tab
 db:Lib.TabIs Tryz.prog w "math/bits.deBruijn64tab" .u8 KX
theorem Ni (w:World) (q:Nat) : Below w.heap.size w (w.drewN q):=⟨rfl,rfl,rfl,Nat.le_refl _,fun _ _=>rfl⟩
theorem OC (w:World) (q:Nat) (os:Array Obj) : Below w.heap.size w (Go.Sort.grow (w.drewN q) os) :=
 ⟨rfl,rfl,rfl,by first | (simp[Go.Sort.grow]; done) | (simp[Go.Sort.grow]; omega),fun i hi=>by
  show((w.drewN q).heap++os)[i]?=_
  rw[Array.getElem?_append_left (by show i<w.heap.size; omega)]
  rfl⟩
theorem Tj {w:World} {b o:Nat} {v:Value} (h:w.cell? ⟨b,o,none⟩=some v) : b<w.heap.size:=by
 unfold World.cell? at h
 cases hb:w.heap[b]? with
 | none=>simp[hb] at h
 | some x=>exact(Array.getElem?_eq_some_iff.1 hb).1
theorem O1 {w w' : World} {b:Nat} (h:w'.heap[b]?=w.heap[b]?) (o:Nat) : w'.cell? ⟨b,o,none⟩=w.cell? ⟨b,o,none⟩:=by
 unfold World.cell?
 simp only[h]
theorem varLt {w:World} {n:String} {g:Nat} {vs:Array Value} (hg:Tryz.prog.globalNamed n=some g) (h:w.var? Tryz.prog n=some vs) : g<w.heap.size:=by
 unfold World.var? at h
 rw[hg] at h
 simp only[Option.bind_some] at h
 cases hb:w.heap[g]? with
 | none=>rw[hb] at h; cases h
 | some x=>exact(Array.getElem?_eq_some_iff.1 hb).1
theorem Kh {w w' : World} {n:String} {g:Nat} (hg:Tryz.prog.globalNamed n=some g) (h:w'.heap[g]?=w.heap[g]?) : w'.var? Tryz.prog n=w.var? Tryz.prog n:=by
 unfold World.var?
 rw[hg]
 simp only[Option.bind_some,h]
theorem g3:Tryz.prog.globalNamed "internal/strconv.uint64pow10" = some 3:=by kernel_rfl
theorem g7:Tryz.prog.globalNamed "math/bits.deBruijn64tab" = some 7:=by kernel_rfl
def base (w:World) (hi:Iv w) : Base where
 n:=w.heap.size
 inv w':=Iv w'
 low u u' hlow hu:=by
  obtain⟨m0,hm0⟩:=hi.mx
  obtain⟨m,hm⟩:=hu.mx
  refine⟨⟨m,(O1 (hlow 0 (Tj hm0)) 0).trans hm⟩, ?_, ?_⟩
  ·exact(Kh g3 (hlow 3 (varLt g3 hi.p10))).trans hu.p10
  ·exact(Kh g7 (hlow 7 (varLt g7 hi.db))).trans hu.db
theorem Iv.tab {w:World} (h:Iv w) : TabAt 7 Lib.deBruijn64tab w:=fun j hj=>by
 have:=h.db.cell g7 j (by simpa using hj)
 rw[this]
 congr 2
 simp only[KX,List.getD_eq_getElem?_getD,List.getElem?_map,List.getElem?_eq_getElem hj]
 rfl
section
variable {w0:World} {hi:Iv w0}
theorem Mi {M:RM} {ρ:Ren} {w:World} (hM:M.base=base w0 hi) (hw:bY Tryz.prog ρ M w) : Iv w:=by
 have:=bY.inv hw
 rw[hM] at this
 exact this
theorem Oa {M:RM} {s:List UInt8} {x:UInt8} : Kn Tryz.prog 140 [St s,By x] M (N .i64 (Lib.indexByte s x)):=by
 intro ρ w us hus hw
 cases hus with
 | cons _ u1 _ us r1 hus =>
 cases hus with
 | cons _ u2 _ us r2 hus =>
 cases hus
 obtain⟨rfl,_⟩:=aI r1
 obtain⟨rfl,_⟩:=aI r2
 refine⟨.int .i64 (Lib.indexByte s x), ?_,.sc _ rfl⟩
 refine xI (fn:=Tryz.f140) (s:=Extern.BytealgIndexByte.indexByte) (by kernel_rfl) (UI.ng 140 Tryz.f140 (by kernel_rfl)) (by kernel_rfl) (by kernel_rfl) (by kernel_rfl) (fun w=>?_) w
 rw[Lib.run_indexByteString]
 congr 2
 simp
theorem TD:iF (au 131):=by
 intro M s x Q hQ
 refine kH ?_
 unfold Go.Ab.Vl.iZ
 exact .inr (.inr (.inr (.inl ⟨_,Oa,hQ⟩)))
theorem VT {M:RM} {Q:ai} (hB:M.base=base w0 hi) (hQ:Q (N .i64 4) M) : au 124 [N .u64 16] M Q:=by
 refine eZ.sM (v:=N .i64 4) ⟨Tryz.f124,_,Tryz.func124,rfl⟩ (fun ρ w us hus hw=>?_) hQ
 cases hus with
 | cons _ u1 _ us r1 hus =>
 cases hus
 obtain⟨rfl,_⟩:=aI r1
 refine(Any7.bits_TrailingZeros Tryz.lays727 16 (by decide) w (fun _=>(Mi hB hw).tab)).mono fun e w' ⟨he,hb⟩=>⟨_,he,by rw[hb]; exact Below.refl _ _, ?_⟩
 exact .sc _ rfl
theorem Oe:Gq (base w0 hi) (au 80):=by
 intro M s Q hB hl hQ
 cases s with
 | nil =>
   refine wV ?_
   unfold Go.Ab.Vl.vP
   simp only[eX,bS]
   rw[show(([] : List UInt8) == [])=true from rfl]
   simp only[bX,bT,bN]
   exact hQ M (af.refl _ _)
 | cons x s =>
   have hasc:∀ (j:Nat) b,(⟨⟨[32,9]⟩⟩ : ByteArray).data.toList[j]?=some b→b.toNat<128:=fun j b h=>by
    have hm:b∈([32,9] : List UInt8):=List.mem_of_getElem? h
    simp at hm
    rcases hm with rfl | rfl <;> decide
   refine eZ.sM (v:=St (trimB (x :: s))) ⟨Tryz.f80,_,Tryz.func80,rfl⟩ (fun ρ w us hus hw=>?_) (hQ M (af.refl _ _))
   cases hus with
   | cons _ u1 _ us r1 hus =>
   cases hus with
   | cons _ u2 _ us r2 hus =>
   cases hus
   obtain⟨rfl,_⟩:=aI r1
   obtain⟨rfl,_⟩:=aI r2
   refine(Any.strings_Trim_set Tryz.lays160 Tryz.zeroValue135 (by kernel_rfl) ⟨⟨x :: s⟩⟩ ⟨⟨[32,9]⟩⟩ w (by decide) (by show 0<(x :: s).length; simp) (by show(x :: s).length≤_; omega) (by decide) hasc).mono fun e w' ⟨he,q,hb⟩=>⟨_,he, ?_,.sc _ rfl⟩
   rw[hb]
   have h1:=(Below.refl w.heap.size w).alloc (Nat.le_refl _) (.cells (Lib.setCells [32,9]) (Tryz.lays160_ren.t 116))
   have h2:=h1.alloc h1.size (.cells (Lib.setCells [32,9]) (Tryz.lays160_ren.t 116))
   exact⟨h2.os,h2.tape,h2.output,h2.size,h2.block⟩
theorem Aj:∀ (s:Str) (acc:Nat),s.all dG=true→Lib.decFrom acc s=some (s.foldl (fun n x=>n * 10 + (x.toNat - 48)) acc)
 | [],acc,_=>rfl
 | x :: s,acc,h=>by
   simp only[List.all_cons,Bool.and_eq_true] at h
   have hx:=h.1
   unfold dG at hx
   simp only[Bool.and_eq_true,decide_eq_true_eq] at hx
   have hd:Lib.digitVal x=some (x.toNat - 48):=by unfold Lib.digitVal; rw[if_pos (by omega)]
   rw[Lib.decFrom,hd]
   exact Aj s _ h.2
theorem Nu:Ld (au 40):=by
 intro M s Q h1 h9 hd hQ
 have ha:Lib.atoi s=some ((dN s:Nat) : Int):=by
  cases s with
  | nil=>simp at h1
  | cons x s =>
    have hx:dG x=true:=by simp only[List.all_cons,Bool.and_eq_true] at hd; exact hd.1
    unfold dG at hx
    simp only[Bool.and_eq_true,decide_eq_true_eq] at hx
    have e1:(x == 45)=false:=by
     cases h:x == 45
     ·rfl
     ·have:x=45:=by simpa using h
      subst this; simp at hx
    have e2:(x == 43)=false:=by
     cases h:x == 43
     ·rfl
     ·have:x=43:=by simpa using h
      subst this; simp at hx
    unfold Lib.atoi
    simp only[e1,e2,Bool.false_eq_true,if_false]
    unfold Lib.decNat
    simp only[List.isEmpty_cons,Bool.false_eq_true,if_false,Aj _ _ hd,Option.map_some]
    rfl
 refine eZ.sM (v:=.tup [N .i64 (dN s:Int),.sc .nilIface]) ⟨Tryz.f40,_,Tryz.func40,rfl⟩ (fun ρ w us hus hw=>?_) (hQ M (af.refl _ _))
 cases hus with
 | cons _ u1 _ us r1 hus =>
 cases hus
 obtain⟨rfl,_⟩:=aI r1
 refine(Any.strconv_Atoi Tryz.lays172 ⟨⟨s⟩⟩ _ (by show s.length≤_; omega) ha w).mono fun e w' ⟨he,t,hb⟩=>⟨_,he, ?_,.tup _ _ (.cons _ _ _ _ (.sc _ rfl) (.cons _ _ _ _ (.sc _ rfl) .nil))⟩
 rw[hb]
 exact Lib.bytesWorld_below w _ t
theorem yJ:∀ (f n:Nat),n<10 ^ f→1≤f→Lib.decDigits n=nJ 10 f n
 | 0,n,h,h1=>by omega
 | f + 1,n,h,_=>by
   rw[Lib.decDigits]
   by_cases hn:n<10
   ·rw[dif_pos hn,Dq hn]
    unfold zW; rw[if_pos hn]
   ·rw[dif_neg hn,Ic hn]
    have hf:1≤f:=by
     rcases Nat.eq_zero_or_pos f with e | e
     ·subst e; simp at h; omega
     ·exact e
    rw[yJ f (n / 10) (by rw[Nat.pow_succ] at h; exact Nat.div_lt_of_lt_mul (by rw[Nat.mul_comm]; exact h)) hf]
    unfold zW
    rw[if_pos (Nat.mod_lt _ (by decide))]
theorem MM:LD (base w0 hi) (au 34):=by
 intro M n Q hB hn hQ
 refine eZ.sM (v:=St (jb n)) ⟨Tryz.f34,_,Tryz.func34,rfl⟩ (fun ρ w us hus hw=>?_) (hQ M (af.refl _ _))
 cases hus with
 | cons _ u1 _ us r1 hus =>
 cases hus
 obtain⟨rfl,_⟩:=aI r1
 refine(Any.strconv_Itoa Tryz.laysM171 (n:Int) (by omega) (by omega) w (Mi hB hw).p10).mono fun e w' ⟨he,k,os,hb⟩=>⟨_,he, ?_, ?_⟩
 ·rw[hb]
  exact OC w k os
 ·have:Lib.itoa (n:Int)=jb n:=by
   unfold Lib.itoa jb
   rw[if_neg (by omega),Int.toNat_natCast]
   exact yJ 20 n (Nat.lt_of_lt_of_le hn (by decide)) (by decide)
  rw[this]
  exact .sc _ rfl
theorem Ku {P:Program} {ρ:Ren} {M:RM} {w:World} {v:AV} {s:Str} {u:Value} (hw:bY P ρ M w) (hb:Bs M v s) (hv:ah ρ v u) :
  (u=.slice none 0 0∧s=[])∨∃ a c,u=.slice (some a) s.length c∧s.length≤c∧∀ i,i<s.length→w.cell? (a.add i)=some (.int .u8 ((s.map fun x=>(x.toNat:Int)).getD i 0)):=by
 obtain⟨hs,hc⟩:=hb
 unfold Sl at hs
 generalize hn:s.length=n at *
 generalize hcs:BY.row s=cs at *
 cases hs with
 | nil =>
   obtain⟨rfl,_⟩:=aI hv
   exact .inl ⟨rfl,List.length_eq_zero_iff.1 hn⟩
 | emp b =>
   cases hv with
   | emp _ a c=>exact .inr ⟨a,c,rfl,Nat.zero_le _,fun i hi=>absurd hi (Nat.not_lt_zero _)⟩
 | slc b o _ cap _ hlt hld =>
   obtain⟨i0,c,hb,hu⟩:=Ab.eD hv
   have hcap:n≤c:=by
    cases cap with
    | ex k =>
      have hk:n≤k:=hc
      cases hv with
      | ig _ _ _ _ j hj =>
        injection hu with _ _ h6
        omega
    | op e =>
      obtain⟨k,j,_,_,_,h4,h5⟩:=Cm hv
      rw[hu] at h5
      injection h5 with _ _ h6
      omega
   subst hu
   refine .inr ⟨⟨i0.cb,i0.sh + o,none⟩,c,rfl,hcap,fun i hi=>?_⟩
   ·subst hcs
    have Vo:M.loads b o (n * 1)=some (BY.row s):=hld
    have h1:=ul Vo i 1 (by omega)
    have hi' : i<s.length:=by omega
    have e1:((BY.row s).drop i).take 1=[By s[i]]:=by
     have:=Enc.EG (E:=BY) hi'
     simpa [BY] using this
    rw[e1] at h1
    obtain⟨x,hx,hcell⟩:=Af hw hb h1
    obtain⟨rfl,_⟩:=aI hx
    have ea:(⟨i0.cb,i0.sh + o,none⟩ : Addr).add i=⟨i0.cb,i0.sh + (o + i),none⟩:=by
     unfold Addr.add
     split
     ·rename_i e; subst e; rfl
     ·simp[Nat.add_assoc]
    rw[ea,hcell]
    simp[List.getD_eq_getElem?_getD,List.getElem?_eq_getElem hi']
theorem bytesOf_map (s:Str) : Lib.bytesOf (s.map fun x=>(x.toNat:Int))=s:=by
 unfold Lib.bytesOf
 rw[List.map_map]
 conv=>rhs; rw[← List.map_id s]
 apply List.map_congr_left
 intro x _
 simp
theorem J5:Dy (base w0 hi) (au 78):=by
 intro M v w s Q hB hv hw hl hQ
 refine eZ.sM (v:=N .i64 (Lib.index s [13,10])) ⟨Tryz.f78,_,Tryz.func78,rfl⟩ (fun ρ W us hus hW=>?_) hQ
 cases hus with
 | cons _ u1 _ us r1 hus =>
 cases hus with
 | cons _ u2 _ us r2 hus =>
 cases hus
 obtain⟨m,hm⟩:=(Mi hB hW).mx
 rcases Ku hW hw r2 with⟨_,h⟩ | ⟨a2,c2,rfl,hc2,hx2⟩
 ·cases h
 rcases Ku hW hv r1 with⟨rfl,rfl⟩ | ⟨a1,c1,rfl,hc1,hx1⟩
 ·refine(Any.bytes_Index_nil Tryz.lays185 (some a2) 2 c2 W (by decide) (fun h=>by cases h)).mono fun e w' ⟨he,hb⟩=>⟨_,he,by rw[hb]; exact Below.refl _ _, ?_⟩
  exact .sc _ rfl
 ·have hr:∀ (t:Str),∀ x∈t.map (fun x:UInt8=>(x.toNat:Int)),0≤x∧x<256:=fun t x hx=>by
   rw[List.mem_map] at hx
   obtain⟨y,_,rfl⟩:=hx
   have:=y.toNat_lt
   omega
  have:=Any.bytes_Index_at Tryz.lays185 a1 a2 s.length c1 2 c2 (s.map fun x=>(x.toNat:Int)) (([13,10] : Str).map fun x=>(x.toNat:Int)) m W (by simp) (by simp) (hr s) (hr _) hx1 hx2 hc1 (by omega) (by decide) hm
  rw[bytesOf_map,bytesOf_map] at this
  refine this.mono fun e w' ⟨he,q,hb⟩=>⟨_,he,by rw[hb]; exact(Ni W q), ?_⟩
  exact .sc _ rfl
theorem NZ (ρ' : Ren) : ∀ l:List ByteArray,aO ρ' (om.row (l.map (·.data.toList))) (l.map Value.string)
 | []=>.nil
 | b :: l=>.cons _ _ _ _ (.sc _ (by rfl)) (NZ ρ' l)
theorem LH (s:Str) : s.count 32=Lib.countB ⟨⟨s⟩⟩ ⟨⟨[32]⟩⟩:=(Lib.count_one 32 s).symm
theorem QC:Ij (base w0 hi) 9 (au 27):=by
 intro M s Q hB hl hQ
 refine eZ.Rp (cs:=om.row (words 32 s)) (n:=(words 32 s).length) ⟨Tryz.f27,_,Tryz.func27,rfl⟩ (by kernel_rfl) (om.rM _) (by rw[Enc.gB]; simp[om]) (fun ρ w us hus hw=>?_) (fun v M' o k=>hQ v M' (Own.mono o (Nat.le_refl _)) k)
 cases hus with
 | cons _ u1 _ us r1 hus =>
 cases hus with
 | cons _ u2 _ us r2 hus =>
 cases hus
 obtain⟨rfl,_⟩:=aI r1
 obtain⟨rfl,_⟩:=aI r2
 obtain⟨m,hm⟩:=(Mi hB hw).mx
 refine(Any.strings_Split Tryz.lays146 (by kernel_rfl) ⟨⟨s⟩⟩ ⟨⟨[32]⟩⟩ m w (by show s.length<_; omega) hm (by decide)).mono fun e w' ⟨he,hb⟩=>?_
 have hd:(Lib.splitB ⟨⟨[32]⟩⟩ 0 (Lib.countB ⟨⟨s⟩⟩ ⟨⟨[32]⟩⟩) ⟨⟨s⟩⟩).map (·.data.toList)=words 32 s:=by
  rw[Lib.splitB_data]
  exact Ak 32 _ s (LH s)
 have hlen:(Lib.splitB ⟨⟨[32]⟩⟩ 0 (Lib.countB ⟨⟨s⟩⟩ ⟨⟨[32]⟩⟩) ⟨⟨s⟩⟩).length=Lib.countB ⟨⟨s⟩⟩ ⟨⟨[32]⟩⟩ + 1:=Lib.splitB_all ⟨⟨[32]⟩⟩ (by decide) 0 _ _ rfl
 generalize Lib.splitB ⟨⟨[32]⟩⟩ 0 (Lib.countB ⟨⟨s⟩⟩ ⟨⟨[32]⟩⟩) ⟨⟨s⟩⟩=l at *
 rw[← hlen] at he
 have hwl:(words 32 s).length=l.length:=by rw[← hd]; simp
 refine⟨_,l.map Value.string,he,⟨by simp[hwl],.inr ⟨w.heap.size,l.length,(l.map Value.string).toArray,by rw[hwl],Nat.le_refl _, ?_,Nat.le_of_eq hwl, ?_,by simp, ?_⟩⟩,fun ρ'=>?_, ?_⟩
 ·rw[hb]
  show(w.heap.push _)[w.heap.size]?=_
  rw[Array.getElem?_push_size]
  rfl
 ·have:=Lib.countB_le ⟨⟨[32]⟩⟩ (by decide) s.length ⟨⟨s⟩⟩ (Nat.le_refl _)
  have h2:maxLen=9223372036854775807:=rfl
  have h3:(⟨⟨s⟩⟩ : ByteArray).size=s.length:=rfl
  omega
 ·exact List.take_of_length_le (by simp[hwl])
 ·rw[← hd]
  exact NZ ρ' l
 ·rw[hb]; exact(Below.refl _ _).alloc (Nat.le_refl _) _
end
end Go.Ab.Hw
namespace Go.Ab.Hw
open Go Go.Ab Go.Ab.Sm Go.RowKit Go.Proofs
open Go.Proofs.YtmjcgbaacndblaaGreatDoor
open Go.Ab.Vl (iF lY)
section
variable {w0:World} {hi:Iv w0}
theorem ER:mG dG (au 38):=by
 intro M x Q hQ
 obtain⟨a0,e,h⟩:=Mo hQ
 cases e
 exact vC h
theorem QG:mG kE (au 60):=by
 intro M x Q hQ
 obtain⟨a0,e,h⟩:=KE hQ
 cases e
 exact vE h
theorem NC:mG qw (au 62):=by
 intro M x Q hQ
 obtain⟨a0,e,h⟩:=Ha hQ
 cases e
 exact rX h
theorem is32:mG p32 (au 39):=by
 intro M x Q hQ
 obtain⟨a0,e,h⟩:=OT hQ
 cases e
 exact mq h
theorem UD:mG oZ (au 87):=by
 intro M x Q hQ
 obtain⟨a0,e,h⟩:=PQ hQ
 cases e
 exact pR h
theorem RA:mG qG (au 86):=by
 intro M x Q hQ
 obtain⟨a0,e,h⟩:=KS ER hQ
 cases e
 exact qg h
theorem Uv:mG jI (au 115):=by
 intro M x Q hQ
 obtain⟨a0,e,h⟩:=Ny ER hQ
 cases e
 exact ug h
theorem MP:mf dG (.fn (.func 38) [] []) (au 37):=by
 intro M s Q hl hQ
 obtain⟨a0,a1,e,h⟩:=ni (T8:=5) (g:=38) (p:=dG) (cv:=au) ER hl hQ
 cases e
 exact eF h
theorem Ph:mf kE (.fn (.func 60) [] []) (au 37):=by
 intro M s Q hl hQ
 obtain⟨a0,a1,e,h⟩:=ni (T8:=5) (g:=60) (p:=kE) (cv:=au) QG hl hQ
 cases e
 exact eF h
theorem Tg:mf qw (.fn (.func 62) [] []) (au 37):=by
 intro M s Q hl hQ
 obtain⟨a0,a1,e,h⟩:=ni (T8:=5) (g:=62) (p:=qw) (cv:=au) NC hl hQ
 cases e
 exact eF h
theorem UG:mf p32 (.fn (.func 39) [] []) (au 37):=by
 intro M s Q hl hQ
 obtain⟨a0,a1,e,h⟩:=ni (T8:=5) (g:=39) (p:=p32) (cv:=au) is32 hl hQ
 cases e
 exact eF h
theorem Rs:mf oZ (.fn (.func 87) [] []) (au 37):=by
 intro M s Q hl hQ
 obtain⟨a0,a1,e,h⟩:=ni (T8:=5) (g:=87) (p:=oZ) (cv:=au) UD hl hQ
 cases e
 exact eF h
theorem Qu:mf qG (.fn (.func 86) [] []) (au 37):=by
 intro M s Q hl hQ
 obtain⟨a0,a1,e,h⟩:=ni (T8:=5) (g:=86) (p:=qG) (cv:=au) RA hl hQ
 cases e
 exact eF h
theorem Sv:mf jI (.fn (.func 115) [] []) (au 37):=by
 intro M s Q hl hQ
 obtain⟨a0,a1,e,h⟩:=ni (T8:=5) (g:=115) (p:=jI) (cv:=au) Uv hl hQ
 cases e
 exact eF h
theorem vX:uW (au 64):=by
 intro M s Q hl hQ
 obtain⟨a0,e,h⟩:=Di (T8:=5) hl hQ
 cases e
 exact uK h
theorem wP:rH (au 59):=by
 intro M s a b Q hQ
 obtain⟨a0,a1,a2,e,h⟩:=JH hQ
 cases e
 exact uh h
theorem Qs:fP eY (au 67):=by
 intro M s Q hl hQ
 obtain⟨a0,e,h⟩:=yG wP vX Qu hl hQ
 cases e
 exact qF h
theorem Oz:DU (base w0 hi) dW (au 68):=by
 intro M s Q hB hl hQ
 obtain⟨a0,e,h⟩:=vR Oe Rs hB hl hQ
 cases e
 exact qB h
theorem Km:fP dY (au 28):=by
 intro M s Q hl hQ
 obtain⟨a0,e,h⟩:=CV wP Ph hl hQ
 cases e
 exact qj h
theorem Ql:BP (au 84):=by
 intro M s q Q hQ
 obtain⟨a0,a1,e,h⟩:=Gd hQ
 cases e
 exact kL h
theorem TQ:BP (au 61):=by
 intro M s q Q hQ
 obtain⟨a0,a1,e,h⟩:=PW Ql hQ
 cases e
 exact qK h
theorem Qc:fP fo (au 29):=by
 intro M s Q hl hQ
 obtain⟨a0,e,h⟩:=Gg TQ Tg hl hQ
 cases e
 exact qW h
theorem UA:rG (au 70):=by
 intro M s q Q hQ
 obtain⟨a0,a1,e,h⟩:=CB Ql hQ
 cases e
 exact kK h
theorem Uk:rG (au 36):=by
 intro M s q Q hQ
 obtain⟨a0,a1,e,h⟩:=JD UA hQ
 cases e
 exact qJ h
theorem Ta:wC 58 (au 113):=by
 intro M s Q hQ
 obtain⟨a0,a1,e,h⟩:=Bv TD (g:=0) (xx:=GD Tryz.prog 132) (c1:=au 100) (c2:=au 133) hQ
 cases e
 exact mi h
theorem Rm:lY 58 (au 102):=by
 intro M s Q hl hQ
 obtain⟨a0,a1,e,h⟩:=Vl.Fa Ta hl hQ
 cases e
 exact mW h
theorem Uo:lY 58 (au 79):=by
 intro M s Q hl hQ
 obtain⟨a0,a1,e,h⟩:=Vl.Nn Rm hl hQ
 cases e
 exact yV h
theorem Py:Eg (base w0 hi) (au 57):=by
 intro M s Q hB hl h1 h2
 obtain⟨a0,e,h⟩:=JU (T:=56) Uo Oe Qs Oz hB hl h1 h2
 cases e
 exact uf h
theorem Tc:L8 (base w0 hi) (au 56):=by
 intro M v b at' Q hB h1 h2 h3 h4 h5 h6
 obtain⟨a0,a1,e,h⟩:=NV (T:=5) J5 hB h1 h2 h3 h4 h5 h6
 cases e
 exact wB h
theorem MQ {a1:AV} {q:Str→Bool} {br:Nat} {X0:RB} {X:Str→RB} (hF:Dc (base w0 hi) (au) a1 q br X0 X) : GI (base w0 hi) a1 q br X0 X 56 (au 25):=by
 intro M v b Q hB h1 h2 h3 h4 h5 h6 h7
 obtain⟨a0,a1,e,h⟩:=NT Tc Py hF hB h1 h2 h3 h4 h5 h6 h7
 cases e
 exact vU h
theorem JV:DN 9 (au 63):=by
 intro M v l n Q h1 h2 h3 h4 h5
 obtain⟨a0,a1,e,h⟩:=KD (TH:=56) vX h1 h2 h3 h4 h5
 cases e
 exact uQ h
theorem Ke:MF (au 55):=by
 intro M v l n Q h1 h2 h3 h4 h5
 obtain⟨a0,a1,e,h⟩:=K6 JV h1 h2 h3 h4 h5
 cases e
 exact u6 h
theorem Rv:Lj (base w0 hi) (au 114):=by
 intro M v w s Q hB h1 h2 h3 h4 h5
 obtain⟨a0,a1,e,h⟩:=OD J5 hB h1 h2 h3 h4 h5
 cases e
 exact Bc h
theorem QD:I7 (au 134):=by
 intro M x Q hQ
 obtain⟨a0,e,h⟩:=Le hQ
 cases e
 exact nL h
theorem Ur:EC (au 117):=by
 intro M s Q h1 h2 h3 h4
 obtain⟨a0,a1,a2,e,h⟩:=CK (TE:=119) (T8:=5) (cu:=au 135) QD h1 h2 h3 h4
 cases e
 exact l8 h
theorem UH:EC (au 116):=by
 intro M s Q h1 h2 h3 h4
 obtain⟨a0,a1,a2,e,h⟩:=Er (ct:=au 72) Ur h1 h2 h3 h4
 cases e
 exact qV h
theorem Sq:KW (base w0 hi) (au 85):=by
 intro M v b at' Q hB h1 h2 h3 h4 h5
 obtain⟨a0,a1,e,h⟩:=OH (T:=5) Rv wP vX Sv UH hB h1 h2 h3 h4 h5
 cases e
 exact wE h
theorem NM:BZ (base w0 hi) 5 (au 65):=by
 intro M v b at' Q hB h1 h2 h3 h4 h5
 obtain⟨a0,a1,e,h⟩:=IE Sq hB h1 h2 h3 h4 h5
 cases e
 exact sj h
theorem Qv:Jm 5 (au 66):=by
 intro M v s Q h1 h2 h3
 obtain⟨a0,e,h⟩:=K7 h1 h2 h3
 cases e
 exact zZ h
theorem MN:Gp (base w0 hi) 5 (au 30):=by
 intro M v hv b l at' Q hB h1 h2 h3 h4 h5 h6 h7 h8
 obtain⟨a0,a1,a2,e,h⟩:=NK JV vX NM wP MP Nu Qv hB h1 h2 h3 h4 h5 h6 h7 h8
 cases e
 exact vY h
theorem Nw (br:Nat) : Dc (base w0 hi) (au) (.fn (.func 26) [] [.ptr br 0]) mM br (jP 26 [] []) (IL 26):=by
 intro M s K hB hbr hX hl h0 h1
 rw[Ci]
 exact og (Nj (TS:=9) QC Km Qc hB hbr hX hl h0 h1)
theorem Lh (br:Nat) : Dc (base w0 hi) (au) (.fn (.func 35) [] [.ptr br 0]) gH br (iM 34 0) (GG 34):=by
 intro M s K hB hbr hX hl h0 h1
 rw[Ci]
 exact nI (Mh Uk MP UG Nu hbr hX hl h0 h1)
theorem CF:HY (base w0 hi) 56 5 (au 11):=by
 intro M v b Q hB h1 h2 h3 h4
 obtain⟨a0,e,h⟩:=Jd (T:=26) (g:=26) (fun br=>MQ (Nw br)) MN hB h1 h2 h3 h4
 cases e
 exact pF h
theorem FI:Fq (base w0 hi) 56 5 (au 14):=by
 intro M v b Q hB h1 h2 h3 h4
 obtain⟨a0,e,h⟩:=Gh (T:=34) (g:=35) (fun br=>MQ (Lh br)) MN hB h1 h2 h3 h4
 cases e
 exact oH h
theorem Ad:su (base w0 hi) 5 (au 32):=by
 intro M v bv f b l m z Q hB h1 h2 h3 h4 h5 h6 h7 h8 h9 h10
 obtain⟨a0,a1,a2,a3,a4,e,h⟩:=Jn (TH:=56) Qs Oz vX hB h1 h2 h3 h4 h5 h6 h7 h8 h9 h10
 cases e
 exact rO h
theorem Ff:xN (base w0 hi) (au 33):=by
 intro M n Q hB h1 h2
 obtain⟨a0,e,h⟩:=Jf (T:=56) MM hB h1 h2
 cases e
 exact tK h
theorem Sb:xL (au 31):=by
 intro M m q x y Q h1 h2 h3 h4 h5
 obtain⟨a0,e,h⟩:=Jl (T:=26) Km Qc h1 h2 h3 h4 h5
 cases e
 exact oQ h
theorem ND:FR (base w0 hi) 5 (au 12):=by
 intro M hv bv m q b l Q hB h1 h2 h3 h4 h5 h6 h7 h8 h9
 obtain⟨a0,e,h⟩:=F6 (T:=26) Sb Ff Ad hB h1 h2 h3 h4 h5 h6 h7 h8 h9
 cases e
 exact oF h
theorem Lg:Dz (base w0 hi) 5 (au 13):=by
 intro M hv bv n b l Q hB h1 h2 h3 h4 h5 h6 h7
 obtain⟨a0,e,h⟩:=Eu (T:=34) MM Ff Ad hB h1 h2 h3 h4 h5 h6 h7
 cases e
 exact nQ h
theorem RD:IC 5 (au 75):=by
 intro M n Q h1 h2 h3
 obtain⟨a0,a1,e,h⟩:=LK (TS:=9) h1 h2 h3
 cases e
 exact Bf h
theorem O7:Cq 5 (au 48):=by
 intro M bb TB vs xss Q h1 h2 h3 h4 h5 h6 h7 h8
 obtain⟨a0,e,h⟩:=GU (TS:=9) RD h1 h2 h3 h4 h5 h6 h7 h8
 cases e
 exact yS h
theorem Pv:Ev 3 (au 47):=by
 intro M v s Q h1 h2 h3
 obtain⟨a0,e,h⟩:=Js h1 h2 h3
 cases e
 exact Be h
theorem Ux:MG (au 123):=by
 intro M Q h1
 obtain⟨a0,e,h⟩:=OU h1
 cases e
 exact kV h
theorem Si:KY (base w0 hi) (au 96):=by
 intro M n Q hB h1 h2
 obtain⟨a0,a1,a2,a3,a4,e,h⟩:=NR (TS:=9) (TA:=154) (T8:=5) Ux VT hB h1 h2
 cases e
 exact lZ h
theorem Ua:Eo (base w0 hi) (au 76):=by
 intro M n Q hB h1 h2
 obtain⟨a0,a1,e,h⟩:=Ot (c1:=au 93) (TA:=125) (c2:=au 94) (c3:=au 95) Si hB h1 h2
 cases e
 exact mo h
theorem Um:Eo (base w0 hi) (au 49):=by
 intro M n Q hB h1 h2
 obtain⟨a0,a1,e,h⟩:=PY Ua hB h1 h2
 cases e
 exact qX h
theorem JQ:Br (base w0 hi) 5 (au 19):=by
 intro M hv bv sv m q b l sz Q hB h1 h2 h3 h4 h5 h6 h7 h8 h9 h10 h11
 obtain⟨a0,a1,e,h⟩:=DC (T:=26) (TI:=3) (TB:=24) Sb Pv Um O7 Ad hB h1 h2 h3 h4 h5 h6 h7 h8 h9 h10 h11
 cases e
 exact sQ h
end
end Go.Ab.Hw
namespace Go.Ab.Hw
open Go Go.Ab Go.Ab.Sm Go.RowKit Go.Proofs
open Go.Proofs.YtmjcgbaacndblaaGreatDoor
abbrev nO:Str:=[71,69,84]
abbrev uq:Str:=[47,97]
abbrev lX:List Hd:=[([88],[49])]
def UT:Except Nat Str→Str
 | .ok s=>s
 | .error _=>[]
abbrev sA:Str:=[71,69,84,32,47,97,32,72,84,84,80,47,49,46,49,13,10,88,58,32,49,13,10,67,111,110,116,101,110,116,45,76,101,110,103,116,104,58,32,48,13,10,13,10]
def sC:Str:=UT (lc 404 [] [110,111])
def sD:Str:=UT (j6 nO uq lX [97,98,99,100] [3])
theorem pA:pu nO uq lX []=.ok sA:=by kernel_rfl
theorem rA:kF (sA++[120])=.ok ((nO,uq,lX++[(pG,[48])],[]),[120]):=by kernel_rfl
theorem pC:lc 404 [] [110,111]=.ok sC:=by kernel_rfl
theorem rC:ku sC=.ok ((404,[(pG,[50])],[110,111]),[]):=by kernel_rfl
theorem pD:j6 nO uq lX [97,98,99,100] [3]=.ok sD:=by kernel_rfl
theorem rD:kF sD=.ok ((nO,uq,lX++[(LC,qD)],[97,98,99,100]),[]):=by kernel_rfl
theorem nA:aH (lX++[(pG,[48])]) [120]=[[49]]:=by kernel_rfl
theorem nC:aH [(pG,[50])] [67,79,78,84,69,78,84,45,76,69,78,71,84,72]=[[50]]:=by kernel_rfl
theorem lC:sC.length≤1000:=by decide +kernel
theorem lD:sD.length≤1000:=by decide +kernel
theorem JX {T n:Nat} {M:RM} {parts:List (Nat × Nat × AV)} (s:Str) {K:ai} (he:pY (ed [(N .u8 0)] n) parts=some (BY.row s)) (hn:s.length=n)
  (hK:∀ v M',Bs M' v s→af [] M M'→(∀ b∈aW v,M.next≤b)→K v M') : dX T n [(N .u8 0)] parts fun r f=>bf r f M fun t14 M1=>qH t14 M1 fun t15 M_0=>K t15 M_0:=by
 refine⟨BY.row s,he, ?_⟩
 simp only[aV]
 refine⟨M.next,0,n,n,BY.row s,T,rfl,by simp[RM.push], ?_⟩
 refine hK _ _ ⟨?_,Nat.le_refl _⟩ (((af.refl _ _).push _).new _ (Nat.le_refl _)) (fun b hb=>by simp[aW] at hb; omega)
 subst hn
 refine aJ.slc _ _ _ _ _ (by simp[RM.push,RM.put]) ?_
 rw[RM.iP (aB _) (by rw[kX]; simp[BY]),List.drop_zero,List.take_of_length_le (by rw[kX]; simp[BY])]
theorem Va {T:Nat} {M:RM} {z cs:List AV} {K:AV→RM→Prop} (n:Nat) (hz:z.length=n) (hc:cs.length=n) (h1:cs.all oneCell=true)
  (hK:∀ M',af [] M M'→M'.heap M.next=some (.row cs false T 0)→M.next<M'.next→K (.agg cs) M') :
  bf (.row z false T 0) (fun b=>.ptr b 0) M fun t M1=>az M1 t (.agg cs) n fun M2=>aL M2 t n fun r=>K r M2:=by
 simp only[aV]
 have n1:(M.push (.row z false T 0)).heap M.next=some (.row z false T 0):=by simp[RM.push]
 rw[dQ n1 hc hz h1,aQ (aB _) hc]
 exact hK _ (((af.refl _ _).push _).new _ (Nat.le_refl _)) (aB _) (by simp[RM.push,RM.put])
theorem xK {T:Nat} {M:RM} {z cs:List AV} {K:AV→RM→Prop} (n:Nat) (hz:z.length=n) (hc:cs.length=n) (h1:cs.all oneCell=true)
  (hK:∀ M',af [] M M'→M'.heap M.next=some (.row cs false T 0)→M.next<M'.next→K (.ptr M.next 0) M') :
  bf (.row z false T 0) (fun b=>.ptr b 0) M fun t M1=>az M1 t (.agg cs) n fun M2=>K t M2:=by
 simp only[aV]
 have n1:(M.push (.row z false T 0)).heap M.next=some (.row z false T 0):=by simp[RM.push]
 rw[dQ n1 hc hz h1]
 exact hK _ (((af.refl _ _).push _).new _ (Nat.le_refl _)) (aB _) (by simp[RM.push,RM.put])
theorem tq {α:Type} {x y:α} {r:Except Nat α} (h:r=.ok x) (k:r=.ok y) : x=y:=by rw[h] at k; exact Except.ok.inj k
theorem ql {α:Type} {x:α} {e:Nat} {r:Except Nat α} (h:r=.ok x) (k:r=.error e) : False:=by rw[h] at k; cases k
theorem Qe:∀ h∈lX,h.1.length≤281474976710656∧h.2.length≤281474976710656:=fun h hx=>by
 simp at hx; subst hx; simp
def Tz (B:Base) (c:ak) : Prop:=∀ {M:RM} {Q:ai},M.base=B→(∀ M',af [] M M'→Q (Bo true) M')→c [] M Q
section
variable {w0:World} {hi:Iv w0}
theorem SA:Tz (base w0 hi) (au 10):=by
 intro M Q hB hQ
 refine yY ?_
 unfold yQ
 rw[eu]
 refine⟨_,vM rfl rfl rfl rfl, ?_⟩
 rw[qM (by rfl) (by rfl) (by rfl)]
 simp only[aV (x:=.row (AV.agg [St [88],St [49]]).cells false 56 0)]
 have k1:af [] M (M.push (.row (AV.agg [St [88],St [49]]).cells false 56 0)):=(af.refl _ _).push _
 have s1:Sl HD (M.push (.row (AV.agg [St [88],St [49]]).cells false 56 0)) (.slc M.next 0 1 (.ex 1)) lX:=Sl.new (E:=HD) lX
 generalize M.push (.row (AV.agg [St [88],St [49]]).cells false 56 0)=M1 at *
 rw[eu]
 refine⟨[St nO,St uq,.slc M.next 0 1 (.ex 1),aA],rfl, ?_⟩
 have bx:∀ K:AV→AV→RM→Prop,(∀ M2,af [] M1 M2→M2.heap M1.next=some (.row [St nO,St uq,.slc M.next 0 1 (.ex 1),aA] false 26 0)→M1.next<M2.next→K (.ptr M1.next 0) (.agg [St nO,St uq,.slc M.next 0 1 (.ex 1),aA]) M2) →
   bf (.row [St [],St [],aA,aA] false 26 0) (fun b=>.ptr b 0) M1 fun t M2=>az M2 t (.agg [St nO,St uq,.slc M.next 0 1 (.ex 1),aA]) 4 fun M3=>aL M3 t 4 fun r=>K t r M3:=fun K h=>by
  refine xK (K:=fun t M3=>aL M3 t 4 fun r=>K t r M3) 4 rfl rfl rfl fun M2 k2 n2 l2=>?_
  rw[aQ n2 (by rfl)]
  exact h M2 k2 n2 l2
 refine bx _ fun M2 k2 n2 l2=>?_
 have k02:=k1.trans k2
 have s2:Sl HD M2 (.slc M.next 0 1 (.ex 1)) lX:=aJ.keep s1 k2 (by simp)
 refine ND (hi:=hi) (k02.base.trans hB) s2 (by simp) Qe (by simp) (by simp) (body:=[]) .nil (by simp) (fun s v3 M3 e3 _ k3 o3=>?_) (fun e M3 e3 _ _=>(ql pA e3).elim)
 obtain rfl:=tq pA e3
 simp only[bz,bu]
 rw[Gz]
 simp only[aV (x:=.row [] false 5 0)]
 have k3' : af [] M3 (M3.push (.row [] false 5 0)):=(af.refl _ _).push _
 refine nE (E:=BY) (Ow.lit BY M3) (by simp[RM.push]) (by decide) (aJ.keep (Own.jc o3) k3' (by simp)) (by simp) (by simp) fun v4 M4 o4 k4 _ _=>?_
 have k34:af [] M3 M4:=af.own k3' k4 (fun b hb=>by simp[aW] at hb; omega)
 rw[qM (by rfl) (by rfl) (by rfl)]
 simp only[aV (x:=.row (N .u8 120).cells false 5 0)]
 refine o8 (E:=BY) (a:=120) o4 k34.next (by decide) (by simp) (by simp) fun v5 M5 o5 k5 _ _=>?_
 have k35:af [] M3 M5:=af.own k34 k5 (fun b hb=>(Own.blk o4 b hb).1)
 have k25:=k3.trans k35
 rw[List.nil_append] at o5
 refine CF (hi:=hi) ((k02.trans k25).base.trans hB) (Bs.own o5) (by simp) (fun m p l out r at6 hv6 ov6 M6 e6 h61 h62 _ _ _ k6 oh6 ob6=>?_) (fun e M6 e6 _ _=>(ql rA e6).elim)
 have e6':=tq rA e6
 simp only[Prod.mk.injEq] at e6'
 obtain⟨⟨rfl,rfl,rfl,rfl⟩,rfl⟩:=e6'
 have V9:at6=44:=by
  have:=congrArg List.length h62
  simp at this h61; omega
 subst V9
 simp only[bz,bu,eH]
 have c6:([St nO,St uq,hv6,ov6] : List AV).all oneCell=true:=by
  have h1:=Own.one oh6; have h2:=Own.one ob6
  simp only[List.all_cons,List.all_nil,h1,h2]; rfl
 refine Va (K:=fun t40 Li=>_) 4 rfl rfl c6 fun M7 k7 _ _=>?_
 have k26:=k25.trans (k6.trans k7)
 have sh7:Sl HD M7 hv6 (lX++[(pG,[48])]):=aJ.keep (Own.jc oh6) k7 (by simp)
 refine pO (O9 Ke sh7 (by simp) (by decide) (by decide) c6 fun M8 k8=>?_)
 rw[nA]
 simp only[lF,bz,bu]
 have k28:=k26.trans k8
 refine JX [110,111] rfl rfl fun v9 M9 b9 k9 _=>?_
 rw[eu]
 have ob9:=aJ.one b9.sl
 have fl9:kQ [N .i64 0,aA,aA] [(0,1,N .i64 404),(2,1,v9)]=some [N .i64 404,aA,v9]:=by
  have h1:=aJ.known b9.sl
  have h2:=aJ.cells b9.sl
  rw[kQ,if_pos ⟨rfl,rfl,by decide⟩,kQ,if_pos ⟨h1,by rw[h2]; rfl,by decide⟩,h2]
  rfl
 refine⟨_,fl9, ?_⟩
 have k29:=k28.trans k9
 refine Lg (hi:=hi) ((k02.trans k29).base.trans hB) (l:=[]) .nil (by simp) (by simp) b9.sl (by simp) (fun s v10 M10 e10 _ k10 o10=>?_) (fun e M10 e10 _ _=>(ql pC e10).elim)
 obtain rfl:=tq pC e10
 simp only[bz,bu]
 have KF:=k29.trans k10
 refine FI (hi:=hi) ((k02.trans KF).base.trans hB) (Bs.own o10) (by have:=lC; omega) (fun n l out r Vs Ew EU M11 e11 h111 h112 _ _ _ k11 TC O8=>?_) (fun e M11 e11 _ _=>(ql rC e11).elim)
 have SL:=tq rC e11
 simp only[Prod.mk.injEq] at SL
 obtain⟨⟨rfl,rfl,rfl⟩,rfl⟩:=SL
 have UE:Vs=sC.length:=by
  have:=congrArg List.length h112
  simp at this; omega
 subst UE
 simp only[bz,bu,eH]
 have c11:([N .i64 ((404:Nat) : Int),Ew,EU] : List AV).all oneCell=true:=by
  have h1:=Own.one TC; have h2:=Own.one O8
  simp only[List.all_cons,List.all_nil,h1,h2]; rfl
 have bx2:∀ K:AV→AV→RM→Prop,(∀ M2,af [] M11 M2→M2.heap M11.next=some (.row [N .i64 ((404:Nat) : Int),Ew,EU] false 34 0)→M11.next<M2.next→K (.ptr M11.next 0) (.agg [N .i64 ((404:Nat) : Int),Ew,EU]) M2) →
   bf (.row [N .i64 0,aA,aA] false 34 0) (fun b=>.ptr b 0) M11 fun t M2=>az M2 t (.agg [N .i64 ((404:Nat) : Int),Ew,EU]) 3 fun M3=>aL M3 t 3 fun r=>K t r M3:=fun K h=>by
  refine xK (K:=fun t M3=>aL M3 t 3 fun r=>K t r M3) 3 rfl rfl c11 fun M2 k2 n2 l2=>?_
  rw[aQ n2 (by rfl)]
  exact h M2 k2 n2 l2
 refine bx2 _ fun M12 k12 n12 l12=>?_
 have Vi:Sl HD M12 Ew [(pG,[50])]:=aJ.keep (Own.jc TC) k12 (by simp)
 refine oG (MZ Ke Vi (by simp) (by decide) (by decide) c11 fun M13 k13=>?_)
 rw[nC]
 simp only[lF,bz,bu]
 have RQ:=KF.trans (k11.trans (k12.trans k13))
 refine JX [97,98,99,100] rfl rfl fun v14 M14 b14 k14 VE=>?_
 have KL:=RQ.trans k14
 have n14:=KL.aC n2 l2 (by simp)
 have l14:=Nat.lt_of_lt_of_le l2 KL.next
 have c14:=aJ.cells b14.sl
 have Ve:=aJ.one b14.sl
 rw[gm,Nat.zero_add,eQ [St nO,St uq,.slc M.next 0 1 (.ex 1),v14] n14 (by simp) c14 Ve rfl,aQ (aB _) (by rfl)]
 have k15:af [M1.next] M14 (M14.put M1.next (.row [St nO,St uq,.slc M.next 0 1 (.ex 1),v14] false 26 0)):=(af.refl _ _).put _ (.inr (by simp))
 generalize M14.put M1.next (.row [St nO,St uq,.slc M.next 0 1 (.ex 1),v14] false 26 0)=M15 at *
 have kk:∀ {X Y:RM},af [] X Y→af [M1.next] X Y:=fun k=>k.mono (by simp)
 have b15:Bs M15 v14 [97,98,99,100]:=b14.keep k15 (fun x hx hm=>by have:=VE x hx; have:=RQ.next; simp at hm; omega)
 have ne1:∀ b,M2.next≤b→b≠M1.next:=fun b h e=>by omega
 have s15:Sl HD M15 (.slc M.next 0 1 (.ex 1)) lX:=aJ.keep (aJ.keep s2 KL (by simp)) k15 (fun x hx hm=>by have:=aJ.lt s1 x hx; simp at hm; omega)
 rw[qM (by rfl) (by rfl) (by rfl)]
 simp only[aV (x:=.row (N .i64 3).cells false 3 0)]
 have k16:af [] M15 (M15.push (.row (N .i64 3).cells false 3 0)):=(af.refl _ _).push _
 have s16:Sl INT (M15.push (.row (N .i64 3).cells false 3 0)) (.slc M15.next 0 1 (.ex 1)) [3]:=Sl.new (E:=INT) [3]
 generalize M15.push (.row (N .i64 3).cells false 3 0)=M16 at *
 have Pj:af [M1.next] M2 M16:=(kk KL).trans (k15.trans (kk k16))
 refine JQ (hi:=hi) ((Pj.base.trans k02.base).trans hB) (aJ.keep s15 k16 (by simp)) (by simp) Qe (by simp) (by simp) (b15.keep k16 (by simp)) (by simp) s16 (by simp) (fun s v17 M17 e17 _ k17 o17=>?_) (fun e M17 e17 _ _=>(ql pD e17).elim)
 obtain rfl:=tq pD e17
 simp only[bz,bu]
 refine CF (hi:=hi) ((k17.base.trans (Pj.base.trans k02.base)).trans hB) (Bs.own o17) (by have:=lD; omega) (fun m p l out r VY We Tf M18 e18 h181 VG _ _ _ k18 Wo Ru=>?_) (fun e M18 e18 _ _=>(ql rD e18).elim)
 have TF:=tq rD e18
 simp only[Prod.mk.injEq] at TF
 obtain⟨⟨rfl,rfl,rfl,rfl⟩,rfl⟩:=TF
 have Uw:VY=sD.length:=by
  have:=congrArg List.length VG
  simp at this; omega
 subst Uw
 simp only[bz,bu,eH]
 have c18:([St nO,St uq,We,Tf] : List AV).all oneCell=true:=by
  have h1:=Own.one Wo; have h2:=Own.one Ru
  simp only[List.all_cons,List.all_nil,h1,h2]; rfl
 refine xK (K:=fun t oP=>_) 4 rfl rfl c18 fun M19 k19 n19 l19=>?_
 -- what stands at the end
 have Vj:af [M1.next] M3 M19:=by
  have a:=kk (k35.trans (k6.trans (k7.trans (k8.trans (k9.trans (k10.trans (k11.trans (k12.trans (k13.trans k14)))))))))
  exact a.trans (k15.trans (kk (k16.trans (k17.trans (k18.trans k19)))))
 have bA:Bs M19 v3 sA:=(Bs.own o3).keep Vj (fun x hx hm=>by have:=(Own.blk o3 x hx).1; simp at hm; omega)
 have Ui:af [M1.next] M10 M19:=(kk (k11.trans (k12.trans (k13.trans k14)))).trans (k15.trans (kk (k16.trans (k17.trans (k18.trans k19)))))
 have bC:Bs M19 v10 sC:=(Bs.own o10).keep Ui (fun x hx hm=>by have:=(Own.blk o10 x hx).1; have:=k29.next; simp at hm; omega)
 have Qq:af [M1.next] M12 M19:=(kk (k13.trans k14)).trans (k15.trans (kk (k16.trans (k17.trans (k18.trans k19)))))
 have h11:M19.heap M11.next=some (.row [N .i64 ((404:Nat) : Int),Ew,EU] false 34 0):=Qq.aC n12 l12 (by
  have:=(KF.trans k11).next; simp; omega)
 have VC:Bs M19 EU [110,111]:=((Bs.own O8).keep k12 (by simp)).keep Qq (fun x hx hm=>by have:=(Own.blk O8 x hx).1; have:=KF.next; simp at hm; omega)
 have bD:Bs M19 v17 sD:=(Bs.own o17).keep (k18.trans k19) (by simp)
 have Vm:Bs M19 Tf [97,98,99,100]:=(Bs.own Ru).keep k19 (by simp)
 have go1:∀ {α:Type} [BEq α] [LawfulBEq α] (a:α),(a == a)=true:=fun a=>beq_self_eq_true a
 simp only[bT,bI,bq,eX,go1]
 rw[bA.str]
 simp only[bT,bI,bq,eX,go1]
 rw[bA.len]
 rw[bq,show(((44:Nat) : Int) == ((sA.length:Nat) : Int))=true by decide]
 simp only[bT,bI,bq,eX,go1]
 rw[bC.len]
 simp only[bT,bI,bq,eX,go1,gm,Nat.zero_add]
 rw[aK h11 rfl]
 rw[bq,show(((404:Nat) : Int) == 404)=true from rfl]
 simp only[bT,bI,bq,eX,go1]
 rw[aK h11 rfl,VC.str]
 simp only[bT,bI,bq,eX,go1]
 rw[bD.len]
 simp only[bT,bI,bq,eX,go1]
 rw[aK n19 rfl,Vm.str]
 simp only[bT,bI,bq,eX,go1]
 exact hQ _ (tZ k02 (Pj.trans (kk (k17.trans (k18.trans k19)))) (by have:=k1.next; omega))
end
theorem Qx {α:Type} {e f:Nat} {r:Except Nat α} (h:r=.error e) (k:r=.error f) : e=f:=by rw[h] at k; exact Except.error.inj k
section
variable {w0:World} {hi:Iv w0}
theorem RP:uW (au 24):=by
 intro M s Q h1 h2
 obtain⟨a0,e,h⟩:=JP (T8:=5) h1 h2
 cases e
 exact Bi h
end
def wZ (T:Nat) (c:ak) : Prop:=∀ {M:RM} {v:AV} {l:List Hd} {Q:ai},Sl HD M v l→l.length≤1000→(∀ v' M',Ow HD M' M.next T v' l→af [] M M'→Q v' M')→c [v] M Q
theorem GQ {T:Nat} : wZ T fun args M Q=>∃ a0,args=[a0]∧nS T a0 M Q:=by
 intro M v l Q hv hl hQ
 refine⟨_,rfl, ?_⟩
 unfold nS
 refine aZ (fun m ys M3=>∃ (i:Nat) (o:AV),m=l.length - i∧ys=[o,N .i64 (i:Int)]∧i≤l.length∧Ow HD M3 M.next T o (l.take i)∧af [] M M3) _ ⟨0,aA,rfl,rfl,Nat.zero_le _,.nil,af.refl _ _⟩ ?_
 rintro next m ys M3 hnext ⟨i,o,rfl,rfl,hi,hO,k3⟩
 simp only[aN,cK]
 have hv3:Sl HD M3 v l:=aJ.keep hv k3 (by simp)
 rw[aJ.len hv3,iO]
 refine aM (fun h=>?_) fun h=>?_
 ·have hlt:i<l.length:=by simpa using h
  obtain⟨b,off,hb,_,hix,hld⟩:=hv3.at 2 (i:Int) hlt
  rw[hix,gm,dI]
  refine⟨St l[i].1,jg hld (j:=0) (x:=St l[i].1) rfl, ?_⟩
  rw[hix,gm,dI]
  refine⟨St l[i].2,jg hld (j:=1) (x:=St l[i].2) rfl, ?_⟩
  rw[eu]
  refine⟨_,vM rfl rfl rfl rfl, ?_⟩
  rw[qM (by rfl) (by rfl) (by rfl)]
  simp only[A9]
  refine o8 (E:=HD) (a:=l[i]) hO k3.next (by decide) (by simp; omega) (by simp; omega) fun v7 M7 o7 k7 _ _=>?_
  rw[add1 (by omega)]
  refine hnext _ _ _ (by omega) ⟨i + 1,v7,rfl,rfl,by omega, ?_,af.own k3 k7 (fun x hx=>(hO.blk x hx).1)⟩
  rw[List.take_succ_eq_append_getElem hlt]; exact o7
 ·have:i=l.length:=by simp at h; omega
  subst this
  rw[List.take_length] at hO
  exact hQ o M3 hO k3
theorem V3 (s:Str) : (s != s)=false:=by simp
theorem OI {m p:Str} {hv' bv:AV} (h1:known hv'=true) (h2:hv'.cells=[hv']) (h3:known bv=true) (h4:bv.cells=[bv]) : kQ [St [],St [],N .i64 0,aA,aA] [(0,1,St m),(1,1,St p),(3,1,hv'),(4,1,bv)]=some [St m,St p,N .i64 0,hv',bv]:=by
 have e1:known (St m)=true:=rfl
 have e2:known (St p)=true:=rfl
 have e3:(St m).cells=[St m]:=rfl
 have e4:(St p).cells=[St p]:=rfl
 simp[kQ,h1,h2,h3,h4,e1,e2,e3,e4]
theorem NP {n:Int} {hv' bv:AV} (h1:known hv'=true) (h2:hv'.cells=[hv']) (h3:known bv=true) (h4:bv.cells=[bv]) : kQ [St [],St [],N .i64 0,aA,aA] [(2,1,N .i64 n),(3,1,hv'),(4,1,bv)]=some [St [],St [],N .i64 n,hv',bv]:=by
 have e1:known (N .i64 n)=true:=rfl
 have e3:(N .i64 n).cells=[N .i64 n]:=rfl
 simp[kQ,h1,h2,h3,h4,e1,e3]
def Hu (c:ak) : Prop:=∀ {M:RM} {hv bv:AV} {m p body:Str} {l:List Hd} {Q:ai},Sl HD M hv l→l.length≤1000→Sl BY M bv body →
 (∀ hv' M',Sl HD M' hv' l→af [] M M'→Q (.agg [St m,St p,N .i64 0,hv',bv]) M')→c [.agg [St m,St p,hv,bv]] M Q
theorem I6 {T TM TH:Nat} {ch:ak} (hh:wZ TH ch) : Hu fun args M Q=>∃ a0,args=[a0]∧oo T TM ch a0 M Q:=by
 intro M hv bv m p body l Q hs hl hb hQ
 refine⟨_,rfl, ?_⟩
 unfold oo
 have ohv:=aJ.one hs
 have obv:=aJ.one hb
 rw[iV (by simp only[List.all_cons,List.all_nil,ohv,obv]; rfl) (by simp)]
 simp only[aV]
 have k0:af [] M ((M.push (.row [St m,St p,hv,bv] false T 0)).push (.row [St [],St [],N .i64 0,aA,aA] false TM 0)):=((af.refl _ _).push _).push _
 have n1:((M.push (.row [St m,St p,hv,bv] false T 0)).push (.row [St [],St [],N .i64 0,aA,aA] false TM 0)).heap M.next=some (.row [St m,St p,hv,bv] false T 0):=by simp[RM.push]
 have n2:((M.push (.row [St m,St p,hv,bv] false T 0)).push (.row [St [],St [],N .i64 0,aA,aA] false TM 0)).heap (M.push (.row [St m,St p,hv,bv] false T 0)).next=some (.row [St [],St [],N .i64 0,aA,aA] false TM 0):=by simp[RM.push]
 have e2:(M.push (.row [St m,St p,hv,bv] false T 0)).next=M.next + 1:=rfl
 have l0:((M.push (.row [St m,St p,hv,bv] false T 0)).push (.row [St [],St [],N .i64 0,aA,aA] false TM 0)).next=M.next + 2:=rfl
 rw[e2] at n2 ⊢
 generalize (M.push (.row [St m,St p,hv,bv] false T 0)).push (.row [St [],St [],N .i64 0,aA,aA] false TM 0)=M0 at *
 simp only[iE]
 rw[aK n1 (i:=0) rfl,aK n1 (i:=1) rfl,aK n1 (i:=2) rfl,aK n1 (i:=3) rfl]
 refine hh (aJ.keep hs k0 (by simp)) hl fun hv' M1 o1 k1=>?_
 have n11:=k1.aC n1 (by omega) (by simp)
 have n21:=k1.aC n2 (by omega) (by simp)
 rw[aK n11 (i:=0) rfl]; refine⟨rfl, ?_⟩
 rw[aK n11 (i:=1) rfl]; refine⟨rfl, ?_⟩
 rw[aK n11 (i:=3) rfl]; refine⟨rfl, ?_⟩
 have fl:=OI (m:=m) (p:=p) (aJ.known o1.jc) (aJ.cells o1.jc) (aJ.known hb) (aJ.cells hb)
 rw[eu]
 refine⟨_,fl, ?_⟩
 have o1':=Own.one o1
 rw[dQ n21 (by rfl) (by rfl) (by simp only[List.all_cons,List.all_nil,o1',obv]; rfl),aQ (aB _) (by rfl)]
 refine hQ hv' _ (aJ.keep o1.jc ((af.refl [M.next + 1] M1).put _ (.inr (by simp))) (fun x hx hm=>?_)) ((k0.trans k1).new _ (by omega))
 have:=(o1.blk x hx).1
 simp at hm; omega
def Qr (c:ak) : Prop:=∀ {M:RM} {m p body:Str} {n:Int} {hv bv hv' bv' : AV} {l:List Hd} {Q:ai},Sl HD M hv l→Sl HD M hv' l→Sl BY M bv body→Sl BY M bv' body→l.length≤1000 →
 (∀ M',af [] M M'→Q (Bo true) M')→c [.agg [St m,St p,N .i64 n,hv,bv],.agg [St m,St p,N .i64 n,hv',bv']] M Q
theorem Nk {TM:Nat} : Qr fun args M Q=>∃ a0 a1,args=[a0,a1]∧tJ TM a0 a1 M Q:=by
 intro M m p body n hv bv hv' bv' l Q hs hs' hb hb' hl hQ
 refine⟨_,_,rfl, ?_⟩
 unfold tJ
 have ohv:=aJ.one hs
 have obv:=aJ.one hb
 have Wj:=aJ.one hs'
 have VB:=aJ.one hb'
 rw[iV (by simp only[List.all_cons,List.all_nil,ohv,obv]; rfl) (by simp)]
 simp only[aV]
 rw[iV (by simp only[List.all_cons,List.all_nil,Wj,VB]; rfl) (by simp)]
 simp only[aV]
 have k0:af [] M ((M.push (.row [St m,St p,N .i64 n,hv,bv] false TM 0)).push (.row [St m,St p,N .i64 n,hv',bv'] false TM 0)):=((af.refl _ _).push _).push _
 have n1:((M.push (.row [St m,St p,N .i64 n,hv,bv] false TM 0)).push (.row [St m,St p,N .i64 n,hv',bv'] false TM 0)).heap M.next=some (.row [St m,St p,N .i64 n,hv,bv] false TM 0):=by simp[RM.push]
 have n2:((M.push (.row [St m,St p,N .i64 n,hv,bv] false TM 0)).push (.row [St m,St p,N .i64 n,hv',bv'] false TM 0)).heap (M.push (.row [St m,St p,N .i64 n,hv,bv] false TM 0)).next=some (.row [St m,St p,N .i64 n,hv',bv'] false TM 0):=by simp[RM.push]
 have e2:(M.push (.row [St m,St p,N .i64 n,hv,bv] false TM 0)).next=M.next + 1:=rfl
 rw[e2] at n2 ⊢
 generalize (M.push (.row [St m,St p,N .i64 n,hv,bv] false TM 0)).push (.row [St m,St p,N .i64 n,hv',bv'] false TM 0)=M0 at *
 have a0:∀ {K:AV→Prop},ax M0 (.ptr M.next 0) K=K (St m):=aK n1 rfl
 have a1:∀ {K:AV→Prop},ax M0 (.ptr M.next 1) K=K (St p):=aK n1 rfl
 have a2:∀ {K:AV→Prop},ax M0 (.ptr M.next 2) K=K (N .i64 n):=aK n1 rfl
 have a3:∀ {K:AV→Prop},ax M0 (.ptr M.next 3) K=K hv:=aK n1 rfl
 have a4:∀ {K:AV→Prop},ax M0 (.ptr M.next 4) K=K bv:=aK n1 rfl
 have b0:∀ {K:AV→Prop},ax M0 (.ptr (M.next + 1) 0) K=K (St m):=aK n2 rfl
 have b1:∀ {K:AV→Prop},ax M0 (.ptr (M.next + 1) 1) K=K (St p):=aK n2 rfl
 have b2:∀ {K:AV→Prop},ax M0 (.ptr (M.next + 1) 2) K=K (N .i64 n):=aK n2 rfl
 have b3:∀ {K:AV→Prop},ax M0 (.ptr (M.next + 1) 3) K=K hv':=aK n2 rfl
 have b4:∀ {K:AV→Prop},ax M0 (.ptr (M.next + 1) 4) K=K bv':=aK n2 rfl
 have s1:Sl HD M0 hv l:=aJ.keep hs k0 (by simp)
 have s2:Sl HD M0 hv' l:=aJ.keep hs' k0 (by simp)
 have t1:∀ {K:AV→Prop},dR M0 bv K=K (St body):=Sl.str (aJ.keep hb k0 (by simp))
 have t2:∀ {K:AV→Prop},dR M0 bv' K=K (St body):=Sl.str (aJ.keep hb' k0 (by simp))
 have l1:∀ {K:AV→Prop},bi hv K=K (N .i64 (l.length:Int)):=aJ.len s1
 have l2:∀ {K:AV→Prop},bi hv' K=K (N .i64 (l.length:Int)):=aJ.len s2
 have es:∀ s:Str,(s != s)=false:=fun s=>by simp
 have ei:∀ s:Int,(s != s)=false:=fun s=>by simp
 simp only[iE,a0,b0,lg,es,ei,bP,cO,a1,b1,a2,b2,dV,a4,b4,t1,t2,a3,b3,l1,l2,aX]
 refine aZ (fun z ys M3=>∃ i:Nat,z=l.length - i∧ys=[N .i64 (i:Int)]∧i≤l.length∧M3=M0) _ ⟨0,rfl,rfl,Nat.zero_le _,rfl⟩ ?_
 rintro next z ys M3 hnext ⟨i,rfl,rfl,hi,rfl⟩
 simp only[aN]
 rw[a3,l1,iO]
 refine aM (fun h=>?_) fun h=>?_
 ·have hlt:i<l.length:=by simpa using h
  obtain⟨c1,o1,_,_,Ii,Es⟩:=s1.at 2 (i:Int) hlt
  obtain⟨c2,o2,_,_,Px,Pz⟩:=s2.at 2 (i:Int) hlt
  rw[a3,Ii,qm]
  refine⟨_,Es, ?_⟩
  rw[b3,Px,qm]
  refine⟨_,Pz, ?_⟩
  rw[NA (cs:=HD.cells l[i]) (ds:=HD.cells l[i]) (r:=true) (by rfl) (by rfl) (by simp[HD,LM,Ma])]
  simp only[show(true != true)=false from rfl,aX]
  rw[add1 (by omega)]
  exact hnext _ _ _ (by omega) ⟨i + 1,rfl,rfl,by omega,rfl⟩
 ·exact hQ _ k0
section
variable {w0:World} {hi:Iv w0}
theorem Fw:wZ 83 (au 46):=by
 intro M v l Q h1 h2 h3
 obtain⟨a0,e,h⟩:=GQ h1 h2 h3
 cases e
 exact vL h
theorem NH:Hu (au 17):=by
 intro M hv bv m p body l Q h1 h2 h3 h4
 obtain⟨a0,e,h⟩:=I6 (T:=26) (TM:=39) Fw h1 h2 h3 h4
 cases e
 exact vN h
theorem Od:Qr (au 16):=by
 intro M m p body n hv bv hv' bv' l Q h1 h2 h3 h4 h5 h6
 obtain⟨a0,a1,e,h⟩:=Nk (TM:=39) h1 h2 h3 h4 h5 h6
 cases e
 exact Ap h
theorem Fj {f g:Prop→Prop} {k:Prop} : vW (Bo true) true f g k=f k:=rfl
end
theorem Nq:mG dm (au 77):=by
 intro M x Q h1
 obtain⟨a0,e,h⟩:=Gi h1
 cases e
 exact yU h
theorem QB:fP dY (au 50):=by
 intro M s Q h1 h2
 obtain⟨a0,e,h⟩:=ES h1 h2
 cases e
 exact wM h
theorem Un:fP fo (au 51):=by
 intro M s Q h1 h2
 obtain⟨a0,e,h⟩:=Il h1 h2
 cases e
 exact Ag h
theorem UB:fP eY (au 53):=by
 intro M s Q h1 h2
 obtain⟨a0,e,h⟩:=IR h1 h2
 cases e
 exact zX h
theorem Rx:fP dW (au 54):=by
 intro M s Q h1 h2
 obtain⟨a0,e,h⟩:=F5 Nq h1 h2
 cases e
 exact yR h
theorem Ut:GM (au 73):=by
 intro M s Q h1 h2
 obtain⟨a0,e,h⟩:=GX Nq h1 h2
 cases e
 exact zG h
theorem Rt:KP (au 41):=by
 intro M v b Q h1 h2 h3
 obtain⟨a0,e,h⟩:=JA h1 h2 h3
 cases e
 exact Bg h
theorem V6:MC (au 74):=by
 intro M s Q h1 h2 h3
 obtain⟨a0,e,h⟩:=JF h1 h2 h3
 cases e
 exact Bh h
theorem QT:CG (au 43):=by
 intro M s Q h1 h2 h3
 obtain⟨a0,e,h⟩:=E5 (T:=83) UB Ut Rx h1 h2 h3
 cases e
 exact yE h
theorem Rq:EM (au 42):=by
 intro M s rq Q h1 h2 h3 h4
 obtain⟨a0,a1,e,h⟩:=Gl (T:=39) QB Un h1 h2 h3 h4
 cases e
 exact yZ h
theorem Sw:IU (au 44):=by
 intro M v l Q h1 h2 h3 h4
 obtain⟨a0,e,h⟩:=F4 RP h1 h2 h3 h4
 cases e
 exact yX h
theorem QJ:Ed 5 (au 45):=by
 intro M v b Q h1 h2 h3 h4
 obtain⟨a0,e,h⟩:=EW Rt V6 h1 h2 h3 h4
 cases e
 exact wU h
theorem Ul:HZ 83 5 (au 15):=by
 intro M v b rq Q h1 h2 h3 h4
 obtain⟨a0,a1,e,h⟩:=IX (T:=39) Rt Rq Sw QJ QT h1 h2 h3 h4
 cases e
 exact Ai h
def Fu (c:ak) : Prop:=∀ {M:RM} {hv bv:AV} {n:Int} {body:Str} {l:List Hd} {Q:ai},Sl HD M hv l→l.length≤1000→Sl BY M bv body →
 (∀ hv' M',Sl HD M' hv' l→(∀ x∈aW hv',M.next≤x)→af [] M M'→Q (.agg [St [],St [],N .i64 n,hv',bv]) M')→c [.agg [N .i64 n,hv,bv]] M Q
theorem Gf {T TM TH:Nat} {ch:ak} (hh:wZ TH ch) : Fu fun args M Q=>∃ a0,args=[a0]∧mV T TM ch a0 M Q:=by
 intro M hv bv n body l Q hs hl hb hQ
 refine⟨_,rfl, ?_⟩
 unfold mV
 have ohv:=aJ.one hs
 have obv:=aJ.one hb
 rw[iV (by simp only[List.all_cons,List.all_nil,ohv,obv]; rfl) (by simp)]
 simp only[aV]
 have k0:af [] M ((M.push (.row [N .i64 n,hv,bv] false T 0)).push (.row [St [],St [],N .i64 0,aA,aA] false TM 0)):=((af.refl _ _).push _).push _
 have n1:((M.push (.row [N .i64 n,hv,bv] false T 0)).push (.row [St [],St [],N .i64 0,aA,aA] false TM 0)).heap M.next=some (.row [N .i64 n,hv,bv] false T 0):=by simp[RM.push]
 have n2:((M.push (.row [N .i64 n,hv,bv] false T 0)).push (.row [St [],St [],N .i64 0,aA,aA] false TM 0)).heap (M.push (.row [N .i64 n,hv,bv] false T 0)).next=some (.row [St [],St [],N .i64 0,aA,aA] false TM 0):=by simp[RM.push]
 have e2:(M.push (.row [N .i64 n,hv,bv] false T 0)).next=M.next + 1:=rfl
 have l0:((M.push (.row [N .i64 n,hv,bv] false T 0)).push (.row [St [],St [],N .i64 0,aA,aA] false TM 0)).next=M.next + 2:=rfl
 rw[e2] at n2 ⊢
 generalize (M.push (.row [N .i64 n,hv,bv] false T 0)).push (.row [St [],St [],N .i64 0,aA,aA] false TM 0)=M0 at *
 simp only[iE]
 rw[aK n1 (i:=0) rfl,aK n1 (i:=1) rfl,aK n1 (i:=2) rfl]
 refine hh (aJ.keep hs k0 (by simp)) hl fun hv' M1 o1 k1=>?_
 have n11:=k1.aC n1 (by omega) (by simp)
 have n21:=k1.aC n2 (by omega) (by simp)
 rw[aK n11 (i:=0) rfl]; refine⟨rfl, ?_⟩
 rw[aK n11 (i:=2) rfl]; refine⟨rfl, ?_⟩
 have fl:=NP (n:=n) (aJ.known o1.jc) (aJ.cells o1.jc) (aJ.known hb) (aJ.cells hb)
 rw[eu]
 refine⟨_,fl, ?_⟩
 have o1':=Own.one o1
 rw[dQ n21 (by rfl) (by rfl) (by simp only[List.all_cons,List.all_nil,o1',obv]; rfl),aQ (aB _) (by rfl)]
 refine hQ hv' _ (aJ.keep o1.jc ((af.refl [M.next + 1] M1).put _ (.inr (by simp))) (fun x hx hm=>?_)) (fun x hx=>?_) ((k0.trans k1).new _ (by omega))
 ·have:=(o1.blk x hx).1
  simp at hm; omega
 ·have:=(o1.blk x hx).1
  omega
theorem Mw:Fu (au 18):=by
 intro M hv bv n body l Q h1 h2 h3 h4
 obtain⟨a0,e,h⟩:=Gf (T:=34) (TM:=39) Fw h1 h2 h3 h4
 cases e
 exact uG h
end Go.Ab.Hw
namespace Go.Ab.Hw
open Go Go.Ab Go.Ab.Sm Go.RowKit Go.Proofs
open Go.Proofs.YtmjcgbaacndblaaGreatDoor
open Go.Ab.Vl (gX gT)
structure Xb (M:RM) (hv bv:AV) (m p body:Str) (l:List Hd) : Prop where
 hs:Sl HD M hv l
 hb:Bs M bv body
 ll:∀ h∈l,h.1.length≤281474976710656∧h.2.length≤281474976710656
 lm:m.length≤281474976710656
 lp:p.length≤281474976710656
section
variable {w0:World} {hi:Iv w0}
end
theorem Q7 {M:RM} {base T:Nat} {v:AV} {s:Str} (h:Ow BY M base T v s) (hs:s≠[]) : ∃ b,v=.slc b 0 s.length (.op 1)∧base≤b∧Rw BY M b true T s:=by
 unfold Ow at h
 generalize hc:BY.row s=cs at h
 generalize hn:s.length=n at h
 cases h with
 | nil=>exact absurd (List.length_eq_zero_iff.1 hn) hs
 | ex0 b o _ _ _=>exact absurd (List.length_eq_zero_iff.1 hn) hs
 | op b n cs h1 h2 h3 h4=>subst hc; exact⟨b,rfl,h1,h3,h2⟩
theorem Wl {b n i:Nat} {c:Cap} {K:AV→Prop} (h:i<n) : bZ (.slc b 0 n c) (N .i64 (i:Int)) 1 K=K (.ptr b i):=by
 rw[oM,Nat.zero_add,Nat.mul_one,Int.toNat_natCast]
 apply propext
 constructor
 ·exact fun h=>h.2.2
 ·exact fun k=>⟨by omega,by omega,k⟩
def Fin (H body c:Str) : Prop:=∃ Z,Vr H 0 Z∧c=Z++body
structure Let (H body:Str) (n b:Nat) (M:RM) (i m:Nat) (P A T:Str) : Prop where
 row:Rw BY M b true 5 (P++(A++T))
 len:P.length + (A.length + T.length)=n
 at_:i=P.length∨(A=[]∧P.length≤i)
 tl:T.length≤body.length
 al:A≠[]→T.length=body.length
 fin:∀ B,Vr A m B→Fin H body (P++(B++T))
section
variable {w0:World} {hi:Iv w0}
end
end Go.Ab.Hw
namespace Go.Ab.Hw
open Go Go.Ab Go.Ab.Sm Go.RowKit Go.Proofs
open Go.Proofs.YtmjcgbaacndblaaGreatDoor
abbrev Rd:=Except Nat ((Str × Str × Nat × List Hd × Str) × Str)
structure wQ (B0:Nat) (M:RM) (rd:Rd) (b:Str) (m p:Str) (c:Nat) (hv ov:AV) (l:List Hd) (out:Str) (n e:Nat) : Prop where
 sh:Sl HD M hv l
 so:Sl BY M ov out
 hb:∀ x∈aW hv,B0≤x
 ob:∀ x∈aW ov,B0≤x
 ll:l.length≤33
 ok:(∃ r,rd=.ok ((m,p,c,l,out),r)∧n≤b.length∧b.drop n=r∧e=0)∨(rd=.error e∧m=[]∧p=[]∧c=0∧l=[]∧out=[]∧n=0∧e≠0)
theorem wQ.keep {B0:Nat} {M M' : RM} {rd:Rd} {b m p:Str} {c:Nat} {hv ov:AV} {l:List Hd} {out:Str} {n e:Nat} {bs:List Nat} (h:wQ B0 M rd b m p c hv ov l out n e) (k:af bs M M') (hbs:∀ x∈bs,x<B0) : wQ B0 M' rd b m p c hv ov l out n e :=
 ⟨aJ.keep h.sh k (fun x hx hm=>by have:=h.hb x hx; have:=hbs x hm; omega),aJ.keep h.so k (fun x hx hm=>by have:=h.ob x hx; have:=hbs x hm; omega),h.hb,h.ob,h.ll,h.ok⟩
theorem wQ.one {B0 B1:Nat} {M M' : RM} {rd:Rd} {b m p m' p' : Str} {c c' : Nat} {hv ov hv' ov' : AV} {l l' : List Hd} {out out' : Str} {n e n' e' : Nat} (h:wQ B0 M rd b m p c hv ov l out n e) (h' : wQ B1 M' rd b m' p' c' hv' ov' l' out' n' e') :
  m=m'∧p=p'∧c=c'∧l=l'∧out=out'∧n=n'∧e=e':=by
 rcases h.ok with⟨r,e1,a1,d1,z1⟩ | ⟨e1,m1,p1,c1,l1,o1,n1,z1⟩ <;> rcases h'.ok with⟨r',e2,a2,d2,z2⟩ | ⟨e2,m2,p2,c2,l2,o2,n2,z2⟩
 ·have:=tq e1 e2
  simp only[Prod.mk.injEq] at this
  obtain⟨⟨rfl,rfl,rfl,rfl,rfl⟩,rfl⟩:=this
  refine⟨rfl,rfl,rfl,rfl,rfl, ?_,by omega⟩
  have h1:=congrArg List.length d1
  have h2:=congrArg List.length d2
  simp only[List.length_drop] at h1 h2
  omega
 ·exact(ql e1 e2).elim
 ·exact(ql e2 e1).elim
 ·subst m1 p1 c1 l1 o1 n1 m2 p2 c2 l2 o2 n2
  exact⟨rfl,rfl,rfl,rfl,rfl,rfl,Qx e1 e2⟩
theorem Lr {b m p out r:Str} {c:Nat} {l:List Hd} (h:gU true b=.ok ((m,p,c,l,out),r)) : c=0:=by
 unfold gU at h
 split at h
 ·cases h
 ·split at h
  ·cases h
  ·unfold Cu at h
   dsimp only at h
   split at h <;> cases h
   rfl
theorem BA {b m p out r:Str} {c:Nat} {l:List Hd} (h:gU false b=.ok ((m,p,c,l,out),r)) : m=[]∧p=[]:=by
 unfold gU at h
 split at h
 ·cases h
 ·split at h
  ·cases h
  ·unfold Cu at h
   cases h
   exact⟨rfl,rfl⟩
section
variable {w0:World} {hi:Iv w0}
theorem SN {M:RM} {v:AV} {b:Str} {Q:ai} (hB:M.base=base w0 hi) (hv:Bs M v b) (hl:b.length≤1000000)
  (hQ:∀ m p hv ov l out n e M',wQ M.next M' (gU true b) b m p 0 hv ov l out n e→af [] M M'→Q (.tup [.agg [St m,St p,hv,ov],N .i64 (n:Int),N .i64 (e:Int)]) M') : au 11 [v] M Q:=by
 refine CF (hi:=hi) hB hv (by omega) (fun m p l out r at2 hv' ov M2 e2 ha hr _ hll _ k2 oh ob=>?_) (fun e M2 e2 he k2=>?_)
 ·refine hQ m p hv' ov l out at2 0 M2 ⟨Own.jc oh,Own.jc ob,fun x hx=>(Own.blk oh x hx).1,fun x hx=>(Own.blk ob x hx).1,by omega,.inl ⟨r, ?_,ha,hr,rfl⟩⟩ k2
  rw[FC] at e2
  cases hR:gU true b with
  | error e=>rw[hR] at e2; cases e2
  | ok q =>
    obtain⟨⟨m',p',c,l',out'⟩,r'⟩:=q
    rw[hR] at e2
    dsimp only at e2
    cases e2
    rw[Lr hR]
 ·refine hQ [] [] aA aA [] [] 0 e M2 ⟨.nil,.nil,fun x hx=>(by cases hx),fun x hx=>(by cases hx),by simp,.inr ⟨?_,rfl,rfl,rfl,rfl,rfl,rfl,by omega⟩⟩ k2
  rw[FC] at e2
  cases hR:gU true b with
  | error e=>rw[hR] at e2; cases e2; rfl
  | ok q=>rw[hR] at e2; obtain⟨⟨m',p',c,l',out'⟩,r'⟩:=q; cases e2
theorem QY {M:RM} {v:AV} {b:Str} {Q:ai} (hB:M.base=base w0 hi) (hv:Bs M v b) (hl:b.length≤1000000)
  (hQ:∀ c hv ov l out n e M',wQ M.next M' (gU false b) b [] [] c hv ov l out n e→af [] M M'→Q (.tup [.agg [N .i64 (c:Int),hv,ov],N .i64 (n:Int),N .i64 (e:Int)]) M') : au 14 [v] M Q:=by
 refine FI (hi:=hi) hB hv (by omega) (fun c l out r at2 hv' ov M2 e2 ha hr _ hll _ k2 oh ob=>?_) (fun e M2 e2 he k2=>?_)
 ·refine hQ c hv' ov l out at2 0 M2 ⟨Own.jc oh,Own.jc ob,fun x hx=>(Own.blk oh x hx).1,fun x hx=>(Own.blk ob x hx).1,by omega,.inl ⟨r, ?_,ha,hr,rfl⟩⟩ k2
  rw[Dv] at e2
  cases hR:gU false b with
  | error e=>rw[hR] at e2; cases e2
  | ok q =>
    obtain⟨⟨m',p',c,l',out'⟩,r'⟩:=q
    rw[hR] at e2
    dsimp only at e2
    cases e2
    rw[(BA hR).1,(BA hR).2]
 ·refine hQ 0 aA aA [] [] 0 e M2 ⟨.nil,.nil,fun x hx=>(by cases hx),fun x hx=>(by cases hx),by simp,.inr ⟨?_,rfl,rfl,rfl,rfl,rfl,rfl,by omega⟩⟩ k2
  rw[Dv] at e2
  cases hR:gU false b with
  | error e=>rw[hR] at e2; cases e2; rfl
  | ok q=>rw[hR] at e2; obtain⟨⟨m',p',c,l',out'⟩,r'⟩:=q; cases e2
theorem Oo {M:RM} {v:AV} {b:Str} {rq:Bool} {Q:ai} (hv:Bs M v b) (hl:b.length≤1000000)
  (hQ:∀ m p c hv ov l out n e M',wQ M.next M' (gU rq b) b m p c hv ov l out n e→af [] M M'→Q (.tup [.agg [St m,St p,N .i64 (c:Int),hv,ov],N .i64 (n:Int),N .i64 (e:Int)]) M') : au 15 [v,Bo rq] M Q:=by
 refine Ul hv (by omega) (fun m p c l out r at2 hv' ov M2 e2 ha hr _ hll k2 oh ob=>?_) (fun e M2 e2 he k2=>?_)
 ·exact hQ m p c hv' ov l out at2 0 M2 ⟨Own.jc oh,Own.jc ob,fun x hx=>(Own.blk oh x hx).1,fun x hx=>(Own.blk ob x hx).1,by omega,.inl ⟨r,e2,ha,hr,rfl⟩⟩ k2
 ·exact hQ [] [] 0 aA aA [] [] 0 e M2 ⟨.nil,.nil,fun x hx=>(by cases hx),fun x hx=>(by cases hx),by simp,.inr ⟨e2,rfl,rfl,rfl,rfl,rfl,rfl,by omega⟩⟩ k2
theorem Pw {M:RM} {v:AV} {b:Str} {Q:ai} (hB:M.base=base w0 hi) (hv:Bs M v b) (hQ:∀ M',Q (Bo true) M') :
  au 4 [v] M Q:=by
 refine qi ?_
 unfold nD
 refine SA (hi:=hi) hB fun M1 k1=>?_
 simp only[bO,Bool.not_true,aX]
 have v1:Bs M1 v b:=hv.keep k1 (by simp)
 rw[v1.len,bG]
 refine aM (fun _=>hQ _) fun h1=>?_
 have hbl:b.length≤40000:=by have:=of_decide_eq_false h1; omega
 rw[v1.str,gZ]
 simp only[aV (x:=.row (BY.row b) true 5 0)]
 have k2:af [] M1 (M1.push (.row (BY.row b) true 5 0)):=(af.refl _ _).push _
 have o2:Ow BY (M1.push (.row (BY.row b) true 5 0)) M1.next 5 (.slc M1.next 0 b.length (.op 1)) b :=
  Own.op _ _ _ (Nat.le_refl _) (by simp[RM.push]) (RM.lJ _) (by rw[Enc.gB])
 generalize M1.push (.row (BY.row b) true 5 0)=M2 at *
 rw[qM (by rfl) (by rfl) (by rfl),aV]
 refine o8 (E:=BY) (a:=(9:UInt8)) o2 k2.next (by decide) (by omega) (by omega) fun t26 M4 o4 k4 _ _=>?_
 have k14:af [] M1 M4:=af.own k2 k4 (fun x hx=>(Own.blk o2 x hx).1)
 obtain⟨cb,rfl,hcb,r4⟩:=Q7 o4 (by simp)
 have hcl:(b++[(9:UInt8)]).length=b.length + 1:=by simp
 have v4:Bs M4 v b:=v1.keep k14 (by simp)
 have c4:Bs M4 (.slc cb 0 (b++[(9:UInt8)]).length (.op 1)) (b++[9]):=⟨r4.sl,rfl⟩
 have hlt4:=r4.lt
 have L:∀ {K:AV→Prop},bi v K=K (N .i64 (b.length:Int)):=v1.len
 rw[L]
 have k04:=k1.trans k14
 refine c4.sub (vJ _) (gz _ _ _) (Nat.zero_le _) (by omega) fun t31 h31 hs31=>?_
 rw[List.drop_zero,Nat.sub_zero,List.take_left' rfl] at h31
 refine SN (hi:=hi) (k04.base.trans hB) h31 (by omega) fun m p hv1 ov1 l out n e M5 q5 k5=>?_
 simp only[bz,bu,eH]
 have c5:([St m,St p,hv1,ov1] : List AV).all oneCell=true:=by
  have h1:=aJ.one q5.sh; have h2:=aJ.one q5.so
  simp only[List.all_cons,List.all_nil,h1,h2]; rfl
 refine xK (K:=fun t oP=>_) 4 rfl rfl c5 fun M7 k7 n7 l7=>?_
 have q7:=q5.keep k7 (by simp)
 have k47:=k5.trans k7
 rw[L]
 refine(c4.keep k47 (by simp)).sub (vJ _) (gz _ _ _) (Nat.zero_le _) (by omega) fun t40 h40 hs40=>?_
 rw[List.drop_zero,Nat.sub_zero,List.take_left' rfl] at h40
 refine QY (hi:=hi) ((k04.trans k47).base.trans hB) h40 (by omega) fun code hv2 ov2 l2 out2 n2 e2 M8 q8 k8=>?_
 simp only[bz,bu,eH]
 have c8:([N .i64 (code:Int),hv2,ov2] : List AV).all oneCell=true:=by
  have h1:=aJ.one q8.sh; have h2:=aJ.one q8.so
  simp only[List.all_cons,List.all_nil,h1,h2]; rfl
 refine xK (K:=fun t oP=>_) 3 rfl rfl c8 fun M10 k10 n10 l10=>?_
 have Lm:=k47.trans (k8.trans k10)
 have q10:=q8.keep k10 (by simp)
 have q7':=q7.keep (k8.trans k10) (by simp)
 have n7':=(k8.trans k10).aC n7 l7 (by simp)
 rw[(c4.keep Lm (by simp)).str,(v4.keep Lm (by simp)).str,dz]
 refine⟨by simp; omega, ?_⟩
 rw[lg,V3,aX]
 have r10:=r4.keep Lm (by simp)
 refine aZ (fun z ys M11=>∃ (i:Nat) (cc:Str),z=b.length + 1 - i∧ys=[N .i64 (i:Int)]∧i≤b.length + 1∧cc.length=b.length + 1∧Rw BY M11 cb true 5 cc∧af [cb] M10 M11) _ ⟨0,_,rfl,rfl,Nat.zero_le _,hcl,r10,af.refl _ _⟩ ?_
 rintro next z ys M11 hnext ⟨i,cc,rfl,rfl,hi',hcc,r11,k11⟩
 simp only[aN]
 rw[kw,iO]
 refine aM (fun h=>?_) fun h=>?_
 ·have hlt:i<b.length + 1:=by have:=of_decide_eq_true h; omega
  obtain⟨hst,hrw⟩:=r11.CJ (i:=i) (by omega) (0:UInt8)
  rw[Wl (by omega),xB]
  refine⟨rfl,_,hst, ?_⟩
  rw[add1 (by omega)]
  exact hnext _ _ _ (by omega) ⟨i + 1,_,rfl,rfl,by omega,by rw[List.length_set]; exact hcc,hrw,k11.put _ (.inr (by simp))⟩
 clear hnext
 have Vh:∀ x∈aW v,x ∉ [cb]:=fun x hx hm=>by
  have:=v1.lt x hx
  simp at hm; omega
 have v11:Bs M11 v b:=(v4.keep Lm (by simp)).keep k11 Vh
 have q11:=q7'.keep k11 (by simp; omega)
 have SV:=q10.keep k11 (by have:=k47.next; simp; omega)
 have nx4:=k47.next
 have n5:=k5.next
 have n11:M11.heap M5.next=some _:=k11.aC n7' (Nat.lt_of_lt_of_le l7 (k8.trans k10).next) (by simp; omega)
 have nx8:=k8.next
 have VO:M11.heap M8.next=some _:=k11.aC n10 l10 (by simp; omega)
 have l11:M5.next<M11.next:=Nat.lt_of_lt_of_le l7 (Nat.le_trans (k8.trans k10).next k11.next)
 have RV:M8.next<M11.next:=Nat.lt_of_lt_of_le l10 k11.next
 refine Oo (rq:=true) v11 (by omega) fun m' p' c' hv3 ov3 l3 out3 n3 e3 M13 q13 k13=>?_
 simp only[bz,bu,eH]
 obtain⟨rfl,rfl,rfl,rfl,rfl,rfl,rfl⟩:=q11.one q13
 have c13:([St m,St p,N .i64 ((0:Nat) : Int),hv3,ov3] : List AV).all oneCell=true:=by
  have h1:=aJ.one q13.sh; have h2:=aJ.one q13.so
  simp only[List.all_cons,List.all_nil,h1,h2]; rfl
 refine xK (K:=fun t oP=>_) 5 rfl rfl c13 fun M15 k15 n15 l15=>?_
 have Qa:=k13.trans k15
 refine Oo (rq:=false) (v11.keep Qa (by simp)) (by omega) fun m' p' c' hv4 ov4 l4 out4 n4 e4 M16 q16 k16=>?_
 simp only[bz,bu,eH]
 obtain⟨rfl,rfl,rfl,rfl,rfl,rfl,rfl⟩:=SV.one q16
 have c16:([St [],St [],N .i64 (code:Int),hv4,ov4] : List AV).all oneCell=true:=by
  have h1:=aJ.one q16.sh; have h2:=aJ.one q16.so
  simp only[List.all_cons,List.all_nil,h1,h2]; rfl
 refine xK (K:=fun t oP=>_) 5 rfl rfl c16 fun M18 k18 n18 l18=>?_
 have Dp:=Qa.trans (k16.trans k18)
 have KI:=k16.trans k18
 have a18:=Dp.aC n11 l11 (by simp)
 have b18:=Dp.aC VO RV (by simp)
 have d18:=KI.aC n15 l15 (by simp)
 have q18:=q11.keep Dp (by simp)
 have Mx:=SV.keep Dp (by simp)
 have Tw:=q13.keep (k15.trans KI) (by simp)
 have RO:=q16.keep k18 (by simp)
 have ll:=q18.ll
 have ll':=Mx.ll
 simp only[bq,beq_self_eq_true,jW,bT]
 rw[aQ a18 (by rfl)]
 try simp only[jW]
 rw[aQ d18 (by rfl)]
 try simp only[bI]
 refine NH q18.sh (by omega) q18.so fun hw M19 s19 k19=>?_
 simp only[Fj,bI]
 rw[aQ (k19.aC d18 (Nat.lt_of_lt_of_le l15 KI.next) (by simp)) (by rfl)]
 refine⟨rfl, ?_⟩
 refine Od s19 (aJ.keep Tw.sh k19 (by simp)) (aJ.keep q18.so k19 (by simp)) (aJ.keep Tw.so k19 (by simp)) (by omega) fun M20 k20=>?_
 have uw:=k19.trans k20
 simp only[bT,jW,bq,beq_self_eq_true]
 rw[aQ (uw.aC b18 (Nat.lt_of_lt_of_le RV Dp.next) (by simp)) (by rfl)]
 try simp only[jW]
 have d20:=uw.aC n18 l18 (by simp)
 rw[aQ d20 (by rfl)]
 try simp only[bI]
 refine Mw (aJ.keep Mx.sh uw (by simp)) (by omega) (aJ.keep Mx.so uw (by simp)) fun hw2 M21 s21 _ k21=>?_
 simp only[Fj,bI]
 rw[aQ (k21.aC d20 (Nat.lt_of_lt_of_le l18 uw.next) (by simp)) (by rfl)]
 refine⟨rfl, ?_⟩
 refine Od s21 (aJ.keep RO.sh (uw.trans k21) (by simp)) (aJ.keep Mx.so (uw.trans k21) (by simp)) (aJ.keep RO.so (uw.trans k21) (by simp)) (by omega) fun M22 k22=>?_
 try simp only[bT]
 exact hQ _
end
end Go.Ab.Hw
namespace Go.Ab.Hw
open Go Go.Ab Go.RowKit Go.Proofs
open Go.Proofs.YtmjcgbaacndblaaGreatDoor
theorem zH {P:Program} {n:String} {d:DataW Unit} {r:List (String × DataW Unit)} {w:World} (h:laidMet P ((n,d) :: r) w) : laidMet P r w:=by
 obtain⟨ps,⟨g,t,cs,fuel,p,q,_,_,_,_,hs,rfl⟩,hnd,hall⟩:=h
 exact⟨q,hs,(List.nodup_append.1 hnd).2.1,fun b off hm=>hall b off (by simp[hm])⟩
theorem QQ:Rows.httpwireKnownRow.laid=("math/bits.deBruijn32tab",Rows.laid_math_bits_deBruijn32tab) :: ("math/bits.deBruijn64tab",Lib.tabData .u8 KX) :: ("internal/strconv.uint64pow10",Lib.tabData .u64 Lib.pow10Tab) :: Rows.httpwireKnownRow.laid.drop 3:=by kernel_rfl
theorem inv_of (w:World) (h:laidMetH Tryz.prog Rows.httpwireKnownRow.laid w) (hsh:w.ShapedOpen Tryz.prog) : Iv w:=by
 rw[MakeChecks.laidMetH_plain _ _ _ (by kernel_rfl),QQ] at h
 refine⟨cell_of_shapedOpen_int (g:=0) (t:=3) (zero := #[.int .i64 0]) hsh (by decide +kernel) (by kernel_rfl) (by kernel_rfl) (by kernel_rfl) (by kernel_rfl) (by kernel_rfl), ?_, ?_⟩
 ·exact Lib.tabIs_of_head (g:=3) (t:=152) (e:=126) (n:=20) g3 (by kernel_rfl) (by kernel_rfl) (by kernel_rfl) (by kernel_rfl) (by kernel_rfl) (zH (zH h))
 ·exact Lib.tabIs_of_head (g:=7) (t:=173) (e:=5) (n:=64) g7 (by kernel_rfl) (by kernel_rfl) (by kernel_rfl) (by kernel_rfl) (by kernel_rfl) (zH h)
theorem NY {P:Program} {M:RM} {t e:TypeId} {v:AV} (h:Fits P M t [v]) (hu:P.underlying t=some (.slice e)) (hz:0<P.cellsOf e) : LZ v:=by
 generalize hc:[v]=cs at h
 cases h with
 | K9 _ e' h1=>cases hc; trivial
 | emp _ e' b h1=>cases hc; trivial
 | slc _ e' b o n c ds h1 h2 h3 h4 h5 h6=>cases hc; exact h3
 | zero _ e' _ h1 h2=>rw[hu] at h1; cases h1; omega
 | _=>simp_all [zT]
theorem cells5:Tryz.prog.cellsOf 5=1:=by kernel_rfl
theorem Q5 {M:RM} {cs:List AV} (h:Fits Tryz.prog M 5 cs) : ∃ k:UInt8,cs=[By k]:=by
 obtain⟨n,rfl,h1,h2⟩:=h.Q8 Tryz.underlying5
 have h1:(0:Int)≤n:=h1
 have h2:n≤(255:Int):=h2
 refine⟨UInt8.ofNat n.toNat, ?_⟩
 have:((UInt8.ofNat n.toNat).toNat:Int)=n:=by
  rw[UInt8.toNat_ofNat']
  omega
 rw[By,this]
theorem LQ {M:RM} {cs:List AV} (h:Fits Tryz.prog M 24 cs) : ∃ v,∃ bs:Str,cs=[v]∧Bs M v bs:=by
 obtain⟨v,n,ds,rfl,hs,hb,he⟩:=h.MW Tryz.underlying24 (by rw[cells5]; decide)
 have hc:=NY h Tryz.underlying24 (by rw[cells5]; decide)
 rw[cells5] at hs he
 obtain⟨xs,rfl,rfl,_⟩:=FO (size:=1) BY.cells (fun _=>True) (fun _=>rfl) n ds hs.length fun i hi=>by
  obtain⟨k,e⟩:=Q5 (he i hi)
  exact⟨k,trivial,e⟩
 exact⟨v,xs,rfl,hs,hc⟩
end Go.Ab.Hw
namespace Go.Proofs.YtmjcgbaacndblaaGreatDoor.httpwireReads
open Go Go.Ab Go.ChangeShapes Go.WideShapes Go.ChangeAt Go.RowKit
theorem own:ownKnob Tryz.prog.godebug=none:=by kernel_rfl
open Go.Ab.Hw
def Inv (w:World) : Prop:=Iv w
theorem inv_of (w:World) (h:laidMetH Tryz.prog Rows.httpwireReadsRow.laid w) (hsh:w.ShapedOpen Tryz.prog) : Inv w:=Go.Ab.Hw.inv_of w h hsh
theorem walk (w:World) (hi:Inv w) (v0:Value) (h0:pX Tryz.prog (RM.old (base w hi) w) 24 (yD w.heap.size v0)) :
  Calls Tryz.prog 4 #[v0] w fun e w'=>e=.returned (.bool true)∧Below w.heap.size w w':=by
 obtain⟨u0,b0,e0,g0⟩:=LQ (h0.one (by kernel_rfl))
 refine eZ.close (base:=base w hi) rfl hi ?_
 simp only[List.map_cons,List.map_nil]
 rw[show yD (base w hi).n v0=u0 from(List.cons.inj e0).1]
 exact Pw (hi:=hi) rfl g0 fun M'=>rfl
set_option maxRecDepth 100000 in
theorem lifted (os:Os) (started:os.Started) (H:Type) (enc:TypeId × Value→H) :
  ReturnsInHanded {} Tryz.checked os 4 .any (fun w args=>(Rows.httpwireReadsSpec.pre enc Tryz.prog Tryz.f4 Rows.httpwireReadsRow.domain false w args∧laidMetH Tryz.prog Rows.httpwireReadsRow.laid w)∧sizedMet enc Tryz.prog Tryz.f4 (OpenSpec.ofChange Rows.httpwireReadsSpec) false w args)
   (Rows.httpwireReadsSpec.post enc Tryz.prog Tryz.f4 false true false false):=by
 refine Bd (C:=Tryz.checked) (X:=fun w _=>laidMetH Tryz.prog Rows.httpwireReadsRow.laid w) (fun _ _ _ hh h=>h.of_heap hh) own started (by kernel_rfl) Tryz.func4
  (ChangeSpec.witness_shaped (enc:=enc) (C:=Tryz.checked) (os:=os) (X:=fun w _=>laidMetH Tryz.prog Rows.httpwireReadsRow.laid w) false (World.laidAll Tryz.prog os Rows.httpwireReadsRow.laid) #[.slice none 0 0] 8 (World.laidAll_os _ _ _)
   (World.shaped_of_ZipB (by kernel_rfl) (by kernel_rfl)) (by kernel_rfl) (by kernel_rfl) (by kernel_rfl)
   (by rw[MakeChecks.laidMetH_plain _ _ _ (by kernel_rfl)]; exact laidMet_laidAll _ (by kernel_rfl) (by kernel_rfl))) ?_
 intro W b0 args ds gs before hval hW hcnd hwt hL hsh _
 have hW':=hW
 obtain⟨p,q,hA,hV,rfl,hfz,hnd⟩:=hW
 rw[Tryz.params4] at hA hwt
 have hi:Inv W:=inv_of W hL hsh
 obtain⟨rfl,rfl⟩:=trodVars_none hV
 have hfit:=Ir (base:=base W hi) rfl hA (fun j t v hj hv=>hval j t v (by rw[Tryz.params4]; simpa using hj) (by simpa using hv)) (fun y hy=>by
  have WJ:(DataW.weightsEach Tryz.prog [24] (ds++[])).all (· ≤ reachBytes)=true:=hwt
  have:=List.all_eq_true.1 WJ y (by rw[List.append_nil]; exact hy)
  simpa using this)
 simp only[List.append_nil] at hW'
 have hlt:∀ x∈p,x.block<W.heap.size:=fun x hx=>hW'.lt x hx
 obtain⟨v0,d0,rfl,rfl,h0⟩:=trodAll_one hA
 refine(walk W hi v0 (hfit 0 _ _ rfl rfl)).mono fun e W' ⟨he,hg⟩=>?_
 subst he
 exact⟨_,rfl,Gj (pa:=p) (pv:=[]) hW' (fun _ _ _=>(trodAll_cons_mk (shut_bool Tryz.underlying4 _) trodAll_mk0)) (fun sp hsp=>by
   rw[Tryz.params4]
   exact yP (by kernel_rfl) hg (fun t ht=>by
    have ht:t=24:=by simpa using ht
    subst ht; exact⟨by kernel_rfl,of_decide_eq_true (by kernel_rfl)⟩) hA hlt hsp) (fun _ _=>rfl) (by simp)
  hg (ok_one (by kernel_rfl) rfl (okWide_bool_mk Tryz.underlying4 _))⟩
theorem over:Rows.HttpwireReadsSaid :=
 OpenClaim.holds_of_wide 4 Tryz.f4 rfl rfl rfl rfl rfl rfl rfl ⟨rfl,rfl,rfl,rfl,rfl⟩ rfl rfl rfl rfl rfl (by kernel_rfl) Tryz.func4 (by kernel_rfl)
  (of_decide_eq_true (by kernel_rfl)) (by unfold Func.isWrapper; first | (rw[if_pos (by decide +kernel)]; kernel_rfl) | (rw[if_neg (by decide +kernel)]; exact⟨rfl,rfl⟩))
  (fun os started H enc _=>lifted os started H enc)
theorem proved:Rows.HttpwireReadsCardSaid :=
 Claim7.holds_tied_plain_at .later [] [.data,.data,.data,.data,.sentinel,.sentinel,.pinned] true (true,"362dc9c824334cfe19c170802755e1a7d2dd71729a4e635eeb53d76f24be5b19") true
  over (fun _ h=>by cases h) (by kernel_rfl) (fun _ h=>by cases h) httpwireReads_row_tie rfl ⟨rfl,rfl⟩ (by kernel_rfl) rfl
  (fun f fn hf hfn=>by
   obtain rfl:f=4:=Option.some.inj ((show Tryz.prog.funcNamed "rolodex/rolodexlaw17.HttpwireReads" = some 4 by kernel_rfl).symm.trans hf) |>.symm
   obtain rfl:fn=Tryz.f4:=(Option.some.inj (Tryz.func4.symm.trans hfn)).symm
   exact⟨by kernel_rfl,fun j t ht=>by
    rw[Tryz.params4] at ht
    have hm:=Array.mem_of_getElem? ht
    have hm:t=24:=by simpa using hm
    subst hm
    ·exact(by kernel_rfl:Tryz.prog.wantsStandIn 24=false)⟩)
  (by kernel_rfl)
end Go.Proofs.YtmjcgbaacndblaaGreatDoor.httpwireReads
