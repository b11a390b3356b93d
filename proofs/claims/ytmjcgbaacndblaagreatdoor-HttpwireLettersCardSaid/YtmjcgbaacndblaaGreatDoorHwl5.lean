/- - 'HttpwireLetters' returns true, in whatever world it is called. By an AI agent. -/
import Derived.Test.YtmjcgbaacndblaaGreatDoorHwl4
import Derived.KernelRfl
import Derived.Test.YtmjcgbaacndblaaGreatDoorProg
import Derived.Lib.LaidTab
import Derived.Shelf.Vars
import Derived.Shelf.Strings.Split
import Derived.Shelf.Strings.SlTrimAscii
import Derived.Shelf.Strconv.Itoa3
import Derived.Shelf.Strconv.Atoi
import Derived.Lib.AtoiErrMem
import Derived.Shelf.Spec.TrailingZeros
import Derived.Shelf.Bytes.SlIndexWhole
import Derived.Test.YtmjcgbaacndblaaGreatDoorRows
import Derived.LaidMore
import Derived.Lay
import Derived.Test.YtmjcgbaacndblaaGreatDoorTie
import Derived.Test.YtmjcgbaacndblaaGreatDoorCards
import Derived.Carry
import Derived.WalkKit
import Derived.ProofKit
import Derived.OpenShut
import Derived.SevenTiedAt
import Derived.Stop.Joined
set_option maxRecDepth 100000
set_option linter.unusedVariables false
set_option linter.unusedSimpArgs false
namespace Go.Proofs.YtmjcgbaacndblaaGreatDoor
open Go Go.Ab
abbrev au := @dH Tryz.prog
theorem Rz:yA Tryz.prog:=⟨MZ (by kernel_rfl),by kernel_rfl⟩
theorem bi {f:FuncId} {fn:Func} {args:List AV} {M:RM} {Q:ah} {B:Prop} (h:B) (hfn:Tryz.prog.funcs[f]?=some fn:=by kernel_rfl) (e:B=CR Tryz.prog fn args M Q:=by kernel_rfl) : au f args M Q:=K4 Rz hfn (e▸h)
variable {a0 a1 a2 a3 a4 a5 a6 a7:AV} {M:RM} {Q:ah}
theorem ny (h:Go.Ab.Hw.kQ 26 (au 10) (au 12) 5 (au 11) a0 a1 M Q) : au 9 [a0,a1] M Q:=bi (fn:=Tryz.f9) h
theorem wD (h:Go.Ab.Hw.vV 56 26 (au 12) 5 (au 11) (au 22) (au 13) (au 14) 34 (au 23) 3 (au 19)  M Q) : au 10 [] M Q:=bi (fn:=Tryz.f10) h
theorem nQ (h:Go.Ab.Hw.iN 26 26 (au 25) (au 30) a0 M Q) : au 11 [a0] M Q:=bi (fn:=Tryz.f11) h
theorem nk (h:Go.Ab.Hw.ik 26 (au 31) (au 33) (au 32) a0 M Q) : au 12 [a0] M Q:=bi (fn:=Tryz.f12) h
theorem mZ (h:Go.Ab.Hw.gX 34 (au 34) (au 33) (au 32) a0 M Q) : au 13 [a0] M Q:=bi (fn:=Tryz.f13) h
theorem nu (h:Go.Ab.Hw.il 34 35 (au 25) (au 30) a0 M Q) : au 14 [a0] M Q:=bi (fn:=Tryz.f14) h
theorem qQ (h:Go.Ab.Hw.jV 26 (au 31) (au 47) 3 5 (au 49) 24 (au 48) (au 32) a0 a1 M Q) : au 19 [a0,a1] M Q:=bi (fn:=Tryz.f19) h
theorem nH (h:Go.Ab.Hw.iI 26 (au 55) a0 a1 M Q) : au 22 [a0,a1] M Q:=bi (fn:=Tryz.f22) h
theorem ni (h:Go.Ab.Hw.ig 34 (au 55) a0 a1 M Q) : au 23 [a0,a1] M Q:=bi (fn:=Tryz.f23) h
theorem tZ (h:Go.Ab.Hw.mH (au 56) (au) (au 57) 56 a0 a1 M Q) : au 25 [a0,a1] M Q:=bi (fn:=Tryz.f25) h
theorem mr (h:Go.Ab.Hw.gU (au 27) (au 28) (au 29) a0 a1 M Q) : au 26 [a0,a1] M Q:=bi (fn:=Tryz.f26) h
theorem oD (h:Go.Ab.Hw.ja (au 59) (au 37) 60 a0 M Q) : au 28 [a0] M Q:=bi (fn:=Tryz.f28) h
theorem pF (h:Go.Ab.Hw.jN (au 61) (au 37) 62 a0 M Q) : au 29 [a0] M Q:=bi (fn:=Tryz.f29) h
theorem uw (h:Go.Ab.Hw.mY (au 63) (au 64) (au 65) (au 59) (au 37) 38 (au 40) (au 66) a0 a1 a2 M Q) : au 30 [a0,a1,a2] M Q:=bi (fn:=Tryz.f30) h
theorem nX (h:Go.Ab.Hw.iP 26 (au 28) (au 29) a0 M Q) : au 31 [a0] M Q:=bi (fn:=Tryz.f31) h
theorem qI (h:Go.Ab.Hw.j3 56 (au 67) (au 68) (au 64) 5 a0 a1 a2 a3 a4 M Q) : au 32 [a0,a1,a2,a3,a4] M Q:=bi (fn:=Tryz.f32) h
theorem qC (h:Go.Ab.Hw.j5 56 (au 34) a0 M Q) : au 33 [a0] M Q:=bi (fn:=Tryz.f33) h
theorem mo (h:Go.Ab.Hw.gJ (au 36) (au 37) 38 39 (au 40) a0 a1 M Q) : au 35 [a0,a1] M Q:=bi (fn:=Tryz.f35) h
theorem pu (h:Go.Ab.Vl.jK (au 70) a0 a1 M Q) : au 36 [a0,a1] M Q:=bi (fn:=Tryz.f36) h
theorem dz (h:Go.Ab.Hw.nK 5 (au) a0 a1 M Q) : au 37 [a0,a1] M Q:=bi (fn:=Tryz.f37) h
theorem tQ (h:Go.Ab.Hw.lY a0 M Q) : au 38 [a0] M Q:=bi (fn:=Tryz.f38) h
theorem lc (h:Go.Ab.Hw.fT a0 M Q) : au 39 [a0] M Q:=bi (fn:=Tryz.f39) h
theorem yZ (h:Go.Ab.Hw.tJ 3 a0 M Q) : au 47 [a0] M Q:=bi (fn:=Tryz.f47) h
theorem wG (h:Go.Ab.Hw.oN 9 (au 75) 5 a0 M Q) : au 48 [a0] M Q:=bi (fn:=Tryz.f48) h
theorem pW (h:Go.Ab.Hw.nD (au 76) a0 a1 M Q) : au 49 [a0,a1] M Q:=bi (fn:=Tryz.f49) h
theorem sQ (h:Go.Ab.Hw.lJ (au 63) a0 a1 M Q) : au 55 [a0,a1] M Q:=bi (fn:=Tryz.f55) h
theorem uh (h:Go.Ab.Hw.mE 5 (au 78) a0 a1 M Q) : au 56 [a0,a1] M Q:=bi (fn:=Tryz.f56) h
theorem rM (h:Go.Ab.Hw.kY 56 (au 79) (au 80) (au 67) (au 68) a0 M Q) : au 57 [a0] M Q:=bi (fn:=Tryz.f57) h
theorem rJ (h:Go.Ab.Hw.kT a0 a1 a2 M Q) : au 59 [a0,a1,a2] M Q:=bi (fn:=Tryz.f59) h
theorem tq (h:Go.Ab.Hw.lW a0 M Q) : au 60 [a0] M Q:=bi (fn:=Tryz.f60) h
theorem oZ (h:Go.Ab.Vl.nz (au 84) a0 a1 M Q) : au 61 [a0,a1] M Q:=bi (fn:=Tryz.f61) h
theorem qY (h:Go.Ab.Hw.kg a0 M Q) : au 62 [a0] M Q:=bi (fn:=Tryz.f62) h
theorem tH (h:Go.Ab.Hw.lS 56 (au 64) 9 a0 a1 M Q) : au 63 [a0,a1] M Q:=bi (fn:=Tryz.f63) h
theorem sV (h:Go.Ab.Hw.lN 5 a0 M Q) : au 64 [a0] M Q:=bi (fn:=Tryz.f64) h
theorem qE (h:Go.Ab.Hw.jT (au 85) 5 a0 a1 M Q) : au 65 [a0,a1] M Q:=bi (fn:=Tryz.f65) h
theorem xU (h:Go.Ab.Dot.qN 5 a0 M Q) : au 66 [a0] M Q:=bi (fn:=Tryz.f66) h
theorem qa (h:Go.Ab.Hw.jL (au 59) (au 64) (au 37) 86 a0 M Q) : au 67 [a0] M Q:=bi (fn:=Tryz.f67) h
theorem oQ (h:Go.Ab.Hw.jw (au 80) (au 37) 87 a0 M Q) : au 68 [a0] M Q:=bi (fn:=Tryz.f68) h
theorem jI (h:Go.Ab.Vl.eu (au 84) a0 a1 M Q) : au 70 [a0,a1] M Q:=bi (fn:=Tryz.f70) h
theorem yY (h:Go.Ab.Hw.tC 9 5 a0 a1 M Q) : au 75 [a0,a1] M Q:=bi (fn:=Tryz.f75) h
theorem kW (h:Go.Ab.Hw.fF (au 93) 125 (au 94) (au 95) (au 96) a0 a1 M Q) : au 76 [a0,a1] M Q:=bi (fn:=Tryz.f76) h
theorem wF (h:Go.Ab.Vl.oO (au 102) a0 a1 M Q) : au 79 [a0,a1] M Q:=bi (fn:=Tryz.f79) h
theorem u7 (h:Go.Ab.Vl.uk (au 104) (au 103) (au 105) 135 (au 107) (au 106) (au 109) (au 108) a0 a1 M Q) : au 80 [a0,a1] M Q:=bi (fn:=Tryz.f80) h
theorem jO (h:Go.Ab.Vl.dW a0 a1 M Q) : au 84 [a0,a1] M Q:=bi (fn:=Tryz.f84) h
theorem uj (h:Go.Ab.Hw.mJ 5 (au 114) (au 59) (au 64) (au 37) 115 (au 116) a0 a1 M Q) : au 85 [a0,a1] M Q:=bi (fn:=Tryz.f85) h
theorem oz (h:Go.Ab.Hw.jb (au 38) a0 M Q) : au 86 [a0] M Q:=bi (fn:=Tryz.f86) h
theorem nO (h:Go.Ab.Hw.iL a0 M Q) : au 87 [a0] M Q:=bi (fn:=Tryz.f87) h
theorem kK (h:Go.Ab.Hw.fo 9 154 (au 123) (au 124) 5 a0 a1 a2 a3 a4 M Q) : au 96 [a0,a1,a2,a3,a4] M Q:=bi (fn:=Tryz.f96) h
theorem lM (h:Go.Ab.Vl.gB (au 113) a0 a1 M Q) : au 102 [a0,a1] M Q:=bi (fn:=Tryz.f102) h
theorem kS (h:Go.Ab.Hw.bM (au 131) 0 (Ez Tryz.prog 132) (au 100) (au 133) a0 a1 M Q) : au 113 [a0,a1] M Q:=bi (fn:=Tryz.f113) h
theorem zB (h:Go.Ab.Hw.tN (au 78) a0 a1 M Q) : au 114 [a0,a1] M Q:=bi (fn:=Tryz.f114) h
theorem rO (h:Go.Ab.Hw.kX (au 38) a0 M Q) : au 115 [a0] M Q:=bi (fn:=Tryz.f115) h
theorem pG (h:Go.Ab.Hw.jJ (au 117) (au 72) a0 a1 a2 M Q) : au 116 [a0,a1,a2] M Q:=bi (fn:=Tryz.f116) h
theorem kZ (h:Go.Ab.Hw.fD 119 (au 134) 5 (au 135) a0 a1 a2 M Q) : au 117 [a0,a1,a2] M Q:=bi (fn:=Tryz.f117) h
theorem jR (h:Go.Ab.Hw.eP a0 M Q) : au 123 [a0] M Q:=bi (fn:=Tryz.f123) h
theorem jM (h:Go.Ab.Vl.gV (Ez Tryz.prog 140) a0 a1 M Q) : au 131 [a0,a1] M Q:=bi (fn:=Tryz.f131) h
theorem mM (h:Go.Ab.Hw.gW a0 M Q) : au 134 [a0] M Q:=bi (fn:=Tryz.f134) h
end Go.Proofs.YtmjcgbaacndblaaGreatDoor
namespace Go.Proofs
open Go.RowKit Go.Shelf
def Tryz.lays185_ren:Go.Shelf.Ren:=⟨fun | 185=>78 | 187=>97 | 115=>98 | 253=>99 | 224=>100 | 254=>101 | 255=>125 | 291=>126 | n=>n,fun | 37=>24 | 3=>3 | 4=>4 | 0=>0 | 5=>5 | 46=>60 | 9=>9 | 146=>157 | 51=>153 | n=>n,fun | 1=>0 | n=>n⟩
theorem Tryz.lays185:Go.Proofs.Lays.n185 Tryz.prog Tryz.lays185_ren where
 mixed:=by kernel_rfl
 f115:=Tryz.func98.trans (congrArg some (by kernel_rfl))
 f185:=Tryz.func78.trans (congrArg some (by kernel_rfl))
 f187:=Tryz.func97.trans (congrArg some (by kernel_rfl))
 f224:=Tryz.func100.trans (congrArg some (by kernel_rfl))
 f253:=Tryz.func99.trans (congrArg some (by kernel_rfl))
 f254:=Tryz.func101.trans (congrArg some (by kernel_rfl))
 f255:=Tryz.func125.trans (congrArg some (by kernel_rfl))
 f291:=Tryz.func126.trans (congrArg some (by kernel_rfl))
 t0:=Tryz.underlying0
 a0:=Tryz.isAgg0
 z0:=Tryz.sizeOf0
 v0:=Tryz.zeroValue0
 t3:=Tryz.underlying3
 a3:=Tryz.isAgg3
 z3:=Tryz.sizeOf3
 v3:=Tryz.zeroValue3
 t4:=Tryz.underlying4
 a4:=Tryz.isAgg4
 z4:=Tryz.sizeOf4
 v4:=Tryz.zeroValue4
 t5:=Tryz.underlying5
 a5:=Tryz.isAgg5
 z5:=Tryz.sizeOf5
 v5:=Tryz.zeroValue5
 t9:=Tryz.underlying9
 a9:=Tryz.isAgg9
 z9:=Tryz.sizeOf9
 v9:=Tryz.zeroValue9
 t37:=Tryz.underlying24
 a37:=Tryz.isAgg24
 z37:=Tryz.sizeOf24
 v37:=Tryz.zeroValue24
 t46:=Tryz.underlying60
 a46:=Tryz.isAgg60
 z46:=Tryz.sizeOf60
 v46:=Tryz.zeroValue60
 t51:=Tryz.underlying153
 a51:=Tryz.isAgg153
 z51:=Tryz.sizeOf153
 v51:=Tryz.zeroValue153
 t146:=Tryz.underlying157
 a146:=Tryz.isAgg157
 z146:=Tryz.sizeOf157
 v146:=Tryz.zeroValue157
 g1:=by kernel_rfl
def Tryz.lays146_ren:Go.Shelf.Ren:=⟨fun | 146=>27 | 221=>58 | 268=>81 | 138=>82 | 143=>83 | 195=>110 | 197=>111 | 218=>112 | 219=>113 | 260=>130 | 217=>131 | 225=>132 | 224=>100 | 267=>133 | 266=>140 | 314=>141 | n=>n,fun | 9=>9 | 31=>64 | 3=>3 | 4=>4 | 0=>0 | 105=>141 | 21=>21 | 5=>5 | 46=>60 | 119=>167 | 139=>170 | 138=>169 | 146=>157 | 51=>153 | n=>n,fun | 1=>0 | 3=>4 | 4=>5 | n=>n⟩
theorem Tryz.lays146:Go.Proofs.Lays.n146 Tryz.prog Tryz.lays146_ren where
 mixed:=by kernel_rfl
 f138:=Tryz.func82.trans (congrArg some (by kernel_rfl))
 f143:=Tryz.func83.trans (congrArg some (by kernel_rfl))
 f146:=Tryz.func27.trans (congrArg some (by kernel_rfl))
 f195:=Tryz.func110.trans (congrArg some (by kernel_rfl))
 f197:=Tryz.func111.trans (congrArg some (by kernel_rfl))
 f217:=Tryz.func131.trans (congrArg some (by kernel_rfl))
 f218:=Tryz.func112.trans (congrArg some (by kernel_rfl))
 f219:=Tryz.func113.trans (congrArg some (by kernel_rfl))
 f221:=Tryz.func58.trans (congrArg some (by kernel_rfl))
 f224:=Tryz.func100.trans (congrArg some (by kernel_rfl))
 f225:=Tryz.func132.trans (congrArg some (by kernel_rfl))
 f260:=Tryz.func130.trans (congrArg some (by kernel_rfl))
 f266:=Tryz.func140.trans (congrArg some (by kernel_rfl))
 f267:=Tryz.func133.trans (congrArg some (by kernel_rfl))
 f268:=Tryz.func81.trans (congrArg some (by kernel_rfl))
 f314:=Tryz.func141.trans (congrArg some (by kernel_rfl))
 t0:=Tryz.underlying0
 a0:=Tryz.isAgg0
 z0:=Tryz.sizeOf0
 v0:=Tryz.zeroValue0
 t3:=Tryz.underlying3
 a3:=Tryz.isAgg3
 z3:=Tryz.sizeOf3
 v3:=Tryz.zeroValue3
 t4:=Tryz.underlying4
 a4:=Tryz.isAgg4
 z4:=Tryz.sizeOf4
 v4:=Tryz.zeroValue4
 t5:=Tryz.underlying5
 a5:=Tryz.isAgg5
 z5:=Tryz.sizeOf5
 v5:=Tryz.zeroValue5
 t9:=Tryz.underlying9
 a9:=Tryz.isAgg9
 z9:=Tryz.sizeOf9
 v9:=Tryz.zeroValue9
 t21:=Tryz.underlying21
 a21:=Tryz.isAgg21
 z21:=Tryz.sizeOf21
 v21:=Tryz.zeroValue21
 t31:=Tryz.underlying64
 a31:=Tryz.isAgg64
 z31:=Tryz.sizeOf64
 v31:=Tryz.zeroValue64
 t46:=Tryz.underlying60
 a46:=Tryz.isAgg60
 z46:=Tryz.sizeOf60
 v46:=Tryz.zeroValue60
 t51:=Tryz.underlying153
 a51:=Tryz.isAgg153
 z51:=Tryz.sizeOf153
 v51:=Tryz.zeroValue153
 t105:=Tryz.underlying141
 a105:=Tryz.isAgg141
 z105:=Tryz.sizeOf141
 v105:=Tryz.zeroValue141
 t119:=Tryz.underlying167
 a119:=Tryz.isAgg167
 z119:=Tryz.sizeOf167
 t138:=Tryz.underlying169
 a138:=Tryz.isAgg169
 z138:=Tryz.sizeOf169
 v138:=Tryz.zeroValue169
 t139:=Tryz.underlying170
 a139:=Tryz.isAgg170
 z139:=Tryz.sizeOf170
 v139:=Tryz.zeroValue170
 t146:=Tryz.underlying157
 a146:=Tryz.isAgg157
 z146:=Tryz.sizeOf157
 v146:=Tryz.zeroValue157
 g1:=by kernel_rfl
 g3:=by kernel_rfl
 g4:=by kernel_rfl
def Tryz.lays160_ren:Go.Shelf.Ren:=⟨fun | 160=>80 | 232=>104 | 231=>103 | 227=>105 | 234=>107 | 233=>106 | 236=>109 | 235=>108 | 228=>127 | 271=>129 | 151=>128 | 197=>111 | 120=>139 | 152=>138 | 260=>130 | 137=>142 | 119=>143 | 224=>100 | 225=>132 | 217=>131 | 266=>140 | n=>n,fun | 9=>9 | 4=>4 | 3=>3 | 5=>5 | 117=>136 | 116=>135 | 0=>0 | 124=>139 | 21=>21 | 105=>141 | 46=>60 | 119=>167 | 139=>170 | 138=>169 | n=>n,fun | 3=>4 | 4=>5 | n=>n⟩
theorem Tryz.lays160:Go.Proofs.Lays.n160 Tryz.prog Tryz.lays160_ren where
 mixed:=by kernel_rfl
 f119:=Tryz.func143.trans (congrArg some (by kernel_rfl))
 f120:=Tryz.func139.trans (congrArg some (by kernel_rfl))
 f137:=Tryz.func142.trans (congrArg some (by kernel_rfl))
 f151:=Tryz.func128.trans (congrArg some (by kernel_rfl))
 f152:=Tryz.func138.trans (congrArg some (by kernel_rfl))
 f160:=Tryz.func80.trans (congrArg some (by kernel_rfl))
 f197:=Tryz.func111.trans (congrArg some (by kernel_rfl))
 f217:=Tryz.func131.trans (congrArg some (by kernel_rfl))
 f224:=Tryz.func100.trans (congrArg some (by kernel_rfl))
 f225:=Tryz.func132.trans (congrArg some (by kernel_rfl))
 f227:=Tryz.func105.trans (congrArg some (by kernel_rfl))
 f228:=Tryz.func127.trans (congrArg some (by kernel_rfl))
 f231:=Tryz.func103.trans (congrArg some (by kernel_rfl))
 f232:=Tryz.func104.trans (congrArg some (by kernel_rfl))
 f233:=Tryz.func106.trans (congrArg some (by kernel_rfl))
 f234:=Tryz.func107.trans (congrArg some (by kernel_rfl))
 f235:=Tryz.func108.trans (congrArg some (by kernel_rfl))
 f236:=Tryz.func109.trans (congrArg some (by kernel_rfl))
 f260:=Tryz.func130.trans (congrArg some (by kernel_rfl))
 f266:=Tryz.func140.trans (congrArg some (by kernel_rfl))
 f271:=Tryz.func129.trans (congrArg some (by kernel_rfl))
 t0:=Tryz.underlying0
 a0:=Tryz.isAgg0
 z0:=Tryz.sizeOf0
 v0:=Tryz.zeroValue0
 t3:=Tryz.underlying3
 a3:=Tryz.isAgg3
 z3:=Tryz.sizeOf3
 v3:=Tryz.zeroValue3
 t4:=Tryz.underlying4
 a4:=Tryz.isAgg4
 z4:=Tryz.sizeOf4
 v4:=Tryz.zeroValue4
 t5:=Tryz.underlying5
 a5:=Tryz.isAgg5
 z5:=Tryz.sizeOf5
 v5:=Tryz.zeroValue5
 t9:=Tryz.underlying9
 a9:=Tryz.isAgg9
 z9:=Tryz.sizeOf9
 v9:=Tryz.zeroValue9
 t21:=Tryz.underlying21
 a21:=Tryz.isAgg21
 z21:=Tryz.sizeOf21
 v21:=Tryz.zeroValue21
 t46:=Tryz.underlying60
 a46:=Tryz.isAgg60
 z46:=Tryz.sizeOf60
 v46:=Tryz.zeroValue60
 t105:=Tryz.underlying141
 a105:=Tryz.isAgg141
 z105:=Tryz.sizeOf141
 v105:=Tryz.zeroValue141
 t116:=Tryz.underlying135
 a116:=Tryz.isAgg135
 z116:=Tryz.sizeOf135
 t117:=Tryz.underlying136
 a117:=Tryz.isAgg136
 z117:=Tryz.sizeOf136
 v117:=Tryz.zeroValue136
 t119:=Tryz.underlying167
 a119:=Tryz.isAgg167
 z119:=Tryz.sizeOf167
 t124:=Tryz.underlying139
 a124:=Tryz.isAgg139
 z124:=Tryz.sizeOf139
 v124:=Tryz.zeroValue139
 t138:=Tryz.underlying169
 a138:=Tryz.isAgg169
 z138:=Tryz.sizeOf169
 v138:=Tryz.zeroValue169
 t139:=Tryz.underlying170
 a139:=Tryz.isAgg170
 z139:=Tryz.sizeOf170
 v139:=Tryz.zeroValue170
 g3:=by kernel_rfl
 g4:=by kernel_rfl
def Tryz.lays172_ren:Go.Shelf.Ren:=⟨fun | 172=>40 | 244=>71 | 245=>72 | 247=>88 | 279=>89 | 280=>90 | 281=>91 | 282=>92 | 287=>117 | 316=>118 | 171=>34 | 205=>119 | 321=>134 | 322=>135 | 243=>69 | 246=>76 | 283=>93 | 284=>94 | 285=>95 | 286=>96 | 129=>121 | 317=>120 | 318=>122 | 319=>123 | 320=>124 | 337=>136 | 338=>137 | n=>n,fun | 9=>9 | 3=>3 | 75=>77 | 76=>78 | 4=>4 | 5=>5 | 167=>119 | 37=>24 | 0=>0 | 85=>120 | 2=>2 | 168=>122 | 53=>126 | 175=>146 | 46=>60 | 210=>149 | 127=>161 | 145=>164 | 143=>162 | 21=>21 | 171=>125 | 173=>129 | 212=>152 | 51=>153 | 20=>20 | 213=>154 | 232=>172 | 233=>173 | 80=>175 | n=>n,fun | 15=>1 | 16=>2 | 17=>3 | 18=>6 | 19=>7 | n=>n⟩
theorem Tryz.lays172:Go.Proofs.Lays.n172 Tryz.prog Tryz.lays172_ren where
 mixed:=by kernel_rfl
 f129:=Tryz.func121.trans (congrArg some (by kernel_rfl))
 f171:=Tryz.func34.trans (congrArg some (by kernel_rfl))
 f172:=Tryz.func40.trans (congrArg some (by kernel_rfl))
 f205:=Tryz.func119.trans (congrArg some (by kernel_rfl))
 f243:=Tryz.func69.trans (congrArg some (by kernel_rfl))
 f244:=Tryz.func71.trans (congrArg some (by kernel_rfl))
 f245:=Tryz.func72.trans (congrArg some (by kernel_rfl))
 f246:=Tryz.func76.trans (congrArg some (by kernel_rfl))
 f247:=Tryz.func88.trans (congrArg some (by kernel_rfl))
 f279:=Tryz.func89.trans (congrArg some (by kernel_rfl))
 f280:=Tryz.func90.trans (congrArg some (by kernel_rfl))
 f281:=Tryz.func91.trans (congrArg some (by kernel_rfl))
 f282:=Tryz.func92.trans (congrArg some (by kernel_rfl))
 f283:=Tryz.func93.trans (congrArg some (by kernel_rfl))
 f284:=Tryz.func94.trans (congrArg some (by kernel_rfl))
 f285:=Tryz.func95.trans (congrArg some (by kernel_rfl))
 f286:=Tryz.func96.trans (congrArg some (by kernel_rfl))
 f287:=Tryz.func117.trans (congrArg some (by kernel_rfl))
 f316:=Tryz.func118.trans (congrArg some (by kernel_rfl))
 f317:=Tryz.func120.trans (congrArg some (by kernel_rfl))
 f318:=Tryz.func122.trans (congrArg some (by kernel_rfl))
 f319:=Tryz.func123.trans (congrArg some (by kernel_rfl))
 f320:=Tryz.func124.trans (congrArg some (by kernel_rfl))
 f321:=Tryz.func134.trans (congrArg some (by kernel_rfl))
 f322:=Tryz.func135.trans (congrArg some (by kernel_rfl))
 f337:=Tryz.func136.trans (congrArg some (by kernel_rfl))
 f338:=Tryz.func137.trans (congrArg some (by kernel_rfl))
 t0:=Tryz.underlying0
 a0:=Tryz.isAgg0
 z0:=Tryz.sizeOf0
 v0:=Tryz.zeroValue0
 t2:=Tryz.underlying2
 a2:=Tryz.isAgg2
 z2:=Tryz.sizeOf2
 v2:=Tryz.zeroValue2
 t3:=Tryz.underlying3
 a3:=Tryz.isAgg3
 z3:=Tryz.sizeOf3
 v3:=Tryz.zeroValue3
 t4:=Tryz.underlying4
 a4:=Tryz.isAgg4
 z4:=Tryz.sizeOf4
 v4:=Tryz.zeroValue4
 t5:=Tryz.underlying5
 a5:=Tryz.isAgg5
 z5:=Tryz.sizeOf5
 v5:=Tryz.zeroValue5
 t9:=Tryz.underlying9
 a9:=Tryz.isAgg9
 z9:=Tryz.sizeOf9
 v9:=Tryz.zeroValue9
 t20:=Tryz.underlying20
 a20:=Tryz.isAgg20
 z20:=Tryz.sizeOf20
 v20:=Tryz.zeroValue20
 t21:=Tryz.underlying21
 a21:=Tryz.isAgg21
 z21:=Tryz.sizeOf21
 v21:=Tryz.zeroValue21
 t37:=Tryz.underlying24
 a37:=Tryz.isAgg24
 z37:=Tryz.sizeOf24
 v37:=Tryz.zeroValue24
 t46:=Tryz.underlying60
 a46:=Tryz.isAgg60
 z46:=Tryz.sizeOf60
 v46:=Tryz.zeroValue60
 t51:=Tryz.underlying153
 a51:=Tryz.isAgg153
 z51:=Tryz.sizeOf153
 v51:=Tryz.zeroValue153
 t53:=Tryz.underlying126
 a53:=Tryz.isAgg126
 z53:=Tryz.sizeOf126
 v53:=Tryz.zeroValue126
 t75:=Tryz.underlying77
 a75:=Tryz.isAgg77
 z75:=Tryz.sizeOf77
 v75:=Tryz.zeroValue77
 t76:=Tryz.underlying78
 a76:=Tryz.isAgg78
 z76:=Tryz.sizeOf78
 v76:=Tryz.zeroValue78
 t85:=Tryz.underlying120
 a85:=Tryz.isAgg120
 z85:=Tryz.sizeOf120
 v85:=Tryz.zeroValue120
 t127:=Tryz.underlying161
 a127:=Tryz.isAgg161
 z127:=Tryz.sizeOf161
 v127:=Tryz.zeroValue161
 t143:=Tryz.underlying162
 a143:=Tryz.isAgg162
 z143:=Tryz.sizeOf162
 v143:=Tryz.zeroValue162
 t145:=Tryz.underlying164
 a145:=Tryz.isAgg164
 z145:=Tryz.sizeOf164
 v145:=Tryz.zeroValue164
 t167:=Tryz.underlying119
 a167:=Tryz.isAgg119
 z167:=Tryz.sizeOf119
 v167:=Tryz.zeroValue119
 t168:=Tryz.underlying122
 a168:=Tryz.isAgg122
 z168:=Tryz.sizeOf122
 v168:=Tryz.zeroValue122
 t171:=Tryz.underlying125
 a171:=Tryz.isAgg125
 z171:=Tryz.sizeOf125
 v171:=Tryz.zeroValue125
 t173:=Tryz.underlying129
 a173:=Tryz.isAgg129
 z173:=Tryz.sizeOf129
 v173:=Tryz.zeroValue129
 t175:=Tryz.underlying146
 a175:=Tryz.isAgg146
 z175:=Tryz.sizeOf146
 v175:=Tryz.zeroValue146
 t210:=Tryz.underlying149
 a210:=Tryz.isAgg149
 z210:=Tryz.sizeOf149
 v210:=Tryz.zeroValue149
 t212:=Tryz.underlying152
 a212:=Tryz.isAgg152
 z212:=Tryz.sizeOf152
 v212:=Tryz.zeroValue152
 t213:=Tryz.underlying154
 a213:=Tryz.isAgg154
 z213:=Tryz.sizeOf154
 t232:=Tryz.underlying172
 a232:=Tryz.isAgg172
 z232:=Tryz.sizeOf172
 v232:=Tryz.zeroValue172
 t233:=Tryz.underlying173
 a233:=Tryz.isAgg173
 z233:=Tryz.sizeOf173
 v233:=Tryz.zeroValue173
 g15:=by kernel_rfl
 g16:=by kernel_rfl
 g17:=by kernel_rfl
 g18:=by kernel_rfl
 g19:=by kernel_rfl
def Tryz.laysM171_ren:Go.Shelf.Ren:=⟨fun | 171=>34 | 243=>69 | 246=>76 | 283=>93 | 284=>94 | 285=>95 | 286=>96 | 129=>121 | 317=>120 | 318=>122 | 319=>123 | 320=>124 | 337=>136 | 338=>137 | n=>n,fun | 3=>3 | 9=>9 | 2=>2 | 4=>4 | 171=>125 | 0=>0 | 53=>126 | 37=>24 | 5=>5 | 173=>129 | 212=>152 | 51=>153 | 20=>20 | 213=>154 | 46=>60 | 232=>172 | 233=>173 | n=>n,fun | 17=>3 | 18=>6 | 19=>7 | n=>n⟩
theorem Tryz.laysM171:Go.Proofs.LaysM.n171 Tryz.prog Tryz.laysM171_ren where
 mixed:=by kernel_rfl
 f129:=Tryz.func121.trans (congrArg some (by kernel_rfl))
 f171:=Tryz.func34.trans (congrArg some (by kernel_rfl))
 f243:=Tryz.func69.trans (congrArg some (by kernel_rfl))
 f246:=Tryz.func76.trans (congrArg some (by kernel_rfl))
 f283:=Tryz.func93.trans (congrArg some (by kernel_rfl))
 f284:=Tryz.func94.trans (congrArg some (by kernel_rfl))
 f285:=Tryz.func95.trans (congrArg some (by kernel_rfl))
 f286:=Tryz.func96.trans (congrArg some (by kernel_rfl))
 f317:=Tryz.func120.trans (congrArg some (by kernel_rfl))
 f318:=Tryz.func122.trans (congrArg some (by kernel_rfl))
 f319:=Tryz.func123.trans (congrArg some (by kernel_rfl))
 f320:=Tryz.func124.trans (congrArg some (by kernel_rfl))
 f337:=Tryz.func136.trans (congrArg some (by kernel_rfl))
 f338:=Tryz.func137.trans (congrArg some (by kernel_rfl))
 t0:=Tryz.underlying0
 a0:=Tryz.isAgg0
 z0:=Tryz.sizeOf0
 v0:=Tryz.zeroValue0
 t2:=Tryz.underlying2
 a2:=Tryz.isAgg2
 z2:=Tryz.sizeOf2
 v2:=Tryz.zeroValue2
 t3:=Tryz.underlying3
 a3:=Tryz.isAgg3
 z3:=Tryz.sizeOf3
 v3:=Tryz.zeroValue3
 t4:=Tryz.underlying4
 a4:=Tryz.isAgg4
 z4:=Tryz.sizeOf4
 v4:=Tryz.zeroValue4
 t5:=Tryz.underlying5
 a5:=Tryz.isAgg5
 z5:=Tryz.sizeOf5
 v5:=Tryz.zeroValue5
 t9:=Tryz.underlying9
 a9:=Tryz.isAgg9
 z9:=Tryz.sizeOf9
 v9:=Tryz.zeroValue9
 t20:=Tryz.underlying20
 a20:=Tryz.isAgg20
 z20:=Tryz.sizeOf20
 v20:=Tryz.zeroValue20
 t37:=Tryz.underlying24
 a37:=Tryz.isAgg24
 z37:=Tryz.sizeOf24
 v37:=Tryz.zeroValue24
 t46:=Tryz.underlying60
 a46:=Tryz.isAgg60
 z46:=Tryz.sizeOf60
 v46:=Tryz.zeroValue60
 t51:=Tryz.underlying153
 a51:=Tryz.isAgg153
 z51:=Tryz.sizeOf153
 v51:=Tryz.zeroValue153
 t53:=Tryz.underlying126
 a53:=Tryz.isAgg126
 z53:=Tryz.sizeOf126
 v53:=Tryz.zeroValue126
 t171:=Tryz.underlying125
 a171:=Tryz.isAgg125
 z171:=Tryz.sizeOf125
 v171:=Tryz.zeroValue125
 t173:=Tryz.underlying129
 a173:=Tryz.isAgg129
 z173:=Tryz.sizeOf129
 v173:=Tryz.zeroValue129
 t212:=Tryz.underlying152
 a212:=Tryz.isAgg152
 z212:=Tryz.sizeOf152
 v212:=Tryz.zeroValue152
 t213:=Tryz.underlying154
 a213:=Tryz.isAgg154
 z213:=Tryz.sizeOf154
 t232:=Tryz.underlying172
 a232:=Tryz.isAgg172
 z232:=Tryz.sizeOf172
 v232:=Tryz.zeroValue172
 t233:=Tryz.underlying173
 a233:=Tryz.isAgg173
 z233:=Tryz.sizeOf173
 v233:=Tryz.zeroValue173
 g17:=by kernel_rfl
 g18:=by kernel_rfl
 g19:=by kernel_rfl
 i0:=by kernel_rfl
 i2:=by kernel_rfl
 i3:=by kernel_rfl
 i4:=by kernel_rfl
 i5:=by kernel_rfl
 i9:=by kernel_rfl
 i20:=by kernel_rfl
 i37:=by kernel_rfl
 i46:=by kernel_rfl
 i51:=by kernel_rfl
 i53:=by kernel_rfl
 i171:=by kernel_rfl
 i173:=by kernel_rfl
 i212:=by kernel_rfl
 i232:=by kernel_rfl
 i233:=by kernel_rfl
 m17:=by kernel_rfl
 m18:=by kernel_rfl
 m19:=by kernel_rfl
def Tryz.lays727_ren:Go.Shelf.Ren:=⟨fun | 27=>124 | 28=>136 | 29=>137 | n=>n,fun | 25=>60 | 3=>3 | 27=>153 | 22=>126 | 4=>4 | 53=>172 | 0=>0 | 5=>5 | 54=>173 | n=>n,fun | 0=>6 | 1=>7 | n=>n⟩
theorem Tryz.lays727:Go.Proofs.Lays7.n27 Tryz.prog Tryz.lays727_ren where
 mixed:=by kernel_rfl
 f27:=Tryz.func124.trans (congrArg some (by kernel_rfl))
 f28:=Tryz.func136.trans (congrArg some (by kernel_rfl))
 f29:=Tryz.func137.trans (congrArg some (by kernel_rfl))
 t0:=Tryz.underlying0
 a0:=Tryz.isAgg0
 z0:=Tryz.sizeOf0
 v0:=Tryz.zeroValue0
 i0:=by kernel_rfl
 t3:=Tryz.underlying3
 a3:=Tryz.isAgg3
 z3:=Tryz.sizeOf3
 v3:=Tryz.zeroValue3
 i3:=by kernel_rfl
 t4:=Tryz.underlying4
 a4:=Tryz.isAgg4
 z4:=Tryz.sizeOf4
 v4:=Tryz.zeroValue4
 i4:=by kernel_rfl
 t5:=Tryz.underlying5
 a5:=Tryz.isAgg5
 z5:=Tryz.sizeOf5
 v5:=Tryz.zeroValue5
 i5:=by kernel_rfl
 t22:=Tryz.underlying126
 a22:=Tryz.isAgg126
 z22:=Tryz.sizeOf126
 v22:=Tryz.zeroValue126
 i22:=by kernel_rfl
 t25:=Tryz.underlying60
 a25:=Tryz.isAgg60
 z25:=Tryz.sizeOf60
 v25:=Tryz.zeroValue60
 i25:=by kernel_rfl
 t27:=Tryz.underlying153
 a27:=Tryz.isAgg153
 z27:=Tryz.sizeOf153
 v27:=Tryz.zeroValue153
 i27:=by kernel_rfl
 t53:=Tryz.underlying172
 a53:=Tryz.isAgg172
 z53:=Tryz.sizeOf172
 v53:=Tryz.zeroValue172
 i53:=by kernel_rfl
 t54:=Tryz.underlying173
 a54:=Tryz.isAgg173
 z54:=Tryz.sizeOf173
 g0:=by kernel_rfl
 g1:=by kernel_rfl
end Go.Proofs
namespace Go.Ab.Hw
open Go Go.Ab Go.Ab.Sm Go.RowKit Go.Proofs
open Go.Proofs.YtmjcgbaacndblaaGreatDoor
open Go.Ab.Vl (gy)
abbrev JM:List Int:=Lib.deBruijn64tab.map fun(n:Nat)=>(n:Int)
structure Iv (w:World) : Prop where
 mx:∃ m,w.cell? ⟨0,0,none⟩=some (.int .i64 m)
 p10:Lib.TabIs Tryz.prog w "internal/strconv.uint64pow10" .u64 Lib.pow10Tab
 db:Lib.TabIs Tryz.prog w "math/bits.deBruijn64tab" .u8 JM
theorem Lh (w:World) (q:Nat) : Below w.heap.size w (w.drewN q):=⟨rfl,rfl,rfl,Nat.le_refl _,fun _ _=>rfl⟩
theorem Ld (w:World) (q:Nat) (os:Array Obj) : Below w.heap.size w (Go.Sort.grow (w.drewN q) os) :=
 ⟨rfl,rfl,rfl,by first | (simp[Go.Sort.grow]; done) | (simp[Go.Sort.grow]; omega),fun i hi=>by
  show((w.drewN q).heap++os)[i]?=_
  rw[Array.getElem?_append_left (by show i<w.heap.size; omega)]
  rfl⟩
theorem Qi {w:World} {b o:Nat} {v:Value} (h:w.cell? ⟨b,o,none⟩=some v) : b<w.heap.size:=by
 unfold World.cell? at h
 cases hb:w.heap[b]? with
 | none=>simp[hb] at h
 | some x=>exact(Array.getElem?_eq_some_iff.1 hb).1
theorem Mr {w w' : World} {b:Nat} (h:w'.heap[b]?=w.heap[b]?) (o:Nat) : w'.cell? ⟨b,o,none⟩=w.cell? ⟨b,o,none⟩:=by
 unfold World.cell?
 simp only[h]
theorem varLt {w:World} {n:String} {g:Nat} {vs:Array Value} (hg:Tryz.prog.globalNamed n=some g) (h:w.var? Tryz.prog n=some vs) : g<w.heap.size:=by
 unfold World.var? at h
 rw[hg] at h
 simp only[Option.bind_some] at h
 cases hb:w.heap[g]? with
 | none=>rw[hb] at h; cases h
 | some x=>exact(Array.getElem?_eq_some_iff.1 hb).1
theorem Ir {w w' : World} {n:String} {g:Nat} (hg:Tryz.prog.globalNamed n=some g) (h:w'.heap[g]?=w.heap[g]?) : w'.var? Tryz.prog n=w.var? Tryz.prog n:=by
 unfold World.var?
 rw[hg]
 simp only[Option.bind_some,h]
theorem g3:Tryz.prog.globalNamed "internal/strconv.uint64pow10" = some 3:=by kernel_rfl
theorem g7:Tryz.prog.globalNamed "math/bits.deBruijn64tab" = some 7:=by kernel_rfl
def base (w:World) (hi:Iv w) : Base where
 n:=w.heap.size
 inv w':=Iv w'
 low u u' hlow hu:=by
  obtain⟨m0,hm0⟩:=hi.mx
  obtain⟨m,hm⟩:=hu.mx
  refine⟨⟨m,(Mr (hlow 0 (Qi hm0)) 0).trans hm⟩, ?_, ?_⟩
  ·exact(Ir g3 (hlow 3 (varLt g3 hi.p10))).trans hu.p10
  ·exact(Ir g7 (hlow 7 (varLt g7 hi.db))).trans hu.db
theorem Iv.tab {w:World} (h:Iv w) : TabAt 7 Lib.deBruijn64tab w:=fun j hj=>by
 have:=h.db.cell g7 j (by simpa using hj)
 rw[this]
 congr 2
 simp only[JM,List.getD_eq_getElem?_getD,List.getElem?_map,List.getElem?_eq_getElem hj]
 rfl
section
variable {w0:World} {hi:Iv w0}
theorem Jj {M:RM} {ρ:Ren} {w:World} (hM:M.base=base w0 hi) (hw:bz Tryz.prog ρ M w) : Iv w:=by
 have:=bz.inv hw
 rw[hM] at this
 exact this
theorem KZ {M:RM} {s:List UInt8} {x:UInt8} : Hl Tryz.prog 140 [St s,By x] M (N .i64 (Lib.indexByte s x)):=by
 intro ρ w us hus hw
 cases hus with
 | cons _ u1 _ us r1 hus =>
 cases hus with
 | cons _ u2 _ us r2 hus =>
 cases hus
 obtain⟨rfl,_⟩:=aB r1
 obtain⟨rfl,_⟩:=aB r2
 refine⟨.int .i64 (Lib.indexByte s x), ?_,.sc _ rfl⟩
 refine uE (fn:=Tryz.f140) (s:=Extern.BytealgIndexByte.indexByte) (by kernel_rfl) (Rz.ng 140 Tryz.f140 (by kernel_rfl)) (by kernel_rfl) (by kernel_rfl) (by kernel_rfl) (fun w=>?_) w
 rw[Lib.run_indexByteString]
 congr 2
 simp
theorem PL:gy (au 131):=by
 intro M s x Q hQ
 refine jM ?_
 unfold Go.Ab.Vl.gV
 exact .inr (.inr (.inr (.inl ⟨_,KZ,hQ⟩)))
theorem Td {M:RM} {Q:ah} (hB:M.base=base w0 hi) (hQ:Q (N .i64 4) M) : au 124 [N .u64 16] M Q:=by
 refine dH.qH (v:=N .i64 4) ⟨Tryz.f124,_,Tryz.func124,rfl⟩ (fun ρ w us hus hw=>?_) hQ
 cases hus with
 | cons _ u1 _ us r1 hus =>
 cases hus
 obtain⟨rfl,_⟩:=aB r1
 refine(Any7.bits_TrailingZeros Tryz.lays727 16 (by decide) w (fun _=>(Jj hB hw).tab)).mono fun e w' ⟨he,hb⟩=>⟨_,he,by rw[hb]; exact Below.refl _ _, ?_⟩
 exact .sc _ rfl
theorem Ku:Es (base w0 hi) (au 80):=by
 intro M s Q hB hl hQ
 cases s with
 | nil =>
   refine u7 ?_
   unfold Go.Ab.Vl.uk
   simp only[dQ,dB]
   rw[show(([] : List UInt8) == [])=true from rfl]
   simp only[eX,cZ,bP]
   exact hQ M (ae.refl _ _)
 | cons x s =>
   have hasc:∀ (j:Nat) b,(⟨⟨[32,9]⟩⟩ : ByteArray).data.toList[j]?=some b→b.toNat<128:=fun j b h=>by
    have hm:b∈([32,9] : List UInt8):=List.mem_of_getElem? h
    simp at hm
    rcases hm with rfl | rfl <;> decide
   refine dH.qH (v:=St (trimB (x :: s))) ⟨Tryz.f80,_,Tryz.func80,rfl⟩ (fun ρ w us hus hw=>?_) (hQ M (ae.refl _ _))
   cases hus with
   | cons _ u1 _ us r1 hus =>
   cases hus with
   | cons _ u2 _ us r2 hus =>
   cases hus
   obtain⟨rfl,_⟩:=aB r1
   obtain⟨rfl,_⟩:=aB r2
   refine(Any.strings_Trim_set Tryz.lays160 Tryz.zeroValue135 (by kernel_rfl) ⟨⟨x :: s⟩⟩ ⟨⟨[32,9]⟩⟩ w (by decide) (by show 0<(x :: s).length; simp) (by show(x :: s).length≤_; omega) (by decide) hasc).mono fun e w' ⟨he,q,hb⟩=>⟨_,he, ?_,.sc _ rfl⟩
   rw[hb]
   have h1:=(Below.refl w.heap.size w).alloc (Nat.le_refl _) (.cells (Lib.setCells [32,9]) (Tryz.lays160_ren.t 116))
   have h2:=h1.alloc h1.size (.cells (Lib.setCells [32,9]) (Tryz.lays160_ren.t 116))
   exact⟨h2.os,h2.tape,h2.output,h2.size,h2.block⟩
theorem xX:∀ (s:Str) (acc:Nat),s.all dI=true→Lib.decFrom acc s=some (s.foldl (fun n x=>n * 10 + (x.toNat - 48)) acc)
 | [],acc,_=>rfl
 | x :: s,acc,h=>by
   simp only[List.all_cons,Bool.and_eq_true] at h
   have hx:=h.1
   unfold dI at hx
   simp only[Bool.and_eq_true,decide_eq_true_eq] at hx
   have hd:Lib.digitVal x=some (x.toNat - 48):=by unfold Lib.digitVal; rw[if_pos (by omega)]
   rw[Lib.decFrom,hd]
   exact xX s _ h.2
theorem Lj:JQ (au 40):=by
 intro M s Q h1 h9 hd hQ
 have ha:Lib.atoi s=some ((gI s:Nat) : Int):=by
  cases s with
  | nil=>simp at h1
  | cons x s =>
    have hx:dI x=true:=by simp only[List.all_cons,Bool.and_eq_true] at hd; exact hd.1
    unfold dI at hx
    simp only[Bool.and_eq_true,decide_eq_true_eq] at hx
    have e1:(x == 45)=false:=by
     cases h:x == 45
     ·rfl
     ·have:x=45:=by simpa using h
      subst this; simp at hx
    have e2:(x == 43)=false:=by
     cases h:x == 43
     ·rfl
     ·have:x=43:=by simpa using h
      subst this; simp at hx
    unfold Lib.atoi
    simp only[e1,e2,Bool.false_eq_true,if_false]
    unfold Lib.decNat
    simp only[List.isEmpty_cons,Bool.false_eq_true,if_false,xX _ _ hd,Option.map_some]
    rfl
 refine dH.qH (v:=.tup [N .i64 (gI s:Int),.sc .nilIface]) ⟨Tryz.f40,_,Tryz.func40,rfl⟩ (fun ρ w us hus hw=>?_) (hQ M (ae.refl _ _))
 cases hus with
 | cons _ u1 _ us r1 hus =>
 cases hus
 obtain⟨rfl,_⟩:=aB r1
 refine(Any.strconv_Atoi Tryz.lays172 ⟨⟨s⟩⟩ _ (by show s.length≤_; omega) ha w).mono fun e w' ⟨he,t,hb⟩=>⟨_,he, ?_,.tup _ _ (.cons _ _ _ _ (.sc _ rfl) (.cons _ _ _ _ (.sc _ rfl) .nil))⟩
 rw[hb]
 exact Lib.bytesWorld_below w _ t
theorem vT:∀ (f n:Nat),n<10 ^ f→1≤f→Lib.decDigits n=lU 10 f n
 | 0,n,h,h1=>by omega
 | f + 1,n,h,_=>by
   rw[Lib.decDigits]
   by_cases hn:n<10
   ·rw[dif_pos hn,uW hn]
    unfold iZ; rw[if_pos hn]
   ·rw[dif_neg hn,zU hn]
    have hf:1≤f:=by
     rcases Nat.eq_zero_or_pos f with e | e
     ·subst e; simp at h; omega
     ·exact e
    rw[vT f (n / 10) (by rw[Nat.pow_succ] at h; exact Nat.div_lt_of_lt_mul (by rw[Nat.mul_comm]; exact h)) hf]
    unfold iZ
    rw[if_pos (Nat.mod_lt _ (by decide))]
theorem LD:II (base w0 hi) (au 34):=by
 intro M n Q hB hn hQ
 refine dH.qH (v:=St (dJ n)) ⟨Tryz.f34,_,Tryz.func34,rfl⟩ (fun ρ w us hus hw=>?_) (hQ M (ae.refl _ _))
 cases hus with
 | cons _ u1 _ us r1 hus =>
 cases hus
 obtain⟨rfl,_⟩:=aB r1
 refine(Any.strconv_Itoa Tryz.laysM171 (n:Int) (by omega) (by omega) w (Jj hB hw).p10).mono fun e w' ⟨he,k,os,hb⟩=>⟨_,he, ?_, ?_⟩
 ·rw[hb]
  exact Ld w k os
 ·have:Lib.itoa (n:Int)=dJ n:=by
   unfold Lib.itoa dJ
   rw[if_neg (by omega),Int.toNat_natCast]
   exact vT 20 n (Nat.lt_of_lt_of_le hn (by decide)) (by decide)
  rw[this]
  exact .sc _ rfl
theorem Ie {P:Program} {ρ:Ren} {M:RM} {w:World} {v:AV} {s:Str} {u:Value} (hw:bz P ρ M w) (hb:Bs M v s) (hv:ag ρ v u) :
  (u=.slice none 0 0∧s=[])∨∃ a c,u=.slice (some a) s.length c∧s.length≤c∧∀ i,i<s.length→w.cell? (a.add i)=some (.int .u8 ((s.map fun x=>(x.toNat:Int)).getD i 0)):=by
 obtain⟨hs,hc⟩:=hb
 unfold Sl at hs
 generalize hn:s.length=n at *
 generalize hcs:BY.row s=cs at *
 cases hs with
 | nil =>
   obtain⟨rfl,_⟩:=aB hv
   exact .inl ⟨rfl,List.length_eq_zero_iff.1 hn⟩
 | emp b =>
   cases hv with
   | emp _ a c=>exact .inr ⟨a,c,rfl,Nat.zero_le _,fun i hi=>absurd hi (Nat.not_lt_zero _)⟩
 | slc b o _ cap _ hlt hld =>
   obtain⟨i0,c,hb,hu⟩:=Ab.dm hv
   have hcap:n≤c:=by
    cases cap with
    | ex k =>
      have hk:n≤k:=hc
      cases hv with
      | fO _ _ _ _ j hj =>
        injection hu with _ _ h6
        omega
    | op e =>
      obtain⟨k,j,_,_,_,h4,h5⟩:=Ao hv
      rw[hu] at h5
      injection h5 with _ _ h6
      omega
   subst hu
   refine .inr ⟨⟨i0.cb,i0.sh + o,none⟩,c,rfl,hcap,fun i hi=>?_⟩
   ·subst hcs
    have Tt:M.loads b o (n * 1)=some (BY.row s):=hld
    have h1:=sG Tt i 1 (by omega)
    have hi' : i<s.length:=by omega
    have e1:((BY.row s).drop i).take 1=[By s[i]]:=by
     have:=Enc.CB (E:=BY) hi'
     simpa [BY] using this
    rw[e1] at h1
    obtain⟨x,hx,hcell⟩:=xB hw hb h1
    obtain⟨rfl,_⟩:=aB hx
    have ea:(⟨i0.cb,i0.sh + o,none⟩ : Addr).add i=⟨i0.cb,i0.sh + (o + i),none⟩:=by
     unfold Addr.add
     split
     ·rename_i e; subst e; rfl
     ·simp[Nat.add_assoc]
    rw[ea,hcell]
    simp[List.getD_eq_getElem?_getD,List.getElem?_eq_getElem hi']
theorem bytesOf_map (s:Str) : Lib.bytesOf (s.map fun x=>(x.toNat:Int))=s:=by
 unfold Lib.bytesOf
 rw[List.map_map]
 conv=>rhs; rw[← List.map_id s]
 apply List.map_congr_left
 intro x _
 simp
theorem Hy:Ba (base w0 hi) (au 78):=by
 intro M v w s Q hB hv hw hl hQ
 refine dH.qH (v:=N .i64 (Lib.index s [13,10])) ⟨Tryz.f78,_,Tryz.func78,rfl⟩ (fun ρ W us hus hW=>?_) hQ
 cases hus with
 | cons _ u1 _ us r1 hus =>
 cases hus with
 | cons _ u2 _ us r2 hus =>
 cases hus
 obtain⟨m,hm⟩:=(Jj hB hW).mx
 rcases Ie hW hw r2 with⟨_,h⟩ | ⟨a2,c2,rfl,hc2,hx2⟩
 ·cases h
 rcases Ie hW hv r1 with⟨rfl,rfl⟩ | ⟨a1,c1,rfl,hc1,hx1⟩
 ·refine(Any.bytes_Index_nil Tryz.lays185 (some a2) 2 c2 W (by decide) (fun h=>by cases h)).mono fun e w' ⟨he,hb⟩=>⟨_,he,by rw[hb]; exact Below.refl _ _, ?_⟩
  exact .sc _ rfl
 ·have hr:∀ (t:Str),∀ x∈t.map (fun x:UInt8=>(x.toNat:Int)),0≤x∧x<256:=fun t x hx=>by
   rw[List.mem_map] at hx
   obtain⟨y,_,rfl⟩:=hx
   have:=y.toNat_lt
   omega
  have:=Any.bytes_Index_at Tryz.lays185 a1 a2 s.length c1 2 c2 (s.map fun x=>(x.toNat:Int)) (([13,10] : Str).map fun x=>(x.toNat:Int)) m W (by simp) (by simp) (hr s) (hr _) hx1 hx2 hc1 (by omega) (by decide) hm
  rw[bytesOf_map,bytesOf_map] at this
  refine this.mono fun e w' ⟨he,q,hb⟩=>⟨_,he,by rw[hb]; exact(Lh W q), ?_⟩
  exact .sc _ rfl
theorem LG (ρ' : Ren) : ∀ l:List ByteArray,aC ρ' (mq.row (l.map (·.data.toList))) (l.map Value.string)
 | []=>.nil
 | b :: l=>.cons _ _ _ _ (.sc _ (by rfl)) (LG ρ' l)
theorem Jn (s:Str) : s.count 32=Lib.countB ⟨⟨s⟩⟩ ⟨⟨[32]⟩⟩:=(Lib.count_one 32 s).symm
theorem O0:FE (base w0 hi) 9 (au 27):=by
 intro M s Q hB hl hQ
 refine dH.O7 (cs:=mq.row (words 32 s)) (n:=(words 32 s).length) ⟨Tryz.f27,_,Tryz.func27,rfl⟩ (by kernel_rfl) (mq.qg _) (by rw[Enc.fC]; simp[mq]) (fun ρ w us hus hw=>?_) (fun v M' o k=>hQ v M' (Own.mono o (Nat.le_refl _)) k)
 cases hus with
 | cons _ u1 _ us r1 hus =>
 cases hus with
 | cons _ u2 _ us r2 hus =>
 cases hus
 obtain⟨rfl,_⟩:=aB r1
 obtain⟨rfl,_⟩:=aB r2
 obtain⟨m,hm⟩:=(Jj hB hw).mx
 refine(Any.strings_Split Tryz.lays146 (by kernel_rfl) ⟨⟨s⟩⟩ ⟨⟨[32]⟩⟩ m w (by show s.length<_; omega) hm (by decide)).mono fun e w' ⟨he,hb⟩=>?_
 have hd:(Lib.splitB ⟨⟨[32]⟩⟩ 0 (Lib.countB ⟨⟨s⟩⟩ ⟨⟨[32]⟩⟩) ⟨⟨s⟩⟩).map (·.data.toList)=words 32 s:=by
  rw[Lib.splitB_data]
  exact wS 32 _ s (Jn s)
 have hlen:(Lib.splitB ⟨⟨[32]⟩⟩ 0 (Lib.countB ⟨⟨s⟩⟩ ⟨⟨[32]⟩⟩) ⟨⟨s⟩⟩).length=Lib.countB ⟨⟨s⟩⟩ ⟨⟨[32]⟩⟩ + 1:=Lib.splitB_all ⟨⟨[32]⟩⟩ (by decide) 0 _ _ rfl
 generalize Lib.splitB ⟨⟨[32]⟩⟩ 0 (Lib.countB ⟨⟨s⟩⟩ ⟨⟨[32]⟩⟩) ⟨⟨s⟩⟩=l at *
 rw[← hlen] at he
 have hwl:(words 32 s).length=l.length:=by rw[← hd]; simp
 refine⟨_,l.map Value.string,he,⟨by simp[hwl],.inr ⟨w.heap.size,l.length,(l.map Value.string).toArray,by rw[hwl],Nat.le_refl _, ?_,Nat.le_of_eq hwl, ?_,by simp, ?_⟩⟩,fun ρ'=>?_, ?_⟩
 ·rw[hb]
  show(w.heap.push _)[w.heap.size]?=_
  rw[Array.getElem?_push_size]
  rfl
 ·have:=Lib.countB_le ⟨⟨[32]⟩⟩ (by decide) s.length ⟨⟨s⟩⟩ (Nat.le_refl _)
  have h2:maxLen=9223372036854775807:=rfl
  have h3:(⟨⟨s⟩⟩ : ByteArray).size=s.length:=rfl
  omega
 ·exact List.take_of_length_le (by simp[hwl])
 ·rw[← hd]
  exact LG ρ' l
 ·rw[hb]; exact(Below.refl _ _).alloc (Nat.le_refl _) _
end
end Go.Ab.Hw
namespace Go.Ab.Hw
open Go Go.Ab Go.Ab.Sm Go.RowKit Go.Proofs
open Go.Proofs.YtmjcgbaacndblaaGreatDoor
open Go.Ab.Vl (gy kP)
section
variable {w0:World} {hi:Iv w0}
theorem CP:ow dI (au 38):=by
 intro M x Q hQ
 obtain⟨a0,e,h⟩:=IM hQ
 cases e
 exact tQ h
theorem OU:ow oM (au 60):=by
 intro M x Q hQ
 obtain⟨a0,e,h⟩:=Ke hQ
 cases e
 exact tq h
theorem KY:ow wH (au 62):=by
 intro M x Q hQ
 obtain⟨a0,e,h⟩:=Gn hQ
 cases e
 exact qY h
theorem is32:ow p32 (au 39):=by
 intro M x Q hQ
 obtain⟨a0,e,h⟩:=Mx hQ
 cases e
 exact lc h
theorem QI:ow qy (au 87):=by
 intro M x Q hQ
 obtain⟨a0,e,h⟩:=MB hQ
 cases e
 exact nO h
theorem Pm:ow rV (au 86):=by
 intro M x Q hQ
 obtain⟨a0,e,h⟩:=Jd CP hQ
 cases e
 exact oz h
theorem QQ:ow jW (au 115):=by
 intro M x Q hQ
 obtain⟨a0,e,h⟩:=LW CP hQ
 cases e
 exact rO h
theorem KU:kU dI (.fn (.func 38) [] []) (au 37):=by
 intro M s Q hl hQ
 obtain⟨a0,a1,e,h⟩:=lZ (T8:=5) (g:=38) (p:=dI) (cv:=au) CP hl hQ
 cases e
 exact dz h
theorem NB:kU oM (.fn (.func 60) [] []) (au 37):=by
 intro M s Q hl hQ
 obtain⟨a0,a1,e,h⟩:=lZ (T8:=5) (g:=60) (p:=oM) (cv:=au) OU hl hQ
 cases e
 exact dz h
theorem Pg:kU wH (.fn (.func 62) [] []) (au 37):=by
 intro M s Q hl hQ
 obtain⟨a0,a1,e,h⟩:=lZ (T8:=5) (g:=62) (p:=wH) (cv:=au) KY hl hQ
 cases e
 exact dz h
theorem QT:kU p32 (.fn (.func 39) [] []) (au 37):=by
 intro M s Q hl hQ
 obtain⟨a0,a1,e,h⟩:=lZ (T8:=5) (g:=39) (p:=p32) (cv:=au) is32 hl hQ
 cases e
 exact dz h
theorem PX:kU qy (.fn (.func 87) [] []) (au 37):=by
 intro M s Q hl hQ
 obtain⟨a0,a1,e,h⟩:=lZ (T8:=5) (g:=87) (p:=qy) (cv:=au) QI hl hQ
 cases e
 exact dz h
theorem OH:kU rV (.fn (.func 86) [] []) (au 37):=by
 intro M s Q hl hQ
 obtain⟨a0,a1,e,h⟩:=lZ (T8:=5) (g:=86) (p:=rV) (cv:=au) Pm hl hQ
 cases e
 exact dz h
theorem Pz:kU jW (.fn (.func 115) [] []) (au 37):=by
 intro M s Q hl hQ
 obtain⟨a0,a1,e,h⟩:=lZ (T8:=5) (g:=115) (p:=jW) (cv:=au) QQ hl hQ
 cases e
 exact dz h
theorem uy:Au (au 64):=by
 intro M s Q hl hQ
 obtain⟨a0,e,h⟩:=BQ (T8:=5) hl hQ
 cases e
 exact sV h
theorem uI:qb (au 59):=by
 intro M s a b Q hQ
 obtain⟨a0,a1,a2,e,h⟩:=G6 hQ
 cases e
 exact rJ h
theorem N7:lI cB (au 67):=by
 intro M s Q hl hQ
 obtain⟨a0,e,h⟩:=vZ uI uy OH hl hQ
 cases e
 exact qa h
theorem K6:Bw (base w0 hi) bS (au 68):=by
 intro M s Q hB hl hQ
 obtain⟨a0,e,h⟩:=tY Ku PX hB hl hQ
 cases e
 exact oQ h
theorem Io:lI fJ (au 28):=by
 intro M s Q hl hQ
 obtain⟨a0,e,h⟩:=BM uI NB hl hQ
 cases e
 exact oD h
theorem NL:AO (au 84):=by
 intro M s q Q hQ
 obtain⟨a0,a1,e,h⟩:=El hQ
 cases e
 exact jO h
theorem Rk:AO (au 61):=by
 intro M s q Q hQ
 obtain⟨a0,a1,e,h⟩:=MW NL hQ
 cases e
 exact oZ h
theorem NY:lI gY (au 29):=by
 intro M s Q hl hQ
 obtain⟨a0,e,h⟩:=Ee Rk Pg hl hQ
 cases e
 exact pF h
theorem Q3:qf (au 70):=by
 intro M s q Q hQ
 obtain⟨a0,a1,e,h⟩:=Ah NL hQ
 cases e
 exact jI h
theorem Q6:qf (au 36):=by
 intro M s q Q hQ
 obtain⟨a0,a1,e,h⟩:=GK Q3 hQ
 cases e
 exact pu h
theorem Qx:uf 58 (au 113):=by
 intro M s Q hQ
 obtain⟨a0,a1,e,h⟩:=zJ PL (g:=0) (xx:=Ez Tryz.prog 132) (c1:=au 100) (c2:=au 133) hQ
 cases e
 exact kS h
theorem Qg:kP 58 (au 102):=by
 intro M s Q hl hQ
 obtain⟨a0,a1,e,h⟩:=Vl.Co Qx hl hQ
 cases e
 exact lM h
theorem Q7:kP 58 (au 79):=by
 intro M s Q hl hQ
 obtain⟨a0,a1,e,h⟩:=Vl.KN Qg hl hQ
 cases e
 exact wF h
theorem Ny:Cq (base w0 hi) (au 57):=by
 intro M s Q hB hl h1 h2
 obtain⟨a0,e,h⟩:=Gx (T:=56) Q7 Ku N7 K6 hB hl h1 h2
 cases e
 exact rM h
theorem Qc:Jg (base w0 hi) (au 56):=by
 intro M v b at' Q hB h1 h2 h3 h4 h5 h6
 obtain⟨a0,a1,e,h⟩:=L8 (T:=5) Hy hB h1 h2 h3 h4 h5 h6
 cases e
 exact uh h
theorem Lu {a1:AV} {q:Str→Bool} {br:Nat} {X0:RB} {X:Str→RB} (hF:Bb (base w0 hi) (au) a1 q br X0 X) : Et (base w0 hi) a1 q br X0 X 56 (au 25):=by
 intro M v b Q hB h1 h2 h3 h4 h5 h6 h7
 obtain⟨a0,a1,e,h⟩:=LZ Qc Ny hF hB h1 h2 h3 h4 h5 h6 h7
 cases e
 exact tZ h
theorem IA:Ch 9 (au 63):=by
 intro M v l n Q h1 h2 h3 h4 h5
 obtain⟨a0,a1,e,h⟩:=JW (TH:=56) uy h1 h2 h3 h4 h5
 cases e
 exact tH h
theorem G8:IP (au 55):=by
 intro M v l n Q h1 h2 h3 h4 h5
 obtain⟨a0,a1,e,h⟩:=I7 IA h1 h2 h3 h4 h5
 cases e
 exact sQ h
theorem Pj:JK (base w0 hi) (au 114):=by
 intro M v w s Q hB h1 h2 h3 h4 h5
 obtain⟨a0,a1,e,h⟩:=Lt Hy hB h1 h2 h3 h4 h5
 cases e
 exact zB h
theorem OC:Fs (au 134):=by
 intro M x Q hQ
 obtain⟨a0,e,h⟩:=JL hQ
 cases e
 exact mM h
theorem QV:Dh (au 117):=by
 intro M s Q h1 h2 h3 h4
 obtain⟨a0,a1,a2,e,h⟩:=Be (TE:=119) (T8:=5) (cu:=au 135) OC h1 h2 h3 h4
 cases e
 exact kZ h
theorem QU:Dh (au 116):=by
 intro M s Q h1 h2 h3 h4
 obtain⟨a0,a1,a2,e,h⟩:=CK (ct:=au 72) QV h1 h2 h3 h4
 cases e
 exact pG h
theorem PS:JG (base w0 hi) (au 85):=by
 intro M v b at' Q hB h1 h2 h3 h4 h5
 obtain⟨a0,a1,e,h⟩:=KG (T:=5) Pj uI uy Pz QU hB h1 h2 h3 h4 h5
 cases e
 exact uj h
theorem KT:zV (base w0 hi) 5 (au 65):=by
 intro M v b at' Q hB h1 h2 h3 h4 h5
 obtain⟨a0,a1,e,h⟩:=EY PS hB h1 h2 h3 h4 h5
 cases e
 exact qE h
theorem Og:Fj 5 (au 66):=by
 intro M v s Q h1 h2 h3
 obtain⟨a0,e,h⟩:=J6 h1 h2 h3
 cases e
 exact xU h
theorem Li:Ev (base w0 hi) 5 (au 30):=by
 intro M v hv b l at' Q hB h1 h2 h3 h4 h5 h6 h7 h8
 obtain⟨a0,a1,a2,e,h⟩:=Kn IA uy KT uI KU Lj Og hB h1 h2 h3 h4 h5 h6 h7 h8
 cases e
 exact uw h
theorem K7 (br:Nat) : Bb (base w0 hi) (au) (.fn (.func 26) [] [.ptr br 0]) rG br (jh 26 [] []) (Ff 26):=by
 intro M s K hB hbr hX hl h0 h1
 rw[Ar]
 exact mr (Ll (TS:=9) O0 Io NY hB hbr hX hl h0 h1)
theorem Jt (br:Nat) : Bb (base w0 hi) (au) (.fn (.func 35) [] [.ptr br 0]) pU br (gM 34 0) (Ew 34):=by
 intro M s K hB hbr hX hl h0 h1
 rw[Ar]
 exact mo (JF Q6 KU QT Lj hbr hX hl h0 h1)
theorem AU:Gc (base w0 hi) 56 5 (au 11):=by
 intro M v b Q hB h1 h2 h3 h4
 obtain⟨a0,e,h⟩:=F7 (T:=26) (g:=26) (fun br=>Lu (K7 br)) Li hB h1 h2 h3 h4
 cases e
 exact nQ h
theorem Kz:DV (base w0 hi) 56 5 (au 14):=by
 intro M v b Q hB h1 h2 h3 h4
 obtain⟨a0,e,h⟩:=Ec (T:=34) (g:=35) (fun br=>Lu (Jt br)) Li hB h1 h2 h3 h4
 cases e
 exact nu h
theorem xH:rq (base w0 hi) 5 (au 32):=by
 intro M v bv f b l m z Q hB h1 h2 h3 h4 h5 h6 h7 h8 h9 h10
 obtain⟨a0,a1,a2,a3,a4,e,h⟩:=F8 (TH:=56) N7 K6 uy hB h1 h2 h3 h4 h5 h6 h7 h8 h9 h10
 cases e
 exact qI h
theorem D5:vG (base w0 hi) (au 33):=by
 intro M n Q hB h1 h2
 obtain⟨a0,e,h⟩:=E8 (T:=56) LD hB h1 h2
 cases e
 exact qC h
theorem PG:vF (au 31):=by
 intro M m q x y Q h1 h2 h3 h4 h5
 obtain⟨a0,e,h⟩:=FT (T:=26) Io NY h1 h2 h3 h4 h5
 cases e
 exact nX h
theorem DN:Dx (base w0 hi) 5 (au 12):=by
 intro M hv bv m q b l Q hB h1 h2 h3 h4 h5 h6 h7 h8 h9
 obtain⟨a0,e,h⟩:=Ej (T:=26) PG D5 xH hB h1 h2 h3 h4 h5 h6 h7 h8 h9
 cases e
 exact nk h
theorem Jr:BF (base w0 hi) 5 (au 13):=by
 intro M hv bv n b l Q hB h1 h2 h3 h4 h5 h6 h7
 obtain⟨a0,e,h⟩:=Cx (T:=34) LD D5 xH hB h1 h2 h3 h4 h5 h6 h7
 cases e
 exact mZ h
theorem Pk:Fx 5 (au 75):=by
 intro M n Q h1 h2 h3
 obtain⟨a0,a1,e,h⟩:=IK (TS:=9) h1 h2 h3
 cases e
 exact yY h
theorem MC:zY 5 (au 48):=by
 intro M bb TB vs xss Q h1 h2 h3 h4 h5 h6 h7 h8
 obtain⟨a0,e,h⟩:=Fq (TS:=9) Pk h1 h2 h3 h4 h5 h6 h7 h8
 cases e
 exact wG h
theorem Nq:C8 3 (au 47):=by
 intro M v s Q h1 h2 h3
 obtain⟨a0,e,h⟩:=GM h1 h2 h3
 cases e
 exact yZ h
theorem Rh:Jo (au 123):=by
 intro M Q h1
 obtain⟨a0,e,h⟩:=Mi h1
 cases e
 exact jR h
theorem PO:Ka (base w0 hi) (au 96):=by
 intro M n Q hB h1 h2
 obtain⟨a0,a1,a2,a3,a4,e,h⟩:=LQ (TS:=9) (TA:=154) (T8:=5) Rh Td hB h1 h2
 cases e
 exact kK h
theorem QH:CG (base w0 hi) (au 76):=by
 intro M n Q hB h1 h2
 obtain⟨a0,a1,e,h⟩:=KF (c1:=au 93) (TA:=125) (c2:=au 94) (c3:=au 95) PO hB h1 h2
 cases e
 exact kW h
theorem QW:CG (base w0 hi) (au 49):=by
 intro M n Q hB h1 h2
 obtain⟨a0,a1,e,h⟩:=Mw QH hB h1 h2
 cases e
 exact pW h
theorem GZ:zH (base w0 hi) 5 (au 19):=by
 intro M hv bv sv m q b l sz Q hB h1 h2 h3 h4 h5 h6 h7 h8 h9 h10 h11
 obtain⟨a0,a1,e,h⟩:=BG (T:=26) (TI:=3) (TB:=24) PG Nq QW MC xH hB h1 h2 h3 h4 h5 h6 h7 h8 h9 h10 h11
 cases e
 exact qQ h
end
end Go.Ab.Hw
namespace Go.Ab.Hw
open Go Go.Ab Go.Ab.Sm Go.RowKit Go.Proofs
open Go.Proofs.YtmjcgbaacndblaaGreatDoor
abbrev mF:Str:=[71,69,84]
abbrev sj:Str:=[47,97]
abbrev lX:List Hd:=[([88],[49])]
def RF:Except Nat Str→Str
 | .ok s=>s
 | .error _=>[]
abbrev sA:Str:=[71,69,84,32,47,97,32,72,84,84,80,47,49,46,49,13,10,88,58,32,49,13,10,67,111,110,116,101,110,116,45,76,101,110,103,116,104,58,32,48,13,10,13,10]
def sC:Str:=RF (jU 404 [] [110,111])
def sD:Str:=RF (jr mF sj lX [97,98,99,100] [3])
theorem pA:jq mF sj lX []=.ok sA:=by kernel_rfl
theorem rA:iX (sA++[120])=.ok ((mF,sj,lX++[(jg,[48])],[]),[120]):=by kernel_rfl
theorem pC:jU 404 [] [110,111]=.ok sC:=by kernel_rfl
theorem rC:lL sC=.ok ((404,[(jg,[50])],[110,111]),[]):=by kernel_rfl
theorem pD:jr mF sj lX [97,98,99,100] [3]=.ok sD:=by kernel_rfl
theorem rD:iX sD=.ok ((mF,sj,lX++[(JU,Eb)],[97,98,99,100]),[]):=by kernel_rfl
theorem nA:bf (lX++[(jg,[48])]) [120]=[[49]]:=by kernel_rfl
theorem nC:bf [(jg,[50])] [67,79,78,84,69,78,84,45,76,69,78,71,84,72]=[[50]]:=by kernel_rfl
theorem lC:sC.length≤1000:=by decide +kernel
theorem lD:sD.length≤1000:=by decide +kernel
theorem Ip {T n:Nat} {M:RM} {parts:List (Nat × Nat × AV)} (s:Str) {K:ah} (he:ol (cK [(N .u8 0)] n) parts=some (BY.row s)) (hn:s.length=n)
  (hK:∀ v M',Bs M' v s→ae [] M M'→(∀ b∈aL v,M.next≤b)→K v M') : dC T n [(N .u8 0)] parts fun r f=>bg r f M fun t14 M1=>pJ t14 M1 fun t15 M_0=>K t15 M_0:=by
 refine⟨BY.row s,he, ?_⟩
 simp only[aT]
 refine⟨M.next,0,n,n,BY.row s,T,rfl,by simp[RM.push], ?_⟩
 refine hK _ _ ⟨?_,Nat.le_refl _⟩ (((ae.refl _ _).push _).new _ (Nat.le_refl _)) (fun b hb=>by simp[aL] at hb; omega)
 subst hn
 refine aK.slc _ _ _ _ _ (by simp[RM.push,RM.put]) ?_
 rw[RM.gP (aN _) (by rw[jZ]; simp[BY]),List.drop_zero,List.take_of_length_le (by rw[jZ]; simp[BY])]
theorem Su {T:Nat} {M:RM} {z cs:List AV} {K:AV→RM→Prop} (n:Nat) (hz:z.length=n) (hc:cs.length=n) (h1:cs.all oneCell=true)
  (hK:∀ M',ae [] M M'→M'.heap M.next=some (.row cs false T 0)→M.next<M'.next→K (.agg cs) M') :
  bg (.row z false T 0) (fun b=>.ptr b 0) M fun t M1=>aG M1 t (.agg cs) n fun M2=>bF M2 t n fun r=>K r M2:=by
 simp only[aT]
 have n1:(M.push (.row z false T 0)).heap M.next=some (.row z false T 0):=by simp[RM.push]
 rw[jH n1 hc hz h1,bW (aN _) hc]
 exact hK _ (((ae.refl _ _).push _).new _ (Nat.le_refl _)) (aN _) (by simp[RM.push,RM.put])
theorem Eu {T:Nat} {M:RM} {z cs:List AV} {K:AV→RM→Prop} (n:Nat) (hz:z.length=n) (hc:cs.length=n) (h1:cs.all oneCell=true)
  (hK:∀ M',ae [] M M'→M'.heap M.next=some (.row cs false T 0)→M.next<M'.next→K (.ptr M.next 0) M') :
  bg (.row z false T 0) (fun b=>.ptr b 0) M fun t M1=>aG M1 t (.agg cs) n fun M2=>K t M2:=by
 simp only[aT]
 have n1:(M.push (.row z false T 0)).heap M.next=some (.row z false T 0):=by simp[RM.push]
 rw[jH n1 hc hz h1]
 exact hK _ (((ae.refl _ _).push _).new _ (Nat.le_refl _)) (aN _) (by simp[RM.push,RM.put])
theorem rf {α:Type} {x y:α} {r:Except Nat α} (h:r=.ok x) (k:r=.ok y) : x=y:=by rw[h] at k; exact Except.ok.inj k
theorem qo {α:Type} {x:α} {e:Nat} {r:Except Nat α} (h:r=.ok x) (k:r=.error e) : False:=by rw[h] at k; cases k
theorem NP:∀ h∈lX,h.1.length≤281474976710656∧h.2.length≤281474976710656:=fun h hx=>by
 simp at hx; subst hx; simp
def Qm (B:Base) (c:ai) : Prop:=∀ {M:RM} {Q:ah},M.base=B→(∀ M',ae [] M M'→Q (Bo true) M')→c [] M Q
section
variable {w0:World} {hi:Iv w0}
theorem Qa:Qm (base w0 hi) (au 10):=by
 intro M Q hB hQ
 refine wD ?_
 unfold vV
 rw[jm]
 refine⟨_,Bu rfl rfl rfl rfl, ?_⟩
 rw[yG (by rfl) (by rfl) (by rfl)]
 simp only[aT (x:=.row (AV.agg [St [88],St [49]]).cells false 56 0)]
 have k1:ae [] M (M.push (.row (AV.agg [St [88],St [49]]).cells false 56 0)):=(ae.refl _ _).push _
 have s1:Sl HD (M.push (.row (AV.agg [St [88],St [49]]).cells false 56 0)) (.slc M.next 0 1 (.ex 1)) lX:=Sl.new (E:=HD) lX
 generalize M.push (.row (AV.agg [St [88],St [49]]).cells false 56 0)=M1 at *
 rw[jm]
 refine⟨[St mF,St sj,.slc M.next 0 1 (.ex 1),aH],rfl, ?_⟩
 have bx:∀ K:AV→AV→RM→Prop,(∀ M2,ae [] M1 M2→M2.heap M1.next=some (.row [St mF,St sj,.slc M.next 0 1 (.ex 1),aH] false 26 0)→M1.next<M2.next→K (.ptr M1.next 0) (.agg [St mF,St sj,.slc M.next 0 1 (.ex 1),aH]) M2) →
   bg (.row [St [],St [],aH,aH] false 26 0) (fun b=>.ptr b 0) M1 fun t M2=>aG M2 t (.agg [St mF,St sj,.slc M.next 0 1 (.ex 1),aH]) 4 fun M3=>bF M3 t 4 fun r=>K t r M3:=fun K h=>by
  refine Eu (K:=fun t M3=>bF M3 t 4 fun r=>K t r M3) 4 rfl rfl rfl fun M2 k2 n2 l2=>?_
  rw[bW n2 (by rfl)]
  exact h M2 k2 n2 l2
 refine bx _ fun M2 k2 n2 l2=>?_
 have k02:=k1.trans k2
 have s2:Sl HD M2 (.slc M.next 0 1 (.ex 1)) lX:=aK.keep s1 k2 (by simp)
 refine DN (hi:=hi) (k02.base.trans hB) s2 (by simp) NP (by simp) (by simp) (body:=[]) .nil (by simp) (fun s v3 M3 e3 _ k3 o3=>?_) (fun e M3 e3 _ _=>(qo pA e3).elim)
 obtain rfl:=rf pA e3
 simp only[bn,bq]
 rw[Ey]
 simp only[aT (x:=.row [] false 5 0)]
 have k3' : ae [] M3 (M3.push (.row [] false 5 0)):=(ae.refl _ _).push _
 refine nW (E:=BY) (Ow.lit BY M3) (by simp[RM.push]) (by decide) (aK.keep (Own.l8 o3) k3' (by simp)) (by simp) (by simp) fun v4 M4 o4 k4 _ _=>?_
 have k34:ae [] M3 M4:=ae.own k3' k4 (fun b hb=>by simp[aL] at hb; omega)
 rw[yG (by rfl) (by rfl) (by rfl)]
 simp only[aT (x:=.row (N .u8 120).cells false 5 0)]
 refine yK (E:=BY) (a:=120) o4 k34.next (by decide) (by simp) (by simp) fun v5 M5 o5 k5 _ _=>?_
 have k35:ae [] M3 M5:=ae.own k34 k5 (fun b hb=>(Own.blk o4 b hb).1)
 have k25:=k3.trans k35
 rw[List.nil_append] at o5
 refine AU (hi:=hi) ((k02.trans k25).base.trans hB) (Bs.own o5) (by simp) (fun m p l out r at6 hv6 ov6 M6 e6 h61 h62 _ _ _ k6 oh6 ob6=>?_) (fun e M6 e6 _ _=>(qo rA e6).elim)
 have e6':=rf rA e6
 simp only[Prod.mk.injEq] at e6'
 obtain⟨⟨rfl,rfl,rfl,rfl⟩,rfl⟩:=e6'
 have TZ:at6=44:=by
  have:=congrArg List.length h62
  simp at this h61; omega
 subst TZ
 simp only[bn,bq,eO]
 have c6:([St mF,St sj,hv6,ov6] : List AV).all oneCell=true:=by
  have h1:=Own.one oh6; have h2:=Own.one ob6
  simp only[List.all_cons,List.all_nil,h1,h2]; rfl
 refine Su (K:=fun t40 J7=>_) 4 rfl rfl c6 fun M7 k7 _ _=>?_
 have k26:=k25.trans (k6.trans k7)
 have sh7:Sl HD M7 hv6 (lX++[(jg,[48])]):=aK.keep (Own.l8 oh6) k7 (by simp)
 refine nH (Md G8 sh7 (by simp) (by decide) (by decide) c6 fun M8 k8=>?_)
 rw[nA]
 simp only[jX,bn,bq]
 have k28:=k26.trans k8
 refine Ip [110,111] rfl rfl fun v9 M9 b9 k9 _=>?_
 rw[jm]
 have ob9:=aK.one b9.sl
 have fl9:nZ [N .i64 0,aH,aH] [(0,1,N .i64 404),(2,1,v9)]=some [N .i64 404,aH,v9]:=by
  have h1:=aK.known b9.sl
  have h2:=aK.cells b9.sl
  rw[nZ,if_pos ⟨rfl,rfl,by decide⟩,nZ,if_pos ⟨h1,by rw[h2]; rfl,by decide⟩,h2]
  rfl
 refine⟨_,fl9, ?_⟩
 have k29:=k28.trans k9
 refine Jr (hi:=hi) ((k02.trans k29).base.trans hB) (l:=[]) .nil (by simp) (by simp) b9.sl (by simp) (fun s v10 M10 e10 _ k10 o10=>?_) (fun e M10 e10 _ _=>(qo pC e10).elim)
 obtain rfl:=rf pC e10
 simp only[bn,bq]
 have IB:=k29.trans k10
 refine Kz (hi:=hi) ((k02.trans IB).base.trans hB) (Bs.own o10) (by have:=lC; omega) (fun n l out r SE Cn CS M11 e11 h111 h112 _ _ _ k11 Qq Mk=>?_) (fun e M11 e11 _ _=>(qo rC e11).elim)
 have F9:=rf rC e11
 simp only[Prod.mk.injEq] at F9
 obtain⟨⟨rfl,rfl,rfl⟩,rfl⟩:=F9
 have Q9:SE=sC.length:=by
  have:=congrArg List.length h112
  simp at this; omega
 subst Q9
 simp only[bn,bq,eO]
 have c11:([N .i64 ((404:Nat) : Int),Cn,CS] : List AV).all oneCell=true:=by
  have h1:=Own.one Qq; have h2:=Own.one Mk
  simp only[List.all_cons,List.all_nil,h1,h2]; rfl
 have bx2:∀ K:AV→AV→RM→Prop,(∀ M2,ae [] M11 M2→M2.heap M11.next=some (.row [N .i64 ((404:Nat) : Int),Cn,CS] false 34 0)→M11.next<M2.next→K (.ptr M11.next 0) (.agg [N .i64 ((404:Nat) : Int),Cn,CS]) M2) →
   bg (.row [N .i64 0,aH,aH] false 34 0) (fun b=>.ptr b 0) M11 fun t M2=>aG M2 t (.agg [N .i64 ((404:Nat) : Int),Cn,CS]) 3 fun M3=>bF M3 t 3 fun r=>K t r M3:=fun K h=>by
  refine Eu (K:=fun t M3=>bF M3 t 3 fun r=>K t r M3) 3 rfl rfl c11 fun M2 k2 n2 l2=>?_
  rw[bW n2 (by rfl)]
  exact h M2 k2 n2 l2
 refine bx2 _ fun M12 k12 n12 l12=>?_
 have Sn:Sl HD M12 Cn [(jg,[50])]:=aK.keep (Own.l8 Qq) k12 (by simp)
 refine ni (KO G8 Sn (by simp) (by decide) (by decide) c11 fun M13 k13=>?_)
 rw[nC]
 simp only[jX,bn,bq]
 have PD:=IB.trans (k11.trans (k12.trans k13))
 refine Ip [97,98,99,100] rfl rfl fun v14 M14 b14 k14 SL=>?_
 have JA:=PD.trans k14
 have n14:=JA.aP n2 l2 (by simp)
 have l14:=Nat.lt_of_lt_of_le l2 JA.next
 have c14:=aK.cells b14.sl
 have Tf:=aK.one b14.sl
 rw[jD,Nat.zero_add,fP [St mF,St sj,.slc M.next 0 1 (.ex 1),v14] n14 (by simp) c14 Tf rfl,bW (aN _) (by rfl)]
 have k15:ae [M1.next] M14 (M14.put M1.next (.row [St mF,St sj,.slc M.next 0 1 (.ex 1),v14] false 26 0)):=(ae.refl _ _).put _ (.inr (by simp))
 generalize M14.put M1.next (.row [St mF,St sj,.slc M.next 0 1 (.ex 1),v14] false 26 0)=M15 at *
 have kk:∀ {X Y:RM},ae [] X Y→ae [M1.next] X Y:=fun k=>k.mono (by simp)
 have b15:Bs M15 v14 [97,98,99,100]:=b14.keep k15 (fun x hx hm=>by have:=SL x hx; have:=PD.next; simp at hm; omega)
 have ne1:∀ b,M2.next≤b→b≠M1.next:=fun b h e=>by omega
 have s15:Sl HD M15 (.slc M.next 0 1 (.ex 1)) lX:=aK.keep (aK.keep s2 JA (by simp)) k15 (fun x hx hm=>by have:=aK.lt s1 x hx; simp at hm; omega)
 rw[yG (by rfl) (by rfl) (by rfl)]
 simp only[aT (x:=.row (N .i64 3).cells false 3 0)]
 have k16:ae [] M15 (M15.push (.row (N .i64 3).cells false 3 0)):=(ae.refl _ _).push _
 have s16:Sl INT (M15.push (.row (N .i64 3).cells false 3 0)) (.slc M15.next 0 1 (.ex 1)) [3]:=Sl.new (E:=INT) [3]
 generalize M15.push (.row (N .i64 3).cells false 3 0)=M16 at *
 have MR:ae [M1.next] M2 M16:=(kk JA).trans (k15.trans (kk k16))
 refine GZ (hi:=hi) ((MR.base.trans k02.base).trans hB) (aK.keep s15 k16 (by simp)) (by simp) NP (by simp) (by simp) (b15.keep k16 (by simp)) (by simp) s16 (by simp) (fun s v17 M17 e17 _ k17 o17=>?_) (fun e M17 e17 _ _=>(qo pD e17).elim)
 obtain rfl:=rf pD e17
 simp only[bn,bq]
 refine AU (hi:=hi) ((k17.base.trans (MR.base.trans k02.base)).trans hB) (Bs.own o17) (by have:=lD; omega) (fun m p l out r T9 Tn Qt M18 e18 h181 Tc _ _ _ k18 SH Qr=>?_) (fun e M18 e18 _ _=>(qo rD e18).elim)
 have Qj:=rf rD e18
 simp only[Prod.mk.injEq] at Qj
 obtain⟨⟨rfl,rfl,rfl,rfl⟩,rfl⟩:=Qj
 have Rb:T9=sD.length:=by
  have:=congrArg List.length Tc
  simp at this; omega
 subst Rb
 simp only[bn,bq,eO]
 have c18:([St mF,St sj,Tn,Qt] : List AV).all oneCell=true:=by
  have h1:=Own.one SH; have h2:=Own.one Qr
  simp only[List.all_cons,List.all_nil,h1,h2]; rfl
 refine Eu (K:=fun t Tw=>_) 4 rfl rfl c18 fun M19 k19 n19 l19=>?_
 -- what stands at the end
 have SQ:ae [M1.next] M3 M19:=by
  have a:=kk (k35.trans (k6.trans (k7.trans (k8.trans (k9.trans (k10.trans (k11.trans (k12.trans (k13.trans k14)))))))))
  exact a.trans (k15.trans (kk (k16.trans (k17.trans (k18.trans k19)))))
 have bA:Bs M19 v3 sA:=(Bs.own o3).keep SQ (fun x hx hm=>by have:=(Own.blk o3 x hx).1; simp at hm; omega)
 have QM:ae [M1.next] M10 M19:=(kk (k11.trans (k12.trans (k13.trans k14)))).trans (k15.trans (kk (k16.trans (k17.trans (k18.trans k19)))))
 have bC:Bs M19 v10 sC:=(Bs.own o10).keep QM (fun x hx hm=>by have:=(Own.blk o10 x hx).1; have:=k29.next; simp at hm; omega)
 have NH:ae [M1.next] M12 M19:=(kk (k13.trans k14)).trans (k15.trans (kk (k16.trans (k17.trans (k18.trans k19)))))
 have h11:M19.heap M11.next=some (.row [N .i64 ((404:Nat) : Int),Cn,CS] false 34 0):=NH.aP n12 l12 (by
  have:=(IB.trans k11).next; simp; omega)
 have TM:Bs M19 CS [110,111]:=((Bs.own Mk).keep k12 (by simp)).keep NH (fun x hx hm=>by have:=(Own.blk Mk x hx).1; have:=IB.next; simp at hm; omega)
 have bD:Bs M19 v17 sD:=(Bs.own o17).keep (k18.trans k19) (by simp)
 have TD:Bs M19 Qt [97,98,99,100]:=(Bs.own Qr).keep k19 (by simp)
 have go1:∀ {α:Type} [BEq α] [LawfulBEq α] (a:α),(a == a)=true:=fun a=>beq_self_eq_true a
 simp only[cZ,bR,aX,dQ,go1]
 rw[bA.str]
 simp only[cZ,bR,aX,dQ,go1]
 rw[bA.len]
 rw[aX,show(((44:Nat) : Int) == ((sA.length:Nat) : Int))=true by decide]
 simp only[cZ,bR,aX,dQ,go1]
 rw[bC.len]
 simp only[cZ,bR,aX,dQ,go1,jD,Nat.zero_add]
 rw[aO h11 rfl]
 rw[aX,show(((404:Nat) : Int) == 404)=true from rfl]
 simp only[cZ,bR,aX,dQ,go1]
 rw[aO h11 rfl,TM.str]
 simp only[cZ,bR,aX,dQ,go1]
 rw[bD.len]
 simp only[cZ,bR,aX,dQ,go1]
 rw[aO n19 rfl,TD.str]
 simp only[cZ,bR,aX,dQ,go1]
 exact hQ _ (qD k02 (MR.trans (kk (k17.trans (k18.trans k19)))) (by have:=k1.next; omega))
end
section
variable {w0:World} {hi:Iv w0}
end
section
variable {w0:World} {hi:Iv w0}
end
end Go.Ab.Hw
namespace Go.Ab.Hw
open Go Go.Ab Go.Ab.Sm Go.RowKit Go.Proofs
open Go.Proofs.YtmjcgbaacndblaaGreatDoor
open Go.Ab.Vl (oV mO)
def Ul (d:Except Nat Str) (M M' : RM) (v:AV) (n:Nat) : Prop:=(∃ s,d=.ok s∧s.length≤100000000∧Ow BY M' M.next 5 v s∧n=0)∨(d=.error n∧(n=1∨n=2)∧v=aH)
structure yV (M:RM) (hv bv:AV) (m p body:Str) (l:List Hd) : Prop where
 hs:Sl HD M hv l
 hb:Bs M bv body
 ll:∀ h∈l,h.1.length≤281474976710656∧h.2.length≤281474976710656
 lm:m.length≤281474976710656
 lp:p.length≤281474976710656
theorem yV.keep {M M' : RM} {hv bv:AV} {m p body:Str} {l:List Hd} (h:yV M hv bv m p body l) (k:ae [] M M') : yV M' hv bv m p body l:=⟨aK.keep h.hs k (by simp),h.hb.keep k (by simp),h.ll,h.lm,h.lp⟩
section
variable {w0:World} {hi:Iv w0}
theorem Nl {M:RM} {hv bv:AV} {m p body:Str} {l:List Hd} {Q:ah} (hB:M.base=base w0 hi) (h:yV M hv bv m p body l) (h1:l.length≤1000) (h2:body.length≤2000)
  (hQ:∀ v n M',Ul (jq m p l body) M M' v n→ae [] M M'→Q (.tup [v,N .i64 (n:Int)]) M') : au 12 [.agg [St m,St p,hv,bv]] M Q :=
 DN (hi:=hi) hB h.hs h1 h.ll h.lm h.lp h.hb.sl (by omega) (fun s v M' e hl k o=>hQ v 0 M' (.inl ⟨s,e,by omega,o,rfl⟩) k) (fun e M' h3 h4 k=>hQ aH e M' (.inr ⟨h3,h4,rfl⟩) k)
theorem Un {n:Nat} {K:AV→Prop} : af .neq (N .i64 (n:Int)) (N .i64 0) K=K (Bo (n != 0)):=by
 rw[gD]
 congr 2
 cases n with
 | zero=>rfl
 | succ k => 
   have:((k + 1:Nat) : Int)≠0:=by omega
   rw[bne_iff_ne.2 this]; rfl
end
theorem OD {M:RM} {base T:Nat} {v:AV} {s:Str} (h:Ow BY M base T v s) (hs:s≠[]) : ∃ b,v=.slc b 0 s.length (.op 1)∧base≤b∧Rw BY M b true T s:=by
 unfold Ow at h
 generalize hc:BY.row s=cs at h
 generalize hn:s.length=n at h
 cases h with
 | nil=>exact absurd (List.length_eq_zero_iff.1 hn) hs
 | ex0 b o _ _ _=>exact absurd (List.length_eq_zero_iff.1 hn) hs
 | op b n cs h1 h2 h3 h4=>subst hc; exact⟨b,rfl,h1,h3,h2⟩
theorem O4 {b n i:Nat} {c:Cap} {K:AV→Prop} (h:i<n) : bV (.slc b 0 n c) (N .i64 (i:Int)) 1 K=K (.ptr b i):=by
 rw[nI,Nat.zero_add,Nat.mul_one,Int.toNat_natCast]
 apply propext
 constructor
 ·exact fun h=>h.2.2
 ·exact fun k=>⟨by omega,by omega,k⟩
theorem OA {P A T:Str} {x:UInt8} {i:Nat} (hi:i=P.length) : (P++(x :: A++T))[i]?=some x:=by
 subst hi
 rw[List.getElem?_append_right (Nat.le_refl _),Nat.sub_self]
 rfl
theorem KW {M:RM} {b T:Nat} {c:Str} {x:UInt8} {i:Nat} (h:Rw BY M b true T c) (hx:c[i]?=some x) {K:AV→Prop} : aj M (.ptr b i) K=K (By x):=by
 refine aO h.heap ?_
 have hi:i<c.length:=by
  rcases Nat.lt_or_ge i c.length with h | h
  ·exact h
  ·rw[List.getElem?_eq_none h] at hx; cases hx
 have e:c[i]=x:=by rw[List.getElem?_eq_getElem hi] at hx; exact Option.some.inj hx
 rw[xC,List.getElem?_map,hx]
 rfl
theorem set_mid {P A T:Str} {x y:UInt8} {i:Nat} (hi:i=P.length) : (P++(x :: A++T)).set i y=(P++[y])++(A++T):=by
 subst hi
 rw[List.set_append_right _ _ (Nat.le_refl _),Nat.sub_self]
 simp
def Fin (H body c:Str) : Prop:=∃ Z,Vr H 0 Z∧c=Z++body
structure Let (H body:Str) (n b:Nat) (M:RM) (i m:Nat) (P A T:Str) : Prop where
 row:Rw BY M b true 5 (P++(A++T))
 len:P.length + (A.length + T.length)=n
 at_:i=P.length∨(A=[]∧P.length≤i)
 tl:T.length≤body.length
 al:A≠[]→T.length=body.length
 fin:∀ B,Vr A m B→Fin H body (P++(B++T))
theorem Let.step {H body:Str} {n b:Nat} {M M' : RM} {i m m' : Nat} {P A T:Str} {x y:UInt8} (h:Let H body n b M i m P (x :: A) T) (hr:Rw BY M' b true 5 ((P++[y])++(A++T))) (hv:∀ B,Vr A m' B→Vr (x :: A) m (y :: B)) :
  Let H body n b M' (i + 1) m' (P++[y]) A T:=by
 have hi:i=P.length:=by rcases h.at_ with h | h; exact h; exact absurd h.1 (by simp)
 refine⟨hr, ?_,.inl (by simp; omega),h.tl,fun _=>h.al (by simp),fun B hB=>?_⟩
 ·have:=h.len
  simp at this ⊢
  omega
 ·have:=h.fin (y :: B) (hv B hB)
  simpa using this
theorem Di (P A T:Str) (x:UInt8) : P++(x :: A++T)=(P++[x])++(A++T):=by simp
section
variable {w0:World} {hi:Iv w0}
theorem JD {M:RM} {hv bv:AV} {m p body:Str} {l:List Hd} {up:Int} {Q:ah} (hB:M.base=base w0 hi) (ha:yV M hv bv m p body l) (hQ:∀ M',Q (Bo true) M') :
  au 9 [.agg [St m,St p,hv,bv],N .i64 up] M Q:=by
 refine ny ?_
 unfold kQ
 have o1:=aK.one ha.hs
 have o2:=aK.one ha.hb.sl
 rw[ku (by simp only[List.all_cons,List.all_nil,o1,o2]; rfl) (by simp)]
 simp only[aT (x:=.row [St m,St p,hv,bv] false 26 0)]
 have k0:ae [] M (M.push (.row [St m,St p,hv,bv] false 26 0)):=(ae.refl _ _).push _
 have n1:(M.push (.row [St m,St p,hv,bv] false 26 0)).heap M.next=some (.row [St m,St p,hv,bv] false 26 0):=by simp[RM.push]
 have l2' : (M.push (.row [St m,St p,hv,bv] false 26 0)).next=M.next + 1:=rfl
 generalize M.push (.row [St m,St p,hv,bv] false 26 0)=M0 at *
 have hB0:=k0.base.trans hB
 have ha0:=ha.keep k0
 clear ha
 refine Qa (hi:=hi) hB0 fun M1 k1=>?_
 simp only[di,Bool.not_true,aY]
 have A:∀ {M' : RM} {bs:List Nat},ae bs M0 M'→M.next ∉ bs→M'.heap M.next=some (.row [St m,St p,hv,bv] false 26 0):=fun k h=>k.aP n1 (by omega) h
 have a2:∀ {K:AV→Prop},aj M1 (.ptr M.next 2) K=K hv:=aO (A k1 (by simp)) rfl
 have a3:∀ {K:AV→Prop},aj M1 (.ptr M.next 3) K=K bv:=aO (A k1 (by simp)) rfl
 have ha1:=ha0.keep k1
 have L1:∀ {K:AV→Prop},aR bv K=K (N .i64 (body.length:Int)):=ha1.hb.len
 have L4:∀ {K:AV→Prop},aR hv K=K (N .i64 (l.length:Int)):=aK.len ha1.hs
 simp only[jd,a3,L1,ed]
 cases c1:decide ((body.length:Int) > 1000) with
 | true=>simp only[eX,cZ,bP]; exact hQ _
 | false =>
 simp only[dN,dK,a2,L4,ed]
 refine cO (fun _=>hQ _) fun c4=>?_
 have g1:body.length≤1000:=by simp at c1; omega
 have g4:l.length≤20:=by simp at c4; omega
 rw[bW (A k1 (by simp)) (by rfl)]
 refine Nl (hi:=hi) (k1.base.trans hB0) ha1 (by omega) (by omega) fun v6 n6 M6 r6 k6=>?_
 simp only[bn,bq,Un]
 have k06:=k1.trans k6
 rcases r6 with⟨s,es,hs,o6,rfl⟩ | ⟨_,h6,_⟩
 rotate_left
 ·rw[show(n6 != 0)=true by rcases h6 with rfl | rfl <;> rfl,bP]
  exact hQ _
 rw[show((0:Nat) != 0)=false from rfl,aY,Ey]
 simp only[aT (x:=.row [] false 5 0)]
 have k9' : ae [] M6 (M6.push (.row [] false 5 0)):=(ae.refl _ _).push _
 refine nW (E:=BY) (Ow.lit BY M6) (by simp[RM.push]) (by decide) (aK.keep (Own.l8 o6) k9' (by simp)) (by simp; omega) (by simp; omega) fun w9 M9 o9 k9 _ _=>?_
 have k69:ae [] M6 M9:=ae.own k9' k9 (fun b hb=>by simp[aL] at hb; omega)
 have k09:=k06.trans k69
 rw[List.nil_append] at o9
 obtain⟨H,rfl,hread⟩:=EI es
 have hne:H++body≠[]:=by
  intro e
  have hH:H=[]:=by
   cases H with
   | nil=>rfl
   | cons a b=>cases e
  have hb:body=[]:=by
   cases body with
   | nil=>rfl
   | cons a b=>rw[hH] at e; cases e
  obtain⟨L,_,hr⟩:=hread [] (by rw[hH]; rfl)
  rw[hb] at hr
  cases hr
 obtain⟨b,rfl,hbb,r9⟩:=OD o9 hne
 generalize hn:(H++body).length=n at *
 have hnl:H.length + body.length=n:=by rw[← hn]; simp
 have l6:∀ {K:AV→Prop},aR v6 K=K (N .i64 (n:Int)):=by
  intro K
  rw[← hn]
  exact aK.len (Own.l8 o6)
 have bne:M.next ∉ [b]:=by
  have:=k06.next
  simp; omega
 have bv0:∀ x∈aL bv,x ∉ [b]:=fun x hx hm=>by
  have:=ha0.hb.lt x hx
  have:=k06.next
  simp at hm; omega
 have hv0:∀ x∈aL hv,x ∉ [b]:=fun x hx hm=>by
  have:=aK.lt ha0.hs x hx
  have:=k06.next
  simp at hm; omega
 refine dL (fun z ys M3=>∃ (i k:Nat) (P A T:Str),z=n + 1 - i∧ys=[N .i64 (k:Int),N .i64 (i:Int)]∧i≤n + 1∧k≤i∧ae [b] M9 M3∧Let H body n b M3 i (if k=0 then 0 else 1) P A T) _
  ⟨0,0,[],H,body,rfl,rfl,Nat.zero_le _,Nat.le_refl _,ae.refl _ _,r9,by simp[hnl],.inl rfl,Nat.le_refl _,fun _=>rfl,fun B hB=>⟨B,hB,rfl⟩⟩ ?_
 rintro next z ys M3 hnext ⟨i,k,P,A',T,rfl,rfl,hin,hki,k3,st⟩
 have k03:ae [b] M0 M3:=(k09.mono (by simp)).trans k3
 have q3:∀ {K:AV→Prop},aj M3 (.ptr M.next 3) K=K bv:=aO (A k03 bne) rfl
 have ll:∀ {K:AV→Prop},aR (.slc b 0 n (.op 1)) K=K (N .i64 (n:Int)):=jo _ _ _ _
 simp only[aZ,bZ,jd,ll,q3,L1]
 rw[FL (by omega) (by omega),vC]
 have hnb:n - body.length=H.length:=by omega
 rw[hnb]
 have hlen:=st.len
 refine cO (fun h=>?_) fun h=>?_
 ·have hlt:i<H.length:=by simpa using h
  have hne' : A'≠[]:=by
   intro e
   have h1:=st.tl
   rw[e] at hlen
   simp at hlen
   rcases st.at_ with h2 | h2 <;> omega
  obtain⟨x,A',rfl⟩ : ∃ x a,A'=x :: a:=by
   cases A' with
   | nil=>exact absurd rfl hne'
   | cons x a=>exact⟨x,a,rfl⟩
  have hiP:i=P.length:=by rcases st.at_ with h2 | h2; exact h2; exact absurd h2.1 hne'
  have hin' : i<n:=by omega
  have hx:(P++(x :: A'++T))[i]?=some x:=OA hiP
  have ix:∀ {K:AV→Prop},bV (.slc b 0 n (.op 1)) (N .i64 (i:Int)) 1 K=K (.ptr b i):=O4 hin'
  have lx:∀ {K:AV→Prop},aj M3 (.ptr b i) K=K (By x):=KW st.row hx
  have st_:∀ {y:UInt8} {m' : Nat} {M4:RM},Rw BY M4 b true 5 ((P++[y])++(A'++T))→(∀ B,Vr A' m' B→Vr (x :: A') (if k=0 then 0 else 1) (y :: B))→Let H body n b M4 (i + 1) m' (P++[y]) A' T:=fun hr hv=>st.step hr hv
  have same:∀ {m' : Nat},(∀ B,Vr A' m' B→Vr (x :: A') (if k=0 then 0 else 1) (x :: B))→Let H body n b M3 (i + 1) m' (P++[x]) A' T:=fun hv=>st.step (by rw[← Di]; exact st.row) hv
  simp only[oV]
  refine mO (fun xs M4=>∃ (i4 k4:Nat) (P4 A4 T4:Str),xs=[N .i64 (k4:Int),N .i64 (i4:Int)]∧i≤i4∧i4≤n∧k4≤i4 + 1∧ae [b] M9 M4∧Let H body n b M4 (i4 + 1) (if k4=0 then 0 else 1) P4 A4 T4) ?_ ?_
  ·rintro xs M4 ⟨i4,k4,P4,A4,T4,rfl,h1,h2,h3,h4,s4⟩
   simp only[aZ,bZ]
   rw[add1 (by omega)]
   exact hnext _ _ _ (by omega) ⟨i4 + 1,k4,P4,A4,T4,rfl,rfl,by omega,by omega,h4,s4⟩
  ·intro J hJ
   refine mO (fun xs M4=>M4=M3∧xs=[N .i64 (((if x=10 then k + 1 else k) : Nat) : Int)]) ?_ ?_
   ·rintro xs M4 ⟨rfl,rfl⟩
    simp only[aZ]
    have e0:((((if x=10 then k + 1 else k) : Nat) : Int) == 0)=decide ((if x=10 then k + 1 else k)=0):=by
     rw[Bool.eq_iff_iff,beq_iff_eq,decide_eq_true_iff]; omega
    rw[aX,e0]
    refine cO (fun h=>?_) fun h=>?_
    ·have h:=of_decide_eq_true h
     have Jl:x≠10:=fun e=>by rw[if_pos e] at h; omega
     rw[if_neg Jl] at h ⊢
     subst h
     refine hJ _ _ ⟨i,0,_,_,_,rfl,Nat.le_refl _,by omega,by omega,k3,same (m':=0) fun B hB=>⟨x,B,rfl,rfl, ?_⟩⟩
     have:(x == 10)=false:=by simpa using Jl
     rw[this]
     exact hB
    ·have h:=of_decide_eq_false h
     generalize hk' : (if x=10 then k + 1 else k)=k' at *
     have hk1:k'≤i + 1:=by rw[← hk']; split <;> omega
     rw[ix,lx,By,aX]
     have e58:(((x.toNat:Nat) : Int) == 58)=(x == 58):=by
      rw[Bool.eq_iff_iff,beq_iff_eq,beq_iff_eq]
      constructor
      ·intro e
       have:x.toNat=58:=by omega
       exact UInt8.toNat_inj.1 this
      ·intro e; rw[e]; rfl
     rw[e58]
     refine cO (fun h58=>?_) fun h58=>?_
     ·have Mj:x=58:=eq_of_beq h58
      subst Mj
      rw[if_neg (by decide)] at hk'
      subst hk'
      have st2:Let H body n b M4 i 2 P (58 :: A') T:=⟨st.row,st.len,st.at_,st.tl,st.al,fun B hB=>st.fin B (by
       rw[if_neg h]
       obtain⟨y,b',e,h1,h2⟩:=hB
       exact⟨y,b',e,by show(if ((58:UInt8) == 58)=true then _ else _); rw[if_pos (show((58:UInt8) == 58)=true from rfl)]; exact⟨h1,h2⟩⟩)⟩
      refine dL (fun z ys M5=>∃ (j:Nat) (P A T:Str),z=n - j∧ys=[N .i64 (j:Int)]∧M5=M4∧i≤j∧j=P.length∧Let H body n b M4 j 2 P A T) _ ⟨i,P,58 :: A',T,rfl,rfl,rfl,Nat.le_refl _,hiP,st2⟩ ?_
      rintro Ro z ys M5 ET ⟨j,P2,A2,T2,rfl,rfl,rfl,hij,hj,s2⟩
      have hl2:=s2.len
      simp only[aZ,ll,vC]
      -- the byte at j
      have exit:Let H body n b M5 (j + 1) 1 (P2++[]) A2 T2∨True:=.inr trivial
      rcases hA:A2++T2 with _ | ⟨y,R⟩
      ·have hA0:A2=[]:=(List.append_eq_nil_iff.1 hA).1
       have hT0:T2=[]:=(List.append_eq_nil_iff.1 hA).2
       subst hA0 hT0
       have hjn:j=n:=by simp at hl2; omega
       rw[show decide (j<n)=false by simp; omega]
       simp only[fU,dK,aY]
       refine hJ _ _ ⟨j,k,P2,[],[],rfl,hij,by omega,by omega,k3,s2.row,s2.len,.inr ⟨rfl,by omega⟩,s2.tl,fun h=>absurd rfl h,fun B hB=>?_⟩
       exact s2.fin B (by rw[show B=[] from hB]; rfl)
      ·have hjn:j<n:=by
        have:=congrArg List.length hA
        simp at this; omega
       have hy:(P2++(A2++T2))[j]?=some y:=by rw[hA,hj,List.getElem?_append_right (Nat.le_refl _),Nat.sub_self]; rfl
       have iy:∀ {K:AV→Prop},bV (.slc b 0 n (.op 1)) (N .i64 (j:Int)) 1 K=K (.ptr b j):=O4 hjn
       have ly:∀ {K:AV→Prop},aj M5 (.ptr b j) K=K (By y):=KW s2.row hy
       have e10:(((y.toNat:Nat) : Int) != 10)=(y != 10):=congrArg (!·) (PM y 10 (by decide))
       rw[show decide (j<n)=true by simp; omega]
       simp only[bR,iy,ly,By,gD,cZ,e10]
       -- the state one byte further
       have fwd:∀ m',(m'=if y=10 then 1 else 2)→∃ P A T,Let H body n b M5 (j + 1) m' P A T∧j + 1=P.length:=by
        intro m' hm'
        cases A2 with
        | nil =>
          rw[List.nil_append] at hA
          refine⟨P2++[y],[],R,⟨by have:=s2.row; rw[hA] at this; simpa [hA] using this,by rw[hA] at hl2; simp at hl2 ⊢; omega,.inl (by simp; omega), ?_,fun h=>absurd rfl h,fun B hB=>?_⟩,by simp; omega⟩
          ·have:=s2.tl; rw[hA] at this; simp at this; omega
          ·have:=s2.fin [] rfl
           rw[show B=[] from hB]
           rw[hA] at this
           simpa using this
        | cons a A3 =>
          have hya:y=a:=(List.cons.inj hA).1.symm
          subst hya
          refine⟨P2++[y],A3,T2,s2.step (by rw[← Di]; exact s2.row) (fun B hB=>⟨y,B,rfl,rfl, ?_⟩),by simp; omega⟩
          rw[hm'] at hB
          by_cases h10:y=10
          ·subst h10; exact hB
          ·rw[if_neg h10] at hB
           rw[show(y == 10)=false by simpa using h10]
           exact hB
       refine cO (fun AA=>?_) fun AA=>?_
       ·have AA:y≠10:=by simpa using AA
        obtain⟨P3,A3,T3,s3,hj3⟩:=fwd 2 (by rw[if_neg AA])
        rw[add1 (by omega)]
        exact ET _ _ _ (by omega) ⟨j + 1,P3,A3,T3,rfl,rfl,rfl,by omega,hj3,s3⟩
       ·have AA:y=10:=by simpa using AA
        obtain⟨P3,A3,T3,s3,hj3⟩:=fwd 1 (by rw[if_pos AA])
        refine hJ _ _ ⟨j,k,P3,A3,T3,rfl,hij,by omega,by omega,k3, ?_⟩
        rw[if_neg h]
        exact s3
     ·have Mj:¬ (x == 58)=true:=by rw[h58]; decide
      -- the state one byte further,the byte as it was or a great one
      have NM:∀ {y:UInt8} {M6:RM},(y=x∨(tT x=true∧y=x - 32))→Rw BY M6 b true 5 ((P++[y])++(A'++T))→Let H body n b M6 (i + 1) (if k'=0 then 0 else 1) (P++[y]) A' T:=by
       intro y M6 hy hr
       rw[if_neg h]
       refine st.step hr fun B hB=>?_
       by_cases hk0:k=0
       ·rw[if_pos hk0]
        have Jl:x=10:=by
         by_cases e:x=10
         ·exact e
         ·rw[if_neg e] at hk'; omega
        subst Jl
        have:y=10:=by
         rcases hy with h | h
         ·exact h
         ·exact absurd h.1 (by decide)
        subst this
        exact⟨10,B,rfl,rfl,hB⟩
       ·rw[if_neg hk0]
        exact⟨y,B,rfl,by show(if (x == 58)=true then _ else _); rw[if_neg Mj]; exact⟨hy,hB⟩⟩
      have stay:∃ (i4 k4:Nat) (P4 A4 T4:Str),[N .i64 (k' : Int),N .i64 (i:Int)]=[N .i64 (k4:Int),N .i64 (i4:Int)]∧i≤i4∧i4≤n∧k4≤i4 + 1∧ae [b] M9 M4∧Let H body n b M4 (i4 + 1) (if k4=0 then 0 else 1) P4 A4 T4 :=
       ⟨i,k',P++[x],A',T,rfl,Nat.le_refl _,by omega,hk1,k3,NM (.inl rfl) (by rw[← Di]; exact st.row)⟩
      rw[ix,lx,By,dx]
      cases c97:decide (((x.toNat:Nat) : Int) ≥ 97) with
      | false=>simp only[fU,dK,aY]; exact hJ _ _ stay
      | true =>
      simp only[bR,ix,lx,By,nR,cZ]
      cases TF:decide (((x.toNat:Nat) : Int)≤122) with
      | false=>simp only[fU,dK,aY]; exact hJ _ _ stay
      | true =>
      simp only[bR,cZ,Nw,kG,Iw,AL,aX]
      refine⟨by decide, ?_, ?_⟩
      ·have h1:((i:Int)).tmod 30=((i % 30:Nat) : Int):=by rw[Int.natCast_emod]; exact Int.tmod_eq_emod_of_nonneg (by omega)
       rw[h1]
       exact Int.emod_nonneg _ (by decide)
      refine cO (fun _=>?_) fun _=>hJ _ _ stay
      have hlc:tT x=true:=by
       unfold tT
       simp only[Bool.and_eq_true,Nat.ble_eq]
       have h1:=of_decide_eq_true c97
       have h2:=of_decide_eq_true TF
       omega
      have hsub:IntKind.u8.wrap ((x.toNat:Int) - 32)=((x - 32:UInt8).toNat:Int):=by
       have h1:=of_decide_eq_true c97
       have h2:=yQ x
       rw[iq (by omega) (by omega),UInt8.toNat_sub]
       show _=(((256 - 32 + x.toNat) % 256:Nat) : Int)
       omega
      have hil:i<(P++(x :: A'++T)).length:=by simp; omega
      obtain⟨hst,hrw⟩:=st.row.FP hil (x - 32)
      rw[set_mid hiP] at hst hrw
      rw[lx,By,jv,hsub,vB]
      refine⟨rfl,_,hst, ?_⟩
      refine hJ _ _ ⟨i,k',P++[x - 32],A',T,rfl,Nat.le_refl _,by omega,hk1,k3.put _ (.inr (by simp)),NM (.inr ⟨hlc,rfl⟩) hrw⟩
   ·intro J2 hJ2
    rw[ix,lx,By,aX]
    have e10:(((x.toNat:Nat) : Int) == 10)=(x == 10):=by
     rw[Bool.eq_iff_iff,beq_iff_eq,beq_iff_eq]
     constructor
     ·intro e
      have:x.toNat=10:=by omega
      exact UInt8.toNat_inj.1 this
     ·intro e; rw[e]; rfl
    rw[e10]
    refine cO (fun h=>?_) fun h=>?_
    ·rw[add1 (by omega)]
     have:x=10:=eq_of_beq h
     exact hJ2 _ _ ⟨rfl,by rw[if_pos this]⟩
    ·have:x≠10:=by simpa using h
     exact hJ2 _ _ ⟨rfl,by rw[if_neg this]⟩
 ·have hge:¬ i<H.length:=by simpa using h
  have hA0:A'=[]:=by
   cases hA:A' with
   | nil=>rfl
   | cons x a =>
     have h1:=st.al (by rw[hA]; simp)
     have h2:i=P.length:=by rcases st.at_ with h | h; exact h; rw[h.1] at hA; cases hA
     rw[hA] at hlen
     simp at hlen
     omega
  subst hA0
  obtain⟨Z,hZ,ec⟩:=st.fin [] rfl
  have row:=st.row
  rw[ec] at row
  have hzl:(Z++body).length=n:=by rw[← ec]; simpa using hlen
  obtain⟨L,hL,hr⟩:=hread Z hZ
  have bs:Bs M3 (.slc b 0 n (.op 1)) (Z++body):=⟨by have:=row.sl (cap:=.op 1); rw[hzl] at this; exact this,rfl⟩
  refine AU (hi:=hi) (k03.base.trans hB0) bs (by omega) (fun m' p' l' out r at2 hv' ov M11 e11 hat SI _ _ _ k11 oh ob=>?_) (fun e M11 e11 _ _=>(qo hr e11).elim)
  have F9:=rf hr e11
  simp only[Prod.mk.injEq] at F9
  obtain⟨⟨rfl,rfl,rfl,rfl⟩,rfl⟩:=F9
  have hat' : at2=n:=by
   have:=congrArg List.length SI
   simp only[List.length_drop,List.length_nil] at this
   omega
  subst hat'
  simp only[bn,bq,eO]
  have c11:([St m,St p,hv',ov] : List AV).all oneCell=true:=by
   have h1:=Own.one oh; have h2:=Own.one ob
   simp only[List.all_cons,List.all_nil,h1,h2]; rfl
  refine Eu (K:=fun t Tw=>_) 4 rfl rfl c11 fun M12 k12 n12 l12=>?_
  have Ua:ae [b] M3 M12:=(k11.trans k12).mono (by simp)
  have FD:=k03.trans Ua
  have d0:∀ {K:AV→Prop},aj M12 (.ptr M11.next 0) K=K (St m):=aO n12 rfl
  have d1:∀ {K:AV→Prop},aj M12 (.ptr M11.next 1) K=K (St p):=aO n12 rfl
  have d2:∀ {K:AV→Prop},aj M12 (.ptr M11.next 2) K=K hv':=aO n12 rfl
  have d3:∀ {K:AV→Prop},aj M12 (.ptr M11.next 3) K=K ov:=aO n12 rfl
  have f0:∀ {K:AV→Prop},aj M12 (.ptr M.next 0) K=K (St m):=aO (A FD bne) rfl
  have f1:∀ {K:AV→Prop},aj M12 (.ptr M.next 1) K=K (St p):=aO (A FD bne) rfl
  have f2:∀ {K:AV→Prop},aj M12 (.ptr M.next 2) K=K hv:=aO (A FD bne) rfl
  have f3:∀ {K:AV→Prop},aj M12 (.ptr M.next 3) K=K bv:=aO (A FD bne) rfl
  have s1:∀ {K:AV→Prop},dM M12 ov K=K (St body):=Sl.str (aK.keep (Own.l8 ob) k12 (by simp))
  have s2:∀ {K:AV→Prop},dM M12 bv K=K (St body):=(ha0.hb.keep FD bv0).str
  have l7:∀ {K:AV→Prop},aR hv' K=K (N .i64 (L.length:Int)):=aK.len (Own.l8 oh)
  have e01:(((0:Int)) == 0)=true:=rfl
  simp only[aX,e01,bR,cZ,l6,beq_self_eq_true,jd,d0,f0,dQ,d1,f1,d3,f3,s1,s2,d2,f2,l7,L4]
  rw[add1 (by omega),hL]
  simp only[aX,beq_self_eq_true]
  exact hQ _
end
end Go.Ab.Hw
namespace Go.Ab.Hw
open Go Go.Ab Go.RowKit Go.Proofs
open Go.Proofs.YtmjcgbaacndblaaGreatDoor
theorem wT {P:Program} {n:String} {d:DataW Unit} {r:List (String × DataW Unit)} {w:World} (h:laidMet P ((n,d) :: r) w) : laidMet P r w:=by
 obtain⟨ps,⟨g,t,cs,fuel,p,q,_,_,_,_,hs,rfl⟩,hnd,hall⟩:=h
 exact⟨q,hs,(List.nodup_append.1 hnd).2.1,fun b off hm=>hall b off (by simp[hm])⟩
theorem Oi:Rows.httpwireKnownRow.laid=("math/bits.deBruijn32tab",Rows.laid_math_bits_deBruijn32tab) :: ("math/bits.deBruijn64tab",Lib.tabData .u8 JM) :: ("internal/strconv.uint64pow10",Lib.tabData .u64 Lib.pow10Tab) :: Rows.httpwireKnownRow.laid.drop 3:=by kernel_rfl
theorem inv_of (w:World) (h:laidMetH Tryz.prog Rows.httpwireKnownRow.laid w) (hsh:w.ShapedOpen Tryz.prog) : Iv w:=by
 rw[MakeChecks.laidMetH_plain _ _ _ (by kernel_rfl),Oi] at h
 refine⟨cell_of_shapedOpen_int (g:=0) (t:=3) (zero := #[.int .i64 0]) hsh (by decide +kernel) (by kernel_rfl) (by kernel_rfl) (by kernel_rfl) (by kernel_rfl) (by kernel_rfl), ?_, ?_⟩
 ·exact Lib.tabIs_of_head (g:=3) (t:=152) (e:=126) (n:=20) g3 (by kernel_rfl) (by kernel_rfl) (by kernel_rfl) (by kernel_rfl) (by kernel_rfl) (wT (wT h))
 ·exact Lib.tabIs_of_head (g:=7) (t:=173) (e:=5) (n:=64) g7 (by kernel_rfl) (by kernel_rfl) (by kernel_rfl) (by kernel_rfl) (by kernel_rfl) (wT h)
theorem LJ {P:Program} {M:RM} {t e:TypeId} {v:AV} (h:Fits P M t [v]) (hu:P.underlying t=some (.slice e)) (hz:0<P.cellsOf e) : Jy v:=by
 generalize hc:[v]=cs at h
 cases h with
 | JB _ e' h1=>cases hc; trivial
 | emp _ e' b h1=>cases hc; trivial
 | slc _ e' b o n c ds h1 h2 h3 h4 h5 h6=>cases hc; exact h3
 | zero _ e' _ h1 h2=>rw[hu] at h1; cases h1; omega
 | _=>simp_all [qL]
theorem uM:reachBytes≤281474976710656:=by decide +kernel
theorem cells5:Tryz.prog.cellsOf 5=1:=by kernel_rfl
theorem KM:Tryz.prog.cellsOf 9=1:=by kernel_rfl
theorem Ot:Tryz.prog.cellsOf 23=1:=by kernel_rfl
theorem OL:Tryz.prog.cellsOf 24=1:=by kernel_rfl
theorem CY:Tryz.prog.cellsOf 56=2:=by kernel_rfl
theorem Ou:Tryz.prog.cellsOf 26=4:=by kernel_rfl
theorem OZ {M:RM} {cs:List AV} (h:Fits Tryz.prog M 5 cs) : ∃ k:UInt8,cs=[By k]:=by
 obtain⟨n,rfl,h1,h2⟩:=h.Ho Tryz.underlying5
 have h1:(0:Int)≤n:=h1
 have h2:n≤(255:Int):=h2
 refine⟨UInt8.ofNat n.toNat, ?_⟩
 have:((UInt8.ofNat n.toNat).toNat:Int)=n:=by
  rw[UInt8.toNat_ofNat']
  omega
 rw[By,this]
theorem Ki {M:RM} {cs:List AV} (h:Fits Tryz.prog M 24 cs) : ∃ v,∃ bs:Str,cs=[v]∧Bs M v bs:=by
 obtain⟨v,n,ds,rfl,hs,hb,he⟩:=h.DY Tryz.underlying24 (by rw[cells5]; decide)
 have hc:=LJ h Tryz.underlying24 (by rw[cells5]; decide)
 rw[cells5] at hs he
 obtain⟨xs,rfl,rfl,_⟩:=wK (size:=1) BY.cells (fun _=>True) (fun _=>rfl) n ds hs.length fun i hi=>by
  obtain⟨k,e⟩:=OZ (he i hi)
  exact⟨k,trivial,e⟩
 exact⟨v,xs,rfl,hs,hc⟩
theorem OG {M:RM} {cs:List AV} (h:Fits Tryz.prog M 56 cs) : ∃ x:Hd,(x.1.length≤281474976710656∧x.2.length≤281474976710656)∧cs=HD.cells x:=by
 obtain⟨hl,hf⟩:=h.Bg Tryz.underlying56
 rw[CY] at hl
 match cs,hl with
 | [a,b],_ =>
   have f0:Fits Tryz.prog M 9 (([a,b].drop 0).take (Tryz.prog.cellsOf 9)):=hf 0 _ rfl
   have f1:Fits Tryz.prog M 9 (([a,b].drop 1).take (Tryz.prog.cellsOf 9)):=hf 1 _ rfl
   rw[KM] at f0 f1
   obtain⟨s,e,g⟩:=f0.yB Tryz.underlying9
   obtain⟨t,e',g'⟩:=f1.yB Tryz.underlying9
   cases e; cases e'
   exact⟨(s,t),⟨Nat.le_trans g uM,Nat.le_trans g' uM⟩,rfl⟩
theorem Nf {M:RM} {cs:List AV} (h:Fits Tryz.prog M 23 cs) : ∃ v,∃ l:List Hd,cs=[v]∧Sl HD M v l∧∀ x∈l,x.1.length≤281474976710656∧x.2.length≤281474976710656:=by
 obtain⟨v,n,ds,rfl,hs,hb,he⟩:=h.DY Tryz.underlying23 (by rw[CY]; decide)
 rw[CY] at hs he
 obtain⟨xs,rfl,rfl,hp⟩:=wK (size:=2) HD.cells (fun x:Hd=>x.1.length≤281474976710656∧x.2.length≤281474976710656) (fun _=>rfl) n ds hs.length fun i hi=>by
  obtain⟨x,g,e⟩:=OG (he i hi)
  exact⟨x,g,e⟩
 exact⟨v,xs,rfl,hs,hp⟩
theorem Ni {M:RM} {cs:List AV} (h:Fits Tryz.prog M 26 cs) : ∃ (m p body:Str) (hv bv:AV) (l:List Hd),cs=[St m,St p,hv,bv]∧m.length≤281474976710656∧p.length≤281474976710656∧Sl HD M hv l∧(∀ x∈l,x.1.length≤281474976710656∧x.2.length≤281474976710656)∧Bs M bv body:=by
 obtain⟨hl,hf⟩:=h.Bg Tryz.underlying26
 rw[Ou] at hl
 match cs,hl with
 | [a,b,c,d],_ =>
   have f0:Fits Tryz.prog M 9 (([a,b,c,d].drop 0).take (Tryz.prog.cellsOf 9)):=hf 0 _ rfl
   have f1:Fits Tryz.prog M 9 (([a,b,c,d].drop 1).take (Tryz.prog.cellsOf 9)):=hf 1 _ rfl
   have f2:Fits Tryz.prog M 23 (([a,b,c,d].drop 2).take (Tryz.prog.cellsOf 23)):=hf 2 _ rfl
   have f3:Fits Tryz.prog M 24 (([a,b,c,d].drop 3).take (Tryz.prog.cellsOf 24)):=hf 3 _ rfl
   rw[KM] at f0 f1
   rw[Ot] at f2
   rw[OL] at f3
   obtain⟨s,e,g⟩:=f0.yB Tryz.underlying9
   obtain⟨t,e',g'⟩:=f1.yB Tryz.underlying9
   obtain⟨hv,l,e2,s2,g2⟩:=Nf f2
   obtain⟨bv,bs,e3,s3⟩:=Ki f3
   cases e; cases e'; cases e2; cases e3
   exact⟨s,t,bs,_,_,l,rfl,Nat.le_trans g uM,Nat.le_trans g' uM,s2,g2,s3⟩
end Go.Ab.Hw
namespace Go.Proofs.YtmjcgbaacndblaaGreatDoor.httpwireLetters
open Go Go.Ab Go.ChangeShapes Go.WideShapes Go.ChangeAt Go.RowKit
theorem own:ownKnob Tryz.prog.godebug=none:=by kernel_rfl
open Go.Ab.Hw
def Inv (w:World) : Prop:=Iv w
theorem inv_of (w:World) (h:laidMetH Tryz.prog Rows.httpwireLettersRow.laid w) (hsh:w.ShapedOpen Tryz.prog) : Inv w:=Go.Ab.Hw.inv_of w h hsh
theorem walk (w:World) (hi:Inv w) (v0 v1:Value) (h0:mW Tryz.prog (RM.old (base w hi) w) 26 (qJ w.heap.size v0)) (h1:mW Tryz.prog (RM.old (base w hi) w) 3 (qJ w.heap.size v1)) :
  Calls Tryz.prog 9 #[v0,v1] w fun e w'=>e=.returned (.bool true)∧Below w.heap.size w w':=by
 obtain⟨cs0,f0,hf0⟩:=h0.agg (by kernel_rfl)
 obtain⟨m0,p0,y0,hv0,bv0,l0,e0,gm0,gp0,gs0,gl0,gb0⟩:=Ni hf0
 rw[e0] at f0
 have r0:yV (RM.old (base w hi) w) hv0 bv0 m0 p0 y0 l0:=⟨gs0,gb0,gl0,gm0,gp0⟩
 obtain⟨n1,e1,_⟩:=(h1.one (by kernel_rfl)).Ho Tryz.underlying3
 refine dH.close (base:=base w hi) rfl hi ?_
 simp only[List.map_cons,List.map_nil]
 rw[show qJ (base w hi).n v0=.agg [St m0,St p0,hv0,bv0] from f0,show qJ (base w hi).n v1=N .i64 n1 from(List.cons.inj e1).1]
 exact JD (hi:=hi) rfl r0 fun M'=>rfl
set_option maxRecDepth 100000 in
theorem lifted (os:Os) (started:os.Started) (H:Type) (enc:TypeId × Value→H) :
  ReturnsInHanded {} Tryz.checked os 9 .any (fun w args=>(Rows.httpwireLettersSpec.pre enc Tryz.prog Tryz.f9 Rows.httpwireLettersRow.domain false w args∧laidMetH Tryz.prog Rows.httpwireLettersRow.laid w)∧sizedMet enc Tryz.prog Tryz.f9 (OpenSpec.ofChange Rows.httpwireLettersSpec) false w args)
   (Rows.httpwireLettersSpec.post enc Tryz.prog Tryz.f9 false true false false):=by
 refine zA (C:=Tryz.checked) (X:=fun w _=>laidMetH Tryz.prog Rows.httpwireLettersRow.laid w) (fun _ _ _ hh h=>h.of_heap hh) own started (by kernel_rfl) Tryz.func9
  (ChangeSpec.witness_shaped (enc:=enc) (C:=Tryz.checked) (os:=os) (X:=fun w _=>laidMetH Tryz.prog Rows.httpwireLettersRow.laid w) false (World.laidAll Tryz.prog os Rows.httpwireLettersRow.laid) #[.agg ⟨[.string ⟨#[]⟩,.string ⟨#[]⟩,.slice none 0 0,.slice none 0 0]⟩,.int .i64 0] 8 (World.laidAll_os _ _ _)
   (World.shaped_of_ZipB (by kernel_rfl) (by kernel_rfl)) (by kernel_rfl) (by kernel_rfl) (by kernel_rfl)
   (by rw[MakeChecks.laidMetH_plain _ _ _ (by kernel_rfl)]; exact laidMet_laidAll _ (by kernel_rfl) (by kernel_rfl))) ?_
 intro W b0 args ds gs before hval hW hcnd hwt hL hsh _
 have hW':=hW
 obtain⟨p,q,hA,hV,rfl,hfz,hnd⟩:=hW
 rw[Tryz.params9] at hA hwt
 have hi:Inv W:=inv_of W hL hsh
 obtain⟨rfl,rfl⟩:=trodVars_none hV
 have hfit:=Fv (base:=base W hi) rfl hA (fun j t v hj hv=>hval j t v (by rw[Tryz.params9]; simpa using hj) (by simpa using hv)) (fun y hy=>by
  have Tu:(DataW.weightsEach Tryz.prog [26,3] (ds++[])).all (· ≤ reachBytes)=true:=hwt
  have:=List.all_eq_true.1 Tu y (by rw[List.append_nil]; exact hy)
  simpa using this)
 simp only[List.append_nil] at hW'
 have hlt:∀ x∈p,x.block<W.heap.size:=fun x hx=>hW'.lt x hx
 obtain⟨v0,v1,d0,d1,p0,p1,rfl,rfl,rfl,h0,h1⟩:=trodAll_two hA
 refine(walk W hi v0 v1 (hfit 0 _ _ rfl rfl) (hfit 1 _ _ rfl rfl)).mono fun e W' ⟨he,hg⟩=>?_
 subst he
 exact⟨_,rfl,Ed (pa:=_) (pv:=[]) hW' (fun _ _ _=>(trodAll_cons_mk (shut_bool Tryz.underlying4 _) trodAll_mk0)) (fun sp hsp=>by
   rw[Tryz.params9]
   exact wB (by kernel_rfl) hg (fun t ht=>by
    have ht:t=26∨t=3:=by simpa using ht
    rcases ht with rfl | rfl <;> exact⟨by kernel_rfl,of_decide_eq_true (by kernel_rfl)⟩) hA hlt hsp) (fun _ _=>rfl) (by simp)
  hg (ok_one (by kernel_rfl) rfl (okWide_bool_mk Tryz.underlying4 _))⟩
theorem over:Rows.HttpwireLettersSaid :=
 OpenClaim.holds_of_wide 9 Tryz.f9 rfl rfl rfl rfl rfl rfl rfl ⟨rfl,rfl,rfl,rfl,rfl⟩ rfl rfl rfl rfl rfl (by kernel_rfl) Tryz.func9 (by kernel_rfl)
  (of_decide_eq_true (by kernel_rfl)) (by unfold Func.isWrapper; first | (rw[if_pos (by decide +kernel)]; kernel_rfl) | (rw[if_neg (by decide +kernel)]; exact⟨rfl,rfl⟩))
  (fun os started H enc _=>lifted os started H enc)
theorem proved:Rows.HttpwireLettersCardSaid :=
 Claim7.holds_tied_plain_at .later [] [.data,.data,.data,.data,.sentinel,.sentinel,.pinned] true (true,"362dc9c824334cfe19c170802755e1a7d2dd71729a4e635eeb53d76f24be5b19") true
  over (fun _ h=>by cases h) (by kernel_rfl) (fun _ h=>by cases h) httpwireLetters_row_tie rfl ⟨rfl,rfl⟩ (by kernel_rfl) rfl
  (fun f fn hf hfn=>by
   obtain rfl:f=9:=Option.some.inj ((show Tryz.prog.funcNamed "rolodex/rolodexlaw17.HttpwireLetters" = some 9 by kernel_rfl).symm.trans hf) |>.symm
   obtain rfl:fn=Tryz.f9:=(Option.some.inj (Tryz.func9.symm.trans hfn)).symm
   exact⟨by kernel_rfl,fun j t ht=>by
    rw[Tryz.params9] at ht
    have hm:=Array.mem_of_getElem? ht
    have hm:t=26∨t=3:=by simpa using hm
    rcases hm with rfl | rfl
    ·exact(by kernel_rfl:Tryz.prog.wantsStandIn 26=false)
    ·exact(by kernel_rfl:Tryz.prog.wantsStandIn 3=false)⟩)
  (by kernel_rfl)
end Go.Proofs.YtmjcgbaacndblaaGreatDoor.httpwireLetters
