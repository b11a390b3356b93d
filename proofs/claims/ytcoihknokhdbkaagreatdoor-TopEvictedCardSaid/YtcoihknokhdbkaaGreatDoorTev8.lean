/- Part 8 of the ground of the proofs of this seat (texts TTn to PN5). By an AI agent. -/
import Derived.Test.YtcoihknokhdbkaaGreatDoorTev7
import Derived.KernelRfl
import Derived.Test.YtcoihknokhdbkaaGreatDoorProg
import Derived.Shelf.Strconv.Itoa1
import Derived.Lib.LaidTab
import Derived.Shelf.Vars
import Derived.Shelf.Strings.Split
import Derived.Shelf.Strings.SlTrimAscii
import Derived.Shelf.Strconv.Itoa3
import Derived.Shelf.Strconv.Atoi
import Derived.Lib.AtoiErrMem
import Derived.Shelf.Spec.TrailingZeros
import Derived.Shelf.Bytes.SlIndexWhole
import Derived.Test.YtcoihknokhdbkaaGreatDoorRows
import Derived.LaidMore
import Derived.Lay
import Derived.Tactics
import Derived.Tactics2
import Derived.Defers
import Derived.Laws.Pointers
import Derived.RegionTactic
import Derived.RegionCalls
import Derived.Laws.LoneSync
set_option maxRecDepth 100000
set_option linter.unusedVariables false
set_option linter.unusedSimpArgs false
namespace Go.Proofs.YtcoihknokhdbkaaGreatDoor
open Go Go.Ab
abbrev aC := @dL Tryz.prog
theorem kE:POk Tryz.prog:=⟨ag2 (by kernel_rfl),by kernel_rfl⟩
theorem bE{f:FuncId}{fn:Func}{args:List AV}{M:RM}{Q:aj}{B:Prop}(h:B)(hfn:Tryz.prog.funcs[f]?=some fn:=by kernel_rfl)(e:B=qf Tryz.prog fn args M Q:=by kernel_rfl):aC f args M Q:=adN kE hfn (e▸h)
variable {a0 a1 a2 a3 a4 a5 a6 a7:AV} {M:RM} {Q:aj}
theorem nX(h:Go.Ab.Vl.jZ (iT Tryz.prog 664) a0 a1 M Q):aC 639 [a0,a1] M Q:=bE (fn:=Tryz.f639) h
theorem He(h:Go.Ab.Vl.EJ (aC 518) (aC 517) (aC 519) 676 (aC 521) (aC 520) (aC 523) (aC 522) a0 a1 M Q):aC 414 [a0,a1] M Q:=bE (fn:=Tryz.f414) h
theorem DL(h:Go.Ab.Hw.r9 a0 M Q):aC 239 [a0] M Q:=bE (fn:=Tryz.f239) h
theorem DV(h:Go.Ab.Hw.rM a0 M Q):aC 349 [a0] M Q:=bE (fn:=Tryz.f349) h
theorem A7(h:Go.Ab.Hw.pJ a0 M Q):aC 351 [a0] M Q:=bE (fn:=Tryz.f351) h
theorem qI(h:Go.Ab.Hw.jm a0 M Q):aC 240 [a0] M Q:=bE (fn:=Tryz.f240) h
theorem uZ(h:Go.Ab.Hw.lV a0 M Q):aC 457 [a0] M Q:=bE (fn:=Tryz.f457) h
theorem yL(h:Go.Ab.Hw.mG (aC 239) a0 M Q):aC 456 [a0] M Q:=bE (fn:=Tryz.f456) h
theorem Cg(h:Go.Ab.Hw.qy (aC 239) a0 M Q):aC 580 [a0] M Q:=bE (fn:=Tryz.f580) h
theorem fB(h:Go.Ab.Hw.uR 5 (aC) a0 a1 M Q):aC 238 [a0,a1] M Q:=bE (fn:=Tryz.f238) h
theorem Ee(h:Go.Ab.Hw.rT 5 a0 M Q):aC 344 [a0] M Q:=bE (fn:=Tryz.f344) h
theorem Ci(h:Go.Ab.Hw.qp a0 a1 a2 M Q):aC 348 [a0,a1,a2] M Q:=bE (fn:=Tryz.f348) h
theorem zX(h:Go.Ab.Hw.om (aC 348) (aC 344) (aC 238) 456 a0 M Q):aC 342 [a0] M Q:=bE (fn:=Tryz.f342) h
theorem zn(h:Go.Ab.Hw.ni (aC 414) (aC 238) 457 a0 M Q):aC 343 [a0] M Q:=bE (fn:=Tryz.f343) h
theorem yB(h:Go.Ab.Hw.mI (aC 348) (aC 238) 349 a0 M Q):aC 223 [a0] M Q:=bE (fn:=Tryz.f223) h
theorem ol(h:Go.Ab.Vl.gQ a0 a1 M Q):aC 463 [a0,a1] M Q:=bE (fn:=Tryz.f463) h
theorem Ae(h:Go.Ab.Vl.uO (aC 463) a0 a1 M Q):aC 350 [a0,a1] M Q:=bE (fn:=Tryz.f350) h
theorem zV(h:Go.Ab.Hw.nV (aC 350) (aC 238) 351 a0 M Q):aC 224 [a0] M Q:=bE (fn:=Tryz.f224) h
theorem og(h:Go.Ab.Vl.gN (aC 463) a0 a1 M Q):aC 354 [a0,a1] M Q:=bE (fn:=Tryz.f354) h
theorem zS(h:Go.Ab.Vl.nY (aC 354) a0 a1 M Q):aC 226 [a0,a1] M Q:=bE (fn:=Tryz.f226) h
theorem ql(h:Go.Ab.Hw.dM (aC 639) 1 (iT Tryz.prog 640) (aC 572) (aC 641) a0 a1 M Q):aC 578 [a0,a1] M Q:=bE (fn:=Tryz.f578) h
theorem si(h:Go.Ab.Vl.jK (aC 578) a0 a1 M Q):aC 574 [a0,a1] M Q:=bE (fn:=Tryz.f574) h
theorem Jo(h:Go.Ab.Vl.zw (aC 574) a0 a1 M Q):aC 459 [a0,a1] M Q:=bE (fn:=Tryz.f459) h
theorem Ch(h:Go.Ab.Hw.qo 255 (aC 459) (aC 414) (aC 342) (aC 343) a0 M Q):aC 346 [a0] M Q:=bE (fn:=Tryz.f346) h
theorem EW(h:Go.Ab.Hw.tH 5 (aC 458) a0 a1 M Q):aC 345 [a0,a1] M Q:=bE (fn:=Tryz.f345) h
theorem EO(h:Go.Ab.Hw.tV (aC 345) (aC) (aC 346) 255 a0 a1 M Q):aC 220 [a0,a1] M Q:=bE (fn:=Tryz.f220) h
theorem DX(h:Go.Ab.Hw.rW 255 (aC 344) 9 a0 a1 M Q):aC 352 [a0,a1] M Q:=bE (fn:=Tryz.f352) h
theorem DY(h:Go.Ab.Hw.rR (aC 352) a0 a1 M Q):aC 235 [a0,a1] M Q:=bE (fn:=Tryz.f235) h
theorem L8(h:Go.Ab.Hw.DU (aC 458) a0 a1 M Q):aC 579 [a0,a1] M Q:=bE (fn:=Tryz.f579) h
theorem uE(h:Go.Ab.Hw.kg a0 M Q):aC 651 [a0] M Q:=bE (fn:=Tryz.f651) h
theorem qD(h:Go.Ab.Hw.jc 639 (aC 651) 5 (aC 652) a0 a1 a2 M Q):aC 586 [a0,a1,a2] M Q:=bE (fn:=Tryz.f586) h
theorem zP(h:Go.Ab.Hw.nZ (aC 586) (aC 371) a0 a1 a2 M Q):aC 581 [a0,a1,a2] M Q:=bE (fn:=Tryz.f581) h
theorem FT(h:Go.Ab.Hw.tK 5 (aC 579) (aC 348) (aC 344) (aC 238) 580 (aC 581) a0 a1 M Q):aC 464 [a0,a1] M Q:=bE (fn:=Tryz.f464) h
theorem Bh(h:Go.Ab.Hw.oP (aC 464) 5 a0 a1 M Q):aC 353 [a0,a1] M Q:=bE (fn:=Tryz.f353) h
theorem oL(h:Go.Ab.aS.oG 5 a0 M Q):aC 125 [a0] M Q:=bE (fn:=Tryz.f125) h
theorem Fj(h:Go.Ab.Hw.uq (aC 352) (aC 344) (aC 353) (aC 348) (aC 238) 239 (aC 241) (aC 125) a0 a1 a2 M Q):aC 225 [a0,a1,a2] M Q:=bE (fn:=Tryz.f225) h
theorem tQ(h:Go.Ab.Hw.kF (aC 222) (aC 223) (aC 224) a0 a1 M Q):aC 221 [a0,a1] M Q:=bE (fn:=Tryz.f221) h
theorem tq(h:Go.Ab.Hw.jO (aC 226) (aC 238) 239 240 (aC 241) a0 a1 M Q):aC 237 [a0,a1] M Q:=bE (fn:=Tryz.f237) h
theorem u7(h:Go.Ab.Hw.mf 258 221 (aC 220) (aC 225) a0 M Q):aC 128 [a0] M Q:=bE (fn:=Tryz.f128) h
theorem uK(h:Go.Ab.Hw.kT 271 237 (aC 220) (aC 225) a0 M Q):aC 132 [a0] M Q:=bE (fn:=Tryz.f132) h
theorem Bg(h:Go.Ab.Hw.oM 255 (aC 342) (aC 343) (aC 344) 5 a0 a1 a2 a3 a4 M Q):aC 216 [a0,a1,a2,a3,a4] M Q:=bE (fn:=Tryz.f216) h
theorem Ba(h:Go.Ab.Hw.pF 255 (aC 236) a0 M Q):aC 217 [a0] M Q:=bE (fn:=Tryz.f217) h
theorem wB(h:Go.Ab.Hw.lW 258 (aC 223) (aC 224) a0 M Q):aC 215 [a0] M Q:=bE (fn:=Tryz.f215) h
theorem uM(h:Go.Ab.Hw.kR 258 (aC 215) (aC 217) (aC 216) a0 M Q):aC 124 [a0] M Q:=bE (fn:=Tryz.f124) h
theorem uH(h:Go.Ab.Hw.kw 271 (aC 236) (aC 217) (aC 216) a0 M Q):aC 131 [a0] M Q:=bE (fn:=Tryz.f131) h
theorem L9(h:Go.Ab.Hw.DK 9 5 a0 a1 M Q):aC 541 [a0,a1] M Q:=bE (fn:=Tryz.f541) h
theorem Jk(h:Go.Ab.Hw.zo 9 (aC 541) 5 a0 M Q):aC 428 [a0] M Q:=bE (fn:=Tryz.f428) h
theorem Ce(h:Go.Ab.Tn.zG (aC 384) a0 M Q):aC 259 [a0] M Q:=bE (fn:=Tryz.f259) h
theorem Jn:∀ (a0:AV)(M:RM)(Q:aj),Go.Ab.Tn.uP (aC 385) a0 M Q=qf Tryz.prog Tryz.f260 [a0] M Q:=by
 intros;kernel_rfl
theorem rE(h:Go.Ab.Tn.nR (iT Tryz.prog 497) (iT Tryz.prog 498) (iT Tryz.prog 499) (iT Tryz.prog 500) (aC 501) a0 M Q):aC 384 [a0] M Q:=bE (fn:=Tryz.f384) h
theorem qC(h:Go.Ab.Tn.mq (iT Tryz.prog 502) (iT Tryz.prog 497) (iT Tryz.prog 503) (aC 504) (iT Tryz.prog 499) a0 M Q):aC 385 [a0] M Q:=bE (fn:=Tryz.f385) h
theorem uJ(h:Go.Ab.Tn.qi (iT Tryz.prog 258) a0 M Q):aC 148 [a0] M Q:=bE (fn:=Tryz.f148) h
theorem AQ:∀ (a0 a1:AV)(M:RM)(Q:aj),Go.Ab.Tn.oQ (aC 387) (iT Tryz.prog 386) a0 a1 M Q=qf Tryz.prog Tryz.f261 [a0,a1] M Q:=by
 intros;kernel_rfl
theorem Cf(h:Go.Ab.Tn.zH a0 M Q):aC 387 [a0] M Q:=bE (fn:=Tryz.f387) h
theorem UI(h:Go.Ab.aS.YK (aC 125) 5 a0 a1 M Q):aC 84 [a0,a1] M Q:=bE (fn:=Tryz.f84) h
theorem XU(h:Go.Ab.Crw.Vi (aC 84) 5 a0 a1 M Q):aC 85 [a0,a1] M Q:=bE (fn:=Tryz.f85) h
theorem JD(h:Go.Ab.aS.BH (aC 274) a0 a1 M Q):aC 158 [a0,a1] M Q:=bE (fn:=Tryz.f158) h
theorem EP(h:Go.Ab.aS.tY a0 M Q):aC 274 [a0] M Q:=bE (fn:=Tryz.f274) h
theorem Jp(h:Go.Ab.aS.zq (aC 274) a0 M Q):aC 159 [a0] M Q:=bE (fn:=Tryz.f159) h
theorem Jl(h:Go.Ab.Crw.zC (aC 158) a0 a1 M Q):aC 157 [a0,a1] M Q:=bE (fn:=Tryz.f157) h
theorem Jm(h:Go.Ab.Tn.zA a0 M Q):aC 297 [a0] M Q:=bE (fn:=Tryz.f297) h
theorem N9(h:Go.Ab.Tn.Gz a0 a1 M Q):aC 528 [a0,a1] M Q:=bE (fn:=Tryz.f528) h
theorem OO(h:Go.Ab.Tn.JL (aC 528) a0 M Q):aC 529 [a0] M Q:=bE (fn:=Tryz.f529) h
theorem Pq(h:Go.Ab.Sha.JX 242 (aC 331) 486 (aC 332) 489 (aC 333) (aC 125) 5 a0 M Q):aC 201 [a0] M Q:=bE (fn:=Tryz.f201) h
theorem Fw(h:Go.Ab.Sha.ul 486  M Q):aC 331 [] M Q:=bE (fn:=Tryz.f331) h
theorem Mc(h:Go.Ab.Sha.Es 489  M Q):aC 332 [] M Q:=bE (fn:=Tryz.f332) h
theorem EA(h:Go.Ab.Sha.rH 486 (aC 446) 489 a0 a1 a2 M Q):aC 333 [a0,a1,a2] M Q:=bE (fn:=Tryz.f333) h
theorem Nj(h:Go.Ab.Sha.Hm (aC 562) a0 a1 M Q):aC 446 [a0,a1] M Q:=bE (fn:=Tryz.f446) h
theorem tJ(h:Go.Ab.Sha.ku a0 a1 M Q):aC 562 [a0,a1] M Q:=bE (fn:=Tryz.f562) h
theorem Ma(h:Go.Ab.Sha.DJ a0 M Q):aC 316 [a0] M Q:=bE (fn:=Tryz.f316) h
theorem Nu(h:Go.Ab.Sha.Gr 242 (aC 316) a0 M Q):aC 183 [a0] M Q:=bE (fn:=Tryz.f183) h
theorem zy(h:Go.Ab.Dk.nH a0 M Q):aC 429 [a0] M Q:=bE (fn:=Tryz.f429) h
theorem wC(h:Go.Ab.Hw.lK 258 (aC 235) a0 a1 M Q):aC 130 [a0,a1] M Q:=bE (fn:=Tryz.f130) h
theorem uL(h:Go.Ab.Hw.kQ 271 (aC 235) a0 a1 M Q):aC 133 [a0,a1] M Q:=bE (fn:=Tryz.f133) h
end Go.Proofs.YtcoihknokhdbkaaGreatDoor
namespace Go.Proofs
open Go.RowKit Go.Shelf
def Tryz.lays185_ren:Go.Shelf.Ren:=⟨fun|185=>458|187=>570|115=>163|253=>571|224=>572|254=>573|255=>636|291=>637|n=>n,fun|37=>129|3=>3|4=>4|0=>0|5=>5|46=>259|9=>9|146=>737|51=>108|n=>n,fun|1=>1|n=>n⟩
theorem Tryz.lays185:Go.Proofs.Lays.n185 Tryz.prog Tryz.lays185_ren where
 mixed:=by kernel_rfl
 f115:=Tryz.func163.trans (congrArg some (by kernel_rfl))
 f185:=Tryz.func458.trans (congrArg some (by kernel_rfl))
 f187:=Tryz.func570.trans (congrArg some (by kernel_rfl))
 f224:=Tryz.func572.trans (congrArg some (by kernel_rfl))
 f253:=Tryz.func571.trans (congrArg some (by kernel_rfl))
 f254:=Tryz.func573.trans (congrArg some (by kernel_rfl))
 f255:=Tryz.func636.trans (congrArg some (by kernel_rfl))
 f291:=Tryz.func637.trans (congrArg some (by kernel_rfl))
 t0:=Tryz.underlying0
 a0:=Tryz.isAgg0
 z0:=Tryz.sizeOf0
 v0:=Tryz.zeroValue0
 t3:=Tryz.underlying3
 a3:=Tryz.isAgg3
 z3:=Tryz.sizeOf3
 v3:=Tryz.zeroValue3
 t4:=Tryz.underlying4
 a4:=Tryz.isAgg4
 z4:=Tryz.sizeOf4
 v4:=Tryz.zeroValue4
 t5:=Tryz.underlying5
 a5:=Tryz.isAgg5
 z5:=Tryz.sizeOf5
 v5:=Tryz.zeroValue5
 t9:=Tryz.underlying9
 a9:=Tryz.isAgg9
 z9:=Tryz.sizeOf9
 v9:=Tryz.zeroValue9
 t37:=Tryz.underlying129
 a37:=Tryz.isAgg129
 z37:=Tryz.sizeOf129
 v37:=Tryz.zeroValue129
 t46:=Tryz.underlying259
 a46:=Tryz.isAgg259
 z46:=Tryz.sizeOf259
 v46:=Tryz.zeroValue259
 t51:=Tryz.underlying108
 a51:=Tryz.isAgg108
 z51:=Tryz.sizeOf108
 v51:=Tryz.zeroValue108
 t146:=Tryz.underlying737
 a146:=Tryz.isAgg737
 z146:=Tryz.sizeOf737
 v146:=Tryz.zeroValue737
 g1:=by kernel_rfl
def Tryz.lays146_ren:Go.Shelf.Ren:=⟨fun|146=>222|221=>347|268=>460|138=>461|143=>462|195=>575|197=>576|218=>577|219=>578|260=>638|217=>639|225=>640|224=>572|267=>641|266=>664|314=>665|n=>n,fun|9=>9|31=>169|3=>3|4=>4|0=>0|105=>718|21=>21|5=>5|46=>259|119=>773|139=>776|138=>775|146=>737|51=>108|n=>n,fun|1=>1|3=>6|4=>7|n=>n⟩
theorem Tryz.lays146:Go.Proofs.Lays.n146 Tryz.prog Tryz.lays146_ren where
 mixed:=by kernel_rfl
 f138:=Tryz.func461.trans (congrArg some (by kernel_rfl))
 f143:=Tryz.func462.trans (congrArg some (by kernel_rfl))
 f146:=Tryz.func222.trans (congrArg some (by kernel_rfl))
 f195:=Tryz.func575.trans (congrArg some (by kernel_rfl))
 f197:=Tryz.func576.trans (congrArg some (by kernel_rfl))
 f217:=Tryz.func639.trans (congrArg some (by kernel_rfl))
 f218:=Tryz.func577.trans (congrArg some (by kernel_rfl))
 f219:=Tryz.func578.trans (congrArg some (by kernel_rfl))
 f221:=Tryz.func347.trans (congrArg some (by kernel_rfl))
 f224:=Tryz.func572.trans (congrArg some (by kernel_rfl))
 f225:=Tryz.func640.trans (congrArg some (by kernel_rfl))
 f260:=Tryz.func638.trans (congrArg some (by kernel_rfl))
 f266:=Tryz.func664.trans (congrArg some (by kernel_rfl))
 f267:=Tryz.func641.trans (congrArg some (by kernel_rfl))
 f268:=Tryz.func460.trans (congrArg some (by kernel_rfl))
 f314:=Tryz.func665.trans (congrArg some (by kernel_rfl))
 t0:=Tryz.underlying0
 a0:=Tryz.isAgg0
 z0:=Tryz.sizeOf0
 v0:=Tryz.zeroValue0
 t3:=Tryz.underlying3
 a3:=Tryz.isAgg3
 z3:=Tryz.sizeOf3
 v3:=Tryz.zeroValue3
 t4:=Tryz.underlying4
 a4:=Tryz.isAgg4
 z4:=Tryz.sizeOf4
 v4:=Tryz.zeroValue4
 t5:=Tryz.underlying5
 a5:=Tryz.isAgg5
 z5:=Tryz.sizeOf5
 v5:=Tryz.zeroValue5
 t9:=Tryz.underlying9
 a9:=Tryz.isAgg9
 z9:=Tryz.sizeOf9
 v9:=Tryz.zeroValue9
 t21:=Tryz.underlying21
 a21:=Tryz.isAgg21
 z21:=Tryz.sizeOf21
 v21:=Tryz.zeroValue21
 t31:=Tryz.underlying169
 a31:=Tryz.isAgg169
 z31:=Tryz.sizeOf169
 v31:=Tryz.zeroValue169
 t46:=Tryz.underlying259
 a46:=Tryz.isAgg259
 z46:=Tryz.sizeOf259
 v46:=Tryz.zeroValue259
 t51:=Tryz.underlying108
 a51:=Tryz.isAgg108
 z51:=Tryz.sizeOf108
 v51:=Tryz.zeroValue108
 t105:=Tryz.underlying718
 a105:=Tryz.isAgg718
 z105:=Tryz.sizeOf718
 v105:=Tryz.zeroValue718
 t119:=Tryz.underlying773
 a119:=Tryz.isAgg773
 z119:=Tryz.sizeOf773
 t138:=Tryz.underlying775
 a138:=Tryz.isAgg775
 z138:=Tryz.sizeOf775
 v138:=Tryz.zeroValue775
 t139:=Tryz.underlying776
 a139:=Tryz.isAgg776
 z139:=Tryz.sizeOf776
 v139:=Tryz.zeroValue776
 t146:=Tryz.underlying737
 a146:=Tryz.isAgg737
 z146:=Tryz.sizeOf737
 v146:=Tryz.zeroValue737
 g1:=by kernel_rfl
 g3:=by kernel_rfl
 g4:=by kernel_rfl
def Tryz.lays160_ren:Go.Shelf.Ren:=⟨fun|160=>414|232=>518|231=>517|227=>519|234=>521|233=>520|236=>523|235=>522|228=>607|271=>609|151=>608|197=>576|120=>655|152=>654|260=>638|137=>582|119=>669|224=>572|225=>640|217=>639|266=>664|n=>n,fun|9=>9|4=>4|3=>3|5=>5|117=>677|116=>676|0=>0|124=>680|21=>21|105=>718|46=>259|119=>773|139=>776|138=>775|n=>n,fun|3=>6|4=>7|n=>n⟩
theorem Tryz.lays160:Go.Proofs.Lays.n160 Tryz.prog Tryz.lays160_ren where
 mixed:=by kernel_rfl
 f119:=Tryz.func669.trans (congrArg some (by kernel_rfl))
 f120:=Tryz.func655.trans (congrArg some (by kernel_rfl))
 f137:=Tryz.func582.trans (congrArg some (by kernel_rfl))
 f151:=Tryz.func608.trans (congrArg some (by kernel_rfl))
 f152:=Tryz.func654.trans (congrArg some (by kernel_rfl))
 f160:=Tryz.func414.trans (congrArg some (by kernel_rfl))
 f197:=Tryz.func576.trans (congrArg some (by kernel_rfl))
 f217:=Tryz.func639.trans (congrArg some (by kernel_rfl))
 f224:=Tryz.func572.trans (congrArg some (by kernel_rfl))
 f225:=Tryz.func640.trans (congrArg some (by kernel_rfl))
 f227:=Tryz.func519.trans (congrArg some (by kernel_rfl))
 f228:=Tryz.func607.trans (congrArg some (by kernel_rfl))
 f231:=Tryz.func517.trans (congrArg some (by kernel_rfl))
 f232:=Tryz.func518.trans (congrArg some (by kernel_rfl))
 f233:=Tryz.func520.trans (congrArg some (by kernel_rfl))
 f234:=Tryz.func521.trans (congrArg some (by kernel_rfl))
 f235:=Tryz.func522.trans (congrArg some (by kernel_rfl))
 f236:=Tryz.func523.trans (congrArg some (by kernel_rfl))
 f260:=Tryz.func638.trans (congrArg some (by kernel_rfl))
 f266:=Tryz.func664.trans (congrArg some (by kernel_rfl))
 f271:=Tryz.func609.trans (congrArg some (by kernel_rfl))
 t0:=Tryz.underlying0
 a0:=Tryz.isAgg0
 z0:=Tryz.sizeOf0
 v0:=Tryz.zeroValue0
 t3:=Tryz.underlying3
 a3:=Tryz.isAgg3
 z3:=Tryz.sizeOf3
 v3:=Tryz.zeroValue3
 t4:=Tryz.underlying4
 a4:=Tryz.isAgg4
 z4:=Tryz.sizeOf4
 v4:=Tryz.zeroValue4
 t5:=Tryz.underlying5
 a5:=Tryz.isAgg5
 z5:=Tryz.sizeOf5
 v5:=Tryz.zeroValue5
 t9:=Tryz.underlying9
 a9:=Tryz.isAgg9
 z9:=Tryz.sizeOf9
 v9:=Tryz.zeroValue9
 t21:=Tryz.underlying21
 a21:=Tryz.isAgg21
 z21:=Tryz.sizeOf21
 v21:=Tryz.zeroValue21
 t46:=Tryz.underlying259
 a46:=Tryz.isAgg259
 z46:=Tryz.sizeOf259
 v46:=Tryz.zeroValue259
 t105:=Tryz.underlying718
 a105:=Tryz.isAgg718
 z105:=Tryz.sizeOf718
 v105:=Tryz.zeroValue718
 t116:=Tryz.underlying676
 a116:=Tryz.isAgg676
 z116:=Tryz.sizeOf676
 t117:=Tryz.underlying677
 a117:=Tryz.isAgg677
 z117:=Tryz.sizeOf677
 v117:=Tryz.zeroValue677
 t119:=Tryz.underlying773
 a119:=Tryz.isAgg773
 z119:=Tryz.sizeOf773
 t124:=Tryz.underlying680
 a124:=Tryz.isAgg680
 z124:=Tryz.sizeOf680
 v124:=Tryz.zeroValue680
 t138:=Tryz.underlying775
 a138:=Tryz.isAgg775
 z138:=Tryz.sizeOf775
 v138:=Tryz.zeroValue775
 t139:=Tryz.underlying776
 a139:=Tryz.isAgg776
 z139:=Tryz.sizeOf776
 v139:=Tryz.zeroValue776
 g3:=by kernel_rfl
 g4:=by kernel_rfl
def Tryz.lays172_ren:Go.Shelf.Ren:=⟨fun|172=>241|244=>370|245=>371|247=>480|279=>481|280=>482|281=>483|282=>484|287=>586|316=>587|171=>236|205=>588|321=>651|322=>652|243=>369|246=>479|283=>452|284=>453|285=>454|286=>455|129=>271|317=>566|318=>567|319=>568|320=>569|337=>634|338=>635|n=>n,fun|9=>9|3=>3|75=>358|76=>393|4=>4|5=>5|167=>639|37=>129|0=>0|85=>640|2=>2|168=>642|53=>27|175=>723|46=>259|210=>728|127=>493|145=>763|143=>761|21=>21|171=>619|173=>621|212=>715|51=>108|20=>20|213=>716|232=>242|233=>352|80=>252|n=>n,fun|15=>2|16=>3|17=>0|18=>4|19=>5|n=>n⟩
theorem Tryz.lays172:Go.Proofs.Lays.n172 Tryz.prog Tryz.lays172_ren where
 mixed:=by kernel_rfl
 f129:=Tryz.func271.trans (congrArg some (by kernel_rfl))
 f171:=Tryz.func236.trans (congrArg some (by kernel_rfl))
 f172:=Tryz.func241.trans (congrArg some (by kernel_rfl))
 f205:=Tryz.func588.trans (congrArg some (by kernel_rfl))
 f243:=Tryz.func369.trans (congrArg some (by kernel_rfl))
 f244:=Tryz.func370.trans (congrArg some (by kernel_rfl))
 f245:=Tryz.func371.trans (congrArg some (by kernel_rfl))
 f246:=Tryz.func479.trans (congrArg some (by kernel_rfl))
 f247:=Tryz.func480.trans (congrArg some (by kernel_rfl))
 f279:=Tryz.func481.trans (congrArg some (by kernel_rfl))
 f280:=Tryz.func482.trans (congrArg some (by kernel_rfl))
 f281:=Tryz.func483.trans (congrArg some (by kernel_rfl))
 f282:=Tryz.func484.trans (congrArg some (by kernel_rfl))
 f283:=Tryz.func452.trans (congrArg some (by kernel_rfl))
 f284:=Tryz.func453.trans (congrArg some (by kernel_rfl))
 f285:=Tryz.func454.trans (congrArg some (by kernel_rfl))
 f286:=Tryz.func455.trans (congrArg some (by kernel_rfl))
 f287:=Tryz.func586.trans (congrArg some (by kernel_rfl))
 f316:=Tryz.func587.trans (congrArg some (by kernel_rfl))
 f317:=Tryz.func566.trans (congrArg some (by kernel_rfl))
 f318:=Tryz.func567.trans (congrArg some (by kernel_rfl))
 f319:=Tryz.func568.trans (congrArg some (by kernel_rfl))
 f320:=Tryz.func569.trans (congrArg some (by kernel_rfl))
 f321:=Tryz.func651.trans (congrArg some (by kernel_rfl))
 f322:=Tryz.func652.trans (congrArg some (by kernel_rfl))
 f337:=Tryz.func634.trans (congrArg some (by kernel_rfl))
 f338:=Tryz.func635.trans (congrArg some (by kernel_rfl))
 t0:=Tryz.underlying0
 a0:=Tryz.isAgg0
 z0:=Tryz.sizeOf0
 v0:=Tryz.zeroValue0
 t2:=Tryz.underlying2
 a2:=Tryz.isAgg2
 z2:=Tryz.sizeOf2
 v2:=Tryz.zeroValue2
 t3:=Tryz.underlying3
 a3:=Tryz.isAgg3
 z3:=Tryz.sizeOf3
 v3:=Tryz.zeroValue3
 t4:=Tryz.underlying4
 a4:=Tryz.isAgg4
 z4:=Tryz.sizeOf4
 v4:=Tryz.zeroValue4
 t5:=Tryz.underlying5
 a5:=Tryz.isAgg5
 z5:=Tryz.sizeOf5
 v5:=Tryz.zeroValue5
 t9:=Tryz.underlying9
 a9:=Tryz.isAgg9
 z9:=Tryz.sizeOf9
 v9:=Tryz.zeroValue9
 t20:=Tryz.underlying20
 a20:=Tryz.isAgg20
 z20:=Tryz.sizeOf20
 v20:=Tryz.zeroValue20
 t21:=Tryz.underlying21
 a21:=Tryz.isAgg21
 z21:=Tryz.sizeOf21
 v21:=Tryz.zeroValue21
 t37:=Tryz.underlying129
 a37:=Tryz.isAgg129
 z37:=Tryz.sizeOf129
 v37:=Tryz.zeroValue129
 t46:=Tryz.underlying259
 a46:=Tryz.isAgg259
 z46:=Tryz.sizeOf259
 v46:=Tryz.zeroValue259
 t51:=Tryz.underlying108
 a51:=Tryz.isAgg108
 z51:=Tryz.sizeOf108
 v51:=Tryz.zeroValue108
 t53:=Tryz.underlying27
 a53:=Tryz.isAgg27
 z53:=Tryz.sizeOf27
 v53:=Tryz.zeroValue27
 t75:=Tryz.underlying358
 a75:=Tryz.isAgg358
 z75:=Tryz.sizeOf358
 v75:=Tryz.zeroValue358
 t76:=Tryz.underlying393
 a76:=Tryz.isAgg393
 z76:=Tryz.sizeOf393
 v76:=Tryz.zeroValue393
 t85:=Tryz.underlying640
 a85:=Tryz.isAgg640
 z85:=Tryz.sizeOf640
 v85:=Tryz.zeroValue640
 t127:=Tryz.underlying493
 a127:=Tryz.isAgg493
 z127:=Tryz.sizeOf493
 v127:=Tryz.zeroValue493
 t143:=Tryz.underlying761
 a143:=Tryz.isAgg761
 z143:=Tryz.sizeOf761
 v143:=Tryz.zeroValue761
 t145:=Tryz.underlying763
 a145:=Tryz.isAgg763
 z145:=Tryz.sizeOf763
 v145:=Tryz.zeroValue763
 t167:=Tryz.underlying639
 a167:=Tryz.isAgg639
 z167:=Tryz.sizeOf639
 v167:=Tryz.zeroValue639
 t168:=Tryz.underlying642
 a168:=Tryz.isAgg642
 z168:=Tryz.sizeOf642
 v168:=Tryz.zeroValue642
 t171:=Tryz.underlying619
 a171:=Tryz.isAgg619
 z171:=Tryz.sizeOf619
 v171:=Tryz.zeroValue619
 t173:=Tryz.underlying621
 a173:=Tryz.isAgg621
 z173:=Tryz.sizeOf621
 v173:=Tryz.zeroValue621
 t175:=Tryz.underlying723
 a175:=Tryz.isAgg723
 z175:=Tryz.sizeOf723
 v175:=Tryz.zeroValue723
 t210:=Tryz.underlying728
 a210:=Tryz.isAgg728
 z210:=Tryz.sizeOf728
 v210:=Tryz.zeroValue728
 t212:=Tryz.underlying715
 a212:=Tryz.isAgg715
 z212:=Tryz.sizeOf715
 v212:=Tryz.zeroValue715
 t213:=Tryz.underlying716
 a213:=Tryz.isAgg716
 z213:=Tryz.sizeOf716
 t232:=Tryz.underlying242
 a232:=Tryz.isAgg242
 z232:=Tryz.sizeOf242
 v232:=Tryz.zeroValue242
 t233:=Tryz.underlying352
 a233:=Tryz.isAgg352
 z233:=Tryz.sizeOf352
 v233:=Tryz.zeroValue352
 g15:=by kernel_rfl
 g16:=by kernel_rfl
 g17:=by kernel_rfl
 g18:=by kernel_rfl
 g19:=by kernel_rfl
def Tryz.laysM171_ren:Go.Shelf.Ren:=⟨fun|171=>236|243=>369|246=>479|283=>452|284=>453|285=>454|286=>455|129=>271|317=>566|318=>567|319=>568|320=>569|337=>634|338=>635|n=>n,fun|3=>3|9=>9|2=>2|4=>4|171=>619|0=>0|53=>27|37=>129|5=>5|173=>621|212=>715|51=>108|20=>20|213=>716|46=>259|232=>242|233=>352|n=>n,fun|17=>0|18=>4|19=>5|n=>n⟩
theorem Tryz.laysM171:Go.Proofs.LaysM.n171 Tryz.prog Tryz.laysM171_ren where
 mixed:=by kernel_rfl
 f129:=Tryz.func271.trans (congrArg some (by kernel_rfl))
 f171:=Tryz.func236.trans (congrArg some (by kernel_rfl))
 f243:=Tryz.func369.trans (congrArg some (by kernel_rfl))
 f246:=Tryz.func479.trans (congrArg some (by kernel_rfl))
 f283:=Tryz.func452.trans (congrArg some (by kernel_rfl))
 f284:=Tryz.func453.trans (congrArg some (by kernel_rfl))
 f285:=Tryz.func454.trans (congrArg some (by kernel_rfl))
 f286:=Tryz.func455.trans (congrArg some (by kernel_rfl))
 f317:=Tryz.func566.trans (congrArg some (by kernel_rfl))
 f318:=Tryz.func567.trans (congrArg some (by kernel_rfl))
 f319:=Tryz.func568.trans (congrArg some (by kernel_rfl))
 f320:=Tryz.func569.trans (congrArg some (by kernel_rfl))
 f337:=Tryz.func634.trans (congrArg some (by kernel_rfl))
 f338:=Tryz.func635.trans (congrArg some (by kernel_rfl))
 t0:=Tryz.underlying0
 a0:=Tryz.isAgg0
 z0:=Tryz.sizeOf0
 v0:=Tryz.zeroValue0
 t2:=Tryz.underlying2
 a2:=Tryz.isAgg2
 z2:=Tryz.sizeOf2
 v2:=Tryz.zeroValue2
 t3:=Tryz.underlying3
 a3:=Tryz.isAgg3
 z3:=Tryz.sizeOf3
 v3:=Tryz.zeroValue3
 t4:=Tryz.underlying4
 a4:=Tryz.isAgg4
 z4:=Tryz.sizeOf4
 v4:=Tryz.zeroValue4
 t5:=Tryz.underlying5
 a5:=Tryz.isAgg5
 z5:=Tryz.sizeOf5
 v5:=Tryz.zeroValue5
 t9:=Tryz.underlying9
 a9:=Tryz.isAgg9
 z9:=Tryz.sizeOf9
 v9:=Tryz.zeroValue9
 t20:=Tryz.underlying20
 a20:=Tryz.isAgg20
 z20:=Tryz.sizeOf20
 v20:=Tryz.zeroValue20
 t37:=Tryz.underlying129
 a37:=Tryz.isAgg129
 z37:=Tryz.sizeOf129
 v37:=Tryz.zeroValue129
 t46:=Tryz.underlying259
 a46:=Tryz.isAgg259
 z46:=Tryz.sizeOf259
 v46:=Tryz.zeroValue259
 t51:=Tryz.underlying108
 a51:=Tryz.isAgg108
 z51:=Tryz.sizeOf108
 v51:=Tryz.zeroValue108
 t53:=Tryz.underlying27
 a53:=Tryz.isAgg27
 z53:=Tryz.sizeOf27
 v53:=Tryz.zeroValue27
 t171:=Tryz.underlying619
 a171:=Tryz.isAgg619
 z171:=Tryz.sizeOf619
 v171:=Tryz.zeroValue619
 t173:=Tryz.underlying621
 a173:=Tryz.isAgg621
 z173:=Tryz.sizeOf621
 v173:=Tryz.zeroValue621
 t212:=Tryz.underlying715
 a212:=Tryz.isAgg715
 z212:=Tryz.sizeOf715
 v212:=Tryz.zeroValue715
 t213:=Tryz.underlying716
 a213:=Tryz.isAgg716
 z213:=Tryz.sizeOf716
 t232:=Tryz.underlying242
 a232:=Tryz.isAgg242
 z232:=Tryz.sizeOf242
 v232:=Tryz.zeroValue242
 t233:=Tryz.underlying352
 a233:=Tryz.isAgg352
 z233:=Tryz.sizeOf352
 v233:=Tryz.zeroValue352
 g17:=by kernel_rfl
 g18:=by kernel_rfl
 g19:=by kernel_rfl
 i0:=by kernel_rfl
 i2:=by kernel_rfl
 i3:=by kernel_rfl
 i4:=by kernel_rfl
 i5:=by kernel_rfl
 i9:=by kernel_rfl
 i20:=by kernel_rfl
 i37:=by kernel_rfl
 i46:=by kernel_rfl
 i51:=by kernel_rfl
 i53:=by kernel_rfl
 i171:=by kernel_rfl
 i173:=by kernel_rfl
 i212:=by kernel_rfl
 i232:=by kernel_rfl
 i233:=by kernel_rfl
 m17:=by kernel_rfl
 m18:=by kernel_rfl
 m19:=by kernel_rfl
def Tryz.laysM284_ren:Go.Shelf.Ren:=⟨fun|284=>453|129=>271|317=>566|318=>567|n=>n,fun|53=>27|3=>3|212=>715|0=>0|4=>4|46=>259|5=>5|9=>9|n=>n,fun|17=>0|n=>n⟩
theorem Tryz.laysM284:Go.Proofs.LaysM.n284 Tryz.prog Tryz.laysM284_ren where
 mixed:=by kernel_rfl
 f129:=Tryz.func271.trans (congrArg some (by kernel_rfl))
 f284:=Tryz.func453.trans (congrArg some (by kernel_rfl))
 f317:=Tryz.func566.trans (congrArg some (by kernel_rfl))
 f318:=Tryz.func567.trans (congrArg some (by kernel_rfl))
 t0:=Tryz.underlying0
 a0:=Tryz.isAgg0
 z0:=Tryz.sizeOf0
 v0:=Tryz.zeroValue0
 t3:=Tryz.underlying3
 a3:=Tryz.isAgg3
 z3:=Tryz.sizeOf3
 v3:=Tryz.zeroValue3
 t4:=Tryz.underlying4
 a4:=Tryz.isAgg4
 z4:=Tryz.sizeOf4
 v4:=Tryz.zeroValue4
 t5:=Tryz.underlying5
 a5:=Tryz.isAgg5
 z5:=Tryz.sizeOf5
 v5:=Tryz.zeroValue5
 t9:=Tryz.underlying9
 a9:=Tryz.isAgg9
 z9:=Tryz.sizeOf9
 v9:=Tryz.zeroValue9
 t46:=Tryz.underlying259
 a46:=Tryz.isAgg259
 z46:=Tryz.sizeOf259
 v46:=Tryz.zeroValue259
 t53:=Tryz.underlying27
 a53:=Tryz.isAgg27
 z53:=Tryz.sizeOf27
 v53:=Tryz.zeroValue27
 t212:=Tryz.underlying715
 a212:=Tryz.isAgg715
 z212:=Tryz.sizeOf715
 v212:=Tryz.zeroValue715
 g17:=by kernel_rfl
 i0:=by kernel_rfl
 i3:=by kernel_rfl
 i4:=by kernel_rfl
 i5:=by kernel_rfl
 i9:=by kernel_rfl
 i46:=by kernel_rfl
 i53:=by kernel_rfl
 i212:=by kernel_rfl
 m17:=by kernel_rfl
end Go.Proofs
namespace Go.Ab.Hw
open Go Go.Ab Go.Ab.Sm Go.RowKit Go.Proofs
open Go.Proofs.YtcoihknokhdbkaaGreatDoor
open Go.Ab.Vl (jd)
abbrev ajW:List Int:=Lib.deBruijn64tab.map fun(n:Nat)=>(n:Int)
structure Iv(w:World):Prop where
 mx:∃ m,w.cell? ⟨1,0,none⟩=some (.int .i64 m)
 p10:Lib.TabIs Tryz.prog w "internal/strconv.uint64pow10" .u64 Lib.pow10Tab
 db:Lib.TabIs Tryz.prog w "math/bits.deBruijn64tab" .u8 ajW
theorem afw(w:World)(q:Nat):Below w.heap.size w (w.drewN q):=⟨rfl,rfl,rfl,Nat.le_refl _,fun _ _=>rfl⟩
theorem adZ(w:World)(q:Nat)(os:Array Obj):Below w.heap.size w (Go.Sort.grow (w.drewN q) os) :=
 ⟨rfl,rfl,rfl,by first|(simp[Go.Sort.grow];done)|(simp[Go.Sort.grow];omega),fun i hi=>by
  show((w.drewN q).heap++os)[i]?=_
  rw[Array.getElem?_append_left (by show i<w.heap.size;omega)]
  rfl⟩
theorem aqY{w:World}{b o:Nat}{v:Value}(h:w.cell? ⟨b,o,none⟩=some v):b<w.heap.size:=by
 unfold World.cell? at h
 cases hb:w.heap[b]? with
 |none=>simp[hb]at h
 |some x=>exact(Array.getElem?_eq_some_iff.1 hb).1
theorem aio{w w' : World}{b:Nat}(h:w'.heap[b]?=w.heap[b]?)(o:Nat):w'.cell? ⟨b,o,none⟩=w.cell? ⟨b,o,none⟩:=by
 unfold World.cell?
 simp only[h]
theorem varLt{w:World}{n:String}{g:Nat}{vs:Array Value}(hg:Tryz.prog.globalNamed n=some g)(h:w.var? Tryz.prog n=some vs):g<w.heap.size:=by
 unfold World.var? at h
 rw[hg]at h
 simp only[Option.bind_some]at h
 cases hb:w.heap[g]? with
 |none=>rw[hb]at h;cases h
 |some x=>exact(Array.getElem?_eq_some_iff.1 hb).1
theorem ZM{w w' : World}{n:String}{g:Nat}(hg:Tryz.prog.globalNamed n=some g)(h:w'.heap[g]?=w.heap[g]?):w'.var? Tryz.prog n=w.var? Tryz.prog n:=by
 unfold World.var?
 rw[hg]
 simp only[Option.bind_some,h]
theorem g3:Tryz.prog.globalNamed "internal/strconv.uint64pow10" = some 0:=by kernel_rfl
theorem g7:Tryz.prog.globalNamed "math/bits.deBruijn64tab" = some 5:=by kernel_rfl
def base(w:World)(hi:Iv w):Base where
 n:=w.heap.size
 inv w':=Iv w'
 low u u' hlow hu:=by
  obtain⟨m0,hm0⟩:=hi.mx
  obtain⟨m,hm⟩:=hu.mx
  refine⟨⟨m,(aio (hlow 1 (aqY hm0)) 0).trans hm⟩, ?_, ?_⟩
  ·exact(ZM g3 (hlow 0 (varLt g3 hi.p10))).trans hu.p10
  ·exact(ZM g7 (hlow 5 (varLt g7 hi.db))).trans hu.db
section
variable {w0:World} {hi:Iv w0}
theorem Io{M:RM}{ρ:Ren}{w:World}(hM:M.base=base w0 hi)(hw:bu Tryz.prog ρ M w):Iv w:=by
 have:=bu.inv hw
 rw[hM]at this
 exact this
theorem Ta{M:RM}{s:List UInt8}{x:UInt8}:ic Tryz.prog 664 [St s,By x] M (N .i64 (Lib.indexByte s x)):=by
 intro ρ w us hus hw
 cases hus with
 |cons _ u1 _ us r1 hus =>
 cases hus with
 |cons _ u2 _ us r2 hus =>
 cases hus
 obtain⟨rfl,_⟩:=aH r1
 obtain⟨rfl,_⟩:=aH r2
 refine⟨.int .i64 (Lib.indexByte s x), ?_,.sc _ rfl⟩
 refine zY (fn:=Tryz.f664) (s:=Extern.BytealgIndexByte.indexByte) (by kernel_rfl) (kE.ng 664 Tryz.f664 (by kernel_rfl)) (by kernel_rfl) (by kernel_rfl) (by kernel_rfl) (fun w=>?_) w
 rw[Lib.run_indexByteString]
 congr 2
 simp
theorem amd:jd (aC 639):=by
 intro M s x Q hQ
 refine nX ?_
 unfold Go.Ab.Vl.jZ
 exact .inr (.inr (.inr (.inl ⟨_,Ta,hQ⟩)))
theorem aeX:Uh (base w0 hi) (aC 414):=by
 intro M s Q hB hl hQ
 cases s with
 |nil =>
  refine He ?_
  unfold Go.Ab.Vl.EJ
  simp only[q9,dW]
  rw[show(([]:List UInt8) == [])=true from rfl]
  simp only[dY,gq,dE]
  exact hQ M (ah.refl _ _)
 |cons x s =>
  have hasc:∀ (j:Nat) b,(⟨⟨[32,9]⟩⟩ : ByteArray).data.toList[j]?=some b→b.toNat<128:=fun j b h=>by
   have hm:b∈([32,9]:List UInt8):=List.mem_of_getElem? h
   simp at hm
   rcases hm with rfl|rfl<;>decide
  refine dL.BL (v:=St (trimB (x::s))) ⟨Tryz.f414,_,Tryz.func414,rfl⟩ (fun ρ w us hus hw=>?_) (hQ M (ah.refl _ _))
  cases hus with
  |cons _ u1 _ us r1 hus =>
  cases hus with
  |cons _ u2 _ us r2 hus =>
  cases hus
  obtain⟨rfl,_⟩:=aH r1
  obtain⟨rfl,_⟩:=aH r2
  refine(Any.strings_Trim_set Tryz.lays160 Tryz.zeroValue676 (by kernel_rfl) ⟨⟨x::s⟩⟩ ⟨⟨[32,9]⟩⟩ w (by decide) (by show 0<(x::s).length;simp) (by show(x::s).length≤_;omega) (by decide) hasc).mono fun e w' ⟨he,q,hb⟩=>⟨_,he, ?_,.sc _ rfl⟩
  rw[hb]
  have h1:=(Below.refl w.heap.size w).alloc (Nat.le_refl _) (.cells (Lib.setCells [32,9]) (Tryz.lays160_ren.t 116))
  have h2:=h1.alloc h1.size (.cells (Lib.setCells [32,9]) (Tryz.lays160_ren.t 116))
  exact⟨h2.os,h2.tape,h2.output,h2.size,h2.block⟩
theorem KA:∀ (s:Str)(acc:Nat),s.all fQ=true→Lib.decFrom acc s=some (s.foldl (fun n x=>n*10+(x.toNat-48)) acc)
 |[],acc,_=>rfl
 |x::s,acc,h=>by
  simp only[List.all_cons,Bool.and_eq_true]at h
  have hx:=h.1
  unfold fQ at hx
  simp only[Bool.and_eq_true,decide_eq_true_eq]at hx
  have hd:Lib.digitVal x=some (x.toNat-48):=by unfold Lib.digitVal;rw[if_pos (by omega)]
  rw[Lib.decFrom,hd]
  exact KA s _ h.2
theorem adI:acK (aC 241):=by
 intro M s Q h1 h9 hd hQ
 have ha:Lib.atoi s=some ((jR s:Nat):Int):=by
  cases s with
  |nil=>simp at h1
  |cons x s =>
   have hx:fQ x=true:=by simp only[List.all_cons,Bool.and_eq_true]at hd;exact hd.1
   unfold fQ at hx
   simp only[Bool.and_eq_true,decide_eq_true_eq]at hx
   have e1:(x==45)=false:=by
    cases h:x==45
    ·rfl
    ·have:x=45:=by simpa using h
     subst this;simp at hx
   have e2:(x==43)=false:=by
    cases h:x==43
    ·rfl
    ·have:x=43:=by simpa using h
     subst this;simp at hx
   unfold Lib.atoi
   simp only[e1,e2,Bool.false_eq_true,if_false]
   unfold Lib.decNat
   simp only[List.isEmpty_cons,Bool.false_eq_true,if_false,KA _ _ hd,Option.map_some]
   rfl
 refine dL.BL (v:=.tup [N .i64 (jR s:Int),.sc .nilIface]) ⟨Tryz.f241,_,Tryz.func241,rfl⟩ (fun ρ w us hus hw=>?_) (hQ M (ah.refl _ _))
 cases hus with
 |cons _ u1 _ us r1 hus =>
 cases hus
 obtain⟨rfl,_⟩:=aH r1
 refine(Any.strconv_Atoi Tryz.lays172 ⟨⟨s⟩⟩ _ (by show s.length≤_;omega) ha w).mono fun e w' ⟨he,t,hb⟩=>⟨_,he, ?_,.tup _ _ (.cons _ _ _ _ (.sc _ rfl) (.cons _ _ _ _ (.sc _ rfl) .nil))⟩
 rw[hb]
 exact Lib.bytesWorld_below w _ t
theorem Jb:∀ (f n:Nat),n<10^f→1≤f→Lib.decDigits n=zm 10 f n
 |0,n,h,h1=>by omega
 |f+1,n,h,_=>by
  rw[Lib.decDigits]
  by_cases hn:n<10
  ·rw[dif_pos hn,OH hn]
   unfold qz;rw[if_pos hn]
  ·rw[dif_neg hn,Yi hn]
   have hf:1≤f:=by
    rcases Nat.eq_zero_or_pos f with e|e
    ·subst e;simp at h;omega
    ·exact e
   rw[Jb f (n / 10) (by rw[Nat.pow_succ]at h;exact Nat.div_lt_of_lt_mul (by rw[Nat.mul_comm];exact h)) hf]
   unfold qz
   rw[if_pos (Nat.mod_lt _ (by decide))]
theorem afK:acM (base w0 hi) (aC 236):=by
 intro M n Q hB hn hQ
 refine dL.BL (v:=St (fT n)) ⟨Tryz.f236,_,Tryz.func236,rfl⟩ (fun ρ w us hus hw=>?_) (hQ M (ah.refl _ _))
 cases hus with
 |cons _ u1 _ us r1 hus =>
 cases hus
 obtain⟨rfl,_⟩:=aH r1
 refine(Any.strconv_Itoa Tryz.laysM171 (n:Int) (by omega) (by omega) w (Io hB hw).p10).mono fun e w' ⟨he,k,os,hb⟩=>⟨_,he, ?_, ?_⟩
 ·rw[hb]
  exact adZ w k os
 ·have:Lib.itoa (n:Int)=fT n:=by
   unfold Lib.itoa fT
   rw[if_neg (by omega),Int.toNat_natCast]
   exact Jb 20 n (Nat.lt_of_lt_of_le hn (by decide)) (by decide)
  rw[this]
  exact .sc _ rfl
theorem aau{P:Program}{ρ:Ren}{M:RM}{w:World}{v:AV}{s:Str}{u:Value}(hw:bu P ρ M w)(hb:Bs M v s)(hv:ai ρ v u) :
  (u=.slice none 0 0∧s=[])∨∃ a c,u=.slice (some a) s.length c∧s.length≤c∧∀ i,i<s.length→w.cell? (a.add i)=some (.int .u8 ((s.map fun x=>(x.toNat:Int)).getD i 0)):=by
 obtain⟨hs,hc⟩:=hb
 unfold Sl at hs
 generalize hn:s.length=n at *
 generalize hcs:BY.row s=cs at *
 cases hs with
 |nil =>
  obtain⟨rfl,_⟩:=aH hv
  exact .inl ⟨rfl,List.length_eq_zero_iff.1 hn⟩
 |emp b =>
  cases hv with
  |emp _ a c=>exact .inr ⟨a,c,rfl,Nat.zero_le _,fun i hi=>absurd hi (Nat.not_lt_zero _)⟩
 |slc b o _ cap _ hlt hld =>
  obtain⟨i0,c,hb,hu⟩:=Ab.eZ hv
  have hcap:n≤c:=by
   cases cap with
   |ex k =>
    have hk:n≤k:=hc
    cases hv with
    |jv _ _ _ _ j hj =>
     injection hu with _ _ h6
     omega
   |op e =>
    obtain⟨k,j,_,_,_,h4,h5⟩:=MP hv
    rw[hu]at h5
    injection h5 with _ _ h6
    omega
  subst hu
  refine .inr ⟨⟨i0.cb,i0.sh+o,none⟩,c,rfl,hcap,fun i hi=>?_⟩
  ·subst hcs
   have azk:M.loads b o (n*1)=some (BY.row s):=hld
   have h1:=lh azk i 1 (by omega)
   have hi' : i<s.length:=by omega
   have e1:((BY.row s).drop i).take 1=[By s[i]]:=by
    have:=Enc.QC (E:=BY) hi'
    simpa [BY]using this
   rw[e1]at h1
   obtain⟨x,hx,hcell⟩:=sG hw hb h1
   obtain⟨rfl,_⟩:=aH hx
   have ea:(⟨i0.cb,i0.sh+o,none⟩ : Addr).add i=⟨i0.cb,i0.sh+(o+i),none⟩:=by
    unfold Addr.add
    split
    ·rename_i e;subst e;rfl
    ·simp[Nat.add_assoc]
   rw[ea,hcell]
   simp[List.getD_eq_getElem?_getD,List.getElem?_eq_getElem hi']
theorem bytesOf_map(s:Str):Lib.bytesOf (s.map fun x=>(x.toNat:Int))=s:=by
 unfold Lib.bytesOf
 rw[List.map_map]
 conv=>rhs;rw[← List.map_id s]
 apply List.map_congr_left
 intro x _
 simp
theorem Z8:Pj (base w0 hi) (aC 458):=by
 intro M v w s Q hB hv hw hl hQ
 refine dL.BL (v:=N .i64 (Lib.index s [13,10])) ⟨Tryz.f458,_,Tryz.func458,rfl⟩ (fun ρ W us hus hW=>?_) hQ
 cases hus with
 |cons _ u1 _ us r1 hus =>
 cases hus with
 |cons _ u2 _ us r2 hus =>
 cases hus
 obtain⟨m,hm⟩:=(Io hB hW).mx
 rcases aau hW hw r2 with⟨_,h⟩|⟨a2,c2,rfl,hc2,hx2⟩
 ·cases h
 rcases aau hW hv r1 with⟨rfl,rfl⟩|⟨a1,c1,rfl,hc1,hx1⟩
 ·refine(Any.bytes_Index_nil Tryz.lays185 (some a2) 2 c2 W (by decide) (fun h=>by cases h)).mono fun e w' ⟨he,hb⟩=>⟨_,he,by rw[hb];exact Below.refl _ _, ?_⟩
  exact .sc _ rfl
 ·have hr:∀ (t:Str),∀ x∈t.map (fun x:UInt8=>(x.toNat:Int)),0≤x∧x<256:=fun t x hx=>by
   rw[List.mem_map]at hx
   obtain⟨y,_,rfl⟩:=hx
   have:=y.toNat_lt
   omega
  have:=Any.bytes_Index_at Tryz.lays185 a1 a2 s.length c1 2 c2 (s.map fun x=>(x.toNat:Int)) (([13,10]:Str).map fun x=>(x.toNat:Int)) m W (by simp) (by simp) (hr s) (hr _) hx1 hx2 hc1 (by omega) (by decide) hm
  rw[bytesOf_map,bytesOf_map]at this
  refine this.mono fun e w' ⟨he,q,hb⟩=>⟨_,he,by rw[hb];exact(afw W q), ?_⟩
  exact .sc _ rfl
theorem adY(ρ' : Ren):∀ l:List ByteArray,aQ ρ' (tO.row (l.map (·.data.toList))) (l.map Value.string)
 |[]=>.nil
 |b::l=>.cons _ _ _ _ (.sc _ (by rfl)) (adY ρ' l)
theorem aaW(s:Str):s.count 32=Lib.countB ⟨⟨s⟩⟩ ⟨⟨[32]⟩⟩:=(Lib.count_one 32 s).symm
theorem akQ:VP (base w0 hi) 9 (aC 222):=by
 intro M s Q hB hl hQ
 refine dL.ami (cs:=tO.row (words 32 s)) (n:=(words 32 s).length) ⟨Tryz.f222,_,Tryz.func222,rfl⟩ (by kernel_rfl) (tO.jC _) (by rw[Enc.ig];simp[tO]) (fun ρ w us hus hw=>?_) (fun v M' o k=>hQ v M' (Own.mono o (Nat.le_refl _)) k)
 cases hus with
 |cons _ u1 _ us r1 hus =>
 cases hus with
 |cons _ u2 _ us r2 hus =>
 cases hus
 obtain⟨rfl,_⟩:=aH r1
 obtain⟨rfl,_⟩:=aH r2
 obtain⟨m,hm⟩:=(Io hB hw).mx
 refine(Any.strings_Split Tryz.lays146 (by kernel_rfl) ⟨⟨s⟩⟩ ⟨⟨[32]⟩⟩ m w (by show s.length<_;omega) hm (by decide)).mono fun e w' ⟨he,hb⟩=>?_
 have hd:(Lib.splitB ⟨⟨[32]⟩⟩ 0 (Lib.countB ⟨⟨s⟩⟩ ⟨⟨[32]⟩⟩) ⟨⟨s⟩⟩).map (·.data.toList)=words 32 s:=by
  rw[Lib.splitB_data]
  exact J9 32 _ s (aaW s)
 have hlen:(Lib.splitB ⟨⟨[32]⟩⟩ 0 (Lib.countB ⟨⟨s⟩⟩ ⟨⟨[32]⟩⟩) ⟨⟨s⟩⟩).length=Lib.countB ⟨⟨s⟩⟩ ⟨⟨[32]⟩⟩ + 1:=Lib.splitB_all ⟨⟨[32]⟩⟩ (by decide) 0 _ _ rfl
 generalize Lib.splitB ⟨⟨[32]⟩⟩ 0 (Lib.countB ⟨⟨s⟩⟩ ⟨⟨[32]⟩⟩) ⟨⟨s⟩⟩=l at *
 rw[← hlen]at he
 have hwl:(words 32 s).length=l.length:=by rw[← hd];simp
 refine⟨_,l.map Value.string,he,⟨by simp[hwl],.inr ⟨w.heap.size,l.length,(l.map Value.string).toArray,by rw[hwl],Nat.le_refl _, ?_,Nat.le_of_eq hwl, ?_,by simp, ?_⟩⟩,fun ρ'=>?_, ?_⟩
 ·rw[hb]
  show(w.heap.push _)[w.heap.size]?=_
  rw[Array.getElem?_push_size]
  rfl
 ·have:=Lib.countB_le ⟨⟨[32]⟩⟩ (by decide) s.length ⟨⟨s⟩⟩ (Nat.le_refl _)
  have h2:maxLen=9223372036854775807:=rfl
  have h3:(⟨⟨s⟩⟩ : ByteArray).size=s.length:=rfl
  omega
 ·exact List.take_of_length_le (by simp[hwl])
 ·rw[← hd]
  exact adY ρ' l
 ·rw[hb];exact(Below.refl _ _).alloc (Nat.le_refl _) _
end
end Go.Ab.Hw
namespace Go.Ab.Hw
open Go Go.Ab Go.RowKit Go.Proofs
open Go.Proofs.YtcoihknokhdbkaaGreatDoor
theorem sI{P:Program}{n:String}{d:DataW Unit}{r:List (String×DataW Unit)}{w:World}(h:laidMet P ((n,d)::r) w):laidMet P r w:=by
 obtain⟨ps,⟨g,t,cs,fuel,p,q,_,_,_,_,hs,rfl⟩,hnd,hall⟩:=h
 exact⟨q,hs,(List.nodup_append.1 hnd).2.1,fun b off hm=>hall b off (by simp[hm])⟩
theorem akG:Rows.topEvictedRow.laid=("unicode/utf8.first",Rows.laid_unicode_utf8_first)::("unicode/utf8.acceptRanges",Rows.laid_unicode_utf8_acceptRanges)::("internal/strconv.uint64pow10",Lib.tabData .u64 Lib.pow10Tab)::("math/bits.deBruijn32tab",Rows.laid_math_bits_deBruijn32tab)::("math/bits.deBruijn64tab",Lib.tabData .u8 ajW)::Rows.topEvictedRow.laid.drop 5:=by kernel_rfl
theorem inv_of(w:World)(h:laidMetH Tryz.prog Rows.topEvictedRow.laid w)(hsh:w.ShapedOpen Tryz.prog):Iv w:=by
 rw[MakeChecks.laidMetH_plain _ _ _ (by kernel_rfl),akG]at h
 refine⟨cell_of_shapedOpen_int (g:=1) (t:=3) (zero := #[.int .i64 0]) hsh (by decide +kernel) (by kernel_rfl) (by kernel_rfl) (by kernel_rfl) (by kernel_rfl) (by kernel_rfl), ?_, ?_⟩
 ·exact Lib.tabIs_of_head (g:=0) (t:=715) (e:=27) (n:=20) g3 (by kernel_rfl) (by kernel_rfl) (by kernel_rfl) (by kernel_rfl) (by kernel_rfl) (sI (sI h))
 ·exact Lib.tabIs_of_head (g:=5) (t:=352) (e:=5) (n:=64) g7 (by kernel_rfl) (by kernel_rfl) (by kernel_rfl) (by kernel_rfl) (by kernel_rfl) (sI (sI (sI (sI h))))
end Go.Ab.Hw
namespace Go.Ab.Hw
open Go Go.Ab Go.Ab.Sm Go.RowKit Go.Proofs
open Go.Proofs.YtcoihknokhdbkaaGreatDoor
open Go.Ab.Vl (jd ow)
section
variable {w0:World} {hi:Iv w0}
theorem Qh:yX fQ (aC 239):=by
 intro M x Q hQ
 obtain⟨a0,e,h⟩:=Gb hQ
 cases e
 exact DL h
theorem alK:yX xZ (aC 349):=by
 intro M x Q hQ
 obtain⟨a0,e,h⟩:=acN hQ
 cases e
 exact DV h
theorem ad3:yX J4 (aC 351):=by
 intro M x Q hQ
 obtain⟨a0,e,h⟩:=VK hQ
 cases e
 exact A7 h
theorem is32:yX p32 (aC 240):=by
 intro M x Q hQ
 obtain⟨a0,e,h⟩:=af7 hQ
 cases e
 exact qI h
theorem asD:yX BB (aC 457):=by
 intro M x Q hQ
 obtain⟨a0,e,h⟩:=ahG hQ
 cases e
 exact uZ h
theorem AR:yX Co (aC 456):=by
 intro M x Q hQ
 obtain⟨a0,e,h⟩:=ado Qh hQ
 cases e
 exact yL h
theorem ar6:yX qx (aC 580):=by
 intro M x Q hQ
 obtain⟨a0,e,h⟩:=afb Qh hQ
 cases e
 exact Cg h
theorem aef:qB fQ (.fn (.func 239) [] []) (aC 238):=by
 intro M s Q hl hQ
 obtain⟨a0,a1,e,h⟩:=rX (T8:=5) (g:=239) (p:=fQ) (cv:=aC) Qh hl hQ
 cases e
 exact fB h
theorem agv:qB xZ (.fn (.func 349) [] []) (aC 238):=by
 intro M s Q hl hQ
 obtain⟨a0,a1,e,h⟩:=rX (T8:=5) (g:=349) (p:=xZ) (cv:=aC) alK hl hQ
 cases e
 exact fB h
theorem apP:qB J4 (.fn (.func 351) [] []) (aC 238):=by
 intro M s Q hl hQ
 obtain⟨a0,a1,e,h⟩:=rX (T8:=5) (g:=351) (p:=J4) (cv:=aC) ad3 hl hQ
 cases e
 exact fB h
theorem ar2:qB p32 (.fn (.func 240) [] []) (aC 238):=by
 intro M s Q hl hQ
 obtain⟨a0,a1,e,h⟩:=rX (T8:=5) (g:=240) (p:=p32) (cv:=aC) is32 hl hQ
 cases e
 exact fB h
theorem arx:qB BB (.fn (.func 457) [] []) (aC 238):=by
 intro M s Q hl hQ
 obtain⟨a0,a1,e,h⟩:=rX (T8:=5) (g:=457) (p:=BB) (cv:=aC) asD hl hQ
 cases e
 exact fB h
theorem alY:qB Co (.fn (.func 456) [] []) (aC 238):=by
 intro M s Q hl hQ
 obtain⟨a0,a1,e,h⟩:=rX (T8:=5) (g:=456) (p:=Co) (cv:=aC) AR hl hQ
 cases e
 exact fB h
theorem amf:qB qx (.fn (.func 580) [] []) (aC 238):=by
 intro M s Q hl hQ
 obtain⟨a0,a1,e,h⟩:=rX (T8:=5) (g:=580) (p:=qx) (cv:=aC) ar6 hl hQ
 cases e
 exact fB h
theorem Fs:MJ (aC 344):=by
 intro M s Q hl hQ
 obtain⟨a0,e,h⟩:=PK (T8:=5) hl hQ
 cases e
 exact Ee h
theorem IA:Al (aC 348):=by
 intro M s a b Q hQ
 obtain⟨a0,a1,a2,e,h⟩:=Zb hQ
 cases e
 exact Ci h
theorem ajK:qV fI (aC 342):=by
 intro M s Q hl hQ
 obtain⟨a0,e,h⟩:=IZ IA Fs alY hl hQ
 cases e
 exact zX h
theorem adV:PD (base w0 hi) dZ (aC 343):=by
 intro M s Q hB hl hQ
 obtain⟨a0,e,h⟩:=EH aeX arx hB hl hQ
 cases e
 exact zn h
theorem aaD:qV jh (aC 223):=by
 intro M s Q hl hQ
 obtain⟨a0,e,h⟩:=P6 IA agv hl hQ
 cases e
 exact yB h
theorem ajp:NA (aC 463):=by
 intro M s q Q hQ
 obtain⟨a0,a1,e,h⟩:=Tz hQ
 cases e
 exact ol h
theorem asf:NA (aC 350):=by
 intro M s q Q hQ
 obtain⟨a0,a1,e,h⟩:=agk ajp hQ
 cases e
 exact Ae h
theorem aj6:qV j3 (aC 224):=by
 intro M s Q hl hQ
 obtain⟨a0,e,h⟩:=TG asf apP hl hQ
 cases e
 exact zV h
theorem asH:Am (aC 354):=by
 intro M s q Q hQ
 obtain⟨a0,a1,e,h⟩:=MX ajp hQ
 cases e
 exact og h
theorem asF:Am (aC 226):=by
 intro M s q Q hQ
 obtain⟨a0,a1,e,h⟩:=Y8 asH hQ
 cases e
 exact zS h
theorem arL:Fz 58 (aC 578):=by
 intro M s Q hQ
 obtain⟨a0,a1,e,h⟩:=Mg amd (g:=1) (xx:=iT Tryz.prog 640) (c1:=aC 572) (c2:=aC 641) hQ
 cases e
 exact ql h
theorem aqZ:ow 58 (aC 574):=by
 intro M s Q hl hQ
 obtain⟨a0,a1,e,h⟩:=Vl.Qy arL hl hQ
 cases e
 exact si h
theorem asa:ow 58 (aC 459):=by
 intro M s Q hl hQ
 obtain⟨a0,a1,e,h⟩:=Vl.aeS aqZ hl hQ
 cases e
 exact Jo h
theorem ahJ:Ri (base w0 hi) (aC 346):=by
 intro M s Q hB hl h1 h2
 obtain⟨a0,e,h⟩:=Y9 (T:=255) asa aeX ajK adV hB hl h1 h2
 cases e
 exact Ch h
theorem aqJ:abp (base w0 hi) (aC 345):=by
 intro M v b at' Q hB h1 h2 h3 h4 h5 h6
 obtain⟨a0,a1,e,h⟩:=aff (T:=5) Z8 hB h1 h2 h3 h4 h5 h6
 cases e
 exact EW h
theorem afh{a1:AV}{q:Str→Bool}{br:Nat}{X0:RB}{X:Str→RB}(hF:Ph (base w0 hi) (aC) a1 q br X0 X):Ul (base w0 hi) a1 q br X0 X 255 (aC 220):=by
 intro M v b Q hB h1 h2 h3 h4 h5 h6 h7
 obtain⟨a0,a1,e,h⟩:=adP aqJ ahJ hF hB h1 h2 h3 h4 h5 h6 h7
 cases e
 exact EO h
theorem ZY:OJ 9 (aC 352):=by
 intro M v l n Q h1 h2 h3 h4 h5
 obtain⟨a0,a1,e,h⟩:=abh (TH:=255) Fs h1 h2 h3 h4 h5
 cases e
 exact DX h
theorem Zt:abY (aC 235):=by
 intro M v l n Q h1 h2 h3 h4 h5
 obtain⟨a0,a1,e,h⟩:=Iq ZY h1 h2 h3 h4 h5
 cases e
 exact DY h
theorem ap7:aaX (base w0 hi) (aC 579):=by
 intro M v w s Q hB h1 h2 h3 h4 h5
 obtain⟨a0,a1,e,h⟩:=aeZ Z8 hB h1 h2 h3 h4 h5
 cases e
 exact L8 h
theorem ak0:YL (aC 651):=by
 intro M x Q hQ
 obtain⟨a0,e,h⟩:=acg hQ
 cases e
 exact uE h
theorem as0:QT (aC 586):=by
 intro M s Q h1 h2 h3 h4
 obtain⟨a0,a1,a2,e,h⟩:=Oh (TE:=639) (T8:=5) (cu:=aC 652) ak0 h1 h2 h3 h4
 cases e
 exact qD h
theorem asL:QT (aC 581):=by
 intro M s Q h1 h2 h3 h4
 obtain⟨a0,a1,a2,e,h⟩:=Qo (ct:=aC 371) as0 h1 h2 h3 h4
 cases e
 exact zP h
theorem aos:acn (base w0 hi) (aC 464):=by
 intro M v b at' Q hB h1 h2 h3 h4 h5
 obtain⟨a0,a1,e,h⟩:=aeF (T:=5) ap7 IA Fs amf asL hB h1 h2 h3 h4 h5
 cases e
 exact FT h
theorem adR:Oc (base w0 hi) 5 (aC 353):=by
 intro M v b at' Q hB h1 h2 h3 h4 h5
 obtain⟨a0,a1,e,h⟩:=Vo aos hB h1 h2 h3 h4 h5
 cases e
 exact Bh h
theorem Zy:pg 5 (aC 125):=by
 intro M v s Q h1 h2 h3
 obtain⟨a0,e,h⟩:=Hr h1 h2 h3
 cases e
 exact oL h
theorem ad4:Ue (base w0 hi) 5 (aC 225):=by
 intro M v hv b l at' Q hB h1 h2 h3 h4 h5 h6 h7 h8
 obtain⟨a0,a1,a2,e,h⟩:=afG ZY Fs adR IA aef adI Zy hB h1 h2 h3 h4 h5 h6 h7 h8
 cases e
 exact Fj h
theorem aeH(br:Nat):Ph (base w0 hi) (aC) (.fn (.func 221) [] [.ptr br 0]) A8 br (mM 258 [] []) (WS 258):=by
 intro M s K hB hbr hX hl h0 h1
 rw[Nn]
 exact tQ (adK (TS:=9) akQ aaD aj6 hB hbr hX hl h0 h1)
theorem abt(br:Nat):Ph (base w0 hi) (aC) (.fn (.func 237) [] [.ptr br 0]) uu br (jP 271 0) (TI 271):=by
 intro M s K hB hbr hX hl h0 h1
 rw[Nn]
 exact tq (adu asF aef ar2 adI hbr hX hl h0 h1)
theorem aiA:Ns (base w0 hi) 255 5 (aC 128):=by
 intro M v b Q hB h1 h2 h3 h4
 obtain⟨a0,e,h⟩:=Tm (T:=258) (g:=221) (fun br=>afh (aeH br)) ad4 hB h1 h2 h3 h4
 cases e
 exact u7 h
theorem aed:Ki (base w0 hi) 255 5 (aC 132):=by
 intro M v b Q hB h1 h2 h3 h4
 obtain⟨a0,e,h⟩:=QZ (T:=271) (g:=237) (fun br=>afh (abt br)) ad4 hB h1 h2 h3 h4
 cases e
 exact uK h
theorem SQ:Ir (base w0 hi) 5 (aC 216):=by
 intro M v bv f b l m z Q hB h1 h2 h3 h4 h5 h6 h7 h8 h9 h10
 obtain⟨a0,a1,a2,a3,a4,e,h⟩:=YF (TH:=255) ajK adV Fs hB h1 h2 h3 h4 h5 h6 h7 h8 h9 h10
 cases e
 exact Bg h
theorem Sb:GU (base w0 hi) (aC 217):=by
 intro M n Q hB h1 h2
 obtain⟨a0,e,h⟩:=Yk (T:=255) afK hB h1 h2
 cases e
 exact Ba h
theorem aCw:MQ (aC 215):=by
 intro M m q x y Q h1 h2 h3 h4 h5
 obtain⟨a0,e,h⟩:=VY (T:=258) aaD aj6 h1 h2 h3 h4 h5
 cases e
 exact wB h
theorem afM:JZ (base w0 hi) 5 (aC 124):=by
 intro M hv bv m q b l Q hB h1 h2 h3 h4 h5 h6 h7 h8 h9
 obtain⟨a0,e,h⟩:=Tp (T:=258) aCw Sb SQ hB h1 h2 h3 h4 h5 h6 h7 h8 h9
 cases e
 exact uM h
theorem adj:GV (base w0 hi) 5 (aC 131):=by
 intro M hv bv n b l Q hB h1 h2 h3 h4 h5 h6 h7
 obtain⟨a0,e,h⟩:=QX (T:=271) afK Sb SQ hB h1 h2 h3 h4 h5 h6 h7
 cases e
 exact uH h
theorem ao4:Vk 5 (aC 541):=by
 intro M n Q h1 h2 h3
 obtain⟨a0,a1,e,h⟩:=acv (TS:=9) h1 h2 h3
 cases e
 exact L9 h
theorem ahr:Ia 5 (aC 428):=by
 intro M bb TB vs xss Q h1 h2 h3 h4 h5 h6 h7 h8
 obtain⟨a0,e,h⟩:=Va (TS:=9) ao4 h1 h2 h3 h4 h5 h6 h7 h8
 cases e
 exact Jk h
end
end Go.Ab.Hw
namespace Go.Ab.Sy
open Go Go.Ab Go.RowKit Go.Proofs
open Go.Proofs.YtcoihknokhdbkaaGreatDoor
open Go.Ab.Hw (Iv base)
theorem ak5:Go.Ab.aS.pg 5 1 1 (aC 125):=fun h1 h2 h3 h4 _ hQ=>oL (Go.Ab.aS.aeY h1 h2 (Nat.le_refl _) h3 h4 hQ)
theorem ajZ:Go.Ab.aS.O9 5 (aC 84):=by
 intro M0 a0 cs n v h1 h2 h3 h4 Q hQ
 obtain⟨b0,b1,e,h⟩:=Go.Ab.aS.afv (T:=5) ak5 h1 h2 h3 h4 hQ
 cases e
 exact UI h
theorem asx:Go.Ab.Crw.Gj 5 (aC 85):=by
 intro M v L s Q h1 h2 hQ
 obtain⟨b0,b1,e,h⟩:=Go.Ab.Crw.Vz (T:=5) ajZ h1 h2 hQ
 cases e
 exact XU h
theorem amU:Go.Ab.aS.abU 421 (aC 274):=by
 intro M r S bs f Q h1 hQ
 obtain⟨b0,e,h⟩:=Go.Ab.aS.agW (T:=421) h1 hQ
 cases e
 exact EP h
theorem ajM:Go.Ab.aS.Yu 421 (aC 158):=by
 intro M r most S bs f Q h1 h2 hQ
 obtain⟨b0,b1,e,h⟩:=Go.Ab.aS.aip (T:=421) amU h1 h2 hQ
 cases e
 exact JD h
theorem amq:Go.Ab.aS.Oi 421 (aC 159):=by
 intro M r S bs f Q h1 hQ
 obtain⟨b0,e,h⟩:=Go.Ab.aS.adx (T:=421) amU h1 hQ
 cases e
 exact Jp h
theorem ap8:Go.Ab.Crw.Uv 421 (aC 157):=by
 intro M r most S bs f Q h1 h2 hQ
 obtain⟨b0,b1,e,h⟩:=Go.Ab.Crw.afC (T:=421) ajM h1 h2 hQ
 cases e
 exact Jl h
theorem anP:abS 421 (aC 297):=by
 intro M r S x bs Q h1 hQ
 obtain⟨b0,e,h⟩:=aeC (T:=421) h1 hQ
 cases e
 exact Jm h
theorem ajY:Un (aC 528):=by
 intro M v w l Q h1 h2 h3 hQ
 obtain⟨b0,b1,e,h⟩:=adQ h1 h2 h3 hQ
 cases e
 exact N9 h
theorem asN:ada (aC 529):=by
 intro M v l Q h1 h2 hQ
 obtain⟨b0,e,h⟩:=aeD ajY h1 h2 hQ
 cases e
 exact OO h
theorem aoB:Go.Ab.Sha.UE (aC 316):=by
 intro M x Q hQ
 obtain⟨b0,e,h⟩:=Go.Ab.Sha.Gb hQ
 cases e
 exact Ma h
theorem ag9:Go.Ab.Sha.Ye (aC 183):=by
 intro M s Q h1 hQ
 obtain⟨b0,e,h⟩:=Go.Ab.Sha.Zl (T32:=242) aoB h1 hQ
 cases e
 exact Nu h
theorem aoc:aix (aC 429):=by
 intro M db nm cl l opn el fz es ds Q h1 h2 h3 h4 h5 h6 hQ
 obtain⟨b0,e,h⟩:=aiD h1 h2 h3 h4 h5 h6 hQ
 cases e
 exact zy h
theorem arV:aht 2 (aC 130):=by
 intro M cs v l n Q h1 h2 h3 h4 h5 h6 h7 hQ
 match cs,h1,h2,h3 with
 |[x,y,w,z],_,h2,h3 =>
  cases h2
  exact wC (Go.Ab.Hw.agE (T:=258) Go.Ab.Hw.Zt h4 h5 h6 h7 h3 hQ)
theorem asI:aht 1 (aC 133):=by
 intro M cs v l n Q h1 h2 h3 h4 h5 h6 h7 hQ
 match cs,h1,h2,h3 with
 |[x,w,z],_,h2,h3 =>
  cases h2
  exact uL (Go.Ab.Hw.adF (T:=271) Go.Ab.Hw.Zt h4 h5 h6 h7 h3 hQ)
theorem aAx:Go.Ab.Sha.ah9 (aC 562):=by
 intro M x k Q h1 hQ
 obtain⟨b0,b1,e,h⟩:=Go.Ab.Sha.ahl h1 hQ
 cases e
 exact tJ h
theorem asJ:Go.Ab.Sha.abI .i64 (aC 446):=by
 intro M x n Q h1 hQ
 obtain⟨b0,b1,e,h⟩:=Go.Ab.Sha.aev aAx h1 hQ
 cases e
 exact Nj h
theorem ast:Go.Ab.Sha.acX 486 489 (aC 333):=by
 intro M sb kb bv h k b Q h1 h2 h3 h4 h5 h6 h7 h8 h9 hQ
 obtain⟨b0,b1,b2,e,h⟩:=Go.Ab.Sha.afy (TK:=486) (TS:=489) asJ h1 h2 h3 h4 h5 h6 h7 h8 h9 hQ
 cases e
 exact EA h
theorem ab4:Go.Ab.Sha.ES Go.Ab.Sha.kW (aC 331):=by
 intro M Q hQ
 obtain⟨e,h⟩:=Go.Ab.Sha.Ql (T:=486) hQ
 cases e
 exact Fw h
theorem aoi:Go.Ab.Sha.ES Go.Ab.Sha.hW (aC 332):=by
 intro M Q hQ
 obtain⟨e,h⟩:=Go.Ab.Sha.Iq (T:=489) hQ
 cases e
 exact Mc h
theorem akz:Go.Ab.Sha.pg 5 (aC 125):=by
 intro M v s Q h1 h2 hQ
 obtain⟨b0,e,h⟩:=Go.Ab.Sha.Hr (T:=5) h1 h2 hQ
 cases e
 exact oL h
theorem aAG:Go.Ab.Sha.aiO (aC 201):=by
 intro M v b Q h1 h2 hQ
 obtain⟨b0,e,h⟩:=Go.Ab.Sha.ahO (T32:=242) (TK:=486) (TS:=489) (T8:=5) ab4 aoi ast akz h1 h2 hQ
 cases e
 exact Pq h
theorem azu{M:RM}{s:List UInt8}{x:UInt8}:ic Tryz.prog 664 [St s,N .u8 (x.toNat:Int)] M (N .i64 (Lib.indexByte s x)):=Go.Ab.Hw.Ta
theorem aCj{M:RM}{s t:List UInt8}:ic Tryz.prog 650 [St s,St t] M (N .i64 (Lib.compareBytes s t)):=by
 intro ρ w us hus hw
 cases hus with
 |cons _ u1 _ us r1 hus =>
 cases hus with
 |cons _ u2 _ us r2 hus =>
 cases hus
 obtain⟨rfl,_⟩:=aH r1
 obtain⟨rfl,_⟩:=aH r2
 refine⟨.int .i64 (Lib.compareBytes s t), ?_,.sc _ rfl⟩
 refine zY (fn:=Tryz.f650) (s:=Extern.BytealgCompare.compare) (by kernel_rfl) (kE.ng 650 Tryz.f650 (by kernel_rfl)) (by kernel_rfl) (by kernel_rfl) (by kernel_rfl) (fun w=>?_) w
 rw[Lib.run_compareString]
theorem aqm{M M' : RM}{b o:Nat}{x y:Int}(h1:M.loads b o 1=some [N .i64 x])(h2:M.stores b o [N .i64 (IntKind.wrap .i64 (x+y))]=some M'):jW Tryz.prog 59 [.ptr b o,N .i64 y] M (N .i64 (IntKind.wrap .i64 (x+y))) M' :=
 II (fn:=Tryz.f59) (by kernel_rfl) (kE.ng 59 Tryz.f59 (by kernel_rfl)) (by kernel_rfl) (by kernel_rfl) (by kernel_rfl) h1 h2
theorem alU{M M' : RM}{b o:Nat}{x y:Int}(h1:M.loads b o 1=some [N .u64 x])(h2:M.stores b o [N .u64 (IntKind.wrap .u64 (x+y))]=some M'):jW Tryz.prog 200 [.ptr b o,N .u64 y] M (N .u64 (IntKind.wrap .u64 (x+y))) M' :=
 II (fn:=Tryz.f200) (by kernel_rfl) (kE.ng 200 Tryz.f200 (by kernel_rfl)) (by kernel_rfl) (by kernel_rfl) (by kernel_rfl) h1 h2
theorem ahQ{M:RM}{b o:Nat}{x:Int}(h1:M.loads b o 1=some [N .u64 x]):ic Tryz.prog 199 [.ptr b o] M (N .u64 x) :=
 Em (fn:=Tryz.f199) (by kernel_rfl) (kE.ng 199 Tryz.f199 (by kernel_rfl)) (by kernel_rfl) (by kernel_rfl) (by kernel_rfl) h1
theorem ahV{M:RM}{b o:Nat}{x:Int}(h1:M.loads b o 1=some [N .u32 x]):ic Tryz.prog 258 [.ptr b o] M (N .u32 x) :=
 Em (fn:=Tryz.f258) (by kernel_rfl) (kE.ng 258 Tryz.f258 (by kernel_rfl)) (by kernel_rfl) (by kernel_rfl) (by kernel_rfl) h1
theorem akX{M:RM}{t b cl:Nat}{es:List (AV×AV×Nat)}(hh:M.heap b=some (.map es cl)):jW Tryz.prog 136 [.ifc t (.map b)] M (.ifc t (.map M.next)) (M.push (.map es cl)) :=
 NB (fn:=Tryz.f136) (by kernel_rfl) (kE.ng 136 Tryz.f136 (by kernel_rfl)) (by kernel_rfl) (by kernel_rfl) (by kernel_rfl) hh
theorem as6:∃ fn,Tryz.prog.funcs[447]?=some fn∧fn.body=none∧Extern.findNext fn=none∧Extern.find fn=some Extern.AbiNoEscape.same :=
 ⟨Tryz.f447,by kernel_rfl,by kernel_rfl,by kernel_rfl,by kernel_rfl⟩
theorem afS:∀ (f n:Nat),n<10^f→1≤f→Lib.nDigits n=ndg f n
 |0,_,_,h=>by omega
 |f+1,n,hn,_=>by
  rw[Lib.nDigits]
  unfold ndg
  split
  ·rename_i h
   cases hb:Nat.blt n 10 with
   |true=>rfl
   |false=>have:=Qg hb;omega
  ·rename_i h
   cases hb:Nat.blt n 10 with
   |true=>have:=eH hb;omega
   |false =>
    have hf:1≤f:=by
     rcases Nat.eq_zero_or_pos f with e|e
     ·subst e;simp at hn;omega
     ·exact e
    have:=afS f (n / 10) (Nat.div_lt_of_lt_mul (by rw[Nat.pow_succ,Nat.mul_comm]at hn;exact hn)) hf
    rw[this]
    rfl
section
variable {w0:World} {hi:Iv w0} {E:En} {H:SH} {M:RM} {K:KS} {C:aI} {args:List SV} {avs:List AV}
theorem aA9{M:RM}{n:Nat}{Q:aj}(hB:M.base=base w0 hi)(h1:1≤n)(h2:n<18446744073709551616)(hQ:Q (N .i64 (Lib.nDigits n:Int)) M):aC 453 [N .u64 (n:Int)] M Q:=by
 refine dL.BL (v:=N .i64 (Lib.nDigits n:Int)) ⟨Tryz.f453,_,Tryz.func453,rfl⟩ (fun ρ w us hus hw=>?_) hQ
 cases hus with
 |cons _ u1 _ us r1 hus =>
 cases hus
 obtain⟨rfl,_⟩:=aH r1
 refine(Any.internal_strconv_numDigits Tryz.laysM284 n h1 h2 w (Go.Ab.Hw.Io hB hw).p10).mono fun e w' ⟨he,hb⟩=>⟨_,he,by rw[hb];exact Below.refl _ _, ?_⟩
 exact .sc _ rfl
theorem akx(hB:M.base=base w0 hi)(hH:HR E H M)(ha:aP E args avs)(h:aiN C args H K=true):aC 453 avs M (HK E K):=by
 unfold aiN at h
 split at h <;>try(cases h;done)
 rename_i n
 split at h <;>try(cases h;done)
 rename_i h1 h2
 have h1:=bP h1
 have h2:=eH h2
 cases ha with|cons _ va _ _ p q =>
 cases q
 cases p
 refine aA9 hB h1 h2 ?_
 rw[afS 20 n (by omega) (by decide)]
 exact dN hH (.i _ _) h
end
end Go.Ab.Sy
namespace Go.Proofs.YtcoihknokhdbkaaGreatDoor
open Go Go.Proofs
set_option maxRecDepth 100000 in
set_option maxHeartbeats 1600000 in
theorem aaJ{b off:Nat}{g:FuncId}{cs:Array Value}{w:World}{R1 R2 R3 R4 R5:World→Prop}
  (eg:∀ (xs:Array Value)(w:World),(callFunc g xs).run Tryz.prog w=.ok (.enter g xs) w)
  (asO:Calls Tryz.prog 259 #[.pointer (some ⟨b,off+1,none⟩)] w fun e w'=>e=.returned (.tuple #[])∧R1 w')
  (as4:∀ w',R1 w'→Calls Tryz.prog 148 #[.pointer (some ⟨b,off,none⟩)] w' fun e w''=>e=.returned (.bool false)∧R2 w'')
  (hF:∀ w',R2 w'→Calls Tryz.prog g cs w' fun e w''=>(∃ v,e=.returned v)∧R3 w'')
  (amv:∀ w',R3 w'→CallsD Tryz.prog 261 #[.pointer (some ⟨b,off,none⟩),.bool true] .returning w' fun e u' w''=>u'=.returning∧(∃ v,e=.returned v)∧R4 w'')
  (alD:∀ w',R4 w'→CallsD Tryz.prog 260 #[.pointer (some ⟨b,off+1,none⟩)] .returning w' fun e u' w''=>u'=.returning∧(∃ v,e=.returned v)∧R5 w'') :
  Calls Tryz.prog 149 #[.pointer (some ⟨b,off,none⟩),.func (.func g) #[] cs] w fun e w'=>e=.returned (.tuple #[])∧R5 w':=by
 have hnot:∀ (x:Bool)(w:World),(Op.unary .not (.bool x)).run Tryz.prog w=.ok (.bool (!x)) w:=fun _ _=>rfl
 go_enter_defers Tryz.func149,Tryz.ntmps149
 go_wp2_with (go_at_call 259;refine asO.mono ?_;rintro e w' ⟨rfl,hr1⟩)
 refine(as4 _ hr1).mono ?_
 rintro e w2 ⟨rfl,hr2⟩
 go_wp2
 refine(hF _ hr2).mono ?_
 rintro e w3 ⟨⟨v,rfl⟩,hr3⟩
 go_wp2
 show Leaves _ _ _ _ _ _ _
 refine leaves_cons (f:=261) (args := #[.pointer (some ⟨b,off,none⟩),.bool true]) (by simp) (by simp[go_sem]) ?_
 refine(amv _ hr3).mono ?_
 rintro e u' w4 ⟨rfl,⟨v',rfl⟩,hr4⟩
 refine leaves_cons (f:=260) (args := #[.pointer (some ⟨b,off+1,none⟩)]) (by simp[settle]) (by simp[go_sem]) ?_
 refine(alD _ hr4).mono ?_
 rintro e u' w5 ⟨rfl,⟨v'',rfl⟩,hr5⟩
 simp[Leaves,settle,results,Tryz.results149]
 exact hr5
end Go.Proofs.YtcoihknokhdbkaaGreatDoor
namespace Go.Ab.Sy
open Go Go.Ab Go.RowKit Go.Proofs
open Go.Proofs.YtcoihknokhdbkaaGreatDoor
section
variable {P:Program} {M M' : RM} {ρ:Ren} {w:World} {Q:aj} {b o:Nat} {kd:IntKind} {x z:Int}
theorem set1{i:gF}{y:AV}{u:Value}(hw:bu P ρ M w)(hb:ρ b=some i)(hl:M.loads b o 1=some [y])(hs:M.stores b o [N kd z]=some M') :
  ∃ u,ai ρ y u∧w.cell? ⟨i.cb,i.sh+o,none⟩=some u∧w.frozen? ⟨i.cb,i.sh+o,none⟩=false∧After P M ρ w M' ρ (w.setCell ⟨i.cb,i.sh+o,none⟩ (.int kd z)):=by
 obtain⟨u,hu,hc⟩:=sG hw hb hl
 obtain⟨w1,hrun,haf⟩:=ER hw hb (vs:=[.int kd z]) (.cons _ _ _ _ (.sc _ rfl) .nil) hs
 have h:=hrun _ rfl
 have h0:(⟨i.cb,i.sh+o,none⟩ : Addr).add 0=⟨i.cb,i.sh+o,none⟩:=by simp[Addr.add]
 unfold storeCells at h
 rw[h0,Sem.run_bind,run_store P w _ _ _ rfl,hc]at h
 dsimp only at h
 cases hf:w.frozen? ⟨i.cb,i.sh+o,none⟩with
 |true=>rw[hf]at h;cases h
 |false =>
  rw[hf]at h
  simp only[Bool.false_eq_true,if_false,Result.andThen_ok]at h
  have:w.setCell ⟨i.cb,i.sh+o,none⟩ (.int kd z)=w1:=by
   unfold storeCells at h
   simp only[Sem.run_pure]at h
   injection h
  rw[this]
  exact⟨u,hu,hc,rfl,haf⟩
theorem Ub(n:String) (h:n ≠ "runtime.NumGoroutine"):(n == "runtime.NumGoroutine")=false:=by simpa using h
theorem acj{g:FuncId}{fn:Func}(hf:P.funcs[g]?=some fn) (hng:fn.name ≠ "runtime.NumGoroutine") (hb:fn.body.isNone=true) (h1:Extern.findNext fn=none) (h2:Extern.find fn=some (Extern.Atomic.casT (.int kd)))
  (hl:M.loads b o 1=some [N kd x]) (hs:M.stores b o [N kd z]=some M'):jW P g [.ptr b o,N kd x,N kd z] M (Bo true) M':=by
 intro ρ w us hus hw
 cases hus with
 |cons _ u1 _ us r1 hus =>
 cases hus with
 |cons _ u2 _ us r2 hus =>
 cases hus with
 |cons _ u3 _ us r3 hus =>
 cases hus
 obtain⟨rfl,_⟩:=aH r2
 obtain⟨rfl,_⟩:=aH r3
 obtain⟨i,hb',hc⟩:=bX r1
 obtain⟨u,hu,hcell,hfz,haf⟩:=set1 (u:=undef) hw hb' hl hs
 obtain⟨rfl,_⟩:=aH hu
 rw[hc]
 exact⟨ρ,_,.bool true,run_call_cas_hit hf (Ub _ hng) hb h1 kd h2 hcell hfz,haf,.sc _ rfl⟩
theorem V9{g:FuncId}{fn:Func}{y:AV}(hf:P.funcs[g]?=some fn) (hng:fn.name ≠ "runtime.NumGoroutine") (hb:fn.body.isNone=true) (h1:Extern.findNext fn=none) (h2:Extern.find fn=some Extern.Atomic.storeT)
  (hl:M.loads b o 1=some [y]) (hs:M.stores b o [N kd z]=some M'):jW P g [.ptr b o,N kd z] M (.tup []) M':=by
 intro ρ w us hus hw
 cases hus with
 |cons _ u1 _ us r1 hus =>
 cases hus with
 |cons _ u2 _ us r2 hus =>
 cases hus
 obtain⟨rfl,_⟩:=aH r2
 obtain⟨i,hb',hc⟩:=bX r1
 obtain⟨u,hu,hcell,hfz,haf⟩:=set1 (u:=undef) hw hb' hl hs
 rw[hc]
 exact⟨ρ,_,.tuple #[],run_call_store hf (Ub _ hng) hb h1 h2 hcell hfz,haf,.tup _ _ .nil⟩
theorem JS{g:FuncId}{fn:Func}(hf:P.funcs[g]?=some fn) (hng:fn.name ≠ "runtime.NumGoroutine") (hb:fn.body.isNone=true) (h1:Extern.findNext fn=none) (m:Mark)
  (h2:Extern.find fn=some (fun _=>do mark m;pure Extern.Race.none_)):ic P g [] M (.tup []):=by
 intro ρ w us hus hw
 cases hus
 exact⟨.tuple #[],run_call_mark0 hf (Ub _ hng) hb h1 m h2 w,.tup _ _ .nil⟩
theorem Jj{g:FuncId}{fn:Func}(hf:P.funcs[g]?=some fn) (hng:fn.name ≠ "runtime.NumGoroutine") (hb:fn.body.isNone=true) (h1:Extern.findNext fn=none) (m:Addr→Mark)
  (h2:Extern.find fn=some (Extern.Race.marked m)):ic P g [.ptr b o] M (.tup []):=by
 intro ρ w us hus hw
 cases hus with
 |cons _ u1 _ us r1 hus =>
 cases hus
 obtain⟨i,hb',hc⟩:=bX r1
 rw[hc]
 exact⟨.tuple #[],run_call_marked hf (Ub _ hng) hb h1 m h2 _ w,.tup _ _ .nil⟩
end
section
variable {M M' : RM} {Q:aj} {b o:Nat}
theorem UT:ic Tryz.prog 497 [] M (.tup []):=JS (fn:=Tryz.f497) (by kernel_rfl) (kE.ng 497 Tryz.f497 (by kernel_rfl)) (by kernel_rfl) (by kernel_rfl) .disable (by kernel_rfl)
theorem Z7:ic Tryz.prog 499 [] M (.tup []):=JS (fn:=Tryz.f499) (by kernel_rfl) (kE.ng 499 Tryz.f499 (by kernel_rfl)) (by kernel_rfl) (by kernel_rfl) .enable (by kernel_rfl)
theorem ahD:ic Tryz.prog 500 [.ptr b o] M (.tup []):=Jj (fn:=Tryz.f500) (by kernel_rfl) (kE.ng 500 Tryz.f500 (by kernel_rfl)) (by kernel_rfl) (by kernel_rfl) .acquire (by kernel_rfl)
theorem ajf:ic Tryz.prog 502 [.ptr b o] M (.tup []):=Jj (fn:=Tryz.f502) (by kernel_rfl) (kE.ng 502 Tryz.f502 (by kernel_rfl)) (by kernel_rfl) (by kernel_rfl) .releaseMerge (by kernel_rfl)
theorem azV{x z:Int}(hl:M.loads b o 1=some [N .i32 x])(hs:M.stores b o [N .i32 z]=some M'):jW Tryz.prog 498 [.ptr b o,N .i32 x,N .i32 z] M (Bo true) M' :=
 acj (fn:=Tryz.f498) (by kernel_rfl) (kE.ng 498 Tryz.f498 (by kernel_rfl)) (by kernel_rfl) (by kernel_rfl) (by kernel_rfl) hl hs
theorem apE{y:AV}{z:Int}(hl:M.loads b o 1=some [y])(hs:M.stores b o [N .u32 z]=some M'):jW Tryz.prog 386 [.ptr b o,N .u32 z] M (.tup []) M' :=
 V9 (fn:=Tryz.f386) (by kernel_rfl) (kE.ng 386 Tryz.f386 (by kernel_rfl)) (by kernel_rfl) (by kernel_rfl) (by kernel_rfl) hl hs
theorem alM{x y:Int}(h1:M.loads b o 1=some [N .i32 x])(h2:M.stores b o [N .i32 (IntKind.wrap .i32 (x+y))]=some M'):jW Tryz.prog 503 [.ptr b o,N .i32 y] M (N .i32 (IntKind.wrap .i32 (x+y))) M' :=
 II (fn:=Tryz.f503) (by kernel_rfl) (kE.ng 503 Tryz.f503 (by kernel_rfl)) (by kernel_rfl) (by kernel_rfl) (by kernel_rfl) h1 h2
theorem aor{x:Int}(h1:M.loads b o 1=some [N .u32 x]):ic Tryz.prog 258 [.ptr b o] M (N .u32 x) :=
 Em (fn:=Tryz.f258) (by kernel_rfl) (kE.ng 258 Tryz.f258 (by kernel_rfl)) (by kernel_rfl) (by kernel_rfl) (by kernel_rfl) h1
theorem GJ{K:AV→Prop}:aZ (.ptr b o) 0 K=K (.ptr b o):=by rw[jJ];rfl
def Ou(M:RM)(b o:Nat):Prop:=∃ l opn el fz,M.heap b=some (.row l opn el fz)∧o+1≤l.length
theorem ar3(hl:M.loads b o 1=some [N .i32 0])(hs:M.stores b o [N .i32 1]=some M')(hr:Ou M' b o)(hQ:Q (.tup []) M'):aC 384 [.ptr b o] M Q:=by
 refine rE ?_
 unfold Go.Ab.Tn.nR
 refine .inr (.inr (.inr (.inl ⟨.tup [],UT, ?_⟩)))
 dsimp only
 rw[bg,GJ]
 refine .inr (.inr (.inr (.inr ⟨Bo true,M',azV hl hs, ?_⟩)))
 dsimp only
 rw[dE,lS,dE]
 refine .inr (.inr (.inr (.inl ⟨.tup [],Z7, ?_⟩)))
 dsimp only
 obtain⟨l,opn,el,fz,h1,h2⟩:=hr
 refine⟨b,o,l,opn,el,fz,rfl,h1,h2, ?_⟩
 exact .inr (.inr (.inr (.inl ⟨.tup [],ahD,hQ⟩)))
theorem arW(hl:M.loads b o 1=some [N .i32 0])(hs:M.stores b o [N .i32 1]=some M')(hr:Ou M' b o)(hQ:Q (.tup []) M'):aC 259 [.ptr b o] M Q:=by
 refine Ce ?_
 unfold Go.Ab.Tn.zG
 rw[bg,GJ]
 exact ar3 hl hs hr hQ
theorem ak6(hl:M.loads b o 1=some [N .i32 1])(hs:M.stores b o [N .i32 0]=some M')(hr:Ou M b o)(hQ:Q (.tup []) M'):aC 385 [.ptr b o] M Q:=by
 refine qC ?_
 unfold Go.Ab.Tn.mq
 obtain⟨l,opn,el,fz,h1,h2⟩:=hr
 rw[lS,dE,bg,GJ]
 refine⟨b,o,_,rfl,hl, ?_⟩
 dsimp only
 refine⟨b,o,l,opn,el,fz,rfl,h1,h2, ?_⟩
 refine .inr (.inr (.inr (.inl ⟨.tup [],ajf, ?_⟩)))
 dsimp only
 refine .inr (.inr (.inr (.inl ⟨.tup [],UT, ?_⟩)))
 dsimp only
 rw[bg,GJ]
 refine .inr (.inr (.inr (.inr ⟨N .i32 0,M',alM (x:=1) (y:=-1) hl hs, ?_⟩)))
 dsimp only
 rw[lS,iJ,show((0:Int) != 0)=false from rfl,di]
 exact .inr (.inr (.inr (.inl ⟨.tup [],Z7,hQ⟩)))
theorem asq(hl:M.loads b o 1=some [N .u32 0])(hQ:Q (Bo false) M):aC 148 [.ptr b o] M Q:=by
 refine uJ ?_
 unfold Go.Ab.Tn.qi
 rw[bg,GJ]
 refine .inr (.inr (.inr (.inl ⟨N .u32 0,aor hl, ?_⟩)))
 dsimp only
 rw[iJ]
 exact hQ
theorem b32(hQ:Q (N .u32 1) M):aC 387 [Bo true] M Q:=by
 refine Cf ?_
 unfold Go.Ab.Tn.zH
 rw[dE]
 exact hQ
theorem RU{P:Program}(hP:POk P){f:FuncId}{fn:Func}{args:List AV}(hfn:P.funcs[f]?=some fn)(h:qf P fn args M Q){ρ:Ren}{w:World}{us:List Value}{u:FrameMode}(hargs:aQ ρ args us)(hw:bu P ρ M w) :
  CallsD P f ⟨us⟩ u w fun e u' w'=>u'=u∧∃ v' v M' ρ',e=.returned v'∧After P M ρ w M' ρ' w'∧ai ρ' v v'∧Q v M':=by
 unfold qf at h
 split at h
 case h_2=>cases h
 rename_i c hbody
 have hlen:=hargs.length
 have hA:fo ρ (args.length+(fn.ntmps-args.length)) (Tree.ofList args 0 .leaf) { tmps:=⟨us⟩++Array.replicate (fn.ntmps-(⟨us⟩ : Array Value).size) undef,defers:=[] } := by
  refine⟨by simp[hlen],fun t=>?_,rfl⟩
  rw[Tree.mZ]
  by_cases ht:t<args.length
  ·rw[if_pos (by omega),Nat.sub_zero]
   obtain⟨u,hu,hv⟩:=hargs.get (n:=t) (x:=args[t]) (by simp[ht])
   rw[List.getElem?_eq_getElem ht]
   simp only[Option.getD_some]
   have:((⟨us⟩ : Array Value)++Array.replicate (fn.ntmps-(⟨us⟩ : Array Value).size) undef).getD t undef=u:=by
    rw[Array.getD_eq_getD_getElem?,Array.getElem?_append_left (by simp;omega)]
    simp[hu]
   rw[this];exact hv
  ·rw[if_neg (by omega)]
   exact .top _
 refine callsD_of_wp hfn hbody (wp_mono (SN hP 1000 c [] 0 _ M _ h M ρ w ρ _ w (After.refl hw) hA) fun e a w' hp=>?_)
 obtain⟨x,T',M',ρ',rfl,k1,k2,k3,k4⟩:=hp
 have key:(∃ vs us,(fn.results.toList.mapM (qP a.tmps)).run P w'=.ok us w'∧aQ ρ' vs us∧Go.Ab.Ew Q M' vs) →
   a.defers=[]∧∃ v,(results fn a.tmps).run P w'=.ok v w'∧∃ v' v_1 VH WO,Ending.returned v=.returned v'∧After P M ρ w VH WO w'∧ai WO v_1 v'∧Q v_1 VH:=by
  rintro⟨vs,us,h1,h2,h3⟩
  have hres:(results fn a.tmps).run P w'=.ok (if h:(⟨us⟩ : Array Value).size=1 then(⟨us⟩ : Array Value)[0]else .tuple ⟨us⟩) w':=by
   have e:results fn a.tmps=(fn.results.mapM (qP a.tmps) >>= fun vs=>pure (if h:vs.size=1 then vs[0]else .tuple vs)):=rfl
   rw[e,Array.mapM_eq_mapM_toList]
   simp only[Sem.run_bind,Sem.run_map,h1,Result.andThen_ok,Sem.run_pure]
  refine⟨k2.defers,_,hres, ?_⟩
  cases h2 with
  |nil=>exact⟨_,_,M',ρ',rfl,k1,.tup _ _ .nil,h3⟩
  |cons x v xs vs2 hv htl =>
   cases htl with
   |nil=>exact⟨_,x,M',ρ',rfl,k1,hv,h3⟩
   |cons y u ys us2 hu Vj=>exact⟨_,_,M',ρ',rfl,k1,.tup _ _ (.cons _ _ _ _ hv (.cons _ _ _ _ hu Vj)),h3⟩
 cases x with
 |normal=>exact key (qb k2 k1.rel _ _ k4)
 |ret=>exact key (qb k2 k1.rel _ _ k4)
 |exit id=>exact k4.elim
theorem alV(hl:M.loads b o 1=some [N .i32 1])(hs:M.stores b o [N .i32 0]=some M')(hr:Ou M b o)(hQ:Q (.tup []) M'):qf Tryz.prog Tryz.f260 [.ptr b o] M Q:=by
 rw[← Jn]
 unfold Go.Ab.Tn.uP
 rw[bg,GJ]
 exact ak6 hl hs hr hQ
theorem alh{y:AV}(hl:M.loads b o 1=some [y])(hs:M.stores b o [N .u32 1]=some M')(hQ:Q (.tup []) M'):qf Tryz.prog Tryz.f261 [.ptr b o,Bo true] M Q:=by
 rw[← AQ]
 unfold Go.Ab.Tn.oQ
 rw[bg,GJ]
 refine b32 ?_
 exact .inr (.inr (.inr (.inr ⟨.tup [],M',apE hl hs,hQ⟩)))
end
section
variable {G:Gd} {B:Base} {E:En} {H:SH} {M:RM} {K:KS} {C:aI} {args:List SV} {avs:List AV}
theorem U6(hH:HR E H M){k:Ky}{o b:Nat}{vs:List SV}(h:qK H k o 1=some vs)(hb:E.bl k=some b):Ou M b o:=by
 unfold qK at h
 split at h <;>try(cases h;done)
 rename_i l hl
 obtain⟨cs,opn,el,fz,h1,h2,h3⟩:=Rk hH hl hb
 dsimp only at h
 obtain⟨g1,g2⟩:=aP.kL _ (h3.oo o) h
 rw[List.length_drop]at g1
 exact⟨cs,opn,el,fz,h1,by omega⟩
theorem Lx(hH:HR E H M){k:Ky}{o b:Nat}{kd:IntKind}{n:Int}(h:qK H k o 1=some [.i kd n])(hb:E.bl k=some b):M.loads b o 1=some [N kd n]:=by
 obtain⟨us,f1,f2,f3⟩:=lc hH h hb
 cases f2 with|cons _ _ _ _ p q =>
 cases p
 cases q
 exact f1
theorem ajh(hC:fO Tryz.prog G B C)(hg:E.g=G)(hbs:E.bs=B)(hH:HR E H M)(ha:aP E args avs)(h:adp C args H K=true):aC 149 avs M (HK E K):=by
 unfold adp at h
 split at h <;>try(cases h;done)
 rename_i b o g cs
 split at h <;>try(cases h;done)
 rename_i H1 e1 e2
 split at h <;>try(cases h;done)
 rename_i x0 e3 e4
 cases ha with|cons _ _ _ _ p q =>
 cases q with|cons _ _ _ _ p2 q2 =>
 cases q2
 cases p with|ptr _ _ rb eb =>
 cases p2 with|fn _ _ _ fsA csA pf pc =>
 cases pf
 have l1:=Lx hH e1 eb
 obtain⟨M1,s1,hH1⟩:=tZ hH e2 (.cons _ _ _ _ (.i _ _) .nil) eb
 have l3:=Lx hH1 e3 eb
 have r4:=U6 hH1 e4 eb
 generalize hK2:(fun(_:SV) (H2:SH)=>_)=K2 at h
 have hcall:=hC g cs H1 K2 E M1 csA hg hbs hH1 pc h
 refine⟨⟨_,_,Tryz.func149,rfl⟩,fun ρ w us hus hw=>?_⟩
 cases hus with
 |cons _ u1 _ us r1 hus =>
 cases hus with
 |cons _ u2 _ us r2 hus =>
 cases hus
 obtain⟨i,hρ,rfl⟩:=bX r1
 obtain⟨vs,hvs,rfl⟩ : ∃ vs,aQ ρ csA vs∧u2=.func (.func g) #[] ⟨vs⟩:=by
  cases r2 with
  |fn f xs ys us vs hpl hxs hys=>cases hxs;exact⟨vs,hys,rfl⟩
 have eg:∀ (xs:Array Value)(w:World),(callFunc g xs).run Tryz.prog w=.ok (.enter g xs) w:=fun xs w=>by
  obtain⟨fn,c,h1,h2⟩:=hcall.1
  exact IK h1 (kE.ng _ _ h1) h2 w
 have at_:∀ {ρ' : Ren}{k:Nat},ρ' rb=some i→ai ρ' (.ptr rb k) (.pointer (some ⟨i.cb,i.sh+k,none⟩)):=fun hr=>.ptr _ _ i hr
 have aCS:∀ {ρ' : Ren}{v' : Value},ai ρ' (.tup []) v'→v'=.tuple #[]:=fun hv=>by
  obtain⟨vs,rfl,hl⟩:=EZ hv
  cases hl
  rfl
 refine(aaJ (b:=i.cb) (off:=i.sh+o) (g:=g) (cs:=⟨vs⟩) (w:=w)
  (R1:=fun w'=>∃ ρ1,After Tryz.prog M ρ w M1 ρ1 w') (R2:=fun w'=>∃ ρ1,After Tryz.prog M ρ w M1 ρ1 w')
  (R3:=fun w'=>∃ E2 sv H2 M2 ρ2,E.le E2∧HR E2 H2 M2∧After Tryz.prog M ρ w M2 ρ2 w'∧K2 sv H2=true)
  (R4:=fun w'=>∃ E2 H3 H4 M3 ρ2,E.le E2∧HR E2 H3 M3∧After Tryz.prog M ρ w M3 ρ2 w'∧qK H3 b (Nat.succ o) 1=some [.i .i32 (.ofNat 1)]∧zD H3 b (Nat.succ o) [.i .i32 0]=some H4∧K .undef H4=true)
  (R5:=fun w'=>∃ E2 H4 M4 ρ2,E.le E2∧HR E2 H4 M4∧After Tryz.prog M ρ w M4 ρ2 w'∧K .undef H4=true)
  eg ?_ ?_ ?_ ?_ ?_).mono ?_
 ·refine((arW (Q:=fun v M'=>v=.tup []∧M'=M1) l1 s1 r4 ⟨rfl,rfl⟩).2 ρ w _ (.cons _ _ _ _ (at_ hρ) .nil) hw).mono ?_
  rintro e w' ⟨v',v,M',ρ',rfl,haf,hv,rfl,rfl⟩
  exact⟨by rw[aCS hv],ρ',haf⟩
 ·rintro w' ⟨ρ1,haf⟩
  refine((asq (Q:=fun v M'=>v=Bo false∧M'=M1) l3 ⟨rfl,rfl⟩).2 ρ1 w' _ (.cons _ _ _ _ (at_ (haf.le hw _ _ hρ)) .nil) haf.rel).mono ?_
  rintro e w2 ⟨v',v,M',ρ',rfl,Nw,hv,rfl,rfl⟩
  exact⟨by rw[(aH hv).1],ρ',haf.trans Nw⟩
 ·rintro w' ⟨ρ1,haf⟩
  refine(hcall.2 ρ1 w' vs (hvs.mono (haf.le hw)) haf.rel).mono ?_
  rintro e w2 ⟨v',v,M2,ρ2,rfl,Nw,hv,E2,sv,H2,k1,k2,k3,k4⟩
  exact⟨⟨_,rfl⟩,E2,sv,H2,M2,ρ2,k1,k2,haf.trans Nw,k4⟩
 ·rintro w' ⟨E2,sv,H2,M2,ρ2,k1,k2,haf,k4⟩
  rw[← hK2]at k4
  dsimp only at k4
  split at k4 <;>try(cases k4;done)
  rename_i y H3 g1 g2
  split at k4 <;>try(cases k4;done)
  rename_i H4 g3 g4
  have eb2:=k1.bl _ _ eb
  have l5:=Lx k2 g1 eb2
  obtain⟨M3,s3,hH3⟩:=tZ k2 g2 (.cons _ _ _ _ (.i _ _) .nil) eb2
  refine(RU kE (fn:=Tryz.f261) Tryz.func261 (alh (Q:=fun v M'=>M'=M3) l5 s3 rfl) (.cons _ _ _ _ (at_ (haf.le hw _ _ hρ)) (.cons _ _ _ _ (.sc _ rfl) .nil)) haf.rel).mono ?_
  rintro e u' w2 ⟨rfl,v',v,M',ρ',rfl,Nw,hv,rfl⟩
  exact⟨rfl,⟨_,rfl⟩,E2,H3,H4,_,ρ',k1,hH3,haf.trans Nw,g3,g4,k4⟩
 ·rintro w' ⟨E2,H3,H4,M3,ρ2,k1,k2,haf,g3,g4,k4⟩
  have eb2:=k1.bl _ _ eb
  have l5:=Lx k2 g3 eb2
  have r5:=U6 k2 g3 eb2
  obtain⟨M4,s4,hH4⟩:=tZ k2 g4 (.cons _ _ _ _ (.i _ _) .nil) eb2
  refine(RU kE (fn:=Tryz.f260) Tryz.func260 (alV (Q:=fun v M'=>M'=M4) l5 s4 r5 rfl) (.cons _ _ _ _ (at_ (haf.le hw _ _ hρ)) .nil) haf.rel).mono ?_
  rintro e u' w2 ⟨rfl,v',v,M',ρ',rfl,Nw,hv,rfl⟩
  exact⟨rfl,⟨_,rfl⟩,E2,H4,_,ρ',k1,hH4,haf.trans Nw,k4⟩
 ·rintro e w' ⟨rfl,E2,H4,M4,ρ2,k1,k2,haf,k4⟩
  exact⟨_,.tup [],M4,ρ2,rfl,haf,.tup _ _ .nil,E2,.undef,H4,k1,k2,.tup _ _ .nil,k4⟩
end
end Go.Ab.Sy
namespace Go.Ab.Sy
open Go Go.Ab Go.RowKit Go.Proofs
open Go.Proofs.YtcoihknokhdbkaaGreatDoor
open Go.Ab.Hw (Iv base)
section
variable {w0:World} {hi:Iv w0} {at' : Nat→bQ}
abbrev iw(w0:World)(hi:Iv w0)(at' : Nat→bQ):=VV Tryz.prog (lZ at') (base w0 hi)
theorem n84:iw w0 hi at' 84 (.uint 5):=fun C hC args H K E M avs h1 h2 h3 h4 h5=>dS (ahq (C:=C) ajZ h3 h4 h5)
theorem n85:iw w0 hi at' 85 (.text 5):=fun C hC args H K E M avs h1 h2 h3 h4 h5=>dS (agQ (C:=C) asx h3 h4 h5)
theorem n159:iw w0 hi at' 159 (.ajt 421):=fun C hC args H K E M avs h1 h2 h3 h4 h5=>dS (aez (C:=C) amq h3 h4 h5)
theorem n158:iw w0 hi at' 158 (.aoy 421):=fun C hC args H K E M avs h1 h2 h3 h4 h5=>dS (agy (C:=C) ajM h3 h4 h5)
theorem n157:iw w0 hi at' 157 (.ajv 421):=fun C hC args H K E M avs h1 h2 h3 h4 h5=>dS (afW (C:=C) ap8 h3 h4 h5)
theorem n297:iw w0 hi at' 297 (.akj 421):=fun C hC args H K E M avs h1 h2 h3 h4 h5=>dS (ae6 (C:=C) anP h3 h4 h5)
theorem n125:iw w0 hi at' 125 (.clone 5):=fun C hC args H K E M avs h1 h2 h3 h4 h5=>dS (ae9 (C:=C) Go.Ab.Hw.Zy h3 h4 h5)
theorem aBl:iw w0 hi at' 428 (.concat 5):=fun C hC args H K E M avs h1 h2 h3 h4 h5=>dS (ady (C:=C) Go.Ab.Hw.ahr h3 h4 h5)
theorem ayz:iw w0 hi at' 529 (.crc false):=fun C hC args H K E M avs h1 h2 h3 h4 h5=>dS (ag4 (C:=C) asN h3 h4 h5)
theorem aBv:iw w0 hi at' 528 (.crc true):=fun C hC args H K E M avs h1 h2 h3 h4 h5=>dS (ahd (C:=C) ajY h3 h4 h5)
theorem n183:iw w0 hi at' 183 .aao:=fun C hC args H K E M avs h1 h2 h3 h4 h5=>dS (YW (C:=C) ag9 h3 h4 h5)
theorem n128:iw w0 hi at' 128 (.aj0 5 255):=fun C hC args H K E M avs h1 h2 h3 h4 h5=>dS (ad7 (C:=C) Go.Ab.Hw.aiA (h3.base.trans h2) h1 h3 h4 h5)
theorem n132:iw w0 hi at' 132 (.adH 5 255):=fun C hC args H K E M avs h1 h2 h3 h4 h5=>dS (adv (C:=C) Go.Ab.Hw.aed (h3.base.trans h2) h1 h3 h4 h5)
theorem n124{tab:List (List Nat×List Nat×List (List Nat×List Nat))}(ht:tab.all DI=true):iw w0 hi at' 124 (.ajQ 5 tab):=fun C hC args H K E M avs h1 h2 h3 h4 h5=>dS (adE (C:=C) ht Go.Ab.Hw.afM (h3.base.trans h2) h1 h3 h4 h5)
theorem n131{tab:List (Nat×List (List Nat×List Nat))}(ht:tab.all wY=true):iw w0 hi at' 131 (.adS 5 tab):=fun C hC args H K E M avs h1 h2 h3 h4 h5=>dS (abF (C:=C) ht Go.Ab.Hw.adj (h3.base.trans h2) h1 h3 h4 h5)
theorem aw3:iw w0 hi at' 429 .total:=fun C hC args H K E M avs h1 h2 h3 h4 h5=>dS (adW (C:=C) aoc h3 h4 h5)
theorem n136:iw w0 hi at' 136 .afZ:=fun C hC args H K E M avs h1 h2 h3 h4 h5=>mQ (fn:=Tryz.f136) (by kernel_rfl) (by kernel_rfl) (aa1 (C:=C) akX h3 h4 h5)
theorem auR:iw w0 hi at' 453 .fmt:=fun C hC args H K E M avs h1 h2 h3 h4 h5=>dS (akx (C:=C) (h3.base.trans h2) h3 h4 h5)
theorem n59:iw w0 hi at' 59 (.acJ .i64):=fun C hC args H K E M avs h1 h2 h3 h4 h5=>mQ (fn:=Tryz.f59) (by kernel_rfl) (by kernel_rfl) (aac (C:=C) aqm h3 h4 h5)
theorem n200:iw w0 hi at' 200 (.acJ .u64):=fun C hC args H K E M avs h1 h2 h3 h4 h5=>mQ (fn:=Tryz.f200) (by kernel_rfl) (by kernel_rfl) (aac (C:=C) alU h3 h4 h5)
theorem n199:iw w0 hi at' 199 (.Ua .u64):=fun C hC args H K E M avs h1 h2 h3 h4 h5=>mQ (fn:=Tryz.f199) (by kernel_rfl) (by kernel_rfl) (U0 (C:=C) ahQ h3 h4 h5)
theorem n258:iw w0 hi at' 258 (.Ua .u32):=fun C hC args H K E M avs h1 h2 h3 h4 h5=>mQ (fn:=Tryz.f258) (by kernel_rfl) (by kernel_rfl) (U0 (C:=C) ahV h3 h4 h5)
theorem aC6:iw w0 hi at' 447 .same:=fun C hC args H K E M avs h1 h2 h3 h4 h5=>mQ (fn:=Tryz.f447) (by kernel_rfl) (by kernel_rfl) (ahR (C:=C) as6 h3 h4 h5)
theorem axr:iw w0 hi at' 664 .gP:=fun C hC args H K E M avs h1 h2 h3 h4 h5=>mQ (fn:=Tryz.f664) (by kernel_rfl) (by kernel_rfl) (ail (C:=C) azu h3 h4 h5)
theorem aDM:iw w0 hi at' 650 .an8:=fun C hC args H K E M avs h1 h2 h3 h4 h5=>mQ (fn:=Tryz.f650) (by kernel_rfl) (by kernel_rfl) (ahh (C:=C) aCj h3 h4 h5)
theorem n201{tab:List (List Nat×List Nat)}(ht:∀ e∈tab,Go.Ab.Sha.NW (eT e.1)=eT e.2∧∀ n∈e.2,n<256)(hl:∀ e∈tab,e.1.length≤1000):iw w0 hi at' 201 (.sum tab):=fun C hC args H K E M avs h1 h2 h3 h4 h5=>dS (al0 (C:=C) ht aAG hl h3 h4 h5)
theorem n149:iw w0 hi at' 149 .slow:=fun C hC args H K E M avs h1 h2 h3 h4 h5=>dS (ajh (C:=C) hC h1 h2 h3 h4 h5)
theorem n130:iw w0 hi at' 130 (.get 2):=fun C hC args H K E M avs h1 h2 h3 h4 h5=>dS (aav (C:=C) arV h3 h4 h5)
theorem n133:iw w0 hi at' 133 (.get 1):=fun C hC args H K E M avs h1 h2 h3 h4 h5=>dS (aav (C:=C) asI h3 h4 h5)
end
theorem aly:apl.all DI=true:=by kernel_rfl
theorem aic:akf.all wY=true:=by kernel_rfl
theorem ala:∀ e∈agX,Go.Ab.Sha.NW (eT e.1)=eT e.2∧∀ n∈e.2,n<256:=by decide +kernel
theorem agF:∀ e∈agX,e.1.length≤1000:=by decide +kernel
section
variable {w0:World} {hi:Iv w0} {at' : Nat→bQ}
theorem Ar:∀ p∈HV,iw w0 hi at' p.1 p.2:=by
 intro p hp
 simp only[HV,List.mem_cons,List.not_mem_nil,or_false]at hp
 rcases hp with rfl|rfl|rfl|rfl|rfl|rfl|rfl|rfl|rfl|rfl|rfl|rfl|rfl|rfl|rfl|rfl|rfl|rfl|rfl|rfl|rfl|rfl|rfl|rfl|rfl|rfl|rfl|rfl|rfl
 ·exact n84
 ·exact n85
 ·exact n159
 ·exact n158
 ·exact n157
 ·exact n297
 ·exact n125
 ·exact ayz
 ·exact aBv
 ·exact n183
 ·exact n124 aly
 ·exact n131 aic
 ·exact n128
 ·exact n132
 ·exact aw3
 ·exact n136
 ·exact auR
 ·exact aBl
 ·exact n59
 ·exact n200
 ·exact n199
 ·exact n258
 ·exact aC6
 ·exact axr
 ·exact aDM
 ·exact n149
 ·exact n201 ala agF
 ·exact n130
 ·exact n133
theorem aDX:kJ Tryz.prog (lZ at') (base w0 hi) (Mm HV .leaf).get gL:=qc Ar
end
end Go.Ab.Sy
set_option maxRecDepth 1000000
namespace Go.Proofs.YtcoihknokhdbkaaGreatDoor
open Go Go.Ab Go.Ab.Sy
noncomputable def av5:Tree NC:=Mm HV .leaf
noncomputable def N0(f:Nat):Option NC:=av5.get f
noncomputable def F0(f:Nat):Option zJ:=cF Tryz.prog N0 f
noncomputable def C0:aI:=Dq F0 N0 gL (Dv F0 gL) 1000
noncomputable def akn:List (Nat×NC):=[(181,.cut 181 [Z.sM,Z.p9,Z.pU,Z.pR]),(137,.cut 137 [Z.sK,Z.sJ])]
noncomputable def ar7:Tree NC:=Mm (HV++akn) .leaf
noncomputable def N1(f:Nat):Option NC:=ar7.get f
noncomputable def F1(f:Nat):Option zJ:=cF Tryz.prog N1 f
noncomputable def C1:aI:=Dq F1 N1 gL (Dv F1 gL) 1000
noncomputable def akh:List (Nat×NC):=[(181,.cut 181 [Z.sM,Z.p9,Z.pU,Z.pR]),(137,.cut 137 [Z.sK,Z.sJ]),(197,.cut 197 [Z.xD,Z.xH,Z.xC,Z.xG]),(6,.cut 6 [Z.Kl,Z.Kr,Z.FD,Z.E9]),(7,.cut 7 [Z.JK,Z.FR,Z.FJ,Z.Fv,Z.Fb]),(38,.cut 38 [Z.EG,Z.BK,Z.Bb,Z.BI,Z.Bi,Z.AA,Z.xI,Z.wW,Z.AY,Z.Au,Z.BJ,Z.yH,Z.wZ]),(8,.cut 8 [Z.EQ,Z.F6,Z.BX,Z.BQ]),(9,.cut 9 [Z.EM]),(108,.cut 108 [Z.xJ]),(13,.cut 13 [Z.yI,Z.xP,Z.yD,Z.xB,Z.aaj]),(15,.cut 15 [Z.yM,Z.xN,Z.xO,Z.xA,Z.aah]),(20,.cut 20 [Z.xS,Z.xQ,Z.yP,Z.yT,Z.yO,Z.xM,Z.wX,Z.xU,Z.aag,Z.aaa])]
noncomputable def asE:Tree NC:=Mm (HV++akh) .leaf
noncomputable def N2(f:Nat):Option NC:=asE.get f
noncomputable def F2(f:Nat):Option zJ:=cF Tryz.prog N2 f
noncomputable def C2:aI:=Dq F2 N2 gL (Dv F2 gL) 1000
noncomputable def aj3:List (Nat×NC):=[(181,.cut 181 [Z.sM,Z.p9,Z.pU,Z.pR]),(137,.cut 137 [Z.sK,Z.sJ]),(197,.cut 197 [Z.xD,Z.xH,Z.xC,Z.xG]),(6,.cut 6 [Z.Kl,Z.Kr,Z.FD,Z.E9]),(7,.cut 7 [Z.JK,Z.FR,Z.FJ,Z.Fv,Z.Fb]),(38,.cut 38 [Z.EG,Z.BK,Z.Bb,Z.BI,Z.Bi,Z.AA,Z.xI,Z.wW,Z.AY,Z.Au,Z.BJ,Z.yH,Z.wZ,Z.Hg,Z.G9]),(8,.cut 8 [Z.EQ,Z.F6,Z.BX,Z.BQ,Z.PL,Z.LJ,Z.K6,Z.Ll,Z.La,Z.KZ]),(9,.cut 9 [Z.EM]),(108,.cut 108 [Z.xJ]),(13,.cut 13 [Z.yI,Z.xP,Z.yD,Z.xB,Z.aaj]),(15,.cut 15 [Z.yM,Z.xN,Z.xO,Z.xA,Z.aah]),(20,.cut 20 [Z.xS,Z.xQ,Z.yP,Z.yT,Z.yO,Z.xM,Z.wX,Z.xU,Z.aag,Z.aaa])]
noncomputable def asi:Tree NC:=Mm (HV++aj3) .leaf
noncomputable def N3(f:Nat):Option NC:=asi.get f
noncomputable def F3(f:Nat):Option zJ:=cF Tryz.prog N3 f
noncomputable def C3:aI:=Dq F3 N3 gL (Dv F3 gL) 1000
noncomputable def ajT:List (Nat×NC):=[(181,.cut 181 [Z.sM,Z.p9,Z.pU,Z.pR]),(137,.cut 137 [Z.sK,Z.sJ]),(197,.cut 197 [Z.xD,Z.xH,Z.xC,Z.xG]),(6,.cut 6 [Z.Kl,Z.Kr,Z.FD,Z.E9]),(7,.cut 7 [Z.JK,Z.FR,Z.FJ,Z.Fv,Z.Fb]),(38,.cut 38 [Z.EG,Z.BK,Z.Bb,Z.BI,Z.Bi,Z.AA,Z.xI,Z.wW,Z.AY,Z.Au,Z.BJ,Z.yH,Z.wZ,Z.Hg,Z.G9]),(8,.cut 8 [Z.EQ,Z.F6,Z.BX,Z.BQ,Z.PL,Z.LJ,Z.K6,Z.Ll,Z.La,Z.KZ,Z.QM,Z.Qc]),(9,.cut 9 [Z.EM]),(108,.cut 108 [Z.xJ]),(13,.cut 13 [Z.yI,Z.xP,Z.yD,Z.xB,Z.aaj]),(15,.cut 15 [Z.yM,Z.xN,Z.xO,Z.xA,Z.aah]),(20,.cut 20 [Z.xS,Z.xQ,Z.yP,Z.yT,Z.yO,Z.xM,Z.wX,Z.xU,Z.aag,Z.aaa])]
noncomputable def asG:Tree NC:=Mm (HV++ajT) .leaf
noncomputable def N4(f:Nat):Option NC:=asG.get f
noncomputable def F4(f:Nat):Option zJ:=cF Tryz.prog N4 f
noncomputable def C4:aI:=Dq F4 N4 gL (Dv F4 gL) 1000
noncomputable def ajJ:List (Nat×NC):=[(181,.cut 181 [Z.sM,Z.p9,Z.pU,Z.pR]),(137,.cut 137 [Z.sK,Z.sJ]),(197,.cut 197 [Z.xD,Z.xH,Z.xC,Z.xG]),(6,.cut 6 [Z.Kl,Z.Kr,Z.FD,Z.E9]),(7,.cut 7 [Z.JK,Z.FR,Z.FJ,Z.Fv,Z.Fb]),(38,.cut 38 [Z.EG,Z.BK,Z.Bb,Z.BI,Z.Bi,Z.AA,Z.xI,Z.wW,Z.AY,Z.Au,Z.BJ,Z.yH,Z.wZ,Z.Hg,Z.G9]),(8,.cut 8 [Z.EQ,Z.F6,Z.BX,Z.BQ,Z.PL,Z.LJ,Z.K6,Z.Ll,Z.La,Z.KZ,Z.QM,Z.Qc]),(9,.cut 9 [Z.EM]),(108,.cut 108 [Z.xJ]),(13,.cut 13 [Z.yI,Z.xP,Z.yD,Z.xB,Z.aaj]),(15,.cut 15 [Z.yM,Z.xN,Z.xO,Z.xA,Z.aah]),(20,.cut 20 [Z.xS,Z.xQ,Z.yP,Z.yT,Z.yO,Z.xM,Z.wX,Z.xU,Z.aag,Z.aaa]),(4,.cut 4 [Z.am9])]
noncomputable def asn:Tree NC:=Mm (HV++ajJ) .leaf
noncomputable def N5(f:Nat):Option NC:=asn.get f
noncomputable def F5(f:Nat):Option zJ:=cF Tryz.prog N5 f
noncomputable def C5:aI:=Dq F5 N5 gL (Dv F5 gL) 1000
end Go.Proofs.YtcoihknokhdbkaaGreatDoor
