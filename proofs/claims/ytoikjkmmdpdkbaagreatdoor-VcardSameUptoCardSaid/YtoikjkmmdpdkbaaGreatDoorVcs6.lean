/- 'VcardSame' returns true where what is read is of bulk at most 1048576. The card's listed variables are tied to the program's text. By an AI agent. -/
import Derived.Test.YtoikjkmmdpdkbaaGreatDoorVcs5
import Derived.KernelRfl
import Derived.Test.YtoikjkmmdpdkbaaGreatDoorProg
import Derived.Lib.LaidTab
import Derived.Lib.LaidU8
import Derived.Shelf.Vars
import Derived.Shelf.LaysC
import Derived.Shelf.Unicode.ValidAny
import Derived.Shelf.Unicode.DecodeAny
import Derived.Shelf.Strings.SlTrimAscii
import Derived.Shelf.Strings.IndexAnyAll
import Derived.Shelf.Strconv.Itoa3
import Derived.Shelf.Strconv.AtoiAll
import Derived.WalkKit
import Derived.Below
import Derived.ProofKit
import Derived.Test.YtoikjkmmdpdkbaaGreatDoorRows
import Derived.LaidMore
import Derived.Lay
import Derived.Test.YtoikjkmmdpdkbaaGreatDoorTie
import Derived.Test.YtoikjkmmdpdkbaaGreatDoorCards
import Derived.Carry
import Derived.OpenShut
import Derived.SevenTiedAt
import Derived.Stop.Joined
import Derived.JoinedCond
import Derived.Deep.DeepHandedRow
import Derived.Deep.DeepWitnessRowRef
set_option maxRecDepth 100000
set_option linter.unusedVariables false
set_option linter.unusedSimpArgs false
namespace Go.Proofs.YtoikjkmmdpdkbaaGreatDoor
open Go Go.Ab
abbrev av := @eU Tryz.prog
theorem Z5:BH Tryz.prog:=⟨UR (by kernel_rfl),by kernel_rfl⟩
theorem bq {f:FuncId} {fn:Func} {args:List AV} {M:RM} {Q:aj} {B:Prop} (h:B) (hfn:Tryz.prog.funcs[f]?=some fn:=by kernel_rfl) (e:B=IA Tryz.prog fn args M Q:=by kernel_rfl) : av f args M Q:=Sn Z5 hfn (e▸h)
variable {a0 a1 a2 a3 a4 a5 a6 a7:AV} {M:RM} {Q:aj}
theorem vZ (h:Go.Ab.Vc.nM (av 8) (av 10) (av 9) a0 a1 M Q) : av 7 [a0,a1] M Q:=bq (fn:=Tryz.f7) h
theorem Bu (h:Go.Ab.Vc.sH (av 9) (av 10) (av 15) 48 (av 16) 30 (av 11)  M Q) : av 8 [] M Q:=bq (fn:=Tryz.f8) h
theorem zO (h:Go.Ab.Vc.qo (av 17) (av 18) (av 19) 33 a0 M Q) : av 9 [a0] M Q:=bq (fn:=Tryz.f9) h
theorem A9 (h:Go.Ab.Vc.qD 33 30 (av 20) 48 (av 11) (av 21) (av 22) a0 M Q) : av 10 [a0] M Q:=bq (fn:=Tryz.f10) h
theorem BK (h:Go.Ab.Vc.u7 30 (av 15) 48 a0 M Q) : av 11 [a0] M Q:=bq (fn:=Tryz.f11) h
theorem Ce (h:Go.Ab.Vc.vX 30 48 (av 20) a0 M Q) : av 15 [a0] M Q:=bq (fn:=Tryz.f15) h
theorem BB (h:Go.Ab.Vc.sj 48 30 (av 22) (av 29) (av 21) (av 30) a0 a1 M Q) : av 16 [a0,a1] M Q:=bq (fn:=Tryz.f16) h
theorem CS (h:Go.Ab.Vl.uR (av 31) (av 32) 48 a0 M Q) : av 17 [a0] M Q:=bq (fn:=Tryz.f17) h
theorem D6 (h:Go.Ab.Vc.xC 48 (av 33) (av 29) 53 a0 M Q) : av 18 [a0] M Q:=bq (fn:=Tryz.f18) h
theorem BF (h:Go.Ab.Vc.vP 33 48 (av 21) 30 (av 30) (av 34) a0 M Q) : av 19 [a0] M Q:=bq (fn:=Tryz.f19) h
theorem CR (h:Go.Ab.Vc.uZ 30 48 (av 35) (av 36) (av 37) (av 38) (av 16) a0 M Q) : av 20 [a0] M Q:=bq (fn:=Tryz.f20) h
theorem BO (h:Go.Ab.Vc.vC 48 30 (av 39) (av 37) (av 40) (av 38) a0 M Q) : av 21 [a0] M Q:=bq (fn:=Tryz.f21) h
theorem Bl (h:Go.Ab.Vl.su 48 (av 41) (av 42) (av 43) a0 M Q) : av 22 [a0] M Q:=bq (fn:=Tryz.f22) h
theorem xA (h:Go.Ab.Vc.ow a0 M Q) : av 29 [a0] M Q:=bq (fn:=Tryz.f29) h
theorem xM (h:Go.Ab.Vc.oD (av 53) a0 a1 M Q) : av 30 [a0,a1] M Q:=bq (fn:=Tryz.f30) h
theorem zQ (h:Go.Ab.Vl.qi (av 54) (av 55) 9 3 a0 M Q) : av 31 [a0] M Q:=bq (fn:=Tryz.f31) h
theorem BS (h:Go.Ab.Vl.vE 48 (av 56) (av 57) (av 58) (av 59) (av 60) (av 61) a0 M Q) : av 32 [a0] M Q:=bq (fn:=Tryz.f32) h
theorem yI (h:Go.Ab.Vc.pJ 48 (av 62) a0 a1 M Q) : av 33 [a0,a1] M Q:=bq (fn:=Tryz.f33) h
theorem yY (h:Go.Ab.Vc.pI 48 5 (av 64) (av 63) a0 a1 M Q) : av 34 [a0,a1] M Q:=bq (fn:=Tryz.f34) h
theorem mF (h:Go.Ab.Vl.iE (av 65) a0 a1 M Q) : av 35 [a0,a1] M Q:=bq (fn:=Tryz.f35) h
theorem yH (h:Go.Ab.Vc.pY 48 (av 66) (av 35) (av 58) 114 (av 67) 9 (av 68) a0 M Q) : av 36 [a0] M Q:=bq (fn:=Tryz.f36) h
theorem Ap (h:Go.Ab.Vc.qK a0 M Q) : av 37 [a0] M Q:=bq (fn:=Tryz.f37) h
theorem zM (h:Go.Ab.Vl.qM 122 5 (av 69) (av 70) (av 71) a0 M Q) : av 38 [a0] M Q:=bq (fn:=Tryz.f38) h
theorem Bw (h:Go.Ab.Vc.sM 48 114 (av 72) a0 M Q) : av 39 [a0] M Q:=bq (fn:=Tryz.f39) h
theorem xI (h:Go.Ab.Vl.oC 122 (av 69) (av 73) (av 71) a0 M Q) : av 40 [a0] M Q:=bq (fn:=Tryz.f40) h
theorem BZ (h:Go.Ab.Vl.uQ 48 (av 59) (av 61) 114 (av 74) 75 a0 M Q) : av 41 [a0] M Q:=bq (fn:=Tryz.f41) h
theorem BC (h:Go.Ab.Vl.uS 48 122 (av 70) (av 76) 114 (av 69) (av 72) (av 71) a0 M Q) : av 42 [a0] M Q:=bq (fn:=Tryz.f42) h
theorem CV (h:Go.Ab.Vl.vK 122 (av 77) (av 70) (av 71) a0 M Q) : av 43 [a0] M Q:=bq (fn:=Tryz.f43) h
theorem qc (h:Go.Ab.Vl.lX (av 89) a0 a1 M Q) : av 54 [a0,a1] M Q:=bq (fn:=Tryz.f54) h
theorem sG (h:Go.Ab.Vl.lN (av 90) a0 a1 M Q) : av 55 [a0,a1] M Q:=bq (fn:=Tryz.f55) h
theorem Ca (h:Go.Ab.Vl.uz (av 93) (av 92) a0 M Q) : av 57 [a0] M Q:=bq (fn:=Tryz.f57) h
theorem tT (h:Go.Ab.Vl.lZ (av 94) a0 a1 M Q) : av 58 [a0,a1] M Q:=bq (fn:=Tryz.f58) h
theorem xP (h:Go.Ab.Vl.oz (av 95) a0 M Q) : av 59 [a0] M Q:=bq (fn:=Tryz.f59) h
theorem A7 (h:Go.Ab.Vl.qm (av 58) 114 (av 57) (av 59) (av 96) 9 a0 M Q) : av 60 [a0] M Q:=bq (fn:=Tryz.f60) h
theorem vY (h:Go.Ab.Vl.nO 5 (av 97) (av 73) (av 56) a0 a1 M Q) : av 61 [a0,a1] M Q:=bq (fn:=Tryz.f61) h
theorem tJ (h:Go.Ab.Vc.mg (av 98) (av 99) a0 a1 M Q) : av 62 [a0,a1] M Q:=bq (fn:=Tryz.f62) h
theorem Gg (h:Go.Ab.Sha.BG 111 5 a0 M Q) : av 63 [a0] M Q:=bq (fn:=Tryz.f63) h
theorem F5 (h:Go.Ab.Sha.Cj 111 (av 100) 144 (av 101) 147 (av 102) (av 103) 5 a0 M Q) : av 64 [a0] M Q:=bq (fn:=Tryz.f64) h
theorem iB (h:Go.Ab.Vl.dE (av 94) a0 a1 M Q) : av 65 [a0,a1] M Q:=bq (fn:=Tryz.f65) h
theorem Cn (h:Go.Ab.Vc.vQ (av 92) a0 M Q) : av 66 [a0] M Q:=bq (fn:=Tryz.f66) h
theorem Bq (h:Go.Ab.Vc.sN (av 35) (av 54) (av 104) a0 M Q) : av 67 [a0] M Q:=bq (fn:=Tryz.f67) h
theorem jq (h:Go.Ab.Vl.eD (av 107) 5 a0 a1 M Q) : av 69 [a0,a1] M Q:=bq (fn:=Tryz.f69) h
theorem iU (h:Go.Ab.Vl.dV (av 107) 5 a0 a1 M Q) : av 70 [a0,a1] M Q:=bq (fn:=Tryz.f70) h
theorem qa (h:Go.Ab.Vl.jw 5 a0 M Q) : av 71 [a0] M Q:=bq (fn:=Tryz.f71) h
theorem lF (h:Go.Ab.Vl.gz (av 104) a0 a1 M Q) : av 72 [a0,a1] M Q:=bq (fn:=Tryz.f72) h
theorem tN (h:Go.Ab.Vl.qb (av 108) a0 a1 M Q) : av 73 [a0,a1] M Q:=bq (fn:=Tryz.f73) h
theorem rH (h:Go.Ab.Vl.lh (av 109) a0 a1 M Q) : av 74 [a0,a1] M Q:=bq (fn:=Tryz.f74) h
theorem AL (h:Go.Ab.Vl.qw (av 61) a0 M Q) : av 75 [a0] M Q:=bq (fn:=Tryz.f75) h
theorem Bt (h:Go.Ab.Vl.rY 5 a0 M Q) : av 76 [a0] M Q:=bq (fn:=Tryz.f76) h
theorem Br (h:Go.Ab.Vl.si (av 98) a0 a1 M Q) : av 77 [a0,a1] M Q:=bq (fn:=Tryz.f77) h
theorem jE (h:Go.Ab.Vl.eQ (av 114) a0 a1 M Q) : av 89 [a0,a1] M Q:=bq (fn:=Tryz.f89) h
theorem lV (h:Go.Ab.Vl.gm (av 115) a0 a1 M Q) : av 90 [a0,a1] M Q:=bq (fn:=Tryz.f90) h
theorem uI (h:Go.Ab.Vl.rG (av 116) (av 117) 164 (av 118) (av 119) a0 a1 M Q) : av 92 [a0,a1] M Q:=bq (fn:=Tryz.f92) h
theorem BA (h:Go.Ab.Vl.sK 5 a0 M Q) : av 93 [a0] M Q:=bq (fn:=Tryz.f93) h
theorem iF (h:Go.Ab.Vl.dF a0 a1 M Q) : av 94 [a0,a1] M Q:=bq (fn:=Tryz.f94) h
theorem AQ (h:Go.Ab.Vl.yJ (av 120) (av 116) (av 117) 164 (av 121) (av 118) (av 122) (av 119) a0 a1 M Q) : av 95 [a0,a1] M Q:=bq (fn:=Tryz.f95) h
theorem Bv (h:Go.Ab.Vl.sD (av 35) (av 54) (av 61) (av 104) a0 M Q) : av 96 [a0] M Q:=bq (fn:=Tryz.f96) h
theorem Bz (h:Go.Ab.Vl.sI a0 M Q) : av 97 [a0] M Q:=bq (fn:=Tryz.f97) h
theorem yA (h:Go.Ab.Sha.oV 144  M Q) : av 100 [] M Q:=bq (fn:=Tryz.f100) h
theorem D7 (h:Go.Ab.Sha.xZ 147  M Q) : av 101 [] M Q:=bq (fn:=Tryz.f101) h
theorem xE (h:Go.Ab.Sha.oJ 144 (av 126) 147 a0 a1 a2 M Q) : av 102 [a0,a1,a2] M Q:=bq (fn:=Tryz.f102) h
theorem Cq (h:Go.Ab.Dot.uL 5 a0 M Q) : av 103 [a0] M Q:=bq (fn:=Tryz.f103) h
theorem uX (h:Go.Ab.Vl.mQ (av 127) (av 128) (av 117) 164 (av 129) a0 a1 M Q) : av 104 [a0,a1] M Q:=bq (fn:=Tryz.f104) h
theorem nR (h:Go.Ab.Vl.iO (FV Tryz.prog 135) 122 a0 M Q) : av 107 [a0] M Q:=bq (fn:=Tryz.f107) h
theorem ma (h:Go.Ab.Vl.jB (FV Tryz.prog 136) a0 a1 M Q) : av 108 [a0,a1] M Q:=bq (fn:=Tryz.f108) h
theorem vJ (h:Go.Ab.Vl.mU (av) a0 a1 M Q) : av 109 [a0,a1] M Q:=bq (fn:=Tryz.f109) h
theorem nL (h:Go.Ab.Vc.fG (av 108) 5 (FV Tryz.prog 144) (av 145) (av 146) a0 a1 M Q) : av 114 [a0,a1] M Q:=bq (fn:=Tryz.f114) h
theorem mf (h:Go.Ab.Vl.gu a0 a1 M Q) : av 115 [a0,a1] M Q:=bq (fn:=Tryz.f115) h
theorem Ey (h:Go.Ab.Sha.Ao (av 149) a0 a1 M Q) : av 126 [a0,a1] M Q:=bq (fn:=Tryz.f126) h
theorem tK (h:Go.Ab.Vc.jF (av 73) (av 150) (av 145) a0 a1 M Q) : av 127 [a0,a1] M Q:=bq (fn:=Tryz.f127) h
theorem nS (h:Go.Ab.Vl.lv a0 M Q) : av 128 [a0] M Q:=bq (fn:=Tryz.f128) h
theorem pQ (h:Go.Ab.Sha.jD a0 a1 M Q) : av 149 [a0,a1] M Q:=bq (fn:=Tryz.f149) h
theorem pR (h:Go.Ab.Vl.jA a0 M Q) : av 150 [a0] M Q:=bq (fn:=Tryz.f150) h
end Go.Proofs.YtoikjkmmdpdkbaaGreatDoor
namespace Go.Proofs
open Go.RowKit Go.Shelf
def Tryz.lays197_ren:Go.Shelf.Ren:=⟨fun | 197=>98 | 260=>123 | n=>n,fun | 9=>9 | 21=>21 | 3=>3 | 4=>4 | 5=>5 | 105=>140 | 119=>135 | 0=>0 | 46=>139 | 139=>138 | 138=>137 | n=>n,fun | 3=>0 | 4=>1 | n=>n⟩
theorem Tryz.lays197:Go.Proofs.Lays.n197 Tryz.prog Tryz.lays197_ren where
 mixed:=by kernel_rfl
 f197:=Tryz.func98.trans (congrArg some (by kernel_rfl))
 f260:=Tryz.func123.trans (congrArg some (by kernel_rfl))
 t0:=Tryz.underlying0
 a0:=Tryz.isAgg0
 z0:=Tryz.sizeOf0
 v0:=Tryz.zeroValue0
 t3:=Tryz.underlying3
 a3:=Tryz.isAgg3
 z3:=Tryz.sizeOf3
 v3:=Tryz.zeroValue3
 t4:=Tryz.underlying4
 a4:=Tryz.isAgg4
 z4:=Tryz.sizeOf4
 v4:=Tryz.zeroValue4
 t5:=Tryz.underlying5
 a5:=Tryz.isAgg5
 z5:=Tryz.sizeOf5
 v5:=Tryz.zeroValue5
 t9:=Tryz.underlying9
 a9:=Tryz.isAgg9
 z9:=Tryz.sizeOf9
 v9:=Tryz.zeroValue9
 t21:=Tryz.underlying21
 a21:=Tryz.isAgg21
 z21:=Tryz.sizeOf21
 v21:=Tryz.zeroValue21
 t46:=Tryz.underlying139
 a46:=Tryz.isAgg139
 z46:=Tryz.sizeOf139
 v46:=Tryz.zeroValue139
 t105:=Tryz.underlying140
 a105:=Tryz.isAgg140
 z105:=Tryz.sizeOf140
 v105:=Tryz.zeroValue140
 t119:=Tryz.underlying135
 a119:=Tryz.isAgg135
 z119:=Tryz.sizeOf135
 t138:=Tryz.underlying137
 a138:=Tryz.isAgg137
 z138:=Tryz.sizeOf137
 v138:=Tryz.zeroValue137
 t139:=Tryz.underlying138
 a139:=Tryz.isAgg138
 z139:=Tryz.sizeOf138
 v139:=Tryz.zeroValue138
 g3:=by kernel_rfl
 g4:=by kernel_rfl
def Tryz.lays196_ren:Go.Shelf.Ren:=⟨fun | 196=>56 | 259=>91 | n=>n,fun | 9=>9 | 4=>4 | 3=>3 | 5=>5 | 12=>12 | 119=>135 | 0=>0 | 46=>139 | 139=>138 | 138=>137 | 53=>152 | n=>n,fun | 3=>0 | 4=>1 | n=>n⟩
theorem Tryz.lays196:Go.Proofs.Lays.n196 Tryz.prog Tryz.lays196_ren where
 mixed:=by kernel_rfl
 f196:=Tryz.func56.trans (congrArg some (by kernel_rfl))
 f259:=Tryz.func91.trans (congrArg some (by kernel_rfl))
 t0:=Tryz.underlying0
 a0:=Tryz.isAgg0
 z0:=Tryz.sizeOf0
 v0:=Tryz.zeroValue0
 t3:=Tryz.underlying3
 a3:=Tryz.isAgg3
 z3:=Tryz.sizeOf3
 v3:=Tryz.zeroValue3
 t4:=Tryz.underlying4
 a4:=Tryz.isAgg4
 z4:=Tryz.sizeOf4
 v4:=Tryz.zeroValue4
 t5:=Tryz.underlying5
 a5:=Tryz.isAgg5
 z5:=Tryz.sizeOf5
 v5:=Tryz.zeroValue5
 t9:=Tryz.underlying9
 a9:=Tryz.isAgg9
 z9:=Tryz.sizeOf9
 v9:=Tryz.zeroValue9
 t12:=Tryz.underlying12
 a12:=Tryz.isAgg12
 z12:=Tryz.sizeOf12
 v12:=Tryz.zeroValue12
 t46:=Tryz.underlying139
 a46:=Tryz.isAgg139
 z46:=Tryz.sizeOf139
 v46:=Tryz.zeroValue139
 t53:=Tryz.underlying152
 a53:=Tryz.isAgg152
 z53:=Tryz.sizeOf152
 v53:=Tryz.zeroValue152
 t119:=Tryz.underlying135
 a119:=Tryz.isAgg135
 z119:=Tryz.sizeOf135
 t138:=Tryz.underlying137
 a138:=Tryz.isAgg137
 z138:=Tryz.sizeOf137
 v138:=Tryz.zeroValue137
 t139:=Tryz.underlying138
 a139:=Tryz.isAgg138
 z139:=Tryz.sizeOf138
 v139:=Tryz.zeroValue138
 g3:=by kernel_rfl
 g4:=by kernel_rfl
def Tryz.lays160_ren:Go.Shelf.Ren:=⟨fun | 160=>95 | 232=>120 | 231=>116 | 227=>117 | 234=>121 | 233=>118 | 236=>122 | 235=>119 | 228=>129 | 271=>148 | 151=>147 | 197=>98 | 120=>164 | 152=>127 | 260=>123 | 137=>73 | 119=>150 | 224=>145 | 225=>144 | 217=>108 | 266=>136 | n=>n,fun | 9=>9 | 4=>4 | 3=>3 | 5=>5 | 117=>165 | 116=>164 | 0=>0 | 124=>168 | 21=>21 | 105=>140 | 46=>139 | 119=>135 | 139=>138 | 138=>137 | n=>n,fun | 3=>0 | 4=>1 | n=>n⟩
theorem Tryz.lays160:Go.Proofs.Lays.n160 Tryz.prog Tryz.lays160_ren where
 mixed:=by kernel_rfl
 f119:=Tryz.func150.trans (congrArg some (by kernel_rfl))
 f120:=Tryz.func164.trans (congrArg some (by kernel_rfl))
 f137:=Tryz.func73.trans (congrArg some (by kernel_rfl))
 f151:=Tryz.func147.trans (congrArg some (by kernel_rfl))
 f152:=Tryz.func127.trans (congrArg some (by kernel_rfl))
 f160:=Tryz.func95.trans (congrArg some (by kernel_rfl))
 f197:=Tryz.func98.trans (congrArg some (by kernel_rfl))
 f217:=Tryz.func108.trans (congrArg some (by kernel_rfl))
 f224:=Tryz.func145.trans (congrArg some (by kernel_rfl))
 f225:=Tryz.func144.trans (congrArg some (by kernel_rfl))
 f227:=Tryz.func117.trans (congrArg some (by kernel_rfl))
 f228:=Tryz.func129.trans (congrArg some (by kernel_rfl))
 f231:=Tryz.func116.trans (congrArg some (by kernel_rfl))
 f232:=Tryz.func120.trans (congrArg some (by kernel_rfl))
 f233:=Tryz.func118.trans (congrArg some (by kernel_rfl))
 f234:=Tryz.func121.trans (congrArg some (by kernel_rfl))
 f235:=Tryz.func119.trans (congrArg some (by kernel_rfl))
 f236:=Tryz.func122.trans (congrArg some (by kernel_rfl))
 f260:=Tryz.func123.trans (congrArg some (by kernel_rfl))
 f266:=Tryz.func136.trans (congrArg some (by kernel_rfl))
 f271:=Tryz.func148.trans (congrArg some (by kernel_rfl))
 t0:=Tryz.underlying0
 a0:=Tryz.isAgg0
 z0:=Tryz.sizeOf0
 v0:=Tryz.zeroValue0
 t3:=Tryz.underlying3
 a3:=Tryz.isAgg3
 z3:=Tryz.sizeOf3
 v3:=Tryz.zeroValue3
 t4:=Tryz.underlying4
 a4:=Tryz.isAgg4
 z4:=Tryz.sizeOf4
 v4:=Tryz.zeroValue4
 t5:=Tryz.underlying5
 a5:=Tryz.isAgg5
 z5:=Tryz.sizeOf5
 v5:=Tryz.zeroValue5
 t9:=Tryz.underlying9
 a9:=Tryz.isAgg9
 z9:=Tryz.sizeOf9
 v9:=Tryz.zeroValue9
 t21:=Tryz.underlying21
 a21:=Tryz.isAgg21
 z21:=Tryz.sizeOf21
 v21:=Tryz.zeroValue21
 t46:=Tryz.underlying139
 a46:=Tryz.isAgg139
 z46:=Tryz.sizeOf139
 v46:=Tryz.zeroValue139
 t105:=Tryz.underlying140
 a105:=Tryz.isAgg140
 z105:=Tryz.sizeOf140
 v105:=Tryz.zeroValue140
 t116:=Tryz.underlying164
 a116:=Tryz.isAgg164
 z116:=Tryz.sizeOf164
 t117:=Tryz.underlying165
 a117:=Tryz.isAgg165
 z117:=Tryz.sizeOf165
 v117:=Tryz.zeroValue165
 t119:=Tryz.underlying135
 a119:=Tryz.isAgg135
 z119:=Tryz.sizeOf135
 t124:=Tryz.underlying168
 a124:=Tryz.isAgg168
 z124:=Tryz.sizeOf168
 v124:=Tryz.zeroValue168
 t138:=Tryz.underlying137
 a138:=Tryz.isAgg137
 z138:=Tryz.sizeOf137
 v138:=Tryz.zeroValue137
 t139:=Tryz.underlying138
 a139:=Tryz.isAgg138
 z139:=Tryz.sizeOf138
 v139:=Tryz.zeroValue138
 g3:=by kernel_rfl
 g4:=by kernel_rfl
def Tryz.lays161_ren:Go.Shelf.Ren:=⟨fun | 161=>92 | 231=>116 | 227=>117 | 233=>118 | 235=>119 | 228=>129 | 197=>98 | 151=>147 | 260=>123 | 152=>127 | 137=>73 | 119=>150 | 224=>145 | 225=>144 | 217=>108 | 266=>136 | n=>n,fun | 9=>9 | 4=>4 | 3=>3 | 5=>5 | 117=>165 | 116=>164 | 0=>0 | 124=>168 | 105=>140 | 21=>21 | 119=>135 | 46=>139 | 139=>138 | 138=>137 | n=>n,fun | 3=>0 | 4=>1 | n=>n⟩
theorem Tryz.lays161:Go.Proofs.Lays.n161 Tryz.prog Tryz.lays161_ren where
 mixed:=by kernel_rfl
 f119:=Tryz.func150.trans (congrArg some (by kernel_rfl))
 f137:=Tryz.func73.trans (congrArg some (by kernel_rfl))
 f151:=Tryz.func147.trans (congrArg some (by kernel_rfl))
 f152:=Tryz.func127.trans (congrArg some (by kernel_rfl))
 f161:=Tryz.func92.trans (congrArg some (by kernel_rfl))
 f197:=Tryz.func98.trans (congrArg some (by kernel_rfl))
 f217:=Tryz.func108.trans (congrArg some (by kernel_rfl))
 f224:=Tryz.func145.trans (congrArg some (by kernel_rfl))
 f225:=Tryz.func144.trans (congrArg some (by kernel_rfl))
 f227:=Tryz.func117.trans (congrArg some (by kernel_rfl))
 f228:=Tryz.func129.trans (congrArg some (by kernel_rfl))
 f231:=Tryz.func116.trans (congrArg some (by kernel_rfl))
 f233:=Tryz.func118.trans (congrArg some (by kernel_rfl))
 f235:=Tryz.func119.trans (congrArg some (by kernel_rfl))
 f260:=Tryz.func123.trans (congrArg some (by kernel_rfl))
 f266:=Tryz.func136.trans (congrArg some (by kernel_rfl))
 t0:=Tryz.underlying0
 a0:=Tryz.isAgg0
 z0:=Tryz.sizeOf0
 v0:=Tryz.zeroValue0
 t3:=Tryz.underlying3
 a3:=Tryz.isAgg3
 z3:=Tryz.sizeOf3
 v3:=Tryz.zeroValue3
 t4:=Tryz.underlying4
 a4:=Tryz.isAgg4
 z4:=Tryz.sizeOf4
 v4:=Tryz.zeroValue4
 t5:=Tryz.underlying5
 a5:=Tryz.isAgg5
 z5:=Tryz.sizeOf5
 v5:=Tryz.zeroValue5
 t9:=Tryz.underlying9
 a9:=Tryz.isAgg9
 z9:=Tryz.sizeOf9
 v9:=Tryz.zeroValue9
 t21:=Tryz.underlying21
 a21:=Tryz.isAgg21
 z21:=Tryz.sizeOf21
 v21:=Tryz.zeroValue21
 t46:=Tryz.underlying139
 a46:=Tryz.isAgg139
 z46:=Tryz.sizeOf139
 v46:=Tryz.zeroValue139
 t105:=Tryz.underlying140
 a105:=Tryz.isAgg140
 z105:=Tryz.sizeOf140
 v105:=Tryz.zeroValue140
 t116:=Tryz.underlying164
 a116:=Tryz.isAgg164
 z116:=Tryz.sizeOf164
 t117:=Tryz.underlying165
 a117:=Tryz.isAgg165
 z117:=Tryz.sizeOf165
 v117:=Tryz.zeroValue165
 t119:=Tryz.underlying135
 a119:=Tryz.isAgg135
 z119:=Tryz.sizeOf135
 t124:=Tryz.underlying168
 a124:=Tryz.isAgg168
 z124:=Tryz.sizeOf168
 v124:=Tryz.zeroValue168
 t138:=Tryz.underlying137
 a138:=Tryz.isAgg137
 z138:=Tryz.sizeOf137
 v138:=Tryz.zeroValue137
 t139:=Tryz.underlying138
 a139:=Tryz.isAgg138
 z139:=Tryz.sizeOf138
 v139:=Tryz.zeroValue138
 g3:=by kernel_rfl
 g4:=by kernel_rfl
def Tryz.lays153_ren:Go.Shelf.Ren:=⟨fun | 153=>104 | 152=>127 | 226=>128 | 227=>117 | 228=>129 | 137=>73 | 119=>150 | 224=>145 | 225=>144 | 217=>108 | 266=>136 | n=>n,fun | 9=>9 | 3=>3 | 4=>4 | 5=>5 | 21=>21 | 117=>165 | 116=>164 | 0=>0 | 46=>139 | 124=>168 | n=>n,fun | n=>n⟩
theorem Tryz.lays153:Go.Proofs.Lays.n153 Tryz.prog Tryz.lays153_ren where
 mixed:=by kernel_rfl
 f119:=Tryz.func150.trans (congrArg some (by kernel_rfl))
 f137:=Tryz.func73.trans (congrArg some (by kernel_rfl))
 f152:=Tryz.func127.trans (congrArg some (by kernel_rfl))
 f153:=Tryz.func104.trans (congrArg some (by kernel_rfl))
 f217:=Tryz.func108.trans (congrArg some (by kernel_rfl))
 f224:=Tryz.func145.trans (congrArg some (by kernel_rfl))
 f225:=Tryz.func144.trans (congrArg some (by kernel_rfl))
 f226:=Tryz.func128.trans (congrArg some (by kernel_rfl))
 f227:=Tryz.func117.trans (congrArg some (by kernel_rfl))
 f228:=Tryz.func129.trans (congrArg some (by kernel_rfl))
 f266:=Tryz.func136.trans (congrArg some (by kernel_rfl))
 t0:=Tryz.underlying0
 a0:=Tryz.isAgg0
 z0:=Tryz.sizeOf0
 v0:=Tryz.zeroValue0
 t3:=Tryz.underlying3
 a3:=Tryz.isAgg3
 z3:=Tryz.sizeOf3
 v3:=Tryz.zeroValue3
 t4:=Tryz.underlying4
 a4:=Tryz.isAgg4
 z4:=Tryz.sizeOf4
 v4:=Tryz.zeroValue4
 t5:=Tryz.underlying5
 a5:=Tryz.isAgg5
 z5:=Tryz.sizeOf5
 v5:=Tryz.zeroValue5
 t9:=Tryz.underlying9
 a9:=Tryz.isAgg9
 z9:=Tryz.sizeOf9
 v9:=Tryz.zeroValue9
 t21:=Tryz.underlying21
 a21:=Tryz.isAgg21
 z21:=Tryz.sizeOf21
 v21:=Tryz.zeroValue21
 t46:=Tryz.underlying139
 a46:=Tryz.isAgg139
 z46:=Tryz.sizeOf139
 v46:=Tryz.zeroValue139
 t116:=Tryz.underlying164
 a116:=Tryz.isAgg164
 z116:=Tryz.sizeOf164
 t117:=Tryz.underlying165
 a117:=Tryz.isAgg165
 z117:=Tryz.sizeOf165
 v117:=Tryz.zeroValue165
 t124:=Tryz.underlying168
 a124:=Tryz.isAgg168
 z124:=Tryz.sizeOf168
 v124:=Tryz.zeroValue168
def Tryz.lays171_ren:Go.Shelf.Ren:=⟨fun | 171=>53 | 243=>88 | 246=>113 | 283=>140 | 284=>141 | 285=>142 | 286=>143 | 129=>159 | 317=>158 | 318=>160 | 319=>161 | 320=>162 | 337=>167 | 338=>168 | n=>n,fun | 3=>3 | 9=>9 | 2=>2 | 4=>4 | 171=>193 | 0=>0 | 53=>152 | 37=>98 | 5=>5 | 173=>196 | 212=>216 | 51=>143 | 20=>20 | 213=>217 | 46=>139 | 232=>111 | 233=>226 | n=>n,fun | 17=>8 | 18=>9 | 19=>10 | n=>n⟩
theorem Tryz.lays171:Go.Proofs.LaysM.n171 Tryz.prog Tryz.lays171_ren where
 mixed:=by kernel_rfl
 f129:=Tryz.func159.trans (congrArg some (by kernel_rfl))
 f171:=Tryz.func53.trans (congrArg some (by kernel_rfl))
 f243:=Tryz.func88.trans (congrArg some (by kernel_rfl))
 f246:=Tryz.func113.trans (congrArg some (by kernel_rfl))
 f283:=Tryz.func140.trans (congrArg some (by kernel_rfl))
 f284:=Tryz.func141.trans (congrArg some (by kernel_rfl))
 f285:=Tryz.func142.trans (congrArg some (by kernel_rfl))
 f286:=Tryz.func143.trans (congrArg some (by kernel_rfl))
 f317:=Tryz.func158.trans (congrArg some (by kernel_rfl))
 f318:=Tryz.func160.trans (congrArg some (by kernel_rfl))
 f319:=Tryz.func161.trans (congrArg some (by kernel_rfl))
 f320:=Tryz.func162.trans (congrArg some (by kernel_rfl))
 f337:=Tryz.func167.trans (congrArg some (by kernel_rfl))
 f338:=Tryz.func168.trans (congrArg some (by kernel_rfl))
 t0:=Tryz.underlying0
 a0:=Tryz.isAgg0
 z0:=Tryz.sizeOf0
 v0:=Tryz.zeroValue0
 t2:=Tryz.underlying2
 a2:=Tryz.isAgg2
 z2:=Tryz.sizeOf2
 v2:=Tryz.zeroValue2
 t3:=Tryz.underlying3
 a3:=Tryz.isAgg3
 z3:=Tryz.sizeOf3
 v3:=Tryz.zeroValue3
 t4:=Tryz.underlying4
 a4:=Tryz.isAgg4
 z4:=Tryz.sizeOf4
 v4:=Tryz.zeroValue4
 t5:=Tryz.underlying5
 a5:=Tryz.isAgg5
 z5:=Tryz.sizeOf5
 v5:=Tryz.zeroValue5
 t9:=Tryz.underlying9
 a9:=Tryz.isAgg9
 z9:=Tryz.sizeOf9
 v9:=Tryz.zeroValue9
 t20:=Tryz.underlying20
 a20:=Tryz.isAgg20
 z20:=Tryz.sizeOf20
 v20:=Tryz.zeroValue20
 t37:=Tryz.underlying98
 a37:=Tryz.isAgg98
 z37:=Tryz.sizeOf98
 v37:=Tryz.zeroValue98
 t46:=Tryz.underlying139
 a46:=Tryz.isAgg139
 z46:=Tryz.sizeOf139
 v46:=Tryz.zeroValue139
 t51:=Tryz.underlying143
 a51:=Tryz.isAgg143
 z51:=Tryz.sizeOf143
 v51:=Tryz.zeroValue143
 t53:=Tryz.underlying152
 a53:=Tryz.isAgg152
 z53:=Tryz.sizeOf152
 v53:=Tryz.zeroValue152
 t171:=Tryz.underlying193
 a171:=Tryz.isAgg193
 z171:=Tryz.sizeOf193
 v171:=Tryz.zeroValue193
 t173:=Tryz.underlying196
 a173:=Tryz.isAgg196
 z173:=Tryz.sizeOf196
 v173:=Tryz.zeroValue196
 t212:=Tryz.underlying216
 a212:=Tryz.isAgg216
 z212:=Tryz.sizeOf216
 v212:=Tryz.zeroValue216
 t213:=Tryz.underlying217
 a213:=Tryz.isAgg217
 z213:=Tryz.sizeOf217
 t232:=Tryz.underlying111
 a232:=Tryz.isAgg111
 z232:=Tryz.sizeOf111
 v232:=Tryz.zeroValue111
 t233:=Tryz.underlying226
 a233:=Tryz.isAgg226
 z233:=Tryz.sizeOf226
 v233:=Tryz.zeroValue226
 g17:=by kernel_rfl
 g18:=by kernel_rfl
 g19:=by kernel_rfl
 i0:=by kernel_rfl
 i2:=by kernel_rfl
 i3:=by kernel_rfl
 i4:=by kernel_rfl
 i5:=by kernel_rfl
 i9:=by kernel_rfl
 i20:=by kernel_rfl
 i37:=by kernel_rfl
 i46:=by kernel_rfl
 i51:=by kernel_rfl
 i53:=by kernel_rfl
 i171:=by kernel_rfl
 i173:=by kernel_rfl
 i212:=by kernel_rfl
 i232:=by kernel_rfl
 i233:=by kernel_rfl
 m17:=by kernel_rfl
 m18:=by kernel_rfl
 m19:=by kernel_rfl
def Tryz.lays172_ren:Go.Shelf.Ren:=⟨fun | 172=>68 | 244=>105 | 245=>106 | 247=>130 | 279=>131 | 280=>132 | 281=>133 | 282=>134 | 287=>151 | 316=>152 | 171=>53 | 205=>153 | 321=>165 | 322=>166 | 243=>88 | 246=>113 | 283=>140 | 284=>141 | 285=>142 | 286=>143 | 129=>159 | 317=>158 | 318=>160 | 319=>161 | 320=>162 | 337=>167 | 338=>168 | n=>n,fun | 9=>9 | 3=>3 | 75=>117 | 76=>118 | 4=>4 | 5=>5 | 167=>182 | 37=>98 | 0=>0 | 85=>183 | 2=>2 | 168=>185 | 53=>152 | 175=>205 | 46=>139 | 210=>208 | 127=>155 | 145=>224 | 143=>222 | 21=>21 | 171=>193 | 173=>196 | 212=>216 | 51=>143 | 20=>20 | 213=>217 | 232=>111 | 233=>226 | 80=>124 | n=>n,fun | 15=>6 | 16=>7 | 17=>8 | 18=>9 | 19=>10 | n=>n⟩
theorem Tryz.lays172:Go.Proofs.LaysC.n172 Tryz.prog Tryz.lays172_ren where
 mixed:=by kernel_rfl
 f129:=Tryz.func159.trans (congrArg some (by kernel_rfl))
 f171:=Tryz.func53.trans (congrArg some (by kernel_rfl))
 f172:=Tryz.func68.trans (congrArg some (by kernel_rfl))
 f205:=Tryz.func153.trans (congrArg some (by kernel_rfl))
 f243:=Tryz.func88.trans (congrArg some (by kernel_rfl))
 f244:=Tryz.func105.trans (congrArg some (by kernel_rfl))
 f245:=Tryz.func106.trans (congrArg some (by kernel_rfl))
 f246:=Tryz.func113.trans (congrArg some (by kernel_rfl))
 f247:=Tryz.func130.trans (congrArg some (by kernel_rfl))
 f279:=Tryz.func131.trans (congrArg some (by kernel_rfl))
 f280:=Tryz.func132.trans (congrArg some (by kernel_rfl))
 f281:=Tryz.func133.trans (congrArg some (by kernel_rfl))
 f282:=Tryz.func134.trans (congrArg some (by kernel_rfl))
 f283:=Tryz.func140.trans (congrArg some (by kernel_rfl))
 f284:=Tryz.func141.trans (congrArg some (by kernel_rfl))
 f285:=Tryz.func142.trans (congrArg some (by kernel_rfl))
 f286:=Tryz.func143.trans (congrArg some (by kernel_rfl))
 f287:=Tryz.func151.trans (congrArg some (by kernel_rfl))
 f316:=Tryz.func152.trans (congrArg some (by kernel_rfl))
 f317:=Tryz.func158.trans (congrArg some (by kernel_rfl))
 f318:=Tryz.func160.trans (congrArg some (by kernel_rfl))
 f319:=Tryz.func161.trans (congrArg some (by kernel_rfl))
 f320:=Tryz.func162.trans (congrArg some (by kernel_rfl))
 f321:=Tryz.func165.trans (congrArg some (by kernel_rfl))
 f322:=Tryz.func166.trans (congrArg some (by kernel_rfl))
 f337:=Tryz.func167.trans (congrArg some (by kernel_rfl))
 f338:=Tryz.func168.trans (congrArg some (by kernel_rfl))
 t0:=Tryz.underlying0
 a0:=Tryz.isAgg0
 z0:=Tryz.sizeOf0
 v0:=Tryz.zeroValue0
 t2:=Tryz.underlying2
 a2:=Tryz.isAgg2
 z2:=Tryz.sizeOf2
 v2:=Tryz.zeroValue2
 t3:=Tryz.underlying3
 a3:=Tryz.isAgg3
 z3:=Tryz.sizeOf3
 v3:=Tryz.zeroValue3
 t4:=Tryz.underlying4
 a4:=Tryz.isAgg4
 z4:=Tryz.sizeOf4
 v4:=Tryz.zeroValue4
 t5:=Tryz.underlying5
 a5:=Tryz.isAgg5
 z5:=Tryz.sizeOf5
 v5:=Tryz.zeroValue5
 t9:=Tryz.underlying9
 a9:=Tryz.isAgg9
 z9:=Tryz.sizeOf9
 v9:=Tryz.zeroValue9
 t20:=Tryz.underlying20
 a20:=Tryz.isAgg20
 z20:=Tryz.sizeOf20
 v20:=Tryz.zeroValue20
 t21:=Tryz.underlying21
 a21:=Tryz.isAgg21
 z21:=Tryz.sizeOf21
 v21:=Tryz.zeroValue21
 t37:=Tryz.underlying98
 a37:=Tryz.isAgg98
 z37:=Tryz.sizeOf98
 v37:=Tryz.zeroValue98
 t46:=Tryz.underlying139
 a46:=Tryz.isAgg139
 z46:=Tryz.sizeOf139
 v46:=Tryz.zeroValue139
 t51:=Tryz.underlying143
 a51:=Tryz.isAgg143
 z51:=Tryz.sizeOf143
 v51:=Tryz.zeroValue143
 t53:=Tryz.underlying152
 a53:=Tryz.isAgg152
 z53:=Tryz.sizeOf152
 v53:=Tryz.zeroValue152
 t75:=Tryz.underlying117
 a75:=Tryz.isAgg117
 z75:=Tryz.sizeOf117
 v75:=Tryz.zeroValue117
 t76:=Tryz.underlying118
 a76:=Tryz.isAgg118
 z76:=Tryz.sizeOf118
 v76:=Tryz.zeroValue118
 t85:=Tryz.underlying183
 a85:=Tryz.isAgg183
 z85:=Tryz.sizeOf183
 v85:=Tryz.zeroValue183
 t127:=Tryz.underlying155
 a127:=Tryz.isAgg155
 z127:=Tryz.sizeOf155
 v127:=Tryz.zeroValue155
 t143:=Tryz.underlying222
 a143:=Tryz.isAgg222
 z143:=Tryz.sizeOf222
 v143:=Tryz.zeroValue222
 t145:=Tryz.underlying224
 a145:=Tryz.isAgg224
 z145:=Tryz.sizeOf224
 v145:=Tryz.zeroValue224
 t167:=Tryz.underlying182
 a167:=Tryz.isAgg182
 z167:=Tryz.sizeOf182
 v167:=Tryz.zeroValue182
 t168:=Tryz.underlying185
 a168:=Tryz.isAgg185
 z168:=Tryz.sizeOf185
 v168:=Tryz.zeroValue185
 t171:=Tryz.underlying193
 a171:=Tryz.isAgg193
 z171:=Tryz.sizeOf193
 v171:=Tryz.zeroValue193
 t173:=Tryz.underlying196
 a173:=Tryz.isAgg196
 z173:=Tryz.sizeOf196
 v173:=Tryz.zeroValue196
 t175:=Tryz.underlying205
 a175:=Tryz.isAgg205
 z175:=Tryz.sizeOf205
 v175:=Tryz.zeroValue205
 t210:=Tryz.underlying208
 a210:=Tryz.isAgg208
 z210:=Tryz.sizeOf208
 v210:=Tryz.zeroValue208
 t212:=Tryz.underlying216
 a212:=Tryz.isAgg216
 z212:=Tryz.sizeOf216
 v212:=Tryz.zeroValue216
 t213:=Tryz.underlying217
 a213:=Tryz.isAgg217
 z213:=Tryz.sizeOf217
 t232:=Tryz.underlying111
 a232:=Tryz.isAgg111
 z232:=Tryz.sizeOf111
 v232:=Tryz.zeroValue111
 t233:=Tryz.underlying226
 a233:=Tryz.isAgg226
 z233:=Tryz.sizeOf226
 v233:=Tryz.zeroValue226
 g15:=by kernel_rfl
 g16:=by kernel_rfl
 g17:=by kernel_rfl
 g18:=by kernel_rfl
 g19:=by kernel_rfl
 t80:=Tryz.underlying124
 a80:=Tryz.isAgg124
 z80:=Tryz.sizeOf124
 v80:=Tryz.zeroValue124
 i0:=by kernel_rfl
 i2:=by kernel_rfl
 i3:=by kernel_rfl
 i4:=by kernel_rfl
 i5:=by kernel_rfl
 i9:=by kernel_rfl
 i20:=by kernel_rfl
 i21:=by kernel_rfl
 i37:=by kernel_rfl
 i46:=by kernel_rfl
 i51:=by kernel_rfl
 i53:=by kernel_rfl
 i75:=by kernel_rfl
 i76:=by kernel_rfl
 i80:=by kernel_rfl
 i85:=by kernel_rfl
 i127:=by kernel_rfl
 i143:=by kernel_rfl
 i145:=by kernel_rfl
 i167:=by kernel_rfl
 i168:=by kernel_rfl
 i171:=by kernel_rfl
 i173:=by kernel_rfl
 i175:=by kernel_rfl
 i210:=by kernel_rfl
 i212:=by kernel_rfl
 i232:=by kernel_rfl
 i233:=by kernel_rfl
 m15:=by kernel_rfl
 m16:=by kernel_rfl
 m17:=by kernel_rfl
 m18:=by kernel_rfl
 m19:=by kernel_rfl
 c0:=by kernel_rfl
 c2:=by kernel_rfl
 c3:=by kernel_rfl
 c4:=by kernel_rfl
 c5:=by kernel_rfl
 c9:=by kernel_rfl
 c20:=by kernel_rfl
 c21:=by kernel_rfl
 c37:=by kernel_rfl
 c46:=by kernel_rfl
 c51:=by kernel_rfl
 c53:=by kernel_rfl
 c75:=by kernel_rfl
 c76:=by kernel_rfl
 c80:=by kernel_rfl
 c85:=by kernel_rfl
 c127:=by kernel_rfl
 c143:=by kernel_rfl
 c145:=by kernel_rfl
 c167:=by kernel_rfl
 c168:=by kernel_rfl
 c171:=by kernel_rfl
 c173:=by kernel_rfl
 c175:=by kernel_rfl
 c210:=by kernel_rfl
 c212:=by kernel_rfl
 c213:=by kernel_rfl
 c232:=by kernel_rfl
 c233:=by kernel_rfl
end Go.Proofs
namespace Go.Proofs.YtoikjkmmdpdkbaaGreatDoor.vcl
open Go Go.Ab Go.Ab.Vl Go.Ab.Vc Go.RowKit Go.Proofs Go.Proofs.YtoikjkmmdpdkbaaGreatDoor
abbrev Ij:List Int:=[0,1,2,3,4,5,6,7,8,9,10,11,12,13,14,15,16,17,18,19,20,21,22,23,24,25,26,27,28,29,30,31,32,33,34,35,36,37,38,39,40,41,42,43,44,45,46,47,48,49,50,51,52,53,54,55,56,57,58,59,60,61,62,63,64,97,98,99,100,101,102,103,104,105,106,107,108,109,110,111,112,113,114,115,116,117,118,119,120,121,122,91,92,93,94,95,96,65,66,67,68,69,70,71,72,73,74,8490,76,77,78,79,80,81,82,383,84,85,86,87,88,89,90,123,124,125,126,127]
structure Iv (w:World) : Prop where
 u8:Lib.Utf8Tabs 0 1 w
 p10:Lib.TabIs Tryz.prog w "internal/strconv.uint64pow10" .u64 Lib.pow10Tab
 fold:Lib.TabIs Tryz.prog w "unicode.asciiFold" .u16 Ij
 es:∃ ev,w.cell? ⟨6,0,none⟩=some ev∧(ev=.nilIface∨∃ te pe,ev=.iface te pe)
 er:∃ ev,w.cell? ⟨7,0,none⟩=some ev∧(ev=.nilIface∨∃ te pe,ev=.iface te pe)
theorem SV (w:World) (q:Nat) (os:Array Obj) : Below w.heap.size w (Go.Sort.grow (w.drewN q) os) :=
 ⟨rfl,rfl,rfl,by first | (simp[Go.Sort.grow]; done) | (simp[Go.Sort.grow]; omega),fun i hi=>by
  show((w.drewN q).heap++os)[i]?=_
  rw[Array.getElem?_append_left (by show i<w.heap.size; omega)]
  rfl⟩
theorem FJ {w:World} {b o:Nat} {v:Value} (h:w.cell? ⟨b,o,none⟩=some v) : b<w.heap.size:=by
 unfold World.cell? at h
 cases hb:w.heap[b]? with
 | none=>simp[hb] at h
 | some x=>exact(Array.getElem?_eq_some_iff.1 hb).1
theorem vS {w w' : World} {b:Nat} (h:w'.heap[b]?=w.heap[b]?) (o:Nat) : w'.cell? ⟨b,o,none⟩=w.cell? ⟨b,o,none⟩:=by
 unfold World.cell?
 simp only[h]
theorem varLt {w:World} {n:String} {g:Nat} {vs:Array Value} (hg:Tryz.prog.globalNamed n=some g) (h:w.var? Tryz.prog n=some vs) : g<w.heap.size:=by
 unfold World.var? at h
 rw[hg] at h
 simp only[Option.bind_some] at h
 cases hb:w.heap[g]? with
 | none=>rw[hb] at h; cases h
 | some x=>exact(Array.getElem?_eq_some_iff.1 hb).1
theorem O9 {w w' : World} {n:String} {g:Nat} (hg:Tryz.prog.globalNamed n=some g) (h:w'.heap[g]?=w.heap[g]?) : w'.var? Tryz.prog n=w.var? Tryz.prog n:=by
 unfold World.var?
 rw[hg]
 simp only[Option.bind_some,h]
theorem Vy:Tryz.prog.globalNamed "internal/strconv.uint64pow10" = some 8:=by kernel_rfl
theorem Kg:Tryz.prog.globalNamed "unicode.asciiFold" = some 2:=by kernel_rfl
def base (w:World) (hi:Iv w) : Base where
 n:=w.heap.size
 inv w':=Iv w'
 low u u' hlow hu:=by
  obtain⟨e1,c1,d1⟩:=hi.es
  obtain⟨e2,c2,d2⟩:=hi.er
  obtain⟨e3,c3,d3⟩:=hu.es
  obtain⟨e4,c4,d4⟩:=hu.er
  have h0:=FJ (hi.u8.1 0 (by omega))
  have h1:=FJ (hi.u8.2 0 (by omega)).1
  refine⟨⟨fun c hc=>(vS (hlow 0 h0) c).trans (hu.u8.1 c hc),fun i hi'=>⟨(vS (hlow 1 h1) _).trans (hu.u8.2 i hi').1,(vS (hlow 1 h1) _).trans (hu.u8.2 i hi').2⟩⟩, ?_, ?_,
   ⟨e3,(vS (hlow 6 (FJ c1)) 0).trans c3,d3⟩,⟨e4,(vS (hlow 7 (FJ c2)) 0).trans c4,d4⟩⟩
  ·exact(O9 Vy (hlow 8 (varLt Vy hi.p10))).trans hu.p10
  ·exact(O9 Kg (hlow 2 (varLt Kg hi.fold))).trans hu.fold
section
variable {w0:World} {hi:Iv w0}
theorem Hf {M:RM} {ρ:Ab.Ren} {w:World} (hM:M.base=base w0 hi) (hw:bT Tryz.prog ρ M w) : Iv w:=by
 have:=bT.inv hw
 rw[hM] at this
 exact this
theorem Yu (s:List UInt8) (h:s≠[]) : Lib.decodeGo ⟨⟨s⟩⟩=dec s:=by
 have hs:(⟨⟨s⟩⟩ : ByteArray).size=s.length:=rfl
 have hp:=List.length_pos_iff.2 h
 have g:∀ i,((⟨⟨s⟩⟩ : ByteArray).get! i).toNat=bt s i:=fun i=>by
  simp only[ByteArray.get!,bt,List.getD_eq_getElem?_getD]
  simp[getElem!_def]
  cases s[i]? <;> rfl
 rw[Lib.decodeGo,if_neg (by rw[hs]; omega),Lib.decode_at,g,g,g,g,hs]
 rfl
theorem YC:VT (base w0 hi) (av 98):=by
 intro M s Q hM hne hl hQ
 refine eU.lL (v:=.tup [N .i32 ((dec s).1:Int),N .i64 (rs s:Int)]) ⟨Tryz.f98,_,Tryz.func98,rfl⟩ (fun ρ w us hus hw=>?_) hQ
 cases hus with
 | cons _ u1 _ us r1 hus =>
 cases hus
 obtain⟨rfl,_⟩:=aM r1
 refine(Any.utf8_DecodeRuneInString Tryz.lays197 ⟨⟨s⟩⟩ w (Hf hM hw).u8).mono fun e w' ⟨he,hb⟩=>⟨_,he,hb, ?_⟩
 rw[Yu s hne,show(dec s).2=rs s by rw[rs,if_neg hne]]
 exact .tup _ _ (.cons _ _ _ _ (.sc _ rfl) (.cons _ _ _ _ (.sc _ rfl) .nil))
theorem decode:XW (base w0 hi) (av 98):=fun h1 h2 h3 h4=>YC h1 h2 h3 (h4 _)
theorem valid:NC (base w0 hi) (av 56):=by
 intro M s Q hM hl hQ
 refine eU.lL (v:=Bo (eB s)) ⟨Tryz.f56,_,Tryz.func56,rfl⟩ (fun ρ w us hus hw=>?_) hQ
 cases hus with
 | cons _ u1 _ us r1 hus =>
 cases hus
 obtain⟨rfl,_⟩:=aM r1
 refine(Any.utf8_ValidString Tryz.lays196 ⟨⟨s⟩⟩ w (by show s.length≤_; omega) (Hf hM hw).u8).mono fun e w' ⟨he,hb⟩=>⟨_,he,hb, ?_⟩
 rw[show(⟨⟨s⟩⟩ : ByteArray).data.toList=s from rfl,Gr s.length s (Nat.le_refl _)]
 exact .sc _ rfl
end
theorem GY:∀ (j:Nat) b,(⟨⟨dx⟩⟩ : ByteArray).data.toList[j]?=some b→b.toNat<128:=fun j b h=>by
 have hm:b∈dx:=List.mem_of_getElem? h
 have:dx.all (fun b=>decide (b.toNat<128))=true:=by decide
 exact of_decide_eq_true (List.all_eq_true.1 this b hm)
theorem trimLeft {B:Base} : Ls B (av 92):=by
 intro M s Q hM hl hQ
 by_cases hne:s=[]
 ·subst hne
  refine uI ?_
  unfold rG
  simp only[dR,go_sem,beq_self_eq_true]
  exact hQ M (ae.refl _ _)
 have hp:=List.length_pos_iff.2 hne
 refine eU.lL (v:=St (s.dropWhile (dx.contains ·))) ⟨Tryz.f92,_,Tryz.func92,rfl⟩ (fun ρ w us hus hw=>?_) (hQ M (ae.refl _ _))
 cases hus with
 | cons _ u1 _ us r1 hus =>
 cases hus with
 | cons _ u2 _ us r2 hus =>
 cases hus
 obtain⟨rfl,_⟩:=aM r1
 obtain⟨rfl,_⟩:=aM r2
 refine(Any.strings_TrimLeft_set Tryz.lays161 (by exact Tryz.zeroValue164) (by kernel_rfl) ⟨⟨s⟩⟩ ⟨⟨dx⟩⟩ w (by decide) (by show 0<s.length; omega) (by decide) GY).mono fun e w' ⟨he,hb⟩=>⟨_,he, ?_,.sc _ rfl⟩
 rw[hb]
 have h1:=(Below.refl w.heap.size w).alloc (Nat.le_refl _) (.cells (Lib.setCells dx) (Tryz.lays161_ren.t 116))
 exact h1.alloc h1.size _
theorem trim {B:Base} : Ng B (fun s=>Lib.trimS s dx) (av 95):=by
 intro M s Q hM hl hQ
 by_cases hne:s=[]
 ·subst hne
  refine AQ ?_
  unfold yJ
  simp only[dR,go_sem,beq_self_eq_true]
  exact hQ M (ae.refl _ _)
 have hp:=List.length_pos_iff.2 hne
 refine eU.lL (v:=St (Lib.trimS s dx)) ⟨Tryz.f95,_,Tryz.func95,rfl⟩ (fun ρ w us hus hw=>?_) (hQ M (ae.refl _ _))
 cases hus with
 | cons _ u1 _ us r1 hus =>
 cases hus with
 | cons _ u2 _ us r2 hus =>
 cases hus
 obtain⟨rfl,_⟩:=aM r1
 obtain⟨rfl,_⟩:=aM r2
 refine(Any.strings_Trim_set Tryz.lays160 (by exact Tryz.zeroValue164) (by kernel_rfl) ⟨⟨s⟩⟩ ⟨⟨dx⟩⟩ w (by decide) (by show 0<s.length; omega) (by show s.length≤_; omega) (by decide) GY).mono fun e w' ⟨he,q,hb⟩=>⟨_,he, ?_,.sc _ rfl⟩
 rw[hb]
 have h1:=(Below.refl w.heap.size w).alloc (Nat.le_refl _) (.cells (Lib.setCells dx) (Tryz.lays160_ren.t 116))
 have h2:=h1.alloc h1.size (.cells (Lib.setCells dx) (Tryz.lays160_ren.t 116))
 exact⟨h2.os,h2.tape,h2.output,h2.size,h2.block⟩
theorem Ti {M:RM} {s:List UInt8} {x:UInt8} : Ox Tryz.prog 136 [St s,By x] M (N .i64 (Lib.indexByte s x)):=by
 intro ρ w us hus hw
 cases hus with
 | cons _ u1 _ us r1 hus =>
 cases hus with
 | cons _ u2 _ us r2 hus =>
 cases hus
 obtain⟨rfl,_⟩:=aM r1
 obtain⟨rfl,_⟩:=aM r2
 refine⟨.int .i64 (Lib.indexByte s x), ?_,.sc _ rfl⟩
 refine Az (fn:=Tryz.f136) (s:=Extern.BytealgIndexByte.indexByte) (by kernel_rfl) (Z5.ng 136 Tryz.f136 (by kernel_rfl)) (by kernel_rfl) (by kernel_rfl) (by kernel_rfl) (fun w=>?_) w
 rw[Lib.run_indexByteString]
 congr 2
 simp
theorem Ul:qp (av 108):=by
 intro M s x Q hQ
 refine ma ?_
 unfold jB
 exact .inr (.inr (.inr (.inl ⟨_,Ti,hQ⟩)))
theorem Qz:qp (av 73):=by
 intro M s x Q hQ
 refine tN ?_
 unfold qb
 exact Ul hQ
theorem validRune:Aa (av 150):=by
 intro M r Q hQ
 obtain⟨a0,e,h⟩:=Hd hQ
 cases e
 exact pR h
theorem Tz {cs:Vc.Str} (h1:Asc cs) (h2:cs.length≤1000) : Af cs (av 127):=by
 intro M r Q h3 h4
 obtain⟨a0,a1,e,h⟩:=Gj (cq:=av 145) h1 h2 Qz validRune h3 h4
 cases e
 exact tK h
theorem indexAny {B:Base} {cs:Vc.Str} (ha:Asc cs) (h2:2≤cs.length) (Wv:cs.length≤1000) : ni cs B (av 104):=by
 intro M s Q hM hl hQ
 have hasc:∀ (j:Nat) b,(⟨⟨cs⟩⟩ : ByteArray).data.toList[j]?=some b→b.toNat<128:=fun j b h=>ha b (List.mem_of_getElem? h)
 by_cases h8:s.length≤8
 ·refine uX (IQ ha h2 Wv h8 (Tz ha Wv) ?_ hQ)
  intro M n Q h
  refine nS ?_
  unfold lv
  simp only[go_sem]
  rw[show decide ((n:Int) > 8)=decide (8<n) by simp; omega]
  exact h
 refine eU.lL (v:=N .i64 (Lib.indexAny s cs)) ⟨Tryz.f104,_,Tryz.func104,rfl⟩ (fun ρ w us hus hw=>?_) (hQ M (ae.refl _ _))
 cases hus with
 | cons _ u1 _ us r1 hus =>
 cases hus with
 | cons _ u2 _ us r2 hus =>
 cases hus
 obtain⟨rfl,_⟩:=aM r1
 obtain⟨rfl,_⟩:=aM r2
 refine(Any.strings_IndexAny_long Tryz.lays153 (by exact Tryz.zeroValue164) (by kernel_rfl) ⟨⟨s⟩⟩ ⟨⟨cs⟩⟩ w (by show 1<cs.length; omega) (by show 8<s.length; omega) (by show s.length<_; omega) (by show cs.length<_; omega) hasc).mono fun e w' ⟨he,hb⟩=>⟨_,he, ?_,.sc _ rfl⟩
 rw[hb]
 exact((Below.refl _ _).alloc (Nat.le_refl _) _).alloc (by simp) _
theorem Rv {cs:Vc.Str} (h:cs.all (fun b=>decide (b.toNat<128))=true) : Asc cs:=fun x hx=>of_decide_eq_true (List.all_eq_true.1 h x hx)
theorem Z4 {B:Base} : ni iR B (av 104):=indexAny (Rv (by decide)) (by decide) (by decide)
theorem ia4 {B:Base} : ni mI B (av 104):=indexAny (Rv (by decide)) (by decide) (by decide)
section
variable {w0:World} {hi:Iv w0}
theorem itoa:Vc.VW (base w0 hi) (av 53):=by
 intro M n Q hB h1 h2 hQ
 refine eU.lL (v:=St (Lib.itoa n)) ⟨Tryz.f53,_,Tryz.func53,rfl⟩ (fun ρ w us hus hw=>?_) (hQ M (ae.refl _ _))
 cases hus with
 | cons _ u1 _ us r1 hus =>
 cases hus
 obtain⟨rfl,_⟩:=aM r1
 refine(Any.strconv_Itoa Tryz.lays171 n h1 h2 w (Hf hB hw).p10).mono fun e w' ⟨he,k,os,hb⟩=>⟨_,he, ?_,.sc _ rfl⟩
 rw[hb]
 exact SV w k os
theorem atoi:Vc.Wn (base w0 hi) (av 68):=by
 intro M s Q hB hl hQ
 unfold zB at hQ
 have bad:∀ (v:Int),(Lib.atoiAll s=Lib.atoiAll [] ∧ v=0∨Lib.atoiAll s=.range∧v=Lib.atoiSat s)→Q (.tup [N .i64 v,.ifc (Tryz.lays172_ren.t 168) .top]) M→av 68 [St s] M Q:=by
  intro v hv hq
  refine eU.lL (v:=.tup [N .i64 v,.ifc (Tryz.lays172_ren.t 168) .top]) ⟨Tryz.f68,_,Tryz.func68,rfl⟩ (fun ρ w us hus hw=>?_) hq
  cases hus with
  | cons _ u1 _ us r1 hus =>
  cases hus
  obtain⟨rfl,_⟩:=aM r1
  rcases hv with⟨hv,rfl⟩ | ⟨hv,rfl⟩
  ·obtain⟨ev,c1,d1⟩:=(Hf hB hw).es
   refine(Any.strconv_Atoi_syntax Tryz.lays172 ⟨⟨s⟩⟩ (by show s.length≤_; omega) hv ev w c1 d1).mono fun e w' ⟨N,he,_,_,hb⟩=>⟨_,he,hb, ?_⟩
   exact .tup _ _ (.cons _ _ _ _ (.sc _ rfl) (.cons _ _ _ _ (.ifc _ _ _ (.top _)) .nil))
  ·obtain⟨ev,c1,d1⟩:=(Hf hB hw).er
   refine(Any.strconv_Atoi_range Tryz.lays172 ⟨⟨s⟩⟩ (by show s.length≤_; omega) hv ev w c1 d1).mono fun e w' ⟨N,he,_,_,hb⟩=>⟨_,he,hb, ?_⟩
   exact .tup _ _ (.cons _ _ _ _ (.sc _ rfl) (.cons _ _ _ _ (.ifc _ _ _ (.top _)) .nil))
 have hno:∀ K:AV→Prop,K (Bo false)→Fz false (.ifc (Tryz.lays172_ren.t 168) .top) (.sc .nilIface) K:=fun K hK=>.inl ⟨rfl,false,rfl,hK⟩
 cases ha:Lib.atoiAll s with
 | ok v =>
   rw[ha] at hQ
   refine eU.lL (v:=.tup [N .i64 v,.sc .nilIface]) ⟨Tryz.f68,_,Tryz.func68,rfl⟩ (fun ρ w us hus hw=>?_) (hQ M _ (ae.refl _ _) fun K hK=>.inr ⟨rfl,rfl,hK⟩)
   cases hus with
   | cons _ u1 _ us r1 hus =>
   cases hus
   obtain⟨rfl,_⟩:=aM r1
   refine(Any.strconv_Atoi_ok Tryz.lays172 ⟨⟨s⟩⟩ (by show s.length≤_; omega) v ha w).mono fun e w' ⟨he,hb⟩=>⟨_,he, ?_,.tup _ _ (.cons _ _ _ _ (.sc _ rfl) (.cons _ _ _ _ (.sc _ rfl) .nil))⟩
   rcases hb with rfl | ⟨t,rfl⟩
   ·exact Below.refl _ _
   ·exact Lib.bytesWorld_below w _ t
 | range =>
   rw[ha] at hQ
   exact bad _ (.inr ⟨ha,rfl⟩) (hQ M _ (ae.refl _ _) hno)
 | _ =>
   rw[ha] at hQ
   exact bad 0 (.inl ⟨ha,rfl⟩) (hQ M _ (ae.refl _ _) hno)
end
end Go.Proofs.YtoikjkmmdpdkbaaGreatDoor.vcl
namespace Go.Proofs.YtoikjkmmdpdkbaaGreatDoor
open Go Go.RowKit Go.Proofs
set_option maxHeartbeats 4000000 in
theorem SE (k:Nat) (x:Int) (hk:k<128) (w:World) (hc:w.cell? ⟨2,k,none⟩=some (.int .u16 x)) (hx:0≤x∧x<65536) :
  Calls Tryz.prog 99 #[.int .i32 (k:Int)] w fun e w'=>e=.returned (.int .i32 x)∧w'=w:=by
 have h1:¬ ((k:Int)<0):=by omega
 have h2:¬ ((k:Int) > 1114111):=by omega
 have h3:(k:Int)<128:=by omega
 go_enter Tryz.func99,Tryz.ntmps99
 go_wp2
 go_ret
 exact⟨rfl,rfl⟩
namespace vcl
open Go.Ab Go.Ab.Vl Go.Ab.Vc
theorem oh {w0:World} {hi:Iv w0} {k:Nat} {x:Int} (hk:k<128) (hx:Ij.getD k 0=x) (hb:0≤x∧x<65536) {M:RM} {Q:aj} (hM:M.base=base w0 hi) (hQ:Q (N .i32 x) M) : av 99 [N .i32 (k:Int)] M Q:=by
 refine eU.lL (v:=N .i32 x) ⟨Tryz.f99,_,Tryz.func99,rfl⟩ (fun ρ w us hus hw=>?_) hQ
 cases hus with
 | cons _ u1 _ us r1 hus =>
 cases hus
 obtain⟨rfl,_⟩:=aM r1
 have hc:=(Hf hM hw).fold.cell Kg k (by show k<128; omega)
 rw[hx] at hc
 refine(SE k x hk w hc hb).mono fun e w' ⟨he,hw'⟩=>⟨_,he,by rw[hw']; exact Below.refl _ _,.sc _ rfl⟩
theorem Yq {w0:World} {hi:Iv w0} : TQ (base w0 hi) (av 99):=by
 constructor
 ·intro M y Q hM hy hQ
  simp only[List.mem_cons,List.not_mem_nil,or_false] at hy
  rcases hy with rfl | rfl | rfl | rfl | rfl
  ·exact oh (k:=118) (by decide) (by kernel_rfl) (by decide) hM hQ
  ·exact oh (k:=99) (by decide) (by kernel_rfl) (by decide) hM hQ
  ·exact oh (k:=97) (by decide) (by kernel_rfl) (by decide) hM hQ
  ·exact oh (k:=114) (by decide) (by kernel_rfl) (by decide) hM hQ
  ·exact oh (k:=100) (by decide) (by kernel_rfl) (by decide) hM hQ
 ·intro M y Q hM hy hQ
  simp only[List.mem_cons,List.not_mem_nil,or_false] at hy
  rcases hy with rfl | rfl | rfl | rfl | rfl
  ·exact oh (k:=86) (by decide) (by kernel_rfl) (by decide) hM hQ
  ·exact oh (k:=67) (by decide) (by kernel_rfl) (by decide) hM hQ
  ·exact oh (k:=65) (by decide) (by kernel_rfl) (by decide) hM hQ
  ·exact oh (k:=82) (by decide) (by kernel_rfl) (by decide) hM hQ
  ·exact oh (k:=68) (by decide) (by kernel_rfl) (by decide) hM hQ
end vcl
end Go.Proofs.YtoikjkmmdpdkbaaGreatDoor
namespace Go.Proofs.YtoikjkmmdpdkbaaGreatDoor.vcl
open Go Go.Ab Go.Ab.Vl Go.Ab.Vc Go.RowKit Go.Proofs Go.Proofs.YtoikjkmmdpdkbaaGreatDoor
theorem QH {f:FuncId} {W:RM→aj→Prop} (h:∀ {M:RM} {Q:aj},W M Q→av f [] M Q) : ∀ args M Q,(args=[]∧W M Q)→av f args M Q:=by
 rintro args M Q ⟨rfl,k⟩; exact h k
theorem dO {f:FuncId} {W:AV→RM→aj→Prop} (h:∀ {a0:AV} {M:RM} {Q:aj},W a0 M Q→av f [a0] M Q) : ∀ args M Q,(∃ a0,args=[a0]∧W a0 M Q)→av f args M Q:=by
 rintro args M Q ⟨a0,rfl,k⟩; exact h k
theorem ek {f:FuncId} {W:AV→AV→RM→aj→Prop} (h:∀ {a0 a1:AV} {M:RM} {Q:aj},W a0 a1 M Q→av f [a0,a1] M Q) : ∀ args M Q,(∃ a0 a1,args=[a0,a1]∧W a0 a1 M Q)→av f args M Q:=by
 rintro args M Q ⟨a0,a1,rfl,k⟩; exact h k
theorem Zh {f:FuncId} {W:AV→AV→AV→RM→aj→Prop} (h:∀ {a0 a1 a2:AV} {M:RM} {Q:aj},W a0 a1 a2 M Q→av f [a0,a1,a2] M Q) : ∀ args M Q,(∃ a0 a1 a2,args=[a0,a1,a2]∧W a0 a1 a2 M Q)→av f args M Q:=by
 rintro args M Q ⟨a0,a1,a2,rfl,k⟩; exact h k
section
variable {w0:World} {hi:Iv w0}
theorem Dt:Ua (FV Tryz.prog 135):=by
 intro v M Q hQ
 exact .inr (.inr (.inl ⟨⟨Tryz.f135,by kernel_rfl,by kernel_rfl,by kernel_rfl,by kernel_rfl⟩,v,rfl,hQ⟩))
theorem check:yN 122 (av 107):=by
 intro x0 x1 x2 x3 x4 x5 x6 x7 x8
 refine dO nR _ _ _ ?_
 apply (Qt Dt) <;> assumption
theorem QB:AU 122 5 (av 69):=by
 intro x0 x1 x2 x3 x4 x5 x6 x7 x8
 refine ek jq _ _ _ ?_
 apply (FU check) <;> assumption
theorem Jl:tL 122 5 (av 69):=by
 intro x0 x1 x2 x3 x4 x5 x6 x7 x8
 refine ek jq _ _ _ ?_
 apply (Ha check) <;> assumption
theorem writeString:pg 122 5 (av 70):=by
 intro x0 x1 x2 x3 x4 x5 x6 x7 x8
 refine ek iU _ _ _ ?_
 apply (EM check) <;> assumption
theorem LH:vF 122 5 (av 70):=by
 intro x0 x1 x2 x3 x4 x5 x6 x7 x8
 refine ek iU _ _ _ ?_
 apply (D8 check) <;> assumption
theorem DC:uq 122 5 (av 71):=by
 intro x0 x1 x2 x3 x4 x5 x6 x7
 refine dO qa _ _ _ ?_
 apply NU <;> assumption
theorem Rq {x:UInt8} : Vl.Hl x (av 114):=by
 intro x0 x1 x2 x3
 refine ek nL _ _ _ ?_
 apply (Np Ul) <;> assumption
theorem index:Vl.Tv (av 114):=fun h=>Rq h
theorem abv:Vl.xV (av 89):=by
 intro x0 x1 x2 x3 x4
 refine ek jE _ _ _ ?_
 apply (J4 index) <;> assumption
theorem cut:Vl.xV (av 54):=by
 intro x0 x1 x2 x3 x4
 refine ek qc _ _ _ ?_
 apply (Vl.EH abv) <;> assumption
theorem hasSuffix:Al (av 115):=by
 intro x0 x1 x2 x3 x4
 refine ek mf _ _ _ ?_
 apply IG <;> assumption
theorem Zk:Dn (av 90):=by
 intro x0 x1 x2 x3 x4
 refine ek lV _ _ _ ?_
 apply (Hg hasSuffix) <;> assumption
theorem trimS:Dn (av 55):=by
 intro x0 x1 x2 x3 x4
 refine ek sG _ _ _ ?_
 apply (Sz Zk) <;> assumption
theorem Xk:EQ 9 3 (av 31):=by
 intro x0 x1 x2 x3 x4
 refine dO zQ _ _ _ ?_
 apply (KX cut trimS) <;> assumption
theorem piece:Nz (base w0 hi) (av 77):=by
 intro x0 x1 x2 x3 x4 x5 x6 x7
 refine ek Br _ _ _ ?_
 apply (QY decode) <;> assumption
theorem fold:Ug (base w0 hi) (av 43):=by
 intro M s Q h1 h2 h3
 exact CV (RV (T8:=5) (piece (hi:=hi)) writeString DC h1 h2 h3)
theorem Y7 {x:UInt8} : Ar x (av 89):=by
 intro x0 x1 x2 x3 x4
 refine ek jE _ _ _ ?_
 apply (HV Rq) <;> assumption
theorem XK {x:UInt8} : Ar x (av 54):=by
 intro x0 x1 x2 x3 x4
 refine ek qc _ _ _ ?_
 apply (Sd Y7) <;> assumption
theorem Ot:nC (av 94):=by
 intro x0 x1 x2 x3 x4 x5
 refine ek iF _ _ _ ?_
 apply Fq <;> assumption
theorem IM:nC (av 58):=by
 intro x0 x1 x2 x3 x4 x5
 refine ek tT _ _ _ ?_
 apply (NW Ot) <;> assumption
theorem plain:KL (av 97):=by
 intro x0 x1 x2 x3
 refine dO Bz _ _ _ ?_
 apply QU <;> assumption
theorem YK:Ms (av 93):=by
 intro x0 x1 x2 x3 x4
 refine dO BA _ _ _ ?_
 apply Qe <;> assumption
theorem Qp:jR (av 65):=by
 intro x0 x1 x2 x3 x4 x5
 refine ek iB _ _ _ ?_
 apply (Bn Ot) <;> assumption
theorem BV:jR (av 35):=by
 intro x0 x1 x2 x3 x4 x5
 refine ek mF _ _ _ ?_
 apply (Im Qp) <;> assumption
theorem aaZ:Vd (av 94):=by
 intro x0 x1 x2 x3 x4
 refine ek iF _ _ _ ?_
 apply JY <;> assumption
theorem XC:uh (av 65):=by
 intro x0 x1 x2 x3 x4
 refine ek iB _ _ _ ?_
 apply (Fh aaZ) <;> assumption
theorem XB:uh (av 35):=by
 intro x0 x1 x2 x3 x4
 refine ek mF _ _ _ ?_
 apply (Oh XC) <;> assumption
theorem wE:nG (base w0 hi) (av 61):=by
 intro x0 x1 x2 x3 x4 x5 x6
 refine ek vY _ _ _ ?_
 apply (Hu plain Qz valid) <;> assumption
theorem EW:rT (base w0 hi) bX (av 59):=by
 intro x0 x1 x2 x3 x4 x5
 refine dO xP _ _ _ ?_
 apply (JU trim) <;> assumption
theorem word:Kt (base w0 hi) (av 57):=by
 intro x0 x1 x2 x3 x4 x5
 refine dO Ca _ _ _ ?_
 apply (Rx YK trimLeft) <;> assumption
theorem value:MZ (base w0 hi) (av 96):=by
 intro x0 x1 x2 x3 x4 x5
 refine dO Bv _ _ _ ?_
 apply (PG BV XK wE Z4) <;> assumption
theorem params:Iz (base w0 hi) bX 114 (av 60):=by
 intro x0 x1 x2 x3 x4 x5 x6
 refine dO A7 _ _ _ ?_
 apply (Oe IM word EW value) <;> assumption
theorem Y9:XZ (base w0 hi) bX (av 32):=by
 intro x0 x1 x2 x3 x4 x5 x6
 refine dO BS _ _ _ ?_
 apply (Vl.CK (TP:=114) valid word IM EW params wE) <;> assumption
theorem readAll:u6 (base w0 hi) bX (av 17):=by
 intro x0 x1 x2 x3 x4 x5 x6
 refine dO CS _ _ _ ?_
 apply (MV Xk Y9) <;> assumption
theorem great:Nn (av 76):=by
 intro x0 x1 x2 x3 x4
 refine dO Bt _ _ _ ?_
 apply Qd <;> assumption
theorem abe:VP (base w0 hi) (av 72):=by
 intro x0 x1 x2 x3 x4 x5
 refine ek lF _ _ _ ?_
 apply (UU Z4) <;> assumption
theorem ZU:PL (base w0 hi) (av 72):=by
 intro x0 x1 x2 x3 x4 x5
 refine ek lF _ _ _ ?_
 apply (T9 ia4) <;> assumption
theorem aaJ:VK (base w0 hi) (av 75):=by
 intro x0 x1 x2 x3 x4 x5
 refine dO AL _ _ _ ?_
 apply (Qa wE) <;> assumption
theorem XQ:IP (base w0 hi) 75 (av 109):=by
 intro x0 x1 x2 x3 x4 x5 x6 x7 x8
 refine ek vJ _ _ _ ?_
 apply (J7 (n:=75) (cv:=av) aaJ) <;> assumption
theorem XF:Ib (base w0 hi) 75 (av 74):=by
 intro x0 x1 x2 x3 x4 x5 x6 x7 x8
 refine ek rH _ _ _ ?_
 apply (EE XQ) <;> assumption
theorem Zu:ME (base w0 hi) bX (av 41):=by
 intro x0 x1 x2 x3 x4 x5 x6 x7 x8 x9
 refine dO BZ _ _ _ ?_
 apply (Vl.BU EW wE XF) <;> assumption
theorem ZJ:PD (base w0 hi) (av 42):=by
 intro x0 x1 x2 x3 x4 x5 x6 x7 x8 x9 x10
 refine dO BC _ _ _ ?_
 apply (Ud LH great QB abe DC) <;> assumption
theorem TN:Gh (base w0 hi) (fV bX) (av 22):=by
 intro x0 x1 x2 x3 x4 x5 x6 x7 x8 x9 x10
 refine dO Bl _ _ _ ?_
 apply (QE Zu ZJ fold) <;> assumption
theorem X3:Rf (av 38):=by
 intro x0 x1 x2 x3 x4
 refine dO zM _ _ _ ?_
 apply (NE Jl writeString DC) <;> assumption
theorem Yn:Mv (N .i64 14) (N .i64 0) (av 40):=by
 intro x0 x1 x2 x3 x4
 refine dO xI _ _ _ ?_
 apply (JV Jl Qz DC) <;> assumption
theorem V4:Kw (av 29):=by
 intro x0 x1 x2 x3
 refine dO xA _ _ _ ?_
 apply RD <;> assumption
theorem Wo:Ka (av 37):=by
 intro x0 x1 x2 x3
 refine dO Ap _ _ _ ?_
 apply RL <;> assumption
theorem XT:QK (base w0 hi) (av 30):=by
 intro x0 x1 x2 x3 x4 x5 x6
 refine ek xM _ _ _ ?_
 apply (UT itoa) <;> assumption
theorem YH:Nq (base w0 hi) (av 39):=by
 intro x0 x1 x2 x3 x4 x5 x6 x7 x8 x9 x10
 refine dO Bw _ _ _ ?_
 apply (QQ ZU) <;> assumption
theorem Ro:FT (base w0 hi) (av 21):=by
 intro x0 x1 x2 x3 x4 x5 x6 x7 x8 x9 x10
 refine dO BO _ _ _ ?_
 apply (Uc YH Wo Yn X3) <;> assumption
theorem SI:GJ (base w0 hi) (av 16):=by
 intro x0 x1 x2 x3 x4 x5 x6 x7 x8 x9 x10 x11
 refine ek BB _ _ _ ?_
 apply (Q6 TN V4 Ro XT) <;> assumption
theorem foldEq:Hr (base w0 hi) (av 62):=by
 intro x0 x1 x2 x3 x4 x5
 refine ek tJ _ _ _ ?_
 apply (Oc YC Yq) <;> assumption
theorem Yt:Ny (base w0 hi) (av 33):=by
 intro x0 x1 x2 x3 x4 x5 x6 x7 x8 x9 x10
 refine ek yI _ _ _ ?_
 apply (PS foldEq) <;> assumption
theorem YF:Lr (base w0 hi) (av 66):=by
 intro x0 x1 x2 x3 x4 x5
 refine dO Cn _ _ _ ?_
 apply (Q9 trimLeft) <;> assumption
theorem ZP:QC (base w0 hi) (av 67):=by
 intro x0 x1 x2 x3 x4 x5
 refine dO Bq _ _ _ ?_
 apply (SG BV XK ia4) <;> assumption
theorem unC:X7 (base w0 hi) (av 36):=by
 intro x0 x1 x2 x3 x4 x5
 refine dO yH _ _ _ ?_
 apply (WB YF BV IM ZP atoi) <;> assumption
theorem Wu:Kb (base w0 hi) (av 20):=by
 intro x0 x1 x2 x3 x4 x5 x6
 refine dO CR _ _ _ ?_
 apply (Tx XB unC Wo X3 SI) <;> assumption
theorem RJ:Gq (base w0 hi) (av 15):=by
 intro x0 x1 x2 x3 x4 x5 x6
 refine dO Ce _ _ _ ?_
 apply (Qw Wu) <;> assumption
theorem Ue:Kc (base w0 hi) (av 11):=by
 intro x0 x1 x2 x3 x4 x5 x6
 refine dO BK _ _ _ ?_
 apply (Vc.BU RJ) <;> assumption
theorem X6:PR (base w0 hi) (av 10):=by
 intro x0 x1 x2 x3 x4 x5 x6 x7 x8 x9 x10
 refine dO A9 _ _ _ ?_
 apply (U7 Wu Ue Ro TN) <;> assumption
theorem abo:Vc.xV (base w0 hi) (av 18):=by
 intro x0 x1 x2 x3 x4 x5 x6 x7 x8 x9 x10
 refine dO D6 _ _ _ ?_
 apply (Vc.EH Yt V4) <;> assumption
theorem Xy:Sha.Mt 5 (av 103):=by
 intro x0 x1 x2 x3 x4 x5 x6
 refine dO Cq _ _ _ ?_
 apply Sha.Qg <;> assumption
theorem ZG:Sha.U2 (av 149):=by
 intro x0 x1 x2 x3 x4 x5
 refine ek pQ _ _ _ ?_
 apply Sha.UN <;> assumption
theorem Yc:Sha.Pz .i64 (av 126):=by
 intro x0 x1 x2 x3 x4 x5
 refine ek Ey _ _ _ ?_
 apply (Sha.Ru ZG) <;> assumption
theorem XL:Sha.Q3 144 147 (av 102):=by
 intro x0 x1 x2 x3 x4 x5 x6 x7 x8 x9 x10 x11 x12 x13 x14 x15 x16 x17
 refine Zh xE _ _ _ ?_
 apply (Sha.TH Yc) <;> assumption
theorem WX:Sha.yQ Sha.kW (av 100):=by
 intro x0 x1 x2
 refine QH yA _ _ _ ?_
 apply Sha.Iq <;> assumption
theorem Xj:Sha.yQ Sha.hW (av 101):=by
 intro x0 x1 x2
 refine QH D7 _ _ _ ?_
 apply Sha.Qn <;> assumption
theorem ZM:Sha.VL (av 64):=by
 intro x0 x1 x2 x3 x4 x5 x6
 refine dO F5 _ _ _ ?_
 apply (Sha.Vm WX Xj XL Xy) <;> assumption
theorem Y4:Sha.Qs (av 63):=by
 intro x0 x1 x2 x3 x4
 refine dO Gg _ _ _ ?_
 apply Sha.Tj <;> assumption
theorem ZO:QS (base w0 hi) (av 34):=by
 intro x0 x1 x2 x3 x4 x5 x6 x7 x8 x9
 refine ek yY _ _ _ ?_
 apply (TG (B:=base w0 hi) ZM Y4) <;> assumption
theorem Zn:Re (base w0 hi) (av 19):=by
 intro x0 x1 x2 x3 x4 x5 x6 x7 x8 x9 x10 x11 x12
 refine dO BF _ _ _ ?_
 apply (Vc.CK Ro XT (ZO (hi:=hi))) <;> assumption
theorem Yv:Ip (base w0 hi) (av 9):=by
 intro x0 x1 x2 x3 x4 x5 x6 x7
 refine dO zO _ _ _ ?_
 apply (VN readAll abo Zn) <;> assumption
theorem awake:Yl (base w0 hi) (av 8):=by
 intro x0 x1 x2 x3
 refine QH Bu _ _ _ ?_
 apply (PQ Yv X6 RJ SI Ue) <;> assumption
end
end Go.Proofs.YtoikjkmmdpdkbaaGreatDoor.vcl
namespace Go.Proofs
open Go.RowKit Go.Shelf
def Tryz.lays260_ren:Go.Shelf.Ren:=⟨fun | 260=>123 | n=>n,fun | 9=>9 | 21=>21 | 3=>3 | 4=>4 | 5=>5 | 119=>135 | 0=>0 | 46=>139 | 139=>138 | 138=>137 | n=>n,fun | 3=>0 | 4=>1 | n=>n⟩
theorem Tryz.lays260:Go.Proofs.Lays.n260 Tryz.prog Tryz.lays260_ren where
 mixed:=by kernel_rfl
 f260:=Tryz.func123.trans (congrArg some (by kernel_rfl))
 t0:=Tryz.underlying0
 a0:=Tryz.isAgg0
 z0:=Tryz.sizeOf0
 v0:=Tryz.zeroValue0
 t3:=Tryz.underlying3
 a3:=Tryz.isAgg3
 z3:=Tryz.sizeOf3
 v3:=Tryz.zeroValue3
 t4:=Tryz.underlying4
 a4:=Tryz.isAgg4
 z4:=Tryz.sizeOf4
 v4:=Tryz.zeroValue4
 t5:=Tryz.underlying5
 a5:=Tryz.isAgg5
 z5:=Tryz.sizeOf5
 v5:=Tryz.zeroValue5
 t9:=Tryz.underlying9
 a9:=Tryz.isAgg9
 z9:=Tryz.sizeOf9
 v9:=Tryz.zeroValue9
 t21:=Tryz.underlying21
 a21:=Tryz.isAgg21
 z21:=Tryz.sizeOf21
 v21:=Tryz.zeroValue21
 t46:=Tryz.underlying139
 a46:=Tryz.isAgg139
 z46:=Tryz.sizeOf139
 v46:=Tryz.zeroValue139
 t119:=Tryz.underlying135
 a119:=Tryz.isAgg135
 z119:=Tryz.sizeOf135
 t138:=Tryz.underlying137
 a138:=Tryz.isAgg137
 z138:=Tryz.sizeOf137
 v138:=Tryz.zeroValue137
 t139:=Tryz.underlying138
 a139:=Tryz.isAgg138
 z139:=Tryz.sizeOf138
 v139:=Tryz.zeroValue138
 g3:=by kernel_rfl
 g4:=by kernel_rfl
end Go.Proofs
namespace Go.Proofs.YtoikjkmmdpdkbaaGreatDoor.vcl
open Go Go.Ab Go.RowKit Go.Proofs Go.Lib
open Go.Proofs.YtoikjkmmdpdkbaaGreatDoor
theorem lC {P:Program} {n:String} {d:DataW Unit} {r:List (String × DataW Unit)} {w:World} (h:laidMet P ((n,d) :: r) w) : laidMet P r w:=by
 obtain⟨ps,⟨g,t,cs,fuel,p,q,_,_,_,_,hs,rfl⟩,hnd,hall⟩:=h
 exact⟨q,hs,(List.nodup_append.1 hnd).2.1,fun b off hm=>hall b off (by simp[hm])⟩
theorem yV {P:Program} {w:World} {n:String} {d:DataW Unit} {g t:Nat} {ms:Array (String × TypeId)} (hg:P.globalNamed n=some g) (ht:(P.globals[g]?).map (·.type)=some t) (hu:P.underlying t=some (.interface ms))
  (h:VarReads P w n d) : ∃ ev,w.cell? ⟨g,0,none⟩=some ev∧(ev=.nilIface∨∃ te pe,ev=.iface te pe):=by
 obtain⟨g',t',cs,fuel,p,hg',ht',hvar,hd⟩:=h
 obtain rfl:=Option.some.inj (hg.symm.trans hg')
 obtain rfl:=Option.some.inj (ht.symm.trans ht')
 have hc:=World.var?_cell hg hvar 0
 cases fuel with
 | zero=>simp[DataW.trod] at hd
 | succ fuel =>
   have hl:cs[0]?=cs.toList[0]?:=by simp
   rw[hl] at hc
   unfold DataW.trod at hd
   simp only[hu] at hd
   generalize cs.toList=l at hc hd
   cases l with
   | nil=>simp at hd
   | cons v r =>
     cases r with
     | cons _ _=>simp at hd
     | nil =>
       refine⟨v,hc, ?_⟩
       cases v with
       | nilIface=>exact .inl rfl
       | iface te pe=>exact .inr ⟨te,pe,rfl⟩
       | _=>simp at hd
theorem WK:Rows.vcardKnownRow.laid=("math/bits.deBruijn32tab",Rows.laid_math_bits_deBruijn32tab) :: ("math/bits.deBruijn64tab",Rows.laid_math_bits_deBruijn64tab) :: ("internal/strconv.uint64pow10",Lib.tabData .u64 Lib.pow10Tab) ::
  ("unicode/utf8.acceptRanges",Lib.acceptData) :: ("strconv.ErrRange",Rows.laid_strconv_ErrRange) :: ("strconv.ErrSyntax",Rows.laid_strconv_ErrSyntax) :: ("unicode.asciiFold",Lib.tabData .u16 Ij) ::
  ("unicode.caseOrbit",Rows.laid_unicode_caseOrbit) :: ("unicode.CaseRanges",Rows.laid_unicode_CaseRanges) :: ("unicode/utf8.first",Lib.firstData) :: []:=by kernel_rfl
theorem inv_of (w:World) (h:laidMetH Tryz.prog Rows.vcardKnownRow.laid w) : Iv w:=by
 rw[MakeChecks.laidMetH_plain _ _ _ (by kernel_rfl),WK] at h
 refine⟨?_, ?_, ?_, ?_, ?_⟩
 ·exact utf8Tabs_of_reads (ρ:=Tryz.lays260_ren) Tryz.lays260 ⟨by kernel_rfl,by kernel_rfl,by kernel_rfl,by kernel_rfl,by kernel_rfl,by kernel_rfl,by kernel_rfl⟩
   (Lib.laidMet.reads h (.tail _ (.tail _ (.tail _ (.tail _ (.tail _ (.tail _ (.tail _ (.tail _ (.tail _ (.head _))))))))))) (Lib.laidMet.reads h (.tail _ (.tail _ (.tail _ (.head _)))))
 ·exact Lib.tabIs_of_head (g:=8) (t:=216) (e:=152) (n:=20) Vy (by kernel_rfl) (by kernel_rfl) (by kernel_rfl) (by kernel_rfl) (by kernel_rfl) (lC (lC h))
 ·exact Lib.tabIs_of_head (g:=2) (t:=170) (e:=169) (n:=128) Kg (by kernel_rfl) (by kernel_rfl) (by kernel_rfl) (by kernel_rfl) (by kernel_rfl) (lC (lC (lC (lC (lC (lC h))))))
 ·exact yV (n := "strconv.ErrSyntax") (t:=117) (by kernel_rfl) (by kernel_rfl) Tryz.underlying117 (Lib.laidMet.reads h (.tail _ (.tail _ (.tail _ (.tail _ (.tail _ (.head _)))))))
 ·exact yV (n := "strconv.ErrRange") (t:=117) (by kernel_rfl) (by kernel_rfl) Tryz.underlying117 (Lib.laidMet.reads h (.tail _ (.tail _ (.tail _ (.tail _ (.head _))))))
end Go.Proofs.YtoikjkmmdpdkbaaGreatDoor.vcl
namespace Go.Proofs.YtoikjkmmdpdkbaaGreatDoor.vcl
open Go Go.Ab Go.Ab.Vl Go.Ab.Vc Go.RowKit
theorem zD {H:Type} : ∀ {ds:List (DataW H)} {d:DataW H},d∈ds→Rows.uptoBulk d≤Rows.uptoBulkAll ds
 | [],_,h=>by cases h
 | x :: ds,d,h=>by
   simp only[Rows.uptoBulkAll]
   rcases List.mem_cons.1 h with rfl | h
   ·omega
   ·have:=zD h; omega
theorem U4 {H:Type} (d:DataW H) : 1≤Rows.uptoBulk d:=by
 cases d with
 | lit l=>cases l <;> simp[Rows.uptoBulk]
 | _=>simp[Rows.uptoBulk]
theorem Lb {H:Type} : ∀ (ds:List (DataW H)),ds.length≤Rows.uptoBulkAll ds
 | []=>by simp
 | d :: ds=>by
   have h1:=U4 d
   have h2:=Lb ds
   simp only[Rows.uptoBulkAll,List.length_cons]
   omega
theorem TW {H:Type} : Nk (H:=H) Rows.uptoBulk where
 str bs:=by simp[Rows.uptoBulk]
 len es sp:=by have:=Lb es; simp only[Rows.uptoBulk]; omega
 elem es sp d h:=by have:=zD h; simp only[Rows.uptoBulk]; omega
 spare es sp d h:=by have:=zD h; simp only[Rows.uptoBulk]; omega
 agg ps d h:=by have:=zD h; simp only[Rows.uptoBulk]; omega
theorem XJ:Tryz.prog.cellsOf 9=1:=by kernel_rfl
theorem IC:Tryz.prog.cellsOf 30=2:=by kernel_rfl
theorem SS {B:Nat} {M:RM} {cs:List AV} (h:fu B Tryz.prog M 31 cs) : ∃ v,∃ l:List Vc.Fd,cs=[v]∧Sl nH M v l∧l.length≤B∧∀ p∈l,p.1.length≤B∧p.2.length≤B:=by
 obtain⟨v,n,ds,rfl,hs,hb,_,he⟩:=h.Sk Tryz.underlying31 (by rw[IC]; decide)
 rw[IC] at hs he
 obtain⟨xs,rfl,rfl,hp⟩:=IW (size:=2) nH.cells (fun p:Vc.Fd=>p.1.length≤B∧p.2.length≤B) (fun _=>rfl) n ds hs.length fun i hi=>by
  obtain⟨hl,hf⟩:=(he i hi).QI Tryz.underlying30
  rw[IC] at hl
  generalize ((ds.drop (i * 2)).take 2)=cs at *
  match cs,hl with
  | [a,b],_ =>
    have f0:fu B Tryz.prog M 9 (([a,b].drop 0).take (Tryz.prog.cellsOf 9)):=hf 0 _ rfl
    have f1:fu B Tryz.prog M 9 (([a,b].drop 1).take (Tryz.prog.cellsOf 9)):=hf 1 _ rfl
    rw[XJ] at f0 f1
    obtain⟨s,e0,h0⟩:=f0.Il Tryz.underlying9
    obtain⟨u,e1,h1⟩:=f1.Il Tryz.underlying9
    cases e0; cases e1
    exact⟨(s,u),⟨h0,h1⟩,rfl⟩
 exact⟨v,xs,rfl,hs,hb,hp⟩
end Go.Proofs.YtoikjkmmdpdkbaaGreatDoor.vcl
namespace Go.Proofs.YtoikjkmmdpdkbaaGreatDoor.vcardSame
open Go Go.Ab Go.ChangeShapes Go.WideShapes Go.ChangeAt Go.RowKit
theorem own:ownKnob Tryz.prog.godebug=none:=by kernel_rfl
open Go.Ab.Vl Go.Ab.Vc Go.Proofs.YtoikjkmmdpdkbaaGreatDoor.vcl
def Inv (w:World) : Prop:=Iv w
theorem inv_of (w:World) (h:laidMetH Tryz.prog Rows.vcardSameUptoRow.laid w) : Inv w:=vcl.inv_of w h
theorem walk (w:World) (hi:Inv w) (v0 v1:Value) (h0:vG 1048576 Tryz.prog (RM.old (base w hi) w) 31 (xG w.heap.size v0)) (h1:vG 1048576 Tryz.prog (RM.old (base w hi) w) 9 (xG w.heap.size v1)) :
  Calls Tryz.prog 7 #[v0,v1] w fun e w'=>e=.returned (.bool true)∧Below w.heap.size w w':=by
 obtain⟨u,l,e0,hs,hl,hp⟩:=SS (h0.one (by kernel_rfl))
 obtain⟨s,e1,_⟩:=(h1.one (by kernel_rfl)).Il Tryz.underlying9
 refine eU.close (base:=base w hi) rfl hi ?_
 simp only[List.map_cons,List.map_nil]
 rw[show xG (base w hi).n v0=u from(List.cons.inj e0).1,show xG (base w hi).n v1=St s from(List.cons.inj e1).1]
 exact vZ (Jv (awake (hi:=hi)) X6 Yv rfl hs (by omega) (fun p h=>by have:=hp p h; omega) fun M' _=>rfl)
set_option maxRecDepth 100000 in
theorem lifted (os:Os) (started:os.Started) (H:Type) (enc:TypeId × Value→H) (F:Stop.Interp) :
  ReturnsInHanded {} Tryz.checked os 7 .any ((Rows.OpenSpec.upto Rows.vcardSameSpec).preRow enc Tryz.prog Tryz.f7 Rows.vcardSameUptoRow.domain false Rows.vcardSameUptoRow.laid) (((Rows.OpenSpec.upto Rows.vcardSameSpec).at F).post enc Tryz.prog Tryz.f7 false true false false):=by
 refine returnsInHanded_of_row (C:=Tryz.checked) (s:=Rows.OpenSpec.upto Rows.vcardSameSpec) own started (by kernel_rfl) Tryz.func7
  (witness_row_atRef (enc:=enc) (C:=Tryz.checked) false (World.laidAll Tryz.prog os Rows.vcardSameUptoRow.laid) #[.slice none 0 0,.string ⟨#[]⟩] (World.laidAll_os _ _ _) (by kernel_rfl) (by kernel_rfl) (by kernel_rfl)
   (OpenSpec.preRow_of_cond 8 (x:=([.nil,.lit (.string [])],[],[])) (by kernel_rfl) (by kernel_rfl) (fun k hk=>by cases hk; kernel_rfl) (by kernel_rfl) (by rw[MakeChecks.laidMetH_plain _ _ _ (by kernel_rfl)]; exact laidMet_laidAll _ (by kernel_rfl) (by kernel_rfl)))) ?_
 intro W b0 args ds gs before hval hW hcnd hcond hwt hL hsh _
 have hW':=hW
 obtain⟨p,q,hA,hV,rfl,hfz,hnd⟩:=hW
 rw[Tryz.params7] at hA
 have hi:Inv W:=inv_of W hL
 obtain⟨rfl,rfl⟩:=trodVars_none hV
 have hkk:=hcond _ rfl
 simp only[List.append_nil] at hW' hkk
 have hlt:∀ x∈p,x.block<W.heap.size:=fun x hx=>hW'.lt x hx
 have hva:∀ (j:Nat) t v,([31,9] : List TypeId)[j]?=some t→args[j]?=some v→Value.okWide Tryz.prog W .any b0 t v:=fun j t v hj hv=>hval j t v (by rw[Tryz.params7]; simpa using hj) hv
 obtain⟨v0,v1,d0,d1,p0,p1,rfl,rfl,rfl,h0,h1⟩:=trodAll_two hA
 have ZK:Rows.uptoBulkAll [d0,d1]≤1048576:=of_decide_eq_true hkk
 simp only[Rows.uptoBulkAll] at ZK
 refine(walk W hi v0 v1 (Jh (base:=base W hi) TW rfl (hva 0 _ _ rfl rfl) h0 (by omega)) (Jh (base:=base W hi) TW rfl (hva 1 _ _ rfl rfl) h1 (by omega))).mono fun e W' ⟨he,hg⟩=>?_
 subst he
 exact⟨_,rfl,JW (pa:=_) (pv:=[]) hW' (fun _ _ _=>(trodAll_cons_mk (shut_bool Tryz.underlying4 _) trodAll_mk0)) (fun sp hsp=>by
   rw[Tryz.params7]
   exact Be (by kernel_rfl) hg (fun t ht=>by
    have ht:t=31∨t=9:=by simpa using ht
    rcases ht with rfl | rfl <;> exact⟨by kernel_rfl,of_decide_eq_true (by kernel_rfl)⟩) hA hlt hsp) (fun _ _=>rfl) (by simp)
  hg (ok_one (by kernel_rfl) rfl (okWide_bool_mk Tryz.underlying4 _))⟩
theorem over:Rows.VcardSameUptoSaid :=
 OpenClaim.holds_of_cond 7 Tryz.f7 rfl rfl rfl rfl rfl rfl rfl ⟨rfl,rfl,rfl,rfl,rfl⟩ rfl rfl rfl rfl rfl (by kernel_rfl) Tryz.func7 (by kernel_rfl)
  (of_decide_eq_true (by kernel_rfl)) (by unfold Func.isWrapper; first | (rw[if_pos (by decide +kernel)]; kernel_rfl) | (rw[if_neg (by decide +kernel)]; exact⟨rfl,rfl⟩))
  (fun os started H enc _ F=>by rw[OpenClaim.pre_eq_preRow]; exact lifted os started H enc F)
theorem proved:Rows.VcardSameUptoCardSaid :=
 Claim7.holds_tied_plain_at .later [] _ _ _ _
  over (fun _ h=>by cases h) (by kernel_rfl) (fun _ h=>by cases h) vcardSameUpto_row_tie rfl ⟨rfl,rfl⟩ (by kernel_rfl) rfl
  (fun f fn hf hfn=>by
   obtain rfl:f=7:=Option.some.inj ((show Tryz.prog.funcNamed "rolodex/rolodexlaw24.VcardSame" = some 7 by kernel_rfl).symm.trans hf) |>.symm
   obtain rfl:fn=Tryz.f7:=(Option.some.inj (Tryz.func7.symm.trans hfn)).symm
   exact⟨by kernel_rfl,fun j t ht=>by
    rw[Tryz.params7] at ht
    have hm:=Array.mem_of_getElem? ht
    have hm:t=31∨t=9:=by simpa using hm
    rcases hm with rfl | rfl
    ·exact(by kernel_rfl:Tryz.prog.wantsStandIn 31=false)
    ·exact(by kernel_rfl:Tryz.prog.wantsStandIn 9=false)⟩)
  (by kernel_rfl)
end Go.Proofs.YtoikjkmmdpdkbaaGreatDoor.vcardSame
