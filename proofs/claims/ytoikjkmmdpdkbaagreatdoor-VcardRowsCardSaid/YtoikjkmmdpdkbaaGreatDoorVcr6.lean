/- 'VcardRows' returns true, in whatever world it is called. By an AI agent. -/
import Derived.Test.YtoikjkmmdpdkbaaGreatDoorVcr5
import Derived.KernelRfl
import Derived.Test.YtoikjkmmdpdkbaaGreatDoorProg
import Derived.Lib.LaidTab
import Derived.Lib.LaidU8
import Derived.Shelf.Vars
import Derived.Shelf.LaysC
import Derived.Shelf.Unicode.ValidAny
import Derived.Shelf.Unicode.DecodeAny
import Derived.Shelf.Strings.SlTrimAscii
import Derived.Shelf.Strings.IndexAnyAll
import Derived.Shelf.Strconv.Itoa3
import Derived.Shelf.Strconv.AtoiAll
import Derived.WalkKit
import Derived.Below
import Derived.ProofKit
import Derived.Test.YtoikjkmmdpdkbaaGreatDoorRows
import Derived.LaidMore
import Derived.Lay
import Derived.Test.YtoikjkmmdpdkbaaGreatDoorTie
import Derived.Test.YtoikjkmmdpdkbaaGreatDoorCards
import Derived.Carry
import Derived.OpenShut
import Derived.SevenTiedAt
import Derived.Stop.Joined
set_option maxRecDepth 100000
set_option linter.unusedVariables false
set_option linter.unusedSimpArgs false
namespace Go.Proofs.YtoikjkmmdpdkbaaGreatDoor
open Go Go.Ab
abbrev av := @dW Tryz.prog
theorem XD:BL Tryz.prog:=⟨Sn (by kernel_rfl),by kernel_rfl⟩
theorem bn {f:FuncId} {fn:Func} {args:List AV} {M:RM} {Q:ai} {B:Prop} (h:B) (hfn:Tryz.prog.funcs[f]?=some fn:=by kernel_rfl) (e:B=Gp Tryz.prog fn args M Q:=by kernel_rfl) : av f args M Q:=QH XD hfn (e▸h)
variable {a0 a1 a2 a3 a4 a5 a6 a7:AV} {M:RM} {Q:ai}
theorem uM (h:Go.Ab.Vc.mX (av 8) (av 9) 33 a0 a1 M Q) : av 6 [a0,a1] M Q:=bn (fn:=Tryz.f6) h
theorem Ae (h:Go.Ab.Vc.qN (av 9) (av 10) (av 15) 48 (av 16) 30 (av 11)  M Q) : av 8 [] M Q:=bn (fn:=Tryz.f8) h
theorem zB (h:Go.Ab.Vc.pX (av 17) (av 18) (av 19) 33 a0 M Q) : av 9 [a0] M Q:=bn (fn:=Tryz.f9) h
theorem yF (h:Go.Ab.Vc.pK 33 30 (av 20) 48 (av 11) (av 21) (av 22) a0 M Q) : av 10 [a0] M Q:=bn (fn:=Tryz.f10) h
theorem Bu (h:Go.Ab.Vc.uA 30 (av 15) 48 a0 M Q) : av 11 [a0] M Q:=bn (fn:=Tryz.f11) h
theorem AZ (h:Go.Ab.Vc.uI 30 48 (av 20) a0 M Q) : av 15 [a0] M Q:=bn (fn:=Tryz.f15) h
theorem Ad (h:Go.Ab.Vc.qK 48 30 (av 22) (av 29) (av 21) (av 30) a0 a1 M Q) : av 16 [a0,a1] M Q:=bn (fn:=Tryz.f16) h
theorem Bd (h:Go.Ab.Vl.sQ (av 31) (av 32) 48 a0 M Q) : av 17 [a0] M Q:=bn (fn:=Tryz.f17) h
theorem CL (h:Go.Ab.Vc.wF 48 (av 33) (av 29) 53 a0 M Q) : av 18 [a0] M Q:=bn (fn:=Tryz.f18) h
theorem Ap (h:Go.Ab.Vc.tK 33 48 (av 21) 30 (av 30) (av 34) a0 M Q) : av 19 [a0] M Q:=bn (fn:=Tryz.f19) h
theorem Bb (h:Go.Ab.Vc.tC 30 48 (av 35) (av 36) (av 37) (av 38) (av 16) a0 M Q) : av 20 [a0] M Q:=bn (fn:=Tryz.f20) h
theorem Bw (h:Go.Ab.Vc.sV 48 30 (av 39) (av 37) (av 40) (av 38) a0 M Q) : av 21 [a0] M Q:=bn (fn:=Tryz.f21) h
theorem Ai (h:Go.Ab.Vl.qO 48 (av 41) (av 42) (av 43) a0 M Q) : av 22 [a0] M Q:=bn (fn:=Tryz.f22) h
theorem wB (h:Go.Ab.Vc.nP a0 M Q) : av 29 [a0] M Q:=bn (fn:=Tryz.f29) h
theorem vZ (h:Go.Ab.Vc.nJ (av 53) a0 a1 M Q) : av 30 [a0,a1] M Q:=bn (fn:=Tryz.f30) h
theorem xY (h:Go.Ab.Vl.pQ (av 54) (av 55) 9 3 a0 M Q) : av 31 [a0] M Q:=bn (fn:=Tryz.f31) h
theorem BO (h:Go.Ab.Vl.uj 48 (av 56) (av 57) (av 58) (av 59) (av 60) (av 61) a0 M Q) : av 32 [a0] M Q:=bn (fn:=Tryz.f32) h
theorem wU (h:Go.Ab.Vc.oM 48 (av 62) a0 a1 M Q) : av 33 [a0,a1] M Q:=bn (fn:=Tryz.f33) h
theorem wJ (h:Go.Ab.Vc.oG 48 5 (av 64) (av 63) a0 a1 M Q) : av 34 [a0,a1] M Q:=bn (fn:=Tryz.f34) h
theorem lD (h:Go.Ab.Vl.gJ (av 65) a0 a1 M Q) : av 35 [a0,a1] M Q:=bn (fn:=Tryz.f35) h
theorem wH (h:Go.Ab.Vc.oD 48 (av 66) (av 35) (av 58) 114 (av 67) 9 (av 68) a0 M Q) : av 36 [a0] M Q:=bn (fn:=Tryz.f36) h
theorem yZ (h:Go.Ab.Vc.qc a0 M Q) : av 37 [a0] M Q:=bn (fn:=Tryz.f37) h
theorem xN (h:Go.Ab.Vl.pu 122 5 (av 69) (av 70) (av 71) a0 M Q) : av 38 [a0] M Q:=bn (fn:=Tryz.f38) h
theorem Al (h:Go.Ab.Vc.qW 48 114 (av 72) a0 M Q) : av 39 [a0] M Q:=bn (fn:=Tryz.f39) h
theorem vF (h:Go.Ab.Vl.nG 122 (av 69) (av 73) (av 71) a0 M Q) : av 40 [a0] M Q:=bn (fn:=Tryz.f40) h
theorem BC (h:Go.Ab.Vl.uL 48 (av 59) (av 61) 114 (av 74) 75 a0 M Q) : av 41 [a0] M Q:=bn (fn:=Tryz.f41) h
theorem BK (h:Go.Ab.Vl.sS 48 122 (av 70) (av 76) 114 (av 69) (av 72) (av 71) a0 M Q) : av 42 [a0] M Q:=bn (fn:=Tryz.f42) h
theorem Bn (h:Go.Ab.Vl.tu 122 (av 77) (av 70) (av 71) a0 M Q) : av 43 [a0] M Q:=bn (fn:=Tryz.f43) h
theorem oQ (h:Go.Ab.Vl.kY (av 89) a0 a1 M Q) : av 54 [a0,a1] M Q:=bn (fn:=Tryz.f54) h
theorem qP (h:Go.Ab.Vl.kN (av 90) a0 a1 M Q) : av 55 [a0,a1] M Q:=bn (fn:=Tryz.f55) h
theorem AR (h:Go.Ab.Vl.uH (av 93) (av 92) a0 M Q) : av 57 [a0] M Q:=bn (fn:=Tryz.f57) h
theorem rG (h:Go.Ab.Vl.lu (av 94) a0 a1 M Q) : av 58 [a0,a1] M Q:=bn (fn:=Tryz.f58) h
theorem vK (h:Go.Ab.Vl.nH (av 95) a0 M Q) : av 59 [a0] M Q:=bn (fn:=Tryz.f59) h
theorem zK (h:Go.Ab.Vl.pz (av 58) 114 (av 57) (av 59) (av 96) 9 a0 M Q) : av 60 [a0] M Q:=bn (fn:=Tryz.f60) h
theorem uN (h:Go.Ab.Vl.mR 5 (av 97) (av 73) (av 56) a0 a1 M Q) : av 61 [a0,a1] M Q:=bn (fn:=Tryz.f61) h
theorem ru (h:Go.Ab.Vc.lq (av 98) (av 99) a0 a1 M Q) : av 62 [a0,a1] M Q:=bn (fn:=Tryz.f62) h
theorem Eu (h:Go.Ab.Sha.BF 111 5 a0 M Q) : av 63 [a0] M Q:=bn (fn:=Tryz.f63) h
theorem Eh (h:Go.Ab.Sha.BQ 111 (av 100) 144 (av 101) 147 (av 102) (av 103) 5 a0 M Q) : av 64 [a0] M Q:=bn (fn:=Tryz.f64) h
theorem gI (h:Go.Ab.Vl.cZ (av 94) a0 a1 M Q) : av 65 [a0,a1] M Q:=bn (fn:=Tryz.f65) h
theorem BG (h:Go.Ab.Vc.uk (av 92) a0 M Q) : av 66 [a0] M Q:=bn (fn:=Tryz.f66) h
theorem Am (h:Go.Ab.Vc.qU (av 35) (av 54) (av 104) a0 M Q) : av 67 [a0] M Q:=bn (fn:=Tryz.f67) h
theorem iM (h:Go.Ab.Vl.dO (av 107) 5 a0 a1 M Q) : av 69 [a0,a1] M Q:=bn (fn:=Tryz.f69) h
theorem iq (h:Go.Ab.Vl.dH (av 107) 5 a0 a1 M Q) : av 70 [a0,a1] M Q:=bn (fn:=Tryz.f70) h
theorem ol (h:Go.Ab.Vl.iZ 5 a0 M Q) : av 71 [a0] M Q:=bn (fn:=Tryz.f71) h
theorem kE (h:Go.Ab.Vl.fH (av 104) a0 a1 M Q) : av 72 [a0,a1] M Q:=bn (fn:=Tryz.f72) h
theorem rW (h:Go.Ab.Vl.oU (av 108) a0 a1 M Q) : av 73 [a0,a1] M Q:=bn (fn:=Tryz.f73) h
theorem qm (h:Go.Ab.Vl.jX (av 109) a0 a1 M Q) : av 74 [a0,a1] M Q:=bn (fn:=Tryz.f74) h
theorem yB (h:Go.Ab.Vl.pR (av 61) a0 M Q) : av 75 [a0] M Q:=bn (fn:=Tryz.f75) h
theorem Ak (h:Go.Ab.Vl.qV 5 a0 M Q) : av 76 [a0] M Q:=bn (fn:=Tryz.f76) h
theorem Aa (h:Go.Ab.Vl.qX (av 98) a0 a1 M Q) : av 77 [a0,a1] M Q:=bn (fn:=Tryz.f77) h
theorem iX (h:Go.Ab.Vl.dY (av 114) a0 a1 M Q) : av 89 [a0,a1] M Q:=bn (fn:=Tryz.f89) h
theorem lg (h:Go.Ab.Vl.fC (av 115) a0 a1 M Q) : av 90 [a0,a1] M Q:=bn (fn:=Tryz.f90) h
theorem ui (h:Go.Ab.Vl.qx (av 116) (av 117) 164 (av 118) (av 119) a0 a1 M Q) : av 92 [a0,a1] M Q:=bn (fn:=Tryz.f92) h
theorem Ag (h:Go.Ab.Vl.rf 5 a0 M Q) : av 93 [a0] M Q:=bn (fn:=Tryz.f93) h
theorem gK (h:Go.Ab.Vl.cO a0 a1 M Q) : av 94 [a0,a1] M Q:=bn (fn:=Tryz.f94) h
theorem xJ (h:Go.Ab.Vl.xB (av 120) (av 116) (av 117) 164 (av 121) (av 118) (av 122) (av 119) a0 a1 M Q) : av 95 [a0,a1] M Q:=bn (fn:=Tryz.f95) h
theorem Ah (h:Go.Ab.Vl.qM (av 35) (av 54) (av 61) (av 104) a0 M Q) : av 96 [a0] M Q:=bn (fn:=Tryz.f96) h
theorem Af (h:Go.Ab.Vl.qZ a0 M Q) : av 97 [a0] M Q:=bn (fn:=Tryz.f97) h
theorem wZ (h:Go.Ab.Sha.oL 144  M Q) : av 100 [] M Q:=bn (fn:=Tryz.f100) h
theorem CK (h:Go.Ab.Sha.vO 147  M Q) : av 101 [] M Q:=bn (fn:=Tryz.f101) h
theorem wC (h:Go.Ab.Sha.nO 144 (av 126) 147 a0 a1 a2 M Q) : av 102 [a0,a1,a2] M Q:=bn (fn:=Tryz.f102) h
theorem Bv (h:Go.Ab.Dot.tN 5 a0 M Q) : av 103 [a0] M Q:=bn (fn:=Tryz.f103) h
theorem uy (h:Go.Ab.Vl.ma (av 127) (av 128) (av 117) 164 (av 129) a0 a1 M Q) : av 104 [a0,a1] M Q:=bn (fn:=Tryz.f104) h
theorem mZ (h:Go.Ab.Vl.gV (FB Tryz.prog 135) 122 a0 M Q) : av 107 [a0] M Q:=bn (fn:=Tryz.f107) h
theorem lm (h:Go.Ab.Vl.iP (FB Tryz.prog 136) a0 a1 M Q) : av 108 [a0,a1] M Q:=bn (fn:=Tryz.f108) h
theorem uo (h:Go.Ab.Vl.mq (av) a0 a1 M Q) : av 109 [a0,a1] M Q:=bn (fn:=Tryz.f109) h
theorem mQ (h:Go.Ab.Vc.eY (av 108) 5 (FB Tryz.prog 144) (av 145) (av 146) a0 a1 M Q) : av 114 [a0,a1] M Q:=bn (fn:=Tryz.f114) h
theorem lv (h:Go.Ab.Vl.fE a0 a1 M Q) : av 115 [a0,a1] M Q:=bn (fn:=Tryz.f115) h
theorem DU (h:Go.Ab.Sha.xX (av 149) a0 a1 M Q) : av 126 [a0,a1] M Q:=bn (fn:=Tryz.f126) h
theorem rO (h:Go.Ab.Vc.ja (av 73) (av 150) (av 145) a0 a1 M Q) : av 127 [a0,a1] M Q:=bn (fn:=Tryz.f127) h
theorem ny (h:Go.Ab.Vl.kw a0 M Q) : av 128 [a0] M Q:=bn (fn:=Tryz.f128) h
theorem oh (h:Go.Ab.Sha.iQ a0 a1 M Q) : av 149 [a0,a1] M Q:=bn (fn:=Tryz.f149) h
theorem oH (h:Go.Ab.Vl.iR a0 M Q) : av 150 [a0] M Q:=bn (fn:=Tryz.f150) h
end Go.Proofs.YtoikjkmmdpdkbaaGreatDoor
namespace Go.Proofs
open Go.RowKit Go.Shelf
def Tryz.lays197_ren:Go.Shelf.Ren:=⟨fun | 197=>98 | 260=>123 | n=>n,fun | 9=>9 | 21=>21 | 3=>3 | 4=>4 | 5=>5 | 105=>140 | 119=>135 | 0=>0 | 46=>139 | 139=>138 | 138=>137 | n=>n,fun | 3=>0 | 4=>1 | n=>n⟩
theorem Tryz.lays197:Go.Proofs.Lays.n197 Tryz.prog Tryz.lays197_ren where
 mixed:=by kernel_rfl
 f197:=Tryz.func98.trans (congrArg some (by kernel_rfl))
 f260:=Tryz.func123.trans (congrArg some (by kernel_rfl))
 t0:=Tryz.underlying0
 a0:=Tryz.isAgg0
 z0:=Tryz.sizeOf0
 v0:=Tryz.zeroValue0
 t3:=Tryz.underlying3
 a3:=Tryz.isAgg3
 z3:=Tryz.sizeOf3
 v3:=Tryz.zeroValue3
 t4:=Tryz.underlying4
 a4:=Tryz.isAgg4
 z4:=Tryz.sizeOf4
 v4:=Tryz.zeroValue4
 t5:=Tryz.underlying5
 a5:=Tryz.isAgg5
 z5:=Tryz.sizeOf5
 v5:=Tryz.zeroValue5
 t9:=Tryz.underlying9
 a9:=Tryz.isAgg9
 z9:=Tryz.sizeOf9
 v9:=Tryz.zeroValue9
 t21:=Tryz.underlying21
 a21:=Tryz.isAgg21
 z21:=Tryz.sizeOf21
 v21:=Tryz.zeroValue21
 t46:=Tryz.underlying139
 a46:=Tryz.isAgg139
 z46:=Tryz.sizeOf139
 v46:=Tryz.zeroValue139
 t105:=Tryz.underlying140
 a105:=Tryz.isAgg140
 z105:=Tryz.sizeOf140
 v105:=Tryz.zeroValue140
 t119:=Tryz.underlying135
 a119:=Tryz.isAgg135
 z119:=Tryz.sizeOf135
 t138:=Tryz.underlying137
 a138:=Tryz.isAgg137
 z138:=Tryz.sizeOf137
 v138:=Tryz.zeroValue137
 t139:=Tryz.underlying138
 a139:=Tryz.isAgg138
 z139:=Tryz.sizeOf138
 v139:=Tryz.zeroValue138
 g3:=by kernel_rfl
 g4:=by kernel_rfl
def Tryz.lays196_ren:Go.Shelf.Ren:=⟨fun | 196=>56 | 259=>91 | n=>n,fun | 9=>9 | 4=>4 | 3=>3 | 5=>5 | 12=>12 | 119=>135 | 0=>0 | 46=>139 | 139=>138 | 138=>137 | 53=>152 | n=>n,fun | 3=>0 | 4=>1 | n=>n⟩
theorem Tryz.lays196:Go.Proofs.Lays.n196 Tryz.prog Tryz.lays196_ren where
 mixed:=by kernel_rfl
 f196:=Tryz.func56.trans (congrArg some (by kernel_rfl))
 f259:=Tryz.func91.trans (congrArg some (by kernel_rfl))
 t0:=Tryz.underlying0
 a0:=Tryz.isAgg0
 z0:=Tryz.sizeOf0
 v0:=Tryz.zeroValue0
 t3:=Tryz.underlying3
 a3:=Tryz.isAgg3
 z3:=Tryz.sizeOf3
 v3:=Tryz.zeroValue3
 t4:=Tryz.underlying4
 a4:=Tryz.isAgg4
 z4:=Tryz.sizeOf4
 v4:=Tryz.zeroValue4
 t5:=Tryz.underlying5
 a5:=Tryz.isAgg5
 z5:=Tryz.sizeOf5
 v5:=Tryz.zeroValue5
 t9:=Tryz.underlying9
 a9:=Tryz.isAgg9
 z9:=Tryz.sizeOf9
 v9:=Tryz.zeroValue9
 t12:=Tryz.underlying12
 a12:=Tryz.isAgg12
 z12:=Tryz.sizeOf12
 v12:=Tryz.zeroValue12
 t46:=Tryz.underlying139
 a46:=Tryz.isAgg139
 z46:=Tryz.sizeOf139
 v46:=Tryz.zeroValue139
 t53:=Tryz.underlying152
 a53:=Tryz.isAgg152
 z53:=Tryz.sizeOf152
 v53:=Tryz.zeroValue152
 t119:=Tryz.underlying135
 a119:=Tryz.isAgg135
 z119:=Tryz.sizeOf135
 t138:=Tryz.underlying137
 a138:=Tryz.isAgg137
 z138:=Tryz.sizeOf137
 v138:=Tryz.zeroValue137
 t139:=Tryz.underlying138
 a139:=Tryz.isAgg138
 z139:=Tryz.sizeOf138
 v139:=Tryz.zeroValue138
 g3:=by kernel_rfl
 g4:=by kernel_rfl
def Tryz.lays160_ren:Go.Shelf.Ren:=⟨fun | 160=>95 | 232=>120 | 231=>116 | 227=>117 | 234=>121 | 233=>118 | 236=>122 | 235=>119 | 228=>129 | 271=>148 | 151=>147 | 197=>98 | 120=>164 | 152=>127 | 260=>123 | 137=>73 | 119=>150 | 224=>145 | 225=>144 | 217=>108 | 266=>136 | n=>n,fun | 9=>9 | 4=>4 | 3=>3 | 5=>5 | 117=>165 | 116=>164 | 0=>0 | 124=>168 | 21=>21 | 105=>140 | 46=>139 | 119=>135 | 139=>138 | 138=>137 | n=>n,fun | 3=>0 | 4=>1 | n=>n⟩
theorem Tryz.lays160:Go.Proofs.Lays.n160 Tryz.prog Tryz.lays160_ren where
 mixed:=by kernel_rfl
 f119:=Tryz.func150.trans (congrArg some (by kernel_rfl))
 f120:=Tryz.func164.trans (congrArg some (by kernel_rfl))
 f137:=Tryz.func73.trans (congrArg some (by kernel_rfl))
 f151:=Tryz.func147.trans (congrArg some (by kernel_rfl))
 f152:=Tryz.func127.trans (congrArg some (by kernel_rfl))
 f160:=Tryz.func95.trans (congrArg some (by kernel_rfl))
 f197:=Tryz.func98.trans (congrArg some (by kernel_rfl))
 f217:=Tryz.func108.trans (congrArg some (by kernel_rfl))
 f224:=Tryz.func145.trans (congrArg some (by kernel_rfl))
 f225:=Tryz.func144.trans (congrArg some (by kernel_rfl))
 f227:=Tryz.func117.trans (congrArg some (by kernel_rfl))
 f228:=Tryz.func129.trans (congrArg some (by kernel_rfl))
 f231:=Tryz.func116.trans (congrArg some (by kernel_rfl))
 f232:=Tryz.func120.trans (congrArg some (by kernel_rfl))
 f233:=Tryz.func118.trans (congrArg some (by kernel_rfl))
 f234:=Tryz.func121.trans (congrArg some (by kernel_rfl))
 f235:=Tryz.func119.trans (congrArg some (by kernel_rfl))
 f236:=Tryz.func122.trans (congrArg some (by kernel_rfl))
 f260:=Tryz.func123.trans (congrArg some (by kernel_rfl))
 f266:=Tryz.func136.trans (congrArg some (by kernel_rfl))
 f271:=Tryz.func148.trans (congrArg some (by kernel_rfl))
 t0:=Tryz.underlying0
 a0:=Tryz.isAgg0
 z0:=Tryz.sizeOf0
 v0:=Tryz.zeroValue0
 t3:=Tryz.underlying3
 a3:=Tryz.isAgg3
 z3:=Tryz.sizeOf3
 v3:=Tryz.zeroValue3
 t4:=Tryz.underlying4
 a4:=Tryz.isAgg4
 z4:=Tryz.sizeOf4
 v4:=Tryz.zeroValue4
 t5:=Tryz.underlying5
 a5:=Tryz.isAgg5
 z5:=Tryz.sizeOf5
 v5:=Tryz.zeroValue5
 t9:=Tryz.underlying9
 a9:=Tryz.isAgg9
 z9:=Tryz.sizeOf9
 v9:=Tryz.zeroValue9
 t21:=Tryz.underlying21
 a21:=Tryz.isAgg21
 z21:=Tryz.sizeOf21
 v21:=Tryz.zeroValue21
 t46:=Tryz.underlying139
 a46:=Tryz.isAgg139
 z46:=Tryz.sizeOf139
 v46:=Tryz.zeroValue139
 t105:=Tryz.underlying140
 a105:=Tryz.isAgg140
 z105:=Tryz.sizeOf140
 v105:=Tryz.zeroValue140
 t116:=Tryz.underlying164
 a116:=Tryz.isAgg164
 z116:=Tryz.sizeOf164
 t117:=Tryz.underlying165
 a117:=Tryz.isAgg165
 z117:=Tryz.sizeOf165
 v117:=Tryz.zeroValue165
 t119:=Tryz.underlying135
 a119:=Tryz.isAgg135
 z119:=Tryz.sizeOf135
 t124:=Tryz.underlying168
 a124:=Tryz.isAgg168
 z124:=Tryz.sizeOf168
 v124:=Tryz.zeroValue168
 t138:=Tryz.underlying137
 a138:=Tryz.isAgg137
 z138:=Tryz.sizeOf137
 v138:=Tryz.zeroValue137
 t139:=Tryz.underlying138
 a139:=Tryz.isAgg138
 z139:=Tryz.sizeOf138
 v139:=Tryz.zeroValue138
 g3:=by kernel_rfl
 g4:=by kernel_rfl
def Tryz.lays161_ren:Go.Shelf.Ren:=⟨fun | 161=>92 | 231=>116 | 227=>117 | 233=>118 | 235=>119 | 228=>129 | 197=>98 | 151=>147 | 260=>123 | 152=>127 | 137=>73 | 119=>150 | 224=>145 | 225=>144 | 217=>108 | 266=>136 | n=>n,fun | 9=>9 | 4=>4 | 3=>3 | 5=>5 | 117=>165 | 116=>164 | 0=>0 | 124=>168 | 105=>140 | 21=>21 | 119=>135 | 46=>139 | 139=>138 | 138=>137 | n=>n,fun | 3=>0 | 4=>1 | n=>n⟩
theorem Tryz.lays161:Go.Proofs.Lays.n161 Tryz.prog Tryz.lays161_ren where
 mixed:=by kernel_rfl
 f119:=Tryz.func150.trans (congrArg some (by kernel_rfl))
 f137:=Tryz.func73.trans (congrArg some (by kernel_rfl))
 f151:=Tryz.func147.trans (congrArg some (by kernel_rfl))
 f152:=Tryz.func127.trans (congrArg some (by kernel_rfl))
 f161:=Tryz.func92.trans (congrArg some (by kernel_rfl))
 f197:=Tryz.func98.trans (congrArg some (by kernel_rfl))
 f217:=Tryz.func108.trans (congrArg some (by kernel_rfl))
 f224:=Tryz.func145.trans (congrArg some (by kernel_rfl))
 f225:=Tryz.func144.trans (congrArg some (by kernel_rfl))
 f227:=Tryz.func117.trans (congrArg some (by kernel_rfl))
 f228:=Tryz.func129.trans (congrArg some (by kernel_rfl))
 f231:=Tryz.func116.trans (congrArg some (by kernel_rfl))
 f233:=Tryz.func118.trans (congrArg some (by kernel_rfl))
 f235:=Tryz.func119.trans (congrArg some (by kernel_rfl))
 f260:=Tryz.func123.trans (congrArg some (by kernel_rfl))
 f266:=Tryz.func136.trans (congrArg some (by kernel_rfl))
 t0:=Tryz.underlying0
 a0:=Tryz.isAgg0
 z0:=Tryz.sizeOf0
 v0:=Tryz.zeroValue0
 t3:=Tryz.underlying3
 a3:=Tryz.isAgg3
 z3:=Tryz.sizeOf3
 v3:=Tryz.zeroValue3
 t4:=Tryz.underlying4
 a4:=Tryz.isAgg4
 z4:=Tryz.sizeOf4
 v4:=Tryz.zeroValue4
 t5:=Tryz.underlying5
 a5:=Tryz.isAgg5
 z5:=Tryz.sizeOf5
 v5:=Tryz.zeroValue5
 t9:=Tryz.underlying9
 a9:=Tryz.isAgg9
 z9:=Tryz.sizeOf9
 v9:=Tryz.zeroValue9
 t21:=Tryz.underlying21
 a21:=Tryz.isAgg21
 z21:=Tryz.sizeOf21
 v21:=Tryz.zeroValue21
 t46:=Tryz.underlying139
 a46:=Tryz.isAgg139
 z46:=Tryz.sizeOf139
 v46:=Tryz.zeroValue139
 t105:=Tryz.underlying140
 a105:=Tryz.isAgg140
 z105:=Tryz.sizeOf140
 v105:=Tryz.zeroValue140
 t116:=Tryz.underlying164
 a116:=Tryz.isAgg164
 z116:=Tryz.sizeOf164
 t117:=Tryz.underlying165
 a117:=Tryz.isAgg165
 z117:=Tryz.sizeOf165
 v117:=Tryz.zeroValue165
 t119:=Tryz.underlying135
 a119:=Tryz.isAgg135
 z119:=Tryz.sizeOf135
 t124:=Tryz.underlying168
 a124:=Tryz.isAgg168
 z124:=Tryz.sizeOf168
 v124:=Tryz.zeroValue168
 t138:=Tryz.underlying137
 a138:=Tryz.isAgg137
 z138:=Tryz.sizeOf137
 v138:=Tryz.zeroValue137
 t139:=Tryz.underlying138
 a139:=Tryz.isAgg138
 z139:=Tryz.sizeOf138
 v139:=Tryz.zeroValue138
 g3:=by kernel_rfl
 g4:=by kernel_rfl
def Tryz.lays153_ren:Go.Shelf.Ren:=⟨fun | 153=>104 | 152=>127 | 226=>128 | 227=>117 | 228=>129 | 137=>73 | 119=>150 | 224=>145 | 225=>144 | 217=>108 | 266=>136 | n=>n,fun | 9=>9 | 3=>3 | 4=>4 | 5=>5 | 21=>21 | 117=>165 | 116=>164 | 0=>0 | 46=>139 | 124=>168 | n=>n,fun | n=>n⟩
theorem Tryz.lays153:Go.Proofs.Lays.n153 Tryz.prog Tryz.lays153_ren where
 mixed:=by kernel_rfl
 f119:=Tryz.func150.trans (congrArg some (by kernel_rfl))
 f137:=Tryz.func73.trans (congrArg some (by kernel_rfl))
 f152:=Tryz.func127.trans (congrArg some (by kernel_rfl))
 f153:=Tryz.func104.trans (congrArg some (by kernel_rfl))
 f217:=Tryz.func108.trans (congrArg some (by kernel_rfl))
 f224:=Tryz.func145.trans (congrArg some (by kernel_rfl))
 f225:=Tryz.func144.trans (congrArg some (by kernel_rfl))
 f226:=Tryz.func128.trans (congrArg some (by kernel_rfl))
 f227:=Tryz.func117.trans (congrArg some (by kernel_rfl))
 f228:=Tryz.func129.trans (congrArg some (by kernel_rfl))
 f266:=Tryz.func136.trans (congrArg some (by kernel_rfl))
 t0:=Tryz.underlying0
 a0:=Tryz.isAgg0
 z0:=Tryz.sizeOf0
 v0:=Tryz.zeroValue0
 t3:=Tryz.underlying3
 a3:=Tryz.isAgg3
 z3:=Tryz.sizeOf3
 v3:=Tryz.zeroValue3
 t4:=Tryz.underlying4
 a4:=Tryz.isAgg4
 z4:=Tryz.sizeOf4
 v4:=Tryz.zeroValue4
 t5:=Tryz.underlying5
 a5:=Tryz.isAgg5
 z5:=Tryz.sizeOf5
 v5:=Tryz.zeroValue5
 t9:=Tryz.underlying9
 a9:=Tryz.isAgg9
 z9:=Tryz.sizeOf9
 v9:=Tryz.zeroValue9
 t21:=Tryz.underlying21
 a21:=Tryz.isAgg21
 z21:=Tryz.sizeOf21
 v21:=Tryz.zeroValue21
 t46:=Tryz.underlying139
 a46:=Tryz.isAgg139
 z46:=Tryz.sizeOf139
 v46:=Tryz.zeroValue139
 t116:=Tryz.underlying164
 a116:=Tryz.isAgg164
 z116:=Tryz.sizeOf164
 t117:=Tryz.underlying165
 a117:=Tryz.isAgg165
 z117:=Tryz.sizeOf165
 v117:=Tryz.zeroValue165
 t124:=Tryz.underlying168
 a124:=Tryz.isAgg168
 z124:=Tryz.sizeOf168
 v124:=Tryz.zeroValue168
def Tryz.lays171_ren:Go.Shelf.Ren:=⟨fun | 171=>53 | 243=>88 | 246=>113 | 283=>140 | 284=>141 | 285=>142 | 286=>143 | 129=>159 | 317=>158 | 318=>160 | 319=>161 | 320=>162 | 337=>167 | 338=>168 | n=>n,fun | 3=>3 | 9=>9 | 2=>2 | 4=>4 | 171=>193 | 0=>0 | 53=>152 | 37=>98 | 5=>5 | 173=>196 | 212=>216 | 51=>143 | 20=>20 | 213=>217 | 46=>139 | 232=>111 | 233=>226 | n=>n,fun | 17=>8 | 18=>9 | 19=>10 | n=>n⟩
theorem Tryz.lays171:Go.Proofs.LaysM.n171 Tryz.prog Tryz.lays171_ren where
 mixed:=by kernel_rfl
 f129:=Tryz.func159.trans (congrArg some (by kernel_rfl))
 f171:=Tryz.func53.trans (congrArg some (by kernel_rfl))
 f243:=Tryz.func88.trans (congrArg some (by kernel_rfl))
 f246:=Tryz.func113.trans (congrArg some (by kernel_rfl))
 f283:=Tryz.func140.trans (congrArg some (by kernel_rfl))
 f284:=Tryz.func141.trans (congrArg some (by kernel_rfl))
 f285:=Tryz.func142.trans (congrArg some (by kernel_rfl))
 f286:=Tryz.func143.trans (congrArg some (by kernel_rfl))
 f317:=Tryz.func158.trans (congrArg some (by kernel_rfl))
 f318:=Tryz.func160.trans (congrArg some (by kernel_rfl))
 f319:=Tryz.func161.trans (congrArg some (by kernel_rfl))
 f320:=Tryz.func162.trans (congrArg some (by kernel_rfl))
 f337:=Tryz.func167.trans (congrArg some (by kernel_rfl))
 f338:=Tryz.func168.trans (congrArg some (by kernel_rfl))
 t0:=Tryz.underlying0
 a0:=Tryz.isAgg0
 z0:=Tryz.sizeOf0
 v0:=Tryz.zeroValue0
 t2:=Tryz.underlying2
 a2:=Tryz.isAgg2
 z2:=Tryz.sizeOf2
 v2:=Tryz.zeroValue2
 t3:=Tryz.underlying3
 a3:=Tryz.isAgg3
 z3:=Tryz.sizeOf3
 v3:=Tryz.zeroValue3
 t4:=Tryz.underlying4
 a4:=Tryz.isAgg4
 z4:=Tryz.sizeOf4
 v4:=Tryz.zeroValue4
 t5:=Tryz.underlying5
 a5:=Tryz.isAgg5
 z5:=Tryz.sizeOf5
 v5:=Tryz.zeroValue5
 t9:=Tryz.underlying9
 a9:=Tryz.isAgg9
 z9:=Tryz.sizeOf9
 v9:=Tryz.zeroValue9
 t20:=Tryz.underlying20
 a20:=Tryz.isAgg20
 z20:=Tryz.sizeOf20
 v20:=Tryz.zeroValue20
 t37:=Tryz.underlying98
 a37:=Tryz.isAgg98
 z37:=Tryz.sizeOf98
 v37:=Tryz.zeroValue98
 t46:=Tryz.underlying139
 a46:=Tryz.isAgg139
 z46:=Tryz.sizeOf139
 v46:=Tryz.zeroValue139
 t51:=Tryz.underlying143
 a51:=Tryz.isAgg143
 z51:=Tryz.sizeOf143
 v51:=Tryz.zeroValue143
 t53:=Tryz.underlying152
 a53:=Tryz.isAgg152
 z53:=Tryz.sizeOf152
 v53:=Tryz.zeroValue152
 t171:=Tryz.underlying193
 a171:=Tryz.isAgg193
 z171:=Tryz.sizeOf193
 v171:=Tryz.zeroValue193
 t173:=Tryz.underlying196
 a173:=Tryz.isAgg196
 z173:=Tryz.sizeOf196
 v173:=Tryz.zeroValue196
 t212:=Tryz.underlying216
 a212:=Tryz.isAgg216
 z212:=Tryz.sizeOf216
 v212:=Tryz.zeroValue216
 t213:=Tryz.underlying217
 a213:=Tryz.isAgg217
 z213:=Tryz.sizeOf217
 t232:=Tryz.underlying111
 a232:=Tryz.isAgg111
 z232:=Tryz.sizeOf111
 v232:=Tryz.zeroValue111
 t233:=Tryz.underlying226
 a233:=Tryz.isAgg226
 z233:=Tryz.sizeOf226
 v233:=Tryz.zeroValue226
 g17:=by kernel_rfl
 g18:=by kernel_rfl
 g19:=by kernel_rfl
 i0:=by kernel_rfl
 i2:=by kernel_rfl
 i3:=by kernel_rfl
 i4:=by kernel_rfl
 i5:=by kernel_rfl
 i9:=by kernel_rfl
 i20:=by kernel_rfl
 i37:=by kernel_rfl
 i46:=by kernel_rfl
 i51:=by kernel_rfl
 i53:=by kernel_rfl
 i171:=by kernel_rfl
 i173:=by kernel_rfl
 i212:=by kernel_rfl
 i232:=by kernel_rfl
 i233:=by kernel_rfl
 m17:=by kernel_rfl
 m18:=by kernel_rfl
 m19:=by kernel_rfl
def Tryz.lays172_ren:Go.Shelf.Ren:=⟨fun | 172=>68 | 244=>105 | 245=>106 | 247=>130 | 279=>131 | 280=>132 | 281=>133 | 282=>134 | 287=>151 | 316=>152 | 171=>53 | 205=>153 | 321=>165 | 322=>166 | 243=>88 | 246=>113 | 283=>140 | 284=>141 | 285=>142 | 286=>143 | 129=>159 | 317=>158 | 318=>160 | 319=>161 | 320=>162 | 337=>167 | 338=>168 | n=>n,fun | 9=>9 | 3=>3 | 75=>117 | 76=>118 | 4=>4 | 5=>5 | 167=>182 | 37=>98 | 0=>0 | 85=>183 | 2=>2 | 168=>185 | 53=>152 | 175=>205 | 46=>139 | 210=>208 | 127=>155 | 145=>224 | 143=>222 | 21=>21 | 171=>193 | 173=>196 | 212=>216 | 51=>143 | 20=>20 | 213=>217 | 232=>111 | 233=>226 | 80=>124 | n=>n,fun | 15=>6 | 16=>7 | 17=>8 | 18=>9 | 19=>10 | n=>n⟩
theorem Tryz.lays172:Go.Proofs.LaysC.n172 Tryz.prog Tryz.lays172_ren where
 mixed:=by kernel_rfl
 f129:=Tryz.func159.trans (congrArg some (by kernel_rfl))
 f171:=Tryz.func53.trans (congrArg some (by kernel_rfl))
 f172:=Tryz.func68.trans (congrArg some (by kernel_rfl))
 f205:=Tryz.func153.trans (congrArg some (by kernel_rfl))
 f243:=Tryz.func88.trans (congrArg some (by kernel_rfl))
 f244:=Tryz.func105.trans (congrArg some (by kernel_rfl))
 f245:=Tryz.func106.trans (congrArg some (by kernel_rfl))
 f246:=Tryz.func113.trans (congrArg some (by kernel_rfl))
 f247:=Tryz.func130.trans (congrArg some (by kernel_rfl))
 f279:=Tryz.func131.trans (congrArg some (by kernel_rfl))
 f280:=Tryz.func132.trans (congrArg some (by kernel_rfl))
 f281:=Tryz.func133.trans (congrArg some (by kernel_rfl))
 f282:=Tryz.func134.trans (congrArg some (by kernel_rfl))
 f283:=Tryz.func140.trans (congrArg some (by kernel_rfl))
 f284:=Tryz.func141.trans (congrArg some (by kernel_rfl))
 f285:=Tryz.func142.trans (congrArg some (by kernel_rfl))
 f286:=Tryz.func143.trans (congrArg some (by kernel_rfl))
 f287:=Tryz.func151.trans (congrArg some (by kernel_rfl))
 f316:=Tryz.func152.trans (congrArg some (by kernel_rfl))
 f317:=Tryz.func158.trans (congrArg some (by kernel_rfl))
 f318:=Tryz.func160.trans (congrArg some (by kernel_rfl))
 f319:=Tryz.func161.trans (congrArg some (by kernel_rfl))
 f320:=Tryz.func162.trans (congrArg some (by kernel_rfl))
 f321:=Tryz.func165.trans (congrArg some (by kernel_rfl))
 f322:=Tryz.func166.trans (congrArg some (by kernel_rfl))
 f337:=Tryz.func167.trans (congrArg some (by kernel_rfl))
 f338:=Tryz.func168.trans (congrArg some (by kernel_rfl))
 t0:=Tryz.underlying0
 a0:=Tryz.isAgg0
 z0:=Tryz.sizeOf0
 v0:=Tryz.zeroValue0
 t2:=Tryz.underlying2
 a2:=Tryz.isAgg2
 z2:=Tryz.sizeOf2
 v2:=Tryz.zeroValue2
 t3:=Tryz.underlying3
 a3:=Tryz.isAgg3
 z3:=Tryz.sizeOf3
 v3:=Tryz.zeroValue3
 t4:=Tryz.underlying4
 a4:=Tryz.isAgg4
 z4:=Tryz.sizeOf4
 v4:=Tryz.zeroValue4
 t5:=Tryz.underlying5
 a5:=Tryz.isAgg5
 z5:=Tryz.sizeOf5
 v5:=Tryz.zeroValue5
 t9:=Tryz.underlying9
 a9:=Tryz.isAgg9
 z9:=Tryz.sizeOf9
 v9:=Tryz.zeroValue9
 t20:=Tryz.underlying20
 a20:=Tryz.isAgg20
 z20:=Tryz.sizeOf20
 v20:=Tryz.zeroValue20
 t21:=Tryz.underlying21
 a21:=Tryz.isAgg21
 z21:=Tryz.sizeOf21
 v21:=Tryz.zeroValue21
 t37:=Tryz.underlying98
 a37:=Tryz.isAgg98
 z37:=Tryz.sizeOf98
 v37:=Tryz.zeroValue98
 t46:=Tryz.underlying139
 a46:=Tryz.isAgg139
 z46:=Tryz.sizeOf139
 v46:=Tryz.zeroValue139
 t51:=Tryz.underlying143
 a51:=Tryz.isAgg143
 z51:=Tryz.sizeOf143
 v51:=Tryz.zeroValue143
 t53:=Tryz.underlying152
 a53:=Tryz.isAgg152
 z53:=Tryz.sizeOf152
 v53:=Tryz.zeroValue152
 t75:=Tryz.underlying117
 a75:=Tryz.isAgg117
 z75:=Tryz.sizeOf117
 v75:=Tryz.zeroValue117
 t76:=Tryz.underlying118
 a76:=Tryz.isAgg118
 z76:=Tryz.sizeOf118
 v76:=Tryz.zeroValue118
 t85:=Tryz.underlying183
 a85:=Tryz.isAgg183
 z85:=Tryz.sizeOf183
 v85:=Tryz.zeroValue183
 t127:=Tryz.underlying155
 a127:=Tryz.isAgg155
 z127:=Tryz.sizeOf155
 v127:=Tryz.zeroValue155
 t143:=Tryz.underlying222
 a143:=Tryz.isAgg222
 z143:=Tryz.sizeOf222
 v143:=Tryz.zeroValue222
 t145:=Tryz.underlying224
 a145:=Tryz.isAgg224
 z145:=Tryz.sizeOf224
 v145:=Tryz.zeroValue224
 t167:=Tryz.underlying182
 a167:=Tryz.isAgg182
 z167:=Tryz.sizeOf182
 v167:=Tryz.zeroValue182
 t168:=Tryz.underlying185
 a168:=Tryz.isAgg185
 z168:=Tryz.sizeOf185
 v168:=Tryz.zeroValue185
 t171:=Tryz.underlying193
 a171:=Tryz.isAgg193
 z171:=Tryz.sizeOf193
 v171:=Tryz.zeroValue193
 t173:=Tryz.underlying196
 a173:=Tryz.isAgg196
 z173:=Tryz.sizeOf196
 v173:=Tryz.zeroValue196
 t175:=Tryz.underlying205
 a175:=Tryz.isAgg205
 z175:=Tryz.sizeOf205
 v175:=Tryz.zeroValue205
 t210:=Tryz.underlying208
 a210:=Tryz.isAgg208
 z210:=Tryz.sizeOf208
 v210:=Tryz.zeroValue208
 t212:=Tryz.underlying216
 a212:=Tryz.isAgg216
 z212:=Tryz.sizeOf216
 v212:=Tryz.zeroValue216
 t213:=Tryz.underlying217
 a213:=Tryz.isAgg217
 z213:=Tryz.sizeOf217
 t232:=Tryz.underlying111
 a232:=Tryz.isAgg111
 z232:=Tryz.sizeOf111
 v232:=Tryz.zeroValue111
 t233:=Tryz.underlying226
 a233:=Tryz.isAgg226
 z233:=Tryz.sizeOf226
 v233:=Tryz.zeroValue226
 g15:=by kernel_rfl
 g16:=by kernel_rfl
 g17:=by kernel_rfl
 g18:=by kernel_rfl
 g19:=by kernel_rfl
 t80:=Tryz.underlying124
 a80:=Tryz.isAgg124
 z80:=Tryz.sizeOf124
 v80:=Tryz.zeroValue124
 i0:=by kernel_rfl
 i2:=by kernel_rfl
 i3:=by kernel_rfl
 i4:=by kernel_rfl
 i5:=by kernel_rfl
 i9:=by kernel_rfl
 i20:=by kernel_rfl
 i21:=by kernel_rfl
 i37:=by kernel_rfl
 i46:=by kernel_rfl
 i51:=by kernel_rfl
 i53:=by kernel_rfl
 i75:=by kernel_rfl
 i76:=by kernel_rfl
 i80:=by kernel_rfl
 i85:=by kernel_rfl
 i127:=by kernel_rfl
 i143:=by kernel_rfl
 i145:=by kernel_rfl
 i167:=by kernel_rfl
 i168:=by kernel_rfl
 i171:=by kernel_rfl
 i173:=by kernel_rfl
 i175:=by kernel_rfl
 i210:=by kernel_rfl
 i212:=by kernel_rfl
 i232:=by kernel_rfl
 i233:=by kernel_rfl
 m15:=by kernel_rfl
 m16:=by kernel_rfl
 m17:=by kernel_rfl
 m18:=by kernel_rfl
 m19:=by kernel_rfl
 c0:=by kernel_rfl
 c2:=by kernel_rfl
 c3:=by kernel_rfl
 c4:=by kernel_rfl
 c5:=by kernel_rfl
 c9:=by kernel_rfl
 c20:=by kernel_rfl
 c21:=by kernel_rfl
 c37:=by kernel_rfl
 c46:=by kernel_rfl
 c51:=by kernel_rfl
 c53:=by kernel_rfl
 c75:=by kernel_rfl
 c76:=by kernel_rfl
 c80:=by kernel_rfl
 c85:=by kernel_rfl
 c127:=by kernel_rfl
 c143:=by kernel_rfl
 c145:=by kernel_rfl
 c167:=by kernel_rfl
 c168:=by kernel_rfl
 c171:=by kernel_rfl
 c173:=by kernel_rfl
 c175:=by kernel_rfl
 c210:=by kernel_rfl
 c212:=by kernel_rfl
 c213:=by kernel_rfl
 c232:=by kernel_rfl
 c233:=by kernel_rfl
end Go.Proofs
namespace Go.Proofs.YtoikjkmmdpdkbaaGreatDoor.vcl
open Go Go.Ab Go.Ab.Vl Go.Ab.Vc Go.RowKit Go.Proofs Go.Proofs.YtoikjkmmdpdkbaaGreatDoor
abbrev Gg:List Int:=[0,1,2,3,4,5,6,7,8,9,10,11,12,13,14,15,16,17,18,19,20,21,22,23,24,25,26,27,28,29,30,31,32,33,34,35,36,37,38,39,40,41,42,43,44,45,46,47,48,49,50,51,52,53,54,55,56,57,58,59,60,61,62,63,64,97,98,99,100,101,102,103,104,105,106,107,108,109,110,111,112,113,114,115,116,117,118,119,120,121,122,91,92,93,94,95,96,65,66,67,68,69,70,71,72,73,74,8490,76,77,78,79,80,81,82,383,84,85,86,87,88,89,90,123,124,125,126,127]
structure Iv (w:World) : Prop where
 u8:Lib.Utf8Tabs 0 1 w
 p10:Lib.TabIs Tryz.prog w "internal/strconv.uint64pow10" .u64 Lib.pow10Tab
 fold:Lib.TabIs Tryz.prog w "unicode.asciiFold" .u16 Gg
 es:∃ ev,w.cell? ⟨6,0,none⟩=some ev∧(ev=.nilIface∨∃ te pe,ev=.iface te pe)
 er:∃ ev,w.cell? ⟨7,0,none⟩=some ev∧(ev=.nilIface∨∃ te pe,ev=.iface te pe)
theorem QL (w:World) (q:Nat) (os:Array Obj) : Below w.heap.size w (Go.Sort.grow (w.drewN q) os) :=
 ⟨rfl,rfl,rfl,by first | (simp[Go.Sort.grow]; done) | (simp[Go.Sort.grow]; omega),fun i hi=>by
  show((w.drewN q).heap++os)[i]?=_
  rw[Array.getElem?_append_left (by show i<w.heap.size; omega)]
  rfl⟩
theorem Fx {w:World} {b o:Nat} {v:Value} (h:w.cell? ⟨b,o,none⟩=some v) : b<w.heap.size:=by
 unfold World.cell? at h
 cases hb:w.heap[b]? with
 | none=>simp[hb] at h
 | some x=>exact(Array.getElem?_eq_some_iff.1 hb).1
theorem tH {w w' : World} {b:Nat} (h:w'.heap[b]?=w.heap[b]?) (o:Nat) : w'.cell? ⟨b,o,none⟩=w.cell? ⟨b,o,none⟩:=by
 unfold World.cell?
 simp only[h]
theorem varLt {w:World} {n:String} {g:Nat} {vs:Array Value} (hg:Tryz.prog.globalNamed n=some g) (h:w.var? Tryz.prog n=some vs) : g<w.heap.size:=by
 unfold World.var? at h
 rw[hg] at h
 simp only[Option.bind_some] at h
 cases hb:w.heap[g]? with
 | none=>rw[hb] at h; cases h
 | some x=>exact(Array.getElem?_eq_some_iff.1 hb).1
theorem ME {w w' : World} {n:String} {g:Nat} (hg:Tryz.prog.globalNamed n=some g) (h:w'.heap[g]?=w.heap[g]?) : w'.var? Tryz.prog n=w.var? Tryz.prog n:=by
 unfold World.var?
 rw[hg]
 simp only[Option.bind_some,h]
theorem Rf:Tryz.prog.globalNamed "internal/strconv.uint64pow10" = some 8:=by kernel_rfl
theorem Ja:Tryz.prog.globalNamed "unicode.asciiFold" = some 2:=by kernel_rfl
def base (w:World) (hi:Iv w) : Base where
 n:=w.heap.size
 inv w':=Iv w'
 low u u' hlow hu:=by
  obtain⟨e1,c1,d1⟩:=hi.es
  obtain⟨e2,c2,d2⟩:=hi.er
  obtain⟨e3,c3,d3⟩:=hu.es
  obtain⟨e4,c4,d4⟩:=hu.er
  have h0:=Fx (hi.u8.1 0 (by omega))
  have h1:=Fx (hi.u8.2 0 (by omega)).1
  refine⟨⟨fun c hc=>(tH (hlow 0 h0) c).trans (hu.u8.1 c hc),fun i hi'=>⟨(tH (hlow 1 h1) _).trans (hu.u8.2 i hi').1,(tH (hlow 1 h1) _).trans (hu.u8.2 i hi').2⟩⟩, ?_, ?_,
   ⟨e3,(tH (hlow 6 (Fx c1)) 0).trans c3,d3⟩,⟨e4,(tH (hlow 7 (Fx c2)) 0).trans c4,d4⟩⟩
  ·exact(ME Rf (hlow 8 (varLt Rf hi.p10))).trans hu.p10
  ·exact(ME Ja (hlow 2 (varLt Ja hi.fold))).trans hu.fold
section
variable {w0:World} {hi:Iv w0}
theorem Gs {M:RM} {ρ:Ab.Ren} {w:World} (hM:M.base=base w0 hi) (hw:bO Tryz.prog ρ M w) : Iv w:=by
 have:=bO.inv hw
 rw[hM] at this
 exact this
theorem VS (s:List UInt8) (h:s≠[]) : Lib.decodeGo ⟨⟨s⟩⟩=dec s:=by
 have hs:(⟨⟨s⟩⟩ : ByteArray).size=s.length:=rfl
 have hp:=List.length_pos_iff.2 h
 have g:∀ i,((⟨⟨s⟩⟩ : ByteArray).get! i).toNat=bt s i:=fun i=>by
  simp only[ByteArray.get!,bt,List.getD_eq_getElem?_getD]
  simp[getElem!_def]
  cases s[i]? <;> rfl
 rw[Lib.decodeGo,if_neg (by rw[hs]; omega),Lib.decode_at,g,g,g,g,hs]
 rfl
theorem Wh:TD (base w0 hi) (av 98):=by
 intro M s Q hM hne hl hQ
 refine dW.kT (v:=.tup [N .i32 ((dec s).1:Int),N .i64 (rs s:Int)]) ⟨Tryz.f98,_,Tryz.func98,rfl⟩ (fun ρ w us hus hw=>?_) hQ
 cases hus with
 | cons _ u1 _ us r1 hus =>
 cases hus
 obtain⟨rfl,_⟩:=aM r1
 refine(Any.utf8_DecodeRuneInString Tryz.lays197 ⟨⟨s⟩⟩ w (Gs hM hw).u8).mono fun e w' ⟨he,hb⟩=>⟨_,he,hb, ?_⟩
 rw[VS s hne,show(dec s).2=rs s by rw[rs,if_neg hne]]
 exact .tup _ _ (.cons _ _ _ _ (.sc _ rfl) (.cons _ _ _ _ (.sc _ rfl) .nil))
theorem decode:Vk (base w0 hi) (av 98):=fun h1 h2 h3 h4=>Wh h1 h2 h3 (h4 _)
theorem valid:KP (base w0 hi) (av 56):=by
 intro M s Q hM hl hQ
 refine dW.kT (v:=Bo (uR s)) ⟨Tryz.f56,_,Tryz.func56,rfl⟩ (fun ρ w us hus hw=>?_) hQ
 cases hus with
 | cons _ u1 _ us r1 hus =>
 cases hus
 obtain⟨rfl,_⟩:=aM r1
 refine(Any.utf8_ValidString Tryz.lays196 ⟨⟨s⟩⟩ w (by show s.length≤_; omega) (Gs hM hw).u8).mono fun e w' ⟨he,hb⟩=>⟨_,he,hb, ?_⟩
 rw[show(⟨⟨s⟩⟩ : ByteArray).data.toList=s from rfl,Ej s.length s (Nat.le_refl _)]
 exact .sc _ rfl
end
theorem ET:∀ (j:Nat) b,(⟨⟨gN⟩⟩ : ByteArray).data.toList[j]?=some b→b.toNat<128:=fun j b h=>by
 have hm:b∈gN:=List.mem_of_getElem? h
 have:gN.all (fun b=>decide (b.toNat<128))=true:=by decide
 exact of_decide_eq_true (List.all_eq_true.1 this b hm)
theorem trimLeft {B:Base} : Kj B (av 92):=by
 intro M s Q hM hl hQ
 by_cases hne:s=[]
 ·subst hne
  refine ui ?_
  unfold qx
  simp only[dJ,go_sem,beq_self_eq_true]
  exact hQ M (ae.refl _ _)
 have hp:=List.length_pos_iff.2 hne
 refine dW.kT (v:=St (s.dropWhile (gN.contains ·))) ⟨Tryz.f92,_,Tryz.func92,rfl⟩ (fun ρ w us hus hw=>?_) (hQ M (ae.refl _ _))
 cases hus with
 | cons _ u1 _ us r1 hus =>
 cases hus with
 | cons _ u2 _ us r2 hus =>
 cases hus
 obtain⟨rfl,_⟩:=aM r1
 obtain⟨rfl,_⟩:=aM r2
 refine(Any.strings_TrimLeft_set Tryz.lays161 (by exact Tryz.zeroValue164) (by kernel_rfl) ⟨⟨s⟩⟩ ⟨⟨gN⟩⟩ w (by decide) (by show 0<s.length; omega) (by decide) ET).mono fun e w' ⟨he,hb⟩=>⟨_,he, ?_,.sc _ rfl⟩
 rw[hb]
 have h1:=(Below.refl w.heap.size w).alloc (Nat.le_refl _) (.cells (Lib.setCells gN) (Tryz.lays161_ren.t 116))
 exact h1.alloc h1.size _
theorem trim {B:Base} : J4 B (fun s=>Lib.trimS s gN) (av 95):=by
 intro M s Q hM hl hQ
 by_cases hne:s=[]
 ·subst hne
  refine xJ ?_
  unfold xB
  simp only[dJ,go_sem,beq_self_eq_true]
  exact hQ M (ae.refl _ _)
 have hp:=List.length_pos_iff.2 hne
 refine dW.kT (v:=St (Lib.trimS s gN)) ⟨Tryz.f95,_,Tryz.func95,rfl⟩ (fun ρ w us hus hw=>?_) (hQ M (ae.refl _ _))
 cases hus with
 | cons _ u1 _ us r1 hus =>
 cases hus with
 | cons _ u2 _ us r2 hus =>
 cases hus
 obtain⟨rfl,_⟩:=aM r1
 obtain⟨rfl,_⟩:=aM r2
 refine(Any.strings_Trim_set Tryz.lays160 (by exact Tryz.zeroValue164) (by kernel_rfl) ⟨⟨s⟩⟩ ⟨⟨gN⟩⟩ w (by decide) (by show 0<s.length; omega) (by show s.length≤_; omega) (by decide) ET).mono fun e w' ⟨he,q,hb⟩=>⟨_,he, ?_,.sc _ rfl⟩
 rw[hb]
 have h1:=(Below.refl w.heap.size w).alloc (Nat.le_refl _) (.cells (Lib.setCells gN) (Tryz.lays160_ren.t 116))
 have h2:=h1.alloc h1.size (.cells (Lib.setCells gN) (Tryz.lays160_ren.t 116))
 exact⟨h2.os,h2.tape,h2.output,h2.size,h2.block⟩
theorem QA {M:RM} {s:List UInt8} {x:UInt8} : MP Tryz.prog 136 [St s,By x] M (N .i64 (Lib.indexByte s x)):=by
 intro ρ w us hus hw
 cases hus with
 | cons _ u1 _ us r1 hus =>
 cases hus with
 | cons _ u2 _ us r2 hus =>
 cases hus
 obtain⟨rfl,_⟩:=aM r1
 obtain⟨rfl,_⟩:=aM r2
 refine⟨.int .i64 (Lib.indexByte s x), ?_,.sc _ rfl⟩
 refine zC (fn:=Tryz.f136) (s:=Extern.BytealgIndexByte.indexByte) (by kernel_rfl) (XD.ng 136 Tryz.f136 (by kernel_rfl)) (by kernel_rfl) (by kernel_rfl) (by kernel_rfl) (fun w=>?_) w
 rw[Lib.run_indexByteString]
 congr 2
 simp
theorem QV:pF (av 108):=by
 intro M s x Q hQ
 refine lm ?_
 unfold iP
 exact .inr (.inr (.inr (.inl ⟨_,QA,hQ⟩)))
theorem ND:pF (av 73):=by
 intro M s x Q hQ
 refine rW ?_
 unfold oU
 exact QV hQ
theorem validRune:zJ (av 150):=by
 intro M r Q hQ
 obtain⟨a0,e,h⟩:=F6 hQ
 cases e
 exact oH h
theorem QO {cs:Vc.Str} (h1:Asc cs) (h2:cs.length≤1000) : xL cs (av 127):=by
 intro M r Q h3 h4
 obtain⟨a0,a1,e,h⟩:=FH (cq:=av 145) h1 h2 ND validRune h3 h4
 cases e
 exact rO h
theorem indexAny {B:Base} {cs:Vc.Str} (ha:Asc cs) (h2:2≤cs.length) (Tt:cs.length≤1000) : lW cs B (av 104):=by
 intro M s Q hM hl hQ
 have hasc:∀ (j:Nat) b,(⟨⟨cs⟩⟩ : ByteArray).data.toList[j]?=some b→b.toNat<128:=fun j b h=>ha b (List.mem_of_getElem? h)
 by_cases h8:s.length≤8
 ·refine uy (GN ha h2 Tt h8 (QO ha Tt) ?_ hQ)
  intro M n Q h
  refine ny ?_
  unfold kw
  simp only[go_sem]
  rw[show decide ((n:Int) > 8)=decide (8<n) by simp; omega]
  exact h
 refine dW.kT (v:=N .i64 (Lib.indexAny s cs)) ⟨Tryz.f104,_,Tryz.func104,rfl⟩ (fun ρ w us hus hw=>?_) (hQ M (ae.refl _ _))
 cases hus with
 | cons _ u1 _ us r1 hus =>
 cases hus with
 | cons _ u2 _ us r2 hus =>
 cases hus
 obtain⟨rfl,_⟩:=aM r1
 obtain⟨rfl,_⟩:=aM r2
 refine(Any.strings_IndexAny_long Tryz.lays153 (by exact Tryz.zeroValue164) (by kernel_rfl) ⟨⟨s⟩⟩ ⟨⟨cs⟩⟩ w (by show 1<cs.length; omega) (by show 8<s.length; omega) (by show s.length<_; omega) (by show cs.length<_; omega) hasc).mono fun e w' ⟨he,hb⟩=>⟨_,he, ?_,.sc _ rfl⟩
 rw[hb]
 exact((Below.refl _ _).alloc (Nat.le_refl _) _).alloc (by simp) _
theorem PU {cs:Vc.Str} (h:cs.all (fun b=>decide (b.toNat<128))=true) : Asc cs:=fun x hx=>of_decide_eq_true (List.all_eq_true.1 h x hx)
theorem XG {B:Base} : lW og B (av 104):=indexAny (PU (by decide)) (by decide) (by decide)
theorem XJ {B:Base} : lW mi B (av 104):=indexAny (PU (by decide)) (by decide) (by decide)
section
variable {w0:World} {hi:Iv w0}
theorem itoa:Vc.TF (base w0 hi) (av 53):=by
 intro M n Q hB h1 h2 hQ
 refine dW.kT (v:=St (Lib.itoa n)) ⟨Tryz.f53,_,Tryz.func53,rfl⟩ (fun ρ w us hus hw=>?_) (hQ M (ae.refl _ _))
 cases hus with
 | cons _ u1 _ us r1 hus =>
 cases hus
 obtain⟨rfl,_⟩:=aM r1
 refine(Any.strconv_Itoa Tryz.lays171 n h1 h2 w (Gs hB hw).p10).mono fun e w' ⟨he,k,os,hb⟩=>⟨_,he, ?_,.sc _ rfl⟩
 rw[hb]
 exact QL w k os
theorem atoi:Vc.TN (base w0 hi) (av 68):=by
 intro M s Q hB hl hQ
 unfold yG at hQ
 have bad:∀ (v:Int),(Lib.atoiAll s=Lib.atoiAll [] ∧ v=0∨Lib.atoiAll s=.range∧v=Lib.atoiSat s)→Q (.tup [N .i64 v,.ifc (Tryz.lays172_ren.t 168) .top]) M→av 68 [St s] M Q:=by
  intro v hv hq
  refine dW.kT (v:=.tup [N .i64 v,.ifc (Tryz.lays172_ren.t 168) .top]) ⟨Tryz.f68,_,Tryz.func68,rfl⟩ (fun ρ w us hus hw=>?_) hq
  cases hus with
  | cons _ u1 _ us r1 hus =>
  cases hus
  obtain⟨rfl,_⟩:=aM r1
  rcases hv with⟨hv,rfl⟩ | ⟨hv,rfl⟩
  ·obtain⟨ev,c1,d1⟩:=(Gs hB hw).es
   refine(Any.strconv_Atoi_syntax Tryz.lays172 ⟨⟨s⟩⟩ (by show s.length≤_; omega) hv ev w c1 d1).mono fun e w' ⟨N,he,_,_,hb⟩=>⟨_,he,hb, ?_⟩
   exact .tup _ _ (.cons _ _ _ _ (.sc _ rfl) (.cons _ _ _ _ (.ifc _ _ _ (.top _)) .nil))
  ·obtain⟨ev,c1,d1⟩:=(Gs hB hw).er
   refine(Any.strconv_Atoi_range Tryz.lays172 ⟨⟨s⟩⟩ (by show s.length≤_; omega) hv ev w c1 d1).mono fun e w' ⟨N,he,_,_,hb⟩=>⟨_,he,hb, ?_⟩
   exact .tup _ _ (.cons _ _ _ _ (.sc _ rfl) (.cons _ _ _ _ (.ifc _ _ _ (.top _)) .nil))
 have hno:∀ K:AV→Prop,K (Bo false)→FN false (.ifc (Tryz.lays172_ren.t 168) .top) (.sc .nilIface) K:=fun K hK=>.inl ⟨rfl,false,rfl,hK⟩
 cases ha:Lib.atoiAll s with
 | ok v =>
   rw[ha] at hQ
   refine dW.kT (v:=.tup [N .i64 v,.sc .nilIface]) ⟨Tryz.f68,_,Tryz.func68,rfl⟩ (fun ρ w us hus hw=>?_) (hQ M _ (ae.refl _ _) fun K hK=>.inr ⟨rfl,rfl,hK⟩)
   cases hus with
   | cons _ u1 _ us r1 hus =>
   cases hus
   obtain⟨rfl,_⟩:=aM r1
   refine(Any.strconv_Atoi_ok Tryz.lays172 ⟨⟨s⟩⟩ (by show s.length≤_; omega) v ha w).mono fun e w' ⟨he,hb⟩=>⟨_,he, ?_,.tup _ _ (.cons _ _ _ _ (.sc _ rfl) (.cons _ _ _ _ (.sc _ rfl) .nil))⟩
   rcases hb with rfl | ⟨t,rfl⟩
   ·exact Below.refl _ _
   ·exact Lib.bytesWorld_below w _ t
 | range =>
   rw[ha] at hQ
   exact bad _ (.inr ⟨ha,rfl⟩) (hQ M _ (ae.refl _ _) hno)
 | _ =>
   rw[ha] at hQ
   exact bad 0 (.inl ⟨ha,rfl⟩) (hQ M _ (ae.refl _ _) hno)
end
end Go.Proofs.YtoikjkmmdpdkbaaGreatDoor.vcl
namespace Go.Proofs.YtoikjkmmdpdkbaaGreatDoor
open Go Go.RowKit Go.Proofs
set_option maxHeartbeats 4000000 in
theorem Qe (k:Nat) (x:Int) (hk:k<128) (w:World) (hc:w.cell? ⟨2,k,none⟩=some (.int .u16 x)) (hx:0≤x∧x<65536) :
  Calls Tryz.prog 99 #[.int .i32 (k:Int)] w fun e w'=>e=.returned (.int .i32 x)∧w'=w:=by
 have h1:¬ ((k:Int)<0):=by omega
 have h2:¬ ((k:Int) > 1114111):=by omega
 have h3:(k:Int)<128:=by omega
 go_enter Tryz.func99,Tryz.ntmps99
 go_wp2
 go_ret
 exact⟨rfl,rfl⟩
namespace vcl
open Go.Ab Go.Ab.Vl Go.Ab.Vc
theorem nz {w0:World} {hi:Iv w0} {k:Nat} {x:Int} (hk:k<128) (hx:Gg.getD k 0=x) (hb:0≤x∧x<65536) {M:RM} {Q:ai} (hM:M.base=base w0 hi) (hQ:Q (N .i32 x) M) : av 99 [N .i32 (k:Int)] M Q:=by
 refine dW.kT (v:=N .i32 x) ⟨Tryz.f99,_,Tryz.func99,rfl⟩ (fun ρ w us hus hw=>?_) hQ
 cases hus with
 | cons _ u1 _ us r1 hus =>
 cases hus
 obtain⟨rfl,_⟩:=aM r1
 have hc:=(Gs hM hw).fold.cell Ja k (by show k<128; omega)
 rw[hx] at hc
 refine(Qe k x hk w hc hb).mono fun e w' ⟨he,hw'⟩=>⟨_,he,by rw[hw']; exact Below.refl _ _,.sc _ rfl⟩
theorem VT {w0:World} {hi:Iv w0} : Q3 (base w0 hi) (av 99):=by
 constructor
 ·intro M y Q hM hy hQ
  simp only[List.mem_cons,List.not_mem_nil,or_false] at hy
  rcases hy with rfl | rfl | rfl | rfl | rfl
  ·exact nz (k:=118) (by decide) (by kernel_rfl) (by decide) hM hQ
  ·exact nz (k:=99) (by decide) (by kernel_rfl) (by decide) hM hQ
  ·exact nz (k:=97) (by decide) (by kernel_rfl) (by decide) hM hQ
  ·exact nz (k:=114) (by decide) (by kernel_rfl) (by decide) hM hQ
  ·exact nz (k:=100) (by decide) (by kernel_rfl) (by decide) hM hQ
 ·intro M y Q hM hy hQ
  simp only[List.mem_cons,List.not_mem_nil,or_false] at hy
  rcases hy with rfl | rfl | rfl | rfl | rfl
  ·exact nz (k:=86) (by decide) (by kernel_rfl) (by decide) hM hQ
  ·exact nz (k:=67) (by decide) (by kernel_rfl) (by decide) hM hQ
  ·exact nz (k:=65) (by decide) (by kernel_rfl) (by decide) hM hQ
  ·exact nz (k:=82) (by decide) (by kernel_rfl) (by decide) hM hQ
  ·exact nz (k:=68) (by decide) (by kernel_rfl) (by decide) hM hQ
end vcl
end Go.Proofs.YtoikjkmmdpdkbaaGreatDoor
namespace Go.Proofs.YtoikjkmmdpdkbaaGreatDoor.vcl
open Go Go.Ab Go.Ab.Vl Go.Ab.Vc Go.RowKit Go.Proofs Go.Proofs.YtoikjkmmdpdkbaaGreatDoor
theorem Oy {f:FuncId} {W:RM→ai→Prop} (h:∀ {M:RM} {Q:ai},W M Q→av f [] M Q) : ∀ args M Q,(args=[]∧W M Q)→av f args M Q:=by
 rintro args M Q ⟨rfl,k⟩; exact h k
theorem dC {f:FuncId} {W:AV→RM→ai→Prop} (h:∀ {a0:AV} {M:RM} {Q:ai},W a0 M Q→av f [a0] M Q) : ∀ args M Q,(∃ a0,args=[a0]∧W a0 M Q)→av f args M Q:=by
 rintro args M Q ⟨a0,rfl,k⟩; exact h k
theorem dM {f:FuncId} {W:AV→AV→RM→ai→Prop} (h:∀ {a0 a1:AV} {M:RM} {Q:ai},W a0 a1 M Q→av f [a0,a1] M Q) : ∀ args M Q,(∃ a0 a1,args=[a0,a1]∧W a0 a1 M Q)→av f args M Q:=by
 rintro args M Q ⟨a0,a1,rfl,k⟩; exact h k
theorem WY {f:FuncId} {W:AV→AV→AV→RM→ai→Prop} (h:∀ {a0 a1 a2:AV} {M:RM} {Q:ai},W a0 a1 a2 M Q→av f [a0,a1,a2] M Q) : ∀ args M Q,(∃ a0 a1 a2,args=[a0,a1,a2]∧W a0 a1 a2 M Q)→av f args M Q:=by
 rintro args M Q ⟨a0,a1,a2,rfl,k⟩; exact h k
section
variable {w0:World} {hi:Iv w0}
theorem Cq:QY (FB Tryz.prog 135):=by
 intro v M Q hQ
 exact .inr (.inr (.inl ⟨⟨Tryz.f135,by kernel_rfl,by kernel_rfl,by kernel_rfl,by kernel_rfl⟩,v,rfl,hQ⟩))
theorem check:wN 122 (av 107):=by
 intro x0 x1 x2 x3 x4 x5 x6 x7 x8
 refine dC mZ _ _ _ ?_
 apply (OL Cq) <;> assumption
theorem OJ:yO 122 5 (av 69):=by
 intro x0 x1 x2 x3 x4 x5 x6 x7 x8
 refine dM iM _ _ _ ?_
 apply (EG check) <;> assumption
theorem Ib:rC 122 5 (av 69):=by
 intro x0 x1 x2 x3 x4 x5 x6 x7 x8
 refine dM iM _ _ _ ?_
 apply (Gv check) <;> assumption
theorem writeString:oq 122 5 (av 70):=by
 intro x0 x1 x2 x3 x4 x5 x6 x7 x8
 refine dM iq _ _ _ ?_
 apply (DL check) <;> assumption
theorem JH:uC 122 5 (av 70):=by
 intro x0 x1 x2 x3 x4 x5 x6 x7 x8
 refine dM iq _ _ _ ?_
 apply (CJ check) <;> assumption
theorem Cc:su 122 5 (av 71):=by
 intro x0 x1 x2 x3 x4 x5 x6 x7
 refine dC ol _ _ _ ?_
 apply LF <;> assumption
theorem Qa {x:UInt8} : Vl.FW x (av 114):=by
 intro x0 x1 x2 x3
 refine dM mQ _ _ _ ?_
 apply (Jd QV) <;> assumption
theorem index:Vl.PI (av 114):=fun h=>Qa h
theorem Y5:Vl.vX (av 89):=by
 intro x0 x1 x2 x3 x4
 refine dM iX _ _ _ ?_
 apply (Iy index) <;> assumption
theorem cut:Vl.vX (av 54):=by
 intro x0 x1 x2 x3 x4
 refine dM oQ _ _ _ ?_
 apply (Vl.Ee Y5) <;> assumption
theorem hasSuffix:yN (av 115):=by
 intro x0 x1 x2 x3 x4
 refine dM lv _ _ _ ?_
 apply Gu <;> assumption
theorem WG:Cr (av 90):=by
 intro x0 x1 x2 x3 x4
 refine dM lg _ _ _ ?_
 apply (Gn hasSuffix) <;> assumption
theorem trimS:Cr (av 55):=by
 intro x0 x1 x2 x3 x4
 refine dM qP _ _ _ ?_
 apply (PY WG) <;> assumption
theorem U5:Dn 9 3 (av 31):=by
 intro x0 x1 x2 x3 x4
 refine dC xY _ _ _ ?_
 apply (Jh cut trimS) <;> assumption
theorem piece:Jq (base w0 hi) (av 77):=by
 intro x0 x1 x2 x3 x4 x5 x6 x7
 refine dM Aa _ _ _ ?_
 apply (Nv decode) <;> assumption
theorem fold:QI (base w0 hi) (av 43):=by
 intro M s Q h1 h2 h3
 exact Bn (QE (T8:=5) (piece (hi:=hi)) writeString Cc h1 h2 h3)
theorem WQ {x:UInt8} : zG x (av 89):=by
 intro x0 x1 x2 x3 x4
 refine dM iX _ _ _ ?_
 apply (Gi Qa) <;> assumption
theorem VD {x:UInt8} : zG x (av 54):=by
 intro x0 x1 x2 x3 x4
 refine dM oQ _ _ _ ?_
 apply (QT WQ) <;> assumption
theorem MK:mH (av 94):=by
 intro x0 x1 x2 x3 x4 x5
 refine dM gK _ _ _ ?_
 apply Dr <;> assumption
theorem GJ:mH (av 58):=by
 intro x0 x1 x2 x3 x4 x5
 refine dM rG _ _ _ ?_
 apply (LA MK) <;> assumption
theorem plain:Lh (av 97):=by
 intro x0 x1 x2 x3
 refine dC Af _ _ _ ?_
 apply Pg <;> assumption
theorem V8:Jl (av 93):=by
 intro x0 x1 x2 x3 x4
 refine dC Ag _ _ _ ?_
 apply O3 <;> assumption
theorem O0:jo (av 65):=by
 intro x0 x1 x2 x3 x4 x5
 refine dM gI _ _ _ ?_
 apply (Ac MK) <;> assumption
theorem Aq:jo (av 35):=by
 intro x0 x1 x2 x3 x4 x5
 refine dM lD _ _ _ ?_
 apply (FU O0) <;> assumption
theorem YI:Ri (av 94):=by
 intro x0 x1 x2 x3 x4
 refine dM gK _ _ _ ?_
 apply IG <;> assumption
theorem U0:sD (av 65):=by
 intro x0 x1 x2 x3 x4
 refine dM gI _ _ _ ?_
 apply (D6 YI) <;> assumption
theorem UH:sD (av 35):=by
 intro x0 x1 x2 x3 x4
 refine dM lD _ _ _ ?_
 apply (Lv U0) <;> assumption
theorem uS:mJ (base w0 hi) (av 61):=by
 intro x0 x1 x2 x3 x4 x5 x6
 refine dM uN _ _ _ ?_
 apply (GQ plain ND valid) <;> assumption
theorem Di:qH (base w0 hi) gP (av 59):=by
 intro x0 x1 x2 x3 x4 x5
 refine dC vK _ _ _ ?_
 apply (Ir trim) <;> assumption
theorem word:Jc (base w0 hi) (av 57):=by
 intro x0 x1 x2 x3 x4 x5
 refine dC AR _ _ _ ?_
 apply (PH V8 trimLeft) <;> assumption
theorem value:Kt (base w0 hi) (av 96):=by
 intro x0 x1 x2 x3 x4 x5
 refine dC Ah _ _ _ ?_
 apply (OH Aq VD uS XG) <;> assumption
theorem params:F5 (base w0 hi) gP 114 (av 60):=by
 intro x0 x1 x2 x3 x4 x5 x6
 refine dC zK _ _ _ ?_
 apply (LW GJ word Di value) <;> assumption
theorem WK:VA (base w0 hi) gP (av 32):=by
 intro x0 x1 x2 x3 x4 x5 x6
 refine dC BO _ _ _ ?_
 apply (Vl.Ar (TP:=114) valid word GJ Di params uS) <;> assumption
theorem readAll:sN (base w0 hi) gP (av 17):=by
 intro x0 x1 x2 x3 x4 x5 x6
 refine dC Bd _ _ _ ?_
 apply (KE U5 WK) <;> assumption
theorem great:K4 (av 76):=by
 intro x0 x1 x2 x3 x4
 refine dC Ak _ _ _ ?_
 apply Ox <;> assumption
theorem Y1:Rp (base w0 hi) (av 72):=by
 intro x0 x1 x2 x3 x4 x5
 refine dM kE _ _ _ ?_
 apply (Sr XG) <;> assumption
theorem WB:NW (base w0 hi) (av 72):=by
 intro x0 x1 x2 x3 x4 x5
 refine dM kE _ _ _ ?_
 apply (QM XJ) <;> assumption
theorem Yl:Sg (base w0 hi) (av 75):=by
 intro x0 x1 x2 x3 x4 x5
 refine dC yB _ _ _ ?_
 apply (OB uS) <;> assumption
theorem Wq:FZ (base w0 hi) 75 (av 109):=by
 intro x0 x1 x2 x3 x4 x5 x6 x7 x8
 refine dM uo _ _ _ ?_
 apply (Io (n:=75) (cv:=av) Yl) <;> assumption
theorem VB:Gy (base w0 hi) 75 (av 74):=by
 intro x0 x1 x2 x3 x4 x5 x6 x7 x8
 refine dM qm _ _ _ ?_
 apply (Dl Wq) <;> assumption
theorem WX:KJ (base w0 hi) gP (av 41):=by
 intro x0 x1 x2 x3 x4 x5 x6 x7 x8 x9
 refine dC BC _ _ _ ?_
 apply (Vl.AB Di uS VB) <;> assumption
theorem Xl:NQ (base w0 hi) (av 42):=by
 intro x0 x1 x2 x3 x4 x5 x6 x7 x8 x9 x10
 refine dC BK _ _ _ ?_
 apply (Pn JH great OJ Y1 Cc) <;> assumption
theorem P5:ED (base w0 hi) (jw gP) (av 22):=by
 intro x0 x1 x2 x3 x4 x5 x6 x7 x8 x9 x10
 refine dC Ai _ _ _ ?_
 apply (NV WX Xl fold) <;> assumption
theorem Vj:Nw (av 38):=by
 intro x0 x1 x2 x3 x4
 refine dC xN _ _ _ ?_
 apply (LU Ib writeString Cc) <;> assumption
theorem Vu:Jv (N .i64 14) (N .i64 0) (av 40):=by
 intro x0 x1 x2 x3 x4
 refine dC vF _ _ _ ?_
 apply (IB Ib ND Cc) <;> assumption
theorem Tp:Jb (av 29):=by
 intro x0 x1 x2 x3
 refine dC wB _ _ _ ?_
 apply Qt <;> assumption
theorem TA:IR (av 37):=by
 intro x0 x1 x2 x3
 refine dC yZ _ _ _ ?_
 apply QJ <;> assumption
theorem VZ:NN (base w0 hi) (av 30):=by
 intro x0 x1 x2 x3 x4 x5 x6
 refine dM vZ _ _ _ ?_
 apply (SH itoa) <;> assumption
theorem Vm:JQ (base w0 hi) (av 39):=by
 intro x0 x1 x2 x3 x4 x5 x6 x7 x8 x9 x10
 refine dC Al _ _ _ ?_
 apply (Oi WB) <;> assumption
theorem NF:EC (base w0 hi) (av 21):=by
 intro x0 x1 x2 x3 x4 x5 x6 x7 x8 x9 x10
 refine dC Bw _ _ _ ?_
 apply (PO Vm TA Vu Vj) <;> assumption
theorem PW:FC (base w0 hi) (av 16):=by
 intro x0 x1 x2 x3 x4 x5 x6 x7 x8 x9 x10 x11
 refine dM Ad _ _ _ ?_
 apply (NY P5 Tp NF VZ) <;> assumption
theorem foldEq:F7 (base w0 hi) (av 62):=by
 intro x0 x1 x2 x3 x4 x5
 refine dM ru _ _ _ ?_
 apply (Mf Wh VT) <;> assumption
theorem VO:JK (base w0 hi) (av 33):=by
 intro x0 x1 x2 x3 x4 x5 x6 x7 x8 x9 x10
 refine dM wU _ _ _ ?_
 apply (OA foldEq) <;> assumption
theorem Vf:Kh (base w0 hi) (av 66):=by
 intro x0 x1 x2 x3 x4 x5
 refine dC BG _ _ _ ?_
 apply (Ph trimLeft) <;> assumption
theorem WT:O1 (base w0 hi) (av 67):=by
 intro x0 x1 x2 x3 x4 x5
 refine dC Am _ _ _ ?_
 apply (QX Aq VD XJ) <;> assumption
theorem Zp:Wi (base w0 hi) (av 36):=by
 intro x0 x1 x2 x3 x4 x5
 refine dC wH _ _ _ ?_
 apply (UL Vf Aq GJ WT atoi) <;> assumption
theorem TJ:IU (base w0 hi) (av 20):=by
 intro x0 x1 x2 x3 x4 x5 x6
 refine dC Bb _ _ _ ?_
 apply (P9 UH Zp TA Vj PW) <;> assumption
theorem PD:Er (base w0 hi) (av 15):=by
 intro x0 x1 x2 x3 x4 x5 x6
 refine dC AZ _ _ _ ?_
 apply (OD TJ) <;> assumption
theorem QG:IK (base w0 hi) (av 11):=by
 intro x0 x1 x2 x3 x4 x5 x6
 refine dC Bu _ _ _ ?_
 apply (Vc.AB PD) <;> assumption
theorem Yg:Sw (base w0 hi) (av 10):=by
 intro x0 x1 x2 x3 x4 x5 x6 x7 x8 x9 x10
 refine dC yF _ _ _ ?_
 apply (Rc TJ QG NF P5) <;> assumption
theorem Yy:Vc.vX (base w0 hi) (av 18):=by
 intro x0 x1 x2 x3 x4 x5 x6 x7 x8 x9 x10
 refine dC CL _ _ _ ?_
 apply (Vc.Ee VO Tp) <;> assumption
theorem Uo:Sha.Jf 5 (av 103):=by
 intro x0 x1 x2 x3 x4 x5 x6
 refine dC Bv _ _ _ ?_
 apply Sha.NI <;> assumption
theorem WZ:Sha.RD (av 149):=by
 intro x0 x1 x2 x3 x4 x5
 refine dM oh _ _ _ ?_
 apply Sha.Rb <;> assumption
theorem V7:Sha.NT .i64 (av 126):=by
 intro x0 x1 x2 x3 x4 x5
 refine dM DU _ _ _ ?_
 apply (Sha.QQ WZ) <;> assumption
theorem Wj:Sha.OI 144 147 (av 102):=by
 intro x0 x1 x2 x3 x4 x5 x6 x7 x8 x9 x10 x11 x12 x13 x14 x15 x16 x17
 refine WY wC _ _ _ ?_
 apply (Sha.QP V7) <;> assumption
theorem Uw:Sha.wK Sha.kW (av 100):=by
 intro x0 x1 x2
 refine Oy wZ _ _ _ ?_
 apply Sha.FT <;> assumption
theorem UI:Sha.wK Sha.hW (av 101):=by
 intro x0 x1 x2
 refine Oy CK _ _ _ ?_
 apply Sha.Ov <;> assumption
theorem Xb:Sha.RX (av 64):=by
 intro x0 x1 x2 x3 x4 x5 x6
 refine dC Eh _ _ _ ?_
 apply (Sha.RU Uw UI Wj Uo) <;> assumption
theorem WL:Sha.Pj (av 63):=by
 intro x0 x1 x2 x3 x4
 refine dC Eu _ _ _ ?_
 apply Sha.QZ <;> assumption
theorem WV:OY (base w0 hi) (av 34):=by
 intro x0 x1 x2 x3 x4 x5 x6 x7 x8 x9
 refine dM wJ _ _ _ ?_
 apply (Ps (B:=base w0 hi) Xb WL) <;> assumption
theorem Xf:O7 (base w0 hi) (av 19):=by
 intro x0 x1 x2 x3 x4 x5 x6 x7 x8 x9 x10 x11 x12
 refine dC Ap _ _ _ ?_
 apply (Vc.Ar NF VZ (WV (hi:=hi))) <;> assumption
theorem Vr:GH (base w0 hi) (av 9):=by
 intro x0 x1 x2 x3 x4 x5 x6 x7
 refine dC zB _ _ _ ?_
 apply (Tk readAll Yy Xf) <;> assumption
theorem awake:VI (base w0 hi) (av 8):=by
 intro x0 x1 x2 x3
 refine Oy Ae _ _ _ ?_
 apply (Ou Vr Yg PD PW QG) <;> assumption
end
end Go.Proofs.YtoikjkmmdpdkbaaGreatDoor.vcl
namespace Go.Proofs
open Go.RowKit Go.Shelf
def Tryz.lays260_ren:Go.Shelf.Ren:=⟨fun | 260=>123 | n=>n,fun | 9=>9 | 21=>21 | 3=>3 | 4=>4 | 5=>5 | 119=>135 | 0=>0 | 46=>139 | 139=>138 | 138=>137 | n=>n,fun | 3=>0 | 4=>1 | n=>n⟩
theorem Tryz.lays260:Go.Proofs.Lays.n260 Tryz.prog Tryz.lays260_ren where
 mixed:=by kernel_rfl
 f260:=Tryz.func123.trans (congrArg some (by kernel_rfl))
 t0:=Tryz.underlying0
 a0:=Tryz.isAgg0
 z0:=Tryz.sizeOf0
 v0:=Tryz.zeroValue0
 t3:=Tryz.underlying3
 a3:=Tryz.isAgg3
 z3:=Tryz.sizeOf3
 v3:=Tryz.zeroValue3
 t4:=Tryz.underlying4
 a4:=Tryz.isAgg4
 z4:=Tryz.sizeOf4
 v4:=Tryz.zeroValue4
 t5:=Tryz.underlying5
 a5:=Tryz.isAgg5
 z5:=Tryz.sizeOf5
 v5:=Tryz.zeroValue5
 t9:=Tryz.underlying9
 a9:=Tryz.isAgg9
 z9:=Tryz.sizeOf9
 v9:=Tryz.zeroValue9
 t21:=Tryz.underlying21
 a21:=Tryz.isAgg21
 z21:=Tryz.sizeOf21
 v21:=Tryz.zeroValue21
 t46:=Tryz.underlying139
 a46:=Tryz.isAgg139
 z46:=Tryz.sizeOf139
 v46:=Tryz.zeroValue139
 t119:=Tryz.underlying135
 a119:=Tryz.isAgg135
 z119:=Tryz.sizeOf135
 t138:=Tryz.underlying137
 a138:=Tryz.isAgg137
 z138:=Tryz.sizeOf137
 v138:=Tryz.zeroValue137
 t139:=Tryz.underlying138
 a139:=Tryz.isAgg138
 z139:=Tryz.sizeOf138
 v139:=Tryz.zeroValue138
 g3:=by kernel_rfl
 g4:=by kernel_rfl
end Go.Proofs
namespace Go.Proofs.YtoikjkmmdpdkbaaGreatDoor.vcl
open Go Go.Ab Go.RowKit Go.Proofs Go.Lib
open Go.Proofs.YtoikjkmmdpdkbaaGreatDoor
theorem ku {P:Program} {n:String} {d:DataW Unit} {r:List (String × DataW Unit)} {w:World} (h:laidMet P ((n,d) :: r) w) : laidMet P r w:=by
 obtain⟨ps,⟨g,t,cs,fuel,p,q,_,_,_,_,hs,rfl⟩,hnd,hall⟩:=h
 exact⟨q,hs,(List.nodup_append.1 hnd).2.1,fun b off hm=>hall b off (by simp[hm])⟩
theorem wL {P:Program} {w:World} {n:String} {d:DataW Unit} {g t:Nat} {ms:Array (String × TypeId)} (hg:P.globalNamed n=some g) (ht:(P.globals[g]?).map (·.type)=some t) (hu:P.underlying t=some (.interface ms))
  (h:VarReads P w n d) : ∃ ev,w.cell? ⟨g,0,none⟩=some ev∧(ev=.nilIface∨∃ te pe,ev=.iface te pe):=by
 obtain⟨g',t',cs,fuel,p,hg',ht',hvar,hd⟩:=h
 obtain rfl:=Option.some.inj (hg.symm.trans hg')
 obtain rfl:=Option.some.inj (ht.symm.trans ht')
 have hc:=World.var?_cell hg hvar 0
 cases fuel with
 | zero=>simp[DataW.trod] at hd
 | succ fuel =>
   have hl:cs[0]?=cs.toList[0]?:=by simp
   rw[hl] at hc
   unfold DataW.trod at hd
   simp only[hu] at hd
   generalize cs.toList=l at hc hd
   cases l with
   | nil=>simp at hd
   | cons v r =>
     cases r with
     | cons _ _=>simp at hd
     | nil =>
       refine⟨v,hc, ?_⟩
       cases v with
       | nilIface=>exact .inl rfl
       | iface te pe=>exact .inr ⟨te,pe,rfl⟩
       | _=>simp at hd
theorem UK:Rows.vcardKnownRow.laid=("math/bits.deBruijn32tab",Rows.laid_math_bits_deBruijn32tab) :: ("math/bits.deBruijn64tab",Rows.laid_math_bits_deBruijn64tab) :: ("internal/strconv.uint64pow10",Lib.tabData .u64 Lib.pow10Tab) ::
  ("unicode/utf8.acceptRanges",Lib.acceptData) :: ("strconv.ErrRange",Rows.laid_strconv_ErrRange) :: ("strconv.ErrSyntax",Rows.laid_strconv_ErrSyntax) :: ("unicode.asciiFold",Lib.tabData .u16 Gg) ::
  ("unicode.caseOrbit",Rows.laid_unicode_caseOrbit) :: ("unicode.CaseRanges",Rows.laid_unicode_CaseRanges) :: ("unicode/utf8.first",Lib.firstData) :: []:=by kernel_rfl
theorem inv_of (w:World) (h:laidMetH Tryz.prog Rows.vcardKnownRow.laid w) : Iv w:=by
 rw[MakeChecks.laidMetH_plain _ _ _ (by kernel_rfl),UK] at h
 refine⟨?_, ?_, ?_, ?_, ?_⟩
 ·exact utf8Tabs_of_reads (ρ:=Tryz.lays260_ren) Tryz.lays260 ⟨by kernel_rfl,by kernel_rfl,by kernel_rfl,by kernel_rfl,by kernel_rfl,by kernel_rfl,by kernel_rfl⟩
   (Lib.laidMet.reads h (.tail _ (.tail _ (.tail _ (.tail _ (.tail _ (.tail _ (.tail _ (.tail _ (.tail _ (.head _))))))))))) (Lib.laidMet.reads h (.tail _ (.tail _ (.tail _ (.head _)))))
 ·exact Lib.tabIs_of_head (g:=8) (t:=216) (e:=152) (n:=20) Rf (by kernel_rfl) (by kernel_rfl) (by kernel_rfl) (by kernel_rfl) (by kernel_rfl) (ku (ku h))
 ·exact Lib.tabIs_of_head (g:=2) (t:=170) (e:=169) (n:=128) Ja (by kernel_rfl) (by kernel_rfl) (by kernel_rfl) (by kernel_rfl) (by kernel_rfl) (ku (ku (ku (ku (ku (ku h))))))
 ·exact wL (n := "strconv.ErrSyntax") (t:=117) (by kernel_rfl) (by kernel_rfl) Tryz.underlying117 (Lib.laidMet.reads h (.tail _ (.tail _ (.tail _ (.tail _ (.tail _ (.head _)))))))
 ·exact wL (n := "strconv.ErrRange") (t:=117) (by kernel_rfl) (by kernel_rfl) Tryz.underlying117 (Lib.laidMet.reads h (.tail _ (.tail _ (.tail _ (.tail _ (.head _))))))
end Go.Proofs.YtoikjkmmdpdkbaaGreatDoor.vcl
namespace Go.Proofs.YtoikjkmmdpdkbaaGreatDoor.vcardRows
open Go Go.Ab Go.ChangeShapes Go.WideShapes Go.ChangeAt Go.RowKit
theorem own:ownKnob Tryz.prog.godebug=none:=by kernel_rfl
open Go.Ab.Vc Go.Proofs.YtoikjkmmdpdkbaaGreatDoor.vcl
def Inv (w:World) : Prop:=Iv w
theorem inv_of (w:World) (h:laidMetH Tryz.prog Rows.vcardRowsRow.laid w) : Inv w:=vcl.inv_of w h
theorem walk (w:World) (hi:Inv w) (v0 v1:Value) (h0:oz Tryz.prog (RM.old (base w hi) w) 9 (sM w.heap.size v0)) (h1:oz Tryz.prog (RM.old (base w hi) w) 9 (sM w.heap.size v1)) :
  Calls Tryz.prog 6 #[v0,v1] w fun e w'=>e=.returned (.bool true)∧Below w.heap.size w w':=by
 obtain⟨s0,e0,_⟩:=(h0.one (by kernel_rfl)).Mi Tryz.underlying9
 obtain⟨s1,e1,_⟩:=(h1.one (by kernel_rfl)).Mi Tryz.underlying9
 refine dW.close (base:=base w hi) rfl hi ?_
 simp only[List.map_cons,List.map_nil]
 rw[show sM (base w hi).n v0=St s0 from(List.cons.inj e0).1,show sM (base w hi).n v1=St s1 from(List.cons.inj e1).1]
 exact uM (Qo (awake (hi:=hi)) Vr rfl fun M' _=>rfl)
set_option maxRecDepth 100000 in
theorem lifted (os:Os) (started:os.Started) (H:Type) (enc:TypeId × Value→H) :
  ReturnsInHanded {} Tryz.checked os 6 .any (fun w args=>(Rows.vcardRowsSpec.pre enc Tryz.prog Tryz.f6 Rows.vcardRowsRow.domain false w args∧laidMetH Tryz.prog Rows.vcardRowsRow.laid w)∧sizedMet enc Tryz.prog Tryz.f6 (OpenSpec.ofChange Rows.vcardRowsSpec) false w args)
   (Rows.vcardRowsSpec.post enc Tryz.prog Tryz.f6 false true false false):=by
 refine returnsInHanded_of_change_and (C:=Tryz.checked) (X:=fun w _=>laidMetH Tryz.prog Rows.vcardRowsRow.laid w) (fun _ _ _ hh h=>h.of_heap hh) own started (by kernel_rfl) Tryz.func6
  (ChangeSpec.witness_shaped (enc:=enc) (C:=Tryz.checked) (os:=os) (X:=fun w _=>laidMetH Tryz.prog Rows.vcardRowsRow.laid w) false (World.laidAll Tryz.prog os Rows.vcardRowsRow.laid) #[.string ⟨#[]⟩,.string ⟨#[]⟩] 8 (World.laidAll_os _ _ _)
   (World.shaped_of_ZipB (by kernel_rfl) (by kernel_rfl)) (by kernel_rfl) (by kernel_rfl) (by kernel_rfl)
   (by rw[MakeChecks.laidMetH_plain _ _ _ (by kernel_rfl)]; exact laidMet_laidAll _ (by kernel_rfl) (by kernel_rfl))) ?_
 intro W b0 args ds gs before hval hW hcnd hwt hL _
 have hW':=hW
 obtain⟨p,q,hA,hV,rfl,hfz,hnd⟩:=hW
 rw[Tryz.params6] at hA hwt
 have hi:Inv W:=inv_of W hL
 obtain⟨rfl,rfl⟩:=trodVars_none hV
 have hfit:=JX (base:=base W hi) rfl hA (fun j t v hj hv=>hval j t v (by rw[Tryz.params6]; simpa using hj) (by simpa using hv)) (fun y hy=>by
  have YE:(DataW.weightsEach Tryz.prog [9,9] (ds++[])).all (· ≤ reachBytes)=true:=hwt
  have:=List.all_eq_true.1 YE y (by rw[List.append_nil]; exact hy)
  simpa using this)
 simp only[List.append_nil] at hW'
 have hlt:∀ x∈p,x.block<W.heap.size:=fun x hx=>hW'.lt x hx
 obtain⟨v0,v1,d0,d1,p0,p1,rfl,rfl,rfl,h0,h1⟩:=trodAll_two hA
 refine(walk W hi v0 v1 (hfit 0 _ _ rfl rfl) (hfit 1 _ _ rfl rfl)).mono fun e W' ⟨he,hg⟩=>?_
 subst he
 exact⟨_,rfl,IC (pa:=_) (pv:=[]) hW' (fun _ _ _=>(trodAll_cons_mk (shut_bool Tryz.underlying4 _) trodAll_mk0)) (fun sp hsp=>by
   rw[Tryz.params6]
   exact zX (by kernel_rfl) hg (fun t ht=>by
    have ht:t=9∨t=9:=by simpa using ht
    rcases ht with rfl | rfl <;> exact⟨by kernel_rfl,of_decide_eq_true (by kernel_rfl)⟩) hA hlt hsp) (fun _ _=>rfl) (by simp)
  hg (ok_one (by kernel_rfl) rfl (okWide_bool_mk Tryz.underlying4 _))⟩
theorem over:Rows.VcardRowsSaid :=
 OpenClaim.holds_of_wide 6 Tryz.f6 rfl rfl rfl rfl rfl rfl rfl ⟨rfl,rfl,rfl,rfl,rfl⟩ rfl rfl rfl rfl rfl (by kernel_rfl) Tryz.func6 (by kernel_rfl)
  (of_decide_eq_true (by kernel_rfl)) (by unfold Func.isWrapper; first | (rw[if_pos (by decide +kernel)]; kernel_rfl) | (rw[if_neg (by decide +kernel)]; exact⟨rfl,rfl⟩))
  (fun os started H enc _=>lifted os started H enc)
theorem proved:Rows.VcardRowsCardSaid :=
 Claim7.holds_tied_plain_at .later [] [.data,.data,.data,.data,.sentinel,.sentinel,.data,.data,.pinned,.pinned] true (true,"eb59256b20cf9d8d51688f576570b28cac727539ba32f5a417697ee14c2f5683") true
  over (fun _ h=>by cases h) (by kernel_rfl) (fun _ h=>by cases h) vcardRows_row_tie rfl ⟨rfl,rfl⟩ (by kernel_rfl) rfl
  (fun f fn hf hfn=>by
   obtain rfl:f=6:=Option.some.inj ((show Tryz.prog.funcNamed "rolodex/rolodexlaw24.VcardRows" = some 6 by kernel_rfl).symm.trans hf) |>.symm
   obtain rfl:fn=Tryz.f6:=(Option.some.inj (Tryz.func6.symm.trans hfn)).symm
   exact⟨by kernel_rfl,fun j t ht=>by
    rw[Tryz.params6] at ht
    have hm:=Array.mem_of_getElem? ht
    have hm:t=9∨t=9:=by simpa using hm
    rcases hm with rfl | rfl
    ·exact(by kernel_rfl:Tryz.prog.wantsStandIn 9=false)
    ·exact(by kernel_rfl:Tryz.prog.wantsStandIn 9=false)⟩)
  (by kernel_rfl)
end Go.Proofs.YtoikjkmmdpdkbaaGreatDoor.vcardRows
