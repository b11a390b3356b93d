/- 'VcardKnown' returns true, in whatever world it is called: the examples of chapter 24 answer as they are told; the card's listed variables are tied to the program's text. No other condition. By an AI agent. -/
import Derived.Test.YtoikjkmmdpdkbaaGreatDoorVck5
import Derived.KernelRfl
import Derived.Test.YtoikjkmmdpdkbaaGreatDoorProg
import Derived.Lib.LaidTab
import Derived.Lib.LaidU8
import Derived.Shelf.Vars
import Derived.Shelf.LaysC
import Derived.Shelf.Unicode.ValidAny
import Derived.Shelf.Unicode.DecodeAny
import Derived.Shelf.Strings.SlTrimAscii
import Derived.Shelf.Strings.IndexAnyAll
import Derived.Shelf.Strconv.Itoa3
import Derived.Shelf.Strconv.AtoiAll
import Derived.WalkKit
import Derived.Below
import Derived.ProofKit
import Derived.Test.YtoikjkmmdpdkbaaGreatDoorRows
import Derived.LaidMore
import Derived.Lay
import Derived.Test.YtoikjkmmdpdkbaaGreatDoorTie
import Derived.Test.YtoikjkmmdpdkbaaGreatDoorCards
import Derived.OpenShut
import Derived.SevenTiedAt
import Derived.Stop.Joined
set_option maxRecDepth 100000
set_option linter.unusedVariables false
set_option linter.unusedSimpArgs false
namespace Go.Proofs.YtoikjkmmdpdkbaaGreatDoor
open Go Go.Ab
abbrev av := @dR Tryz.prog
theorem Ww:Aq Tryz.prog:=⟨Q5 (by kernel_rfl),by kernel_rfl⟩
theorem bn {f:FuncId} {fn:Func} {args:List AV} {M:RM} {Q:ai} {B:Prop} (h:B) (hfn:Tryz.prog.funcs[f]?=some fn:=by kernel_rfl) (e:B=Fj Tryz.prog fn args M Q:=by kernel_rfl) : av f args M Q:=Qb Ww hfn (e▸h)
variable {a0 a1 a2 a3 a4 a5 a6 a7:AV} {M:RM} {Q:ai}
theorem uh (h:Go.Ab.Vc.lS (av 8) (av 9) 30 (av 10) (av 11)  M Q) : av 3 [] M Q:=bn (fn:=Tryz.f3) h
theorem zI (h:Go.Ab.Vc.qx (av 9) (av 10) (av 15) 48 (av 16) 30 (av 11)  M Q) : av 8 [] M Q:=bn (fn:=Tryz.f8) h
theorem xR (h:Go.Ab.Vc.oK (av 17) (av 18) (av 19) 33 a0 M Q) : av 9 [a0] M Q:=bn (fn:=Tryz.f9) h
theorem yX (h:Go.Ab.Vc.pJ 33 30 (av 20) 48 (av 11) (av 21) (av 22) a0 M Q) : av 10 [a0] M Q:=bn (fn:=Tryz.f10) h
theorem Av (h:Go.Ab.Vc.tq 30 (av 15) 48 a0 M Q) : av 11 [a0] M Q:=bn (fn:=Tryz.f11) h
theorem Bq (h:Go.Ab.Vc.sW 30 48 (av 20) a0 M Q) : av 15 [a0] M Q:=bn (fn:=Tryz.f15) h
theorem zK (h:Go.Ab.Vc.qL 48 30 (av 22) (av 29) (av 21) (av 30) a0 a1 M Q) : av 16 [a0,a1] M Q:=bn (fn:=Tryz.f16) h
theorem Be (h:Go.Ab.Vl.ul (av 31) (av 32) 48 a0 M Q) : av 17 [a0] M Q:=bn (fn:=Tryz.f17) h
theorem Ci (h:Go.Ab.Vc.uT 48 (av 33) (av 29) 53 a0 M Q) : av 18 [a0] M Q:=bn (fn:=Tryz.f18) h
theorem Ad (h:Go.Ab.Vc.sO 33 48 (av 21) 30 (av 30) (av 34) a0 M Q) : av 19 [a0] M Q:=bn (fn:=Tryz.f19) h
theorem AJ (h:Go.Ab.Vc.sV 30 48 (av 35) (av 36) (av 37) (av 38) (av 16) a0 M Q) : av 20 [a0] M Q:=bn (fn:=Tryz.f20) h
theorem Bc (h:Go.Ab.Vc.rY 48 30 (av 39) (av 37) (av 40) (av 38) a0 M Q) : av 21 [a0] M Q:=bn (fn:=Tryz.f21) h
theorem zJ (h:Go.Ab.Vl.qJ 48 (av 41) (av 42) (av 43) a0 M Q) : av 22 [a0] M Q:=bn (fn:=Tryz.f22) h
theorem uR (h:Go.Ab.Vc.mY a0 M Q) : av 29 [a0] M Q:=bn (fn:=Tryz.f29) h
theorem uU (h:Go.Ab.Vc.mZ (av 53) a0 a1 M Q) : av 30 [a0,a1] M Q:=bn (fn:=Tryz.f30) h
theorem wM (h:Go.Ab.Vl.oU (av 54) (av 55) 9 3 a0 M Q) : av 31 [a0] M Q:=bn (fn:=Tryz.f31) h
theorem Ba (h:Go.Ab.Vl.tO 48 (av 56) (av 57) (av 58) (av 59) (av 60) (av 61) a0 M Q) : av 32 [a0] M Q:=bn (fn:=Tryz.f32) h
theorem vX (h:Go.Ab.Vc.nZ 48 (av 62) a0 a1 M Q) : av 33 [a0,a1] M Q:=bn (fn:=Tryz.f33) h
theorem wJ (h:Go.Ab.Vc.oC 48 5 (av 64) (av 63) a0 a1 M Q) : av 34 [a0,a1] M Q:=bn (fn:=Tryz.f34) h
theorem lc (h:Go.Ab.Vl.gy (av 65) a0 a1 M Q) : av 35 [a0,a1] M Q:=bn (fn:=Tryz.f35) h
theorem vR (h:Go.Ab.Vc.nQ 48 (av 66) (av 35) (av 58) 114 (av 67) 9 (av 68) a0 M Q) : av 36 [a0] M Q:=bn (fn:=Tryz.f36) h
theorem xG (h:Go.Ab.Vc.pg a0 M Q) : av 37 [a0] M Q:=bn (fn:=Tryz.f37) h
theorem xV (h:Go.Ab.Vl.pF 122 5 (av 69) (av 70) (av 71) a0 M Q) : av 38 [a0] M Q:=bn (fn:=Tryz.f38) h
theorem zQ (h:Go.Ab.Vc.qA 48 114 (av 72) a0 M Q) : av 39 [a0] M Q:=bn (fn:=Tryz.f39) h
theorem uS (h:Go.Ab.Vl.ny 122 (av 69) (av 73) (av 71) a0 M Q) : av 40 [a0] M Q:=bn (fn:=Tryz.f40) h
theorem Ar (h:Go.Ab.Vl.sJ 48 (av 59) (av 61) 114 (av 74) 75 a0 M Q) : av 41 [a0] M Q:=bn (fn:=Tryz.f41) h
theorem AP (h:Go.Ab.Vl.ug 48 122 (av 70) (av 76) 114 (av 69) (av 72) (av 71) a0 M Q) : av 42 [a0] M Q:=bn (fn:=Tryz.f42) h
theorem zY (h:Go.Ab.Vl.sQ 122 (av 77) (av 70) (av 71) a0 M Q) : av 43 [a0] M Q:=bn (fn:=Tryz.f43) h
theorem oD (h:Go.Ab.Vl.kN (av 89) a0 a1 M Q) : av 54 [a0,a1] M Q:=bn (fn:=Tryz.f54) h
theorem qH (h:Go.Ab.Vl.kg (av 90) a0 a1 M Q) : av 55 [a0,a1] M Q:=bn (fn:=Tryz.f55) h
theorem A8 (h:Go.Ab.Vl.si (av 93) (av 92) a0 M Q) : av 57 [a0] M Q:=bn (fn:=Tryz.f57) h
theorem ru (h:Go.Ab.Vl.kX (av 94) a0 a1 M Q) : av 58 [a0,a1] M Q:=bn (fn:=Tryz.f58) h
theorem uX (h:Go.Ab.Vl.nA (av 95) a0 M Q) : av 59 [a0] M Q:=bn (fn:=Tryz.f59) h
theorem xQ (h:Go.Ab.Vl.oO (av 58) 114 (av 57) (av 59) (av 96) 9 a0 M Q) : av 60 [a0] M Q:=bn (fn:=Tryz.f60) h
theorem uu (h:Go.Ab.Vl.mF 5 (av 97) (av 73) (av 56) a0 a1 M Q) : av 61 [a0,a1] M Q:=bn (fn:=Tryz.f61) h
theorem qY (h:Go.Ab.Vc.kS (av 98) (av 99) a0 a1 M Q) : av 62 [a0,a1] M Q:=bn (fn:=Tryz.f62) h
theorem Ev (h:Go.Ab.Sha.Bl 111 5 a0 M Q) : av 63 [a0] M Q:=bn (fn:=Tryz.f63) h
theorem Ff (h:Go.Ab.Sha.zX 111 (av 100) 144 (av 101) 147 (av 102) (av 103) 5 a0 M Q) : av 64 [a0] M Q:=bn (fn:=Tryz.f64) h
theorem gz (h:Go.Ab.Vl.cK (av 94) a0 a1 M Q) : av 65 [a0,a1] M Q:=bn (fn:=Tryz.f65) h
theorem Az (h:Go.Ab.Vc.rZ (av 92) a0 M Q) : av 66 [a0] M Q:=bn (fn:=Tryz.f66) h
theorem zP (h:Go.Ab.Vc.qB (av 35) (av 54) (av 104) a0 M Q) : av 67 [a0] M Q:=bn (fn:=Tryz.f67) h
theorem iD (h:Go.Ab.Vl.dN (av 107) 5 a0 a1 M Q) : av 69 [a0,a1] M Q:=bn (fn:=Tryz.f69) h
theorem gV (h:Go.Ab.Vl.dE (av 107) 5 a0 a1 M Q) : av 70 [a0,a1] M Q:=bn (fn:=Tryz.f70) h
theorem nX (h:Go.Ab.Vl.iN 5 a0 M Q) : av 71 [a0] M Q:=bn (fn:=Tryz.f71) h
theorem jY (h:Go.Ab.Vl.fG (av 104) a0 a1 M Q) : av 72 [a0,a1] M Q:=bn (fn:=Tryz.f72) h
theorem qR (h:Go.Ab.Vl.oF (av 108) a0 a1 M Q) : av 73 [a0,a1] M Q:=bn (fn:=Tryz.f73) h
theorem ql (h:Go.Ab.Vl.jM (av 109) a0 a1 M Q) : av 74 [a0,a1] M Q:=bn (fn:=Tryz.f74) h
theorem yQ (h:Go.Ab.Vl.oQ (av 61) a0 M Q) : av 75 [a0] M Q:=bn (fn:=Tryz.f75) h
theorem zR (h:Go.Ab.Vl.qG 5 a0 M Q) : av 76 [a0] M Q:=bn (fn:=Tryz.f76) h
theorem zO (h:Go.Ab.Vl.qD (av 98) a0 a1 M Q) : av 77 [a0,a1] M Q:=bn (fn:=Tryz.f77) h
theorem iJ (h:Go.Ab.Vl.dS (av 114) a0 a1 M Q) : av 89 [a0,a1] M Q:=bn (fn:=Tryz.f89) h
theorem kQ (h:Go.Ab.Vl.fA (av 115) a0 a1 M Q) : av 90 [a0,a1] M Q:=bn (fn:=Tryz.f90) h
theorem tY (h:Go.Ab.Vl.pY (av 116) (av 117) 164 (av 118) (av 119) a0 a1 M Q) : av 92 [a0,a1] M Q:=bn (fn:=Tryz.f92) h
theorem zN (h:Go.Ab.Vl.qM 5 a0 M Q) : av 93 [a0] M Q:=bn (fn:=Tryz.f93) h
theorem gB (h:Go.Ab.Vl.cO a0 a1 M Q) : av 94 [a0,a1] M Q:=bn (fn:=Tryz.f94) h
theorem yV (h:Go.Ab.Vl.vZ (av 120) (av 116) (av 117) 164 (av 121) (av 118) (av 122) (av 119) a0 a1 M Q) : av 95 [a0,a1] M Q:=bn (fn:=Tryz.f95) h
theorem zS (h:Go.Ab.Vl.qC (av 35) (av 54) (av 61) (av 104) a0 M Q) : av 96 [a0] M Q:=bn (fn:=Tryz.f96) h
theorem zH (h:Go.Ab.Vl.qK a0 M Q) : av 97 [a0] M Q:=bn (fn:=Tryz.f97) h
theorem wG (h:Go.Ab.Sha.nP 144  M Q) : av 100 [] M Q:=bn (fn:=Tryz.f100) h
theorem Cf (h:Go.Ab.Sha.vK 147  M Q) : av 101 [] M Q:=bn (fn:=Tryz.f101) h
theorem u7 (h:Go.Ab.Sha.nC 144 (av 126) 147 a0 a1 a2 M Q) : av 102 [a0,a1,a2] M Q:=bn (fn:=Tryz.f102) h
theorem AB (h:Go.Ab.Dot.uo 5 a0 M Q) : av 103 [a0] M Q:=bn (fn:=Tryz.f103) h
theorem sZ (h:Go.Ab.Vl.lv (av 127) (av 128) (av 117) 164 (av 129) a0 a1 M Q) : av 104 [a0,a1] M Q:=bn (fn:=Tryz.f104) h
theorem mP (h:Go.Ab.Vl.gM (Fb Tryz.prog 135) 122 a0 M Q) : av 107 [a0] M Q:=bn (fn:=Tryz.f107) h
theorem kT (h:Go.Ab.Vl.iO (Fb Tryz.prog 136) a0 a1 M Q) : av 108 [a0,a1] M Q:=bn (fn:=Tryz.f108) h
theorem uj (h:Go.Ab.Vl.lJ (av) a0 a1 M Q) : av 109 [a0,a1] M Q:=bn (fn:=Tryz.f109) h
theorem mG (h:Go.Ab.Vc.eH (av 108) 5 (Fb Tryz.prog 144) (av 145) (av 146) a0 a1 M Q) : av 114 [a0,a1] M Q:=bn (fn:=Tryz.f114) h
theorem kV (h:Go.Ab.Vl.fC a0 a1 M Q) : av 115 [a0,a1] M Q:=bn (fn:=Tryz.f115) h
theorem CR (h:Go.Ab.Sha.xX (av 149) a0 a1 M Q) : av 126 [a0,a1] M Q:=bn (fn:=Tryz.f126) h
theorem rA (h:Go.Ab.Vc.iT (av 73) (av 150) (av 145) a0 a1 M Q) : av 127 [a0,a1] M Q:=bn (fn:=Tryz.f127) h
theorem mH (h:Go.Ab.Vl.jV a0 M Q) : av 128 [a0] M Q:=bn (fn:=Tryz.f128) h
theorem nN (h:Go.Ab.Sha.iM a0 a1 M Q) : av 149 [a0,a1] M Q:=bn (fn:=Tryz.f149) h
theorem og (h:Go.Ab.Vl.iK a0 M Q) : av 150 [a0] M Q:=bn (fn:=Tryz.f150) h
end Go.Proofs.YtoikjkmmdpdkbaaGreatDoor
namespace Go.Proofs
open Go.RowKit Go.Shelf
def Tryz.lays197_ren:Go.Shelf.Ren:=⟨fun | 197=>98 | 260=>123 | n=>n,fun | 9=>9 | 21=>21 | 3=>3 | 4=>4 | 5=>5 | 105=>140 | 119=>135 | 0=>0 | 46=>139 | 139=>138 | 138=>137 | n=>n,fun | 3=>0 | 4=>1 | n=>n⟩
theorem Tryz.lays197:Go.Proofs.Lays.n197 Tryz.prog Tryz.lays197_ren where
 mixed:=by kernel_rfl
 f197:=Tryz.func98.trans (congrArg some (by kernel_rfl))
 f260:=Tryz.func123.trans (congrArg some (by kernel_rfl))
 t0:=Tryz.underlying0
 a0:=Tryz.isAgg0
 z0:=Tryz.sizeOf0
 v0:=Tryz.zeroValue0
 t3:=Tryz.underlying3
 a3:=Tryz.isAgg3
 z3:=Tryz.sizeOf3
 v3:=Tryz.zeroValue3
 t4:=Tryz.underlying4
 a4:=Tryz.isAgg4
 z4:=Tryz.sizeOf4
 v4:=Tryz.zeroValue4
 t5:=Tryz.underlying5
 a5:=Tryz.isAgg5
 z5:=Tryz.sizeOf5
 v5:=Tryz.zeroValue5
 t9:=Tryz.underlying9
 a9:=Tryz.isAgg9
 z9:=Tryz.sizeOf9
 v9:=Tryz.zeroValue9
 t21:=Tryz.underlying21
 a21:=Tryz.isAgg21
 z21:=Tryz.sizeOf21
 v21:=Tryz.zeroValue21
 t46:=Tryz.underlying139
 a46:=Tryz.isAgg139
 z46:=Tryz.sizeOf139
 v46:=Tryz.zeroValue139
 t105:=Tryz.underlying140
 a105:=Tryz.isAgg140
 z105:=Tryz.sizeOf140
 v105:=Tryz.zeroValue140
 t119:=Tryz.underlying135
 a119:=Tryz.isAgg135
 z119:=Tryz.sizeOf135
 t138:=Tryz.underlying137
 a138:=Tryz.isAgg137
 z138:=Tryz.sizeOf137
 v138:=Tryz.zeroValue137
 t139:=Tryz.underlying138
 a139:=Tryz.isAgg138
 z139:=Tryz.sizeOf138
 v139:=Tryz.zeroValue138
 g3:=by kernel_rfl
 g4:=by kernel_rfl
def Tryz.lays196_ren:Go.Shelf.Ren:=⟨fun | 196=>56 | 259=>91 | n=>n,fun | 9=>9 | 4=>4 | 3=>3 | 5=>5 | 12=>12 | 119=>135 | 0=>0 | 46=>139 | 139=>138 | 138=>137 | 53=>152 | n=>n,fun | 3=>0 | 4=>1 | n=>n⟩
theorem Tryz.lays196:Go.Proofs.Lays.n196 Tryz.prog Tryz.lays196_ren where
 mixed:=by kernel_rfl
 f196:=Tryz.func56.trans (congrArg some (by kernel_rfl))
 f259:=Tryz.func91.trans (congrArg some (by kernel_rfl))
 t0:=Tryz.underlying0
 a0:=Tryz.isAgg0
 z0:=Tryz.sizeOf0
 v0:=Tryz.zeroValue0
 t3:=Tryz.underlying3
 a3:=Tryz.isAgg3
 z3:=Tryz.sizeOf3
 v3:=Tryz.zeroValue3
 t4:=Tryz.underlying4
 a4:=Tryz.isAgg4
 z4:=Tryz.sizeOf4
 v4:=Tryz.zeroValue4
 t5:=Tryz.underlying5
 a5:=Tryz.isAgg5
 z5:=Tryz.sizeOf5
 v5:=Tryz.zeroValue5
 t9:=Tryz.underlying9
 a9:=Tryz.isAgg9
 z9:=Tryz.sizeOf9
 v9:=Tryz.zeroValue9
 t12:=Tryz.underlying12
 a12:=Tryz.isAgg12
 z12:=Tryz.sizeOf12
 v12:=Tryz.zeroValue12
 t46:=Tryz.underlying139
 a46:=Tryz.isAgg139
 z46:=Tryz.sizeOf139
 v46:=Tryz.zeroValue139
 t53:=Tryz.underlying152
 a53:=Tryz.isAgg152
 z53:=Tryz.sizeOf152
 v53:=Tryz.zeroValue152
 t119:=Tryz.underlying135
 a119:=Tryz.isAgg135
 z119:=Tryz.sizeOf135
 t138:=Tryz.underlying137
 a138:=Tryz.isAgg137
 z138:=Tryz.sizeOf137
 v138:=Tryz.zeroValue137
 t139:=Tryz.underlying138
 a139:=Tryz.isAgg138
 z139:=Tryz.sizeOf138
 v139:=Tryz.zeroValue138
 g3:=by kernel_rfl
 g4:=by kernel_rfl
def Tryz.lays160_ren:Go.Shelf.Ren:=⟨fun | 160=>95 | 232=>120 | 231=>116 | 227=>117 | 234=>121 | 233=>118 | 236=>122 | 235=>119 | 228=>129 | 271=>148 | 151=>147 | 197=>98 | 120=>164 | 152=>127 | 260=>123 | 137=>73 | 119=>150 | 224=>145 | 225=>144 | 217=>108 | 266=>136 | n=>n,fun | 9=>9 | 4=>4 | 3=>3 | 5=>5 | 117=>165 | 116=>164 | 0=>0 | 124=>168 | 21=>21 | 105=>140 | 46=>139 | 119=>135 | 139=>138 | 138=>137 | n=>n,fun | 3=>0 | 4=>1 | n=>n⟩
theorem Tryz.lays160:Go.Proofs.Lays.n160 Tryz.prog Tryz.lays160_ren where
 mixed:=by kernel_rfl
 f119:=Tryz.func150.trans (congrArg some (by kernel_rfl))
 f120:=Tryz.func164.trans (congrArg some (by kernel_rfl))
 f137:=Tryz.func73.trans (congrArg some (by kernel_rfl))
 f151:=Tryz.func147.trans (congrArg some (by kernel_rfl))
 f152:=Tryz.func127.trans (congrArg some (by kernel_rfl))
 f160:=Tryz.func95.trans (congrArg some (by kernel_rfl))
 f197:=Tryz.func98.trans (congrArg some (by kernel_rfl))
 f217:=Tryz.func108.trans (congrArg some (by kernel_rfl))
 f224:=Tryz.func145.trans (congrArg some (by kernel_rfl))
 f225:=Tryz.func144.trans (congrArg some (by kernel_rfl))
 f227:=Tryz.func117.trans (congrArg some (by kernel_rfl))
 f228:=Tryz.func129.trans (congrArg some (by kernel_rfl))
 f231:=Tryz.func116.trans (congrArg some (by kernel_rfl))
 f232:=Tryz.func120.trans (congrArg some (by kernel_rfl))
 f233:=Tryz.func118.trans (congrArg some (by kernel_rfl))
 f234:=Tryz.func121.trans (congrArg some (by kernel_rfl))
 f235:=Tryz.func119.trans (congrArg some (by kernel_rfl))
 f236:=Tryz.func122.trans (congrArg some (by kernel_rfl))
 f260:=Tryz.func123.trans (congrArg some (by kernel_rfl))
 f266:=Tryz.func136.trans (congrArg some (by kernel_rfl))
 f271:=Tryz.func148.trans (congrArg some (by kernel_rfl))
 t0:=Tryz.underlying0
 a0:=Tryz.isAgg0
 z0:=Tryz.sizeOf0
 v0:=Tryz.zeroValue0
 t3:=Tryz.underlying3
 a3:=Tryz.isAgg3
 z3:=Tryz.sizeOf3
 v3:=Tryz.zeroValue3
 t4:=Tryz.underlying4
 a4:=Tryz.isAgg4
 z4:=Tryz.sizeOf4
 v4:=Tryz.zeroValue4
 t5:=Tryz.underlying5
 a5:=Tryz.isAgg5
 z5:=Tryz.sizeOf5
 v5:=Tryz.zeroValue5
 t9:=Tryz.underlying9
 a9:=Tryz.isAgg9
 z9:=Tryz.sizeOf9
 v9:=Tryz.zeroValue9
 t21:=Tryz.underlying21
 a21:=Tryz.isAgg21
 z21:=Tryz.sizeOf21
 v21:=Tryz.zeroValue21
 t46:=Tryz.underlying139
 a46:=Tryz.isAgg139
 z46:=Tryz.sizeOf139
 v46:=Tryz.zeroValue139
 t105:=Tryz.underlying140
 a105:=Tryz.isAgg140
 z105:=Tryz.sizeOf140
 v105:=Tryz.zeroValue140
 t116:=Tryz.underlying164
 a116:=Tryz.isAgg164
 z116:=Tryz.sizeOf164
 t117:=Tryz.underlying165
 a117:=Tryz.isAgg165
 z117:=Tryz.sizeOf165
 v117:=Tryz.zeroValue165
 t119:=Tryz.underlying135
 a119:=Tryz.isAgg135
 z119:=Tryz.sizeOf135
 t124:=Tryz.underlying168
 a124:=Tryz.isAgg168
 z124:=Tryz.sizeOf168
 v124:=Tryz.zeroValue168
 t138:=Tryz.underlying137
 a138:=Tryz.isAgg137
 z138:=Tryz.sizeOf137
 v138:=Tryz.zeroValue137
 t139:=Tryz.underlying138
 a139:=Tryz.isAgg138
 z139:=Tryz.sizeOf138
 v139:=Tryz.zeroValue138
 g3:=by kernel_rfl
 g4:=by kernel_rfl
def Tryz.lays161_ren:Go.Shelf.Ren:=⟨fun | 161=>92 | 231=>116 | 227=>117 | 233=>118 | 235=>119 | 228=>129 | 197=>98 | 151=>147 | 260=>123 | 152=>127 | 137=>73 | 119=>150 | 224=>145 | 225=>144 | 217=>108 | 266=>136 | n=>n,fun | 9=>9 | 4=>4 | 3=>3 | 5=>5 | 117=>165 | 116=>164 | 0=>0 | 124=>168 | 105=>140 | 21=>21 | 119=>135 | 46=>139 | 139=>138 | 138=>137 | n=>n,fun | 3=>0 | 4=>1 | n=>n⟩
theorem Tryz.lays161:Go.Proofs.Lays.n161 Tryz.prog Tryz.lays161_ren where
 mixed:=by kernel_rfl
 f119:=Tryz.func150.trans (congrArg some (by kernel_rfl))
 f137:=Tryz.func73.trans (congrArg some (by kernel_rfl))
 f151:=Tryz.func147.trans (congrArg some (by kernel_rfl))
 f152:=Tryz.func127.trans (congrArg some (by kernel_rfl))
 f161:=Tryz.func92.trans (congrArg some (by kernel_rfl))
 f197:=Tryz.func98.trans (congrArg some (by kernel_rfl))
 f217:=Tryz.func108.trans (congrArg some (by kernel_rfl))
 f224:=Tryz.func145.trans (congrArg some (by kernel_rfl))
 f225:=Tryz.func144.trans (congrArg some (by kernel_rfl))
 f227:=Tryz.func117.trans (congrArg some (by kernel_rfl))
 f228:=Tryz.func129.trans (congrArg some (by kernel_rfl))
 f231:=Tryz.func116.trans (congrArg some (by kernel_rfl))
 f233:=Tryz.func118.trans (congrArg some (by kernel_rfl))
 f235:=Tryz.func119.trans (congrArg some (by kernel_rfl))
 f260:=Tryz.func123.trans (congrArg some (by kernel_rfl))
 f266:=Tryz.func136.trans (congrArg some (by kernel_rfl))
 t0:=Tryz.underlying0
 a0:=Tryz.isAgg0
 z0:=Tryz.sizeOf0
 v0:=Tryz.zeroValue0
 t3:=Tryz.underlying3
 a3:=Tryz.isAgg3
 z3:=Tryz.sizeOf3
 v3:=Tryz.zeroValue3
 t4:=Tryz.underlying4
 a4:=Tryz.isAgg4
 z4:=Tryz.sizeOf4
 v4:=Tryz.zeroValue4
 t5:=Tryz.underlying5
 a5:=Tryz.isAgg5
 z5:=Tryz.sizeOf5
 v5:=Tryz.zeroValue5
 t9:=Tryz.underlying9
 a9:=Tryz.isAgg9
 z9:=Tryz.sizeOf9
 v9:=Tryz.zeroValue9
 t21:=Tryz.underlying21
 a21:=Tryz.isAgg21
 z21:=Tryz.sizeOf21
 v21:=Tryz.zeroValue21
 t46:=Tryz.underlying139
 a46:=Tryz.isAgg139
 z46:=Tryz.sizeOf139
 v46:=Tryz.zeroValue139
 t105:=Tryz.underlying140
 a105:=Tryz.isAgg140
 z105:=Tryz.sizeOf140
 v105:=Tryz.zeroValue140
 t116:=Tryz.underlying164
 a116:=Tryz.isAgg164
 z116:=Tryz.sizeOf164
 t117:=Tryz.underlying165
 a117:=Tryz.isAgg165
 z117:=Tryz.sizeOf165
 v117:=Tryz.zeroValue165
 t119:=Tryz.underlying135
 a119:=Tryz.isAgg135
 z119:=Tryz.sizeOf135
 t124:=Tryz.underlying168
 a124:=Tryz.isAgg168
 z124:=Tryz.sizeOf168
 v124:=Tryz.zeroValue168
 t138:=Tryz.underlying137
 a138:=Tryz.isAgg137
 z138:=Tryz.sizeOf137
 v138:=Tryz.zeroValue137
 t139:=Tryz.underlying138
 a139:=Tryz.isAgg138
 z139:=Tryz.sizeOf138
 v139:=Tryz.zeroValue138
 g3:=by kernel_rfl
 g4:=by kernel_rfl
def Tryz.lays153_ren:Go.Shelf.Ren:=⟨fun | 153=>104 | 152=>127 | 226=>128 | 227=>117 | 228=>129 | 137=>73 | 119=>150 | 224=>145 | 225=>144 | 217=>108 | 266=>136 | n=>n,fun | 9=>9 | 3=>3 | 4=>4 | 5=>5 | 21=>21 | 117=>165 | 116=>164 | 0=>0 | 46=>139 | 124=>168 | n=>n,fun | n=>n⟩
theorem Tryz.lays153:Go.Proofs.Lays.n153 Tryz.prog Tryz.lays153_ren where
 mixed:=by kernel_rfl
 f119:=Tryz.func150.trans (congrArg some (by kernel_rfl))
 f137:=Tryz.func73.trans (congrArg some (by kernel_rfl))
 f152:=Tryz.func127.trans (congrArg some (by kernel_rfl))
 f153:=Tryz.func104.trans (congrArg some (by kernel_rfl))
 f217:=Tryz.func108.trans (congrArg some (by kernel_rfl))
 f224:=Tryz.func145.trans (congrArg some (by kernel_rfl))
 f225:=Tryz.func144.trans (congrArg some (by kernel_rfl))
 f226:=Tryz.func128.trans (congrArg some (by kernel_rfl))
 f227:=Tryz.func117.trans (congrArg some (by kernel_rfl))
 f228:=Tryz.func129.trans (congrArg some (by kernel_rfl))
 f266:=Tryz.func136.trans (congrArg some (by kernel_rfl))
 t0:=Tryz.underlying0
 a0:=Tryz.isAgg0
 z0:=Tryz.sizeOf0
 v0:=Tryz.zeroValue0
 t3:=Tryz.underlying3
 a3:=Tryz.isAgg3
 z3:=Tryz.sizeOf3
 v3:=Tryz.zeroValue3
 t4:=Tryz.underlying4
 a4:=Tryz.isAgg4
 z4:=Tryz.sizeOf4
 v4:=Tryz.zeroValue4
 t5:=Tryz.underlying5
 a5:=Tryz.isAgg5
 z5:=Tryz.sizeOf5
 v5:=Tryz.zeroValue5
 t9:=Tryz.underlying9
 a9:=Tryz.isAgg9
 z9:=Tryz.sizeOf9
 v9:=Tryz.zeroValue9
 t21:=Tryz.underlying21
 a21:=Tryz.isAgg21
 z21:=Tryz.sizeOf21
 v21:=Tryz.zeroValue21
 t46:=Tryz.underlying139
 a46:=Tryz.isAgg139
 z46:=Tryz.sizeOf139
 v46:=Tryz.zeroValue139
 t116:=Tryz.underlying164
 a116:=Tryz.isAgg164
 z116:=Tryz.sizeOf164
 t117:=Tryz.underlying165
 a117:=Tryz.isAgg165
 z117:=Tryz.sizeOf165
 v117:=Tryz.zeroValue165
 t124:=Tryz.underlying168
 a124:=Tryz.isAgg168
 z124:=Tryz.sizeOf168
 v124:=Tryz.zeroValue168
def Tryz.lays171_ren:Go.Shelf.Ren:=⟨fun | 171=>53 | 243=>88 | 246=>113 | 283=>140 | 284=>141 | 285=>142 | 286=>143 | 129=>159 | 317=>158 | 318=>160 | 319=>161 | 320=>162 | 337=>167 | 338=>168 | n=>n,fun | 3=>3 | 9=>9 | 2=>2 | 4=>4 | 171=>193 | 0=>0 | 53=>152 | 37=>98 | 5=>5 | 173=>196 | 212=>216 | 51=>143 | 20=>20 | 213=>217 | 46=>139 | 232=>111 | 233=>226 | n=>n,fun | 17=>8 | 18=>9 | 19=>10 | n=>n⟩
theorem Tryz.lays171:Go.Proofs.LaysM.n171 Tryz.prog Tryz.lays171_ren where
 mixed:=by kernel_rfl
 f129:=Tryz.func159.trans (congrArg some (by kernel_rfl))
 f171:=Tryz.func53.trans (congrArg some (by kernel_rfl))
 f243:=Tryz.func88.trans (congrArg some (by kernel_rfl))
 f246:=Tryz.func113.trans (congrArg some (by kernel_rfl))
 f283:=Tryz.func140.trans (congrArg some (by kernel_rfl))
 f284:=Tryz.func141.trans (congrArg some (by kernel_rfl))
 f285:=Tryz.func142.trans (congrArg some (by kernel_rfl))
 f286:=Tryz.func143.trans (congrArg some (by kernel_rfl))
 f317:=Tryz.func158.trans (congrArg some (by kernel_rfl))
 f318:=Tryz.func160.trans (congrArg some (by kernel_rfl))
 f319:=Tryz.func161.trans (congrArg some (by kernel_rfl))
 f320:=Tryz.func162.trans (congrArg some (by kernel_rfl))
 f337:=Tryz.func167.trans (congrArg some (by kernel_rfl))
 f338:=Tryz.func168.trans (congrArg some (by kernel_rfl))
 t0:=Tryz.underlying0
 a0:=Tryz.isAgg0
 z0:=Tryz.sizeOf0
 v0:=Tryz.zeroValue0
 t2:=Tryz.underlying2
 a2:=Tryz.isAgg2
 z2:=Tryz.sizeOf2
 v2:=Tryz.zeroValue2
 t3:=Tryz.underlying3
 a3:=Tryz.isAgg3
 z3:=Tryz.sizeOf3
 v3:=Tryz.zeroValue3
 t4:=Tryz.underlying4
 a4:=Tryz.isAgg4
 z4:=Tryz.sizeOf4
 v4:=Tryz.zeroValue4
 t5:=Tryz.underlying5
 a5:=Tryz.isAgg5
 z5:=Tryz.sizeOf5
 v5:=Tryz.zeroValue5
 t9:=Tryz.underlying9
 a9:=Tryz.isAgg9
 z9:=Tryz.sizeOf9
 v9:=Tryz.zeroValue9
 t20:=Tryz.underlying20
 a20:=Tryz.isAgg20
 z20:=Tryz.sizeOf20
 v20:=Tryz.zeroValue20
 t37:=Tryz.underlying98
 a37:=Tryz.isAgg98
 z37:=Tryz.sizeOf98
 v37:=Tryz.zeroValue98
 t46:=Tryz.underlying139
 a46:=Tryz.isAgg139
 z46:=Tryz.sizeOf139
 v46:=Tryz.zeroValue139
 t51:=Tryz.underlying143
 a51:=Tryz.isAgg143
 z51:=Tryz.sizeOf143
 v51:=Tryz.zeroValue143
 t53:=Tryz.underlying152
 a53:=Tryz.isAgg152
 z53:=Tryz.sizeOf152
 v53:=Tryz.zeroValue152
 t171:=Tryz.underlying193
 a171:=Tryz.isAgg193
 z171:=Tryz.sizeOf193
 v171:=Tryz.zeroValue193
 t173:=Tryz.underlying196
 a173:=Tryz.isAgg196
 z173:=Tryz.sizeOf196
 v173:=Tryz.zeroValue196
 t212:=Tryz.underlying216
 a212:=Tryz.isAgg216
 z212:=Tryz.sizeOf216
 v212:=Tryz.zeroValue216
 t213:=Tryz.underlying217
 a213:=Tryz.isAgg217
 z213:=Tryz.sizeOf217
 t232:=Tryz.underlying111
 a232:=Tryz.isAgg111
 z232:=Tryz.sizeOf111
 v232:=Tryz.zeroValue111
 t233:=Tryz.underlying226
 a233:=Tryz.isAgg226
 z233:=Tryz.sizeOf226
 v233:=Tryz.zeroValue226
 g17:=by kernel_rfl
 g18:=by kernel_rfl
 g19:=by kernel_rfl
 i0:=by kernel_rfl
 i2:=by kernel_rfl
 i3:=by kernel_rfl
 i4:=by kernel_rfl
 i5:=by kernel_rfl
 i9:=by kernel_rfl
 i20:=by kernel_rfl
 i37:=by kernel_rfl
 i46:=by kernel_rfl
 i51:=by kernel_rfl
 i53:=by kernel_rfl
 i171:=by kernel_rfl
 i173:=by kernel_rfl
 i212:=by kernel_rfl
 i232:=by kernel_rfl
 i233:=by kernel_rfl
 m17:=by kernel_rfl
 m18:=by kernel_rfl
 m19:=by kernel_rfl
def Tryz.lays172_ren:Go.Shelf.Ren:=⟨fun | 172=>68 | 244=>105 | 245=>106 | 247=>130 | 279=>131 | 280=>132 | 281=>133 | 282=>134 | 287=>151 | 316=>152 | 171=>53 | 205=>153 | 321=>165 | 322=>166 | 243=>88 | 246=>113 | 283=>140 | 284=>141 | 285=>142 | 286=>143 | 129=>159 | 317=>158 | 318=>160 | 319=>161 | 320=>162 | 337=>167 | 338=>168 | n=>n,fun | 9=>9 | 3=>3 | 75=>117 | 76=>118 | 4=>4 | 5=>5 | 167=>182 | 37=>98 | 0=>0 | 85=>183 | 2=>2 | 168=>185 | 53=>152 | 175=>205 | 46=>139 | 210=>208 | 127=>155 | 145=>224 | 143=>222 | 21=>21 | 171=>193 | 173=>196 | 212=>216 | 51=>143 | 20=>20 | 213=>217 | 232=>111 | 233=>226 | 80=>124 | n=>n,fun | 15=>6 | 16=>7 | 17=>8 | 18=>9 | 19=>10 | n=>n⟩
theorem Tryz.lays172:Go.Proofs.LaysC.n172 Tryz.prog Tryz.lays172_ren where
 mixed:=by kernel_rfl
 f129:=Tryz.func159.trans (congrArg some (by kernel_rfl))
 f171:=Tryz.func53.trans (congrArg some (by kernel_rfl))
 f172:=Tryz.func68.trans (congrArg some (by kernel_rfl))
 f205:=Tryz.func153.trans (congrArg some (by kernel_rfl))
 f243:=Tryz.func88.trans (congrArg some (by kernel_rfl))
 f244:=Tryz.func105.trans (congrArg some (by kernel_rfl))
 f245:=Tryz.func106.trans (congrArg some (by kernel_rfl))
 f246:=Tryz.func113.trans (congrArg some (by kernel_rfl))
 f247:=Tryz.func130.trans (congrArg some (by kernel_rfl))
 f279:=Tryz.func131.trans (congrArg some (by kernel_rfl))
 f280:=Tryz.func132.trans (congrArg some (by kernel_rfl))
 f281:=Tryz.func133.trans (congrArg some (by kernel_rfl))
 f282:=Tryz.func134.trans (congrArg some (by kernel_rfl))
 f283:=Tryz.func140.trans (congrArg some (by kernel_rfl))
 f284:=Tryz.func141.trans (congrArg some (by kernel_rfl))
 f285:=Tryz.func142.trans (congrArg some (by kernel_rfl))
 f286:=Tryz.func143.trans (congrArg some (by kernel_rfl))
 f287:=Tryz.func151.trans (congrArg some (by kernel_rfl))
 f316:=Tryz.func152.trans (congrArg some (by kernel_rfl))
 f317:=Tryz.func158.trans (congrArg some (by kernel_rfl))
 f318:=Tryz.func160.trans (congrArg some (by kernel_rfl))
 f319:=Tryz.func161.trans (congrArg some (by kernel_rfl))
 f320:=Tryz.func162.trans (congrArg some (by kernel_rfl))
 f321:=Tryz.func165.trans (congrArg some (by kernel_rfl))
 f322:=Tryz.func166.trans (congrArg some (by kernel_rfl))
 f337:=Tryz.func167.trans (congrArg some (by kernel_rfl))
 f338:=Tryz.func168.trans (congrArg some (by kernel_rfl))
 t0:=Tryz.underlying0
 a0:=Tryz.isAgg0
 z0:=Tryz.sizeOf0
 v0:=Tryz.zeroValue0
 t2:=Tryz.underlying2
 a2:=Tryz.isAgg2
 z2:=Tryz.sizeOf2
 v2:=Tryz.zeroValue2
 t3:=Tryz.underlying3
 a3:=Tryz.isAgg3
 z3:=Tryz.sizeOf3
 v3:=Tryz.zeroValue3
 t4:=Tryz.underlying4
 a4:=Tryz.isAgg4
 z4:=Tryz.sizeOf4
 v4:=Tryz.zeroValue4
 t5:=Tryz.underlying5
 a5:=Tryz.isAgg5
 z5:=Tryz.sizeOf5
 v5:=Tryz.zeroValue5
 t9:=Tryz.underlying9
 a9:=Tryz.isAgg9
 z9:=Tryz.sizeOf9
 v9:=Tryz.zeroValue9
 t20:=Tryz.underlying20
 a20:=Tryz.isAgg20
 z20:=Tryz.sizeOf20
 v20:=Tryz.zeroValue20
 t21:=Tryz.underlying21
 a21:=Tryz.isAgg21
 z21:=Tryz.sizeOf21
 v21:=Tryz.zeroValue21
 t37:=Tryz.underlying98
 a37:=Tryz.isAgg98
 z37:=Tryz.sizeOf98
 v37:=Tryz.zeroValue98
 t46:=Tryz.underlying139
 a46:=Tryz.isAgg139
 z46:=Tryz.sizeOf139
 v46:=Tryz.zeroValue139
 t51:=Tryz.underlying143
 a51:=Tryz.isAgg143
 z51:=Tryz.sizeOf143
 v51:=Tryz.zeroValue143
 t53:=Tryz.underlying152
 a53:=Tryz.isAgg152
 z53:=Tryz.sizeOf152
 v53:=Tryz.zeroValue152
 t75:=Tryz.underlying117
 a75:=Tryz.isAgg117
 z75:=Tryz.sizeOf117
 v75:=Tryz.zeroValue117
 t76:=Tryz.underlying118
 a76:=Tryz.isAgg118
 z76:=Tryz.sizeOf118
 v76:=Tryz.zeroValue118
 t85:=Tryz.underlying183
 a85:=Tryz.isAgg183
 z85:=Tryz.sizeOf183
 v85:=Tryz.zeroValue183
 t127:=Tryz.underlying155
 a127:=Tryz.isAgg155
 z127:=Tryz.sizeOf155
 v127:=Tryz.zeroValue155
 t143:=Tryz.underlying222
 a143:=Tryz.isAgg222
 z143:=Tryz.sizeOf222
 v143:=Tryz.zeroValue222
 t145:=Tryz.underlying224
 a145:=Tryz.isAgg224
 z145:=Tryz.sizeOf224
 v145:=Tryz.zeroValue224
 t167:=Tryz.underlying182
 a167:=Tryz.isAgg182
 z167:=Tryz.sizeOf182
 v167:=Tryz.zeroValue182
 t168:=Tryz.underlying185
 a168:=Tryz.isAgg185
 z168:=Tryz.sizeOf185
 v168:=Tryz.zeroValue185
 t171:=Tryz.underlying193
 a171:=Tryz.isAgg193
 z171:=Tryz.sizeOf193
 v171:=Tryz.zeroValue193
 t173:=Tryz.underlying196
 a173:=Tryz.isAgg196
 z173:=Tryz.sizeOf196
 v173:=Tryz.zeroValue196
 t175:=Tryz.underlying205
 a175:=Tryz.isAgg205
 z175:=Tryz.sizeOf205
 v175:=Tryz.zeroValue205
 t210:=Tryz.underlying208
 a210:=Tryz.isAgg208
 z210:=Tryz.sizeOf208
 v210:=Tryz.zeroValue208
 t212:=Tryz.underlying216
 a212:=Tryz.isAgg216
 z212:=Tryz.sizeOf216
 v212:=Tryz.zeroValue216
 t213:=Tryz.underlying217
 a213:=Tryz.isAgg217
 z213:=Tryz.sizeOf217
 t232:=Tryz.underlying111
 a232:=Tryz.isAgg111
 z232:=Tryz.sizeOf111
 v232:=Tryz.zeroValue111
 t233:=Tryz.underlying226
 a233:=Tryz.isAgg226
 z233:=Tryz.sizeOf226
 v233:=Tryz.zeroValue226
 g15:=by kernel_rfl
 g16:=by kernel_rfl
 g17:=by kernel_rfl
 g18:=by kernel_rfl
 g19:=by kernel_rfl
 t80:=Tryz.underlying124
 a80:=Tryz.isAgg124
 z80:=Tryz.sizeOf124
 v80:=Tryz.zeroValue124
 i0:=by kernel_rfl
 i2:=by kernel_rfl
 i3:=by kernel_rfl
 i4:=by kernel_rfl
 i5:=by kernel_rfl
 i9:=by kernel_rfl
 i20:=by kernel_rfl
 i21:=by kernel_rfl
 i37:=by kernel_rfl
 i46:=by kernel_rfl
 i51:=by kernel_rfl
 i53:=by kernel_rfl
 i75:=by kernel_rfl
 i76:=by kernel_rfl
 i80:=by kernel_rfl
 i85:=by kernel_rfl
 i127:=by kernel_rfl
 i143:=by kernel_rfl
 i145:=by kernel_rfl
 i167:=by kernel_rfl
 i168:=by kernel_rfl
 i171:=by kernel_rfl
 i173:=by kernel_rfl
 i175:=by kernel_rfl
 i210:=by kernel_rfl
 i212:=by kernel_rfl
 i232:=by kernel_rfl
 i233:=by kernel_rfl
 m15:=by kernel_rfl
 m16:=by kernel_rfl
 m17:=by kernel_rfl
 m18:=by kernel_rfl
 m19:=by kernel_rfl
 c0:=by kernel_rfl
 c2:=by kernel_rfl
 c3:=by kernel_rfl
 c4:=by kernel_rfl
 c5:=by kernel_rfl
 c9:=by kernel_rfl
 c20:=by kernel_rfl
 c21:=by kernel_rfl
 c37:=by kernel_rfl
 c46:=by kernel_rfl
 c51:=by kernel_rfl
 c53:=by kernel_rfl
 c75:=by kernel_rfl
 c76:=by kernel_rfl
 c80:=by kernel_rfl
 c85:=by kernel_rfl
 c127:=by kernel_rfl
 c143:=by kernel_rfl
 c145:=by kernel_rfl
 c167:=by kernel_rfl
 c168:=by kernel_rfl
 c171:=by kernel_rfl
 c173:=by kernel_rfl
 c175:=by kernel_rfl
 c210:=by kernel_rfl
 c212:=by kernel_rfl
 c213:=by kernel_rfl
 c232:=by kernel_rfl
 c233:=by kernel_rfl
end Go.Proofs
namespace Go.Proofs.YtoikjkmmdpdkbaaGreatDoor.vcl
open Go Go.Ab Go.Ab.Vl Go.Ab.Vc Go.RowKit Go.Proofs Go.Proofs.YtoikjkmmdpdkbaaGreatDoor
abbrev FK:List Int:=[0,1,2,3,4,5,6,7,8,9,10,11,12,13,14,15,16,17,18,19,20,21,22,23,24,25,26,27,28,29,30,31,32,33,34,35,36,37,38,39,40,41,42,43,44,45,46,47,48,49,50,51,52,53,54,55,56,57,58,59,60,61,62,63,64,97,98,99,100,101,102,103,104,105,106,107,108,109,110,111,112,113,114,115,116,117,118,119,120,121,122,91,92,93,94,95,96,65,66,67,68,69,70,71,72,73,74,8490,76,77,78,79,80,81,82,383,84,85,86,87,88,89,90,123,124,125,126,127]
structure Iv (w:World) : Prop where
 u8:Lib.Utf8Tabs 0 1 w
 p10:Lib.TabIs Tryz.prog w "internal/strconv.uint64pow10" .u64 Lib.pow10Tab
 fold:Lib.TabIs Tryz.prog w "unicode.asciiFold" .u16 FK
 es:∃ ev,w.cell? ⟨6,0,none⟩=some ev∧(ev=.nilIface∨∃ te pe,ev=.iface te pe)
 er:∃ ev,w.cell? ⟨7,0,none⟩=some ev∧(ev=.nilIface∨∃ te pe,ev=.iface te pe)
theorem OJ (w:World) (q:Nat) (os:Array Obj) : Below w.heap.size w (Go.Sort.grow (w.drewN q) os) :=
 ⟨rfl,rfl,rfl,by first | (simp[Go.Sort.grow]; done) | (simp[Go.Sort.grow]; omega),fun i hi=>by
  show((w.drewN q).heap++os)[i]?=_
  rw[Array.getElem?_append_left (by show i<w.heap.size; omega)]
  rfl⟩
theorem EQ {w:World} {b o:Nat} {v:Value} (h:w.cell? ⟨b,o,none⟩=some v) : b<w.heap.size:=by
 unfold World.cell? at h
 cases hb:w.heap[b]? with
 | none=>simp[hb] at h
 | some x=>exact(Array.getElem?_eq_some_iff.1 hb).1
theorem tF {w w' : World} {b:Nat} (h:w'.heap[b]?=w.heap[b]?) (o:Nat) : w'.cell? ⟨b,o,none⟩=w.cell? ⟨b,o,none⟩:=by
 unfold World.cell?
 simp only[h]
theorem varLt {w:World} {n:String} {g:Nat} {vs:Array Value} (hg:Tryz.prog.globalNamed n=some g) (h:w.var? Tryz.prog n=some vs) : g<w.heap.size:=by
 unfold World.var? at h
 rw[hg] at h
 simp only[Option.bind_some] at h
 cases hb:w.heap[g]? with
 | none=>rw[hb] at h; cases h
 | some x=>exact(Array.getElem?_eq_some_iff.1 hb).1
theorem Mj {w w' : World} {n:String} {g:Nat} (hg:Tryz.prog.globalNamed n=some g) (h:w'.heap[g]?=w.heap[g]?) : w'.var? Tryz.prog n=w.var? Tryz.prog n:=by
 unfold World.var?
 rw[hg]
 simp only[Option.bind_some,h]
theorem QM:Tryz.prog.globalNamed "internal/strconv.uint64pow10" = some 8:=by kernel_rfl
theorem IE:Tryz.prog.globalNamed "unicode.asciiFold" = some 2:=by kernel_rfl
def base (w:World) (hi:Iv w) : Base where
 n:=w.heap.size
 inv w':=Iv w'
 low u u' hlow hu:=by
  obtain⟨e1,c1,d1⟩:=hi.es
  obtain⟨e2,c2,d2⟩:=hi.er
  obtain⟨e3,c3,d3⟩:=hu.es
  obtain⟨e4,c4,d4⟩:=hu.er
  have h0:=EQ (hi.u8.1 0 (by omega))
  have h1:=EQ (hi.u8.2 0 (by omega)).1
  refine⟨⟨fun c hc=>(tF (hlow 0 h0) c).trans (hu.u8.1 c hc),fun i hi'=>⟨(tF (hlow 1 h1) _).trans (hu.u8.2 i hi').1,(tF (hlow 1 h1) _).trans (hu.u8.2 i hi').2⟩⟩, ?_, ?_,
   ⟨e3,(tF (hlow 6 (EQ c1)) 0).trans c3,d3⟩,⟨e4,(tF (hlow 7 (EQ c2)) 0).trans c4,d4⟩⟩
  ·exact(Mj QM (hlow 8 (varLt QM hi.p10))).trans hu.p10
  ·exact(Mj IE (hlow 2 (varLt IE hi.fold))).trans hu.fold
section
variable {w0:World} {hi:Iv w0}
theorem FZ {M:RM} {ρ:Ab.Ren} {w:World} (hM:M.base=base w0 hi) (hw:bP Tryz.prog ρ M w) : Iv w:=by
 have:=bP.inv hw
 rw[hM] at this
 exact this
theorem TJ (s:List UInt8) (h:s≠[]) : Lib.decodeGo ⟨⟨s⟩⟩=dec s:=by
 have hs:(⟨⟨s⟩⟩ : ByteArray).size=s.length:=rfl
 have hp:=List.length_pos_iff.2 h
 have g:∀ i,((⟨⟨s⟩⟩ : ByteArray).get! i).toNat=bt s i:=fun i=>by
  simp only[ByteArray.get!,bt,List.getD_eq_getElem?_getD]
  simp[getElem!_def]
  cases s[i]? <;> rfl
 rw[Lib.decodeGo,if_neg (by rw[hs]; omega),Lib.decode_at,g,g,g,g,hs]
 rfl
theorem TQ:RY (base w0 hi) (av 98):=by
 intro M s Q hM hne hl hQ
 refine dR.kK (v:=.tup [N .i32 ((dec s).1:Int),N .i64 (rs s:Int)]) ⟨Tryz.f98,_,Tryz.func98,rfl⟩ (fun ρ w us hus hw=>?_) hQ
 cases hus with
 | cons _ u1 _ us r1 hus =>
 cases hus
 obtain⟨rfl,_⟩:=aL r1
 refine(Any.utf8_DecodeRuneInString Tryz.lays197 ⟨⟨s⟩⟩ w (FZ hM hw).u8).mono fun e w' ⟨he,hb⟩=>⟨_,he,hb, ?_⟩
 rw[TJ s hne,show(dec s).2=rs s by rw[rs,if_neg hne]]
 exact .tup _ _ (.cons _ _ _ _ (.sc _ rfl) (.cons _ _ _ _ (.sc _ rfl) .nil))
theorem decode:UC (base w0 hi) (av 98):=fun h1 h2 h3 h4=>TQ h1 h2 h3 (h4 _)
theorem valid:JK (base w0 hi) (av 56):=by
 intro M s Q hM hl hQ
 refine dR.kK (v:=Bo (uy s)) ⟨Tryz.f56,_,Tryz.func56,rfl⟩ (fun ρ w us hus hw=>?_) hQ
 cases hus with
 | cons _ u1 _ us r1 hus =>
 cases hus
 obtain⟨rfl,_⟩:=aL r1
 refine(Any.utf8_ValidString Tryz.lays196 ⟨⟨s⟩⟩ w (by show s.length≤_; omega) (FZ hM hw).u8).mono fun e w' ⟨he,hb⟩=>⟨_,he,hb, ?_⟩
 rw[show(⟨⟨s⟩⟩ : ByteArray).data.toList=s from rfl,DR s.length s (Nat.le_refl _)]
 exact .sc _ rfl
end
theorem Et:∀ (j:Nat) b,(⟨⟨iw⟩⟩ : ByteArray).data.toList[j]?=some b→b.toNat<128:=fun j b h=>by
 have hm:b∈iw:=List.mem_of_getElem? h
 have:iw.all (fun b=>decide (b.toNat<128))=true:=by decide
 exact of_decide_eq_true (List.all_eq_true.1 this b hm)
theorem trimLeft {B:Base} : Ka B (av 92):=by
 intro M s Q hM hl hQ
 by_cases hne:s=[]
 ·subst hne
  refine tY ?_
  unfold pY
  simp only[dH,go_sem,beq_self_eq_true]
  exact hQ M (ae.refl _ _)
 have hp:=List.length_pos_iff.2 hne
 refine dR.kK (v:=St (s.dropWhile (iw.contains ·))) ⟨Tryz.f92,_,Tryz.func92,rfl⟩ (fun ρ w us hus hw=>?_) (hQ M (ae.refl _ _))
 cases hus with
 | cons _ u1 _ us r1 hus =>
 cases hus with
 | cons _ u2 _ us r2 hus =>
 cases hus
 obtain⟨rfl,_⟩:=aL r1
 obtain⟨rfl,_⟩:=aL r2
 refine(Any.strings_TrimLeft_set Tryz.lays161 (by exact Tryz.zeroValue164) (by kernel_rfl) ⟨⟨s⟩⟩ ⟨⟨iw⟩⟩ w (by decide) (by show 0<s.length; omega) (by decide) Et).mono fun e w' ⟨he,hb⟩=>⟨_,he, ?_,.sc _ rfl⟩
 rw[hb]
 have h1:=(Below.refl w.heap.size w).alloc (Nat.le_refl _) (.cells (Lib.setCells iw) (Tryz.lays161_ren.t 116))
 exact h1.alloc h1.size _
theorem trim {B:Base} : Kb B (fun s=>Lib.trimS s iw) (av 95):=by
 intro M s Q hM hl hQ
 by_cases hne:s=[]
 ·subst hne
  refine yV ?_
  unfold vZ
  simp only[dH,go_sem,beq_self_eq_true]
  exact hQ M (ae.refl _ _)
 have hp:=List.length_pos_iff.2 hne
 refine dR.kK (v:=St (Lib.trimS s iw)) ⟨Tryz.f95,_,Tryz.func95,rfl⟩ (fun ρ w us hus hw=>?_) (hQ M (ae.refl _ _))
 cases hus with
 | cons _ u1 _ us r1 hus =>
 cases hus with
 | cons _ u2 _ us r2 hus =>
 cases hus
 obtain⟨rfl,_⟩:=aL r1
 obtain⟨rfl,_⟩:=aL r2
 refine(Any.strings_Trim_set Tryz.lays160 (by exact Tryz.zeroValue164) (by kernel_rfl) ⟨⟨s⟩⟩ ⟨⟨iw⟩⟩ w (by decide) (by show 0<s.length; omega) (by show s.length≤_; omega) (by decide) Et).mono fun e w' ⟨he,q,hb⟩=>⟨_,he, ?_,.sc _ rfl⟩
 rw[hb]
 have h1:=(Below.refl w.heap.size w).alloc (Nat.le_refl _) (.cells (Lib.setCells iw) (Tryz.lays160_ren.t 116))
 have h2:=h1.alloc h1.size (.cells (Lib.setCells iw) (Tryz.lays160_ren.t 116))
 exact⟨h2.os,h2.tape,h2.output,h2.size,h2.block⟩
theorem Qe {M:RM} {s:List UInt8} {x:UInt8} : Mf Tryz.prog 136 [St s,By x] M (N .i64 (Lib.indexByte s x)):=by
 intro ρ w us hus hw
 cases hus with
 | cons _ u1 _ us r1 hus =>
 cases hus with
 | cons _ u2 _ us r2 hus =>
 cases hus
 obtain⟨rfl,_⟩:=aL r1
 obtain⟨rfl,_⟩:=aL r2
 refine⟨.int .i64 (Lib.indexByte s x), ?_,.sc _ rfl⟩
 refine yL (fn:=Tryz.f136) (s:=Extern.BytealgIndexByte.indexByte) (by kernel_rfl) (Ww.ng 136 Tryz.f136 (by kernel_rfl)) (by kernel_rfl) (by kernel_rfl) (by kernel_rfl) (fun w=>?_) w
 rw[Lib.run_indexByteString]
 congr 2
 simp
theorem OP:oJ (av 108):=by
 intro M s x Q hQ
 refine kT ?_
 unfold iO
 exact .inr (.inr (.inr (.inl ⟨_,Qe,hQ⟩)))
theorem MW:oJ (av 73):=by
 intro M s x Q hQ
 refine qR ?_
 unfold oF
 exact OP hQ
theorem validRune:xP (av 150):=by
 intro M r Q hQ
 obtain⟨a0,e,h⟩:=Fh hQ
 cases e
 exact og h
theorem O9 {cs:Vc.Str} (h1:Asc cs) (h2:cs.length≤1000) : wQ cs (av 127):=by
 intro M r Q h3 h4
 obtain⟨a0,a1,e,h⟩:=EW (cq:=av 145) h1 h2 MW validRune h3 h4
 cases e
 exact rA h
theorem indexAny {B:Base} {cs:Vc.Str} (ha:Asc cs) (h2:2≤cs.length) (Sv:cs.length≤1000) : lL cs B (av 104):=by
 intro M s Q hM hl hQ
 have hasc:∀ (j:Nat) b,(⟨⟨cs⟩⟩ : ByteArray).data.toList[j]?=some b→b.toNat<128:=fun j b h=>ha b (List.mem_of_getElem? h)
 by_cases h8:s.length≤8
 ·refine sZ (Gm ha h2 Sv h8 (O9 ha Sv) ?_ hQ)
  intro M n Q h
  refine mH ?_
  unfold jV
  simp only[go_sem]
  rw[show decide ((n:Int) > 8)=decide (8<n) by simp; omega]
  exact h
 refine dR.kK (v:=N .i64 (Lib.indexAny s cs)) ⟨Tryz.f104,_,Tryz.func104,rfl⟩ (fun ρ w us hus hw=>?_) (hQ M (ae.refl _ _))
 cases hus with
 | cons _ u1 _ us r1 hus =>
 cases hus with
 | cons _ u2 _ us r2 hus =>
 cases hus
 obtain⟨rfl,_⟩:=aL r1
 obtain⟨rfl,_⟩:=aL r2
 refine(Any.strings_IndexAny_long Tryz.lays153 (by exact Tryz.zeroValue164) (by kernel_rfl) ⟨⟨s⟩⟩ ⟨⟨cs⟩⟩ w (by show 1<cs.length; omega) (by show 8<s.length; omega) (by show s.length<_; omega) (by show cs.length<_; omega) hasc).mono fun e w' ⟨he,hb⟩=>⟨_,he, ?_,.sc _ rfl⟩
 rw[hb]
 exact((Below.refl _ _).alloc (Nat.le_refl _) _).alloc (by simp) _
theorem OQ {cs:Vc.Str} (h:cs.all (fun b=>decide (b.toNat<128))=true) : Asc cs:=fun x hx=>of_decide_eq_true (List.all_eq_true.1 h x hx)
theorem Wx {B:Base} : lL nY B (av 104):=indexAny (OQ (by decide)) (by decide) (by decide)
theorem Wd {B:Base} : lL lu B (av 104):=indexAny (OQ (by decide)) (by decide) (by decide)
section
variable {w0:World} {hi:Iv w0}
theorem itoa:Vc.Su (base w0 hi) (av 53):=by
 intro M n Q hB h1 h2 hQ
 refine dR.kK (v:=St (Lib.itoa n)) ⟨Tryz.f53,_,Tryz.func53,rfl⟩ (fun ρ w us hus hw=>?_) (hQ M (ae.refl _ _))
 cases hus with
 | cons _ u1 _ us r1 hus =>
 cases hus
 obtain⟨rfl,_⟩:=aL r1
 refine(Any.strconv_Itoa Tryz.lays171 n h1 h2 w (FZ hB hw).p10).mono fun e w' ⟨he,k,os,hb⟩=>⟨_,he, ?_,.sc _ rfl⟩
 rw[hb]
 exact OJ w k os
theorem atoi:Vc.RX (base w0 hi) (av 68):=by
 intro M s Q hB hl hQ
 unfold yC at hQ
 have bad:∀ (v:Int),(Lib.atoiAll s=Lib.atoiAll [] ∧ v=0∨Lib.atoiAll s=.range∧v=Lib.atoiSat s)→Q (.tup [N .i64 v,.ifc (Tryz.lays172_ren.t 168) .top]) M→av 68 [St s] M Q:=by
  intro v hv hq
  refine dR.kK (v:=.tup [N .i64 v,.ifc (Tryz.lays172_ren.t 168) .top]) ⟨Tryz.f68,_,Tryz.func68,rfl⟩ (fun ρ w us hus hw=>?_) hq
  cases hus with
  | cons _ u1 _ us r1 hus =>
  cases hus
  obtain⟨rfl,_⟩:=aL r1
  rcases hv with⟨hv,rfl⟩ | ⟨hv,rfl⟩
  ·obtain⟨ev,c1,d1⟩:=(FZ hB hw).es
   refine(Any.strconv_Atoi_syntax Tryz.lays172 ⟨⟨s⟩⟩ (by show s.length≤_; omega) hv ev w c1 d1).mono fun e w' ⟨N,he,_,_,hb⟩=>⟨_,he,hb, ?_⟩
   exact .tup _ _ (.cons _ _ _ _ (.sc _ rfl) (.cons _ _ _ _ (.ifc _ _ _ (.top _)) .nil))
  ·obtain⟨ev,c1,d1⟩:=(FZ hB hw).er
   refine(Any.strconv_Atoi_range Tryz.lays172 ⟨⟨s⟩⟩ (by show s.length≤_; omega) hv ev w c1 d1).mono fun e w' ⟨N,he,_,_,hb⟩=>⟨_,he,hb, ?_⟩
   exact .tup _ _ (.cons _ _ _ _ (.sc _ rfl) (.cons _ _ _ _ (.ifc _ _ _ (.top _)) .nil))
 have hno:∀ K:AV→Prop,K (Bo false)→EZ false (.ifc (Tryz.lays172_ren.t 168) .top) (.sc .nilIface) K:=fun K hK=>.inl ⟨rfl,false,rfl,hK⟩
 cases ha:Lib.atoiAll s with
 | ok v =>
   rw[ha] at hQ
   refine dR.kK (v:=.tup [N .i64 v,.sc .nilIface]) ⟨Tryz.f68,_,Tryz.func68,rfl⟩ (fun ρ w us hus hw=>?_) (hQ M _ (ae.refl _ _) fun K hK=>.inr ⟨rfl,rfl,hK⟩)
   cases hus with
   | cons _ u1 _ us r1 hus =>
   cases hus
   obtain⟨rfl,_⟩:=aL r1
   refine(Any.strconv_Atoi_ok Tryz.lays172 ⟨⟨s⟩⟩ (by show s.length≤_; omega) v ha w).mono fun e w' ⟨he,hb⟩=>⟨_,he, ?_,.tup _ _ (.cons _ _ _ _ (.sc _ rfl) (.cons _ _ _ _ (.sc _ rfl) .nil))⟩
   rcases hb with rfl | ⟨t,rfl⟩
   ·exact Below.refl _ _
   ·exact Lib.bytesWorld_below w _ t
 | range =>
   rw[ha] at hQ
   exact bad _ (.inr ⟨ha,rfl⟩) (hQ M _ (ae.refl _ _) hno)
 | _ =>
   rw[ha] at hQ
   exact bad 0 (.inl ⟨ha,rfl⟩) (hQ M _ (ae.refl _ _) hno)
end
end Go.Proofs.YtoikjkmmdpdkbaaGreatDoor.vcl
namespace Go.Proofs.YtoikjkmmdpdkbaaGreatDoor
open Go Go.RowKit Go.Proofs
set_option maxHeartbeats 4000000 in
theorem OA (k:Nat) (x:Int) (hk:k<128) (w:World) (hc:w.cell? ⟨2,k,none⟩=some (.int .u16 x)) (hx:0≤x∧x<65536) :
  Calls Tryz.prog 99 #[.int .i32 (k:Int)] w fun e w'=>e=.returned (.int .i32 x)∧w'=w:=by
 have h1:¬ ((k:Int)<0):=by omega
 have h2:¬ ((k:Int) > 1114111):=by omega
 have h3:(k:Int)<128:=by omega
 go_enter Tryz.func99,Tryz.ntmps99
 go_wp2
 go_ret
 exact⟨rfl,rfl⟩
namespace vcl
open Go.Ab Go.Ab.Vl Go.Ab.Vc
theorem mQ {w0:World} {hi:Iv w0} {k:Nat} {x:Int} (hk:k<128) (hx:FK.getD k 0=x) (hb:0≤x∧x<65536) {M:RM} {Q:ai} (hM:M.base=base w0 hi) (hQ:Q (N .i32 x) M) : av 99 [N .i32 (k:Int)] M Q:=by
 refine dR.kK (v:=N .i32 x) ⟨Tryz.f99,_,Tryz.func99,rfl⟩ (fun ρ w us hus hw=>?_) hQ
 cases hus with
 | cons _ u1 _ us r1 hus =>
 cases hus
 obtain⟨rfl,_⟩:=aL r1
 have hc:=(FZ hM hw).fold.cell IE k (by show k<128; omega)
 rw[hx] at hc
 refine(OA k x hk w hc hb).mono fun e w' ⟨he,hw'⟩=>⟨_,he,by rw[hw']; exact Below.refl _ _,.sc _ rfl⟩
theorem Uv {w0:World} {hi:Iv w0} : PU (base w0 hi) (av 99):=by
 constructor
 ·intro M y Q hM hy hQ
  simp only[List.mem_cons,List.not_mem_nil,or_false] at hy
  rcases hy with rfl | rfl | rfl | rfl | rfl
  ·exact mQ (k:=118) (by decide) (by kernel_rfl) (by decide) hM hQ
  ·exact mQ (k:=99) (by decide) (by kernel_rfl) (by decide) hM hQ
  ·exact mQ (k:=97) (by decide) (by kernel_rfl) (by decide) hM hQ
  ·exact mQ (k:=114) (by decide) (by kernel_rfl) (by decide) hM hQ
  ·exact mQ (k:=100) (by decide) (by kernel_rfl) (by decide) hM hQ
 ·intro M y Q hM hy hQ
  simp only[List.mem_cons,List.not_mem_nil,or_false] at hy
  rcases hy with rfl | rfl | rfl | rfl | rfl
  ·exact mQ (k:=86) (by decide) (by kernel_rfl) (by decide) hM hQ
  ·exact mQ (k:=67) (by decide) (by kernel_rfl) (by decide) hM hQ
  ·exact mQ (k:=65) (by decide) (by kernel_rfl) (by decide) hM hQ
  ·exact mQ (k:=82) (by decide) (by kernel_rfl) (by decide) hM hQ
  ·exact mQ (k:=68) (by decide) (by kernel_rfl) (by decide) hM hQ
end vcl
end Go.Proofs.YtoikjkmmdpdkbaaGreatDoor
namespace Go.Proofs.YtoikjkmmdpdkbaaGreatDoor.vcl
open Go Go.Ab Go.Ab.Vl Go.Ab.Vc Go.RowKit Go.Proofs Go.Proofs.YtoikjkmmdpdkbaaGreatDoor
theorem Mw {f:FuncId} {W:RM→ai→Prop} (h:∀ {M:RM} {Q:ai},W M Q→av f [] M Q) : ∀ args M Q,(args=[]∧W M Q)→av f args M Q:=by
 rintro args M Q ⟨rfl,k⟩; exact h k
theorem dx {f:FuncId} {W:AV→RM→ai→Prop} (h:∀ {a0:AV} {M:RM} {Q:ai},W a0 M Q→av f [a0] M Q) : ∀ args M Q,(∃ a0,args=[a0]∧W a0 M Q)→av f args M Q:=by
 rintro args M Q ⟨a0,rfl,k⟩; exact h k
theorem dL {f:FuncId} {W:AV→AV→RM→ai→Prop} (h:∀ {a0 a1:AV} {M:RM} {Q:ai},W a0 a1 M Q→av f [a0,a1] M Q) : ∀ args M Q,(∃ a0 a1,args=[a0,a1]∧W a0 a1 M Q)→av f args M Q:=by
 rintro args M Q ⟨a0,a1,rfl,k⟩; exact h k
theorem Vj {f:FuncId} {W:AV→AV→AV→RM→ai→Prop} (h:∀ {a0 a1 a2:AV} {M:RM} {Q:ai},W a0 a1 a2 M Q→av f [a0,a1,a2] M Q) : ∀ args M Q,(∃ a0 a1 a2,args=[a0,a1,a2]∧W a0 a1 a2 M Q)→av f args M Q:=by
 rintro args M Q ⟨a0,a1,a2,rfl,k⟩; exact h k
section
variable {w0:World} {hi:Iv w0}
theorem BA:O8 (Fb Tryz.prog 135):=by
 intro v M Q hQ
 exact .inr (.inr (.inl ⟨⟨Tryz.f135,by kernel_rfl,by kernel_rfl,by kernel_rfl,by kernel_rfl⟩,v,rfl,hQ⟩))
theorem check:wE 122 (av 107):=by
 intro x0 x1 x2 x3 x4 x5 x6 x7 x8
 refine dx mP _ _ _ ?_
 apply (MU BA) <;> assumption
theorem NW:wP 122 5 (av 69):=by
 intro x0 x1 x2 x3 x4 x5 x6 x7 x8
 refine dL iD _ _ _ ?_
 apply (D5 check) <;> assumption
theorem Hf:rq 122 5 (av 69):=by
 intro x0 x1 x2 x3 x4 x5 x6 x7 x8
 refine dL iD _ _ _ ?_
 apply (Gl check) <;> assumption
theorem writeString:nW 122 5 (av 70):=by
 intro x0 x1 x2 x3 x4 x5 x6 x7 x8
 refine dL gV _ _ _ ?_
 apply (Dc check) <;> assumption
theorem Kl:tJ 122 5 (av 70):=by
 intro x0 x1 x2 x3 x4 x5 x6 x7 x8
 refine dL gV _ _ _ ?_
 apply (Cg check) <;> assumption
theorem Ca:rJ 122 5 (av 71):=by
 intro x0 x1 x2 x3 x4 x5 x6 x7
 refine dx nX _ _ _ ?_
 apply Lj <;> assumption
theorem Qa {x:UInt8} : Vl.FO x (av 114):=by
 intro x0 x1 x2 x3
 refine dL mG _ _ _ ?_
 apply (IV OP) <;> assumption
theorem index:Vl.Ps (av 114):=fun h=>Qa h
theorem XT:Vl.vG (av 89):=by
 intro x0 x1 x2 x3 x4
 refine dL iJ _ _ _ ?_
 apply (H8 index) <;> assumption
theorem cut:Vl.vG (av 54):=by
 intro x0 x1 x2 x3 x4
 refine dL oD _ _ _ ?_
 apply (Vl.DC XT) <;> assumption
theorem hasSuffix:yI (av 115):=by
 intro x0 x1 x2 x3 x4
 refine dL kV _ _ _ ?_
 apply FX <;> assumption
theorem VG:BX (av 90):=by
 intro x0 x1 x2 x3 x4
 refine dL kQ _ _ _ ?_
 apply (F5 hasSuffix) <;> assumption
theorem trimS:BX (av 55):=by
 intro x0 x1 x2 x3 x4
 refine dL qH _ _ _ ?_
 apply (Pk VG) <;> assumption
theorem TF:CP 9 3 (av 31):=by
 intro x0 x1 x2 x3 x4
 refine dx wM _ _ _ ?_
 apply (Kz cut trimS) <;> assumption
theorem piece:Jf (base w0 hi) (av 77):=by
 intro x0 x1 x2 x3 x4 x5 x6 x7
 refine dL zO _ _ _ ?_
 apply (NU decode) <;> assumption
theorem fold:Pg (base w0 hi) (av 43):=by
 intro M s Q h1 h2 h3
 exact zY (P7 (T8:=5) (piece (hi:=hi)) writeString Ca h1 h2 h3)
theorem VY {x:UInt8} : xE x (av 89):=by
 intro x0 x1 x2 x3 x4
 refine dL iJ _ _ _ ?_
 apply (Gj Qa) <;> assumption
theorem TM {x:UInt8} : xE x (av 54):=by
 intro x0 x1 x2 x3 x4
 refine dL oD _ _ _ ?_
 apply (P6 VY) <;> assumption
theorem Lx:lV (av 94):=by
 intro x0 x1 x2 x3 x4 x5
 refine dL gB _ _ _ ?_
 apply Dj <;> assumption
theorem FN:lV (av 58):=by
 intro x0 x1 x2 x3 x4 x5
 refine dL ru _ _ _ ?_
 apply (K8 Lx) <;> assumption
theorem plain:Jn (av 97):=by
 intro x0 x1 x2 x3
 refine dx zH _ _ _ ?_
 apply Ot <;> assumption
theorem TT:Kj (av 93):=by
 intro x0 x1 x2 x3 x4
 refine dx zN _ _ _ ?_
 apply NN <;> assumption
theorem Nb:jq (av 65):=by
 intro x0 x1 x2 x3 x4 x5
 refine dL gz _ _ _ ?_
 apply (zL Lx) <;> assumption
theorem AL:jq (av 35):=by
 intro x0 x1 x2 x3 x4 x5
 refine dL lc _ _ _ ?_
 apply (Fx Nb) <;> assumption
theorem XV:Rv (av 94):=by
 intro x0 x1 x2 x3 x4
 refine dL gB _ _ _ ?_
 apply HZ <;> assumption
theorem Tk:rP (av 65):=by
 intro x0 x1 x2 x3 x4
 refine dL gz _ _ _ ?_
 apply (Dz XV) <;> assumption
theorem TA:rP (av 35):=by
 intro x0 x1 x2 x3 x4
 refine dL lc _ _ _ ?_
 apply (KJ Tk) <;> assumption
theorem uI:lW (base w0 hi) (av 61):=by
 intro x0 x1 x2 x3 x4 x5 x6
 refine dL uu _ _ _ ?_
 apply (FP plain MW valid) <;> assumption
theorem Dh:pU (base w0 hi) mh (av 59):=by
 intro x0 x1 x2 x3 x4 x5
 refine dx uX _ _ _ ?_
 apply (H7 trim) <;> assumption
theorem word:IA (base w0 hi) (av 57):=by
 intro x0 x1 x2 x3 x4 x5
 refine dx A8 _ _ _ ?_
 apply (PW TT trimLeft) <;> assumption
theorem value:JA (base w0 hi) (av 96):=by
 intro x0 x1 x2 x3 x4 x5
 refine dx zS _ _ _ ?_
 apply (Nn AL TM uI Wx) <;> assumption
theorem params:Fw (base w0 hi) mh 114 (av 60):=by
 intro x0 x1 x2 x3 x4 x5 x6
 refine dx xQ _ _ _ ?_
 apply (KH FN word Dh value) <;> assumption
theorem VQ:U4 (base w0 hi) mh (av 32):=by
 intro x0 x1 x2 x3 x4 x5 x6
 refine dx Ba _ _ _ ?_
 apply (Vl.AU (TP:=114) valid word FN Dh params uI) <;> assumption
theorem readAll:tC (base w0 hi) mh (av 17):=by
 intro x0 x1 x2 x3 x4 x5 x6
 refine dx Be _ _ _ ?_
 apply (J7 TF VQ) <;> assumption
theorem great:Km (av 76):=by
 intro x0 x1 x2 x3 x4
 refine dx zR _ _ _ ?_
 apply Np <;> assumption
theorem XJ:QJ (base w0 hi) (av 72):=by
 intro x0 x1 x2 x3 x4 x5
 refine dL jY _ _ _ ?_
 apply (QK Wx) <;> assumption
theorem V4:ML (base w0 hi) (av 72):=by
 intro x0 x1 x2 x3 x4 x5
 refine dL jY _ _ _ ?_
 apply (Ph Wd) <;> assumption
theorem Xu:Rk (base w0 hi) (av 75):=by
 intro x0 x1 x2 x3 x4 x5
 refine dx yQ _ _ _ ?_
 apply (MI uI) <;> assumption
theorem UY:Fz (base w0 hi) 75 (av 109):=by
 intro x0 x1 x2 x3 x4 x5 x6 x7 x8
 refine dL uj _ _ _ ?_
 apply (H6 (n:=75) (cv:=av) Xu) <;> assumption
theorem Uf:FW (base w0 hi) 75 (av 74):=by
 intro x0 x1 x2 x3 x4 x5 x6 x7 x8
 refine dL ql _ _ _ ?_
 apply (Dk UY) <;> assumption
theorem Vo:KD (base w0 hi) mh (av 41):=by
 intro x0 x1 x2 x3 x4 x5 x6 x7 x8 x9
 refine dx Ar _ _ _ ?_
 apply (Vl.Aj Dh uI Uf) <;> assumption
theorem VK:Om (base w0 hi) (av 42):=by
 intro x0 x1 x2 x3 x4 x5 x6 x7 x8 x9 x10
 refine dx AP _ _ _ ?_
 apply (Py Kl great NW XJ Ca) <;> assumption
theorem PX:DW (base w0 hi) (jm mh) (av 22):=by
 intro x0 x1 x2 x3 x4 x5 x6 x7 x8 x9 x10
 refine dx zJ _ _ _ ?_
 apply (Nq Vo VK fold) <;> assumption
theorem U0:NJ (av 38):=by
 intro x0 x1 x2 x3 x4
 refine dx xV _ _ _ ?_
 apply (KS Hf writeString Ca) <;> assumption
theorem Uw:JR (N .i64 14) (N .i64 0) (av 40):=by
 intro x0 x1 x2 x3 x4
 refine dx uS _ _ _ ?_
 apply (Hy Hf MW Ca) <;> assumption
theorem RF:Iz (av 29):=by
 intro x0 x1 x2 x3
 refine dx uR _ _ _ ?_
 apply O1 <;> assumption
theorem Sr:Ic (av 37):=by
 intro x0 x1 x2 x3
 refine dx xG _ _ _ ?_
 apply PS <;> assumption
theorem Ub:ME (base w0 hi) (av 30):=by
 intro x0 x1 x2 x3 x4 x5 x6
 refine dL uU _ _ _ ?_
 apply (Qm itoa) <;> assumption
theorem U1:JB (base w0 hi) (av 39):=by
 intro x0 x1 x2 x3 x4 x5 x6 x7 x8 x9 x10
 refine dx zQ _ _ _ ?_
 apply (Mt V4) <;> assumption
theorem MG:Ez (base w0 hi) (av 21):=by
 intro x0 x1 x2 x3 x4 x5 x6 x7 x8 x9 x10
 refine dx Bc _ _ _ ?_
 apply (PY U1 Sr Uw U0) <;> assumption
theorem Pm:Ec (base w0 hi) (av 16):=by
 intro x0 x1 x2 x3 x4 x5 x6 x7 x8 x9 x10 x11
 refine dL zK _ _ _ ?_
 apply (Nv PX RF MG Ub) <;> assumption
theorem foldEq:Gh (base w0 hi) (av 62):=by
 intro x0 x1 x2 x3 x4 x5
 refine dL qY _ _ _ ?_
 apply (Lb TQ Uv) <;> assumption
theorem Un:Jv (base w0 hi) (av 33):=by
 intro x0 x1 x2 x3 x4 x5 x6 x7 x8 x9 x10
 refine dL vX _ _ _ ?_
 apply (Nc foldEq) <;> assumption
theorem UK:JE (base w0 hi) (av 66):=by
 intro x0 x1 x2 x3 x4 x5
 refine dx Az _ _ _ ?_
 apply (Oo trimLeft) <;> assumption
theorem Vw:Od (base w0 hi) (av 67):=by
 intro x0 x1 x2 x3 x4 x5
 refine dx zP _ _ _ ?_
 apply (PZ AL TM Wd) <;> assumption
theorem Yd:Uq (base w0 hi) (av 36):=by
 intro x0 x1 x2 x3 x4 x5
 refine dx vR _ _ _ ?_
 apply (SY UK AL FN Vw atoi) <;> assumption
theorem RN:Ip (base w0 hi) (av 20):=by
 intro x0 x1 x2 x3 x4 x5 x6
 refine dx AJ _ _ _ ?_
 apply (PP TA Yd Sr U0 Pm) <;> assumption
theorem OH:EA (base w0 hi) (av 15):=by
 intro x0 x1 x2 x3 x4 x5 x6
 refine dx Bq _ _ _ ?_
 apply (MS RN) <;> assumption
theorem Jc:DX (base w0 hi) (av 11):=by
 intro x0 x1 x2 x3 x4 x5 x6
 refine dx Av _ _ _ ?_
 apply (Vc.Aj OH) <;> assumption
theorem Uz:Nj (base w0 hi) (av 10):=by
 intro x0 x1 x2 x3 x4 x5 x6 x7 x8 x9 x10
 refine dx yX _ _ _ ?_
 apply (Ru RN Jc MG PX) <;> assumption
theorem WM:Vc.vG (base w0 hi) (av 18):=by
 intro x0 x1 x2 x3 x4 x5 x6 x7 x8 x9 x10
 refine dx Ci _ _ _ ?_
 apply (Vc.DC Un RF) <;> assumption
theorem Tv:Sha.KF 5 (av 103):=by
 intro x0 x1 x2 x3 x4 x5 x6
 refine dx AB _ _ _ ?_
 apply Sha.NT <;> assumption
theorem V5:Sha.Qq (av 149):=by
 intro x0 x1 x2 x3 x4 x5
 refine dL nN _ _ _ ?_
 apply Sha.QQ <;> assumption
theorem U7:Sha.Nk .i64 (av 126):=by
 intro x0 x1 x2 x3 x4 x5
 refine dL CR _ _ _ ?_
 apply (Sha.PN V5) <;> assumption
theorem UM:Sha.Nr 144 147 (av 102):=by
 intro x0 x1 x2 x3 x4 x5 x6 x7 x8 x9 x10 x11 x12 x13 x14 x15 x16 x17
 refine Vj u7 _ _ _ ?_
 apply (Sha.Pz U7) <;> assumption
theorem SL:Sha.vS Sha.kW (av 100):=by
 intro x0 x1 x2
 refine Mw wG _ _ _ ?_
 apply Sha.FV <;> assumption
theorem Tj:Sha.vS Sha.hW (av 101):=by
 intro x0 x1 x2
 refine Mw Cf _ _ _ ?_
 apply Sha.Ob <;> assumption
theorem VO:Sha.Rh (av 64):=by
 intro x0 x1 x2 x3 x4 x5 x6
 refine dx Ff _ _ _ ?_
 apply (Sha.Qu SL Tj UM Tv) <;> assumption
theorem Vq:Sha.Oi (av 63):=by
 intro x0 x1 x2 x3 x4
 refine dx Ev _ _ _ ?_
 apply Sha.OX <;> assumption
theorem VZ:Oq (base w0 hi) (av 34):=by
 intro x0 x1 x2 x3 x4 x5 x6 x7 x8 x9
 refine dL wJ _ _ _ ?_
 apply (Pb (B:=base w0 hi) VO Vq) <;> assumption
theorem Vy:NE (base w0 hi) (av 19):=by
 intro x0 x1 x2 x3 x4 x5 x6 x7 x8 x9 x10 x11 x12
 refine dx Ad _ _ _ ?_
 apply (Vc.AU MG Ub (VZ (hi:=hi))) <;> assumption
theorem U3:F4 (base w0 hi) (av 9):=by
 intro x0 x1 x2 x3 x4 x5 x6 x7
 refine dx xR _ _ _ ?_
 apply (QU readAll WM Vy) <;> assumption
theorem awake:U5 (base w0 hi) (av 8):=by
 intro x0 x1 x2 x3
 refine Mw zI _ _ _ ?_
 apply (MX U3 Uz OH Pm Jc) <;> assumption
end
end Go.Proofs.YtoikjkmmdpdkbaaGreatDoor.vcl
namespace Go.Proofs
open Go.RowKit Go.Shelf
def Tryz.lays260_ren:Go.Shelf.Ren:=⟨fun | 260=>123 | n=>n,fun | 9=>9 | 21=>21 | 3=>3 | 4=>4 | 5=>5 | 119=>135 | 0=>0 | 46=>139 | 139=>138 | 138=>137 | n=>n,fun | 3=>0 | 4=>1 | n=>n⟩
theorem Tryz.lays260:Go.Proofs.Lays.n260 Tryz.prog Tryz.lays260_ren where
 mixed:=by kernel_rfl
 f260:=Tryz.func123.trans (congrArg some (by kernel_rfl))
 t0:=Tryz.underlying0
 a0:=Tryz.isAgg0
 z0:=Tryz.sizeOf0
 v0:=Tryz.zeroValue0
 t3:=Tryz.underlying3
 a3:=Tryz.isAgg3
 z3:=Tryz.sizeOf3
 v3:=Tryz.zeroValue3
 t4:=Tryz.underlying4
 a4:=Tryz.isAgg4
 z4:=Tryz.sizeOf4
 v4:=Tryz.zeroValue4
 t5:=Tryz.underlying5
 a5:=Tryz.isAgg5
 z5:=Tryz.sizeOf5
 v5:=Tryz.zeroValue5
 t9:=Tryz.underlying9
 a9:=Tryz.isAgg9
 z9:=Tryz.sizeOf9
 v9:=Tryz.zeroValue9
 t21:=Tryz.underlying21
 a21:=Tryz.isAgg21
 z21:=Tryz.sizeOf21
 v21:=Tryz.zeroValue21
 t46:=Tryz.underlying139
 a46:=Tryz.isAgg139
 z46:=Tryz.sizeOf139
 v46:=Tryz.zeroValue139
 t119:=Tryz.underlying135
 a119:=Tryz.isAgg135
 z119:=Tryz.sizeOf135
 t138:=Tryz.underlying137
 a138:=Tryz.isAgg137
 z138:=Tryz.sizeOf137
 v138:=Tryz.zeroValue137
 t139:=Tryz.underlying138
 a139:=Tryz.isAgg138
 z139:=Tryz.sizeOf138
 v139:=Tryz.zeroValue138
 g3:=by kernel_rfl
 g4:=by kernel_rfl
end Go.Proofs
namespace Go.Proofs.YtoikjkmmdpdkbaaGreatDoor.vcl
open Go Go.Ab Go.RowKit Go.Proofs Go.Lib
open Go.Proofs.YtoikjkmmdpdkbaaGreatDoor
theorem jU {P:Program} {n:String} {d:DataW Unit} {r:List (String × DataW Unit)} {w:World} (h:laidMet P ((n,d) :: r) w) : laidMet P r w:=by
 obtain⟨ps,⟨g,t,cs,fuel,p,q,_,_,_,_,hs,rfl⟩,hnd,hall⟩:=h
 exact⟨q,hs,(List.nodup_append.1 hnd).2.1,fun b off hm=>hall b off (by simp[hm])⟩
theorem wF {P:Program} {w:World} {n:String} {d:DataW Unit} {g t:Nat} {ms:Array (String × TypeId)} (hg:P.globalNamed n=some g) (ht:(P.globals[g]?).map (·.type)=some t) (hu:P.underlying t=some (.interface ms))
  (h:VarReads P w n d) : ∃ ev,w.cell? ⟨g,0,none⟩=some ev∧(ev=.nilIface∨∃ te pe,ev=.iface te pe):=by
 obtain⟨g',t',cs,fuel,p,hg',ht',hvar,hd⟩:=h
 obtain rfl:=Option.some.inj (hg.symm.trans hg')
 obtain rfl:=Option.some.inj (ht.symm.trans ht')
 have hc:=World.var?_cell hg hvar 0
 cases fuel with
 | zero=>simp[DataW.trod] at hd
 | succ fuel =>
   have hl:cs[0]?=cs.toList[0]?:=by simp
   rw[hl] at hc
   unfold DataW.trod at hd
   simp only[hu] at hd
   generalize cs.toList=l at hc hd
   cases l with
   | nil=>simp at hd
   | cons v r =>
     cases r with
     | cons _ _=>simp at hd
     | nil =>
       refine⟨v,hc, ?_⟩
       cases v with
       | nilIface=>exact .inl rfl
       | iface te pe=>exact .inr ⟨te,pe,rfl⟩
       | _=>simp at hd
theorem SN:Rows.vcardKnownRow.laid=("math/bits.deBruijn32tab",Rows.laid_math_bits_deBruijn32tab) :: ("math/bits.deBruijn64tab",Rows.laid_math_bits_deBruijn64tab) :: ("internal/strconv.uint64pow10",Lib.tabData .u64 Lib.pow10Tab) ::
  ("unicode/utf8.acceptRanges",Lib.acceptData) :: ("strconv.ErrRange",Rows.laid_strconv_ErrRange) :: ("strconv.ErrSyntax",Rows.laid_strconv_ErrSyntax) :: ("unicode.asciiFold",Lib.tabData .u16 FK) ::
  ("unicode.caseOrbit",Rows.laid_unicode_caseOrbit) :: ("unicode.CaseRanges",Rows.laid_unicode_CaseRanges) :: ("unicode/utf8.first",Lib.firstData) :: []:=by kernel_rfl
theorem inv_of (w:World) (h:laidMetH Tryz.prog Rows.vcardKnownRow.laid w) : Iv w:=by
 rw[MakeChecks.laidMetH_plain _ _ _ (by kernel_rfl),SN] at h
 refine⟨?_, ?_, ?_, ?_, ?_⟩
 ·exact utf8Tabs_of_reads (ρ:=Tryz.lays260_ren) Tryz.lays260 ⟨by kernel_rfl,by kernel_rfl,by kernel_rfl,by kernel_rfl,by kernel_rfl,by kernel_rfl,by kernel_rfl⟩
   (Lib.laidMet.reads h (.tail _ (.tail _ (.tail _ (.tail _ (.tail _ (.tail _ (.tail _ (.tail _ (.tail _ (.head _))))))))))) (Lib.laidMet.reads h (.tail _ (.tail _ (.tail _ (.head _)))))
 ·exact Lib.tabIs_of_head (g:=8) (t:=216) (e:=152) (n:=20) QM (by kernel_rfl) (by kernel_rfl) (by kernel_rfl) (by kernel_rfl) (by kernel_rfl) (jU (jU h))
 ·exact Lib.tabIs_of_head (g:=2) (t:=170) (e:=169) (n:=128) IE (by kernel_rfl) (by kernel_rfl) (by kernel_rfl) (by kernel_rfl) (by kernel_rfl) (jU (jU (jU (jU (jU (jU h))))))
 ·exact wF (n := "strconv.ErrSyntax") (t:=117) (by kernel_rfl) (by kernel_rfl) Tryz.underlying117 (Lib.laidMet.reads h (.tail _ (.tail _ (.tail _ (.tail _ (.tail _ (.head _)))))))
 ·exact wF (n := "strconv.ErrRange") (t:=117) (by kernel_rfl) (by kernel_rfl) Tryz.underlying117 (Lib.laidMet.reads h (.tail _ (.tail _ (.tail _ (.tail _ (.head _))))))
end Go.Proofs.YtoikjkmmdpdkbaaGreatDoor.vcl
namespace Go.Proofs.YtoikjkmmdpdkbaaGreatDoor.vcardKnown
open Go Go.Ab Go.ChangeShapes Go.WideShapes Go.ChangeAt Go.RowKit
theorem own:ownKnob Tryz.prog.godebug=none:=by kernel_rfl
open Go.Ab.Vc Go.Proofs.YtoikjkmmdpdkbaaGreatDoor.vcl
theorem walk (w:World) (hi:Iv w) : Calls Tryz.prog 3 #[] w fun e w'=>e=.returned (.bool true)∧Below w.heap.size w w':=by
 refine dR.close (base:=base w hi) rfl hi ?_
 exact uh (MM (awake (hi:=hi)) U3 Uz Jc rfl fun M' _=>rfl)
set_option maxRecDepth 100000 in
theorem lifted (os:Os) (started:os.Started) (H:Type) (enc:TypeId × Value→H) :
  ReturnsInHanded {} Tryz.checked os 3 .any (fun w args=>(Rows.vcardKnownSpec.pre enc Tryz.prog Tryz.f3 Rows.vcardKnownRow.domain false w args∧laidMetH Tryz.prog Rows.vcardKnownRow.laid w)∧sizedMet enc Tryz.prog Tryz.f3 (OpenSpec.ofChange Rows.vcardKnownSpec) false w args)
   (Rows.vcardKnownSpec.post enc Tryz.prog Tryz.f3 false true false false):=by
 refine Ch (C:=Tryz.checked) (X:=fun w _=>laidMetH Tryz.prog Rows.vcardKnownRow.laid w) (fun _ _ _ hh h=>h.of_heap hh) own started (by kernel_rfl) Tryz.func3
  (ChangeSpec.witness_shaped (enc:=enc) (C:=Tryz.checked) (os:=os) (X:=fun w _=>laidMetH Tryz.prog Rows.vcardKnownRow.laid w) false (World.laidAll Tryz.prog os Rows.vcardKnownRow.laid) #[] 8 (World.laidAll_os _ _ _)
   (World.shaped_of_ZipB (by kernel_rfl) (by kernel_rfl)) (by kernel_rfl) (by kernel_rfl) (by kernel_rfl)
   (by rw[MakeChecks.laidMetH_plain _ _ _ (by kernel_rfl)]; exact laidMet_laidAll _ (by kernel_rfl) (by kernel_rfl))) ?_
 intro W b0 args ds gs before hval0 hW hc _ hL hsh _
 have hval:∀ (j:Nat) t v,Tryz.f3.params[j]?=some t→args[j]?=some v→Value.okWide Tryz.prog W .any b0 t v:=hval0
 have hW':=hW
 obtain⟨p,q,hA0,hV,rfl,_,_⟩:=hW
 have hA:DataW.TrodAll enc Tryz.prog W 0 (fun _=>true) true Tryz.f3.params.toList args.toList ds p:=hA0
 rw[Tryz.params3] at hA hval
 obtain⟨rfl,rfl,rfl⟩:=trodAll_none hA
 obtain⟨rfl,rfl⟩:=trodVars_none hV
 clear hA0 hval0
 simp only[List.append_nil] at hW'
 refine(walk W (inv_of W hL)).mono fun e W' ⟨he,hg⟩=>?_
 subst he
 exact⟨_,rfl,Ib (pa:=[]) (pv:=[]) hW' (fun _ _ _=>(trodAll_cons_mk (shut_bool Tryz.underlying4 _) trodAll_mk0)) (fun sp _=>rfl) (fun _ _=>rfl) rfl
  hg (ok_one (by kernel_rfl) rfl (okWide_bool_mk Tryz.underlying4 _))⟩
theorem over:Rows.VcardKnownSaid :=
 OpenClaim.holds_of_wide 3 Tryz.f3 rfl rfl rfl rfl rfl rfl rfl ⟨rfl,rfl,rfl,rfl,rfl⟩ rfl rfl rfl rfl rfl (by kernel_rfl) Tryz.func3 (by kernel_rfl)
  (of_decide_eq_true (by kernel_rfl)) (by unfold Func.isWrapper; first | (rw[if_pos (by decide +kernel)]; kernel_rfl) | (rw[if_neg (by decide +kernel)]; exact⟨rfl,rfl⟩))
  (fun os started H enc _=>lifted os started H enc)
theorem proved:Rows.VcardKnownCardSaid :=
 Claim7.holds_tied_plain_at .later [] [.data,.data,.data,.data,.sentinel,.sentinel,.data,.data,.pinned,.pinned] true (true,"eb59256b20cf9d8d51688f576570b28cac727539ba32f5a417697ee14c2f5683") true
  over (fun _ h=>by cases h) (by kernel_rfl) (fun _ h=>by cases h) vcardKnown_row_tie rfl ⟨rfl,rfl⟩ (by kernel_rfl) rfl
  (fun f fn hf hfn=>by
   obtain rfl:f=3:=Option.some.inj ((show Tryz.prog.funcNamed "rolodex/rolodexlaw24.VcardKnown" = some 3 by kernel_rfl).symm.trans hf) |>.symm
   obtain rfl:fn=Tryz.f3:=(Option.some.inj (Tryz.func3.symm.trans hfn)).symm
   exact⟨by kernel_rfl,fun j t ht=>by
    rw[Tryz.params3] at ht
    simp at ht⟩)
  (by kernel_rfl)
end Go.Proofs.YtoikjkmmdpdkbaaGreatDoor.vcardKnown
