/- 'CrdtApart' returns true for all arguments: of two devices that set one field apart both values stand behind a join,and a third set takes both away. No condition. By an AI agent. -/
import Derived.Test.YtlhlnchhaminjaaGreatApa7
import Derived.KernelRfl
import Derived.Test.YtlhlnchhaminjaaGreatProg
import Derived.Test.YtlhlnchhaminjaaGreatRows
import Derived.SizedLaws
import Derived.JoinedOf
import Derived.Carry
import Derived.WalkKit
import Derived.ProofKit
import Derived.OpenShut
set_option maxRecDepth 100000
set_option linter.unusedVariables false
set_option linter.unusedSimpArgs false
namespace Go.Proofs.YtlhlnchhaminjaaGreat
open Go Go.Ab
theorem bf {P:Program} (hP:DZ P) {f:FuncId} {fn:Func} {args:List AV} {M:RM} {Q:ah} (hfn:P.funcs[f]?=some fn) {B:Prop} (h:B) (e:B=IP P fn args M Q) : fT P f args M Q:=Rx hP hfn (e▸h)
abbrev av := @fT Tryz.prog
theorem bM:DZ Tryz.prog:=⟨Ky (by kernel_rfl),by kernel_rfl⟩
theorem Dy {a0 a1 a2 a3 a4 a5:AV} {M:RM} {Q:ah} (h:Go.Ab.Crw.yh (av 10) (av 19) (av 21) (av 13) 30 (av 25) (av 14) (av 26) (av 18) (av 31) (av 24) a0 a1 a2 a3 a4 a5 M Q) : av 8 [a0,a1,a2,a3,a4,a5] M Q:=bf bM (fn:=Tryz.f8) (by kernel_rfl) h (by kernel_rfl)
theorem NE  {M:RM} {Q:ah} (h:Go.Ab.Crw.PI (av 38) 75  M Q) : av 11 [] M Q:=bf bM (fn:=Tryz.f11) (by kernel_rfl) h (by kernel_rfl)
theorem yT {a0 a1 a2 a3 a4:AV} {M:RM} {Q:ah} (h:Go.Ab.Crw.rF 27 30 (av 39) (av 40) a0 a1 a2 a3 a4 M Q) : av 13 [a0,a1,a2,a3,a4] M Q:=bf bM (fn:=Tryz.f13) (by kernel_rfl) h (by kernel_rfl)
theorem Bg {a0 a1:AV} {M:RM} {Q:ah} (h:Go.Ab.Crw.uG 30 (av 17) (av 41) 27 (av 42) (av 37) 58 (av 43) (av 44) 45 47 (av 46) (av 33) (av 49) a0 a1 M Q) : av 14 [a0,a1] M Q:=bf bM (fn:=Tryz.f14) (by kernel_rfl) h (by kernel_rfl)
theorem Kr {a0:AV} {M:RM} {Q:ah} (h:Go.Ab.Crw.LJ 30 (av 58) (av 59) 27 (av 60) a0 M Q) : av 17 [a0] M Q:=bf bM (fn:=Tryz.f17) (by kernel_rfl) h (by kernel_rfl)
theorem yY {a0:AV} {M:RM} {Q:ah} (h:Go.Ab.Crw.qK (av 43) a0 M Q) : av 18 [a0] M Q:=bf bM (fn:=Tryz.f18) (by kernel_rfl) h (by kernel_rfl)
theorem MS {a0:AV} {M:RM} {Q:ah} (h:Go.Ab.Crw.O7 30 (av 20) a0 M Q) : av 19 [a0] M Q:=bf bM (fn:=Tryz.f19) (by kernel_rfl) h (by kernel_rfl)
theorem Dw {a0:AV} {M:RM} {Q:ah} (h:Go.Ab.Crw.xV 30 (av 61) (av 62) a0 M Q) : av 20 [a0] M Q:=bf bM (fn:=Tryz.f20) (by kernel_rfl) h (by kernel_rfl)
theorem Kb {a0 a1 a2:AV} {M:RM} {Q:ah} (h:Go.Ab.Crw.IQ (av 11) (av 14) a0 a1 a2 M Q) : av 21 [a0,a1,a2] M Q:=bf bM (fn:=Tryz.f21) (by kernel_rfl) h (by kernel_rfl)
theorem Cx {a0 a1:AV} {M:RM} {Q:ah} (h:Go.Ab.Crw.wN (av 49) (av 33) a0 a1 M Q) : av 24 [a0,a1] M Q:=bf bM (fn:=Tryz.f24) (by kernel_rfl) h (by kernel_rfl)
theorem Ce {a0:AV} {M:RM} {Q:ah} (h:Go.Ab.Crw.wz (av 41) (av 43) 75 a0 M Q) : av 25 [a0] M Q:=bf bM (fn:=Tryz.f25) (by kernel_rfl) h (by kernel_rfl)
theorem Cq {a0 a1:AV} {M:RM} {Q:ah} (h:Go.Ab.Crw.vI 58 (av 72) (av 37) (av 44) 45 (av 73) a0 a1 M Q) : av 26 [a0,a1] M Q:=bf bM (fn:=Tryz.f26) (by kernel_rfl) h (by kernel_rfl)
theorem QL {a0 a1 a2:AV} {M:RM} {Q:ah} (h:Go.Ab.Crw.TV 58 a0 a1 a2 M Q) : av 31 [a0,a1,a2] M Q:=bf bM (fn:=Tryz.f31) (by kernel_rfl) h (by kernel_rfl)
theorem Cc {a0 a1:AV} {M:RM} {Q:ah} (h:Go.Ab.ak.wM 111 (av 77) a0 a1 M Q) : av 33 [a0,a1] M Q:=bf bM (fn:=Tryz.f33) (by kernel_rfl) h (by kernel_rfl)
theorem zh {a0 a1:AV} {M:RM} {Q:ah} (h:Go.Ab.Crw.rH 58 a0 a1 M Q) : av 36 [a0,a1] M Q:=bf bM (fn:=Tryz.f36) (by kernel_rfl) h (by kernel_rfl)
theorem FR {a0 a1:AV} {M:RM} {Q:ah} (h:Go.Ab.ak.Cr 27 (av 58) (av 77) a0 a1 M Q) : av 37 [a0,a1] M Q:=bf bM (fn:=Tryz.f37) (by kernel_rfl) h (by kernel_rfl)
theorem J8  {M:RM} {Q:ah} (h:Go.Ab.ak.Ht 114  M Q) : av 38 [] M Q:=bf bM (fn:=Tryz.f38) (by kernel_rfl) h (by kernel_rfl)
theorem EK {a0 a1 a2:AV} {M:RM} {Q:ah} (h:Go.Ab.Crw.zS 9 (av 36) 78 (av 46) a0 a1 a2 M Q) : av 39 [a0,a1,a2] M Q:=bf bM (fn:=Tryz.f39) (by kernel_rfl) h (by kernel_rfl)
theorem LH {a0 a1:AV} {M:RM} {Q:ah} (h:Go.Ab.Crw.LK 30 58 27 (av 79) 80 (av 17) (av 48) a0 a1 M Q) : av 40 [a0,a1] M Q:=bf bM (fn:=Tryz.f40) (by kernel_rfl) h (by kernel_rfl)
theorem Ey {a0:AV} {M:RM} {Q:ah} (h:Go.Ab.ak.zq (av 38) (av 73) a0 M Q) : av 41 [a0] M Q:=bf bM (fn:=Tryz.f41) (by kernel_rfl) h (by kernel_rfl)
theorem GM {a0 a1:AV} {M:RM} {Q:ah} (h:Go.Ab.ak.BU 27 (av 58) (av 81) a0 a1 M Q) : av 42 [a0,a1] M Q:=bf bM (fn:=Tryz.f42) (by kernel_rfl) h (by kernel_rfl)
theorem Bh {a0:AV} {M:RM} {Q:ah} (h:Go.Ab.Crw.uJ 58 a0 M Q) : av 43 [a0] M Q:=bf bM (fn:=Tryz.f43) (by kernel_rfl) h (by kernel_rfl)
theorem xQ {a0 a1:AV} {M:RM} {Q:ah} (h:Go.Ab.Crw.pW (av 83) (av 82) a0 a1 M Q) : av 44 [a0,a1] M Q:=bf bM (fn:=Tryz.f44) (by kernel_rfl) h (by kernel_rfl)
theorem Gi {a0 a1:AV} {M:RM} {Q:ah} (h:Go.Ab.Crw.Cs 58 (av 85) (av 80) 3 (av 84) a0 a1 M Q) : av 45 [a0,a1] M Q:=bf bM (fn:=Tryz.f45) (by kernel_rfl) h (by kernel_rfl)
theorem ni {a0 a1:AV} {M:RM} {Q:ah} (h:Go.Ab.Crw.nE (av 86) 58 (av) a0 a1 M Q) : av 46 [a0,a1] M Q:=bf bM (fn:=Tryz.f46) (by kernel_rfl) h (by kernel_rfl)
theorem yL {a0 a1:AV} {M:RM} {Q:ah} (h:Go.Ab.Crw.qO 58 (av 48) a0 a1 M Q) : av 47 [a0,a1] M Q:=bf bM (fn:=Tryz.f47) (by kernel_rfl) h (by kernel_rfl)
theorem zQ {a0 a1:AV} {M:RM} {Q:ah} (h:Go.Ab.Crw.tC 27 (av 87) a0 a1 M Q) : av 48 [a0,a1] M Q:=bf bM (fn:=Tryz.f48) (by kernel_rfl) h (by kernel_rfl)
theorem Bi {a0 a1:AV} {M:RM} {Q:ah} (h:Go.Ab.Crw.uI a0 a1 M Q) : av 49 [a0,a1] M Q:=bf bM (fn:=Tryz.f49) (by kernel_rfl) h (by kernel_rfl)
theorem Jc {a0:AV} {M:RM} {Q:ah} (h:Go.Ab.ak.EO 27 a0 M Q) : av 58 [a0] M Q:=bf bM (fn:=Tryz.f58) (by kernel_rfl) h (by kernel_rfl)
theorem Dz {a0 a1 a2:AV} {M:RM} {Q:ah} (h:Go.Ab.Crw.yx a0 a1 a2 M Q) : av 59 [a0,a1,a2] M Q:=bf bM (fn:=Tryz.f59) (by kernel_rfl) h (by kernel_rfl)
theorem Lf {a0 a1:AV} {M:RM} {Q:ah} (h:Go.Ab.ak.KA 27 a0 a1 M Q) : av 60 [a0,a1] M Q:=bf bM (fn:=Tryz.f60) (by kernel_rfl) h (by kernel_rfl)
theorem IG {a0:AV} {M:RM} {Q:ah} (h:Go.Ab.ak.Fp 27 a0 M Q) : av 61 [a0] M Q:=bf bM (fn:=Tryz.f61) (by kernel_rfl) h (by kernel_rfl)
theorem Hr {a0 a1:AV} {M:RM} {Q:ah} (h:Go.Ab.ak.EB 27 a0 a1 M Q) : av 62 [a0,a1] M Q:=bf bM (fn:=Tryz.f62) (by kernel_rfl) h (by kernel_rfl)
theorem Dx {a0 a1:AV} {M:RM} {Q:ah} (h:Go.Ab.Crw.xZ 58 (av 95) 45 a0 a1 M Q) : av 72 [a0,a1] M Q:=bf bM (fn:=Tryz.f72) (by kernel_rfl) h (by kernel_rfl)
theorem Fb {a0 a1:AV} {M:RM} {Q:ah} (h:Go.Ab.ak.z8 111 109 (av 96) (av 97) (av 98) (av 99) a0 a1 M Q) : av 73 [a0,a1] M Q:=bf bM (fn:=Tryz.f73) (by kernel_rfl) h (by kernel_rfl)
theorem Fu {a0 a1:AV} {M:RM} {Q:ah} (h:Go.Ab.ak.zn (av 103) a0 a1 M Q) : av 77 [a0,a1] M Q:=bf bM (fn:=Tryz.f77) (by kernel_rfl) h (by kernel_rfl)
theorem BF {a0 a1:AV} {M:RM} {Q:ah} (h:Go.Ab.Crw.wJ 58 a0 a1 M Q) : av 78 [a0,a1] M Q:=bf bM (fn:=Tryz.f78) (by kernel_rfl) h (by kernel_rfl)
theorem zG {a0 a1:AV} {M:RM} {Q:ah} (h:Go.Ab.Crw.tF (av 83) (av 104) a0 a1 M Q) : av 79 [a0,a1] M Q:=bf bM (fn:=Tryz.f79) (by kernel_rfl) h (by kernel_rfl)
theorem J7 {a0 a1:AV} {M:RM} {Q:ah} (h:Go.Ab.Crw.Hw 27 (av 105) (av 106) 3 (av 84) a0 a1 M Q) : av 80 [a0,a1] M Q:=bf bM (fn:=Tryz.f80) (by kernel_rfl) h (by kernel_rfl)
theorem EZ {a0 a1:AV} {M:RM} {Q:ah} (h:Go.Ab.ak.Ad (av 103) 25 111 (av 108) (av 107) (av 99) a0 a1 M Q) : av 81 [a0,a1] M Q:=bf bM (fn:=Tryz.f81) (by kernel_rfl) h (by kernel_rfl)
theorem l5 {a0 a1 a2 a3 a4:AV} {M:RM} {Q:ah} (h:Go.Ab.Crw.fU (av 109) (av 110) (av 111) (av 112) (av 113) (av 114) (av) (av 115) (av 116) (av 82) a0 a1 a2 a3 a4 M Q) : av 82 [a0,a1,a2,a3,a4] M Q:=bf bM (fn:=Tryz.f82) (by kernel_rfl) h (by kernel_rfl)
theorem yZ {a0:AV} {M:RM} {Q:ah} (h:Go.Ab.ak.qW (av 117) (av 118) a0 M Q) : av 83 [a0] M Q:=bf bM (fn:=Tryz.f83) (by kernel_rfl) h (by kernel_rfl)
theorem H7 {a0:AV} {M:RM} {Q:ah} (h:Go.Ab.Crw.Eu a0 M Q) : av 84 [a0] M Q:=bf bM (fn:=Tryz.f84) (by kernel_rfl) h (by kernel_rfl)
theorem yf {a0 a1:AV} {M:RM} {Q:ah} (h:Go.Ab.Crw.pG (av 119) a0 a1 M Q) : av 85 [a0,a1] M Q:=bf bM (fn:=Tryz.f85) (by kernel_rfl) h (by kernel_rfl)
theorem wP {a0 a1:AV} {M:RM} {Q:ah} (h:Go.Ab.Crw.ou (av) a0 a1 M Q) : av 86 [a0,a1] M Q:=bf bM (fn:=Tryz.f86) (by kernel_rfl) h (by kernel_rfl)
theorem DD {a0 a1:AV} {M:RM} {Q:ah} (h:Go.Ab.Crw.xL 27 a0 a1 M Q) : av 87 [a0,a1] M Q:=bf bM (fn:=Tryz.f87) (by kernel_rfl) h (by kernel_rfl)
theorem rD {a0 a1 a2:AV} {M:RM} {Q:ah} (h:Go.Ab.Crw.jS 58 (av) a0 a1 a2 M Q) : av 95 [a0,a1,a2] M Q:=bf bM (fn:=Tryz.f95) (by kernel_rfl) h (by kernel_rfl)
theorem zl {a0:AV} {M:RM} {Q:ah} (h:Go.Ab.ak.q9 9 (av 122) 25 a0 M Q) : av 96 [a0] M Q:=bf bM (fn:=Tryz.f96) (by kernel_rfl) h (by kernel_rfl)
theorem Bf {a0:AV} {M:RM} {Q:ah} (h:Go.Ab.ak.uE (av 83) (av 123) a0 M Q) : av 97 [a0] M Q:=bf bM (fn:=Tryz.f97) (by kernel_rfl) h (by kernel_rfl)
theorem xY {a0:AV} {M:RM} {Q:ah} (h:Go.Ab.ak.pV a0 M Q) : av 98 [a0] M Q:=bf bM (fn:=Tryz.f98) (by kernel_rfl) h (by kernel_rfl)
theorem zP {a0:AV} {M:RM} {Q:ah} (h:Go.Ab.ak.tH a0 M Q) : av 99 [a0] M Q:=bf bM (fn:=Tryz.f99) (by kernel_rfl) h (by kernel_rfl)
theorem uw {a0 a1:AV} {M:RM} {Q:ah} (h:Go.Ab.ak.lZ (av 125) (av 126) a0 a1 M Q) : av 103 [a0,a1] M Q:=bf bM (fn:=Tryz.f103) (by kernel_rfl) h (by kernel_rfl)
theorem mH {a0 a1 a2 a3 a4:AV} {M:RM} {Q:ah} (h:Go.Ab.Crw.gZ (av 127) (av 128) (av 129) (av 130) (av 131) (av 132) (av) (av 133) (av 134) (av 104) a0 a1 a2 a3 a4 M Q) : av 104 [a0,a1,a2,a3,a4] M Q:=bf bM (fn:=Tryz.f104) (by kernel_rfl) h (by kernel_rfl)
theorem xU {a0 a1:AV} {M:RM} {Q:ah} (h:Go.Ab.Crw.pX (av 135) a0 a1 M Q) : av 105 [a0,a1] M Q:=bf bM (fn:=Tryz.f105) (by kernel_rfl) h (by kernel_rfl)
theorem Bl {a0 a1:AV} {M:RM} {Q:ah} (h:Go.Ab.Crw.uH (av 136) a0 a1 M Q) : av 106 [a0,a1] M Q:=bf bM (fn:=Tryz.f106) (by kernel_rfl) h (by kernel_rfl)
theorem qm {a0 a1 a2:AV} {M:RM} {Q:ah} (h:Go.Ab.ak.kV 25 (O8 Tryz.prog 137) (av 138) a0 a1 a2 M Q) : av 107 [a0,a1,a2] M Q:=bf bM (fn:=Tryz.f107) (by kernel_rfl) h (by kernel_rfl)
theorem zy {a0:AV} {M:RM} {Q:ah} (h:Go.Ab.ak.G6 25 a0 M Q) : av 108 [a0] M Q:=bf bM (fn:=Tryz.f108) (by kernel_rfl) h (by kernel_rfl)
theorem jy {a0 a1 a2 a3:AV} {M:RM} {Q:ah} (h:Go.Ab.Crw.eH (av) a0 a1 a2 a3 M Q) : av 109 [a0,a1,a2,a3] M Q:=bf bM (fn:=Tryz.f109) (by kernel_rfl) h (by kernel_rfl)
theorem rO {a0 a1 a2 a3:AV} {M:RM} {Q:ah} (h:Go.Ab.Crw.kF (av 139) a0 a1 a2 a3 M Q) : av 110 [a0,a1,a2,a3] M Q:=bf bM (fn:=Tryz.f110) (by kernel_rfl) h (by kernel_rfl)
theorem ol {a0 a1 a2 a3:AV} {M:RM} {Q:ah} (h:Go.Ab.Crw.iK 182 (av 140) (av 141) a0 a1 a2 a3 M Q) : av 111 [a0,a1,a2,a3] M Q:=bf bM (fn:=Tryz.f111) (by kernel_rfl) h (by kernel_rfl)
theorem pF {a0 a1 a2 a3:AV} {M:RM} {Q:ah} (h:Go.Ab.Crw.jr 3 (av 142) (av 143) a0 a1 a2 a3 M Q) : av 112 [a0,a1,a2,a3] M Q:=bf bM (fn:=Tryz.f112) (by kernel_rfl) h (by kernel_rfl)
theorem oN {a0 a1 a2 a3:AV} {M:RM} {Q:ah} (h:Go.Ab.Crw.iZ a0 a1 a2 a3 M Q) : av 113 [a0,a1,a2,a3] M Q:=bf bM (fn:=Tryz.f113) (by kernel_rfl) h (by kernel_rfl)
theorem l9 {a0 a1 a2 a3:AV} {M:RM} {Q:ah} (h:Go.Ab.Crw.fF (av) a0 a1 a2 a3 M Q) : av 114 [a0,a1,a2,a3] M Q:=bf bM (fn:=Tryz.f114) (by kernel_rfl) h (by kernel_rfl)
theorem nV {a0 a1 a2 a3 a4:AV} {M:RM} {Q:ah} (h:Go.Ab.Crw.iw (av) a0 a1 a2 a3 a4 M Q) : av 115 [a0,a1,a2,a3,a4] M Q:=bf bM (fn:=Tryz.f115) (by kernel_rfl) h (by kernel_rfl)
theorem qL {a0 a1 a2 a3 a4:AV} {M:RM} {Q:ah} (h:Go.Ab.Crw.jQ (av) a0 a1 a2 a3 a4 M Q) : av 116 [a0,a1,a2,a3,a4] M Q:=bf bM (fn:=Tryz.f116) (by kernel_rfl) h (by kernel_rfl)
theorem wQ {a0:AV} {M:RM} {Q:ah} (h:Go.Ab.ak.om a0 M Q) : av 118 [a0] M Q:=bf bM (fn:=Tryz.f118) (by kernel_rfl) h (by kernel_rfl)
theorem zH {a0:AV} {M:RM} {Q:ah} (h:Go.Ab.Crw.sK a0 M Q) : av 119 [a0] M Q:=bf bM (fn:=Tryz.f119) (by kernel_rfl) h (by kernel_rfl)
theorem Bn {a0 a1:AV} {M:RM} {Q:ah} (h:Go.Ab.ak.uL 9 25 a0 a1 M Q) : av 122 [a0,a1] M Q:=bf bM (fn:=Tryz.f122) (by kernel_rfl) h (by kernel_rfl)
theorem lD {a0 a1 a2 a3:AV} {M:RM} {Q:ah} (h:Go.Ab.ak.fI (av 144) (av 145) (av 146) (av 147) (av 148) (av 149) (av 125) (av 150) (av 151) (av 123) a0 a1 a2 a3 M Q) : av 123 [a0,a1,a2,a3] M Q:=bf bM (fn:=Tryz.f123) (by kernel_rfl) h (by kernel_rfl)
theorem Be {a0 a1:AV} {M:RM} {Q:ah} (h:Go.Ab.ak.uF (av 135) a0 a1 M Q) : av 125 [a0,a1] M Q:=bf bM (fn:=Tryz.f125) (by kernel_rfl) h (by kernel_rfl)
theorem yE {a0:AV} {M:RM} {Q:ah} (h:Go.Ab.ak.pE a0 M Q) : av 126 [a0] M Q:=bf bM (fn:=Tryz.f126) (by kernel_rfl) h (by kernel_rfl)
theorem jX {a0 a1 a2 a3:AV} {M:RM} {Q:ah} (h:Go.Ab.Crw.eX (av) a0 a1 a2 a3 M Q) : av 127 [a0,a1,a2,a3] M Q:=bf bM (fn:=Tryz.f127) (by kernel_rfl) h (by kernel_rfl)
theorem uD {a0 a1 a2 a3:AV} {M:RM} {Q:ah} (h:Go.Ab.Crw.lU (av 152) a0 a1 a2 a3 M Q) : av 128 [a0,a1,a2,a3] M Q:=bf bM (fn:=Tryz.f128) (by kernel_rfl) h (by kernel_rfl)
theorem pK {a0 a1 a2 a3:AV} {M:RM} {Q:ah} (h:Go.Ab.Crw.jq 182 (av 140) (av 141) a0 a1 a2 a3 M Q) : av 129 [a0,a1,a2,a3] M Q:=bf bM (fn:=Tryz.f129) (by kernel_rfl) h (by kernel_rfl)
theorem rq {a0 a1 a2 a3:AV} {M:RM} {Q:ah} (h:Go.Ab.Crw.jZ 3 (av 153) (av 154) a0 a1 a2 a3 M Q) : av 130 [a0,a1,a2,a3] M Q:=bf bM (fn:=Tryz.f130) (by kernel_rfl) h (by kernel_rfl)
theorem qI {a0 a1 a2 a3:AV} {M:RM} {Q:ah} (h:Go.Ab.Crw.jJ a0 a1 a2 a3 M Q) : av 131 [a0,a1,a2,a3] M Q:=bf bM (fn:=Tryz.f131) (by kernel_rfl) h (by kernel_rfl)
theorem mF {a0 a1 a2 a3:AV} {M:RM} {Q:ah} (h:Go.Ab.Crw.fV (av) a0 a1 a2 a3 M Q) : av 132 [a0,a1,a2,a3] M Q:=bf bM (fn:=Tryz.f132) (by kernel_rfl) h (by kernel_rfl)
theorem oK {a0 a1 a2 a3 a4:AV} {M:RM} {Q:ah} (h:Go.Ab.Crw.iT (av) a0 a1 a2 a3 a4 M Q) : av 133 [a0,a1,a2,a3,a4] M Q:=bf bM (fn:=Tryz.f133) (by kernel_rfl) h (by kernel_rfl)
theorem sJ {a0 a1 a2 a3 a4:AV} {M:RM} {Q:ah} (h:Go.Ab.Crw.lg (av) a0 a1 a2 a3 a4 M Q) : av 134 [a0,a1,a2,a3,a4] M Q:=bf bM (fn:=Tryz.f134) (by kernel_rfl) h (by kernel_rfl)
theorem rJ {a0:AV} {M:RM} {Q:ah} (h:Go.Ab.ak.nT a0 M Q) : av 135 [a0] M Q:=bf bM (fn:=Tryz.f135) (by kernel_rfl) h (by kernel_rfl)
theorem DC {a0:AV} {M:RM} {Q:ah} (h:Go.Ab.Crw.xX a0 M Q) : av 136 [a0] M Q:=bf bM (fn:=Tryz.f136) (by kernel_rfl) h (by kernel_rfl)
theorem rP {a0 a1 a2 a3 a4:AV} {M:RM} {Q:ah} (h:Go.Ab.Crw.kC (av) a0 a1 a2 a3 a4 M Q) : av 139 [a0,a1,a2,a3,a4] M Q:=bf bM (fn:=Tryz.f139) (by kernel_rfl) h (by kernel_rfl)
theorem yn {a0:AV} {M:RM} {Q:ah} (h:Go.Ab.ak.pQ (av 83) a0 M Q) : av 140 [a0] M Q:=bf bM (fn:=Tryz.f140) (by kernel_rfl) h (by kernel_rfl)
theorem qh {a0:AV} {M:RM} {Q:ah} (h:Go.Ab.ak.kQ a0 M Q) : av 141 [a0] M Q:=bf bM (fn:=Tryz.f141) (by kernel_rfl) h (by kernel_rfl)
theorem nR {a0 a1 a2 a3:AV} {M:RM} {Q:ah} (h:Go.Ab.Crw.iy (av 143) a0 a1 a2 a3 M Q) : av 142 [a0,a1,a2,a3] M Q:=bf bM (fn:=Tryz.f142) (by kernel_rfl) h (by kernel_rfl)
theorem uo {a0 a1 a2 a3 a4 a5:AV} {M:RM} {Q:ah} (h:Go.Ab.Crw.l6 (av 156) a0 a1 a2 a3 a4 a5 M Q) : av 143 [a0,a1,a2,a3,a4,a5] M Q:=bf bM (fn:=Tryz.f143) (by kernel_rfl) h (by kernel_rfl)
theorem ji {a0 a1 a2:AV} {M:RM} {Q:ah} (h:Go.Ab.ak.eu (av 125) a0 a1 a2 M Q) : av 144 [a0,a1,a2] M Q:=bf bM (fn:=Tryz.f144) (by kernel_rfl) h (by kernel_rfl)
theorem rE {a0 a1 a2:AV} {M:RM} {Q:ah} (h:Go.Ab.ak.jW (av 157) a0 a1 a2 M Q) : av 145 [a0,a1,a2] M Q:=bf bM (fn:=Tryz.f145) (by kernel_rfl) h (by kernel_rfl)
theorem nQ {a0 a1 a2:AV} {M:RM} {Q:ah} (h:Go.Ab.ak.iq 182 (av 140) (av 141) a0 a1 a2 M Q) : av 146 [a0,a1,a2] M Q:=bf bM (fn:=Tryz.f146) (by kernel_rfl) h (by kernel_rfl)
theorem oI {a0 a1 a2:AV} {M:RM} {Q:ah} (h:Go.Ab.ak.iW 3 (av 158) (av 159) a0 a1 a2 M Q) : av 147 [a0,a1,a2] M Q:=bf bM (fn:=Tryz.f147) (by kernel_rfl) h (by kernel_rfl)
theorem oq {a0 a1 a2:AV} {M:RM} {Q:ah} (h:Go.Ab.ak.iH a0 a1 a2 M Q) : av 148 [a0,a1,a2] M Q:=bf bM (fn:=Tryz.f148) (by kernel_rfl) h (by kernel_rfl)
theorem l7 {a0 a1 a2:AV} {M:RM} {Q:ah} (h:Go.Ab.ak.fA (av 125) a0 a1 a2 M Q) : av 149 [a0,a1,a2] M Q:=bf bM (fn:=Tryz.f149) (by kernel_rfl) h (by kernel_rfl)
theorem nI {a0 a1 a2 a3:AV} {M:RM} {Q:ah} (h:Go.Ab.ak.ig (av 125) a0 a1 a2 a3 M Q) : av 150 [a0,a1,a2,a3] M Q:=bf bM (fn:=Tryz.f150) (by kernel_rfl) h (by kernel_rfl)
theorem qH {a0 a1 a2 a3:AV} {M:RM} {Q:ah} (h:Go.Ab.ak.jD (av 125) a0 a1 a2 a3 M Q) : av 151 [a0,a1,a2,a3] M Q:=bf bM (fn:=Tryz.f151) (by kernel_rfl) h (by kernel_rfl)
theorem uy {a0 a1 a2 a3 a4:AV} {M:RM} {Q:ah} (h:Go.Ab.Crw.lK (av) a0 a1 a2 a3 a4 M Q) : av 152 [a0,a1,a2,a3,a4] M Q:=bf bM (fn:=Tryz.f152) (by kernel_rfl) h (by kernel_rfl)
theorem oD {a0 a1 a2 a3:AV} {M:RM} {Q:ah} (h:Go.Ab.Crw.jc (av 154) a0 a1 a2 a3 M Q) : av 153 [a0,a1,a2,a3] M Q:=bf bM (fn:=Tryz.f153) (by kernel_rfl) h (by kernel_rfl)
theorem uY {a0 a1 a2 a3 a4 a5:AV} {M:RM} {Q:ah} (h:Go.Ab.Crw.mQ (av 160) a0 a1 a2 a3 a4 a5 M Q) : av 154 [a0,a1,a2,a3,a4,a5] M Q:=bf bM (fn:=Tryz.f154) (by kernel_rfl) h (by kernel_rfl)
theorem uf {a0 a1 a2 a3 a4:AV} {M:RM} {Q:ah} (h:Go.Ab.Crw.lX (av) a0 a1 a2 a3 a4 M Q) : av 156 [a0,a1,a2,a3,a4] M Q:=bf bM (fn:=Tryz.f156) (by kernel_rfl) h (by kernel_rfl)
theorem qX {a0 a1 a2 a3:AV} {M:RM} {Q:ah} (h:Go.Ab.ak.jP (av 125) a0 a1 a2 a3 M Q) : av 157 [a0,a1,a2,a3] M Q:=bf bM (fn:=Tryz.f157) (by kernel_rfl) h (by kernel_rfl)
theorem nC {a0 a1 a2:AV} {M:RM} {Q:ah} (h:Go.Ab.ak.gY (av 159) a0 a1 a2 M Q) : av 158 [a0,a1,a2] M Q:=bf bM (fn:=Tryz.f158) (by kernel_rfl) h (by kernel_rfl)
theorem sN {a0 a1 a2 a3 a4:AV} {M:RM} {Q:ah} (h:Go.Ab.ak.lh (av 162) a0 a1 a2 a3 a4 M Q) : av 159 [a0,a1,a2,a3,a4] M Q:=bf bM (fn:=Tryz.f159) (by kernel_rfl) h (by kernel_rfl)
theorem uT {a0 a1 a2 a3 a4:AV} {M:RM} {Q:ah} (h:Go.Ab.Crw.mO (av) a0 a1 a2 a3 a4 M Q) : av 160 [a0,a1,a2,a3,a4] M Q:=bf bM (fn:=Tryz.f160) (by kernel_rfl) h (by kernel_rfl)
theorem tJ {a0 a1 a2 a3:AV} {M:RM} {Q:ah} (h:Go.Ab.ak.ll (av 125) a0 a1 a2 a3 M Q) : av 162 [a0,a1,a2,a3] M Q:=bf bM (fn:=Tryz.f162) (by kernel_rfl) h (by kernel_rfl)
end Go.Proofs.YtlhlnchhaminjaaGreat
set_option maxRecDepth 100000
set_option linter.unusedVariables false
set_option linter.unusedSimpArgs false
namespace Go.Proofs.YtlhlnchhaminjaaGreat.cshare
open Go Go.Ab Go.Ab.ak Go.RowKit
theorem over:Vt (O8 Tryz.prog 137):=by
 intro M ba oa na bb ob nb ea eb ca cb la lb opb Q hne ha hb h1 h2 hQ
 exact .inr (.inl ⟨⟨Tryz.f137,109,25,1,4,by kernel_rfl,by kernel_rfl,by kernel_rfl,by kernel_rfl,by kernel_rfl,by kernel_rfl⟩,
  ⟨ba,oa,na,ca,bb,ob,nb,cb,la,ea,0,lb,opb,eb,0,rfl,hne,ha,hb,rfl,h1,h2⟩,hQ⟩)
theorem RQ:CP Tryz.prog 107:=⟨Tryz.f107,_,by kernel_rfl,rfl⟩
theorem insert:NT 25 (av 107):=by
 intro M v bx n0 k x ex xs Q ho hn hl hk hx hxl hbx hQ
 by_cases hkn:k=xs.length
 ·subst hkn
  exact qm (PH ho hn hl hx hxl hQ)
 ·obtain ⟨b,rfl,h1,h2,h3,h4⟩:=Own.vO ho (by omega)
  refine fT.U0 RQ h3 (by rw [h4]; show xs.length * 1=_; omega) fun c hc=>?_
  have hne:bx≠b:=fun e=>hbx (by simp [aH,e])
  have kk:ag [b] M (M.put b (.row (aX.row xs++List.replicate (c - xs.length) .top) true 25 0)):=(ag.refl _ _).put _ (.inr (by simp))
  refine qm (Rz (c:=c) over rfl (by omega) hc (by omega) (aP _) (by rw [iF]; exact h2) (oJ hx hne) hxl hne ?_)
  intro v' M' q1 q2 q3 q4
  refine hQ v' M' q1 q2 (fun d hd=>?_) ?_
  ·rcases q3 d hd with rfl | h
   ·exact h1
   ·have:M.next≤d:=h
    omega
  ·exact (kk.trans q4).mono (by simp [aH])
theorem nan:PU (av 135):=fun hQ=>rJ (Gu hQ)
theorem Zw:PU (av 126):=fun hQ=>yE (Nv hQ)
theorem less:tN (av 125):=by
 intro M x y Q hQ
 obtain ⟨a0,a1,e,h⟩:=Te nan hQ
 cases e
 exact Be h
theorem search:De (av 103):=by
 intro M v xs n Q h1 h2 h3 hQ
 obtain ⟨a0,a1,e,h⟩:=Nk less Zw h1 h2 h3 hQ
 cases e
 exact uw h
theorem Xx:Tg 25 1 8 (av 108):=fun h1 h2 h3 h4 _ hQ=>zy (JN h1 h2 (Nat.le_refl _) h3 h4 hQ)
theorem settled:Ak (av 99):=by
 intro M b o T u l v xs Q h1 h2 h3 h4 h5 h6 h7 h8 h9 hQ
 obtain ⟨a0,e,h⟩:=Ku h1 h2 h3 h4 h5 h6 h7 h8 h9 hQ
 cases e
 exact zP h
theorem fq:Pb (av 81):=by
 intro M b o T u n l v xs Q h1 h2 h3 h4 h5 h6 h7 h8 h9 h10 h11 h12 hQ1 hQ2
 obtain ⟨a0,a1,e,h⟩:=Ru (TU:=25) (TP:=111) search Xx insert settled h1 h2 h3 h4 h5 h6 h7 h8 h9 h10 h11 h12 hQ1 hQ2
 cases e
 exact EZ h
theorem gG:Km (av 77):=by
 intro M b o T u n l v xs Q h1 h2 h3 h4 h5 h6 hQ
 obtain ⟨a0,a1,e,h⟩:=QW search h1 h2 h3 h4 h5 h6 hQ
 cases e
 exact Fu h
theorem good:wW (av 58):=by
 intro M d Q hQ
 obtain ⟨a0,e,h⟩:=SN (T:=27) hQ
 cases e
 exact Jc h
theorem Wn:wW (av 61):=by
 intro M d Q hQ
 obtain ⟨a0,e,h⟩:=KG (T:=27) hQ
 cases e
 exact IG h
theorem kE:OJ 114 (av 42):=by
 intro M b ps d S Q h1 h2 hQ
 obtain ⟨a0,a1,e,h⟩:=SY (TD:=27) good fq h1 h2 hQ
 cases e
 exact GM h
theorem new:OL 114 (av 38):=by
 intro M Q hQ
 obtain ⟨e,h⟩:=Ur hQ
 exact J8 h
theorem within:Dr 114 (av 33):=by
 intro M a b ps qs S S' Q h1 h2 h3 h4 hQ
 obtain ⟨a0,a1,e,h⟩:=MZ (T:=111) gG h1 h2 h3 h4 hQ
 cases e
 exact Cc h
theorem cZ:Ko 114 (av 37):=by
 intro M b ps d S Q h1 h2 hQ
 obtain ⟨a0,a1,e,h⟩:=Sd (T:=27) good gG h1 h2 hQ
 cases e
 exact FR h
theorem grow:Qt 25 (av 122):=by
 intro M n Q h1 h2 h3
 obtain ⟨a0,a1,e,h⟩:=RJ (TS:=9) h1 h2 h3
 cases e
 exact Bn h
theorem concat:Iy 25 (av 96):=by
 intro M bb TS v w xs ys Q h1 h2 h3 h4 h5 h6 hQ
 obtain ⟨a0,e,h⟩:=NH (TS:=9) grow h1 h2 h3 h4 h5 h6 hQ
 cases e
 exact zl h
theorem VT:HY 25 3 (av 162):=fun {M b s k i j d Q} h1 h2 h3 h4 hQ=>by
 obtain ⟨a0,a1,a2,a3,e,h⟩:=MG less h1 h2 h3 h4 hQ
 cases e
 exact tJ h
theorem Ou:Dp 25 3 (av 159):=fun {M b s k i j h d Q} h1 h2 h3 h4 h5 hQ=>by
 obtain ⟨a0,a1,a2,a3,a4,e,h⟩:=L8 VT h1 h2 h3 h4 h5 hQ
 cases e
 exact sN h
theorem Wm:Hd 25 3 (av 158):=fun {M b s k i d Q} h1 h2 h3 h4 h5 hQ=>by
 obtain ⟨a0,a1,a2,e,h⟩:=K7 Ou h1 h2 h3 h4 h5 hQ
 cases e
 exact nC h
theorem V8:I1 25 (av 147):=fun {M b a e d Q} h1 h2 h3 h4 hQ=>by
 obtain ⟨a0,a1,a2,e,h⟩:=KU Wm Ou h1 h2 h3 h4 hQ
 cases e
 exact oI h
theorem Vg:EQ 25 (av 149):=fun {M b a e d Q} h1 h2 h3 h4 hQ=>by
 obtain ⟨a0,a1,a2,e,h⟩:=JX less h1 h2 h3 h4 hQ
 cases e
 exact l7 h
theorem Zm:uW 25 (Sort.insertionSort lN) (fun _ _ _=>True) (av 144):=fun {M b a e d Q} h1 h2 h3 h4 h5 hQ=>by
 obtain ⟨a0,a1,a2,e,h⟩:=Rb less h1 h2 h3 h4 h5 hQ
 cases e
 exact ji h
theorem XW:QH 25 (av 157):=fun {M b lo hi first d Q} h1 h2 h3 h4 hQ=>by
 obtain ⟨a0,a1,a2,a3,e,h⟩:=RG less h1 h2 h3 h4 hQ
 cases e
 exact qX h
theorem X9:uW 25 (Sort.heapSort lN) (fun _ a e=>a<e) (av 145):=fun {M b a e d Q} h1 h2 h3 h4 h5 hQ=>by
 obtain ⟨a0,a1,a2,e,h⟩:=Sa XW h1 h2 h3 h4 h5 hQ
 cases e
 exact rE h
theorem Ve:uW 25 Sort.reverseRange (fun _ a e=>a<e) (av 148):=fun {M b a e d Q} h1 h2 h3 h4 h5 hQ=>by
 obtain ⟨a0,a1,a2,e,h⟩:=Me h1 h2 h3 h4 h5 hQ
 cases e
 exact oq h
theorem VH:H8 25 (av 150):=fun {M b a e pv d Q} h1 h2 h3 h4 h5 hQ=>by
 obtain ⟨a0,a1,a2,a3,e,h⟩:=NG less h1 h2 h3 h4 h5 hQ
 cases e
 exact nI h
theorem Yd:Qc 25 (av 151):=fun {M b a e pv d Q} h1 h2 h3 h4 h5 hQ=>by
 obtain ⟨a0,a1,a2,a3,e,h⟩:=Sk less h1 h2 h3 h4 h5 hQ
 cases e
 exact qH h
theorem XH:Aw (av 118):=fun {M x Q} h1 hQ=>by
 obtain ⟨a0,e,h⟩:=NJ h1 hQ
 cases e
 exact wQ h
theorem PD:Aw (av 83):=fun {M x Q} h1 hQ=>by
 obtain ⟨a0,e,h⟩:=RP (c3:=av 117) XH h1 hQ
 cases e
 exact yZ h
theorem TY:LP (av 140):=fun {M x Q} h0 h1 hQ=>by
 obtain ⟨a0,e,h⟩:=Uu PD h0 h1 hQ
 cases e
 exact yn h
theorem YK:Un 25 182 (av 141):=fun {M b s r d Q} h0 hQ=>by
 obtain ⟨a0,e,h⟩:=Tz h0 hQ
 cases e
 exact qh h
theorem Xu:La 25 (av 146):=fun {M b a e d Q} h1 h2 h3 h4 hQ=>by
 obtain ⟨a0,a1,a2,e,h⟩:=PT TY YK h1 h2 h3 h4 hQ
 cases e
 exact nQ h
theorem XF:∀ m,O5 25 m (av 123)
 | 0=>by intro h1 h2 h3 h4 h5; omega
 | m + 1=>by
   intro h1 h2 h3 h4 h5 h6 hQ
   obtain ⟨a0,a1,a2,a3,e,h⟩:=Sn Zm X9 Xu V8 Ve Vg less VH Yd (XF m) h1 h2 h3 h4 h5 h6 hQ
   cases e
   exact lD h
theorem Wv:KP (av 144):=fun {M v Q} hQ=>by
 obtain ⟨a0,a1,a2,e,h⟩:=MQ (cl:=av 125) (v:=v) hQ
 cases e
 exact ji h
theorem XB:Ls (av 123):=fun {M v Q} hQ=>by
 obtain ⟨a0,a1,a2,a3,e,h⟩:=Np (c2:=av 145) (c3:=av 146) (cc:=av 147) (c4:=av 148) (cp:=av 149) (c5:=av 125) (c6:=av 150) (c7:=av 151) (c8:=av 123) Wv (v:=v) hQ
 cases e
 exact lD h
theorem Wo:PZ (fun xs=>xs.length≤60000) gp 25 (av 97):=fun {M base v xs Q} h1 h2 hQ=>by
 obtain ⟨a0,e,h⟩:=PE PD XF XB h1 h2 hQ
 cases e
 exact Bf h
theorem O1:Fv (fun xs=>xs.length≤60000) dd 25 (av 98):=fun {M base v xs Q} h1 h2 hQ=>by
 obtain ⟨a0,e,h⟩:=J9 h1 h2 hQ
 cases e
 exact xY h
theorem Oq:Qs (fun xs=>xs.length≤60000) (fun xs=>xs.length≤60000) gp dd 114 (av 73):=fun {M a b ps qs S S' Q} h1 h2 h3 h4 h5 h6 h7 h8 hQ=>by
 obtain ⟨a0,a1,e,h⟩:=Ra (TP:=111) (TL:=109) concat Wo O1 settled h1 h2 h3 h4 h5 h6 h7 h8 hQ
 cases e
 exact Fb h
end Go.Proofs.YtlhlnchhaminjaaGreat.cshare
set_option maxRecDepth 100000
set_option linter.unusedVariables false
set_option linter.unusedSimpArgs false
namespace Go.Proofs.YtlhlnchhaminjaaGreat.cshare
open Go Go.Ab Go.Ab.ak Go.Ab.Crw Go.RowKit
theorem X4:zk (av 60):=by
 intro M a b Q h1
 obtain ⟨a0,a1,e,h⟩:=O6 (T:=27) h1
 cases e
 exact Lf h
theorem V5:zk (av 62):=by
 intro M a b Q h1
 obtain ⟨a0,a1,e,h⟩:=MJ (T:=27) h1
 cases e
 exact Hr h
theorem names:KO (av 59):=by
 intro M x y z Q h1
 obtain ⟨a0,a1,a2,e,h⟩:=Pw h1
 cases e
 exact Dz h
theorem bY:sQ (av 17):=by
 intro M e kv ks Q h1 h2
 obtain ⟨a0,e,h⟩:=MU (TE:=30) (TD:=27) good names X4 h1 h2
 cases e
 exact Kr h
theorem Rp:sQ (av 20):=by
 intro M e kv ks Q h1 h2
 obtain ⟨a0,e,h⟩:=Ip (TE:=30) Wn V5 h1 h2
 cases e
 exact Dw h
theorem Zr:Ap (α:=List UInt8) (fun s=>St s) (av 119):=by
 intro M x Q h1
 obtain ⟨a0,e,h⟩:=Sr h1
 cases e
 exact zH h
theorem Zg:Ap (α:=Nat) (fun n=>N .u64 (n:Int)) (av 135):=by
 intro M x Q h1
 obtain ⟨a0,e,h⟩:=Rj h1
 cases e
 exact rJ h
theorem Y8:Ap (α:=Int) (fun n=>N .i64 n) (av 136):=by
 intro M x Q h1
 obtain ⟨a0,e,h⟩:=RD h1
 cases e
 exact DC h
theorem ZM:uP (α:=List UInt8) (fun s=>St s) (fun x y=>decide (x<y)) (av 85):=by
 intro M x y Q h1
 obtain ⟨a0,a1,e,h⟩:=Si Zr h1
 cases e
 exact yf h
theorem Zy:uP (α:=Nat) (fun n=>N .u64 (n:Int)) (fun x y=>decide (x<y)) (av 105):=by
 intro M x y Q h1
 obtain ⟨a0,a1,e,h⟩:=RF Zg h1
 cases e
 exact xU h
theorem Zx:uP (α:=Int) (fun n=>N .i64 n) (fun x y=>decide (x<y)) (av 106):=by
 intro M x y Q h1
 obtain ⟨a0,a1,e,h⟩:=Re Y8 h1
 cases e
 exact Bl h
theorem Yq:Vz (av 84):=by
 intro M v xs Q h1 h2 h3
 obtain ⟨a0,e,h⟩:=Wd h1 h2 h3
 cases e
 exact H7 h
theorem Vw:FP (av 80):=by
 intro M x y Q h1
 obtain ⟨a0,a1,e,h⟩:=Po Zy Zx Yq h1
 cases e
 exact J7 h
theorem compare:AB (av 45):=by
 intro M x y Q h1
 obtain ⟨a0,a1,e,h⟩:=Mc ZM Vw Yq h1
 cases e
 exact Gi h
abbrev fE:AV:=.fn (.func 45) [] []
theorem Fj:lM aC gT (bN (av) fE):=VN compare
theorem Ue:SortG aC 58 5 fE (Sort.insertionSort gT) (fun _ _ _=>True) (av 109):=by
 intro M b a e d Q h1 h2 h3 h4 h5 h6
 obtain ⟨a0,a1,a2,a3,e,h⟩:=Crw.Ue (cv:=av) Fj h1 h2 h3 h4 h5 h6
 cases e
 exact jy h
theorem UX:SortG aC 58 5 fE Sort.reverseRange (fun _ a e=>a<e) (av 113):=by
 intro M b a e d Q h1 h2 h3 h4 h5 h6
 obtain ⟨a0,a1,a2,a3,e,h⟩:=Crw.UX h1 h2 h3 h4 h5 h6
 cases e
 exact oN h
theorem QA:Ql 58 fE gT (av 139):=by
 intro M b lo hi first d Q h1 h2 h3 h4 h5
 obtain ⟨a0,a1,a2,a3,a4,e,h⟩:=Crw.QA (cv:=av) Fj h1 h2 h3 h4 h5
 cases e
 exact rP h
theorem PV:SortG aC 58 5 fE (Sort.heapSort gT) (fun _ a e=>a<e) (av 110):=by
 intro M b a e d Q h1 h2 h3 h4 h5 h6
 obtain ⟨a0,a1,a2,a3,e,h⟩:=Crw.PV QA h1 h2 h3 h4 h5 h6
 cases e
 exact rO h
theorem I9:I4 58 fE gT (av 115):=by
 intro M b a e pv d Q h1 h2 h3 h4 h5 h6
 obtain ⟨a0,a1,a2,a3,a4,e,h⟩:=Crw.I9 (cv:=av) Fj h1 h2 h3 h4 h5 h6
 cases e
 exact nV h
theorem Pj:QN 58 fE gT (av 116):=by
 intro M b a e pv d Q h1 h2 h3 h4 h5 h6
 obtain ⟨a0,a1,a2,a3,a4,e,h⟩:=Crw.Pj (cv:=av) Fj h1 h2 h3 h4 h5 h6
 cases e
 exact qL h
theorem Hl:IC 58 3 fE gT (av 156):=by
 intro M b s k i j d Q h1 h2 h3 h4 h5 h6
 obtain ⟨a0,a1,a2,a3,a4,e,h⟩:=Crw.Hl (cv:=av) Fj h1 h2 h3 h4 h5 h6
 cases e
 exact uf h
theorem CU:Di 58 3 fE gT (av 143):=by
 intro M b s k i j h d Q h1 h2 h3 h4 h5 h6 h7
 obtain ⟨a0,a1,a2,a3,a4,a5,e,h⟩:=Crw.CU Hl h1 h2 h3 h4 h5 h6 h7
 cases e
 exact uo h
theorem Ja:I5 58 3 fE gT (av 142):=by
 intro M b s k i d Q h1 h2 h3 h4 h5 h6 h7
 obtain ⟨a0,a1,a2,a3,e,h⟩:=Crw.Ja CU h1 h2 h3 h4 h5 h6 h7
 cases e
 exact nR h
theorem Ic:IL 58 fE gT (av 112):=by
 intro M b a e d Q h1 h2 h3 h4 h5
 obtain ⟨a0,a1,a2,a3,e,h⟩:=Crw.Ic Ja CU h1 h2 h3 h4 h5
 cases e
 exact pF h
theorem EX:E9 58 fE gT (av 114):=by
 intro M b a e d Q h1 h2 h3 h4 h5
 obtain ⟨a0,a1,a2,a3,e,h⟩:=Crw.EX (cv:=av) Fj h1 h2 h3 h4 h5
 cases e
 exact l9 h
theorem Xd:QJ 182 (av 141):=by
 intro M s r Q h1 h2 h3
 obtain ⟨a0,e,h⟩:=Sg h1 h2 h3
 cases e
 exact qh h
theorem K6:SortG aC 58 5 fE Sort.breakPatterns (fun _ _ _=>True) (av 111):=by
 intro M b a e d Q h1 h2 h3 h4 h5 h6
 obtain ⟨a0,a1,a2,a3,e,h⟩:=Crw.K6 TY Xd h1 h2 h3 h4 h5 h6
 cases e
 exact ol h
theorem O0:∀ m,Qr 58 m fE gT (av 82)
 | 0=>by intro h1 h2 h3 h4 h5; omega
 | m + 1=>by
   intro h1 h2 h3 h4 h5 h6 hQ
   obtain ⟨a0,a1,a2,a3,a4,e,h⟩:=Crw.O0 (cv:=av) fG Ue PV K6 Ic UX EX Fj I9 Pj (O0 m) h1 h2 h3 h4 h5 h6 hQ
   cases e
   exact l5 h
theorem Jh:IB (av 109):=by
 intro M v fv Q h1
 obtain ⟨a0,a1,a2,a3,e,h⟩:=Crw.Jh (cv:=av) h1
 cases e
 exact jy h
theorem Hf:IV (av 82):=by
 intro M v fv Q h1
 obtain ⟨a0,a1,a2,a3,a4,e,h⟩:=Crw.Hf (cv:=av) Jh h1
 cases e
 exact l5 h
theorem Rf:Du fE gT 58 (av 44):=by
 intro M base v xs Q h1 h2 h3
 obtain ⟨a0,a1,e,h⟩:=Crw.VS fG PD O0 Hf h1 h2 h3
 cases e
 exact xQ h
theorem clone:yX 58 (av 43):=by
 intro M v xs Q h1 h2 h3
 obtain ⟨a0,e,h⟩:=NA h1 h2 h3
 cases e
 exact Bh h
theorem index:Ij (av 87):=by
 intro M v l d Q h1 h2 h3
 obtain ⟨a0,a1,e,h⟩:=Nl (T:=27) h1 h2 h3
 cases e
 exact DD h
theorem contains:u7 (av 48):=by
 intro M v l d Q h1 h2 h3
 obtain ⟨a0,a1,e,h⟩:=G9 (T:=27) index h1 h2 h3
 cases e
 exact zQ h
theorem Sm:CJ (av 49):=by
 intro M v w xs ys Q h1 h2 h3 h4
 obtain ⟨a0,a1,e,h⟩:=NM h1 h2 h3 h4
 cases e
 exact Bi h
theorem Sw {b:Nat} {e:je} {kv:AV} {ks:List ak} (hl:ks.length≤1000000) : F9 (Cf 30 b e kv ks) (fun x=>decide (x.1∈ks)) (bN (av) (.fn (.func 47) [] [.ptr b 0])):=by
 intro M x Q hP hQ
 obtain ⟨a0,a1,e,h⟩:=MR (T:=58) contains hl hP hQ
 refine ⟨47,[],[.ptr b 0],rfl, ?_⟩
 show av 47 [.agg (aC.cells x),.ptr b 0] M Q
 cases e
 exact yL h
theorem QU {P:RM→Prop} {p:Crw.aL→Bool} {fv:AV} (hp:F9 P p (bN (av) fv)) : H6 P p fv (av 86):=by
 intro M v xs Q h1 h2 h3 h4 h5 h6
 obtain ⟨a0,a1,e,h⟩:=MP hp h1 h2 h3 h4 h5 h6
 cases e
 exact wP h
theorem V7 (b:Nat) (e:je) (kv:AV) (ks:List ak) (hl:ks.length≤1000000) : wH 58 (Cf 30 b e kv ks) (fun x=>decide (x.1∈ks)) (.fn (.func 47) [] [.ptr b 0]) (av 46):=by
 intro M base v xs Q h1 h2 h3 h4 hQ
 obtain ⟨a0,a1,e,h⟩:=BZ (TE:=58) (QU (Sw hl)) (Sw hl) h1 h2 h3 h4 hQ
 cases e
 exact ni h
theorem CS:Gr 114 (av 41):=by
 intro M b qs S' k Q h1 h2 h3 h4
 obtain ⟨a0,e,h⟩:=PW new Oq h1 h2 h3 h4
 cases e
 exact Ey h
theorem X3:Kq 75 114 (av 11):=by
 intro M Q h1
 obtain ⟨e,h⟩:=OE new h1
 exact NE h
theorem apply:Ck 75 114 (av 14):=by
 intro M t k B ps es e kv ks Q h1 h2 h3 h4 h5 h6 h7 h8
 obtain ⟨a0,a1,e,h⟩:=PL (TE:=30) (TD:=27) (TN:=58) (cv:=av) bY CS kE cZ clone Rf V7 within Sm h1 h2 h3 h4 h5 h6 h7 h8
 cases e
 exact Bg h
theorem entries:EH 75 114 58 (av 18):=by
 intro M t B ps es Q h1 h2 h3
 obtain ⟨a0,e,h⟩:=Lp clone h1 h2 h3
 cases e
 exact yY h
theorem own:UM 30 (av 19):=by
 intro M v l Q h1 h2 h3
 obtain ⟨a0,e,h⟩:=U8 Rp h1 h2 h3
 cases e
 exact MS h
end Go.Proofs.YtlhlnchhaminjaaGreat.cshare
set_option maxRecDepth 100000
set_option linter.unusedVariables false
set_option linter.unusedSimpArgs false
namespace Go.Proofs.YtlhlnchhaminjaaGreat.cshare
open Go Go.Ab Go.Ab.ak Go.Ab.Crw Go.RowKit
theorem DN {α:Type} {R:qj α} {M:RM} {S:Nat→Prop} {p:α→Prop} : ∀ (n:Nat) (ds:List AV),ds.length=n * R.size→(∀ i,i<n→∃ a,p a∧R.rel M ((ds.drop (i * R.size)).take R.size) a S) →
  ∃ xs:List α,xs.length=n∧ed R M S ds xs∧∀ x∈xs,p x
 | 0,ds,hl,_=>by
   have:ds=[]:=by simpa using hl
   subst this
   exact ⟨[],rfl,.nil,by simp⟩
 | n + 1,ds,hl,h=>by
   obtain ⟨a,pa,ha⟩:=h 0 (by omega)
   simp only [Nat.zero_mul,List.drop_zero] at ha
   have hl' : (ds.drop R.size).length=n * R.size:=by rw [List.length_drop,hl,Nat.succ_mul]; omega
   obtain ⟨xs,h1,h2,h3⟩:=DN n (ds.drop R.size) hl' fun i hi=>by
    obtain ⟨b,pb,hb⟩:=h (i + 1) (by omega)
    refine ⟨b,pb, ?_⟩
    rw [List.drop_drop,show R.size + i * R.size=(i + 1) * R.size by rw [Nat.succ_mul,Nat.add_comm]]
    exact hb
   refine ⟨a :: xs,by simp [h1], ?_,fun x hx=>?_⟩
   ·have:=ed.cons ha h2
    rwa [List.take_append_drop] at this
   ·rcases List.mem_cons.1 hx with rfl | hx
    ·exact pa
    ·exact h3 x hx
theorem cells3:Tryz.prog.cellsOf 3=1:=by kernel_rfl
theorem WO:Tryz.prog.cellsOf 9=1:=by kernel_rfl
theorem VZ:Tryz.prog.cellsOf 25=1:=by kernel_rfl
theorem Dl:Tryz.prog.cellsOf 27=2:=by kernel_rfl
theorem VP:Tryz.prog.cellsOf 28=1:=by kernel_rfl
theorem Ie:Tryz.prog.cellsOf 30=7:=by kernel_rfl
theorem MC {M:RM} {cs:List AV} (h:Fits Tryz.prog M 27 cs) : ∃ d:ak,cs=aR.cells d∧d.2<2 ^ 64:=by
 obtain ⟨hl,hf⟩:=h.Gw Tryz.underlying27
 rw [Dl] at hl
 match cs,hl with
 | [a,b],_ =>
   have f0:Fits Tryz.prog M 3 (([a,b].drop 0).take (Tryz.prog.cellsOf 3)):=hf 0 _ rfl
   have f1:Fits Tryz.prog M 25 (([a,b].drop 1).take (Tryz.prog.cellsOf 25)):=hf 1 _ rfl
   rw [cells3] at f0
   rw [VZ] at f1
   obtain ⟨n,e,_,_⟩:=f0.H9 Tryz.underlying3
   obtain ⟨m,e',g1,g2⟩:=f1.H9 Tryz.underlying25
   have g1:(0:Int)≤m:=g1
   have g2:m≤(18446744073709551615:Int):=g2
   obtain ⟨k,rfl⟩:=Int.eq_ofNat_of_zero_le g1
   cases e; cases e'
   exact ⟨(n,k),rfl,by show k<2 ^ 64; omega⟩
theorem QQ {M:RM} {cs:List AV} (h:Fits Tryz.prog M 28 cs) : ∃ v,∃ l:List ak,cs=[v]∧Sl aR M v l∧∀ d∈l,d.2<2 ^ 64:=by
 obtain ⟨v,n,ds,rfl,hs,hb,he⟩:=h.Jk Tryz.underlying28 (by rw [Dl]; decide)
 rw [Dl] at hs he
 obtain ⟨xs,rfl,rfl,hp⟩:=JK (size:=2) aR.cells (fun d:ak=>d.2<2 ^ 64) (fun _=>rfl) n ds hs.length fun i hi=>by
  obtain ⟨d,e,h⟩:=MC (he i hi)
  exact ⟨d,h,e⟩
 exact ⟨v,xs,rfl,hs,hp⟩
def TW (x:Ev) : Prop:=x.1.1.2<2 ^ 64∧x.1.2.2.1.length≤reachBytes∧x.1.2.2.2.1.length≤reachBytes∧x.1.2.2.2.2.length≤reachBytes∧∀ d∈x.2,d.2<2 ^ 64
theorem VI {M:RM} {cs:List AV} (h:Fits Tryz.prog M 30 cs) : ∃ e kv ks,cs=aV e kv∧Sl aR M kv ks∧TW (e,ks):=by
 obtain ⟨hl,hf⟩:=h.Gw Tryz.underlying30
 rw [Ie] at hl
 match cs,hl with
 | [a,b,c,d,e,f,g],_ =>
   have f0:Fits Tryz.prog M 27 (([a,b,c,d,e,f,g].drop 0).take (Tryz.prog.cellsOf 27)):=hf 0 _ rfl
   have f1:Fits Tryz.prog M 3 (([a,b,c,d,e,f,g].drop 2).take (Tryz.prog.cellsOf 3)):=hf 1 _ rfl
   have f2:Fits Tryz.prog M 9 (([a,b,c,d,e,f,g].drop 3).take (Tryz.prog.cellsOf 9)):=hf 2 _ rfl
   have f3:Fits Tryz.prog M 9 (([a,b,c,d,e,f,g].drop 4).take (Tryz.prog.cellsOf 9)):=hf 3 _ rfl
   have f4:Fits Tryz.prog M 9 (([a,b,c,d,e,f,g].drop 5).take (Tryz.prog.cellsOf 9)):=hf 4 _ rfl
   have f5:Fits Tryz.prog M 28 (([a,b,c,d,e,f,g].drop 6).take (Tryz.prog.cellsOf 28)):=hf 5 _ rfl
   rw [Dl] at f0
   rw [cells3] at f1
   rw [WO] at f2 f3 f4
   rw [VP] at f5
   obtain ⟨dd,e0,g0⟩:=MC f0
   obtain ⟨op,e1,_,_⟩:=f1.H9 Tryz.underlying3
   obtain ⟨s2,e2,g2⟩:=f2.pY Tryz.underlying9
   obtain ⟨s3,e3,g3⟩:=f3.pY Tryz.underlying9
   obtain ⟨s4,e4,g4⟩:=f4.pY Tryz.underlying9
   obtain ⟨kv,ks,e5,hk,g5⟩:=QQ f5
   cases e0; cases e1; cases e2; cases e3; cases e4; cases e5
   exact ⟨(dd,(op,(s2,(s3,s4)))),_,ks,rfl,hk,g0,g2,g3,g4,g5⟩
theorem TF {M:RM} {cs:List AV} (h:Fits Tryz.prog M 43 cs) : ∃ v,∃ l:List Ev,cs=[v]∧gX rQ M v l (fun d=>d<M.next)∧∀ x∈l,TW x:=by
 obtain ⟨v,n,ds,rfl,hs,hb,he⟩:=h.Jk Tryz.underlying43 (by rw [Ie]; decide)
 rw [Ie] at hs he
 obtain ⟨xs,hn,hr,hp⟩:=DN (R:=rQ) (M:=M) (S:=fun d=>d<M.next) (p:=TW) n ds hs.length fun i hi=>by
  obtain ⟨e,kv,ks,e1,hk,ho⟩:=VI (he i hi)
  refine ⟨(e,ks),ho, ?_⟩
  show rQ.rel M ((ds.drop (i * 7)).take 7) (e,ks) _
  rw [e1]
  exact SC hk (fun d hd=>aN.lt hk d hd)
 subst hn
 exact ⟨v,xs,rfl,⟨ds,hs,fun d hd=>hs.lt d hd,hr⟩,hp⟩
end Go.Proofs.YtlhlnchhaminjaaGreat.cshare
set_option maxRecDepth 100000
set_option linter.unusedVariables false
set_option linter.unusedSimpArgs false
namespace Go.Proofs.YtlhlnchhaminjaaGreat.cshare
open Go Go.Ab Go.Ab.ak Go.Ab.Crw Go.RowKit
theorem ZJ:Ug fE (bN (av) fE):=VC compare
theorem V3:Er fE (av 95):=by
 intro M v xs x Q h1 h2 h3 h4
 obtain ⟨a0,a1,a2,e,h⟩:=KT (TN:=58) (cv:=av) ZJ h1 h2 h3 h4
 cases e
 exact rD h
theorem Zd:Qh 75 114 (av 72):=by
 intro M t B ps es x Q h1 h2 h3 h4
 obtain ⟨a0,a1,e,h⟩:=QT (TN:=58) V3 h1 h2 h3 h4
 cases e
 exact Dx h
theorem WC:IJ 75 114 (av 25):=by
 intro M t k B ps es Q h1 h2 h3 h4 h5
 obtain ⟨a0,e,h⟩:=Ny CS clone h1 h2 h3 h4 h5
 cases e
 exact Ce h
theorem Xw:IZ 75 114 (av 24):=by
 intro M t u k l B C ps qs es fs Q h1 h2 h3 h4 h5 h6 h7 h8
 obtain ⟨a0,a1,e,h⟩:=Nw Sm within h1 h2 h3 h4 h5 h6 h7 h8
 cases e
 exact Cx h
theorem state:LG 75 114 (av 21):=by
 intro M v l n m back Q h1 h2 h3 h4 h5
 obtain ⟨a0,a1,a2,e,h⟩:=Qj X3 apply h1 h2 h3 h4 h5
 cases e
 exact Kb h
theorem WQ:Dj 75 114 (av 26):=by
 intro M t u k l B C ps qs es fs Q h1 h2 h3 h4 h5 h6 h7 h8 h9 h10 h11 h12 h13 h14
 obtain ⟨a0,a1,e,h⟩:=MV (TN:=58) Zd cZ Rf Oq h1 h2 h3 h4 h5 h6 h7 h8 h9 h10 h11 h12 h13 h14
 cases e
 exact Cq h
end Go.Proofs.YtlhlnchhaminjaaGreat.cshare
set_option maxRecDepth 100000
set_option linter.unusedVariables false
set_option linter.unusedSimpArgs false
namespace Go.Proofs.YtlhlnchhaminjaaGreat.cshare
open Go Go.Ab Go.Ab.ak Go.Ab.Crw Go.RowKit
abbrev fD:AV:=.fn (.func 80) [] []
theorem Fg:lM aR kW (bN (av) fD):=VX Vw
theorem UT:SortG aR 27 2 fD (Sort.insertionSort kW) (fun _ _ _=>True) (av 127):=by
 intro M b a e d Q h1 h2 h3 h4 h5 h6
 obtain ⟨a0,a1,a2,a3,e,h⟩:=Crw.UT (cv:=av) Fg h1 h2 h3 h4 h5 h6
 cases e
 exact jX h
theorem Vi:SortG aR 27 2 fD Sort.reverseRange (fun _ a e=>a<e) (av 131):=by
 intro M b a e d Q h1 h2 h3 h4 h5 h6
 obtain ⟨a0,a1,a2,a3,e,h⟩:=Crw.Vi h1 h2 h3 h4 h5 h6
 cases e
 exact qI h
theorem PG:Qm 27 fD kW (av 152):=by
 intro M b lo hi first d Q h1 h2 h3 h4 h5
 obtain ⟨a0,a1,a2,a3,a4,e,h⟩:=Crw.PG (cv:=av) Fg h1 h2 h3 h4 h5
 cases e
 exact uy h
theorem Qu:SortG aR 27 2 fD (Sort.heapSort kW) (fun _ a e=>a<e) (av 128):=by
 intro M b a e d Q h1 h2 h3 h4 h5 h6
 obtain ⟨a0,a1,a2,a3,e,h⟩:=Crw.Qu PG h1 h2 h3 h4 h5 h6
 cases e
 exact uD h
theorem Jf:G8 27 fD kW (av 133):=by
 intro M b a e pv d Q h1 h2 h3 h4 h5 h6
 obtain ⟨a0,a1,a2,a3,a4,e,h⟩:=Crw.Jf (cv:=av) Fg h1 h2 h3 h4 h5 h6
 cases e
 exact oK h
theorem Qe:P6 27 fD kW (av 134):=by
 intro M b a e pv d Q h1 h2 h3 h4 h5 h6
 obtain ⟨a0,a1,a2,a3,a4,e,h⟩:=Crw.Qe (cv:=av) Fg h1 h2 h3 h4 h5 h6
 cases e
 exact sJ h
theorem GY:IR 27 3 fD kW (av 160):=by
 intro M b s k i j d Q h1 h2 h3 h4 h5 h6
 obtain ⟨a0,a1,a2,a3,a4,e,h⟩:=Crw.GY (cv:=av) Fg h1 h2 h3 h4 h5 h6
 cases e
 exact uT h
theorem CV:Dc 27 3 fD kW (av 154):=by
 intro M b s k i j h d Q h1 h2 h3 h4 h5 h6 h7
 obtain ⟨a0,a1,a2,a3,a4,a5,e,h⟩:=Crw.CV GY h1 h2 h3 h4 h5 h6 h7
 cases e
 exact uY h
theorem G7:Ii 27 3 fD kW (av 153):=by
 intro M b s k i d Q h1 h2 h3 h4 h5 h6 h7
 obtain ⟨a0,a1,a2,a3,e,h⟩:=Crw.G7 CV h1 h2 h3 h4 h5 h6 h7
 cases e
 exact oD h
theorem GZ:H5 27 fD kW (av 130):=by
 intro M b a e d Q h1 h2 h3 h4 h5
 obtain ⟨a0,a1,a2,a3,e,h⟩:=Crw.GZ G7 CV h1 h2 h3 h4 h5
 cases e
 exact rq h
theorem Ew:Ep 27 fD kW (av 132):=by
 intro M b a e d Q h1 h2 h3 h4 h5
 obtain ⟨a0,a1,a2,a3,e,h⟩:=Crw.Ew (cv:=av) Fg h1 h2 h3 h4 h5
 cases e
 exact mF h
theorem KN:SortG aR 27 2 fD Sort.breakPatterns (fun _ _ _=>True) (av 129):=by
 intro M b a e d Q h1 h2 h3 h4 h5 h6
 obtain ⟨a0,a1,a2,a3,e,h⟩:=Crw.KN TY Xd h1 h2 h3 h4 h5 h6
 cases e
 exact pK h
theorem QI:∀ m,Pz 27 m fD kW (av 104)
 | 0=>by intro h1 h2 h3 h4 h5; omega
 | m + 1=>by
   intro h1 h2 h3 h4 h5 h6 hQ
   obtain ⟨a0,a1,a2,a3,a4,e,h⟩:=Crw.QI (cv:=av) tK UT Qu KN GZ Vi Ew Fg Jf Qe (QI m) h1 h2 h3 h4 h5 h6 hQ
   cases e
   exact mH h
theorem HZ:Ig (av 127):=by
 intro M v fv Q h1
 obtain ⟨a0,a1,a2,a3,e,h⟩:=Crw.HZ (cv:=av) h1
 cases e
 exact jX h
theorem Hg:IW (av 104):=by
 intro M v fv Q h1
 obtain ⟨a0,a1,a2,a3,a4,e,h⟩:=Crw.Hg (cv:=av) HZ h1
 cases e
 exact mH h
theorem IA:Io fD kW 27 (av 79):=by
 intro M base v xs Q h1 h2 h3
 obtain ⟨a0,a1,e,h⟩:=Crw.IA tK PD QI Hg h1 h2 h3
 cases e
 exact zG h
theorem VK:Em 75 114 58 (av 36):=by
 intro M t B ps es s Q h1 h2 h3
 obtain ⟨a0,a1,e,h⟩:=L9 h1 h2 h3
 cases e
 exact zh h
theorem Yp {b:Nat} {s:List UInt8} : F9 (Kh 9 b s) (Crw.JU s) (bN (av) (.fn (.func 78) [] [.ptr b 0])):=by
 intro M x Q hP hQ
 obtain ⟨a0,a1,e,h⟩:=Uf (TN:=58) hP hQ
 refine ⟨78,[],[.ptr b 0],rfl, ?_⟩
 show av 78 [.agg (aC.cells x),.ptr b 0] M Q
 cases e
 exact BF h
theorem Tw (b:Nat) (s:List UInt8) : wH 58 (Kh 9 b s) (Crw.JU s) (.fn (.func 78) [] [.ptr b 0]) (av 46):=by
 intro M base v xs Q h1 h2 h3 h4 hQ
 obtain ⟨a0,a1,e,h⟩:=BZ (TE:=58) (QU Yp) Yp h1 h2 h3 h4 hQ
 cases e
 exact ni h
theorem YO:Qa 75 114 (av 39):=by
 intro M t B ps es s f Q h1 h2 h3
 obtain ⟨a0,a1,a2,e,h⟩:=Rl (TB:=9) VK Tw h1 h2 h3
 cases e
 exact EK h
theorem made:Pq (av 40):=by
 intro M v e xs Q h1 h2 h3 h4
 obtain ⟨a0,a1,e,h⟩:=QV (TE:=30) (TN:=58) (TD:=27) IA bY contains h1 h2 h3 h4
 cases e
 exact LH h
theorem Wq:AP 75 114 (av 13):=by
 intro M t B ps es d s f a Q h1 h2 h3 h4
 obtain ⟨a0,a1,a2,a3,a4,e,h⟩:=MB (TD:=27) (TE:=30) YO made h1 h2 h3 h4
 cases e
 exact yT h
theorem Ye:K4 58 (av 31):=by
 intro M v es s f Q h1 h2 h3
 obtain ⟨a0,a1,a2,e,h⟩:=O9 h1 h2 h3
 cases e
 exact QL h
end Go.Proofs.YtlhlnchhaminjaaGreat.cshare
namespace Go.Proofs.YtlhlnchhaminjaaGreat
open Go Go.Ab Go.RowKit
def ext:Ext := { split:=[107],overl:=[137],noesc:=[] }
theorem xg:Ba Tryz.prog ext where
 ng:=Ky (by kernel_rfl)
 overl:=by
  intro f hf
  have:f=137:=by
   unfold ext at hf
   simp only [has] at hf
   split at hf
   ·rename_i h; exact (Nat.eq_of_beq_eq_true h).symm
   ·cases hf
  subst this
  exact ⟨Tryz.f137,109,25,1,4,by kernel_rfl,by kernel_rfl,by kernel_rfl,by kernel_rfl,by kernel_rfl,by kernel_rfl⟩
 noesc:=fun f hf=>by cases hf
theorem mixed:Tryz.prog.follows .mixedOrders=true:=by kernel_rfl
def Iv:World→Prop:=fun _=>True
end Go.Proofs.YtlhlnchhaminjaaGreat
namespace Go.Proofs.YtlhlnchhaminjaaGreat
open Go Go.Ab Go.RowKit
def c0:AV:=.ptr 0 0
def c1:AV:=.sc (.slice none 0 0)
def c2:Option AV:=some c1
def c3:Tree AV:=.node .leaf c2 .leaf
def c4:Tree AV:=.node c3 c2 .leaf
def c5:Tree AV:=.node c4 c2 c3
def c6:Tree AV:=.node c3 c2 c3
def c7:Tree AV:=.node c5 c2 c6
def c8:Tree AV:=.node c6 c2 c6
def c9:Tree AV:=.node c7 c2 c8
def c10:AV:=.sc (.int .u64 0)
def c11:Option AV:=some c10
def c12:Tree AV:=.node .leaf c11 .leaf
def c13:Tree AV:=.node c12 c11 c12
def c14:Tree AV:=.node c13 c11 c13
def c15:Tree AV:=.node c14 c11 c14
def c16:bU:=.row 32 (.node c9 c11 c15) [] false 114 0
def c17:AV:=.ptr 4 0
def c18:AV:=.ptr 28 0
def c19:AV:=.ptr 1 0
def c20:AV:=.sc (.string ⟨⟨ [99] ⟩⟩)
def c21:AV:=.sc (.string ⟨⟨ [102,110] ⟩⟩)
def BQ:Option AV:=some c21
def c23:Tree AV:=.node .leaf BQ .leaf
def c24:AV:=.sc (.int .u64 1)
def eP:Option AV:=some c24
def YF:Tree AV:=.node c23 eP .leaf
def iC:AV:=.sc (.int .i64 0)
def c28:Option AV:=some iC
def SG:AV:=.sc (.string ⟨⟨ [65,110,110] ⟩⟩)
def Yh:Option AV:=some SG
def c31:Tree AV:=.node .leaf Yh .leaf
def c32:Option AV:=some c20
def qz:bU:=.row 5 (.node YF c28 (.node c31 c32 .leaf)) [] true 58 0
def c34:Tree AV:=.node .leaf eP .leaf
def jK:bU:=.row 1 c34 [] true 25 0
def xz:Option AV:=some (.emp 10)
def c37:AV:=.slc 14 0 1 (.op 5)
def Vn:AV:=.slc 21 0 1 (.op 5)
def YG:AV:=.ptr 5 0
def c40:bU:=.row 1 c23 [] false 9 0
def Vp:AV:=.sc (.int .i64 (-1))
def rR:AV:=.tup []
def FD:AV:=.slc 26 0 1 (.op 2)
def wB:AV:=.agg [iC,c24]
def iL:AV:=.sc (.bool true)
def c46:AV:=.sc (.int .i64 1)
def yR:AV:=.agg [c46,c24]
def JF:AV:=.sc (.string ⟨⟨ [65,110,110,97] ⟩⟩)
def Z0:AV:=.ptr 4 2
def c53:AV:=.ptr 9 0
def yM:bU:=.row 32 (.node c9 eP c15) [] false 114 0
def Z5:AV:=.ptr 28 2
def oU:AV:=.sc (.bool false)
def WY:AV:=.slc 12 0 1 (.op 5)
def Om:AV:=.agg [iC,c24,c20,c21,SG]
def c59:AV:=.ptr 18 0
def qd:AV:=.ptr 65 0
def Z4:AV:=.ptr 65 2
def rT:Option AV:=some (.emp 104)
def c64:AV:=.slc 62 0 1 (.op 5)
def lV:Tree AV:=.node c14 eP c14
def XI:AV:=.slc 109 0 2 (.op 5)
def JR:Tree AV:=.node .leaf c32 .leaf
def DF:Option AV:=some JF
def SK:Tree AV:=.node .leaf DF .leaf
def c70:Option AV:=some c46
def RL:bU:=.row 10 (.node (.node (.node JR BQ .leaf) eP (.node SK c70 .leaf)) c28 (.node (.node c23 Yh .leaf) c32 c34)) [] true 58 0
def c72:AV:=.slc 111 0 2 (.op 5)
def Gm:AV:=.ptr 63 0
def nG:AV:=.sc (.string ⟨⟨ [] ⟩⟩)
def c75:Option AV:=some nG
def c76:Tree AV:=.node .leaf c75 .leaf
def FZ:AV:=.slc 111 0 1 (.op 5)
def VA:AV:=.slc 118 0 1 (.op 5)
def ma:bU:=.row 5 (.node YF c70 (.node SK c32 .leaf)) [] true 58 0
def c80:AV:=.agg [c46,c24,c20,c21,JF]
def Yu:AV:=.ptr 115 0
def Xo:bU:=.row 1 c76 [] false 9 0
def Oi:AV:=.slc 123 0 1 (.op 2)
def wZ:bU:=.row 2 (.node c34 c70 .leaf) [] true 27 0
def c85:AV:=.sc (.int .u64 2)
def XG:AV:=.agg [iC,c85]
def c87:AV:=.slc 127 0 1 (.op 1)
def Ww:AV:=.sc (.int .u8 0)
def qi:Option AV:=some Ww
def AX:Tree AV:=.node .leaf qi .leaf
def c91:bU:=.row 1 AX [] true 5 0
def ZX:AV:=.slc 131 0 2 (.op 1)
def c93:Option AV:=some (.sc (.int .u8 2))
def Ox:Tree AV:=.node .leaf c93 .leaf
def Yr:bU:=.row 2 (.node Ox qi .leaf) [] true 5 0
def Yi:AV:=.slc 135 0 3 (.op 1)
def WU:bU:=.row 3 (.node Ox qi Ox) [] true 5 0
def WB:AV:=.slc 140 0 5 (.op 1)
def wR:Option AV:=some (.sc (.int .u8 1))
def oC:Tree AV:=.node .leaf wR .leaf
def YL:Tree AV:=.node oC c93 .leaf
def UL:Option AV:=some (.sc (.int .u8 99))
def UA:Tree AV:=.node .leaf UL .leaf
def Xm:Tree AV:=.node UA c93 .leaf
def c105:bU:=.row 5 (.node YL qi Xm) [] true 5 0
def Ub:AV:=.slc 144 0 6 (.op 1)
def c107:Tree AV:=.node oC c93 AX
def Ph:bU:=.row 6 (.node c107 qi Xm) [] true 5 0
def c109:AV:=.slc 148 0 7 (.op 1)
def WJ:Tree AV:=.node UA c93 AX
def UC:bU:=.row 7 (.node c107 qi WJ) [] true 5 0
def YW:AV:=.slc 152 0 8 (.op 1)
def Co:Tree AV:=.node oC wR .leaf
def XA:Tree AV:=.node Co c93 AX
def Xg:bU:=.row 8 (.node XA qi WJ) [] true 5 0
def c116:AV:=.slc 157 0 9 (.op 1)
def c117:Tree AV:=.node (.node oC UL .leaf) c93 AX
def WK:bU:=.row 9 (.node XA qi c117) [] true 5 0
def c119:AV:=.slc 161 0 10 (.op 1)
def Tq:Tree AV:=.node oC qi .leaf
def Lx:bU:=.row 10 (.node (.node Co c93 Tq) qi c117) [] true 5 0
def Y6:AV:=.slc 164 0 10 (.op 1)
def Zv:AV:=.slc 192 0 1 (.op 1)
def c124:bU:=.row 1 Ox [] true 5 0
def ZI:AV:=.slc 197 0 2 (.op 1)
def IX:bU:=.row 2 (.node AX c93 .leaf) [] true 5 0
def c127:AV:=.slc 201 0 3 (.op 1)
def I7:bU:=.row 3 (.node AX c93 oC) [] true 5 0
def Za:AV:=.slc 205 0 4 (.op 1)
def c130:Tree AV:=.node AX qi .leaf
def c131:bU:=.row 4 (.node c130 c93 oC) [] true 5 0
def ZC:AV:=.slc 210 0 5 (.op 1)
def Ih:bU:=.row 5 (.node c130 c93 Co) [] true 5 0
def Zq:AV:=.slc 214 0 6 (.op 1)
def TM:Tree AV:=.node AX qi oC
def IE:bU:=.row 6 (.node TM c93 Co) [] true 5 0
def Xi:AV:=.slc 221 0 8 (.op 1)
def c138:Tree AV:=.node AX wR .leaf
def c139:Tree AV:=.node c138 c93 oC
def ER:Option AV:=some (.sc (.int .u8 7))
def c141:bU:=.row 8 (.node c139 ER TM) [] true 5 0
def Zf:AV:=.slc 225 0 9 (.op 1)
def c143:Tree AV:=.node Tq qi oC
def QG:bU:=.row 9 (.node c139 ER c143) [] true 5 0
def c145:AV:=.slc 230 0 10 (.op 1)
def c146:Tree AV:=.node c138 c93 Co
def PY:bU:=.row 10 (.node c146 ER c143) [] true 5 0
def c148:AV:=.slc 234 0 11 (.op 1)
def YP:Tree AV:=.node Tq qi Co
def Ib:bU:=.row 11 (.node c146 ER YP) [] true 5 0
def Uw:AV:=.slc 239 0 13 (.op 1)
def c152:Tree AV:=.node AX wR oC
def Zt:Tree AV:=.node c152 c93 Co
def c154:Tree AV:=.node oC qi UA
def Zi:Tree AV:=.node c154 qi Co
def c156:bU:=.row 13 (.node Zt ER Zi) [] true 5 0
def c157:AV:=.slc 244 0 16 (.op 1)
def XJ:Tree AV:=.node .leaf (some (.sc (.int .u8 110))) .leaf
def c159:Tree AV:=.node XJ qi .leaf
def c160:Tree AV:=.node oC wR Ox
def ZA:Tree AV:=.node (.node c159 wR oC) c93 c160
def c162:Tree AV:=.node .leaf (some (.sc (.int .u8 102))) .leaf
def ZH:Tree AV:=.node oC wR c162
def c164:bU:=.row 16 (.node ZA ER (.node c154 qi ZH)) [] true 5 0
def Mf:AV:=.slc 249 0 21 (.op 1)
def XK:Tree AV:=.node XJ wR .leaf
def c167:Tree AV:=.node (.node .leaf (some (.sc (.int .u8 4))) .leaf) wR .leaf
def c168:bU:=.row 21 (.node (.node (.node c159 wR XK) c93 (.node (.node (.node .leaf (some (.sc (.int .u8 65))) .leaf) wR .leaf) wR Ox)) ER (.node (.node c167 qi (.node (.node .leaf (some (.sc (.int .u8 97))) .leaf) UL .leaf)) qi (.node XK wR c162))) [] true 5 0
def ZF:AV:=.slc 251 0 21 (.op 1)
def Tx:AV:=.slc 253 0 7 (.op 1)
def c171:bU:=.row 7 (.node TM c93 (.node oC wR AX)) [] true 5 0
def Zu:AV:=.slc 255 0 7 (.op 1)
def c173:AV:=.ptr 165 0
def Pk:Tree AV:=.node .leaf (some oU) .leaf
def WW:AV:=.ptr 252 0
def Y9:AV:=.ptr 256 0
def WI:Tree AV:=.node .leaf c70 .leaf
def c182:Tree AV:=.node c34 c2 .leaf
def c183:AV:=.ptr 257 0
def eU:bU:=.row 32 (.node c9 eP lV) [] false 114 0
def Xz:bU:=.row 6 (.node (.node WI eP c3) c28 c182) [] true 133 0
def Y1:AV:=.slc 279 0 1 (.op 1)
def Zk:AV:=.slc 284 0 2 (.op 1)
def YU:AV:=.slc 288 0 3 (.op 1)
def ZE:AV:=.slc 292 0 4 (.op 1)
def Zc:AV:=.slc 297 0 5 (.op 1)
def Y7:AV:=.slc 301 0 6 (.op 1)
def ZL:AV:=.slc 333 0 1 (.op 1)
def c193:AV:=.slc 338 0 2 (.op 1)
def c194:AV:=.slc 342 0 3 (.op 1)
def YS:AV:=.slc 346 0 4 (.op 1)
def c196:AV:=.slc 351 0 5 (.op 1)
def YX:AV:=.slc 355 0 6 (.op 1)
def c198:AV:=.slc 362 0 8 (.op 1)
def Y0:AV:=.slc 366 0 9 (.op 1)
def YM:AV:=.slc 371 0 10 (.op 1)
def c201:AV:=.slc 375 0 11 (.op 1)
def Uk:AV:=.slc 380 0 13 (.op 1)
def c203:AV:=.slc 385 0 16 (.op 1)
def Xy:AV:=.slc 305 0 7 (.op 1)
def TR:AV:=.slc 390 0 21 (.op 1)
def YY:AV:=.ptr 257 2
def c208:AV:=.ptr 391 0
def yA:AV:=.ptr 429 0
def c210:AV:=.ptr 429 2
def Fw:AV:=.slc 311 0 1 (.op 5)
def c212:AV:=.slc 426 0 1 (.op 5)
def c213:Option AV:=some c85
def Cw:Option AV:=some (.emp 468)
def Ha:AV:=.ptr 480 0
def WN:AV:=.slc 471 0 1 (.op 5)
def WV:AV:=.slc 473 0 1 (.op 5)
def c218:AV:=.slc 475 0 1 (.op 5)
def Le:AV:=.slc 471 0 0 (.op 5)
def Wx:AV:=.slc 476 0 0 (.ex 0)
def EG:AV:=.sc (.int .i64 2)
def c222:AV:=.agg [iC,c85,EG,c20,nG,nG,(.slc 168 0 1 (.op 2))]
def Mg:AV:=.agg [iC,c85,EG,c20,nG,nG,Oi]
def xS:AV:=.ptr 306 0
def wC:Option AV:=some c183
def c226:AV:=.agg [iC,c10,iC,nG,nG,nG,c1]
def c228:Tree AV:=.node .leaf (some iL) .leaf
def c229:AV:=.ptr 8 0
def WM:AV:=.slc 7 0 0 (.ex 0)
def ZB:Option AV:=some WM
def c232:AV:=.sc (.int .i64 14)
def c233:AV:=.agg [iC,c24,c46,c20,c21,SG,c1]
def c234:AV:=.agg [c46,c24,c46,c20,c21,JF,FD]
def YV:AV:=.slc 218 0 7 (.op 1)
def ZG:AV:=.sc (.int .i64 4)
def Zj:AV:=.slc 359 0 7 (.op 1)
def Wz:AV:=.tup [c233,iC]
def XL:AV:=.tup [c234,iC]
def XD:AV:=.tup [Mg,iC]
def WG:AV:=.ptr 3 0
def UF:AV:=.ptr 64 0
def XE:AV:=.ptr 428 0
def Xn:AV:=.sc (.string ⟨⟨ [2,0,1,0,1,1,0] ⟩⟩)
def WE:AV:=.tup [(.sc (.pointer none)),c232]
def UQ:AV:=.tup [iL,iC]
def B1:Table:=[(38,[{args:=[],ans:=.rows 0 c0 [(0,c16)] 1},{args:=[],ans:=.rows 4 c17 [(4,c16)] 5},{args:=[],ans:=.rows 28 c18 [(28,c16)] 29}]),(36,[{args:=[c19,c20],fp:=[(0,c16),(1,(.row 2 (.node c3 (some c0) .leaf) [] false 75 0))],nx:=6,ans:=.val c1},{args:=[c19,c20],fp:=[(14,qz),(10,jK),(4,(.row 32 (.node (.node c7 xz c8) eP c15) [] false 114 0)),(1,(.row 2 (.node (.node .leaf (some c37) .leaf) (some c17) .leaf) [] false 75 0))],ans:=.rows 19 Vn [(21,qz)] 22}]),(79,[{args:=[c1,(.fn (.func 80) [] [])],nx:=7,ans:=.val rR},{args:=[FD,(.fn (.func 80) [] [])],fp:=[(26,(.row 2 (.node c34 c28 .leaf) [] true 27 0))],nx:=27,ans:=.val rR}]),(58,[{args:=[wB],nx:=8,ans:=.val iL},{args:=[yR],nx:=28,ans:=.val iL}]),(59,[{args:=[c20,c21,SG],nx:=8,ans:=.val iL},{args:=[c20,c21,JF],nx:=28,ans:=.val iL}]),(97,[{args:=[c1],nx:=7,ans:=.val rR}]),(98,[{args:=[c1],nx:=7,ans:=.val c1}]),(77,[{args:=[c0,c24],fp:=[(0,c16)],nx:=12,ans:=.val oU}]),(43,[{args:=[c1],nx:=12,ans:=.val c1},{args:=[WY],fp:=[(12,qz)],ans:=.rows 13 c37 [(14,qz)] 15}]),(82,[{args:=[WY,iC,c46,c46,(.fn (.func 45) [] [])],fp:=[(12,qz)],nx:=13,ans:=.val rR}]),(87,[{args:=[c1,wB],nx:=17,ans:=.val Vp}]),(33,[{args:=[c17,c0],fp:=[(0,c16),(10,jK),(4,(.row 32 (.node (.node c7 xz c8) eP c15) [] false 114 0))],nx:=15,ans:=.val oU}]),(78,[{args:=[Om,c59],fp:=[(18,c40)],nx:=22,ans:=.val oU}])]
theorem b1:iG Tryz.prog ext [] 100000 200 B1=true:=by kernel_rfl
def T1:Table:=B1++[]
theorem t1:gW Tryz.prog Iv T1:=gW.nil.add xg mixed b1
def B2:Table:=[ (43,[{args:=[c37],fp:=[(14,qz)],ans:=.rows 61 c64 [(62,qz)] 63}]),(38,[{args:=[],ans:=.rows 65 qd [(65,c16)] 66}]),(81,[{args:=[qd,c24],fp:=[(104,jK),(65,(.row 32 (.node (.node (.node c5 rT c6) c2 c8) eP lV) [] false 114 0))],nx:=107,ans:=.val iL}]),(77,[{args:=[Z5,c24],fp:=[(28,yM)],nx:=107,ans:=.val oU}])]
theorem b2:iG Tryz.prog ext T1 100000 200 B2=true:=by kernel_rfl
def T2:Table:=B2++T1
theorem t2:gW Tryz.prog Iv T2:=t1.add xg mixed b2
def B3:Table:=[(43,[{args:=[c64],fp:=[(62,qz)],ans:=.rows 107 (.slc 108 0 1 (.op 5)) [(108,qz)] 109},{args:=[XI],fp:=[(109,RL)],ans:=.rows 110 c72 [(111,RL)] 112}]),(85,[{args:=[c20,c20],nx:=112,ans:=.val iC},{args:=[c21,c21],nx:=112,ans:=.val iC}]),(80,[{args:=[yR,wB],nx:=112,ans:=.val c46}]),(87,[{args:=[FD,wB],fp:=[(26,(.row 2 (.node c34 c28 .leaf) [] true 27 0))],nx:=114,ans:=.val iC},{args:=[FD,yR],fp:=[(26,(.row 2 (.node c34 c28 .leaf) [] true 27 0))],nx:=115,ans:=.val Vp}]),(33,[{args:=[qd,c18],fp:=[(28,yM),(104,jK),(65,(.row 32 (.node (.node (.node c5 rT c6) c2 c8) eP lV) [] false 114 0))],nx:=113,ans:=.val oU}]),(36,[{args:=[Gm,c20],fp:=[(111,(.row 10 (.node (.node (.node c76 BQ .leaf) eP (.node c76 c28 .leaf)) c70 (.node (.node c76 DF .leaf) c32 c12)) [] true 58 0)),(104,jK),(65,(.row 32 (.node (.node (.node c5 rT c6) c2 c8) eP lV) [] false 114 0)),(63,(.row 2 (.node (.node .leaf (some FZ) .leaf) (some qd) .leaf) [] false 75 0))],ans:=.rows 116 VA [(118,ma)] 119}]),(78,[{args:=[c80,Yu],fp:=[(115,Xo)],nx:=119,ans:=.val oU}]),(79,[{args:=[Oi,(.fn (.func 80) [] [])],fp:=[(123,wZ)],nx:=124,ans:=.val rR}]),(58,[{args:=[XG],nx:=125,ans:=.val iL}]),(59,[{args:=[c20,nG,nG],nx:=125,ans:=.val iL}]),(88,[{args:=[c1],nx:=126,ans:=.val c1},{args:=[c87],fp:=[(127,c91)],ans:=.rows 128 (.slc 129 0 1 (.op 1)) [(129,c91)] 130},{args:=[ZX],fp:=[(131,Yr)],ans:=.rows 132 (.slc 133 0 2 (.op 1)) [(133,Yr)] 134},{args:=[Yi],fp:=[(135,WU)],ans:=.rows 136 (.slc 137 0 3 (.op 1)) [(137,WU)] 138},{args:=[WB],fp:=[(140,c105)],ans:=.rows 141 (.slc 142 0 5 (.op 1)) [(142,c105)] 143},{args:=[Ub],fp:=[(144,Ph)],ans:=.rows 145 (.slc 146 0 6 (.op 1)) [(146,Ph)] 147},{args:=[c109],fp:=[(148,UC)],ans:=.rows 149 (.slc 150 0 7 (.op 1)) [(150,UC)] 151},{args:=[YW],fp:=[(152,Xg)],ans:=.rows 154 (.slc 155 0 8 (.op 1)) [(155,Xg)] 156},{args:=[c116],fp:=[(157,WK)],ans:=.rows 158 (.slc 159 0 9 (.op 1)) [(159,WK)] 160},{args:=[c119],fp:=[(161,Lx)],ans:=.rows 163 Y6 [(164,Lx)] 165},{args:=[Zv],fp:=[(192,c124)],ans:=.rows 194 (.slc 195 0 1 (.op 1)) [(195,c124)] 196},{args:=[ZI],fp:=[(197,IX)],ans:=.rows 198 (.slc 199 0 2 (.op 1)) [(199,IX)] 200},{args:=[c127],fp:=[(201,I7)],ans:=.rows 202 (.slc 203 0 3 (.op 1)) [(203,I7)] 204},{args:=[Za],fp:=[(205,c131)],ans:=.rows 207 (.slc 208 0 4 (.op 1)) [(208,c131)] 209},{args:=[ZC],fp:=[(210,Ih)],ans:=.rows 211 (.slc 212 0 5 (.op 1)) [(212,Ih)] 213},{args:=[Zq],fp:=[(214,IE)],ans:=.rows 215 (.slc 216 0 6 (.op 1)) [(216,IE)] 217},{args:=[Xi],fp:=[(221,c141)],ans:=.rows 222 (.slc 223 0 8 (.op 1)) [(223,c141)] 224},{args:=[Zf],fp:=[(225,QG)],ans:=.rows 227 (.slc 228 0 9 (.op 1)) [(228,QG)] 229},{args:=[c145],fp:=[(230,PY)],ans:=.rows 231 (.slc 232 0 10 (.op 1)) [(232,PY)] 233},{args:=[c148],fp:=[(234,Ib)],ans:=.rows 235 (.slc 236 0 11 (.op 1)) [(236,Ib)] 237},{args:=[Uw],fp:=[(239,c156)],ans:=.rows 240 (.slc 241 0 13 (.op 1)) [(241,c156)] 242},{args:=[c157],fp:=[(244,c164)],ans:=.rows 245 (.slc 246 0 16 (.op 1)) [(246,c164)] 247},{args:=[Mf],fp:=[(249,c168)],ans:=.rows 250 ZF [(251,c168)] 252},{args:=[Tx],fp:=[(253,c171)],ans:=.rows 254 Zu [(255,c171)] 256}]),(54,[{args:=[c173],fp:=[(164,Lx),(165,(.row 2 (.node Pk (some (.emp 164)) .leaf) [] false 127 0))],nx:=169,ans:=.val iC},{args:=[Y9],fp:=[(255,c171),(256,(.row 2 (.node Pk (some (.emp 255)) .leaf) [] false 127 0))],nx:=258,ans:=.val iC}]),(91,[{args:=[qd],fp:=[(104,jK),(65,(.row 32 (.node (.node (.node c5 rT c6) c2 c8) eP lV) [] false 114 0))],ans:=.rows 170 (.slc 176 0 2 (.op 3)) [(174,(.row 0 .leaf [c10] false 25 0)),(176,(.row 6 (.node (.node WI eP (.node .leaf (some (.slc 174 0 0 (.ex 0))) .leaf)) c28 c182) [] true 133 0))] 191},{args:=[c183],fp:=[(257,eU)],ans:=.rows 258 (.slc 263 0 2 (.op 3)) [(263,Xz)] 278}]),(38,[{args:=[],ans:=.rows 257 c183 [(257,c16)] 258}]),(90,[{args:=[c183],fp:=[(257,eU)],nx:=258,ans:=.val iL}])]
theorem b3:iG Tryz.prog ext T2 100000 200 B3=true:=by kernel_rfl
def T3:Table:=B3++T2
theorem t3:gW Tryz.prog Iv T3:=t2.add xg mixed b3
def B4:Table:=[(88,[{args:=[Y1],fp:=[(279,c124)],ans:=.rows 281 (.slc 282 0 1 (.op 1)) [(282,c124)] 283},{args:=[Zk],fp:=[(284,IX)],ans:=.rows 285 (.slc 286 0 2 (.op 1)) [(286,IX)] 287},{args:=[YU],fp:=[(288,I7)],ans:=.rows 289 (.slc 290 0 3 (.op 1)) [(290,I7)] 291},{args:=[ZE],fp:=[(292,c131)],ans:=.rows 294 (.slc 295 0 4 (.op 1)) [(295,c131)] 296},{args:=[Zc],fp:=[(297,Ih)],ans:=.rows 298 (.slc 299 0 5 (.op 1)) [(299,Ih)] 300},{args:=[Y7],fp:=[(301,IE)],ans:=.rows 302 (.slc 303 0 6 (.op 1)) [(303,IE)] 304},{args:=[ZL],fp:=[(333,c124)],ans:=.rows 335 (.slc 336 0 1 (.op 1)) [(336,c124)] 337},{args:=[c193],fp:=[(338,IX)],ans:=.rows 339 (.slc 340 0 2 (.op 1)) [(340,IX)] 341},{args:=[c194],fp:=[(342,I7)],ans:=.rows 343 (.slc 344 0 3 (.op 1)) [(344,I7)] 345},{args:=[YS],fp:=[(346,c131)],ans:=.rows 348 (.slc 349 0 4 (.op 1)) [(349,c131)] 350},{args:=[c196],fp:=[(351,Ih)],ans:=.rows 352 (.slc 353 0 5 (.op 1)) [(353,Ih)] 354},{args:=[YX],fp:=[(355,IE)],ans:=.rows 356 (.slc 357 0 6 (.op 1)) [(357,IE)] 358},{args:=[c198],fp:=[(362,c141)],ans:=.rows 363 (.slc 364 0 8 (.op 1)) [(364,c141)] 365},{args:=[Y0],fp:=[(366,QG)],ans:=.rows 368 (.slc 369 0 9 (.op 1)) [(369,QG)] 370},{args:=[YM],fp:=[(371,PY)],ans:=.rows 372 (.slc 373 0 10 (.op 1)) [(373,PY)] 374},{args:=[c201],fp:=[(375,Ib)],ans:=.rows 376 (.slc 377 0 11 (.op 1)) [(377,Ib)] 378},{args:=[Uk],fp:=[(380,c156)],ans:=.rows 381 (.slc 382 0 13 (.op 1)) [(382,c156)] 383},{args:=[c203],fp:=[(385,c164)],ans:=.rows 386 (.slc 387 0 16 (.op 1)) [(387,c164)] 388}]),(57,[{args:=[Xy,Tx],fp:=[(253,c171),(305,c171)],nx:=306,ans:=.val iL},{args:=[TR,Mf],fp:=[(249,c168),(390,c168)],nx:=391,ans:=.val iL}]),(56,[{args:=[WW],fp:=[(251,c168),(252,(.row 2 (.node Pk (some (.emp 251)) .leaf) [] false 127 0))],nx:=310,ans:=.val iC}]),(77,[{args:=[YY,c24],fp:=[(257,eU)],nx:=311,ans:=.val iL}]),(54,[{args:=[WW],fp:=[(251,c168),(252,(.row 2 (.node Pk (some (.emp 251)) .leaf) [] false 127 0))],nx:=312,ans:=.val iC}]),(91,[{args:=[c183],fp:=[(257,eU)],ans:=.rows 312 (.slc 317 0 2 (.op 3)) [(317,Xz)] 332}]),(38,[{args:=[],ans:=.rows 391 c208 [(391,c16)] 392}])]
theorem b4:iG Tryz.prog ext T3 100000 200 B4=true:=by kernel_rfl
def T4:Table:=B4++T3
theorem t4:gW Tryz.prog Iv T4:=t3.add xg mixed b4
def B5:Table:=[ (49,[{args:=[Fw,FZ],fp:=[(111,(.row 10 (.node (.node (.node c76 BQ .leaf) eP (.node c76 c28 .leaf)) c70 (.node (.node c76 DF .leaf) c32 c12)) [] true 58 0)),(311,ma)],nx:=424,ans:=.val iL}]),(33,[{args:=[c183,qd],fp:=[(104,jK),(65,(.row 32 (.node (.node (.node c5 rT c6) c2 c8) eP lV) [] false 114 0)),(257,eU)],nx:=424,ans:=.val iL},{args:=[qd,c183],fp:=[(257,eU),(104,jK),(65,(.row 32 (.node (.node (.node c5 rT c6) c2 c8) eP lV) [] false 114 0))],nx:=424,ans:=.val iL}]),(80,[{args:=[wB,yR],nx:=429,ans:=.val Vp}]),(77,[{args:=[Z0,c24],fp:=[(10,jK),(4,(.row 32 (.node (.node c7 xz c8) eP c15) [] false 114 0))],nx:=426,ans:=.val oU},{args:=[c183,c24],fp:=[(257,eU)],nx:=429,ans:=.val iL}]),(82,[{args:=[c212,iC,c46,c46,(.fn (.func 45) [] [])],fp:=[(426,ma)],nx:=428,ans:=.val rR}]),(38,[{args:=[],ans:=.rows 429 yA [(429,c16)] 430}])]
theorem b5:iG Tryz.prog ext T4 100000 200 B5=true:=by kernel_rfl
def T5:Table:=B5++T4
theorem t5:gW Tryz.prog Iv T5:=t4.add xg mixed b5
def B6:Table:=[ (81,[{args:=[c210,c24],fp:=[(468,(.row 1 (.node .leaf c213 .leaf) [] true 25 0)),(429,(.row 32 (.node (.node c7 Cw c8) c213 lV) [] false 114 0))],nx:=471,ans:=.val iL}]),(43,[{args:=[FZ],fp:=[(111,(.row 10 (.node (.node (.node c76 BQ .leaf) eP (.node c76 c28 .leaf)) c70 (.node (.node c76 DF .leaf) c32 c12)) [] true 58 0))],ans:=.rows 470 WN [(471,ma)] 472},{args:=[c212],fp:=[(426,ma)],ans:=.rows 472 WV [(473,ma)] 474},{args:=[c212],fp:=[(426,ma)],ans:=.rows 474 c218 [(475,ma)] 476},{args:=[Le],fp:=[(471,(.row 5 (.node (.node c76 c11 .leaf) c28 (.node c76 c75 .leaf)) [] true 58 0))],ans:=.rows 476 Wx [(476,(.row 0 .leaf [iC,c10,nG,nG,nG] false 58 0))] 477}]),(87,[{args:=[Oi,yR],fp:=[(123,wZ)],nx:=474,ans:=.val iC}]),(33,[{args:=[yA,qd],fp:=[(104,jK),(65,(.row 32 (.node (.node (.node c5 rT c6) c2 c8) eP lV) [] false 114 0)),(468,(.row 1 (.node .leaf c213 .leaf) [] true 25 0)),(429,(.row 32 (.node (.node c7 Cw c8) c213 lV) [] false 114 0))],nx:=472,ans:=.val oU}]),(34,[{args:=[c222,Mg],fp:=[(123,wZ),(168,wZ)],nx:=472,ans:=.val iL}]),(35,[{args:=[Gm],fp:=[(471,(.row 5 (.node (.node c76 c11 .leaf) c28 (.node c76 c75 .leaf)) [] true 58 0)),(468,(.row 1 (.node .leaf c213 .leaf) [] true 25 0)),(429,(.row 32 (.node (.node c7 Cw c8) c213 lV) [] false 114 0)),(63,(.row 2 (.node (.node .leaf (some Le) .leaf) (some yA) .leaf) [] false 75 0))],nx:=477,ans:=.val c1}]),(36,[{args:=[xS,c20],fp:=[(426,ma),(257,eU),(306,(.row 2 (.node (.node .leaf (some c212) .leaf) wC .leaf) [] false 75 0))],ans:=.rows 477 (.slc 479 0 1 (.op 5)) [(479,ma)] 480}]),(38,[{args:=[],ans:=.rows 480 Ha [(480,c16)] 481},{args:=[],ans:=.rows 9 c53 [(9,c16)] 10}]),(77,[{args:=[Ha,c24],fp:=[(480,eU)],nx:=514,ans:=.val iL}]),(13,[{args:=[c19,wB,c20,nG,(.sc (.string ⟨⟨ [120] ⟩⟩))],fp:=[(0,c16),(1,(.row 2 (.node c3 (some c0) .leaf) [] false 75 0))],nx:=3,ans:=.val (.tup [c226,c46])}]),(58,[{args:=[(.agg [iC,c10])],nx:=6,ans:=.val oU}]),(54,[{args:=[YG],fp:=[(5,(.row 2 (.node c228 c2 .leaf) [] false 127 0))],nx:=7,ans:=.val c232},{args:=[c229],fp:=[(7,(.row 0 .leaf [Ww] false 5 0)),(8,(.row 2 (.node c228 ZB .leaf) [] false 127 0))],nx:=10,ans:=.val c232}]),(88,[{args:=[(.slc 6 0 0 (.op 1))],fp:=[(6,(.row 0 .leaf [] true 5 0))],ans:=.rows 7 WM [(7,(.row 0 .leaf [Ww] false 5 0))] 8}])]
theorem b6:iG Tryz.prog ext T5 100000 200 B6=true:=by kernel_rfl
def T6:Table:=B6++T5
theorem t6:gW Tryz.prog Iv T6:=t5.add xg mixed b6
def B7:Table:=[(11,[{args:=[],ans:=.rows 0 c19 [(0,c16),(1,(.row 2 (.node c3 (some c0) .leaf) [] false 75 0))] 2}]),(46,[{args:=[c1,(.fn (.func 78) [] [YG])],fp:=[(5,c40)],nx:=6,ans:=.val c1}]),(17,[{args:=[c233],nx:=7,ans:=.val iL},{args:=[c234],fp:=[(26,(.row 2 (.node c34 c28 .leaf) [] true 27 0))],nx:=27,ans:=.val iL},{args:=[Mg],fp:=[(123,wZ)],nx:=124,ans:=.val iL},{args:=[c222],fp:=[(168,wZ)],nx:=169,ans:=.val iL}]),(73,[{args:=[c17,c0],fp:=[(0,c16),(4,c16)],nx:=5,ans:=.val rR},{args:=[c18,c17],fp:=[(10,jK),(4,(.row 32 (.node (.node c7 xz c8) eP c15) [] false 114 0)),(28,c16)],ans:=.rows 29 rR [(28,yM)] 61},{args:=[qd,c18],fp:=[(28,yM),(65,c16)],ans:=.rows 66 rR [(65,yM)] 98}]),(81,[{args:=[c17,c24],fp:=[(4,c16)],ans:=.rows 8 iL [(10,jK),(4,(.row 32 (.node (.node c7 xz c8) eP c15) [] false 114 0))] 11},{args:=[Z4,c24],fp:=[(65,yM)],ans:=.rows 102 iL [(104,jK),(65,(.row 32 (.node (.node (.node c5 rT c6) c2 c8) eP lV) [] false 114 0))] 105}]),(37,[{args:=[c0,wB],fp:=[(0,c16)],nx:=11,ans:=.val oU},{args:=[c18,yR],fp:=[(28,yM)],nx:=106,ans:=.val oU}]),(44,[{args:=[WY,(.fn (.func 45) [] [])],fp:=[(12,qz)],nx:=13,ans:=.val rR}]),(48,[{args:=[c1,wB],nx:=16,ans:=.val oU},{args:=[FD,wB],fp:=[(26,(.row 2 (.node c34 c28 .leaf) [] true 27 0))],nx:=113,ans:=.val iL},{args:=[FD,yR],fp:=[(26,(.row 2 (.node c34 c28 .leaf) [] true 27 0))],nx:=114,ans:=.val oU}]),(42,[{args:=[qd,wB],fp:=[(104,jK),(65,(.row 32 (.node (.node (.node c5 rT c6) c2 c8) eP lV) [] false 114 0))],nx:=106,ans:=.val iC}]),(45,[{args:=[c80,Om],nx:=110,ans:=.val c46}])]
theorem b7:iG Tryz.prog ext T6 100000 200 B7=true:=by kernel_rfl
def T7:Table:=B7++T6
theorem t7:gW Tryz.prog Iv T7:=t6.add xg mixed b7
def B8:Table:=[ (37,[{args:=[c183,yR],fp:=[(257,eU)],nx:=310,ans:=.val iL},{args:=[c17,yR],fp:=[(10,jK),(4,(.row 32 (.node (.node c7 xz c8) eP c15) [] false 114 0))],nx:=425,ans:=.val oU},{args:=[c183,wB],fp:=[(257,eU)],nx:=428,ans:=.val iL},{args:=[Ha,wB],fp:=[(480,eU)],nx:=513,ans:=.val iL}]),(73,[{args:=[c208,c183],fp:=[(257,eU),(391,c16)],ans:=.rows 392 rR [(391,eU)] 424},{args:=[c183,c17],fp:=[(10,jK),(4,(.row 32 (.node (.node c7 xz c8) eP c15) [] false 114 0)),(257,eU)],nx:=428,ans:=.val rR},{args:=[yA,qd],fp:=[(104,jK),(65,(.row 32 (.node (.node (.node c5 rT c6) c2 c8) eP lV) [] false 114 0)),(429,c16)],ans:=.rows 430 rR [(429,eU)] 462},{args:=[Ha,c183],fp:=[(257,eU),(480,c16)],ans:=.rows 481 rR [(480,eU)] 513}]),(24,[{args:=[xS,Gm],fp:=[(111,(.row 10 (.node (.node (.node c76 BQ .leaf) eP (.node c76 c28 .leaf)) c70 (.node (.node c76 DF .leaf) c32 c12)) [] true 58 0)),(104,jK),(65,(.row 32 (.node (.node (.node c5 rT c6) c2 c8) eP lV) [] false 114 0)),(63,(.row 2 (.node (.node .leaf (some FZ) .leaf) (some qd) .leaf) [] false 75 0)),(311,ma),(257,eU),(306,(.row 2 (.node (.node .leaf (some Fw) .leaf) wC .leaf) [] false 75 0))],nx:=424,ans:=.val iL}]),(45,[{args:=[Om,c80],nx:=427,ans:=.val Vp}]),(44,[{args:=[c212,(.fn (.func 45) [] [])],fp:=[(426,ma)],nx:=428,ans:=.val rR}]),(81,[{args:=[yA,c85],fp:=[(429,eU)],ans:=.rows 466 iL [(468,(.row 1 (.node .leaf c213 .leaf) [] true 25 0)),(429,(.row 32 (.node (.node c7 Cw c8) c213 lV) [] false 114 0))] 469}]),(42,[{args:=[yA,yR],fp:=[(468,(.row 1 (.node .leaf c213 .leaf) [] true 25 0)),(429,(.row 32 (.node (.node c7 Cw c8) c213 lV) [] false 114 0))],nx:=470,ans:=.val iC}]),(48,[{args:=[Oi,yR],fp:=[(123,wZ)],nx:=473,ans:=.val iL}]),(18,[{args:=[xS],fp:=[(426,ma),(257,eU),(306,(.row 2 (.node (.node .leaf (some c212) .leaf) wC .leaf) [] false 75 0))],ans:=.rows 472 WV [(473,ma)] 474},{args:=[xS],fp:=[(426,ma),(257,eU),(306,(.row 2 (.node (.node .leaf (some c212) .leaf) wC .leaf) [] false 75 0))],ans:=.rows 474 c218 [(475,ma)] 476},{args:=[Gm],fp:=[(471,(.row 5 (.node (.node c76 c11 .leaf) c28 (.node c76 c75 .leaf)) [] true 58 0)),(468,(.row 1 (.node .leaf c213 .leaf) [] true 25 0)),(429,(.row 32 (.node (.node c7 Cw c8) c213 lV) [] false 114 0)),(63,(.row 2 (.node (.node .leaf (some Le) .leaf) (some yA) .leaf) [] false 75 0))],ans:=.rows 476 Wx [(476,(.row 0 .leaf [iC,c10,nG,nG,nG] false 58 0))] 477},{args:=[c19],fp:=[(0,c16),(1,(.row 2 (.node c3 (some c0) .leaf) [] false 75 0))],nx:=5,ans:=.val c1}]),(46,[{args:=[c1,(.fn (.func 78) [] [c17])],fp:=[(4,Xo)],nx:=5,ans:=.val c1}]),(17,[{args:=[c226],nx:=5,ans:=.val oU}])]
theorem b8:iG Tryz.prog ext T7 100000 200 B8=true:=by kernel_rfl
def T8:Table:=B8++T7
theorem t8:gW Tryz.prog Iv T8:=t7.add xg mixed b8
def B9:Table:=[ (40,[{args:=[c233,c1],nx:=5,ans:=.val Wz},{args:=[(.agg [c46,c24,c46,c20,c21,JF,c1]),Vn],fp:=[(21,qz)],ans:=.rows 22 XL [(26,(.row 2 (.node c34 c28 .leaf) [] true 27 0))] 27},{args:=[(.agg [iC,c85,EG,c20,nG,nG,c1]),VA],fp:=[(118,ma)],ans:=.rows 119 XD [(123,wZ)] 124}]),(41,[{args:=[c0],fp:=[(0,c16)],ans:=.rows 4 c17 [(4,c16)] 5},{args:=[c17],fp:=[(10,jK),(4,(.row 32 (.node (.node c7 xz c8) eP c15) [] false 114 0))],ans:=.rows 28 c18 [(28,yM)] 61},{args:=[c18],fp:=[(28,yM)],ans:=.rows 65 qd [(65,yM)] 98},{args:=[c183],fp:=[(257,eU)],ans:=.rows 391 c208 [(391,eU)] 424},{args:=[qd],fp:=[(104,jK),(65,(.row 32 (.node (.node (.node c5 rT c6) c2 c8) eP lV) [] false 114 0))],ans:=.rows 429 yA [(429,eU)] 462},{args:=[c183],fp:=[(257,eU)],ans:=.rows 480 Ha [(480,eU)] 513}]),(42,[{args:=[c17,wB],fp:=[(4,c16)],ans:=.rows 7 iC [(10,jK),(4,(.row 32 (.node (.node c7 xz c8) eP c15) [] false 114 0))] 11},{args:=[qd,yR],fp:=[(65,yM)],ans:=.rows 101 iC [(104,jK),(65,(.row 32 (.node (.node (.node c5 rT c6) c2 c8) eP lV) [] false 114 0))] 105},{args:=[yA,XG],fp:=[(429,eU)],ans:=.rows 465 iC [(468,(.row 1 (.node .leaf c213 .leaf) [] true 25 0)),(429,(.row 32 (.node (.node c7 Cw c8) c213 lV) [] false 114 0))] 469}]),(47,[{args:=[Om,WG],fp:=[(3,(.row 7 (.node (.node JR eP c31) c28 (.node c23 c70 c3)) [] false 30 0))],nx:=15,ans:=.val oU},{args:=[Om,UF],fp:=[(26,(.row 2 (.node c34 c28 .leaf) [] true 27 0)),(64,(.row 7 (.node (.node JR eP SK) c70 (.node c23 c70 (.node .leaf (some FD) .leaf))) [] false 30 0))],nx:=112,ans:=.val iL},{args:=[c80,UF],fp:=[(26,(.row 2 (.node c34 c28 .leaf) [] true 27 0)),(64,(.row 7 (.node (.node JR eP SK) c70 (.node c23 c70 (.node .leaf (some FD) .leaf))) [] false 30 0))],nx:=113,ans:=.val oU},{args:=[c80,XE],fp:=[(123,wZ),(428,(.row 7 (.node (.node JR c213 c76) c28 (.node c76 (some EG) (.node .leaf (some Oi) .leaf))) [] false 30 0))],nx:=472,ans:=.val iL}]),(46,[{args:=[Vn,(.fn (.func 78) [] [c59])],fp:=[(18,c40),(21,qz)],ans:=.rows 22 Vn [] 22},{args:=[VA,(.fn (.func 78) [] [Yu])],fp:=[(115,Xo),(118,ma)],ans:=.rows 119 VA [] 119}]),(82,[{args:=[XI,iC,EG,EG,(.fn (.func 45) [] [])],fp:=[(109,RL)],nx:=110,ans:=.val rR}]),(64,[{args:=[Yi,c20],fp:=[(135,WU)],ans:=.rows 136 WB [(140,c105)] 141},{args:=[WB,nG],fp:=[(140,c105)],ans:=.rows 141 Ub [(144,Ph)] 145},{args:=[Ub,nG],fp:=[(144,Ph)],ans:=.rows 145 c109 [(148,UC)] 149},{args:=[c1,Xn],ans:=.rows 219 Xi [(221,c141)] 222},{args:=[c148,c20],fp:=[(234,Ib)],ans:=.rows 235 Uw [(239,c156)] 240},{args:=[Uw,c21],fp:=[(239,c156)],ans:=.rows 240 c157 [(244,c164)] 245},{args:=[c157,JF],fp:=[(244,c164)],ans:=.rows 245 Mf [(249,c168)] 250},{args:=[c1,Xn],ans:=.rows 360 c198 [(362,c141)] 363},{args:=[c201,c20],fp:=[(375,Ib)],ans:=.rows 376 Uk [(380,c156)] 381},{args:=[Uk,c21],fp:=[(380,c156)],ans:=.rows 381 c203 [(385,c164)] 386},{args:=[c203,JF],fp:=[(385,c164)],ans:=.rows 386 TR [(390,c168)] 391}]),(65,[{args:=[qd],fp:=[(104,jK),(65,(.row 32 (.node (.node (.node c5 rT c6) c2 c8) eP lV) [] false 114 0))],ans:=.rows 170 YV [(218,c171)] 219},{args:=[c183],fp:=[(257,eU)],ans:=.rows 258 Xy [(305,c171)] 306},{args:=[c183],fp:=[(257,eU)],ans:=.rows 312 Zj [(359,c171)] 360}]),(72,[{args:=[c19,c80],fp:=[(14,qz),(10,jK),(4,(.row 32 (.node (.node c7 xz c8) eP c15) [] false 114 0)),(1,(.row 2 (.node (.node .leaf (some c37) .leaf) (some c17) .leaf) [] false 75 0))],nx:=425,ans:=.val oU},{args:=[xS,Om],fp:=[(311,ma),(257,eU),(306,(.row 2 (.node (.node .leaf (some Fw) .leaf) wC .leaf) [] false 75 0))],nx:=428,ans:=.val oU}]),(14,[{args:=[c19,c226],fp:=[(0,c16),(1,(.row 2 (.node c3 (some c0) .leaf) [] false 75 0))],nx:=4,ans:=.val (.tup [oU,c46])}]),(55,[{args:=[(.slc 6 0 0 (.op 1))],fp:=[(6,(.row 0 .leaf [] true 5 0))],nx:=7,ans:=.val WE}])]
theorem b9:iG Tryz.prog ext T8 100000 200 B9=true:=by kernel_rfl
def T9:Table:=B9++T8
theorem t9:gW Tryz.prog Iv T9:=t8.add xg mixed b9
def B10:Table:=[(13,[{args:=[c19,wB,c20,c21,SG],fp:=[(0,c16),(1,(.row 2 (.node c3 (some c0) .leaf) [] false 75 0))],nx:=2,ans:=.val Wz}]),(25,[{args:=[c19],fp:=[(14,qz),(10,jK),(4,(.row 32 (.node (.node c7 xz c8) eP c15) [] false 114 0)),(1,(.row 2 (.node (.node .leaf (some c37) .leaf) (some c17) .leaf) [] false 75 0))],ans:=.rows 28 Gm [(62,qz),(28,yM),(63,(.row 2 (.node (.node .leaf (some c64) .leaf) (some c18) .leaf) [] false 75 0))] 64}]),(44,[{args:=[XI,(.fn (.func 45) [] [])],fp:=[(109,RL)],nx:=110,ans:=.val rR}]),(28,[{args:=[Mg],fp:=[(123,wZ)],ans:=.rows 125 (.tup [c119,iC]) [(161,Lx)] 162}]),(15,[{args:=[c119],fp:=[(161,Lx)],ans:=.rows 162 (.tup [c222,iC]) [(168,wZ)] 169},{args:=[c1],nx:=4,ans:=.val (.tup [c226,c232])}]),(22,[{args:=[Gm],fp:=[(111,(.row 10 (.node (.node (.node c76 BQ .leaf) eP (.node c76 c28 .leaf)) c70 (.node (.node c76 DF .leaf) c32 c12)) [] true 58 0)),(104,jK),(65,(.row 32 (.node (.node (.node c5 rT c6) c2 c8) eP lV) [] false 114 0)),(63,(.row 2 (.node (.node .leaf (some FZ) .leaf) (some qd) .leaf) [] false 75 0))],ans:=.rows 170 Mf [(249,c168)] 250},{args:=[xS],fp:=[(311,ma),(257,eU),(306,(.row 2 (.node (.node .leaf (some Fw) .leaf) wC .leaf) [] false 75 0))],ans:=.rows 312 TR [(390,c168)] 391}]),(55,[{args:=[Tx],fp:=[(253,c171)],ans:=.rows 254 (.tup [c183,iC]) [(257,eU)] 306}]),(32,[{args:=[xS],fp:=[(311,ma),(257,eU),(306,(.row 2 (.node (.node .leaf (some Fw) .leaf) wC .leaf) [] false 75 0))],ans:=.rows 391 c208 [(391,eU)] 424},{args:=[xS],fp:=[(426,ma),(257,eU),(306,(.row 2 (.node (.node .leaf (some c212) .leaf) wC .leaf) [] false 75 0))],ans:=.rows 480 Ha [(480,eU)] 513}]),(26,[{args:=[xS,c19],fp:=[(14,qz),(10,jK),(4,(.row 32 (.node (.node c7 xz c8) eP c15) [] false 114 0)),(1,(.row 2 (.node (.node .leaf (some c37) .leaf) (some c17) .leaf) [] false 75 0)),(311,ma),(257,eU),(306,(.row 2 (.node (.node .leaf (some Fw) .leaf) wC .leaf) [] false 75 0))],ans:=.rows 424 rR [(426,ma),(306,(.row 2 (.node (.node .leaf (some c212) .leaf) wC .leaf) [] false 75 0))] 428}]),(12,[{args:=[c19,wB,c20,nG],fp:=[(0,c16),(1,(.row 2 (.node c3 (some c0) .leaf) [] false 75 0))],nx:=2,ans:=.val (.tup [c226,ZG])}]),(16,[{args:=[c1],nx:=5,ans:=.val WE}])]
theorem b10:iG Tryz.prog ext T9 100000 200 B10=true:=by kernel_rfl
def XC:Table:=B10++T9
theorem bV:gW Tryz.prog Iv XC:=t9.add xg mixed b10
def B11:Table:=[(46,[{args:=[c37,(.fn (.func 47) [] [WG])],fp:=[(3,(.row 7 (.node (.node JR eP c31) c28 (.node c23 c70 c3)) [] false 30 0)),(14,qz)],ans:=.rows 15 c37 [] 15},{args:=[c72,(.fn (.func 47) [] [UF])],fp:=[(26,(.row 2 (.node c34 c28 .leaf) [] true 27 0)),(64,(.row 7 (.node (.node JR eP SK) c70 (.node c23 c70 (.node .leaf (some FD) .leaf))) [] false 30 0)),(111,RL)],ans:=.rows 112 FZ [(111,(.row 10 (.node (.node (.node c76 BQ .leaf) eP (.node c76 c28 .leaf)) c70 (.node (.node c76 DF .leaf) c32 c12)) [] true 58 0))] 113},{args:=[WN,(.fn (.func 47) [] [XE])],fp:=[(123,wZ),(428,(.row 7 (.node (.node JR c213 c76) c28 (.node c76 (some EG) (.node .leaf (some Oi) .leaf))) [] false 30 0)),(471,ma)],ans:=.rows 472 Le [(471,(.row 5 (.node (.node c76 c11 .leaf) c28 (.node c76 c75 .leaf)) [] true 58 0))] 472}]),(13,[{args:=[c19,yR,c20,c21,JF],fp:=[(14,qz),(10,jK),(4,(.row 32 (.node (.node c7 xz c8) eP c15) [] false 114 0)),(1,(.row 2 (.node (.node .leaf (some c37) .leaf) (some c17) .leaf) [] false 75 0))],ans:=.rows 15 XL [(26,(.row 2 (.node c34 c28 .leaf) [] true 27 0))] 27}]),(12,[{args:=[Gm,XG,c20,nG],fp:=[(111,(.row 10 (.node (.node (.node c76 BQ .leaf) eP (.node c76 c28 .leaf)) c70 (.node (.node c76 DF .leaf) c32 c12)) [] true 58 0)),(104,jK),(65,(.row 32 (.node (.node (.node c5 rT c6) c2 c8) eP lV) [] false 114 0)),(63,(.row 2 (.node (.node .leaf (some FZ) .leaf) (some qd) .leaf) [] false 75 0))],ans:=.rows 113 XD [(123,wZ)] 124}]),(16,[{args:=[Mf],fp:=[(249,c168)],ans:=.rows 250 (.tup [xS,iC]) [(311,ma),(257,eU),(306,(.row 2 (.node (.node .leaf (some Fw) .leaf) wC .leaf) [] false 75 0))] 391}])]
theorem b11:iG Tryz.prog ext XC 100000 200 B11=true:=by kernel_rfl
def Xv:Table:=B11++XC
theorem bW:gW Tryz.prog Iv Xv:=bV.add xg mixed b11
def Yl:Table:=[(14,[{args:=[c19,c233],fp:=[(0,c16),(1,(.row 2 (.node c3 (some c0) .leaf) [] false 75 0))],ans:=.rows 3 UQ [(14,qz),(10,jK),(4,(.row 32 (.node (.node c7 xz c8) eP c15) [] false 114 0)),(1,(.row 2 (.node (.node .leaf (some c37) .leaf) (some c17) .leaf) [] false 75 0))] 15},{args:=[Gm,c234],fp:=[(26,(.row 2 (.node c34 c28 .leaf) [] true 27 0)),(62,qz),(28,yM),(63,(.row 2 (.node (.node .leaf (some c64) .leaf) (some c18) .leaf) [] false 75 0))],ans:=.rows 64 UQ [(111,(.row 10 (.node (.node (.node c76 BQ .leaf) eP (.node c76 c28 .leaf)) c70 (.node (.node c76 DF .leaf) c32 c12)) [] true 58 0)),(104,jK),(65,(.row 32 (.node (.node (.node c5 rT c6) c2 c8) eP lV) [] false 114 0)),(63,(.row 2 (.node (.node .leaf (some FZ) .leaf) (some qd) .leaf) [] false 75 0))] 113},{args:=[Gm,Mg],fp:=[(123,wZ),(111,(.row 10 (.node (.node (.node c76 BQ .leaf) eP (.node c76 c28 .leaf)) c70 (.node (.node c76 DF .leaf) c32 c12)) [] true 58 0)),(104,jK),(65,(.row 32 (.node (.node (.node c5 rT c6) c2 c8) eP lV) [] false 114 0)),(63,(.row 2 (.node (.node .leaf (some FZ) .leaf) (some qd) .leaf) [] false 75 0))],ans:=.rows 428 UQ [(471,(.row 5 (.node (.node c76 c11 .leaf) c28 (.node c76 c75 .leaf)) [] true 58 0)),(468,(.row 1 (.node .leaf c213 .leaf) [] true 25 0)),(429,(.row 32 (.node (.node c7 Cw c8) c213 lV) [] false 114 0)),(63,(.row 2 (.node (.node .leaf (some Le) .leaf) (some yA) .leaf) [] false 75 0))] 472}])]
theorem b12:iG Tryz.prog ext Xv 100000 200 Yl=true:=by kernel_rfl
def WS:Table:=Yl++Xv
theorem t12:gW Tryz.prog Iv WS:=bW.add xg mixed b12
def Yz:Table:=[(10,[{args:=[],nx:=0,ans:=.val iL}])]
theorem b13:iG Tryz.prog ext WS 100000 200 Yz=true:=by kernel_rfl
def Xa:Table:=Yz++WS
theorem bO:gW Tryz.prog Iv Xa:=t12.add xg mixed b13
theorem t:gW Tryz.prog Iv Xa:=bO
abbrev T:Table:=Xa
end Go.Proofs.YtlhlnchhaminjaaGreat
namespace Go.Proofs.YtlhlnchhaminjaaGreat
open Go Go.Ab Go.RowKit
def BA:Table:=[(10,[{ args:=[],ans:=.val (.sc (.bool true)) }])]
theorem bA:iG Tryz.prog ext T 100000 200 BA=true:=by kernel_rfl
def TA:Table:=BA++T
theorem tA:gW Tryz.prog Iv TA:=t.add xg mixed bA
end Go.Proofs.YtlhlnchhaminjaaGreat
set_option maxRecDepth 100000
set_option linter.unusedVariables false
set_option linter.unusedSimpArgs false
namespace Go.Proofs.YtlhlnchhaminjaaGreat.crdtApart
open Go Go.Ab Go.ChangeShapes Go.WideShapes Go.ChangeAt Go.RowKit
theorem own:ownKnob Tryz.prog.godebug=none:=by kernel_rfl
open Go.Ab.ak Go.Ab.Crw Go.Proofs.YtlhlnchhaminjaaGreat.cshare
def base (w:World) : Base:=⟨w.heap.size,fun _=>True,fun _ _ _ _=>trivial⟩
theorem awake {B:Base} : Lg B (fT Tryz.prog 10):=by
 intro M Q hM hQ
 exact Qw tA ⟨Tryz.f10,_,Tryz.func10,rfl⟩ (fun A=>by kernel_rfl) (fun _ _=>trivial) hQ
theorem walk (w:World) (v0 v1 v2 v3 v4 v5:Value) (h0:mg Tryz.prog (RM.old (base w) w) 43 (mh w.heap.size v0)) (h1:mg Tryz.prog (RM.old (base w) w) 9 (mh w.heap.size v1)) (h2:mg Tryz.prog (RM.old (base w) w) 9 (mh w.heap.size v2)) (h3:mg Tryz.prog (RM.old (base w) w) 9 (mh w.heap.size v3)) (h4:mg Tryz.prog (RM.old (base w) w) 9 (mh w.heap.size v4)) (h5:mg Tryz.prog (RM.old (base w) w) 9 (mh w.heap.size v5)) :
  Calls Tryz.prog 8 #[v0,v1,v2,v3,v4,v5] w fun e w'=>e=.returned (.bool true)∧Below w.heap.size w w':=by
 obtain ⟨u0,l,e0,hl,_⟩:=TF (h0.one (by kernel_rfl))
 obtain ⟨s1,e1,_⟩:=(h1.one (by kernel_rfl)).pY Tryz.underlying9
 obtain ⟨s2,e2,_⟩:=(h2.one (by kernel_rfl)).pY Tryz.underlying9
 obtain ⟨s3,e3,_⟩:=(h3.one (by kernel_rfl)).pY Tryz.underlying9
 obtain ⟨s4,e4,_⟩:=(h4.one (by kernel_rfl)).pY Tryz.underlying9
 obtain ⟨s5,e5,_⟩:=(h5.one (by kernel_rfl)).pY Tryz.underlying9
 refine fT.close (base:=base w) rfl trivial ?_
 simp only [List.map_cons,List.map_nil]
 rw [show mh (base w).n v0=u0 from (List.cons.inj e0).1,show mh (base w).n v1=St s1 from (List.cons.inj e1).1,show mh (base w).n v2=St s2 from (List.cons.inj e2).1,show mh (base w).n v3=St s3 from (List.cons.inj e3).1,show mh (base w).n v4=St s4 from (List.cons.inj e4).1,show mh (base w).n v5=St s5 from (List.cons.inj e5).1]
 obtain ⟨a0,a1,a2,a3,a4,a5,e,h⟩:=Hz (TE:=30) (M:=RM.old (base w) w) (Q:=fun v _=>v=Bo true) (cn:=s1) (f:=s2) (a:=s3) (b:=s4) (cc:=s5) (awake (B:=base w)) cshare.own cshare.state cshare.Wq cshare.WC cshare.apply cshare.WQ cshare.entries cshare.Ye cshare.Xw rfl hl (fun M'=>rfl)
 cases e
 exact Dy h
set_option maxRecDepth 100000 in
theorem lifted (os:Os) (started:os.Started) (H:Type) (enc:TypeId × Value→H) :
  ReturnsInHanded {} Tryz.checked os 8 .any (Rows.crdtApartSpec.pre6 enc Tryz.prog Tryz.f8 Rows.crdtApartRow.domain false) (Rows.crdtApartSpec.post enc Tryz.prog Tryz.f8 false true false false):=by
 refine returnsInHanded_of_change_sized (C:=Tryz.checked) own started (by kernel_rfl) Tryz.func8
  (ChangeSpec.witness6 (enc:=enc) (C:=Tryz.checked) false ⟨#[],#[.slice none 0 0,.string ⟨#[]⟩,.string ⟨#[]⟩,.string ⟨#[]⟩,.string ⟨#[]⟩,.string ⟨#[]⟩],[]⟩ 8 (by kernel_rfl) (by kernel_rfl) (by kernel_rfl) (by kernel_rfl)) ?_
 intro W b0 args ds gs before hval hW hcnd hwt _
 have hW':=hW
 obtain ⟨p,q,hA,hV,rfl,hfz,hnd⟩:=hW
 rw [Tryz.params8] at hA hwt
 obtain ⟨rfl,rfl⟩:=trodVars_none hV
 have hfit:=Lc (base:=base W) rfl hA (fun j t v hj hv=>hval j t v (by rw [Tryz.params8]; simpa using hj) (by simpa using hv)) (fun y hy=>by
  have hwt2:(DataW.weightsEach Tryz.prog [43,9,9,9,9,9] (ds++[])).all (· ≤ reachBytes)=true:=hwt
  have:=List.all_eq_true.1 hwt2 y (by rw [List.append_nil]; exact hy)
  simpa using this)
 simp only [List.append_nil] at hW'
 have hlt:∀ x∈p,x.block<W.heap.size:=fun x hx=>hW'.lt x hx
 obtain ⟨v0,v1,v2,v3,v4,v5,d0,d1,d2,d3,d4,d5,p0,p1,p2,p3,p4,p5,rfl,rfl,rfl,h0,h1,h2,h3,h4,h5⟩:=Nc hA
 refine (walk W v0 v1 v2 v3 v4 v5 (hfit 0 _ _ rfl rfl) (hfit 1 _ _ rfl rfl) (hfit 2 _ _ rfl rfl) (hfit 3 _ _ rfl rfl) (hfit 4 _ _ rfl rfl) (hfit 5 _ _ rfl rfl)).mono fun e W' ⟨he,hg⟩=>?_
 subst he
 exact ⟨_,rfl,JW (pa:=_) (pv:=[]) hW' (fun _ _ _=>(trodAll_cons_mk (shut_bool Tryz.underlying4 _) trodAll_mk0)) (fun sp hsp=>by
   rw [Tryz.params8]
   exact Bd (by kernel_rfl) hg (fun t ht=>by
    have ht:t=43∨t=9∨t=9∨t=9∨t=9∨t=9:=by simpa using ht
    rcases ht with rfl | rfl | rfl | rfl | rfl | rfl <;> exact ⟨by kernel_rfl,of_decide_eq_true (by kernel_rfl)⟩) hA hlt hsp) (fun _ _=>rfl) (by simp)
  hg (ok_one (by kernel_rfl) rfl (okWide_bool_mk Tryz.underlying4 _))⟩
theorem over:Rows.crdtApartRow.holds Tryz.pinned (OpenSpec.ofChange Rows.crdtApartSpec) :=
 OpenClaim.holds_of_wide 8 Tryz.f8 rfl rfl rfl rfl rfl rfl rfl ⟨rfl,rfl,rfl,rfl,rfl⟩ rfl rfl rfl rfl rfl (by kernel_rfl) Tryz.func8 (by kernel_rfl)
  (of_decide_eq_true (by kernel_rfl)) (by unfold Func.isWrapper; first | (rw [if_pos (by decide +kernel)]; kernel_rfl) | (rw [if_neg (by decide +kernel)]; exact ⟨rfl,rfl⟩))
  (fun os started H enc _=>lifted os started H enc)
theorem proved:Rows.CrdtApartSaid :=
 over
end Go.Proofs.YtlhlnchhaminjaaGreat.crdtApart
