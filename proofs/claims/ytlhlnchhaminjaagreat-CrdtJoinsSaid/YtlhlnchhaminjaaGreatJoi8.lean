/- 'CrdtJoins' returns true for all arguments: joining two states is the state of both's events,whichever way,however often,grouped however. No condition. By an AI agent. -/
import Derived.Test.YtlhlnchhaminjaaGreatJoi7
import Derived.KernelRfl
import Derived.Test.YtlhlnchhaminjaaGreatProg
import Derived.Test.YtlhlnchhaminjaaGreatRows
import Derived.SizedLaws
import Derived.JoinedOf
import Derived.Carry
import Derived.WalkKit
import Derived.ProofKit
import Derived.OpenShut
set_option maxRecDepth 100000
set_option linter.unusedVariables false
set_option linter.unusedSimpArgs false
namespace Go.Proofs.YtlhlnchhaminjaaGreat
open Go Go.Ab
theorem aY {P:Program} (hP:FJ P) {f:FuncId} {fn:Func} {args:List AV} {M:RM} {Q:ai} (hfn:P.funcs[f]?=some fn) {B:Prop} (h:B) (e:B=K5 P fn args M Q) : ig P f args M Q:=UZ hP hfn (e▸h)
abbrev az := @ig Tryz.prog
theorem bP:FJ Tryz.prog:=⟨O0 (by kernel_rfl),by kernel_rfl⟩
theorem Ff {a0 a1:AV} {M:RM} {Q:ai} (h:Go.Ab.Crw.yS (az 10) (az 19) 52 30 (az 21) (az 25) (az 26) (az 23) (az 24) (az 22) a0 a1 M Q) : az 5 [a0,a1] M Q:=aY bP (fn:=Tryz.f5) (by kernel_rfl) h (by kernel_rfl)
theorem PL  {M:RM} {Q:ai} (h:Go.Ab.Crw.SV (az 38) 75  M Q) : az 11 [] M Q:=aY bP (fn:=Tryz.f11) (by kernel_rfl) h (by kernel_rfl)
theorem Cy {a0 a1:AV} {M:RM} {Q:ai} (h:Go.Ab.Crw.vw 30 (az 17) (az 41) 27 (az 42) (az 37) 58 (az 43) (az 44) 45 47 (az 46) (az 33) (az 49) a0 a1 M Q) : az 14 [a0,a1] M Q:=aY bP (fn:=Tryz.f14) (by kernel_rfl) h (by kernel_rfl)
theorem Ov {a0:AV} {M:RM} {Q:ai} (h:Go.Ab.Crw.Pz 30 (az 58) (az 59) 27 (az 60) a0 M Q) : az 17 [a0] M Q:=aY bP (fn:=Tryz.f17) (by kernel_rfl) h (by kernel_rfl)
theorem zL {a0:AV} {M:RM} {Q:ai} (h:Go.Ab.Crw.rV (az 43) a0 M Q) : az 18 [a0] M Q:=aY bP (fn:=Tryz.f18) (by kernel_rfl) h (by kernel_rfl)
theorem Qp {a0:AV} {M:RM} {Q:ai} (h:Go.Ab.Crw.RL 30 (az 20) a0 M Q) : az 19 [a0] M Q:=aY bP (fn:=Tryz.f19) (by kernel_rfl) h (by kernel_rfl)
theorem E5 {a0:AV} {M:RM} {Q:ai} (h:Go.Ab.Crw.yE 30 (az 61) (az 62) a0 M Q) : az 20 [a0] M Q:=aY bP (fn:=Tryz.f20) (by kernel_rfl) h (by kernel_rfl)
theorem Mi {a0 a1 a2:AV} {M:RM} {Q:ai} (h:Go.Ab.Crw.Ka (az 11) (az 14) a0 a1 a2 M Q) : az 21 [a0,a1,a2] M Q:=aY bP (fn:=Tryz.f21) (by kernel_rfl) h (by kernel_rfl)
theorem Bh {a0:AV} {M:RM} {Q:ai} (h:Go.Ab.Crw.tL (az 65) (az 64) (az 63) 58 a0 M Q) : az 22 [a0] M Q:=aY bP (fn:=Tryz.f22) (by kernel_rfl) h (by kernel_rfl)
theorem Oy {a0 a1:AV} {M:RM} {Q:ai} (h:Go.Ab.Crw.Pv (az 66) (az 18) (az 35) (az 67) (az 68) (az 32) (az 65) (az 70) (az 69) (az 22) (az 71) (az 36) (az 31) a0 a1 M Q) : az 23 [a0,a1] M Q:=aY bP (fn:=Tryz.f23) (by kernel_rfl) h (by kernel_rfl)
theorem Dz {a0 a1:AV} {M:RM} {Q:ai} (h:Go.Ab.Crw.xh (az 49) (az 33) a0 a1 M Q) : az 24 [a0,a1] M Q:=aY bP (fn:=Tryz.f24) (by kernel_rfl) h (by kernel_rfl)
theorem El {a0:AV} {M:RM} {Q:ai} (h:Go.Ab.Crw.wL (az 41) (az 43) 75 a0 M Q) : az 25 [a0] M Q:=aY bP (fn:=Tryz.f25) (by kernel_rfl) h (by kernel_rfl)
theorem CU {a0 a1:AV} {M:RM} {Q:ai} (h:Go.Ab.Crw.wD 58 (az 72) (az 37) (az 44) 45 (az 73) a0 a1 M Q) : az 26 [a0,a1] M Q:=aY bP (fn:=Tryz.f26) (by kernel_rfl) h (by kernel_rfl)
theorem PY {a0 a1:AV} {M:RM} {Q:ai} (h:Go.Ab.aC.Sw 27 a0 a1 M Q) : az 27 [a0,a1] M Q:=aY bP (fn:=Tryz.f27) (by kernel_rfl) h (by kernel_rfl)
theorem Un {a0 a1 a2:AV} {M:RM} {Q:ai} (h:Go.Ab.Crw.XB 58 a0 a1 a2 M Q) : az 31 [a0,a1,a2] M Q:=aY bP (fn:=Tryz.f31) (by kernel_rfl) h (by kernel_rfl)
theorem DL {a0:AV} {M:RM} {Q:ai} (h:Go.Ab.Crw.xm (az 41) a0 M Q) : az 32 [a0] M Q:=aY bP (fn:=Tryz.f32) (by kernel_rfl) h (by kernel_rfl)
theorem DI {a0 a1:AV} {M:RM} {Q:ai} (h:Go.Ab.aC.xg 111 (az 77) a0 a1 M Q) : az 33 [a0,a1] M Q:=aY bP (fn:=Tryz.f33) (by kernel_rfl) h (by kernel_rfl)
theorem yA {a0:AV} {M:RM} {Q:ai} (h:Go.Ab.Crw.qB 58 9 a0 M Q) : az 35 [a0] M Q:=aY bP (fn:=Tryz.f35) (by kernel_rfl) h (by kernel_rfl)
theorem zT {a0 a1:AV} {M:RM} {Q:ai} (h:Go.Ab.Crw.rP 58 a0 a1 M Q) : az 36 [a0,a1] M Q:=aY bP (fn:=Tryz.f36) (by kernel_rfl) h (by kernel_rfl)
theorem Ik {a0 a1:AV} {M:RM} {Q:ai} (h:Go.Ab.aC.Eg 27 (az 58) (az 77) a0 a1 M Q) : az 37 [a0,a1] M Q:=aY bP (fn:=Tryz.f37) (by kernel_rfl) h (by kernel_rfl)
theorem Mc  {M:RM} {Q:ai} (h:Go.Ab.aC.KL 114  M Q) : az 38 [] M Q:=aY bP (fn:=Tryz.f38) (by kernel_rfl) h (by kernel_rfl)
theorem Gs {a0:AV} {M:RM} {Q:ai} (h:Go.Ab.aC.Ag (az 38) (az 73) a0 M Q) : az 41 [a0] M Q:=aY bP (fn:=Tryz.f41) (by kernel_rfl) h (by kernel_rfl)
theorem H9 {a0 a1:AV} {M:RM} {Q:ai} (h:Go.Ab.aC.Eh 27 (az 58) (az 81) a0 a1 M Q) : az 42 [a0,a1] M Q:=aY bP (fn:=Tryz.f42) (by kernel_rfl) h (by kernel_rfl)
theorem Cu {a0:AV} {M:RM} {Q:ai} (h:Go.Ab.Crw.vo 58 a0 M Q) : az 43 [a0] M Q:=aY bP (fn:=Tryz.f43) (by kernel_rfl) h (by kernel_rfl)
theorem yV {a0 a1:AV} {M:RM} {Q:ai} (h:Go.Ab.Crw.qK (az 83) (az 82) a0 a1 M Q) : az 44 [a0,a1] M Q:=aY bP (fn:=Tryz.f44) (by kernel_rfl) h (by kernel_rfl)
theorem IM {a0 a1:AV} {M:RM} {Q:ai} (h:Go.Ab.Crw.Dj 58 (az 85) (az 80) 3 (az 84) a0 a1 M Q) : az 45 [a0,a1] M Q:=aY bP (fn:=Tryz.f45) (by kernel_rfl) h (by kernel_rfl)
theorem wV {a0 a1:AV} {M:RM} {Q:ai} (h:Go.Ab.Crw.nT (az 86) 58 (az) a0 a1 M Q) : az 46 [a0,a1] M Q:=aY bP (fn:=Tryz.f46) (by kernel_rfl) h (by kernel_rfl)
theorem zB {a0 a1:AV} {M:RM} {Q:ai} (h:Go.Ab.Crw.sD 58 (az 48) a0 a1 M Q) : az 47 [a0,a1] M Q:=aY bP (fn:=Tryz.f47) (by kernel_rfl) h (by kernel_rfl)
theorem BC {a0 a1:AV} {M:RM} {Q:ai} (h:Go.Ab.Crw.uf 27 (az 87) a0 a1 M Q) : az 48 [a0,a1] M Q:=aY bP (fn:=Tryz.f48) (by kernel_rfl) h (by kernel_rfl)
theorem Cx {a0 a1:AV} {M:RM} {Q:ai} (h:Go.Ab.Crw.vk a0 a1 M Q) : az 49 [a0,a1] M Q:=aY bP (fn:=Tryz.f49) (by kernel_rfl) h (by kernel_rfl)
theorem Kg {a0:AV} {M:RM} {Q:ai} (h:Go.Ab.aC.G9 27 a0 M Q) : az 58 [a0] M Q:=aY bP (fn:=Tryz.f58) (by kernel_rfl) h (by kernel_rfl)
theorem Fg {a0 a1 a2:AV} {M:RM} {Q:ai} (h:Go.Ab.Crw.zg a0 a1 a2 M Q) : az 59 [a0,a1,a2] M Q:=aY bP (fn:=Tryz.f59) (by kernel_rfl) h (by kernel_rfl)
theorem Nu {a0 a1:AV} {M:RM} {Q:ai} (h:Go.Ab.aC.Po 27 a0 a1 M Q) : az 60 [a0,a1] M Q:=aY bP (fn:=Tryz.f60) (by kernel_rfl) h (by kernel_rfl)
theorem KW {a0:AV} {M:RM} {Q:ai} (h:Go.Ab.aC.Hw 27 a0 M Q) : az 61 [a0] M Q:=aY bP (fn:=Tryz.f61) (by kernel_rfl) h (by kernel_rfl)
theorem JY {a0 a1:AV} {M:RM} {Q:ai} (h:Go.Ab.aC.GR 27 a0 a1 M Q) : az 62 [a0,a1] M Q:=aY bP (fn:=Tryz.f62) (by kernel_rfl) h (by kernel_rfl)
theorem NA {a0 a1:AV} {M:RM} {Q:ai} (h:Go.Ab.aC.OP (az 88) 5 a0 a1 M Q) : az 63 [a0,a1] M Q:=aY bP (fn:=Tryz.f63) (by kernel_rfl) h (by kernel_rfl)
theorem NR {a0 a1:AV} {M:RM} {Q:ai} (h:Go.Ab.Crw.MZ (az 63) 5 a0 a1 M Q) : az 64 [a0,a1] M Q:=aY bP (fn:=Tryz.f64) (by kernel_rfl) h (by kernel_rfl)
theorem Dt {a0:AV} {M:RM} {Q:ai} (h:Go.Ab.aC.wX (az 91) (az 63) 133 a0 M Q) : az 65 [a0] M Q:=aY bP (fn:=Tryz.f65) (by kernel_rfl) h (by kernel_rfl)
theorem Ja {a0:AV} {M:RM} {Q:ai} (h:Go.Ab.Crw.Ep 58 (az 27) (az 92) a0 M Q) : az 66 [a0] M Q:=aY bP (fn:=Tryz.f66) (by kernel_rfl) h (by kernel_rfl)
theorem He {a0:AV} {M:RM} {Q:ai} (h:Go.Ab.Crw.BQ 9 a0 M Q) : az 67 [a0] M Q:=aY bP (fn:=Tryz.f67) (by kernel_rfl) h (by kernel_rfl)
theorem OI {a0 a1:AV} {M:RM} {Q:ai} (h:Go.Ab.Crw.OH a0 a1 M Q) : az 68 [a0,a1] M Q:=aY bP (fn:=Tryz.f68) (by kernel_rfl) h (by kernel_rfl)
theorem Kt {a0:AV} {M:RM} {Q:ai} (h:Go.Ab.aC.GZ (az 93) (az 74) 5 a0 M Q) : az 69 [a0] M Q:=aY bP (fn:=Tryz.f69) (by kernel_rfl) h (by kernel_rfl)
theorem Nv {a0:AV} {M:RM} {Q:ai} (h:Go.Ab.Crw.MP (az 94) a0 M Q) : az 70 [a0] M Q:=aY bP (fn:=Tryz.f70) (by kernel_rfl) h (by kernel_rfl)
theorem Cz {a0 a1:AV} {M:RM} {Q:ai} (h:Go.Ab.Crw.u7 (az 69) (az 75) (az 74) 5 a0 a1 M Q) : az 71 [a0,a1] M Q:=aY bP (fn:=Tryz.f71) (by kernel_rfl) h (by kernel_rfl)
theorem Fb {a0 a1:AV} {M:RM} {Q:ai} (h:Go.Ab.Crw.yO 58 (az 95) 45 a0 a1 M Q) : az 72 [a0,a1] M Q:=aY bP (fn:=Tryz.f72) (by kernel_rfl) h (by kernel_rfl)
theorem Gg {a0 a1:AV} {M:RM} {Q:ai} (h:Go.Ab.aC.Bn 111 109 (az 96) (az 97) (az 98) (az 99) a0 a1 M Q) : az 73 [a0,a1] M Q:=aY bP (fn:=Tryz.f73) (by kernel_rfl) h (by kernel_rfl)
theorem Fa {a0:AV} {M:RM} {Q:ai} (h:Go.Ab.aC.yT 5 (az 74) a0 M Q) : az 74 [a0] M Q:=aY bP (fn:=Tryz.f74) (by kernel_rfl) h (by kernel_rfl)
theorem Fe {a0:AV} {M:RM} {Q:ai} (h:Go.Ab.Crw.zi (az 74) 5 a0 M Q) : az 75 [a0] M Q:=aY bP (fn:=Tryz.f75) (by kernel_rfl) h (by kernel_rfl)
theorem Gy {a0 a1:AV} {M:RM} {Q:ai} (h:Go.Ab.aC.AX (az 103) a0 a1 M Q) : az 77 [a0,a1] M Q:=aY bP (fn:=Tryz.f77) (by kernel_rfl) h (by kernel_rfl)
theorem Mq {a0 a1:AV} {M:RM} {Q:ai} (h:Go.Ab.Crw.Kv 27 (az 105) (az 106) 3 (az 84) a0 a1 M Q) : az 80 [a0,a1] M Q:=aY bP (fn:=Tryz.f80) (by kernel_rfl) h (by kernel_rfl)
theorem GL {a0 a1:AV} {M:RM} {Q:ai} (h:Go.Ab.aC.Bf (az 103) 25 111 (az 108) (az 107) (az 99) a0 a1 M Q) : az 81 [a0,a1] M Q:=aY bP (fn:=Tryz.f81) (by kernel_rfl) h (by kernel_rfl)
theorem mM {a0 a1 a2 a3 a4:AV} {M:RM} {Q:ai} (h:Go.Ab.Crw.ik (az 109) (az 110) (az 111) (az 112) (az 113) (az 114) (az) (az 115) (az 116) (az 82) a0 a1 a2 a3 a4 M Q) : az 82 [a0,a1,a2,a3,a4] M Q:=aY bP (fn:=Tryz.f82) (by kernel_rfl) h (by kernel_rfl)
theorem zX {a0:AV} {M:RM} {Q:ai} (h:Go.Ab.aC.rH (az 117) (az 118) a0 M Q) : az 83 [a0] M Q:=aY bP (fn:=Tryz.f83) (by kernel_rfl) h (by kernel_rfl)
theorem KT {a0:AV} {M:RM} {Q:ai} (h:Go.Ab.Crw.GJ a0 M Q) : az 84 [a0] M Q:=aY bP (fn:=Tryz.f84) (by kernel_rfl) h (by kernel_rfl)
theorem zk {a0 a1:AV} {M:RM} {Q:ai} (h:Go.Ab.Crw.qz (az 119) a0 a1 M Q) : az 85 [a0,a1] M Q:=aY bP (fn:=Tryz.f85) (by kernel_rfl) h (by kernel_rfl)
theorem xE {a0 a1:AV} {M:RM} {Q:ai} (h:Go.Ab.Crw.pQ (az) a0 a1 M Q) : az 86 [a0,a1] M Q:=aY bP (fn:=Tryz.f86) (by kernel_rfl) h (by kernel_rfl)
theorem E8 {a0 a1:AV} {M:RM} {Q:ai} (h:Go.Ab.Crw.ze 27 a0 a1 M Q) : az 87 [a0,a1] M Q:=aY bP (fn:=Tryz.f87) (by kernel_rfl) h (by kernel_rfl)
theorem Dn {a0:AV} {M:RM} {Q:ai} (h:Go.Ab.aC.OE 5 a0 M Q) : az 88 [a0] M Q:=aY bP (fn:=Tryz.f88) (by kernel_rfl) h (by kernel_rfl)
theorem E9 {a0:AV} {M:RM} {Q:ai} (h:Go.Ab.aC.y5 111 (az 108) 133 a0 M Q) : az 91 [a0] M Q:=aY bP (fn:=Tryz.f91) (by kernel_rfl) h (by kernel_rfl)
theorem Ga {a0 a1:AV} {M:RM} {Q:ai} (h:Go.Ab.Crw.Bu 58 (az 120) a0 a1 M Q) : az 92 [a0,a1] M Q:=aY bP (fn:=Tryz.f92) (by kernel_rfl) h (by kernel_rfl)
theorem Mf {a0:AV} {M:RM} {Q:ai} (h:Go.Ab.aC.Km 137 25 a0 M Q) : az 93 [a0] M Q:=aY bP (fn:=Tryz.f93) (by kernel_rfl) h (by kernel_rfl)
theorem PU {a0 a1:AV} {M:RM} {Q:ai} (h:Go.Ab.aC.Uk 27 (az 27) (az 121) a0 a1 M Q) : az 94 [a0,a1] M Q:=aY bP (fn:=Tryz.f94) (by kernel_rfl) h (by kernel_rfl)
theorem rG {a0 a1 a2:AV} {M:RM} {Q:ai} (h:Go.Ab.Crw.kH 58 (az) a0 a1 a2 M Q) : az 95 [a0,a1,a2] M Q:=aY bP (fn:=Tryz.f95) (by kernel_rfl) h (by kernel_rfl)
theorem zZ {a0:AV} {M:RM} {Q:ai} (h:Go.Ab.aC.rM 9 (az 122) 25 a0 M Q) : az 96 [a0] M Q:=aY bP (fn:=Tryz.f96) (by kernel_rfl) h (by kernel_rfl)
theorem Cv {a0:AV} {M:RM} {Q:ai} (h:Go.Ab.aC.u6 (az 83) (az 123) a0 M Q) : az 97 [a0] M Q:=aY bP (fn:=Tryz.f97) (by kernel_rfl) h (by kernel_rfl)
theorem yP {a0:AV} {M:RM} {Q:ai} (h:Go.Ab.aC.qE a0 M Q) : az 98 [a0] M Q:=aY bP (fn:=Tryz.f98) (by kernel_rfl) h (by kernel_rfl)
theorem Al {a0:AV} {M:RM} {Q:ai} (h:Go.Ab.aC.tK a0 M Q) : az 99 [a0] M Q:=aY bP (fn:=Tryz.f99) (by kernel_rfl) h (by kernel_rfl)
theorem uL {a0 a1:AV} {M:RM} {Q:ai} (h:Go.Ab.aC.mo (az 125) (az 126) a0 a1 M Q) : az 103 [a0,a1] M Q:=aY bP (fn:=Tryz.f103) (by kernel_rfl) h (by kernel_rfl)
theorem yZ {a0 a1:AV} {M:RM} {Q:ai} (h:Go.Ab.Crw.qJ (az 135) a0 a1 M Q) : az 105 [a0,a1] M Q:=aY bP (fn:=Tryz.f105) (by kernel_rfl) h (by kernel_rfl)
theorem Ct {a0 a1:AV} {M:RM} {Q:ai} (h:Go.Ab.Crw.ve (az 136) a0 a1 M Q) : az 106 [a0,a1] M Q:=aY bP (fn:=Tryz.f106) (by kernel_rfl) h (by kernel_rfl)
theorem rq {a0 a1 a2:AV} {M:RM} {Q:ai} (h:Go.Ab.aC.lD 25 (Tg Tryz.prog 137) (az 138) a0 a1 a2 M Q) : az 107 [a0,a1,a2] M Q:=aY bP (fn:=Tryz.f107) (by kernel_rfl) h (by kernel_rfl)
theorem Av {a0:AV} {M:RM} {Q:ai} (h:Go.Ab.aC.KM 25 a0 M Q) : az 108 [a0] M Q:=aY bP (fn:=Tryz.f108) (by kernel_rfl) h (by kernel_rfl)
theorem jV {a0 a1 a2 a3:AV} {M:RM} {Q:ai} (h:Go.Ab.Crw.fC (az) a0 a1 a2 a3 M Q) : az 109 [a0,a1,a2,a3] M Q:=aY bP (fn:=Tryz.f109) (by kernel_rfl) h (by kernel_rfl)
theorem sP {a0 a1 a2 a3:AV} {M:RM} {Q:ai} (h:Go.Ab.Crw.lh (az 139) a0 a1 a2 a3 M Q) : az 110 [a0,a1,a2,a3] M Q:=aY bP (fn:=Tryz.f110) (by kernel_rfl) h (by kernel_rfl)
theorem pV {a0 a1 a2 a3:AV} {M:RM} {Q:ai} (h:Go.Ab.Crw.jv 182 (az 140) (az 141) a0 a1 a2 a3 M Q) : az 111 [a0,a1,a2,a3] M Q:=aY bP (fn:=Tryz.f111) (by kernel_rfl) h (by kernel_rfl)
theorem qF {a0 a1 a2 a3:AV} {M:RM} {Q:ai} (h:Go.Ab.Crw.jT 3 (az 142) (az 143) a0 a1 a2 a3 M Q) : az 112 [a0,a1,a2,a3] M Q:=aY bP (fn:=Tryz.f112) (by kernel_rfl) h (by kernel_rfl)
theorem qf {a0 a1 a2 a3:AV} {M:RM} {Q:ai} (h:Go.Ab.Crw.jK a0 a1 a2 a3 M Q) : az 113 [a0,a1,a2,a3] M Q:=aY bP (fn:=Tryz.f113) (by kernel_rfl) h (by kernel_rfl)
theorem mQ {a0 a1 a2 a3:AV} {M:RM} {Q:ai} (h:Go.Ab.Crw.gL (az) a0 a1 a2 a3 M Q) : az 114 [a0,a1,a2,a3] M Q:=aY bP (fn:=Tryz.f114) (by kernel_rfl) h (by kernel_rfl)
theorem oV {a0 a1 a2 a3 a4:AV} {M:RM} {Q:ai} (h:Go.Ab.Crw.jb (az) a0 a1 a2 a3 a4 M Q) : az 115 [a0,a1,a2,a3,a4] M Q:=aY bP (fn:=Tryz.f115) (by kernel_rfl) h (by kernel_rfl)
theorem sN {a0 a1 a2 a3 a4:AV} {M:RM} {Q:ai} (h:Go.Ab.Crw.kJ (az) a0 a1 a2 a3 a4 M Q) : az 116 [a0,a1,a2,a3,a4] M Q:=aY bP (fn:=Tryz.f116) (by kernel_rfl) h (by kernel_rfl)
theorem xG {a0:AV} {M:RM} {Q:ai} (h:Go.Ab.aC.pU a0 M Q) : az 118 [a0] M Q:=aY bP (fn:=Tryz.f118) (by kernel_rfl) h (by kernel_rfl)
theorem BP {a0:AV} {M:RM} {Q:ai} (h:Go.Ab.Crw.tu a0 M Q) : az 119 [a0] M Q:=aY bP (fn:=Tryz.f119) (by kernel_rfl) h (by kernel_rfl)
theorem Kj {a0 a1:AV} {M:RM} {Q:ai} (h:Go.Ab.Crw.GQ 58 (az 62) a0 a1 M Q) : az 120 [a0,a1] M Q:=aY bP (fn:=Tryz.f120) (by kernel_rfl) h (by kernel_rfl)
theorem Mg {a0 a1:AV} {M:RM} {Q:ai} (h:Go.Ab.aC.JH 27 a0 a1 M Q) : az 121 [a0,a1] M Q:=aY bP (fn:=Tryz.f121) (by kernel_rfl) h (by kernel_rfl)
theorem Cs {a0 a1:AV} {M:RM} {Q:ai} (h:Go.Ab.aC.vg 9 25 a0 a1 M Q) : az 122 [a0,a1] M Q:=aY bP (fn:=Tryz.f122) (by kernel_rfl) h (by kernel_rfl)
theorem l9 {a0 a1 a2 a3:AV} {M:RM} {Q:ai} (h:Go.Ab.aC.gN (az 144) (az 145) (az 146) (az 147) (az 148) (az 149) (az 125) (az 150) (az 151) (az 123) a0 a1 a2 a3 M Q) : az 123 [a0,a1,a2,a3] M Q:=aY bP (fn:=Tryz.f123) (by kernel_rfl) h (by kernel_rfl)
theorem Cw {a0 a1:AV} {M:RM} {Q:ai} (h:Go.Ab.aC.vz (az 135) a0 a1 M Q) : az 125 [a0,a1] M Q:=aY bP (fn:=Tryz.f125) (by kernel_rfl) h (by kernel_rfl)
theorem y8 {a0:AV} {M:RM} {Q:ai} (h:Go.Ab.aC.qH a0 M Q) : az 126 [a0] M Q:=aY bP (fn:=Tryz.f126) (by kernel_rfl) h (by kernel_rfl)
theorem sK {a0:AV} {M:RM} {Q:ai} (h:Go.Ab.aC.pg a0 M Q) : az 135 [a0] M Q:=aY bP (fn:=Tryz.f135) (by kernel_rfl) h (by kernel_rfl)
theorem Fh {a0:AV} {M:RM} {Q:ai} (h:Go.Ab.Crw.y7 a0 M Q) : az 136 [a0] M Q:=aY bP (fn:=Tryz.f136) (by kernel_rfl) h (by kernel_rfl)
theorem sO {a0 a1 a2 a3 a4:AV} {M:RM} {Q:ai} (h:Go.Ab.Crw.lc (az) a0 a1 a2 a3 a4 M Q) : az 139 [a0,a1,a2,a3,a4] M Q:=aY bP (fn:=Tryz.f139) (by kernel_rfl) h (by kernel_rfl)
theorem yN {a0:AV} {M:RM} {Q:ai} (h:Go.Ab.aC.qC (az 83) a0 M Q) : az 140 [a0] M Q:=aY bP (fn:=Tryz.f140) (by kernel_rfl) h (by kernel_rfl)
theorem qP {a0:AV} {M:RM} {Q:ai} (h:Go.Ab.aC.lC a0 M Q) : az 141 [a0] M Q:=aY bP (fn:=Tryz.f141) (by kernel_rfl) h (by kernel_rfl)
theorem oU {a0 a1 a2 a3:AV} {M:RM} {Q:ai} (h:Go.Ab.Crw.jc (az 143) a0 a1 a2 a3 M Q) : az 142 [a0,a1,a2,a3] M Q:=aY bP (fn:=Tryz.f142) (by kernel_rfl) h (by kernel_rfl)
theorem uN {a0 a1 a2 a3 a4 a5:AV} {M:RM} {Q:ai} (h:Go.Ab.Crw.mg (az 156) a0 a1 a2 a3 a4 a5 M Q) : az 143 [a0,a1,a2,a3,a4,a5] M Q:=aY bP (fn:=Tryz.f143) (by kernel_rfl) h (by kernel_rfl)
theorem jO {a0 a1 a2:AV} {M:RM} {Q:ai} (h:Go.Ab.aC.eY (az 125) a0 a1 a2 M Q) : az 144 [a0,a1,a2] M Q:=aY bP (fn:=Tryz.f144) (by kernel_rfl) h (by kernel_rfl)
theorem sI {a0 a1 a2:AV} {M:RM} {Q:ai} (h:Go.Ab.aC.kT (az 157) a0 a1 a2 M Q) : az 145 [a0,a1,a2] M Q:=aY bP (fn:=Tryz.f145) (by kernel_rfl) h (by kernel_rfl)
theorem oJ {a0 a1 a2:AV} {M:RM} {Q:ai} (h:Go.Ab.aC.jd 182 (az 140) (az 141) a0 a1 a2 M Q) : az 146 [a0,a1,a2] M Q:=aY bP (fn:=Tryz.f146) (by kernel_rfl) h (by kernel_rfl)
theorem qc {a0 a1 a2:AV} {M:RM} {Q:ai} (h:Go.Ab.aC.jG 3 (az 158) (az 159) a0 a1 a2 M Q) : az 147 [a0,a1,a2] M Q:=aY bP (fn:=Tryz.f147) (by kernel_rfl) h (by kernel_rfl)
theorem pR {a0 a1 a2:AV} {M:RM} {Q:ai} (h:Go.Ab.aC.jr a0 a1 a2 M Q) : az 148 [a0,a1,a2] M Q:=aY bP (fn:=Tryz.f148) (by kernel_rfl) h (by kernel_rfl)
theorem mh {a0 a1 a2:AV} {M:RM} {Q:ai} (h:Go.Ab.aC.gF (az 125) a0 a1 a2 M Q) : az 149 [a0,a1,a2] M Q:=aY bP (fn:=Tryz.f149) (by kernel_rfl) h (by kernel_rfl)
theorem ol {a0 a1 a2 a3:AV} {M:RM} {Q:ai} (h:Go.Ab.aC.iU (az 125) a0 a1 a2 a3 M Q) : az 150 [a0,a1,a2,a3] M Q:=aY bP (fn:=Tryz.f150) (by kernel_rfl) h (by kernel_rfl)
theorem rC {a0 a1 a2 a3:AV} {M:RM} {Q:ai} (h:Go.Ab.aC.j5 (az 125) a0 a1 a2 a3 M Q) : az 151 [a0,a1,a2,a3] M Q:=aY bP (fn:=Tryz.f151) (by kernel_rfl) h (by kernel_rfl)
theorem uS {a0 a1 a2 a3 a4:AV} {M:RM} {Q:ai} (h:Go.Ab.Crw.mr (az) a0 a1 a2 a3 a4 M Q) : az 156 [a0,a1,a2,a3,a4] M Q:=aY bP (fn:=Tryz.f156) (by kernel_rfl) h (by kernel_rfl)
theorem rF {a0 a1 a2 a3:AV} {M:RM} {Q:ai} (h:Go.Ab.aC.kP (az 125) a0 a1 a2 a3 M Q) : az 157 [a0,a1,a2,a3] M Q:=aY bP (fn:=Tryz.f157) (by kernel_rfl) h (by kernel_rfl)
theorem oC {a0 a1 a2:AV} {M:RM} {Q:ai} (h:Go.Ab.aC.iP (az 159) a0 a1 a2 M Q) : az 158 [a0,a1,a2] M Q:=aY bP (fn:=Tryz.f158) (by kernel_rfl) h (by kernel_rfl)
theorem tT {a0 a1 a2 a3 a4:AV} {M:RM} {Q:ai} (h:Go.Ab.aC.lU (az 162) a0 a1 a2 a3 a4 M Q) : az 159 [a0,a1,a2,a3,a4] M Q:=aY bP (fn:=Tryz.f159) (by kernel_rfl) h (by kernel_rfl)
theorem uu {a0 a1 a2 a3:AV} {M:RM} {Q:ai} (h:Go.Ab.aC.lT (az 125) a0 a1 a2 a3 M Q) : az 162 [a0,a1,a2,a3] M Q:=aY bP (fn:=Tryz.f162) (by kernel_rfl) h (by kernel_rfl)
end Go.Proofs.YtlhlnchhaminjaaGreat
set_option maxRecDepth 100000
set_option linter.unusedVariables false
set_option linter.unusedSimpArgs false
namespace Go.Proofs.YtlhlnchhaminjaaGreat.cshare
open Go Go.Ab Go.Ab.aC Go.RowKit
theorem over:X7 (Tg Tryz.prog 137):=by
 intro M ba oa na bb ob nb ea eb ca cb la lb opb Q hne ha hb h1 h2 hQ
 exact .inr (.inl ⟨⟨Tryz.f137,109,25,1,4,by kernel_rfl,by kernel_rfl,by kernel_rfl,by kernel_rfl,by kernel_rfl,by kernel_rfl⟩,
  ⟨ba,oa,na,ca,bb,ob,nb,cb,la,ea,0,lb,opb,eb,0,rfl,hne,ha,hb,rfl,h1,h2⟩,hQ⟩)
theorem VQ:EC Tryz.prog 107:=⟨Tryz.f107,_,by kernel_rfl,rfl⟩
theorem insert:Rp 25 (az 107):=by
 intro M v bx n0 k x ex xs Q ho hn hl hk hx hxl hbx hQ
 by_cases hkn:k=xs.length
 ·subst hkn
  exact rq (Uq ho hn hl hx hxl hQ)
 ·obtain ⟨b,rfl,h1,h2,h3,h4⟩:=Own.wI ho (by omega)
  refine ig.XQ VQ h3 (by rw [h4]; show xs.length * 1=_; omega) fun c hc=>?_
  have hne:bx≠b:=fun e=>hbx (by simp [aF,e])
  have kk:ah [b] M (M.put b (.row (aS.row xs++List.replicate (c - xs.length) .top) true 25 0)):=(ah.refl _ _).put _ (.inr (by simp))
  refine rq (V4 (c:=c) over rfl (by omega) hc (by omega) (aZ _) (by rw [lY]; exact h2) (uG hx hne) hxl hne ?_)
  intro v' M' q1 q2 q3 q4
  refine hQ v' M' q1 q2 (fun d hd=>?_) ?_
  ·rcases q3 d hd with rfl | h
   ·exact h1
   ·have:M.next≤d:=h
    omega
  ·exact (kk.trans q4).mono (by simp [aF])
theorem nan:TW (az 135):=fun hQ=>sK (Jq hQ)
theorem aca:TW (az 126):=fun hQ=>y8 (Qd hQ)
theorem less:uz (az 125):=by
 intro M x y Q hQ
 obtain ⟨a0,a1,e,h⟩:=UU nan hQ
 cases e
 exact Cw h
theorem search:EH (az 103):=by
 intro M v xs n Q h1 h2 h3 hQ
 obtain ⟨a0,a1,e,h⟩:=PV less aca h1 h2 h3 hQ
 cases e
 exact uL h
theorem VR:DK 25 1 8 (az 108):=fun h1 h2 h3 h4 _ hQ=>Av (CG h1 h2 (Nat.le_refl _) h3 h4 hQ)
theorem ZN:DK 5 1 1 (az 88):=fun h1 h2 h3 h4 _ hQ=>Dn (CG h1 h2 (Nat.le_refl _) h3 h4 hQ)
theorem uint:Br 5 (az 63):=by
 intro M0 a0 cs n v h1 h2 h3 h4 Q hQ
 obtain ⟨b0,b1,e,h⟩:=UA ZN h1 h2 h3 h4 hQ
 cases e
 exact NA h
theorem settled:Aq (az 99):=by
 intro M b o T u l v xs Q h1 h2 h3 h4 h5 h6 h7 h8 h9 hQ
 obtain ⟨a0,e,h⟩:=OA h1 h2 h3 h4 h5 h6 h7 h8 h9 hQ
 cases e
 exact Al h
theorem fU:RH (az 81):=by
 intro M b o T u n l v xs Q h1 h2 h3 h4 h5 h6 h7 h8 h9 h10 h11 h12 hQ1 hQ2
 obtain ⟨a0,a1,e,h⟩:=VV (TU:=25) (TP:=111) search VR insert settled h1 h2 h3 h4 h5 h6 h7 h8 h9 h10 h11 h12 hQ1 hQ2
 cases e
 exact GL h
theorem il:MH (az 77):=by
 intro M b o T u n l v xs Q h1 h2 h3 h4 h5 h6 hQ
 obtain ⟨a0,a1,e,h⟩:=VD search h1 h2 h3 h4 h5 h6 hQ
 cases e
 exact Gy h
theorem good:xH (az 58):=by
 intro M d Q hQ
 obtain ⟨a0,e,h⟩:=U9 (T:=27) hQ
 cases e
 exact Kg h
theorem Ze:xH (az 61):=by
 intro M d Q hQ
 obtain ⟨a0,e,h⟩:=NV (T:=27) hQ
 cases e
 exact KW h
theorem lg:Si 114 (az 42):=by
 intro M b ps d S Q h1 h2 hQ
 obtain ⟨a0,a1,e,h⟩:=VG (TD:=27) good fU h1 h2 hQ
 cases e
 exact H9 h
theorem new:Sc 114 (az 38):=by
 intro M Q hQ
 obtain ⟨e,h⟩:=Xh hQ
 exact Mc h
theorem aae:Oq 114 133 (az 91):=by
 intro M b ps S Q h1 h2 hQ
 obtain ⟨a0,e,h⟩:=TT (T:=111) VR h1 h2 hQ
 cases e
 exact E9 h
theorem encode:zq 114 5 (az 65):=by
 intro M b ps S Q h1 h2 hQ
 obtain ⟨a0,e,h⟩:=Qg aae uint h1 h2 hQ
 cases e
 exact Dt h
theorem ahead:OZ (az 121):=by
 intro M a b Q hQ
 obtain ⟨a0,a1,e,h⟩:=Ud (T:=27) hQ
 cases e
 exact Mg h
theorem U2:EX (az 27):=by
 intro M v l d Q h1 h2 hQ
 obtain ⟨a0,a1,e,h⟩:=PK (T:=27) h1 h2 hQ
 cases e
 exact PY h
theorem ZJ:KV 27 (az 94):=by
 intro M base v l d Q h1 h2 h3 hQ
 obtain ⟨a0,a1,e,h⟩:=QA U2 ahead h1 h2 h3 hQ
 cases e
 exact PU h
theorem within:EU 114 (az 33):=by
 intro M a b ps qs S S' Q h1 h2 h3 h4 hQ
 obtain ⟨a0,a1,e,h⟩:=Qb (T:=111) il h1 h2 h3 h4 hQ
 cases e
 exact DI h
theorem dB:Mw 114 (az 37):=by
 intro M b ps d S Q h1 h2 hQ
 obtain ⟨a0,a1,e,h⟩:=Ut (T:=27) good il h1 h2 hQ
 cases e
 exact Ik h
theorem grow:SE 25 (az 122):=by
 intro M n Q h1 h2 h3
 obtain ⟨a0,a1,e,h⟩:=U8 (TS:=9) h1 h2 h3
 cases e
 exact Cs h
theorem concat:J8 25 (az 96):=by
 intro M bb TS v w xs ys Q h1 h2 h3 h4 h5 h6 hQ
 obtain ⟨a0,e,h⟩:=PQ (TS:=9) grow h1 h2 h3 h4 h5 h6 hQ
 cases e
 exact zZ h
theorem Ko (v:Nat) : v<2 ^ 64→AA 5 v (az 74):=by
 induction v using Nat.strongRecOn with
 | _ v ih =>
   intro hv M Q hQ
   obtain ⟨a0,e,h⟩:=Oe hv (fun w hw=>ih w hw (by omega)) hQ
   cases e
   exact Fa h
theorem WJ:xN 137 25 (az 93):=fun {M v l Q} h1 h2 h3 h4=>by
 obtain ⟨a0,e,h⟩:=Ms h1 h2 h3 h4
 cases e
 exact Mf h
theorem LK:sG 5 (az 69):=fun {M v l Q} h1 h2 h3 h4=>by
 obtain ⟨a0,e,h⟩:=KS WJ (fun v=>Ko v) h1 h2 h3 h4
 cases e
 exact Kt h
theorem Zb:Jw 25 3 (az 162):=fun {M b s k i j d Q} h1 h2 h3 h4 hQ=>by
 obtain ⟨a0,a1,a2,a3,e,h⟩:=Pq less h1 h2 h3 h4 hQ
 cases e
 exact uu h
theorem QP:EW 25 3 (az 159):=fun {M b s k i j h d Q} h1 h2 h3 h4 h5 hQ=>by
 obtain ⟨a0,a1,a2,a3,a4,e,h⟩:=NB Zb h1 h2 h3 h4 h5 hQ
 cases e
 exact tT h
theorem Za:Kl 25 3 (az 158):=fun {M b s k i d Q} h1 h2 h3 h4 h5 hQ=>by
 obtain ⟨a0,a1,a2,e,h⟩:=Ni QP h1 h2 h3 h4 h5 hQ
 cases e
 exact oC h
theorem Yv:Jv 25 (az 147):=fun {M b a e d Q} h1 h2 h3 h4 hQ=>by
 obtain ⟨a0,a1,a2,e,h⟩:=Og Za QP h1 h2 h3 h4 hQ
 cases e
 exact qc h
theorem WG:Gp 25 (az 149):=fun {M b a e d Q} h1 h2 h3 h4 hQ=>by
 obtain ⟨a0,a1,a2,e,h⟩:=L8 less h1 h2 h3 h4 hQ
 cases e
 exact mh h
theorem abJ:vG 25 (Sort.insertionSort lN) (fun _ _ _=>True) (az 144):=fun {M b a e d Q} h1 h2 h3 h4 h5 hQ=>by
 obtain ⟨a0,a1,a2,e,h⟩:=Vh less h1 h2 h3 h4 h5 hQ
 cases e
 exact jO h
theorem aaV:SS 25 (az 157):=fun {M b lo hi first d Q} h1 h2 h3 h4 hQ=>by
 obtain ⟨a0,a1,a2,a3,e,h⟩:=VK less h1 h2 h3 h4 hQ
 cases e
 exact rF h
theorem aaT:vG 25 (Sort.heapSort lN) (fun _ a e=>a<e) (az 145):=fun {M b a e d Q} h1 h2 h3 h4 h5 hQ=>by
 obtain ⟨a0,a1,a2,e,h⟩:=Ve aaV h1 h2 h3 h4 h5 hQ
 cases e
 exact sI h
theorem XP:vG 25 Sort.reverseRange (fun _ a e=>a<e) (az 148):=fun {M b a e d Q} h1 h2 h3 h4 h5 hQ=>by
 obtain ⟨a0,a1,a2,e,h⟩:=Ns h1 h2 h3 h4 h5 hQ
 cases e
 exact pR h
theorem Yw:Kn 25 (az 150):=fun {M b a e pv d Q} h1 h2 h3 h4 h5 hQ=>by
 obtain ⟨a0,a1,a2,a3,e,h⟩:=PN less h1 h2 h3 h4 h5 hQ
 cases e
 exact ol h
theorem aaO:Tt 25 (az 151):=fun {M b a e pv d Q} h1 h2 h3 h4 h5 hQ=>by
 obtain ⟨a0,a1,a2,a3,e,h⟩:=UK less h1 h2 h3 h4 h5 hQ
 cases e
 exact rC h
theorem Z4:CQ (az 118):=fun {M x Q} h1 hQ=>by
 obtain ⟨a0,e,h⟩:=Qy h1 hQ
 cases e
 exact xG h
theorem WY:CQ (az 83):=fun {M x Q} h1 hQ=>by
 obtain ⟨a0,e,h⟩:=U6 (c3:=az 117) Z4 h1 hQ
 cases e
 exact zX h
theorem Zr:Tc (az 140):=fun {M x Q} h0 h1 hQ=>by
 obtain ⟨a0,e,h⟩:=Wh WY h0 h1 hQ
 cases e
 exact yN h
theorem acB:XT 25 182 (az 141):=fun {M b s r d Q} h0 hQ=>by
 obtain ⟨a0,e,h⟩:=Xi h0 hQ
 cases e
 exact qP h
theorem Zm:MO 25 (az 146):=fun {M b a e d Q} h1 h2 h3 h4 hQ=>by
 obtain ⟨a0,a1,a2,e,h⟩:=Sd Zr acB h1 h2 h3 h4 hQ
 cases e
 exact oJ h
theorem Zx:∀ m,SG 25 m (az 123)
 | 0=>by intro h1 h2 h3 h4 h5; omega
 | m + 1=>by
   intro h1 h2 h3 h4 h5 h6 hQ
   obtain ⟨a0,a1,a2,a3,e,h⟩:=UD abJ aaT Zm Yv XP WG less Yw aaO (Zx m) h1 h2 h3 h4 h5 h6 hQ
   cases e
   exact l9 h
theorem ZQ:NM (az 144):=fun {M v Q} hQ=>by
 obtain ⟨a0,a1,a2,e,h⟩:=Qo (cl:=az 125) (v:=v) hQ
 cases e
 exact jO h
theorem aas:NP (az 123):=fun {M v Q} hQ=>by
 obtain ⟨a0,a1,a2,a3,e,h⟩:=P7 (c2:=az 145) (c3:=az 146) (cc:=az 147) (c4:=az 148) (cp:=az 149) (c5:=az 125) (c6:=az 150) (c7:=az 151) (c8:=az 123) ZQ (v:=v) hQ
 cases e
 exact l9 h
theorem Y7:Ug (fun xs=>xs.length≤60000) iw 25 (az 97):=fun {M base v xs Q} h1 h2 hQ=>by
 obtain ⟨a0,e,h⟩:=Tu WY Zx aas h1 h2 hQ
 cases e
 exact Cv h
theorem SL:Ha (fun xs=>xs.length≤60000) dd 25 (az 98):=fun {M base v xs Q} h1 h2 hQ=>by
 obtain ⟨a0,e,h⟩:=Md h1 h2 hQ
 cases e
 exact yP h
theorem QL:SC (fun xs=>xs.length≤60000) (fun xs=>xs.length≤60000) iw dd 114 (az 73):=fun {M a b ps qs S S' Q} h1 h2 h3 h4 h5 h6 h7 h8 hQ=>by
 obtain ⟨a0,a1,e,h⟩:=Uw (TP:=111) (TL:=109) concat Y7 SL settled h1 h2 h3 h4 h5 h6 h7 h8 hQ
 cases e
 exact Gg h
end Go.Proofs.YtlhlnchhaminjaaGreat.cshare
set_option maxRecDepth 100000
set_option linter.unusedVariables false
set_option linter.unusedSimpArgs false
namespace Go.Proofs.YtlhlnchhaminjaaGreat.cshare
open Go Go.Ab Go.Ab.aC Go.Ab.Crw Go.RowKit
theorem aa0:wZ (az 60):=by
 intro M a b Q h1
 obtain ⟨a0,a1,e,h⟩:=Sk (T:=27) h1
 cases e
 exact Nu h
theorem QI:wZ (az 62):=by
 intro M a b Q h1
 obtain ⟨a0,a1,e,h⟩:=OY (T:=27) h1
 cases e
 exact JY h
theorem names:Px (az 59):=by
 intro M x y z Q h1
 obtain ⟨a0,a1,a2,e,h⟩:=Ue h1
 cases e
 exact Fg h
theorem dM:wB (az 17):=by
 intro M e kv ks Q h1 h2
 obtain ⟨a0,e,h⟩:=QD (TE:=30) (TD:=27) good names aa0 h1 h2
 cases e
 exact Ov h
theorem Vq:wB (az 20):=by
 intro M e kv ks Q h1 h2
 obtain ⟨a0,e,h⟩:=JM (TE:=30) Ze QI h1 h2
 cases e
 exact E5 h
theorem ab7:BK (α:=List UInt8) (fun s=>St s) (az 119):=by
 intro M x Q h1
 obtain ⟨a0,e,h⟩:=VB h1
 cases e
 exact BP h
theorem acr:BK (α:=Nat) (fun n=>N .u64 (n:Int)) (az 135):=by
 intro M x Q h1
 obtain ⟨a0,e,h⟩:=Uy h1
 cases e
 exact sK h
theorem ab2:BK (α:=Int) (fun n=>N .i64 n) (az 136):=by
 intro M x Q h1
 obtain ⟨a0,e,h⟩:=VF h1
 cases e
 exact Fh h
theorem acF:vU (α:=List UInt8) (fun s=>St s) (fun x y=>decide (x<y)) (az 85):=by
 intro M x y Q h1
 obtain ⟨a0,a1,e,h⟩:=Vx ab7 h1
 cases e
 exact zk h
theorem acx:vU (α:=Nat) (fun n=>N .u64 (n:Int)) (fun x y=>decide (x<y)) (az 105):=by
 intro M x y Q h1
 obtain ⟨a0,a1,e,h⟩:=Vn acr h1
 cases e
 exact yZ h
theorem abS:vU (α:=Int) (fun n=>N .i64 n) (fun x y=>decide (x<y)) (az 106):=by
 intro M x y Q h1
 obtain ⟨a0,a1,e,h⟩:=Vr ab2 h1
 cases e
 exact Ct h
theorem or_:Yb (az 84):=by
 intro M v xs Q h1 h2 h3
 obtain ⟨a0,e,h⟩:=Zi h1 h2 h3
 cases e
 exact KT h
theorem aaQ:Nb (az 80):=by
 intro M x y Q h1
 obtain ⟨a0,a1,e,h⟩:=TC acx abS or_ h1
 cases e
 exact Mq h
theorem compare:Aa (az 45):=by
 intro M x y Q h1
 obtain ⟨a0,a1,e,h⟩:=MX acF aaQ or_ h1
 cases e
 exact IM h
abbrev fE:AV:=.fn (.func 45) [] []
theorem Gq:wY ay fo (dZ (az) fE):=Y8 compare
theorem Xx:SortG ay 58 5 fE (Sort.insertionSort fo) (fun _ _ _=>True) (az 109):=by
 intro M b a e d Q h1 h2 h3 h4 h5 h6
 obtain ⟨a0,a1,a2,a3,e,h⟩:=Crw.Xx (cv:=az) Gq h1 h2 h3 h4 h5 h6
 cases e
 exact jV h
theorem Xy:SortG ay 58 5 fE Sort.reverseRange (fun _ a e=>a<e) (az 113):=by
 intro M b a e d Q h1 h2 h3 h4 h5 h6
 obtain ⟨a0,a1,a2,a3,e,h⟩:=Crw.Xy h1 h2 h3 h4 h5 h6
 cases e
 exact qf h
theorem Ub:SB 58 fE fo (az 139):=by
 intro M b lo hi first d Q h1 h2 h3 h4 h5
 obtain ⟨a0,a1,a2,a3,a4,e,h⟩:=Crw.Ub (cv:=az) Gq h1 h2 h3 h4 h5
 cases e
 exact sO h
theorem Ul:SortG ay 58 5 fE (Sort.heapSort fo) (fun _ a e=>a<e) (az 110):=by
 intro M b a e d Q h1 h2 h3 h4 h5 h6
 obtain ⟨a0,a1,a2,a3,e,h⟩:=Crw.Ul Ub h1 h2 h3 h4 h5 h6
 cases e
 exact sP h
theorem KA:JO 58 fE fo (az 115):=by
 intro M b a e pv d Q h1 h2 h3 h4 h5 h6
 obtain ⟨a0,a1,a2,a3,a4,e,h⟩:=Crw.KA (cv:=az) Gq h1 h2 h3 h4 h5 h6
 cases e
 exact oV h
theorem RG:TV 58 fE fo (az 116):=by
 intro M b a e pv d Q h1 h2 h3 h4 h5 h6
 obtain ⟨a0,a1,a2,a3,a4,e,h⟩:=Crw.RG (cv:=az) Gq h1 h2 h3 h4 h5 h6
 cases e
 exact sN h
theorem JB:Ky 58 3 fE fo (az 156):=by
 intro M b s k i j d Q h1 h2 h3 h4 h5 h6
 obtain ⟨a0,a1,a2,a3,a4,e,h⟩:=Crw.JB (cv:=az) Gq h1 h2 h3 h4 h5 h6
 cases e
 exact uS h
theorem EN:EA 58 3 fE fo (az 143):=by
 intro M b s k i j h d Q h1 h2 h3 h4 h5 h6 h7
 obtain ⟨a0,a1,a2,a3,a4,a5,e,h⟩:=Crw.EN JB h1 h2 h3 h4 h5 h6 h7
 cases e
 exact uN h
theorem JJ:Kk 58 3 fE fo (az 142):=by
 intro M b s k i d Q h1 h2 h3 h4 h5 h6 h7
 obtain ⟨a0,a1,a2,a3,e,h⟩:=Crw.JJ EN h1 h2 h3 h4 h5 h6 h7
 cases e
 exact oU h
theorem KH:KG 58 fE fo (az 112):=by
 intro M b a e d Q h1 h2 h3 h4 h5
 obtain ⟨a0,a1,a2,a3,e,h⟩:=Crw.KH JJ EN h1 h2 h3 h4 h5
 cases e
 exact qF h
theorem G6:Hd 58 fE fo (az 114):=by
 intro M b a e d Q h1 h2 h3 h4 h5
 obtain ⟨a0,a1,a2,a3,e,h⟩:=Crw.G6 (cv:=az) Gq h1 h2 h3 h4 h5
 cases e
 exact mQ h
theorem acz:Wt 182 (az 141):=by
 intro M s r Q h1 h2 h3
 obtain ⟨a0,e,h⟩:=Vl h1 h2 h3
 cases e
 exact qP h
theorem Pm:SortG ay 58 5 fE Sort.breakPatterns (fun _ _ _=>True) (az 111):=by
 intro M b a e d Q h1 h2 h3 h4 h5 h6
 obtain ⟨a0,a1,a2,a3,e,h⟩:=Crw.Pm Zr acz h1 h2 h3 h4 h5 h6
 cases e
 exact pV h
theorem Um:∀ m,Tq 58 m fE fo (az 82)
 | 0=>by intro h1 h2 h3 h4 h5; omega
 | m + 1=>by
   intro h1 h2 h3 h4 h5 h6 hQ
   obtain ⟨a0,a1,a2,a3,a4,e,h⟩:=Crw.Um (cv:=az) fM Xx Ul Pm KH Xy G6 Gq KA RG (Um m) h1 h2 h3 h4 h5 h6 hQ
   cases e
   exact mM h
theorem Ku:JE (az 109):=by
 intro M v fv Q h1
 obtain ⟨a0,a1,a2,a3,e,h⟩:=Crw.Ku (cv:=az) h1
 cases e
 exact jV h
theorem KD:Kr (az 82):=by
 intro M v fv Q h1
 obtain ⟨a0,a1,a2,a3,a4,e,h⟩:=Crw.KD (cv:=az) Ku h1
 cases e
 exact mM h
theorem UF:Ez fE fo 58 (az 44):=by
 intro M base v xs Q h1 h2 h3
 obtain ⟨a0,a1,e,h⟩:=Crw.Y2 fM WY Um KD h1 h2 h3
 cases e
 exact yV h
theorem clone:zH 58 (az 43):=by
 intro M v xs Q h1 h2 h3
 obtain ⟨a0,e,h⟩:=Qq h1 h2 h3
 cases e
 exact Cu h
theorem index:KP (az 87):=by
 intro M v l d Q h1 h2 h3
 obtain ⟨a0,a1,e,h⟩:=Qj (T:=27) h1 h2 h3
 cases e
 exact E8 h
theorem contains:BI (az 48):=by
 intro M v l d Q h1 h2 h3
 obtain ⟨a0,a1,e,h⟩:=JC (T:=27) index h1 h2 h3
 cases e
 exact BC h
theorem VI:ug (az 49):=by
 intro M v w xs ys Q h1 h2 h3 h4
 obtain ⟨a0,a1,e,h⟩:=Qn h1 h2 h3 h4
 cases e
 exact Cx h
theorem UB {b:Nat} {e:l7} {kv:AV} {ks:List aC} (hl:ks.length≤1000000) : Mx (Di 30 b e kv ks) (fun x=>decide (x.1∈ks)) (dZ (az) (.fn (.func 47) [] [.ptr b 0])):=by
 intro M x Q hP hQ
 obtain ⟨a0,a1,e,h⟩:=PT (T:=58) contains hl hP hQ
 refine ⟨47,[],[.ptr b 0],rfl, ?_⟩
 show az 47 [.agg (ay.cells x),.ptr b 0] M Q
 cases e
 exact zB h
theorem aap {P:RM→Prop} {p:Crw.aL→Bool} {fv:AV} (hp:Mx P p (dZ (az) fv)) : Ju P p fv (az 86):=by
 intro M v xs Q h1 h2 h3 h4 h5 h6
 obtain ⟨a0,a1,e,h⟩:=Qv hp h1 h2 h3 h4 h5 h6
 cases e
 exact xE h
theorem YZ (b:Nat) (e:l7) (kv:AV) (ks:List aC) (hl:ks.length≤1000000) : Gf 58 (Di 30 b e kv ks) (fun x=>decide (x.1∈ks)) (.fn (.func 47) [] [.ptr b 0]) (az 46):=by
 intro M base v xs Q h1 h2 h3 h4 hQ
 obtain ⟨a0,a1,e,h⟩:=Ps (TE:=58) (aap (UB hl)) (UB hl) h1 h2 h3 h4 hQ
 cases e
 exact wV h
theorem Az:Dy 114 (az 41):=by
 intro M b qs S' k Q h1 h2 h3 h4
 obtain ⟨a0,e,h⟩:=SY new QL h1 h2 h3 h4
 cases e
 exact Gs h
theorem aaI:OB 75 114 (az 11):=by
 intro M Q h1
 obtain ⟨e,h⟩:=Tv new h1
 exact PL h
theorem apply:Oo 75 114 (az 14):=by
 intro M t k B ps es e kv ks Q h1 h2 h3 h4 h5 h6 h7 h8
 obtain ⟨a0,a1,e,h⟩:=RU (TE:=30) (TD:=27) (TN:=58) (cv:=az) dM Az lg dB clone UF YZ within VI h1 h2 h3 h4 h5 h6 h7 h8
 cases e
 exact Cy h
theorem entries:Gj 75 114 58 (az 18):=by
 intro M t B ps es Q h1 h2 h3
 obtain ⟨a0,e,h⟩:=NY clone h1 h2 h3
 cases e
 exact zL h
theorem own:WU 30 (az 19):=by
 intro M v l Q h1 h2 h3
 obtain ⟨a0,e,h⟩:=Xq Vq h1 h2 h3
 cases e
 exact Qp h
end Go.Proofs.YtlhlnchhaminjaaGreat.cshare
set_option maxRecDepth 100000
set_option linter.unusedVariables false
set_option linter.unusedSimpArgs false
namespace Go.Proofs.YtlhlnchhaminjaaGreat.cshare
open Go Go.Ab Go.Ab.aC Go.Ab.Crw Go.RowKit
theorem FL {α:Type} {R:nZ α} {M:RM} {S:Nat→Prop} {p:α→Prop} : ∀ (n:Nat) (ds:List AV),ds.length=n * R.size→(∀ i,i<n→∃ a,p a∧R.rel M ((ds.drop (i * R.size)).take R.size) a S) →
  ∃ xs:List α,xs.length=n∧eT R M S ds xs∧∀ x∈xs,p x
 | 0,ds,hl,_=>by
   have:ds=[]:=by simpa using hl
   subst this
   exact ⟨[],rfl,.nil,by simp⟩
 | n + 1,ds,hl,h=>by
   obtain ⟨a,pa,ha⟩:=h 0 (by omega)
   simp only [Nat.zero_mul,List.drop_zero] at ha
   have hl' : (ds.drop R.size).length=n * R.size:=by rw [List.length_drop,hl,Nat.succ_mul]; omega
   obtain ⟨xs,h1,h2,h3⟩:=FL n (ds.drop R.size) hl' fun i hi=>by
    obtain ⟨b,pb,hb⟩:=h (i + 1) (by omega)
    refine ⟨b,pb, ?_⟩
    rw [List.drop_drop,show R.size + i * R.size=(i + 1) * R.size by rw [Nat.succ_mul,Nat.add_comm]]
    exact hb
   refine ⟨a :: xs,by simp [h1], ?_,fun x hx=>?_⟩
   ·have:=eT.cons ha h2
    rwa [List.take_append_drop] at this
   ·rcases List.mem_cons.1 hx with rfl | hx
    ·exact pa
    ·exact h3 x hx
theorem cells3:Tryz.prog.cellsOf 3=1:=by kernel_rfl
theorem ZU:Tryz.prog.cellsOf 9=1:=by kernel_rfl
theorem YW:Tryz.prog.cellsOf 25=1:=by kernel_rfl
theorem ET:Tryz.prog.cellsOf 27=2:=by kernel_rfl
theorem YU:Tryz.prog.cellsOf 28=1:=by kernel_rfl
theorem JS:Tryz.prog.cellsOf 30=7:=by kernel_rfl
theorem Ox {M:RM} {cs:List AV} (h:Fits Tryz.prog M 27 cs) : ∃ d:aC,cs=dz.cells d∧d.2<2 ^ 64:=by
 obtain ⟨hl,hf⟩:=h.IA Tryz.underlying27
 rw [ET] at hl
 match cs,hl with
 | [a,b],_ =>
   have f0:Fits Tryz.prog M 3 (([a,b].drop 0).take (Tryz.prog.cellsOf 3)):=hf 0 _ rfl
   have f1:Fits Tryz.prog M 25 (([a,b].drop 1).take (Tryz.prog.cellsOf 25)):=hf 1 _ rfl
   rw [cells3] at f0
   rw [YW] at f1
   obtain ⟨n,e,_,_⟩:=f0.ED Tryz.underlying3
   obtain ⟨m,e',g1,g2⟩:=f1.ED Tryz.underlying25
   have g1:(0:Int)≤m:=g1
   have g2:m≤(18446744073709551615:Int):=g2
   obtain ⟨k,rfl⟩:=Int.eq_ofNat_of_zero_le g1
   cases e; cases e'
   exact ⟨(n,k),rfl,by show k<2 ^ 64; omega⟩
theorem V6 {M:RM} {cs:List AV} (h:Fits Tryz.prog M 28 cs) : ∃ v,∃ l:List aC,cs=[v]∧Sl dz M v l∧∀ d∈l,d.2<2 ^ 64:=by
 obtain ⟨v,n,ds,rfl,hs,hb,he⟩:=h.DR Tryz.underlying28 (by rw [ET]; decide)
 rw [ET] at hs he
 obtain ⟨xs,rfl,rfl,hp⟩:=Ef (size:=2) dz.cells (fun d:aC=>d.2<2 ^ 64) (fun _=>rfl) n ds hs.length fun i hi=>by
  obtain ⟨d,e,h⟩:=Ox (he i hi)
  exact ⟨d,h,e⟩
 exact ⟨v,xs,rfl,hs,hp⟩
def Xt (x:Ev) : Prop:=x.1.1.2<2 ^ 64∧x.1.2.2.1.length≤reachBytes∧x.1.2.2.2.1.length≤reachBytes∧x.1.2.2.2.2.length≤reachBytes∧∀ d∈x.2,d.2<2 ^ 64
theorem YH {M:RM} {cs:List AV} (h:Fits Tryz.prog M 30 cs) : ∃ e kv ks,cs=eU e kv∧Sl dz M kv ks∧Xt (e,ks):=by
 obtain ⟨hl,hf⟩:=h.IA Tryz.underlying30
 rw [JS] at hl
 match cs,hl with
 | [a,b,c,d,e,f,g],_ =>
   have f0:Fits Tryz.prog M 27 (([a,b,c,d,e,f,g].drop 0).take (Tryz.prog.cellsOf 27)):=hf 0 _ rfl
   have f1:Fits Tryz.prog M 3 (([a,b,c,d,e,f,g].drop 2).take (Tryz.prog.cellsOf 3)):=hf 1 _ rfl
   have f2:Fits Tryz.prog M 9 (([a,b,c,d,e,f,g].drop 3).take (Tryz.prog.cellsOf 9)):=hf 2 _ rfl
   have f3:Fits Tryz.prog M 9 (([a,b,c,d,e,f,g].drop 4).take (Tryz.prog.cellsOf 9)):=hf 3 _ rfl
   have f4:Fits Tryz.prog M 9 (([a,b,c,d,e,f,g].drop 5).take (Tryz.prog.cellsOf 9)):=hf 4 _ rfl
   have f5:Fits Tryz.prog M 28 (([a,b,c,d,e,f,g].drop 6).take (Tryz.prog.cellsOf 28)):=hf 5 _ rfl
   rw [ET] at f0
   rw [cells3] at f1
   rw [ZU] at f2 f3 f4
   rw [YU] at f5
   obtain ⟨dd,e0,g0⟩:=Ox f0
   obtain ⟨op,e1,_,_⟩:=f1.ED Tryz.underlying3
   obtain ⟨s2,e2,g2⟩:=f2.KJ Tryz.underlying9
   obtain ⟨s3,e3,g3⟩:=f3.KJ Tryz.underlying9
   obtain ⟨s4,e4,g4⟩:=f4.KJ Tryz.underlying9
   obtain ⟨kv,ks,e5,hk,g5⟩:=V6 f5
   cases e0; cases e1; cases e2; cases e3; cases e4; cases e5
   exact ⟨(dd,(op,(s2,(s3,s4)))),_,ks,rfl,hk,g0,g2,g3,g4,g5⟩
theorem W9 {M:RM} {cs:List AV} (h:Fits Tryz.prog M 43 cs) : ∃ v,∃ l:List Ev,cs=[v]∧fT kW M v l (fun d=>d<M.next)∧∀ x∈l,Xt x:=by
 obtain ⟨v,n,ds,rfl,hs,hb,he⟩:=h.DR Tryz.underlying43 (by rw [JS]; decide)
 rw [JS] at hs he
 obtain ⟨xs,hn,hr,hp⟩:=FL (R:=kW) (M:=M) (S:=fun d=>d<M.next) (p:=Xt) n ds hs.length fun i hi=>by
  obtain ⟨e,kv,ks,e1,hk,ho⟩:=YH (he i hi)
  refine ⟨(e,ks),ho, ?_⟩
  show kW.rel M ((ds.drop (i * 7)).take 7) (e,ks) _
  rw [e1]
  exact PI hk (fun d hd=>aM.lt hk d hd)
 subst hn
 exact ⟨v,xs,rfl,⟨ds,hs,fun d hd=>hs.lt d hd,hr⟩,hp⟩
end Go.Proofs.YtlhlnchhaminjaaGreat.cshare
set_option maxRecDepth 100000
set_option linter.unusedVariables false
set_option linter.unusedSimpArgs false
namespace Go.Proofs.YtlhlnchhaminjaaGreat.cshare
open Go Go.Ab Go.Ab.aC Go.Ab.Crw Go.RowKit
theorem abR:WW fE (dZ (az) fE):=Zc compare
theorem YB:Gv fE (az 95):=by
 intro M v xs x Q h1 h2 h3 h4
 obtain ⟨a0,a1,a2,e,h⟩:=NC (TN:=58) (cv:=az) abR h1 h2 h3 h4
 cases e
 exact rG h
theorem acb:S9 75 114 (az 72):=by
 intro M t B ps es x Q h1 h2 h3 h4
 obtain ⟨a0,a1,e,h⟩:=VL (TN:=58) YB h1 h2 h3 h4
 cases e
 exact Fb h
theorem seen:Ti 75 114 (az 32):=by
 intro M t k B ps es Q h1 h2 h3 h4
 obtain ⟨a0,e,h⟩:=Vv Az h1 h2 h3 h4
 cases e
 exact DL h
theorem aaa:EF 75 114 (az 25):=by
 intro M t k B ps es Q h1 h2 h3 h4 h5
 obtain ⟨a0,e,h⟩:=P8 Az clone h1 h2 h3 h4 h5
 cases e
 exact El h
theorem aah:JP 75 114 (az 24):=by
 intro M t u k l B C ps qs es fs Q h1 h2 h3 h4 h5 h6 h7 h8
 obtain ⟨a0,a1,e,h⟩:=P9 VI within h1 h2 h3 h4 h5 h6 h7 h8
 cases e
 exact Dz h
theorem state:Io 75 114 (az 21):=by
 intro M v l n m back Q h1 h2 h3 h4 h5
 obtain ⟨a0,a1,a2,e,h⟩:=Tm aaI apply h1 h2 h3 h4 h5
 cases e
 exact Mi h
theorem aaj:wu 75 114 (az 26):=by
 intro M t u k l B C ps qs es fs Q h1 h2 h3 h4 h5 h6 h7 h8 h9 h10 h11 h12 h13 h14
 obtain ⟨a0,a1,e,h⟩:=Qe (TN:=58) acb dB UF QL h1 h2 h3 h4 h5 h6 h7 h8 h9 h10 h11 h12 h13 h14
 cases e
 exact CU h
end Go.Proofs.YtlhlnchhaminjaaGreat.cshare
set_option maxRecDepth 100000
set_option linter.unusedVariables false
set_option linter.unusedSimpArgs false
namespace Go.Proofs.YtlhlnchhaminjaaGreat.cshare
open Go Go.Ab Go.Ab.aC Go.Ab.Crw Go.RowKit
theorem YA:HY 75 114 58 (az 36):=by
 intro M t B ps es s Q h1 h2 h3
 obtain ⟨a0,a1,e,h⟩:=NL h1 h2 h3
 cases e
 exact zT h
theorem aaZ:N7 58 (az 31):=by
 intro M v es s f Q h1 h2 h3
 obtain ⟨a0,a1,a2,e,h⟩:=TH h1 h2 h3
 cases e
 exact Un h
end Go.Proofs.YtlhlnchhaminjaaGreat.cshare
set_option maxRecDepth 100000
set_option linter.unusedVariables false
set_option linter.unusedSimpArgs false
namespace Go.Proofs.YtlhlnchhaminjaaGreat.cshare
open Go Go.Ab Go.Ab.aC Go.Ab.Crw Go.RowKit
theorem before:JZ (az 120):=by
 intro M x y Q h1
 obtain ⟨a0,a1,e,h⟩:=Qk (TN:=58) QI h1
 cases e
 exact Kj h
theorem Xb:Dv 58 (az 92):=by
 intro M base v l x Q h1 h2 h3 h4
 obtain ⟨a0,a1,e,h⟩:=Mk before h1 h2 h3 h4
 cases e
 exact Ga h
theorem RY:yL 58 (az 66):=by
 intro M v l S Q h1 h2 h3 h4 h5
 obtain ⟨a0,e,h⟩:=IY U2 Xb h1 h2 h3 h4 h5
 cases e
 exact Ja h
theorem Pb:CF 75 114 9 (az 35):=by
 intro M t B ps es Q h1 h2 h3
 obtain ⟨a0,e,h⟩:=Mr (TN:=58) h1 h2 h3
 cases e
 exact yA h
theorem PZ:xe 9 (az 67):=by
 intro M v es Q h1 h2 h3
 obtain ⟨a0,e,h⟩:=GK h1 h2 h3
 cases e
 exact He h
theorem YO:ug (az 68):=by
 intro M v w xs ys Q h1 h2 h3 h4
 obtain ⟨a0,a1,e,h⟩:=Pw h1 h2 h3 h4
 cases e
 exact OI h
theorem Y5:Hu 27 (az 70):=by
 intro M v l S Q h1 h2 h3 h4
 obtain ⟨a0,e,h⟩:=PD ZJ h1 h2 h3 h4
 cases e
 exact Nv h
theorem YL:GY 5 (az 64):=by
 intro M v L s Q h1 h2 h3
 obtain ⟨a0,a1,e,h⟩:=MN uint h1 h2 h3
 cases e
 exact NR h
theorem YY:Hq 5 (az 75):=by
 intro M s Q h1 h2
 obtain ⟨a0,e,h⟩:=Oc Ko h1 h2
 cases e
 exact Fe h
theorem ML:xP 75 114 5 (az 22):=by
 intro M t B ps es Q h1 h2 h3 h4 h5
 obtain ⟨a0,e,h⟩:=Me (TN:=58) encode YL uint h1 h2 h3 h4 h5
 cases e
 exact Bh h
theorem WZ:Dh 5 (az 71):=by
 intro M u v w es Q h1 h2 h3 h4 h5 h6 h7 h8
 obtain ⟨a0,a1,e,h⟩:=Mj LK YY Ko h1 h2 h3 h4 h5 h6 h7 h8
 cases e
 exact Cz h
theorem acw:Vu 75 114 (az 23):=by
 intro M t B v l S ps es Q h1 h2 h3 h4 h5
 obtain ⟨a0,a1,e,h⟩:=QX RY entries Pb PZ YO seen encode Y5 LK ML WZ YA aaZ h1 h2 h3 h4 h5
 cases e
 exact Oy h
end Go.Proofs.YtlhlnchhaminjaaGreat.cshare
namespace Go.Proofs.YtlhlnchhaminjaaGreat
open Go Go.Ab Go.RowKit
def ext:Ext := { split:=[107],overl:=[137],noesc:=[] }
theorem xK:Ck Tryz.prog ext where
 ng:=O0 (by kernel_rfl)
 overl:=by
  intro f hf
  have:f=137:=by
   unfold ext at hf
   simp only [has] at hf
   split at hf
   ·rename_i h; exact (Nat.eq_of_beq_eq_true h).symm
   ·cases hf
  subst this
  exact ⟨Tryz.f137,109,25,1,4,by kernel_rfl,by kernel_rfl,by kernel_rfl,by kernel_rfl,by kernel_rfl,by kernel_rfl⟩
 noesc:=fun f hf=>by cases hf
theorem mixed:Tryz.prog.follows .mixedOrders=true:=by kernel_rfl
def Iv:World→Prop:=fun _=>True
end Go.Proofs.YtlhlnchhaminjaaGreat
namespace Go.Proofs.YtlhlnchhaminjaaGreat
open Go Go.Ab Go.RowKit
def c0:AV:=.ptr 0 0
def c1:AV:=.sc (.slice none 0 0)
def c2:Option AV:=some c1
def c3:Tree AV:=.node .leaf c2 .leaf
def c4:Tree AV:=.node c3 c2 .leaf
def c5:Tree AV:=.node c4 c2 c3
def c6:Tree AV:=.node c3 c2 c3
def c7:Tree AV:=.node c5 c2 c6
def c8:Tree AV:=.node c6 c2 c6
def c9:Tree AV:=.node c7 c2 c8
def c10:AV:=.sc (.int .u64 0)
def c11:Option AV:=some c10
def c12:Tree AV:=.node .leaf c11 .leaf
def c13:Tree AV:=.node c12 c11 c12
def c14:Tree AV:=.node c13 c11 c13
def c15:Tree AV:=.node c14 c11 c14
def c16:cB:=.row 32 (.node c9 c11 c15) [] false 114 0
def c17:AV:=.ptr 4 0
def c18:AV:=.ptr 28 0
def c19:AV:=.ptr 1 0
def c20:AV:=.sc (.string ⟨⟨ [99] ⟩⟩)
def c21:AV:=.sc (.string ⟨⟨ [102,110] ⟩⟩)
def DF:Option AV:=some c21
def c23:Tree AV:=.node .leaf DF .leaf
def c24:AV:=.sc (.int .u64 1)
def fD:Option AV:=some c24
def c26:Tree AV:=.node c23 fD .leaf
def ji:AV:=.sc (.int .i64 0)
def c28:Option AV:=some ji
def U0:AV:=.sc (.string ⟨⟨ [65,110,110] ⟩⟩)
def c30:Option AV:=some U0
def c31:Tree AV:=.node .leaf c30 .leaf
def c32:Option AV:=some c20
def qY:cB:=.row 5 (.node c26 c28 (.node c31 c32 .leaf)) [] true 58 0
def c34:Tree AV:=.node .leaf fD .leaf
def ku:cB:=.row 1 c34 [] true 25 0
def yn:Option AV:=some (.emp 10)
def c37:AV:=.slc 14 0 1 (.op 5)
def Yg:AV:=.slc 21 0 1 (.op 5)
def c39:AV:=.ptr 5 0
def c40:cB:=.row 1 c23 [] false 9 0
def Yl:AV:=.sc (.int .i64 (-1))
def sS:AV:=.tup []
def IW:AV:=.slc 26 0 1 (.op 2)
def wF:AV:=.agg [ji,c24]
def jy:AV:=.sc (.bool true)
def c46:AV:=.sc (.int .i64 1)
def zR:AV:=.agg [c46,c24]
def LX:AV:=.sc (.string ⟨⟨ [65,110,110,97] ⟩⟩)
def c52:AV:=.ptr 4 2
def c53:AV:=.ptr 9 0
def zu:cB:=.row 32 (.node c9 fD c15) [] false 114 0
def c55:AV:=.ptr 28 2
def pY:AV:=.sc (.bool false)
def Zu:AV:=.slc 12 0 1 (.op 5)
def QM:AV:=.agg [ji,c24,c20,c21,U0]
def c59:AV:=.ptr 18 0
def qR:AV:=.ptr 65 0
def c61:AV:=.ptr 65 2
def sU:Option AV:=some (.emp 104)
def c64:AV:=.slc 62 0 1 (.op 5)
def mE:Tree AV:=.node c14 fD c14
def ZM:AV:=.slc 109 0 2 (.op 5)
def LB:Tree AV:=.node .leaf c32 .leaf
def FN:Option AV:=some LX
def UN:Tree AV:=.node .leaf FN .leaf
def c70:Option AV:=some c46
def UR:cB:=.row 10 (.node (.node (.node LB DF .leaf) fD (.node UN c70 .leaf)) c28 (.node (.node c23 c30 .leaf) c32 c34)) [] true 58 0
def c72:AV:=.slc 111 0 2 (.op 5)
def Ib:AV:=.ptr 63 0
def nW:AV:=.sc (.string ⟨⟨ [] ⟩⟩)
def c75:Option AV:=some nW
def c76:Tree AV:=.node .leaf c75 .leaf
def Jk:AV:=.slc 111 0 1 (.op 5)
def Yu:AV:=.slc 118 0 1 (.op 5)
def mU:cB:=.row 5 (.node c26 c70 (.node UN c32 .leaf)) [] true 58 0
def c80:AV:=.agg [c46,c24,c20,c21,LX]
def c81:AV:=.ptr 115 0
def ZI:cB:=.row 1 c76 [] false 9 0
def Q9:AV:=.slc 123 0 1 (.op 2)
def xS:cB:=.row 2 (.node c34 c70 .leaf) [] true 27 0
def c85:AV:=.sc (.int .u64 2)
def Zn:AV:=.agg [ji,c85]
def c87:AV:=.slc 127 0 1 (.op 1)
def c88:AV:=.sc (.int .u8 0)
def qU:Option AV:=some c88
def Cn:Tree AV:=.node .leaf qU .leaf
def c91:cB:=.row 1 Cn [] true 5 0
def c92:AV:=.slc 131 0 2 (.op 1)
def c93:Option AV:=some (.sc (.int .u8 2))
def Rt:Tree AV:=.node .leaf c93 .leaf
def c95:cB:=.row 2 (.node Rt qU .leaf) [] true 5 0
def c96:AV:=.slc 135 0 3 (.op 1)
def ZL:cB:=.row 3 (.node Rt qU Rt) [] true 5 0
def c98:AV:=.slc 140 0 5 (.op 1)
def xY:Option AV:=some (.sc (.int .u8 1))
def pK:Tree AV:=.node .leaf xY .leaf
def acy:Tree AV:=.node pK c93 .leaf
def WL:Option AV:=some (.sc (.int .u8 99))
def WK:Tree AV:=.node .leaf WL .leaf
def aao:Tree AV:=.node WK c93 .leaf
def c105:cB:=.row 5 (.node acy qU aao) [] true 5 0
def Wo:AV:=.slc 144 0 6 (.op 1)
def c107:Tree AV:=.node pK c93 Cn
def Te:cB:=.row 6 (.node c107 qU aao) [] true 5 0
def c109:AV:=.slc 148 0 7 (.op 1)
def Z5:Tree AV:=.node WK c93 Cn
def X0:cB:=.row 7 (.node c107 qU Z5) [] true 5 0
def abQ:AV:=.slc 152 0 8 (.op 1)
def Du:Tree AV:=.node pK xY .leaf
def aai:Tree AV:=.node Du c93 Cn
def ZP:cB:=.row 8 (.node aai qU Z5) [] true 5 0
def c116:AV:=.slc 157 0 9 (.op 1)
def c117:Tree AV:=.node (.node pK WL .leaf) c93 Cn
def Z6:cB:=.row 9 (.node aai qU c117) [] true 5 0
def c119:AV:=.slc 161 0 10 (.op 1)
def WR:Tree AV:=.node pK qU .leaf
def O9:cB:=.row 10 (.node (.node Du c93 WR) qU c117) [] true 5 0
def acf:AV:=.slc 164 0 10 (.op 1)
def abD:AV:=.slc 192 0 1 (.op 1)
def c124:cB:=.row 1 Rt [] true 5 0
def abN:AV:=.slc 197 0 2 (.op 1)
def KZ:cB:=.row 2 (.node Cn c93 .leaf) [] true 5 0
def c127:AV:=.slc 201 0 3 (.op 1)
def Jz:cB:=.row 3 (.node Cn c93 pK) [] true 5 0
def abZ:AV:=.slc 205 0 4 (.op 1)
def c130:Tree AV:=.node Cn qU .leaf
def c131:cB:=.row 4 (.node c130 c93 pK) [] true 5 0
def acg:AV:=.slc 210 0 5 (.op 1)
def KC:cB:=.row 5 (.node c130 c93 Du) [] true 5 0
def acH:AV:=.slc 214 0 6 (.op 1)
def Xo:Tree AV:=.node Cn qU pK
def JA:cB:=.row 6 (.node Xo c93 Du) [] true 5 0
def Zz:AV:=.slc 221 0 8 (.op 1)
def c138:Tree AV:=.node Cn xY .leaf
def c139:Tree AV:=.node c138 c93 pK
def Hm:Option AV:=some (.sc (.int .u8 7))
def c141:cB:=.row 8 (.node c139 Hm Xo) [] true 5 0
def ab3:AV:=.slc 225 0 9 (.op 1)
def c143:Tree AV:=.node WR qU pK
def Ua:cB:=.row 9 (.node c139 Hm c143) [] true 5 0
def c145:AV:=.slc 230 0 10 (.op 1)
def c146:Tree AV:=.node c138 c93 Du
def Sj:cB:=.row 10 (.node c146 Hm c143) [] true 5 0
def c148:AV:=.slc 234 0 11 (.op 1)
def ack:Tree AV:=.node WR qU Du
def JG:cB:=.row 11 (.node c146 Hm ack) [] true 5 0
def WN:AV:=.slc 239 0 13 (.op 1)
def c152:Tree AV:=.node Cn xY pK
def ab1:Tree AV:=.node c152 c93 Du
def c154:Tree AV:=.node pK qU WK
def acp:Tree AV:=.node c154 qU Du
def c156:cB:=.row 13 (.node ab1 Hm acp) [] true 5 0
def c157:AV:=.slc 244 0 16 (.op 1)
def ZK:Tree AV:=.node .leaf (some (.sc (.int .u8 110))) .leaf
def c159:Tree AV:=.node ZK qU .leaf
def c160:Tree AV:=.node pK xY Rt
def acj:Tree AV:=.node (.node c159 xY pK) c93 c160
def c162:Tree AV:=.node .leaf (some (.sc (.int .u8 102))) .leaf
def ab6:Tree AV:=.node pK xY c162
def c164:cB:=.row 16 (.node acj Hm (.node c154 qU ab6)) [] true 5 0
def OT:AV:=.slc 249 0 21 (.op 1)
def aav:Tree AV:=.node ZK xY .leaf
def c167:Tree AV:=.node (.node .leaf (some (.sc (.int .u8 4))) .leaf) xY .leaf
def c168:cB:=.row 21 (.node (.node (.node c159 xY aav) c93 (.node (.node (.node .leaf (some (.sc (.int .u8 65))) .leaf) xY .leaf) xY Rt)) Hm (.node (.node c167 qU (.node (.node .leaf (some (.sc (.int .u8 97))) .leaf) WL .leaf)) qU (.node aav xY c162))) [] true 5 0
def abF:AV:=.slc 251 0 21 (.op 1)
def Xr:AV:=.slc 253 0 7 (.op 1)
def c171:cB:=.row 7 (.node Xo c93 (.node pK xY Cn)) [] true 5 0
def abG:AV:=.slc 255 0 7 (.op 1)
def c173:AV:=.ptr 165 0
def TZ:Tree AV:=.node .leaf (some pY) .leaf
def ZH:AV:=.ptr 252 0
def abV:AV:=.ptr 256 0
def ZA:Tree AV:=.node .leaf c70 .leaf
def c182:Tree AV:=.node c34 c2 .leaf
def c183:AV:=.ptr 257 0
def fO:cB:=.row 32 (.node c9 fD mE) [] false 114 0
def ZV:cB:=.row 6 (.node (.node ZA fD c3) c28 c182) [] true 133 0
def ach:AV:=.slc 279 0 1 (.op 1)
def abO:AV:=.slc 284 0 2 (.op 1)
def acC:AV:=.slc 288 0 3 (.op 1)
def abM:AV:=.slc 292 0 4 (.op 1)
def ab4:AV:=.slc 297 0 5 (.op 1)
def abC:AV:=.slc 301 0 6 (.op 1)
def abH:AV:=.slc 333 0 1 (.op 1)
def c193:AV:=.slc 338 0 2 (.op 1)
def c194:AV:=.slc 342 0 3 (.op 1)
def aco:AV:=.slc 346 0 4 (.op 1)
def c196:AV:=.slc 351 0 5 (.op 1)
def abP:AV:=.slc 355 0 6 (.op 1)
def c198:AV:=.slc 362 0 8 (.op 1)
def acn:AV:=.slc 366 0 9 (.op 1)
def acd:AV:=.slc 371 0 10 (.op 1)
def c201:AV:=.slc 375 0 11 (.op 1)
def XI:AV:=.slc 380 0 13 (.op 1)
def c203:AV:=.slc 385 0 16 (.op 1)
def aal:AV:=.slc 305 0 7 (.op 1)
def XV:AV:=.slc 390 0 21 (.op 1)
def abB:AV:=.ptr 257 2
def c208:AV:=.ptr 391 0
def yJ:AV:=.ptr 429 0
def c210:AV:=.ptr 429 2
def HV:AV:=.slc 311 0 1 (.op 5)
def c212:AV:=.slc 426 0 1 (.op 5)
def c213:Option AV:=some c85
def Dr:Option AV:=some (.emp 468)
def JF:AV:=.ptr 480 0
def aan:AV:=.slc 471 0 1 (.op 5)
def ZX:AV:=.slc 473 0 1 (.op 5)
def c218:AV:=.slc 475 0 1 (.op 5)
def Ph:AV:=.slc 471 0 0 (.op 5)
def aau:AV:=.slc 476 0 0 (.ex 0)
def Hg:AV:=.sc (.int .i64 2)
def c222:AV:=.agg [ji,c85,Hg,c20,nW,nW,(.slc 168 0 1 (.op 2))]
def O8:AV:=.agg [ji,c85,Hg,c20,nW,nW,Q9]
def yM:AV:=.ptr 306 0
def wM:Option AV:=some c183
def c226:AV:=.agg [ji,c10,ji,nW,nW,nW,c1]
def c228:Tree AV:=.node .leaf (some jy) .leaf
def c229:AV:=.ptr 8 0
def ZO:AV:=.slc 7 0 0 (.ex 0)
def abL:Option AV:=some ZO
def c232:AV:=.sc (.int .i64 14)
def c233:AV:=.agg [ji,c24,c46,c20,c21,U0,c1]
def c234:AV:=.agg [c46,c24,c46,c20,c21,LX,IW]
def acG:AV:=.slc 218 0 7 (.op 1)
def abW:AV:=.sc (.int .i64 4)
def ab9:AV:=.slc 359 0 7 (.op 1)
def aam:AV:=.tup [c233,ji]
def ZY:AV:=.tup [c234,ji]
def aaf:AV:=.tup [O8,ji]
def Zv:AV:=.ptr 3 0
def XN:AV:=.ptr 64 0
def Zo:AV:=.ptr 428 0
def Z8:AV:=.sc (.string ⟨⟨ [2,0,1,0,1,1,0] ⟩⟩)
def ZZ:AV:=.tup [(.sc (.pointer none)),c232]
def Wz:AV:=.tup [jy,ji]
def B1:Table:=[(38,[{args:=[],ans:=.rows 0 c0 [(0,c16)] 1},{args:=[],ans:=.rows 4 c17 [(4,c16)] 5},{args:=[],ans:=.rows 28 c18 [(28,c16)] 29}]),(36,[{args:=[c19,c20],fp:=[(0,c16),(1,(.row 2 (.node c3 (some c0) .leaf) [] false 75 0))],nx:=6,ans:=.val c1},{args:=[c19,c20],fp:=[(14,qY),(10,ku),(4,(.row 32 (.node (.node c7 yn c8) fD c15) [] false 114 0)),(1,(.row 2 (.node (.node .leaf (some c37) .leaf) (some c17) .leaf) [] false 75 0))],ans:=.rows 19 Yg [(21,qY)] 22}]),(79,[{args:=[c1,(.fn (.func 80) [] [])],nx:=7,ans:=.val sS},{args:=[IW,(.fn (.func 80) [] [])],fp:=[(26,(.row 2 (.node c34 c28 .leaf) [] true 27 0))],nx:=27,ans:=.val sS}]),(58,[{args:=[wF],nx:=8,ans:=.val jy},{args:=[zR],nx:=28,ans:=.val jy}]),(59,[{args:=[c20,c21,U0],nx:=8,ans:=.val jy},{args:=[c20,c21,LX],nx:=28,ans:=.val jy}]),(97,[{args:=[c1],nx:=7,ans:=.val sS}]),(98,[{args:=[c1],nx:=7,ans:=.val c1}]),(77,[{args:=[c0,c24],fp:=[(0,c16)],nx:=12,ans:=.val pY}]),(43,[{args:=[c1],nx:=12,ans:=.val c1},{args:=[Zu],fp:=[(12,qY)],ans:=.rows 13 c37 [(14,qY)] 15}]),(82,[{args:=[Zu,ji,c46,c46,(.fn (.func 45) [] [])],fp:=[(12,qY)],nx:=13,ans:=.val sS}]),(87,[{args:=[c1,wF],nx:=17,ans:=.val Yl}]),(33,[{args:=[c17,c0],fp:=[(0,c16),(10,ku),(4,(.row 32 (.node (.node c7 yn c8) fD c15) [] false 114 0))],nx:=15,ans:=.val pY}]),(78,[{args:=[QM,c59],fp:=[(18,c40)],nx:=22,ans:=.val pY}])]
theorem b1:jq Tryz.prog ext [] 100000 200 B1=true:=by kernel_rfl
def T1:Table:=B1++[]
theorem t1:iT Tryz.prog Iv T1:=iT.nil.add xK mixed b1
def B2:Table:=[ (43,[{args:=[c37],fp:=[(14,qY)],ans:=.rows 61 c64 [(62,qY)] 63}]),(38,[{args:=[],ans:=.rows 65 qR [(65,c16)] 66}]),(81,[{args:=[qR,c24],fp:=[(104,ku),(65,(.row 32 (.node (.node (.node c5 sU c6) c2 c8) fD mE) [] false 114 0))],nx:=107,ans:=.val jy}]),(77,[{args:=[c55,c24],fp:=[(28,zu)],nx:=107,ans:=.val pY}])]
theorem b2:jq Tryz.prog ext T1 100000 200 B2=true:=by kernel_rfl
def T2:Table:=B2++T1
theorem t2:iT Tryz.prog Iv T2:=t1.add xK mixed b2
def B3:Table:=[(43,[{args:=[c64],fp:=[(62,qY)],ans:=.rows 107 (.slc 108 0 1 (.op 5)) [(108,qY)] 109},{args:=[ZM],fp:=[(109,UR)],ans:=.rows 110 c72 [(111,UR)] 112}]),(85,[{args:=[c20,c20],nx:=112,ans:=.val ji},{args:=[c21,c21],nx:=112,ans:=.val ji}]),(80,[{args:=[zR,wF],nx:=112,ans:=.val c46}]),(87,[{args:=[IW,wF],fp:=[(26,(.row 2 (.node c34 c28 .leaf) [] true 27 0))],nx:=114,ans:=.val ji},{args:=[IW,zR],fp:=[(26,(.row 2 (.node c34 c28 .leaf) [] true 27 0))],nx:=115,ans:=.val Yl}]),(33,[{args:=[qR,c18],fp:=[(28,zu),(104,ku),(65,(.row 32 (.node (.node (.node c5 sU c6) c2 c8) fD mE) [] false 114 0))],nx:=113,ans:=.val pY}]),(36,[{args:=[Ib,c20],fp:=[(111,(.row 10 (.node (.node (.node c76 DF .leaf) fD (.node c76 c28 .leaf)) c70 (.node (.node c76 FN .leaf) c32 c12)) [] true 58 0)),(104,ku),(65,(.row 32 (.node (.node (.node c5 sU c6) c2 c8) fD mE) [] false 114 0)),(63,(.row 2 (.node (.node .leaf (some Jk) .leaf) (some qR) .leaf) [] false 75 0))],ans:=.rows 116 Yu [(118,mU)] 119}]),(78,[{args:=[c80,c81],fp:=[(115,ZI)],nx:=119,ans:=.val pY}]),(79,[{args:=[Q9,(.fn (.func 80) [] [])],fp:=[(123,xS)],nx:=124,ans:=.val sS}]),(58,[{args:=[Zn],nx:=125,ans:=.val jy}]),(59,[{args:=[c20,nW,nW],nx:=125,ans:=.val jy}]),(88,[{args:=[c1],nx:=126,ans:=.val c1},{args:=[c87],fp:=[(127,c91)],ans:=.rows 128 (.slc 129 0 1 (.op 1)) [(129,c91)] 130},{args:=[c92],fp:=[(131,c95)],ans:=.rows 132 (.slc 133 0 2 (.op 1)) [(133,c95)] 134},{args:=[c96],fp:=[(135,ZL)],ans:=.rows 136 (.slc 137 0 3 (.op 1)) [(137,ZL)] 138},{args:=[c98],fp:=[(140,c105)],ans:=.rows 141 (.slc 142 0 5 (.op 1)) [(142,c105)] 143},{args:=[Wo],fp:=[(144,Te)],ans:=.rows 145 (.slc 146 0 6 (.op 1)) [(146,Te)] 147},{args:=[c109],fp:=[(148,X0)],ans:=.rows 149 (.slc 150 0 7 (.op 1)) [(150,X0)] 151},{args:=[abQ],fp:=[(152,ZP)],ans:=.rows 154 (.slc 155 0 8 (.op 1)) [(155,ZP)] 156},{args:=[c116],fp:=[(157,Z6)],ans:=.rows 158 (.slc 159 0 9 (.op 1)) [(159,Z6)] 160},{args:=[c119],fp:=[(161,O9)],ans:=.rows 163 acf [(164,O9)] 165},{args:=[abD],fp:=[(192,c124)],ans:=.rows 194 (.slc 195 0 1 (.op 1)) [(195,c124)] 196},{args:=[abN],fp:=[(197,KZ)],ans:=.rows 198 (.slc 199 0 2 (.op 1)) [(199,KZ)] 200},{args:=[c127],fp:=[(201,Jz)],ans:=.rows 202 (.slc 203 0 3 (.op 1)) [(203,Jz)] 204},{args:=[abZ],fp:=[(205,c131)],ans:=.rows 207 (.slc 208 0 4 (.op 1)) [(208,c131)] 209},{args:=[acg],fp:=[(210,KC)],ans:=.rows 211 (.slc 212 0 5 (.op 1)) [(212,KC)] 213},{args:=[acH],fp:=[(214,JA)],ans:=.rows 215 (.slc 216 0 6 (.op 1)) [(216,JA)] 217},{args:=[Zz],fp:=[(221,c141)],ans:=.rows 222 (.slc 223 0 8 (.op 1)) [(223,c141)] 224},{args:=[ab3],fp:=[(225,Ua)],ans:=.rows 227 (.slc 228 0 9 (.op 1)) [(228,Ua)] 229},{args:=[c145],fp:=[(230,Sj)],ans:=.rows 231 (.slc 232 0 10 (.op 1)) [(232,Sj)] 233},{args:=[c148],fp:=[(234,JG)],ans:=.rows 235 (.slc 236 0 11 (.op 1)) [(236,JG)] 237},{args:=[WN],fp:=[(239,c156)],ans:=.rows 240 (.slc 241 0 13 (.op 1)) [(241,c156)] 242},{args:=[c157],fp:=[(244,c164)],ans:=.rows 245 (.slc 246 0 16 (.op 1)) [(246,c164)] 247},{args:=[OT],fp:=[(249,c168)],ans:=.rows 250 abF [(251,c168)] 252},{args:=[Xr],fp:=[(253,c171)],ans:=.rows 254 abG [(255,c171)] 256}]),(54,[{args:=[c173],fp:=[(164,O9),(165,(.row 2 (.node TZ (some (.emp 164)) .leaf) [] false 127 0))],nx:=169,ans:=.val ji},{args:=[abV],fp:=[(255,c171),(256,(.row 2 (.node TZ (some (.emp 255)) .leaf) [] false 127 0))],nx:=258,ans:=.val ji}]),(91,[{args:=[qR],fp:=[(104,ku),(65,(.row 32 (.node (.node (.node c5 sU c6) c2 c8) fD mE) [] false 114 0))],ans:=.rows 170 (.slc 176 0 2 (.op 3)) [(174,(.row 0 .leaf [c10] false 25 0)),(176,(.row 6 (.node (.node ZA fD (.node .leaf (some (.slc 174 0 0 (.ex 0))) .leaf)) c28 c182) [] true 133 0))] 191},{args:=[c183],fp:=[(257,fO)],ans:=.rows 258 (.slc 263 0 2 (.op 3)) [(263,ZV)] 278}]),(38,[{args:=[],ans:=.rows 257 c183 [(257,c16)] 258}]),(90,[{args:=[c183],fp:=[(257,fO)],nx:=258,ans:=.val jy}])]
theorem b3:jq Tryz.prog ext T2 100000 200 B3=true:=by kernel_rfl
def T3:Table:=B3++T2
theorem t3:iT Tryz.prog Iv T3:=t2.add xK mixed b3
def B4:Table:=[(88,[{args:=[ach],fp:=[(279,c124)],ans:=.rows 281 (.slc 282 0 1 (.op 1)) [(282,c124)] 283},{args:=[abO],fp:=[(284,KZ)],ans:=.rows 285 (.slc 286 0 2 (.op 1)) [(286,KZ)] 287},{args:=[acC],fp:=[(288,Jz)],ans:=.rows 289 (.slc 290 0 3 (.op 1)) [(290,Jz)] 291},{args:=[abM],fp:=[(292,c131)],ans:=.rows 294 (.slc 295 0 4 (.op 1)) [(295,c131)] 296},{args:=[ab4],fp:=[(297,KC)],ans:=.rows 298 (.slc 299 0 5 (.op 1)) [(299,KC)] 300},{args:=[abC],fp:=[(301,JA)],ans:=.rows 302 (.slc 303 0 6 (.op 1)) [(303,JA)] 304},{args:=[abH],fp:=[(333,c124)],ans:=.rows 335 (.slc 336 0 1 (.op 1)) [(336,c124)] 337},{args:=[c193],fp:=[(338,KZ)],ans:=.rows 339 (.slc 340 0 2 (.op 1)) [(340,KZ)] 341},{args:=[c194],fp:=[(342,Jz)],ans:=.rows 343 (.slc 344 0 3 (.op 1)) [(344,Jz)] 345},{args:=[aco],fp:=[(346,c131)],ans:=.rows 348 (.slc 349 0 4 (.op 1)) [(349,c131)] 350},{args:=[c196],fp:=[(351,KC)],ans:=.rows 352 (.slc 353 0 5 (.op 1)) [(353,KC)] 354},{args:=[abP],fp:=[(355,JA)],ans:=.rows 356 (.slc 357 0 6 (.op 1)) [(357,JA)] 358},{args:=[c198],fp:=[(362,c141)],ans:=.rows 363 (.slc 364 0 8 (.op 1)) [(364,c141)] 365},{args:=[acn],fp:=[(366,Ua)],ans:=.rows 368 (.slc 369 0 9 (.op 1)) [(369,Ua)] 370},{args:=[acd],fp:=[(371,Sj)],ans:=.rows 372 (.slc 373 0 10 (.op 1)) [(373,Sj)] 374},{args:=[c201],fp:=[(375,JG)],ans:=.rows 376 (.slc 377 0 11 (.op 1)) [(377,JG)] 378},{args:=[XI],fp:=[(380,c156)],ans:=.rows 381 (.slc 382 0 13 (.op 1)) [(382,c156)] 383},{args:=[c203],fp:=[(385,c164)],ans:=.rows 386 (.slc 387 0 16 (.op 1)) [(387,c164)] 388}]),(57,[{args:=[aal,Xr],fp:=[(253,c171),(305,c171)],nx:=306,ans:=.val jy},{args:=[XV,OT],fp:=[(249,c168),(390,c168)],nx:=391,ans:=.val jy}]),(56,[{args:=[ZH],fp:=[(251,c168),(252,(.row 2 (.node TZ (some (.emp 251)) .leaf) [] false 127 0))],nx:=310,ans:=.val ji}]),(77,[{args:=[abB,c24],fp:=[(257,fO)],nx:=311,ans:=.val jy}]),(54,[{args:=[ZH],fp:=[(251,c168),(252,(.row 2 (.node TZ (some (.emp 251)) .leaf) [] false 127 0))],nx:=312,ans:=.val ji}]),(91,[{args:=[c183],fp:=[(257,fO)],ans:=.rows 312 (.slc 317 0 2 (.op 3)) [(317,ZV)] 332}]),(38,[{args:=[],ans:=.rows 391 c208 [(391,c16)] 392}])]
theorem b4:jq Tryz.prog ext T3 100000 200 B4=true:=by kernel_rfl
def T4:Table:=B4++T3
theorem t4:iT Tryz.prog Iv T4:=t3.add xK mixed b4
def B5:Table:=[ (49,[{args:=[HV,Jk],fp:=[(111,(.row 10 (.node (.node (.node c76 DF .leaf) fD (.node c76 c28 .leaf)) c70 (.node (.node c76 FN .leaf) c32 c12)) [] true 58 0)),(311,mU)],nx:=424,ans:=.val jy}]),(33,[{args:=[c183,qR],fp:=[(104,ku),(65,(.row 32 (.node (.node (.node c5 sU c6) c2 c8) fD mE) [] false 114 0)),(257,fO)],nx:=424,ans:=.val jy},{args:=[qR,c183],fp:=[(257,fO),(104,ku),(65,(.row 32 (.node (.node (.node c5 sU c6) c2 c8) fD mE) [] false 114 0))],nx:=424,ans:=.val jy}]),(80,[{args:=[wF,zR],nx:=429,ans:=.val Yl}]),(77,[{args:=[c52,c24],fp:=[(10,ku),(4,(.row 32 (.node (.node c7 yn c8) fD c15) [] false 114 0))],nx:=426,ans:=.val pY},{args:=[c183,c24],fp:=[(257,fO)],nx:=429,ans:=.val jy}]),(82,[{args:=[c212,ji,c46,c46,(.fn (.func 45) [] [])],fp:=[(426,mU)],nx:=428,ans:=.val sS}]),(38,[{args:=[],ans:=.rows 429 yJ [(429,c16)] 430}])]
theorem b5:jq Tryz.prog ext T4 100000 200 B5=true:=by kernel_rfl
def T5:Table:=B5++T4
theorem t5:iT Tryz.prog Iv T5:=t4.add xK mixed b5
def B6:Table:=[ (81,[{args:=[c210,c24],fp:=[(468,(.row 1 (.node .leaf c213 .leaf) [] true 25 0)),(429,(.row 32 (.node (.node c7 Dr c8) c213 mE) [] false 114 0))],nx:=471,ans:=.val jy}]),(43,[{args:=[Jk],fp:=[(111,(.row 10 (.node (.node (.node c76 DF .leaf) fD (.node c76 c28 .leaf)) c70 (.node (.node c76 FN .leaf) c32 c12)) [] true 58 0))],ans:=.rows 470 aan [(471,mU)] 472},{args:=[c212],fp:=[(426,mU)],ans:=.rows 472 ZX [(473,mU)] 474},{args:=[c212],fp:=[(426,mU)],ans:=.rows 474 c218 [(475,mU)] 476},{args:=[Ph],fp:=[(471,(.row 5 (.node (.node c76 c11 .leaf) c28 (.node c76 c75 .leaf)) [] true 58 0))],ans:=.rows 476 aau [(476,(.row 0 .leaf [ji,c10,nW,nW,nW] false 58 0))] 477}]),(87,[{args:=[Q9,zR],fp:=[(123,xS)],nx:=474,ans:=.val ji}]),(33,[{args:=[yJ,qR],fp:=[(104,ku),(65,(.row 32 (.node (.node (.node c5 sU c6) c2 c8) fD mE) [] false 114 0)),(468,(.row 1 (.node .leaf c213 .leaf) [] true 25 0)),(429,(.row 32 (.node (.node c7 Dr c8) c213 mE) [] false 114 0))],nx:=472,ans:=.val pY}]),(34,[{args:=[c222,O8],fp:=[(123,xS),(168,xS)],nx:=472,ans:=.val jy}]),(35,[{args:=[Ib],fp:=[(471,(.row 5 (.node (.node c76 c11 .leaf) c28 (.node c76 c75 .leaf)) [] true 58 0)),(468,(.row 1 (.node .leaf c213 .leaf) [] true 25 0)),(429,(.row 32 (.node (.node c7 Dr c8) c213 mE) [] false 114 0)),(63,(.row 2 (.node (.node .leaf (some Ph) .leaf) (some yJ) .leaf) [] false 75 0))],nx:=477,ans:=.val c1}]),(36,[{args:=[yM,c20],fp:=[(426,mU),(257,fO),(306,(.row 2 (.node (.node .leaf (some c212) .leaf) wM .leaf) [] false 75 0))],ans:=.rows 477 (.slc 479 0 1 (.op 5)) [(479,mU)] 480}]),(38,[{args:=[],ans:=.rows 480 JF [(480,c16)] 481},{args:=[],ans:=.rows 9 c53 [(9,c16)] 10}]),(77,[{args:=[JF,c24],fp:=[(480,fO)],nx:=514,ans:=.val jy}]),(13,[{args:=[c19,wF,c20,nW,(.sc (.string ⟨⟨ [120] ⟩⟩))],fp:=[(0,c16),(1,(.row 2 (.node c3 (some c0) .leaf) [] false 75 0))],nx:=3,ans:=.val (.tup [c226,c46])}]),(58,[{args:=[(.agg [ji,c10])],nx:=6,ans:=.val pY}]),(54,[{args:=[c39],fp:=[(5,(.row 2 (.node c228 c2 .leaf) [] false 127 0))],nx:=7,ans:=.val c232},{args:=[c229],fp:=[(7,(.row 0 .leaf [c88] false 5 0)),(8,(.row 2 (.node c228 abL .leaf) [] false 127 0))],nx:=10,ans:=.val c232}]),(88,[{args:=[(.slc 6 0 0 (.op 1))],fp:=[(6,(.row 0 .leaf [] true 5 0))],ans:=.rows 7 ZO [(7,(.row 0 .leaf [c88] false 5 0))] 8}])]
theorem b6:jq Tryz.prog ext T5 100000 200 B6=true:=by kernel_rfl
def T6:Table:=B6++T5
theorem t6:iT Tryz.prog Iv T6:=t5.add xK mixed b6
def B7:Table:=[(11,[{args:=[],ans:=.rows 0 c19 [(0,c16),(1,(.row 2 (.node c3 (some c0) .leaf) [] false 75 0))] 2}]),(46,[{args:=[c1,(.fn (.func 78) [] [c39])],fp:=[(5,c40)],nx:=6,ans:=.val c1}]),(17,[{args:=[c233],nx:=7,ans:=.val jy},{args:=[c234],fp:=[(26,(.row 2 (.node c34 c28 .leaf) [] true 27 0))],nx:=27,ans:=.val jy},{args:=[O8],fp:=[(123,xS)],nx:=124,ans:=.val jy},{args:=[c222],fp:=[(168,xS)],nx:=169,ans:=.val jy}]),(73,[{args:=[c17,c0],fp:=[(0,c16),(4,c16)],nx:=5,ans:=.val sS},{args:=[c18,c17],fp:=[(10,ku),(4,(.row 32 (.node (.node c7 yn c8) fD c15) [] false 114 0)),(28,c16)],ans:=.rows 29 sS [(28,zu)] 61},{args:=[qR,c18],fp:=[(28,zu),(65,c16)],ans:=.rows 66 sS [(65,zu)] 98}]),(81,[{args:=[c17,c24],fp:=[(4,c16)],ans:=.rows 8 jy [(10,ku),(4,(.row 32 (.node (.node c7 yn c8) fD c15) [] false 114 0))] 11},{args:=[c61,c24],fp:=[(65,zu)],ans:=.rows 102 jy [(104,ku),(65,(.row 32 (.node (.node (.node c5 sU c6) c2 c8) fD mE) [] false 114 0))] 105}]),(37,[{args:=[c0,wF],fp:=[(0,c16)],nx:=11,ans:=.val pY},{args:=[c18,zR],fp:=[(28,zu)],nx:=106,ans:=.val pY}]),(44,[{args:=[Zu,(.fn (.func 45) [] [])],fp:=[(12,qY)],nx:=13,ans:=.val sS}]),(48,[{args:=[c1,wF],nx:=16,ans:=.val pY},{args:=[IW,wF],fp:=[(26,(.row 2 (.node c34 c28 .leaf) [] true 27 0))],nx:=113,ans:=.val jy},{args:=[IW,zR],fp:=[(26,(.row 2 (.node c34 c28 .leaf) [] true 27 0))],nx:=114,ans:=.val pY}]),(42,[{args:=[qR,wF],fp:=[(104,ku),(65,(.row 32 (.node (.node (.node c5 sU c6) c2 c8) fD mE) [] false 114 0))],nx:=106,ans:=.val ji}]),(45,[{args:=[c80,QM],nx:=110,ans:=.val c46}])]
theorem b7:jq Tryz.prog ext T6 100000 200 B7=true:=by kernel_rfl
def T7:Table:=B7++T6
theorem t7:iT Tryz.prog Iv T7:=t6.add xK mixed b7
def B8:Table:=[ (37,[{args:=[c183,zR],fp:=[(257,fO)],nx:=310,ans:=.val jy},{args:=[c17,zR],fp:=[(10,ku),(4,(.row 32 (.node (.node c7 yn c8) fD c15) [] false 114 0))],nx:=425,ans:=.val pY},{args:=[c183,wF],fp:=[(257,fO)],nx:=428,ans:=.val jy},{args:=[JF,wF],fp:=[(480,fO)],nx:=513,ans:=.val jy}]),(73,[{args:=[c208,c183],fp:=[(257,fO),(391,c16)],ans:=.rows 392 sS [(391,fO)] 424},{args:=[c183,c17],fp:=[(10,ku),(4,(.row 32 (.node (.node c7 yn c8) fD c15) [] false 114 0)),(257,fO)],nx:=428,ans:=.val sS},{args:=[yJ,qR],fp:=[(104,ku),(65,(.row 32 (.node (.node (.node c5 sU c6) c2 c8) fD mE) [] false 114 0)),(429,c16)],ans:=.rows 430 sS [(429,fO)] 462},{args:=[JF,c183],fp:=[(257,fO),(480,c16)],ans:=.rows 481 sS [(480,fO)] 513}]),(24,[{args:=[yM,Ib],fp:=[(111,(.row 10 (.node (.node (.node c76 DF .leaf) fD (.node c76 c28 .leaf)) c70 (.node (.node c76 FN .leaf) c32 c12)) [] true 58 0)),(104,ku),(65,(.row 32 (.node (.node (.node c5 sU c6) c2 c8) fD mE) [] false 114 0)),(63,(.row 2 (.node (.node .leaf (some Jk) .leaf) (some qR) .leaf) [] false 75 0)),(311,mU),(257,fO),(306,(.row 2 (.node (.node .leaf (some HV) .leaf) wM .leaf) [] false 75 0))],nx:=424,ans:=.val jy}]),(45,[{args:=[QM,c80],nx:=427,ans:=.val Yl}]),(44,[{args:=[c212,(.fn (.func 45) [] [])],fp:=[(426,mU)],nx:=428,ans:=.val sS}]),(81,[{args:=[yJ,c85],fp:=[(429,fO)],ans:=.rows 466 jy [(468,(.row 1 (.node .leaf c213 .leaf) [] true 25 0)),(429,(.row 32 (.node (.node c7 Dr c8) c213 mE) [] false 114 0))] 469}]),(42,[{args:=[yJ,zR],fp:=[(468,(.row 1 (.node .leaf c213 .leaf) [] true 25 0)),(429,(.row 32 (.node (.node c7 Dr c8) c213 mE) [] false 114 0))],nx:=470,ans:=.val ji}]),(48,[{args:=[Q9,zR],fp:=[(123,xS)],nx:=473,ans:=.val jy}]),(18,[{args:=[yM],fp:=[(426,mU),(257,fO),(306,(.row 2 (.node (.node .leaf (some c212) .leaf) wM .leaf) [] false 75 0))],ans:=.rows 472 ZX [(473,mU)] 474},{args:=[yM],fp:=[(426,mU),(257,fO),(306,(.row 2 (.node (.node .leaf (some c212) .leaf) wM .leaf) [] false 75 0))],ans:=.rows 474 c218 [(475,mU)] 476},{args:=[Ib],fp:=[(471,(.row 5 (.node (.node c76 c11 .leaf) c28 (.node c76 c75 .leaf)) [] true 58 0)),(468,(.row 1 (.node .leaf c213 .leaf) [] true 25 0)),(429,(.row 32 (.node (.node c7 Dr c8) c213 mE) [] false 114 0)),(63,(.row 2 (.node (.node .leaf (some Ph) .leaf) (some yJ) .leaf) [] false 75 0))],ans:=.rows 476 aau [(476,(.row 0 .leaf [ji,c10,nW,nW,nW] false 58 0))] 477},{args:=[c19],fp:=[(0,c16),(1,(.row 2 (.node c3 (some c0) .leaf) [] false 75 0))],nx:=5,ans:=.val c1}]),(46,[{args:=[c1,(.fn (.func 78) [] [c17])],fp:=[(4,ZI)],nx:=5,ans:=.val c1}]),(17,[{args:=[c226],nx:=5,ans:=.val pY}])]
theorem b8:jq Tryz.prog ext T7 100000 200 B8=true:=by kernel_rfl
def T8:Table:=B8++T7
theorem t8:iT Tryz.prog Iv T8:=t7.add xK mixed b8
def B9:Table:=[ (40,[{args:=[c233,c1],nx:=5,ans:=.val aam},{args:=[(.agg [c46,c24,c46,c20,c21,LX,c1]),Yg],fp:=[(21,qY)],ans:=.rows 22 ZY [(26,(.row 2 (.node c34 c28 .leaf) [] true 27 0))] 27},{args:=[(.agg [ji,c85,Hg,c20,nW,nW,c1]),Yu],fp:=[(118,mU)],ans:=.rows 119 aaf [(123,xS)] 124}]),(41,[{args:=[c0],fp:=[(0,c16)],ans:=.rows 4 c17 [(4,c16)] 5},{args:=[c17],fp:=[(10,ku),(4,(.row 32 (.node (.node c7 yn c8) fD c15) [] false 114 0))],ans:=.rows 28 c18 [(28,zu)] 61},{args:=[c18],fp:=[(28,zu)],ans:=.rows 65 qR [(65,zu)] 98},{args:=[c183],fp:=[(257,fO)],ans:=.rows 391 c208 [(391,fO)] 424},{args:=[qR],fp:=[(104,ku),(65,(.row 32 (.node (.node (.node c5 sU c6) c2 c8) fD mE) [] false 114 0))],ans:=.rows 429 yJ [(429,fO)] 462},{args:=[c183],fp:=[(257,fO)],ans:=.rows 480 JF [(480,fO)] 513}]),(42,[{args:=[c17,wF],fp:=[(4,c16)],ans:=.rows 7 ji [(10,ku),(4,(.row 32 (.node (.node c7 yn c8) fD c15) [] false 114 0))] 11},{args:=[qR,zR],fp:=[(65,zu)],ans:=.rows 101 ji [(104,ku),(65,(.row 32 (.node (.node (.node c5 sU c6) c2 c8) fD mE) [] false 114 0))] 105},{args:=[yJ,Zn],fp:=[(429,fO)],ans:=.rows 465 ji [(468,(.row 1 (.node .leaf c213 .leaf) [] true 25 0)),(429,(.row 32 (.node (.node c7 Dr c8) c213 mE) [] false 114 0))] 469}]),(47,[{args:=[QM,Zv],fp:=[(3,(.row 7 (.node (.node LB fD c31) c28 (.node c23 c70 c3)) [] false 30 0))],nx:=15,ans:=.val pY},{args:=[QM,XN],fp:=[(26,(.row 2 (.node c34 c28 .leaf) [] true 27 0)),(64,(.row 7 (.node (.node LB fD UN) c70 (.node c23 c70 (.node .leaf (some IW) .leaf))) [] false 30 0))],nx:=112,ans:=.val jy},{args:=[c80,XN],fp:=[(26,(.row 2 (.node c34 c28 .leaf) [] true 27 0)),(64,(.row 7 (.node (.node LB fD UN) c70 (.node c23 c70 (.node .leaf (some IW) .leaf))) [] false 30 0))],nx:=113,ans:=.val pY},{args:=[c80,Zo],fp:=[(123,xS),(428,(.row 7 (.node (.node LB c213 c76) c28 (.node c76 (some Hg) (.node .leaf (some Q9) .leaf))) [] false 30 0))],nx:=472,ans:=.val jy}]),(46,[{args:=[Yg,(.fn (.func 78) [] [c59])],fp:=[(18,c40),(21,qY)],ans:=.rows 22 Yg [] 22},{args:=[Yu,(.fn (.func 78) [] [c81])],fp:=[(115,ZI),(118,mU)],ans:=.rows 119 Yu [] 119}]),(82,[{args:=[ZM,ji,Hg,Hg,(.fn (.func 45) [] [])],fp:=[(109,UR)],nx:=110,ans:=.val sS}]),(64,[{args:=[c96,c20],fp:=[(135,ZL)],ans:=.rows 136 c98 [(140,c105)] 141},{args:=[c98,nW],fp:=[(140,c105)],ans:=.rows 141 Wo [(144,Te)] 145},{args:=[Wo,nW],fp:=[(144,Te)],ans:=.rows 145 c109 [(148,X0)] 149},{args:=[c1,Z8],ans:=.rows 219 Zz [(221,c141)] 222},{args:=[c148,c20],fp:=[(234,JG)],ans:=.rows 235 WN [(239,c156)] 240},{args:=[WN,c21],fp:=[(239,c156)],ans:=.rows 240 c157 [(244,c164)] 245},{args:=[c157,LX],fp:=[(244,c164)],ans:=.rows 245 OT [(249,c168)] 250},{args:=[c1,Z8],ans:=.rows 360 c198 [(362,c141)] 363},{args:=[c201,c20],fp:=[(375,JG)],ans:=.rows 376 XI [(380,c156)] 381},{args:=[XI,c21],fp:=[(380,c156)],ans:=.rows 381 c203 [(385,c164)] 386},{args:=[c203,LX],fp:=[(385,c164)],ans:=.rows 386 XV [(390,c168)] 391}]),(65,[{args:=[qR],fp:=[(104,ku),(65,(.row 32 (.node (.node (.node c5 sU c6) c2 c8) fD mE) [] false 114 0))],ans:=.rows 170 acG [(218,c171)] 219},{args:=[c183],fp:=[(257,fO)],ans:=.rows 258 aal [(305,c171)] 306},{args:=[c183],fp:=[(257,fO)],ans:=.rows 312 ab9 [(359,c171)] 360}]),(72,[{args:=[c19,c80],fp:=[(14,qY),(10,ku),(4,(.row 32 (.node (.node c7 yn c8) fD c15) [] false 114 0)),(1,(.row 2 (.node (.node .leaf (some c37) .leaf) (some c17) .leaf) [] false 75 0))],nx:=425,ans:=.val pY},{args:=[yM,QM],fp:=[(311,mU),(257,fO),(306,(.row 2 (.node (.node .leaf (some HV) .leaf) wM .leaf) [] false 75 0))],nx:=428,ans:=.val pY}]),(14,[{args:=[c19,c226],fp:=[(0,c16),(1,(.row 2 (.node c3 (some c0) .leaf) [] false 75 0))],nx:=4,ans:=.val (.tup [pY,c46])}]),(55,[{args:=[(.slc 6 0 0 (.op 1))],fp:=[(6,(.row 0 .leaf [] true 5 0))],nx:=7,ans:=.val ZZ}])]
theorem b9:jq Tryz.prog ext T8 100000 200 B9=true:=by kernel_rfl
def T9:Table:=B9++T8
theorem t9:iT Tryz.prog Iv T9:=t8.add xK mixed b9
def B10:Table:=[(13,[{args:=[c19,wF,c20,c21,U0],fp:=[(0,c16),(1,(.row 2 (.node c3 (some c0) .leaf) [] false 75 0))],nx:=2,ans:=.val aam}]),(25,[{args:=[c19],fp:=[(14,qY),(10,ku),(4,(.row 32 (.node (.node c7 yn c8) fD c15) [] false 114 0)),(1,(.row 2 (.node (.node .leaf (some c37) .leaf) (some c17) .leaf) [] false 75 0))],ans:=.rows 28 Ib [(62,qY),(28,zu),(63,(.row 2 (.node (.node .leaf (some c64) .leaf) (some c18) .leaf) [] false 75 0))] 64}]),(44,[{args:=[ZM,(.fn (.func 45) [] [])],fp:=[(109,UR)],nx:=110,ans:=.val sS}]),(28,[{args:=[O8],fp:=[(123,xS)],ans:=.rows 125 (.tup [c119,ji]) [(161,O9)] 162}]),(15,[{args:=[c119],fp:=[(161,O9)],ans:=.rows 162 (.tup [c222,ji]) [(168,xS)] 169},{args:=[c1],nx:=4,ans:=.val (.tup [c226,c232])}]),(22,[{args:=[Ib],fp:=[(111,(.row 10 (.node (.node (.node c76 DF .leaf) fD (.node c76 c28 .leaf)) c70 (.node (.node c76 FN .leaf) c32 c12)) [] true 58 0)),(104,ku),(65,(.row 32 (.node (.node (.node c5 sU c6) c2 c8) fD mE) [] false 114 0)),(63,(.row 2 (.node (.node .leaf (some Jk) .leaf) (some qR) .leaf) [] false 75 0))],ans:=.rows 170 OT [(249,c168)] 250},{args:=[yM],fp:=[(311,mU),(257,fO),(306,(.row 2 (.node (.node .leaf (some HV) .leaf) wM .leaf) [] false 75 0))],ans:=.rows 312 XV [(390,c168)] 391}]),(55,[{args:=[Xr],fp:=[(253,c171)],ans:=.rows 254 (.tup [c183,ji]) [(257,fO)] 306}]),(32,[{args:=[yM],fp:=[(311,mU),(257,fO),(306,(.row 2 (.node (.node .leaf (some HV) .leaf) wM .leaf) [] false 75 0))],ans:=.rows 391 c208 [(391,fO)] 424},{args:=[yM],fp:=[(426,mU),(257,fO),(306,(.row 2 (.node (.node .leaf (some c212) .leaf) wM .leaf) [] false 75 0))],ans:=.rows 480 JF [(480,fO)] 513}]),(26,[{args:=[yM,c19],fp:=[(14,qY),(10,ku),(4,(.row 32 (.node (.node c7 yn c8) fD c15) [] false 114 0)),(1,(.row 2 (.node (.node .leaf (some c37) .leaf) (some c17) .leaf) [] false 75 0)),(311,mU),(257,fO),(306,(.row 2 (.node (.node .leaf (some HV) .leaf) wM .leaf) [] false 75 0))],ans:=.rows 424 sS [(426,mU),(306,(.row 2 (.node (.node .leaf (some c212) .leaf) wM .leaf) [] false 75 0))] 428}]),(12,[{args:=[c19,wF,c20,nW],fp:=[(0,c16),(1,(.row 2 (.node c3 (some c0) .leaf) [] false 75 0))],nx:=2,ans:=.val (.tup [c226,abW])}]),(16,[{args:=[c1],nx:=5,ans:=.val ZZ}])]
theorem b10:jq Tryz.prog ext T9 100000 200 B10=true:=by kernel_rfl
def Z0:Table:=B10++T9
theorem bQ:iT Tryz.prog Iv Z0:=t9.add xK mixed b10
def B11:Table:=[(46,[{args:=[c37,(.fn (.func 47) [] [Zv])],fp:=[(3,(.row 7 (.node (.node LB fD c31) c28 (.node c23 c70 c3)) [] false 30 0)),(14,qY)],ans:=.rows 15 c37 [] 15},{args:=[c72,(.fn (.func 47) [] [XN])],fp:=[(26,(.row 2 (.node c34 c28 .leaf) [] true 27 0)),(64,(.row 7 (.node (.node LB fD UN) c70 (.node c23 c70 (.node .leaf (some IW) .leaf))) [] false 30 0)),(111,UR)],ans:=.rows 112 Jk [(111,(.row 10 (.node (.node (.node c76 DF .leaf) fD (.node c76 c28 .leaf)) c70 (.node (.node c76 FN .leaf) c32 c12)) [] true 58 0))] 113},{args:=[aan,(.fn (.func 47) [] [Zo])],fp:=[(123,xS),(428,(.row 7 (.node (.node LB c213 c76) c28 (.node c76 (some Hg) (.node .leaf (some Q9) .leaf))) [] false 30 0)),(471,mU)],ans:=.rows 472 Ph [(471,(.row 5 (.node (.node c76 c11 .leaf) c28 (.node c76 c75 .leaf)) [] true 58 0))] 472}]),(13,[{args:=[c19,zR,c20,c21,LX],fp:=[(14,qY),(10,ku),(4,(.row 32 (.node (.node c7 yn c8) fD c15) [] false 114 0)),(1,(.row 2 (.node (.node .leaf (some c37) .leaf) (some c17) .leaf) [] false 75 0))],ans:=.rows 15 ZY [(26,(.row 2 (.node c34 c28 .leaf) [] true 27 0))] 27}]),(12,[{args:=[Ib,Zn,c20,nW],fp:=[(111,(.row 10 (.node (.node (.node c76 DF .leaf) fD (.node c76 c28 .leaf)) c70 (.node (.node c76 FN .leaf) c32 c12)) [] true 58 0)),(104,ku),(65,(.row 32 (.node (.node (.node c5 sU c6) c2 c8) fD mE) [] false 114 0)),(63,(.row 2 (.node (.node .leaf (some Jk) .leaf) (some qR) .leaf) [] false 75 0))],ans:=.rows 113 aaf [(123,xS)] 124}]),(16,[{args:=[OT],fp:=[(249,c168)],ans:=.rows 250 (.tup [yM,ji]) [(311,mU),(257,fO),(306,(.row 2 (.node (.node .leaf (some HV) .leaf) wM .leaf) [] false 75 0))] 391}])]
theorem b11:jq Tryz.prog ext Z0 100000 200 B11=true:=by kernel_rfl
def Zq:Table:=B11++Z0
theorem bT:iT Tryz.prog Iv Zq:=bQ.add xK mixed b11
def B12:Table:=[(14,[{args:=[c19,c233],fp:=[(0,c16),(1,(.row 2 (.node c3 (some c0) .leaf) [] false 75 0))],ans:=.rows 3 Wz [(14,qY),(10,ku),(4,(.row 32 (.node (.node c7 yn c8) fD c15) [] false 114 0)),(1,(.row 2 (.node (.node .leaf (some c37) .leaf) (some c17) .leaf) [] false 75 0))] 15},{args:=[Ib,c234],fp:=[(26,(.row 2 (.node c34 c28 .leaf) [] true 27 0)),(62,qY),(28,zu),(63,(.row 2 (.node (.node .leaf (some c64) .leaf) (some c18) .leaf) [] false 75 0))],ans:=.rows 64 Wz [(111,(.row 10 (.node (.node (.node c76 DF .leaf) fD (.node c76 c28 .leaf)) c70 (.node (.node c76 FN .leaf) c32 c12)) [] true 58 0)),(104,ku),(65,(.row 32 (.node (.node (.node c5 sU c6) c2 c8) fD mE) [] false 114 0)),(63,(.row 2 (.node (.node .leaf (some Jk) .leaf) (some qR) .leaf) [] false 75 0))] 113},{args:=[Ib,O8],fp:=[(123,xS),(111,(.row 10 (.node (.node (.node c76 DF .leaf) fD (.node c76 c28 .leaf)) c70 (.node (.node c76 FN .leaf) c32 c12)) [] true 58 0)),(104,ku),(65,(.row 32 (.node (.node (.node c5 sU c6) c2 c8) fD mE) [] false 114 0)),(63,(.row 2 (.node (.node .leaf (some Jk) .leaf) (some qR) .leaf) [] false 75 0))],ans:=.rows 428 Wz [(471,(.row 5 (.node (.node c76 c11 .leaf) c28 (.node c76 c75 .leaf)) [] true 58 0)),(468,(.row 1 (.node .leaf c213 .leaf) [] true 25 0)),(429,(.row 32 (.node (.node c7 Dr c8) c213 mE) [] false 114 0)),(63,(.row 2 (.node (.node .leaf (some Ph) .leaf) (some yJ) .leaf) [] false 75 0))] 472}])]
theorem b12:jq Tryz.prog ext Zq 100000 200 B12=true:=by kernel_rfl
def ZB:Table:=B12++Zq
theorem t12:iT Tryz.prog Iv ZB:=bT.add xK mixed b12
def B13:Table:=[(10,[{args:=[],nx:=0,ans:=.val jy}])]
theorem b13:jq Tryz.prog ext ZB 100000 200 B13=true:=by kernel_rfl
def T13:Table:=B13++ZB
theorem bf:iT Tryz.prog Iv T13:=t12.add xK mixed b13
theorem t:iT Tryz.prog Iv T13:=bf
abbrev T:Table:=T13
end Go.Proofs.YtlhlnchhaminjaaGreat
namespace Go.Proofs.YtlhlnchhaminjaaGreat
open Go Go.Ab Go.RowKit
def BA:Table:=[(10,[{ args:=[],ans:=.val (.sc (.bool true)) }])]
theorem bA:jq Tryz.prog ext T 100000 200 BA=true:=by kernel_rfl
def TA:Table:=BA++T
theorem tA:iT Tryz.prog Iv TA:=t.add xK mixed bA
end Go.Proofs.YtlhlnchhaminjaaGreat
set_option maxRecDepth 100000
set_option linter.unusedVariables false
set_option linter.unusedSimpArgs false
namespace Go.Proofs.YtlhlnchhaminjaaGreat.crdtJoins
open Go Go.Ab Go.ChangeShapes Go.WideShapes Go.ChangeAt Go.RowKit
theorem own:ownKnob Tryz.prog.godebug=none:=by kernel_rfl
open Go.Ab.aC Go.Ab.Crw Go.Proofs.YtlhlnchhaminjaaGreat.cshare
def base (w:World) : Base:=⟨w.heap.size,fun _=>True,fun _ _ _ _=>trivial⟩
theorem awake {B:Base} : Pn B (ig Tryz.prog 10):=by
 intro M Q hM hQ
 exact Tj tA ⟨Tryz.f10,_,Tryz.func10,rfl⟩ (fun A=>by kernel_rfl) (fun _ _=>trivial) hQ
theorem fits_ints {M:RM} {cs:List AV} (h:Fits Tryz.prog M 51 cs) : ∃ v,∃ l:List Int,cs=[v]∧Sl Go.Ab.Crw.INT M v l:=by
 obtain ⟨v,n,ds,rfl,hs,hb,he⟩:=h.DR Tryz.underlying51 (by rw [cells3]; decide)
 rw [cells3] at hs he
 obtain ⟨xs,rfl,rfl,hp⟩:=Ef (size:=1) Go.Ab.Crw.INT.cells (fun _=>True) (fun _=>rfl) n ds hs.length fun i hi=>by
  obtain ⟨n,e,_,_⟩:=(he i hi).ED Tryz.underlying3
  exact ⟨n,trivial,e⟩
 exact ⟨v,xs,rfl,hs⟩
theorem walk (w:World) (v0 v1:Value) (h0:rO Tryz.prog (RM.old (base w) w) 43 (wT w.heap.size v0)) (h1:rO Tryz.prog (RM.old (base w) w) 51 (wT w.heap.size v1)) :
  Calls Tryz.prog 5 #[v0,v1] w fun e w'=>e=.returned (.bool true)∧Below w.heap.size w w':=by
 obtain ⟨u0,l,e0,hl,_⟩:=W9 (h0.one (by kernel_rfl))
 obtain ⟨u1,who,e1,hw⟩:=fits_ints (h1.one (by kernel_rfl))
 refine ig.close (base:=base w) rfl trivial ?_
 simp only [List.map_cons,List.map_nil]
 rw [show wT (base w).n v0=u0 from (List.cons.inj e0).1,show wT (base w).n v1=u1 from (List.cons.inj e1).1]
 obtain ⟨a0,a1,e,h⟩:=JD (TA:=52) (TE:=30) (M:=RM.old (base w) w) (Q:=fun v _=>v=Bo true) (awake (B:=base w)) cshare.own cshare.state cshare.aaa cshare.aaj cshare.acw cshare.aah cshare.ML rfl hl hw (fun M'=>rfl)
 cases e
 exact Ff h
set_option maxRecDepth 100000 in
theorem lifted (os:Os) (started:os.Started) (H:Type) (enc:TypeId × Value→H) :
  ReturnsInHanded {} Tryz.checked os 5 .any (Rows.crdtJoinsSpec.pre6 enc Tryz.prog Tryz.f5 Rows.crdtJoinsRow.domain false) (Rows.crdtJoinsSpec.post enc Tryz.prog Tryz.f5 false true false false):=by
 refine returnsInHanded_of_change_sized (C:=Tryz.checked) own started (by kernel_rfl) Tryz.func5
  (ChangeSpec.witness6 (enc:=enc) (C:=Tryz.checked) false ⟨#[],#[.slice none 0 0,.slice none 0 0],[]⟩ 8 (by kernel_rfl) (by kernel_rfl) (by kernel_rfl) (by kernel_rfl)) ?_
 intro W b0 args ds gs before hval hW hcnd hwt _
 have hW':=hW
 obtain ⟨p,q,hA,hV,rfl,hfz,hnd⟩:=hW
 rw [Tryz.params5] at hA hwt
 obtain ⟨rfl,rfl⟩:=trodVars_none hV
 have hfit:=PE (base:=base W) rfl hA (fun j t v hj hv=>hval j t v (by rw [Tryz.params5]; simpa using hj) (by simpa using hv)) (fun y hy=>by
  have hwt2:(DataW.weightsEach Tryz.prog [43,51] (ds++[])).all (· ≤ reachBytes)=true:=hwt
  have:=List.all_eq_true.1 hwt2 y (by rw [List.append_nil]; exact hy)
  simpa using this)
 simp only [List.append_nil] at hW'
 have hlt:∀ x∈p,x.block<W.heap.size:=fun x hx=>hW'.lt x hx
 obtain ⟨v0,v1,d0,d1,p0,p1,rfl,rfl,rfl,h0,h1⟩:=trodAll_two hA
 refine (walk W v0 v1 (hfit 0 _ _ rfl rfl) (hfit 1 _ _ rfl rfl)).mono fun e W' ⟨he,hg⟩=>?_
 subst he
 exact ⟨_,rfl,L9 (pa:=_) (pv:=[]) hW' (fun _ _ _=>(trodAll_cons_mk (shut_bool Tryz.underlying4 _) trodAll_mk0)) (fun sp hsp=>by
   rw [Tryz.params5]
   exact Cb (by kernel_rfl) hg (fun t ht=>by
    have ht:t=43∨t=51:=by simpa using ht
    rcases ht with rfl | rfl <;> exact ⟨by kernel_rfl,of_decide_eq_true (by kernel_rfl)⟩) hA hlt hsp) (fun _ _=>rfl) (by simp)
  hg (ok_one (by kernel_rfl) rfl (okWide_bool_mk Tryz.underlying4 _))⟩
theorem over:Rows.crdtJoinsRow.holds Tryz.pinned (OpenSpec.ofChange Rows.crdtJoinsSpec) :=
 OpenClaim.holds_of_wide 5 Tryz.f5 rfl rfl rfl rfl rfl rfl rfl ⟨rfl,rfl,rfl,rfl,rfl⟩ rfl rfl rfl rfl rfl (by kernel_rfl) Tryz.func5 (by kernel_rfl)
  (of_decide_eq_true (by kernel_rfl)) (by unfold Func.isWrapper; first | (rw [if_pos (by decide +kernel)]; kernel_rfl) | (rw [if_neg (by decide +kernel)]; exact ⟨rfl,rfl⟩))
  (fun os started H enc _=>lifted os started H enc)
theorem proved:Rows.CrdtJoinsSaid :=
 over
end Go.Proofs.YtlhlnchhaminjaaGreat.crdtJoins
