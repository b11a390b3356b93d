/- 'ViewSame' returns true for all arguments: states that are the same show the same; an event more on one field changes that contact alone. No condition. By an AI agent. -/
import Derived.Test.YtngfappichkflaaGreatSam7
import Derived.KernelRfl
import Derived.Test.YtngfappichkflaaGreatProg
import Derived.Shelf.LaysM
import Derived.Shelf.Strings.Search2
import Derived.Test.YtngfappichkflaaGreatRows
import Derived.HandedShaped
import Derived.Carry
import Derived.WalkKit
import Derived.ProofKit
import Derived.OpenShut
set_option maxRecDepth 100000
set_option linter.unusedVariables false
set_option linter.unusedSimpArgs false
namespace Go.Proofs.YtngfappichkflaaGreat
open Go Go.Ab
abbrev ax := @iG Tryz.prog
theorem pok:KV Tryz.prog:=⟨QK (by kernel_rfl),by kernel_rfl⟩
theorem aY {f:FuncId} {fn:Func} {args:List AV} {M:RM} {Q:ak} {B:Prop} (h:B) (hfn:Tryz.prog.funcs[f]?=some fn:=by kernel_rfl) (e:B=Oj Tryz.prog fn args M Q:=by kernel_rfl) : ax f args M Q:=Zy pok hfn (e▸h)
variable {a0 a1 a2 a3 a4 a5 a6 a7:AV} {M:RM} {Q:ak}
theorem Ca (h:Go.Ab.Vw.sO (ax 9) (ax 17) 27 (ax 28) (ax 10) (ax 29) (ax 30) (ax 13) (ax 31) 30 (ax 12) (ax 18) (ax 20) a0 a1 a2 a3 a4 M Q) : ax 8 [a0,a1,a2,a3,a4] M Q:=aY (fn:=Tryz.f8) h
theorem I8 (h:Go.Ab.Vw.DX (ax 29) (ax 30) a0 M Q) : ax 10 [a0] M Q:=aY (fn:=Tryz.f10) h
theorem IU (h:Go.Ab.Vw.EK (ax 32) a0 a1 M Q) : ax 12 [a0,a1] M Q:=aY (fn:=Tryz.f12) h
theorem Ie (h:Go.Ab.Vw.BD (ax 26) 44 (ax 32) 64 (ax 33) 34 a0 M Q) : ax 13 [a0] M Q:=aY (fn:=Tryz.f13) h
theorem Fh (h:Go.Ab.Vw.xQ 40 (ax 37) a0 M Q) : ax 14 [a0] M Q:=aY (fn:=Tryz.f14) h
theorem H8 (h:Go.Ab.Vw.Tz 30 (ax 41) a0 M Q) : ax 17 [a0] M Q:=aY (fn:=Tryz.f17) h
theorem LU (h:Go.Ab.Crw.Gt 40 (ax 28) (ax 42) a0 M Q) : ax 18 [a0] M Q:=aY (fn:=Tryz.f18) h
theorem IW (h:Go.Ab.Crw.DY 9 a0 M Q) : ax 20 [a0] M Q:=aY (fn:=Tryz.f20) h
theorem MM (h:Go.Ab.ay.Jo 27 a0 a1 M Q) : ax 25 [a0,a1] M Q:=aY (fn:=Tryz.f25) h
theorem Cs (h:Go.Ab.Crw.sS 40 9 a0 M Q) : ax 26 [a0] M Q:=aY (fn:=Tryz.f26) h
theorem TM (h:Go.Ab.ay.XW 27 a0 a1 M Q) : ax 28 [a0,a1] M Q:=aY (fn:=Tryz.f28) h
theorem Uz (h:Go.Ab.Crw.WS (ax 47) 91  M Q) : ax 29 [] M Q:=aY (fn:=Tryz.f29) h
theorem Fb (h:Go.Ab.Crw.xW 30 (ax 48) (ax 49) 27 (ax 50) (ax 51) 40 (ax 46) (ax 52) 53 55 (ax 54) (ax 57) (ax 58) a0 a1 M Q) : ax 30 [a0,a1] M Q:=aY (fn:=Tryz.f30) h
theorem CY (h:Go.Ab.Crw.uW 27 30 (ax 60) (ax 59) a0 a1 a2 a3 a4 M Q) : ax 31 [a0,a1,a2,a3,a4] M Q:=aY (fn:=Tryz.f31) h
theorem Fp (h:Go.Ab.Vw.xU (ax 61) (ax 40) (ax 14) 40 64 a0 a1 M Q) : ax 32 [a0,a1] M Q:=aY (fn:=Tryz.f32) h
theorem qB (h:Go.Ab.Vw.iX (ax 63) (ax 62) a0 a1 M Q) : ax 33 [a0,a1] M Q:=aY (fn:=Tryz.f33) h
theorem Ff (h:Go.Ab.Vw.xY 44 (ax 36) 3 (ax 35) a0 a1 M Q) : ax 34 [a0,a1] M Q:=aY (fn:=Tryz.f34) h
theorem NY (h:Go.Ab.Crw.JU a0 M Q) : ax 35 [a0] M Q:=aY (fn:=Tryz.f35) h
theorem Co (h:Go.Ab.Crw.sI (ax 64) a0 a1 M Q) : ax 36 [a0,a1] M Q:=aY (fn:=Tryz.f36) h
theorem SB (h:Go.Ab.ay.Qu 27 a0 a1 M Q) : ax 37 [a0,a1] M Q:=aY (fn:=Tryz.f37) h
theorem Fu (h:Go.Ab.Vw.xP 40 47 a0 M Q) : ax 40 [a0] M Q:=aY (fn:=Tryz.f40) h
theorem H9 (h:Go.Ab.Crw.BU 30 (ax 66) (ax 25) a0 M Q) : ax 41 [a0] M Q:=aY (fn:=Tryz.f41) h
theorem Jg (h:Go.Ab.Crw.DD 40 (ax 67) a0 a1 M Q) : ax 42 [a0,a1] M Q:=aY (fn:=Tryz.f42) h
theorem Fq (h:Go.Ab.Crw.xL 40 a0 M Q) : ax 46 [a0] M Q:=aY (fn:=Tryz.f46) h
theorem PU (h:Go.Ab.ay.Mm 116  M Q) : ax 47 [] M Q:=aY (fn:=Tryz.f47) h
theorem Rh (h:Go.Ab.Crw.SF 30 (ax 69) (ax 70) 27 (ax 37) a0 M Q) : ax 48 [a0] M Q:=aY (fn:=Tryz.f48) h
theorem J9 (h:Go.Ab.ay.EL (ax 47) (ax 71) a0 M Q) : ax 49 [a0] M Q:=aY (fn:=Tryz.f49) h
theorem Ls (h:Go.Ab.ay.Gg 27 (ax 69) (ax 72) a0 a1 M Q) : ax 50 [a0,a1] M Q:=aY (fn:=Tryz.f50) h
theorem Kv (h:Go.Ab.ay.Gz 27 (ax 69) (ax 73) a0 a1 M Q) : ax 51 [a0,a1] M Q:=aY (fn:=Tryz.f51) h
theorem BM (h:Go.Ab.Crw.sM (ax 63) (ax 74) a0 a1 M Q) : ax 52 [a0,a1] M Q:=aY (fn:=Tryz.f52) h
theorem Kw (h:Go.Ab.Crw.Gv 40 (ax 36) (ax 75) 3 (ax 35) a0 a1 M Q) : ax 53 [a0,a1] M Q:=aY (fn:=Tryz.f53) h
theorem pY (h:Go.Ab.Crw.pV (ax 76) 40 (ax) a0 a1 M Q) : ax 54 [a0,a1] M Q:=aY (fn:=Tryz.f54) h
theorem CR (h:Go.Ab.Crw.uC 40 (ax 56) a0 a1 M Q) : ax 55 [a0,a1] M Q:=aY (fn:=Tryz.f55) h
theorem Em (h:Go.Ab.Crw.vQ 27 (ax 77) a0 a1 M Q) : ax 56 [a0,a1] M Q:=aY (fn:=Tryz.f56) h
theorem Gl (h:Go.Ab.ay.zU 113 (ax 73) a0 a1 M Q) : ax 57 [a0,a1] M Q:=aY (fn:=Tryz.f57) h
theorem Fv (h:Go.Ab.Crw.xS a0 a1 M Q) : ax 58 [a0,a1] M Q:=aY (fn:=Tryz.f58) h
theorem SV (h:Go.Ab.Crw.Tw 30 40 27 (ax 78) 75 (ax 48) (ax 56) a0 a1 M Q) : ax 59 [a0,a1] M Q:=aY (fn:=Tryz.f59) h
theorem JO (h:Go.Ab.Crw.EB 9 (ax 61) 79 (ax 54) a0 a1 a2 M Q) : ax 60 [a0,a1,a2] M Q:=aY (fn:=Tryz.f60) h
theorem Cx (h:Go.Ab.Crw.uq 40 a0 a1 M Q) : ax 61 [a0,a1] M Q:=aY (fn:=Tryz.f61) h
theorem lq (h:Go.Ab.Vw.fw (ax 80) (ax 81) (ax 82) (ax 83) (ax 84) (ax 85) (ax) (ax 86) (ax 87) (ax 62) a0 a1 a2 a3 a4 M Q) : ax 62 [a0,a1,a2,a3,a4] M Q:=aY (fn:=Tryz.f62) h
theorem CS (h:Go.Ab.ay.uU (ax 88) (ax 89) a0 M Q) : ax 63 [a0] M Q:=aY (fn:=Tryz.f63) h
theorem DR (h:Go.Ab.Crw.wB a0 M Q) : ax 64 [a0] M Q:=aY (fn:=Tryz.f64) h
theorem MB (h:Go.Ab.ay.JN 27 a0 M Q) : ax 66 [a0] M Q:=aY (fn:=Tryz.f66) h
theorem Nf (h:Go.Ab.Crw.JA 40 (ax 25) a0 a1 M Q) : ax 67 [a0,a1] M Q:=aY (fn:=Tryz.f67) h
theorem Ny (h:Go.Ab.ay.IY 27 a0 M Q) : ax 69 [a0] M Q:=aY (fn:=Tryz.f69) h
theorem Ic (h:Go.Ab.Crw.BS a0 a1 a2 M Q) : ax 70 [a0,a1,a2] M Q:=aY (fn:=Tryz.f70) h
theorem Ke (h:Go.Ab.ay.Ef 113 111 (ax 91) (ax 92) (ax 93) (ax 94) a0 a1 M Q) : ax 71 [a0,a1] M Q:=aY (fn:=Tryz.f71) h
theorem I4 (h:Go.Ab.ay.EI (ax 95) 25 113 (ax 97) (ax 96) (ax 94) a0 a1 M Q) : ax 72 [a0,a1] M Q:=aY (fn:=Tryz.f72) h
theorem JM (h:Go.Ab.ay.Eg (ax 95) a0 a1 M Q) : ax 73 [a0,a1] M Q:=aY (fn:=Tryz.f73) h
theorem nR (h:Go.Ab.Crw.gW (ax 98) (ax 99) (ax 100) (ax 101) (ax 102) (ax 103) (ax) (ax 104) (ax 105) (ax 74) a0 a1 a2 a3 a4 M Q) : ax 74 [a0,a1,a2,a3,a4] M Q:=aY (fn:=Tryz.f74) h
theorem PP (h:Go.Ab.Crw.NG 27 (ax 106) (ax 107) 3 (ax 35) a0 a1 M Q) : ax 75 [a0,a1] M Q:=aY (fn:=Tryz.f75) h
theorem AJ (h:Go.Ab.Crw.q9 (ax) a0 a1 M Q) : ax 76 [a0,a1] M Q:=aY (fn:=Tryz.f76) h
theorem Ib (h:Go.Ab.Crw.Cg 27 a0 a1 M Q) : ax 77 [a0,a1] M Q:=aY (fn:=Tryz.f77) h
theorem Dz (h:Go.Ab.Crw.vF (ax 63) (ax 108) a0 a1 M Q) : ax 78 [a0,a1] M Q:=aY (fn:=Tryz.f78) h
theorem Gp (h:Go.Ab.Crw.zZ 40 a0 a1 M Q) : ax 79 [a0,a1] M Q:=aY (fn:=Tryz.f79) h
theorem jv (h:Go.Ab.Vw.dX (ax) a0 a1 a2 a3 M Q) : ax 80 [a0,a1,a2,a3] M Q:=aY (fn:=Tryz.f80) h
theorem rP (h:Go.Ab.Vw.jN (ax 109) a0 a1 a2 a3 M Q) : ax 81 [a0,a1,a2,a3] M Q:=aY (fn:=Tryz.f81) h
theorem oU (h:Go.Ab.Vw.iC 150 (ax 110) (ax 111) a0 a1 a2 a3 M Q) : ax 82 [a0,a1,a2,a3] M Q:=aY (fn:=Tryz.f82) h
theorem qg (h:Go.Ab.Vw.jb 3 (ax 112) (ax 113) a0 a1 a2 a3 M Q) : ax 83 [a0,a1,a2,a3] M Q:=aY (fn:=Tryz.f83) h
theorem pO (h:Go.Ab.Vw.iO a0 a1 a2 a3 M Q) : ax 84 [a0,a1,a2,a3] M Q:=aY (fn:=Tryz.f84) h
theorem mr (h:Go.Ab.Vw.fF (ax) a0 a1 a2 a3 M Q) : ax 85 [a0,a1,a2,a3] M Q:=aY (fn:=Tryz.f85) h
theorem oF (h:Go.Ab.Vw.ic (ax) a0 a1 a2 a3 a4 M Q) : ax 86 [a0,a1,a2,a3,a4] M Q:=aY (fn:=Tryz.f86) h
theorem rq (h:Go.Ab.Vw.jD (ax) a0 a1 a2 a3 a4 M Q) : ax 87 [a0,a1,a2,a3,a4] M Q:=aY (fn:=Tryz.f87) h
theorem AL (h:Go.Ab.ay.ru a0 M Q) : ax 89 [a0] M Q:=aY (fn:=Tryz.f89) h
theorem Dc (h:Go.Ab.ay.uO 9 (ax 118) 25 a0 M Q) : ax 91 [a0] M Q:=aY (fn:=Tryz.f91) h
theorem Fa (h:Go.Ab.ay.xZ (ax 63) (ax 119) a0 M Q) : ax 92 [a0] M Q:=aY (fn:=Tryz.f92) h
theorem Cm (h:Go.Ab.ay.sw a0 M Q) : ax 93 [a0] M Q:=aY (fn:=Tryz.f93) h
theorem Dj (h:Go.Ab.ay.u7 a0 M Q) : ax 94 [a0] M Q:=aY (fn:=Tryz.f94) h
theorem xI (h:Go.Ab.ay.nE (ax 120) (ax 121) a0 a1 M Q) : ax 95 [a0,a1] M Q:=aY (fn:=Tryz.f95) h
theorem tu (h:Go.Ab.ay.mI 25 (VG Tryz.prog 122) (ax 123) a0 a1 a2 M Q) : ax 96 [a0,a1,a2] M Q:=aY (fn:=Tryz.f96) h
theorem Dv (h:Go.Ab.ay.Oq 25 a0 M Q) : ax 97 [a0] M Q:=aY (fn:=Tryz.f97) h
theorem kK (h:Go.Ab.Crw.eO (ax) a0 a1 a2 a3 M Q) : ax 98 [a0,a1,a2,a3] M Q:=aY (fn:=Tryz.f98) h
theorem uX (h:Go.Ab.Crw.ma (ax 124) a0 a1 a2 a3 M Q) : ax 99 [a0,a1,a2,a3] M Q:=aY (fn:=Tryz.f99) h
theorem rC (h:Go.Ab.Crw.jC 150 (ax 110) (ax 111) a0 a1 a2 a3 M Q) : ax 100 [a0,a1,a2,a3] M Q:=aY (fn:=Tryz.f100) h
theorem sQ (h:Go.Ab.Crw.kF 3 (ax 125) (ax 126) a0 a1 a2 a3 M Q) : ax 101 [a0,a1,a2,a3] M Q:=aY (fn:=Tryz.f101) h
theorem rE (h:Go.Ab.Crw.jO a0 a1 a2 a3 M Q) : ax 102 [a0,a1,a2,a3] M Q:=aY (fn:=Tryz.f102) h
theorem nT (h:Go.Ab.Crw.gu (ax) a0 a1 a2 a3 M Q) : ax 103 [a0,a1,a2,a3] M Q:=aY (fn:=Tryz.f103) h
theorem qX (h:Go.Ab.Crw.ji (ax) a0 a1 a2 a3 a4 M Q) : ax 104 [a0,a1,a2,a3,a4] M Q:=aY (fn:=Tryz.f104) h
theorem uE (h:Go.Ab.Crw.lc (ax) a0 a1 a2 a3 a4 M Q) : ax 105 [a0,a1,a2,a3,a4] M Q:=aY (fn:=Tryz.f105) h
theorem Ci (h:Go.Ab.Crw.sN (ax 127) a0 a1 M Q) : ax 106 [a0,a1] M Q:=aY (fn:=Tryz.f106) h
theorem Fe (h:Go.Ab.Crw.xM (ax 128) a0 a1 M Q) : ax 107 [a0,a1] M Q:=aY (fn:=Tryz.f107) h
theorem oH (h:Go.Ab.Crw.iW (ax 129) (ax 130) (ax 131) (ax 132) (ax 133) (ax 134) (ax) (ax 135) (ax 136) (ax 108) a0 a1 a2 a3 a4 M Q) : ax 108 [a0,a1,a2,a3,a4] M Q:=aY (fn:=Tryz.f108) h
theorem rM (h:Go.Ab.Vw.jS (ax) a0 a1 a2 a3 a4 M Q) : ax 109 [a0,a1,a2,a3,a4] M Q:=aY (fn:=Tryz.f109) h
theorem BZ (h:Go.Ab.ay.sJ (ax 63) a0 M Q) : ax 110 [a0] M Q:=aY (fn:=Tryz.f110) h
theorem tC (h:Go.Ab.ay.mh a0 M Q) : ax 111 [a0] M Q:=aY (fn:=Tryz.f111) h
theorem oI (h:Go.Ab.Vw.gQ (ax 113) a0 a1 a2 a3 M Q) : ax 112 [a0,a1,a2,a3] M Q:=aY (fn:=Tryz.f112) h
theorem ui (h:Go.Ab.Vw.kR (ax 137) a0 a1 a2 a3 a4 a5 M Q) : ax 113 [a0,a1,a2,a3,a4,a5] M Q:=aY (fn:=Tryz.f113) h
theorem Fj (h:Go.Ab.ay.xV 9 25 a0 a1 M Q) : ax 118 [a0,a1] M Q:=aY (fn:=Tryz.f118) h
theorem nu (h:Go.Ab.ay.gF (ax 140) (ax 141) (ax 142) (ax 143) (ax 144) (ax 145) (ax 120) (ax 146) (ax 147) (ax 119) a0 a1 a2 a3 M Q) : ax 119 [a0,a1,a2,a3] M Q:=aY (fn:=Tryz.f119) h
theorem Fs (h:Go.Ab.ay.xN (ax 127) a0 a1 M Q) : ax 120 [a0,a1] M Q:=aY (fn:=Tryz.f120) h
theorem Ck (h:Go.Ab.ay.sK a0 M Q) : ax 121 [a0] M Q:=aY (fn:=Tryz.f121) h
theorem uY (h:Go.Ab.Crw.lY (ax) a0 a1 a2 a3 a4 M Q) : ax 124 [a0,a1,a2,a3,a4] M Q:=aY (fn:=Tryz.f124) h
theorem qL (h:Go.Ab.Crw.jh (ax 126) a0 a1 a2 a3 M Q) : ax 125 [a0,a1,a2,a3] M Q:=aY (fn:=Tryz.f125) h
theorem xD (h:Go.Ab.Crw.nJ (ax 149) a0 a1 a2 a3 a4 a5 M Q) : ax 126 [a0,a1,a2,a3,a4,a5] M Q:=aY (fn:=Tryz.f126) h
theorem uH (h:Go.Ab.ay.qE a0 M Q) : ax 127 [a0] M Q:=aY (fn:=Tryz.f127) h
theorem Ia (h:Go.Ab.Crw.BL a0 M Q) : ax 128 [a0] M Q:=aY (fn:=Tryz.f128) h
theorem lm (h:Go.Ab.Crw.fA (ax) a0 a1 a2 a3 M Q) : ax 129 [a0,a1,a2,a3] M Q:=aY (fn:=Tryz.f129) h
theorem wS (h:Go.Ab.Crw.nD (ax 150) a0 a1 a2 a3 M Q) : ax 130 [a0,a1,a2,a3] M Q:=aY (fn:=Tryz.f130) h
theorem sH (h:Go.Ab.Crw.kG 150 (ax 110) (ax 111) a0 a1 a2 a3 M Q) : ax 131 [a0,a1,a2,a3] M Q:=aY (fn:=Tryz.f131) h
theorem uM (h:Go.Ab.Crw.lg 3 (ax 151) (ax 152) a0 a1 a2 a3 M Q) : ax 132 [a0,a1,a2,a3] M Q:=aY (fn:=Tryz.f132) h
theorem uh (h:Go.Ab.Crw.kP a0 a1 a2 a3 M Q) : ax 133 [a0,a1,a2,a3] M Q:=aY (fn:=Tryz.f133) h
theorem oG (h:Go.Ab.Crw.gZ (ax) a0 a1 a2 a3 M Q) : ax 134 [a0,a1,a2,a3] M Q:=aY (fn:=Tryz.f134) h
theorem rH (h:Go.Ab.Crw.jW (ax) a0 a1 a2 a3 a4 M Q) : ax 135 [a0,a1,a2,a3,a4] M Q:=aY (fn:=Tryz.f135) h
theorem vU (h:Go.Ab.Crw.mO (ax) a0 a1 a2 a3 a4 M Q) : ax 136 [a0,a1,a2,a3,a4] M Q:=aY (fn:=Tryz.f136) h
theorem ug (h:Go.Ab.Vw.kQ (ax) a0 a1 a2 a3 a4 M Q) : ax 137 [a0,a1,a2,a3,a4] M Q:=aY (fn:=Tryz.f137) h
theorem kD (h:Go.Ab.ay.eG (ax 120) a0 a1 a2 M Q) : ax 140 [a0,a1,a2] M Q:=aY (fn:=Tryz.f140) h
theorem uz (h:Go.Ab.ay.lC (ax 153) a0 a1 a2 M Q) : ax 141 [a0,a1,a2] M Q:=aY (fn:=Tryz.f141) h
theorem qF (h:Go.Ab.ay.jf 150 (ax 110) (ax 111) a0 a1 a2 M Q) : ax 142 [a0,a1,a2] M Q:=aY (fn:=Tryz.f142) h
theorem rF (h:Go.Ab.ay.jV 3 (ax 154) (ax 155) a0 a1 a2 M Q) : ax 143 [a0,a1,a2] M Q:=aY (fn:=Tryz.f143) h
theorem rA (h:Go.Ab.ay.jB a0 a1 a2 M Q) : ax 144 [a0,a1,a2] M Q:=aY (fn:=Tryz.f144) h
theorem nP (h:Go.Ab.ay.gm (ax 120) a0 a1 a2 M Q) : ax 145 [a0,a1,a2] M Q:=aY (fn:=Tryz.f145) h
theorem pQ (h:Go.Ab.ay.ja (ax 120) a0 a1 a2 a3 M Q) : ax 146 [a0,a1,a2,a3] M Q:=aY (fn:=Tryz.f146) h
theorem uj (h:Go.Ab.ay.kU (ax 120) a0 a1 a2 a3 M Q) : ax 147 [a0,a1,a2,a3] M Q:=aY (fn:=Tryz.f147) h
theorem xA (h:Go.Ab.Crw.nN (ax) a0 a1 a2 a3 a4 M Q) : ax 149 [a0,a1,a2,a3,a4] M Q:=aY (fn:=Tryz.f149) h
theorem wU (h:Go.Ab.Crw.nG (ax) a0 a1 a2 a3 a4 M Q) : ax 150 [a0,a1,a2,a3,a4] M Q:=aY (fn:=Tryz.f150) h
theorem rR (h:Go.Ab.Crw.jU (ax 152) a0 a1 a2 a3 M Q) : ax 151 [a0,a1,a2,a3] M Q:=aY (fn:=Tryz.f151) h
theorem zB (h:Go.Ab.Crw.oW (ax 157) a0 a1 a2 a3 a4 a5 M Q) : ax 152 [a0,a1,a2,a3,a4,a5] M Q:=aY (fn:=Tryz.f152) h
theorem uA (h:Go.Ab.ay.lF (ax 120) a0 a1 a2 a3 M Q) : ax 153 [a0,a1,a2,a3] M Q:=aY (fn:=Tryz.f153) h
theorem qh (h:Go.Ab.ay.iU (ax 155) a0 a1 a2 M Q) : ax 154 [a0,a1,a2] M Q:=aY (fn:=Tryz.f154) h
theorem vP (h:Go.Ab.ay.mP (ax 158) a0 a1 a2 a3 a4 M Q) : ax 155 [a0,a1,a2,a3,a4] M Q:=aY (fn:=Tryz.f155) h
theorem yI (h:Go.Ab.Crw.oV (ax) a0 a1 a2 a3 a4 M Q) : ax 157 [a0,a1,a2,a3,a4] M Q:=aY (fn:=Tryz.f157) h
theorem vR (h:Go.Ab.ay.mW (ax 120) a0 a1 a2 a3 M Q) : ax 158 [a0,a1,a2,a3] M Q:=aY (fn:=Tryz.f158) h
end Go.Proofs.YtngfappichkflaaGreat
namespace Go.Proofs.YtngfappichkflaaGreat.kJ
open Go Go.Ab Go.Ab.ay Go.Ab.Crw Go.RowKit
abbrev fD:AV:=.fn (.func 75) [] []
theorem over:abw (VG Tryz.prog 122):=by
 intro M ba oa na bb ob nb ea eb ca cb la lb opb Q hne ha hb h1 h2 hQ
 exact .inr (.inl ⟨⟨Tryz.f122,111,25,1,4,by kernel_rfl,by kernel_rfl,by kernel_rfl,by kernel_rfl,by kernel_rfl,by kernel_rfl⟩,
  ⟨ba,oa,na,ca,bb,ob,nb,cb,la,ea,0,lb,opb,eb,0,rfl,hne,ha,hb,rfl,h1,h2⟩,hQ⟩)
theorem Zq:Hl Tryz.prog 96:=⟨Tryz.f96,_,by kernel_rfl,rfl⟩
theorem insert:UM 25 (ax 96):=by
 intro M v bx n0 k x ex xs Q ho hn hl hk hx hxl hbx hQ
 by_cases hkn:k=xs.length
 ·subst hkn
  exact tu (VT ho hn hl hx hxl hQ)
 ·obtain⟨b,rfl,h1,h2,h3,h4⟩:=Own.uK ho (by omega)
  refine iG.abb Zq h3 (by rw[h4]; show xs.length * 1=_; omega) fun c hc=>?_
  have hne:bx≠b:=fun e=>hbx (by simp[aI,e])
  have kk:ag [b] M (M.put b (.row (bn.row xs++List.replicate (c - xs.length) .top) true 25 0)):=(ag.refl _ _).put _ (.inr (by simp))
  refine tu (Zp (c:=c) over rfl (by omega) hc (by omega) (aN _) (by rw[gJ]; exact h2) (mV hx hne) hxl hne ?_)
  intro v' M' q1 q2 q3 q4
  refine hQ v' M' q1 q2 (fun d hd=>?_) ?_
  ·rcases q3 d hd with rfl | h
   ·exact h1
   ·have:M.next≤d:=h
    omega
  ·exact(kk.trans q4).mono (by simp[aI])
theorem nan:WE (ax 127):=fun hQ=>uH (KM hQ)
theorem agB:WE (ax 121):=fun hQ=>Ck (Uy hQ)
theorem less:wH (ax 120):=by
 intro M x y Q hQ
 obtain⟨a0,a1,e,h⟩:=Yk nan hQ
 cases e
 exact Fs h
theorem search:Ha (ax 95):=by
 intro M v xs n Q h1 h2 h3 hQ
 obtain⟨a0,a1,e,h⟩:=Ut less agB h1 h2 h3 hQ
 cases e
 exact xI h
theorem acP:Yo 25 1 8 (ax 97):=fun h1 h2 h3 h4 _ hQ=>Dv (OH h1 h2 (Nat.le_refl _) h3 h4 hQ)
theorem settled:Df (ax 94):=by
 intro M b o T u l v xs Q h1 h2 h3 h4 h5 h6 h7 h8 h9 hQ
 obtain⟨a0,e,h⟩:=Sq h1 h2 h3 h4 h5 h6 h7 h8 h9 hQ
 cases e
 exact Dj h
theorem fQ:We (ax 72):=by
 intro M b o T u n l v xs Q h1 h2 h3 h4 h5 h6 h7 h8 h9 h10 h11 h12 hQ1 hQ2
 obtain⟨a0,a1,e,h⟩:=Zf (TU:=25) (TP:=113) search acP insert settled h1 h2 h3 h4 h5 h6 h7 h8 h9 h10 h11 h12 hQ1 hQ2
 cases e
 exact I4 h
theorem jg:P5 (ax 73):=by
 intro M b o T u n l v xs Q h1 h2 h3 h4 h5 h6 hQ
 obtain⟨a0,a1,e,h⟩:=Yw search h1 h2 h3 h4 h5 h6 hQ
 cases e
 exact JM h
theorem good:Bv (ax 69):=by
 intro M d Q hQ
 obtain⟨a0,e,h⟩:=Zw (T:=27) hQ
 cases e
 exact Ny h
theorem acu:Bv (ax 66):=by
 intro M d Q hQ
 obtain⟨a0,e,h⟩:=Qt (T:=27) hQ
 cases e
 exact MB h
theorem kI:P7 116 (ax 50):=by
 intro M b ps d S Q h1 h2 hQ
 obtain⟨a0,a1,e,h⟩:=YC (TD:=27) good fQ h1 h2 hQ
 cases e
 exact Ls h
theorem new:Rs 116 (ax 47):=by
 intro M Q hQ
 obtain⟨e,h⟩:=Z0 hQ
 exact PU h
theorem Yl:GX (ax 28):=by
 intro M v l d Q h1 h2 hQ
 obtain⟨a0,a1,e,h⟩:=Uv (T:=27) h1 h2 hQ
 cases e
 exact TM h
theorem within:NR 116 (ax 57):=by
 intro M a b ps qs S S' Q h1 h2 h3 h4 hQ
 obtain⟨a0,a1,e,h⟩:=UA (T:=113) jg h1 h2 h3 h4 hQ
 cases e
 exact Gl h
theorem eD:Xa 116 (ax 51):=by
 intro M b ps d S Q h1 h2 hQ
 obtain⟨a0,a1,e,h⟩:=YE (T:=27) good jg h1 h2 hQ
 cases e
 exact Kv h
theorem grow:Wy 25 (ax 118):=by
 intro M n Q h1 h2 h3
 obtain⟨a0,a1,e,h⟩:=Yr (TS:=9) h1 h2 h3
 cases e
 exact Fj h
theorem concat:Oi 25 (ax 91):=by
 intro M bb TS v w xs ys Q h1 h2 h3 h4 h5 h6 hQ
 obtain⟨a0,e,h⟩:=Uf (TS:=9) grow h1 h2 h3 h4 h5 h6 hQ
 cases e
 exact Dc h
theorem acj:Oy 25 3 (ax 158):=fun {M b s k i j d Q} h1 h2 h3 h4 hQ=>by
 obtain⟨a0,a1,a2,a3,e,h⟩:=SC less h1 h2 h3 h4 hQ
 cases e
 exact vR h
theorem U5:Hg 25 3 (ax 155):=fun {M b s k i j h d Q} h1 h2 h3 h4 h5 hQ=>by
 obtain⟨a0,a1,a2,a3,a4,e,h⟩:=QL acj h1 h2 h3 h4 h5 hQ
 cases e
 exact vP h
theorem ab9:Ms 25 3 (ax 154):=fun {M b s k i d Q} h1 h2 h3 h4 h5 hQ=>by
 obtain⟨a0,a1,a2,e,h⟩:=Rz U5 h1 h2 h3 h4 h5 hQ
 cases e
 exact qh h
theorem acb:Mv 25 (ax 143):=fun {M b a e d Q} h1 h2 h3 h4 hQ=>by
 obtain⟨a0,a1,a2,e,h⟩:=QM ab9 U5 h1 h2 h3 h4 hQ
 cases e
 exact rF h
theorem Z7:JR 25 (ax 145):=fun {M b a e d Q} h1 h2 h3 h4 hQ=>by
 obtain⟨a0,a1,a2,e,h⟩:=PN less h1 h2 h3 h4 hQ
 cases e
 exact nP h
theorem afU:yE 25 (Sort.insertionSort lN) (fun _ _ _=>True) (ax 140):=fun {M b a e d Q} h1 h2 h3 h4 h5 hQ=>by
 obtain⟨a0,a1,a2,e,h⟩:=YI less h1 h2 h3 h4 h5 hQ
 cases e
 exact kD h
theorem aeL:Wh 25 (ax 153):=fun {M b lo hi first d Q} h1 h2 h3 h4 hQ=>by
 obtain⟨a0,a1,a2,a3,e,h⟩:=Y1 less h1 h2 h3 h4 hQ
 cases e
 exact uA h
theorem aew:yE 25 (Sort.heapSort lN) (fun _ a e=>a<e) (ax 141):=fun {M b a e d Q} h1 h2 h3 h4 h5 hQ=>by
 obtain⟨a0,a1,a2,e,h⟩:=YX aeL h1 h2 h3 h4 h5 hQ
 cases e
 exact uz h
theorem aay:yE 25 Sort.reverseRange (fun _ a e=>a<e) (ax 144):=fun {M b a e d Q} h1 h2 h3 h4 h5 hQ=>by
 obtain⟨a0,a1,a2,e,h⟩:=Td h1 h2 h3 h4 h5 hQ
 cases e
 exact rA h
theorem acJ:Na 25 (ax 146):=fun {M b a e pv d Q} h1 h2 h3 h4 h5 hQ=>by
 obtain⟨a0,a1,a2,a3,e,h⟩:=Uj less h1 h2 h3 h4 h5 hQ
 cases e
 exact pQ h
theorem aeH:W9 25 (ax 147):=fun {M b a e pv d Q} h1 h2 h3 h4 h5 hQ=>by
 obtain⟨a0,a1,a2,a3,e,h⟩:=Ze less h1 h2 h3 h4 h5 hQ
 cases e
 exact uj h
theorem adi:BB (ax 89):=fun {M x Q} h1 hQ=>by
 obtain⟨a0,e,h⟩:=TC h1 hQ
 cases e
 exact AL h
theorem RA:BB (ax 63):=fun {M x Q} h1 hQ=>by
 obtain⟨a0,e,h⟩:=X6 (c3:=ax 88) adi h1 hQ
 cases e
 exact CS h
theorem Xr:Nw (ax 110):=fun {M x Q} h0 h1 hQ=>by
 obtain⟨a0,e,h⟩:=aaK RA h0 h1 hQ
 cases e
 exact BZ h
theorem agZ:aaL 25 150 (ax 111):=fun {M b s r d Q} h0 hQ=>by
 obtain⟨a0,e,h⟩:=aas h0 hQ
 cases e
 exact tC h
theorem adp:Sr 25 (ax 142):=fun {M b a e d Q} h1 h2 h3 h4 hQ=>by
 obtain⟨a0,a1,a2,e,h⟩:=VK Xr agZ h1 h2 h3 h4 hQ
 cases e
 exact qF h
theorem ac5:∀ m,Wt 25 m (ax 119)
 | 0=>by intro h1 h2 h3 h4 h5; omega
 | m + 1=>by
   intro h1 h2 h3 h4 h5 h6 hQ
   obtain⟨a0,a1,a2,a3,e,h⟩:=Y4 afU aew adp acb aay Z7 less acJ aeH (ac5 m) h1 h2 h3 h4 h5 h6 hQ
   cases e
   exact nu h
theorem acW:Rx (ax 140):=fun {M v Q} hQ=>by
 obtain⟨a0,a1,a2,e,h⟩:=Un (cl:=ax 120) (v:=v) hQ
 cases e
 exact kD h
theorem adk:RN (ax 119):=fun {M v Q} hQ=>by
 obtain⟨a0,a1,a2,a3,e,h⟩:=UI (c2:=ax 141) (c3:=ax 142) (cc:=ax 143) (c4:=ax 144) (cp:=ax 145) (c5:=ax 120) (c6:=ax 146) (c7:=ax 147) (c8:=ax 119) acW (v:=v) hQ
 cases e
 exact nu h
theorem acw:Wj (fun xs=>xs.length≤60000) jK 25 (ax 92):=fun {M base v xs Q} h1 h2 hQ=>by
 obtain⟨a0,e,h⟩:=VQ RA ac5 adk h1 h2 hQ
 cases e
 exact Fa h
theorem VU:Jf (fun xs=>xs.length≤60000) dd 25 (ax 93):=fun {M base v xs Q} h1 h2 hQ=>by
 obtain⟨a0,e,h⟩:=PK h1 h2 hQ
 cases e
 exact Cm h
theorem ack:XA (fun xs=>xs.length≤60000) (fun xs=>xs.length≤60000) jK dd 116 (ax 71):=fun {M a b ps qs S S' Q} h1 h2 h3 h4 h5 h6 h7 h8 hQ=>by
 obtain⟨a0,a1,e,h⟩:=YF (TP:=113) (TL:=111) concat acw VU settled h1 h2 h3 h4 h5 h6 h7 h8 hQ
 cases e
 exact Ke h
theorem abO:wV (ax 37):=by
 intro M a b Q h1
 obtain⟨a0,a1,e,h⟩:=Xi (T:=27) h1
 cases e
 exact SB h
theorem Vr:wV (ax 25):=by
 intro M a b Q h1
 obtain⟨a0,a1,e,h⟩:=SQ (T:=27) h1
 cases e
 exact MM h
theorem names:Qw (ax 70):=by
 intro M x y z Q h1
 obtain⟨a0,a1,a2,e,h⟩:=Xq h1
 cases e
 exact Ic h
theorem di:vN (ax 48):=by
 intro M e kv ks Q h1 h2
 obtain⟨a0,e,h⟩:=Uc (TE:=30) (TD:=27) good names abO h1 h2
 cases e
 exact Rh h
theorem Zj:vN (ax 41):=by
 intro M e kv ks Q h1 h2
 obtain⟨a0,e,h⟩:=Mr (TE:=30) acu Vr h1 h2
 cases e
 exact H9 h
theorem afI:DL (α:=List UInt8) (fun s=>St s) (ax 64):=by
 intro M x Q h1
 obtain⟨a0,e,h⟩:=Yy h1
 cases e
 exact DR h
theorem age:DL (α:=Nat) (fun n=>N .u64 (n:Int)) (ax 127):=by
 intro M x Q h1
 obtain⟨a0,e,h⟩:=YN h1
 cases e
 exact uH h
theorem agp:DL (α:=Int) (fun n=>N .i64 n) (ax 128):=by
 intro M x Q h1
 obtain⟨a0,e,h⟩:=YR h1
 cases e
 exact Ia h
theorem adr:wD (α:=List UInt8) (fun s=>St s) (fun x y=>decide (x<y)) (ax 36):=by
 intro M x y Q h1
 obtain⟨a0,a1,e,h⟩:=Y6 afI h1
 cases e
 exact Co h
theorem afN:wD (α:=Nat) (fun n=>N .u64 (n:Int)) (fun x y=>decide (x<y)) (ax 106):=by
 intro M x y Q h1
 obtain⟨a0,a1,e,h⟩:=Zk age h1
 cases e
 exact Ci h
theorem af4:wD (α:=Int) (fun n=>N .i64 n) (fun x y=>decide (x<y)) (ax 107):=by
 intro M x y Q h1
 obtain⟨a0,a1,e,h⟩:=Yx agp h1
 cases e
 exact Fe h
theorem or_:Yz (ax 35):=by
 intro M v xs Q h1 h2 h3
 obtain⟨a0,e,h⟩:=ab4 h1 h2 h3
 cases e
 exact NY h
theorem aby:KC (ax 75):=by
 intro M x y Q h1
 obtain⟨a0,a1,e,h⟩:=Xf afN af4 or_ h1
 cases e
 exact PP h
theorem compare:J8 (ax 53):=by
 intro M x y Q h1
 obtain⟨a0,a1,e,h⟩:=Ta adr aby or_ h1
 cases e
 exact Kw h
abbrev fE:AV:=.fn (.func 53) [] []
theorem JW:iR aF fO (bD (ax) fE):=acs compare
theorem aa0:SortG aF 40 5 fE (Sort.insertionSort fO) (fun _ _ _=>True) (ax 98):=by
 intro M b a e d Q h1 h2 h3 h4 h5 h6
 obtain⟨a0,a1,a2,a3,e,h⟩:=Crw.aa0 (cv:=ax) JW h1 h2 h3 h4 h5 h6
 cases e
 exact kK h
theorem aaD:SortG aF 40 5 fE Sort.reverseRange (fun _ a e=>a<e) (ax 102):=by
 intro M b a e d Q h1 h2 h3 h4 h5 h6
 obtain⟨a0,a1,a2,a3,e,h⟩:=Crw.aaD h1 h2 h3 h4 h5 h6
 cases e
 exact rE h
theorem WH:X4 40 fE fO (ax 124):=by
 intro M b lo hi first d Q h1 h2 h3 h4 h5
 obtain⟨a0,a1,a2,a3,a4,e,h⟩:=Crw.WH (cv:=ax) JW h1 h2 h3 h4 h5
 cases e
 exact uY h
theorem Wo:SortG aF 40 5 fE (Sort.heapSort fO) (fun _ a e=>a<e) (ax 99):=by
 intro M b a e d Q h1 h2 h3 h4 h5 h6
 obtain⟨a0,a1,a2,a3,e,h⟩:=Crw.Wo WH h1 h2 h3 h4 h5 h6
 cases e
 exact uX h
theorem NE:OA 40 fE fO (ax 104):=by
 intro M b a e pv d Q h1 h2 h3 h4 h5 h6
 obtain⟨a0,a1,a2,a3,a4,e,h⟩:=Crw.NE (cv:=ax) JW h1 h2 h3 h4 h5 h6
 cases e
 exact qX h
theorem WI:VJ 40 fE fO (ax 105):=by
 intro M b a e pv d Q h1 h2 h3 h4 h5 h6
 obtain⟨a0,a1,a2,a3,a4,e,h⟩:=Crw.WI (cv:=ax) JW h1 h2 h3 h4 h5 h6
 cases e
 exact uE h
theorem L9:OB 40 3 fE fO (ax 149):=by
 intro M b s k i j d Q h1 h2 h3 h4 h5 h6
 obtain⟨a0,a1,a2,a3,a4,e,h⟩:=Crw.L9 (cv:=ax) JW h1 h2 h3 h4 h5 h6
 cases e
 exact xA h
theorem GH:GV 40 3 fE fO (ax 126):=by
 intro M b s k i j h d Q h1 h2 h3 h4 h5 h6 h7
 obtain⟨a0,a1,a2,a3,a4,a5,e,h⟩:=Crw.GH L9 h1 h2 h3 h4 h5 h6 h7
 cases e
 exact xD h
theorem Ni:NT 40 3 fE fO (ax 125):=by
 intro M b s k i d Q h1 h2 h3 h4 h5 h6 h7
 obtain⟨a0,a1,a2,a3,e,h⟩:=Crw.Ni GH h1 h2 h3 h4 h5 h6 h7
 cases e
 exact qL h
theorem MH:Oo 40 fE fO (ax 101):=by
 intro M b a e d Q h1 h2 h3 h4 h5
 obtain⟨a0,a1,a2,a3,e,h⟩:=Crw.MH Ni GH h1 h2 h3 h4 h5
 cases e
 exact sQ h
theorem JG:Jq 40 fE fO (ax 103):=by
 intro M b a e d Q h1 h2 h3 h4 h5
 obtain⟨a0,a1,a2,a3,e,h⟩:=Crw.JG (cv:=ax) JW h1 h2 h3 h4 h5
 cases e
 exact nT h
theorem ZI:Tv 150 (ax 111):=by
 intro M s r Q h1 h2 h3
 obtain⟨a0,e,h⟩:=Yt h1 h2 h3
 cases e
 exact tC h
theorem Qq:SortG aF 40 5 fE Sort.breakPatterns (fun _ _ _=>True) (ax 100):=by
 intro M b a e d Q h1 h2 h3 h4 h5 h6
 obtain⟨a0,a1,a2,a3,e,h⟩:=Crw.Qq Xr ZI h1 h2 h3 h4 h5 h6
 cases e
 exact rC h
theorem WU:∀ m,VF 40 m fE fO (ax 74)
 | 0=>by intro h1 h2 h3 h4 h5; omega
 | m + 1=>by
   intro h1 h2 h3 h4 h5 h6 hQ
   obtain⟨a0,a1,a2,a3,a4,e,h⟩:=Crw.WU (cv:=ax) iJ aa0 Wo Qq MH aaD JG JW NE WI (WU m) h1 h2 h3 h4 h5 h6 hQ
   cases e
   exact nR h
theorem NW:NN (ax 98):=by
 intro M v fv Q h1
 obtain⟨a0,a1,a2,a3,e,h⟩:=Crw.NW (cv:=ax) h1
 cases e
 exact kK h
theorem NB:MU (ax 74):=by
 intro M v fv Q h1
 obtain⟨a0,a1,a2,a3,a4,e,h⟩:=Crw.NB (cv:=ax) NW h1
 cases e
 exact nR h
theorem adh:NP fE fO 40 (ax 52):=by
 intro M base v xs Q h1 h2 h3
 obtain⟨a0,a1,e,h⟩:=Crw.abX iJ RA WU NB h1 h2 h3
 cases e
 exact BM h
theorem clone:Nq 40 (ax 46):=by
 intro M v xs Q h1 h2 h3
 obtain⟨a0,e,h⟩:=Um h1 h2 h3
 cases e
 exact Fq h
theorem index:Nn (ax 77):=by
 intro M v l d Q h1 h2 h3
 obtain⟨a0,a1,e,h⟩:=Us (T:=27) h1 h2 h3
 cases e
 exact Ib h
theorem contains:yS (ax 56):=by
 intro M v l d Q h1 h2 h3
 obtain⟨a0,a1,e,h⟩:=Mq (T:=27) index h1 h2 h3
 cases e
 exact Em h
theorem adj:Nv (ax 58):=by
 intro M v w xs ys Q h1 h2 h3 h4
 obtain⟨a0,a1,e,h⟩:=Uk h1 h2 h3 h4
 cases e
 exact Fv h
theorem YZ {b:Nat} {e:lh} {kv:AV} {ks:List ay} (hl:ks.length≤1000000) : LF (FQ 30 b e kv ks) (fun x=>decide (x.1∈ks)) (bD (ax) (.fn (.func 55) [] [.ptr b 0])):=by
 intro M x Q hP hQ
 obtain⟨a0,a1,e,h⟩:=UG (T:=40) contains hl hP hQ
 refine⟨55,[],[.ptr b 0],rfl, ?_⟩
 show ax 55 [.agg (aF.cells x),.ptr b 0] M Q
 cases e
 exact CR h
theorem Zd {P:RM→Prop} {p:Crw.aH→Bool} {fv:AV} (hp:LF P p (bD (ax) fv)) : MQ P p fv (ax 76):=by
 intro M v xs Q h1 h2 h3 h4 h5 h6
 obtain⟨a0,a1,e,h⟩:=UC hp h1 h2 h3 h4 h5 h6
 cases e
 exact AJ h
theorem acF (b:Nat) (e:lh) (kv:AV) (ks:List ay) (hl:ks.length≤1000000) : Au 40 (FQ 30 b e kv ks) (fun x=>decide (x.1∈ks)) (.fn (.func 55) [] [.ptr b 0]) (ax 54):=by
 intro M base v xs Q h1 h2 h3 h4 hQ
 obtain⟨a0,a1,e,h⟩:=F7 (TE:=40) (Zd (YZ hl)) (YZ hl) h1 h2 h3 h4 hQ
 cases e
 exact pY h
theorem LH:Ty 116 (ax 49):=by
 intro M b qs S' k Q h1 h2 h3 h4
 obtain⟨a0,e,h⟩:=Xn new ack h1 h2 h3 h4
 cases e
 exact J9 h
theorem abC:LA 91 116 (ax 29):=by
 intro M Q h1
 obtain⟨e,h⟩:=Vv new h1
 exact Uz h
theorem apply:Ky 91 116 (ax 30):=by
 intro M t k B ps es e kv ks Q h1 h2 h3 h4 h5 h6 h7 h8
 obtain⟨a0,a1,e,h⟩:=XO (TE:=30) (TD:=27) (TN:=40) (cv:=ax) di LH kI eD clone adh acF within adj h1 h2 h3 h4 h5 h6 h7 h8
 cases e
 exact Fb h
theorem I7:iR aV pF (bD (ax) fD):=acr aby
theorem abe:SortG aV 27 2 fD (Sort.insertionSort pF) (fun _ _ _=>True) (ax 129):=by
 intro M b a e d Q h1 h2 h3 h4 h5 h6
 obtain⟨a0,a1,a2,a3,e,h⟩:=Crw.abe (cv:=ax) I7 h1 h2 h3 h4 h5 h6
 cases e
 exact lm h
theorem abl:SortG aV 27 2 fD Sort.reverseRange (fun _ a e=>a<e) (ax 133):=by
 intro M b a e d Q h1 h2 h3 h4 h5 h6
 obtain⟨a0,a1,a2,a3,e,h⟩:=Crw.abl h1 h2 h3 h4 h5 h6
 cases e
 exact uh h
theorem Xo:Xp 27 fD pF (ax 150):=by
 intro M b lo hi first d Q h1 h2 h3 h4 h5
 obtain⟨a0,a1,a2,a3,a4,e,h⟩:=Crw.Xo (cv:=ax) I7 h1 h2 h3 h4 h5
 cases e
 exact wU h
theorem VY:SortG aV 27 2 fD (Sort.heapSort pF) (fun _ a e=>a<e) (ax 130):=by
 intro M b a e d Q h1 h2 h3 h4 h5 h6
 obtain⟨a0,a1,a2,a3,e,h⟩:=Crw.VY Xo h1 h2 h3 h4 h5 h6
 cases e
 exact wS h
theorem Oz:Oe 27 fD pF (ax 135):=by
 intro M b a e pv d Q h1 h2 h3 h4 h5 h6
 obtain⟨a0,a1,a2,a3,a4,e,h⟩:=Crw.Oz (cv:=ax) I7 h1 h2 h3 h4 h5 h6
 cases e
 exact rH h
theorem WG:Vu 27 fD pF (ax 136):=by
 intro M b a e pv d Q h1 h2 h3 h4 h5 h6
 obtain⟨a0,a1,a2,a3,a4,e,h⟩:=Crw.WG (cv:=ax) I7 h1 h2 h3 h4 h5 h6
 cases e
 exact vU h
theorem Nc:NS 27 3 fD pF (ax 157):=by
 intro M b s k i j d Q h1 h2 h3 h4 h5 h6
 obtain⟨a0,a1,a2,a3,a4,e,h⟩:=Crw.Nc (cv:=ax) I7 h1 h2 h3 h4 h5 h6
 cases e
 exact yI h
theorem GM:GK 27 3 fD pF (ax 152):=by
 intro M b s k i j h d Q h1 h2 h3 h4 h5 h6 h7
 obtain⟨a0,a1,a2,a3,a4,a5,e,h⟩:=Crw.GM Nc h1 h2 h3 h4 h5 h6 h7
 cases e
 exact zB h
theorem Mt:MZ 27 3 fD pF (ax 151):=by
 intro M b s k i d Q h1 h2 h3 h4 h5 h6 h7
 obtain⟨a0,a1,a2,a3,e,h⟩:=Crw.Mt GM h1 h2 h3 h4 h5 h6 h7
 cases e
 exact rR h
theorem L8:MJ 27 fD pF (ax 132):=by
 intro M b a e d Q h1 h2 h3 h4 h5
 obtain⟨a0,a1,a2,a3,e,h⟩:=Crw.L8 Mt GM h1 h2 h3 h4 h5
 cases e
 exact uM h
theorem Kb:I1 27 fD pF (ax 134):=by
 intro M b a e d Q h1 h2 h3 h4 h5
 obtain⟨a0,a1,a2,a3,e,h⟩:=Crw.Kb (cv:=ax) I7 h1 h2 h3 h4 h5
 cases e
 exact oG h
theorem Qm:SortG aV 27 2 fD Sort.breakPatterns (fun _ _ _=>True) (ax 131):=by
 intro M b a e d Q h1 h2 h3 h4 h5 h6
 obtain⟨a0,a1,a2,a3,e,h⟩:=Crw.Qm Xr ZI h1 h2 h3 h4 h5 h6
 cases e
 exact sH h
theorem Xd:∀ m,XZ 27 m fD pF (ax 108)
 | 0=>by intro h1 h2 h3 h4 h5; omega
 | m + 1=>by
   intro h1 h2 h3 h4 h5 h6 hQ
   obtain⟨a0,a1,a2,a3,a4,e,h⟩:=Crw.Xd (cv:=ax) Hd abe VY Qm L8 abl Kb I7 Oz WG (Xd m) h1 h2 h3 h4 h5 h6 hQ
   cases e
   exact oH h
theorem Ng:MP (ax 129):=by
 intro M v fv Q h1
 obtain⟨a0,a1,a2,a3,e,h⟩:=Crw.Ng (cv:=ax) h1
 cases e
 exact lm h
theorem N9:Ob (ax 108):=by
 intro M v fv Q h1
 obtain⟨a0,a1,a2,a3,a4,e,h⟩:=Crw.N9 (cv:=ax) Ng h1
 cases e
 exact oH h
theorem Mx:Nk fD pF 27 (ax 78):=by
 intro M base v xs Q h1 h2 h3
 obtain⟨a0,a1,e,h⟩:=Crw.Mx Hd RA Xd N9 h1 h2 h3
 cases e
 exact Dz h
theorem N8:Ep 91 116 40 (ax 61):=by
 intro M t B ps es s Q h1 h2 h3
 obtain⟨a0,a1,e,h⟩:=Si h1 h2 h3
 cases e
 exact Cx h
theorem of1 {b:Nat} {s:List UInt8} : LF (Qc 9 b s) (Crw.AQ s) (bD (ax) (.fn (.func 79) [] [.ptr b 0])):=by
 intro M x Q hP hQ
 obtain⟨a0,a1,e,h⟩:=aaO (TN:=40) hP hQ
 refine⟨79,[],[.ptr b 0],rfl, ?_⟩
 show ax 79 [.agg (aF.cells x),.ptr b 0] M Q
 cases e
 exact Gp h
theorem aad (b:Nat) (s:List UInt8) : Au 40 (Qc 9 b s) (Crw.AQ s) (.fn (.func 79) [] [.ptr b 0]) (ax 54):=by
 intro M base v xs Q h1 h2 h3 h4 hQ
 obtain⟨a0,a1,e,h⟩:=F7 (TE:=40) (Zd of1) of1 h1 h2 h3 h4 hQ
 cases e
 exact pY h
theorem afV:VM 91 116 (ax 60):=by
 intro M t B ps es s f Q h1 h2 h3
 obtain⟨a0,a1,a2,e,h⟩:=X8 (TB:=9) N8 aad h1 h2 h3
 cases e
 exact JO h
theorem made:Xl (ax 59):=by
 intro M v e xs Q h1 h2 h3 h4
 obtain⟨a0,a1,e,h⟩:=YV (TE:=30) (TN:=40) (TD:=27) Mx di contains h1 h2 h3 h4
 cases e
 exact SV h
theorem acI:JX 91 116 (ax 31):=by
 intro M t B ps es d s f a Q h1 h2 h3 h4
 obtain⟨a0,a1,a2,a3,a4,e,h⟩:=Qv (TD:=27) (TE:=30) afV made h1 h2 h3 h4
 cases e
 exact CY h
theorem before:Od (ax 67):=by
 intro M x y Q h1
 obtain⟨a0,a1,e,h⟩:=Ud (TN:=40) Vr h1
 cases e
 exact Nf h
theorem aaJ:Gq 40 (ax 42):=by
 intro M base v l x Q h1 h2 h3 h4
 obtain⟨a0,a1,e,h⟩:=PV before h1 h2 h3 h4
 cases e
 exact Jg h
theorem VV:Cj 40 (ax 18):=by
 intro M v l S Q h1 h2 h3 h4 h5
 obtain⟨a0,e,h⟩:=K6 Yl aaJ h1 h2 h3 h4 h5
 cases e
 exact LU h
theorem ZV:FK 91 116 9 (ax 26):=by
 intro M t B ps es Q h1 h2 h3
 obtain⟨a0,e,h⟩:=PI (TN:=40) h1 h2 h3
 cases e
 exact Cs h
theorem Ur:Al 9 (ax 20):=by
 intro M v es Q h1 h2 h3
 obtain⟨a0,e,h⟩:=JV h1 h2 h3
 cases e
 exact IW h
end Go.Proofs.YtngfappichkflaaGreat.kJ
namespace Go.Proofs
open Go.Shelf
def Tryz.laysM219_ren:Go.Shelf.Ren:=⟨fun | 219=>90 | 217=>114 | 225=>115 | 224=>116 | 267=>117 | 266=>138 | 314=>139 | n=>n,fun | 9=>9 | 3=>3 | 4=>4 | 5=>5 | 46=>107 | 146=>175 | 51=>135 | n=>n,fun | 1=>0 | n=>n⟩
theorem Tryz.laysM219:Go.Proofs.LaysM.n219 Tryz.prog Tryz.laysM219_ren where
 mixed:=by kernel_rfl
 f217:=Tryz.func114.trans (congrArg some (by kernel_rfl))
 f219:=Tryz.func90.trans (congrArg some (by kernel_rfl))
 f224:=Tryz.func116.trans (congrArg some (by kernel_rfl))
 f225:=Tryz.func115.trans (congrArg some (by kernel_rfl))
 f266:=Tryz.func138.trans (congrArg some (by kernel_rfl))
 f267:=Tryz.func117.trans (congrArg some (by kernel_rfl))
 f314:=Tryz.func139.trans (congrArg some (by kernel_rfl))
 t3:=Tryz.underlying3
 a3:=Tryz.isAgg3
 z3:=Tryz.sizeOf3
 v3:=Tryz.zeroValue3
 t4:=Tryz.underlying4
 a4:=Tryz.isAgg4
 z4:=Tryz.sizeOf4
 v4:=Tryz.zeroValue4
 t5:=Tryz.underlying5
 a5:=Tryz.isAgg5
 z5:=Tryz.sizeOf5
 v5:=Tryz.zeroValue5
 t9:=Tryz.underlying9
 a9:=Tryz.isAgg9
 z9:=Tryz.sizeOf9
 v9:=Tryz.zeroValue9
 t46:=Tryz.underlying107
 a46:=Tryz.isAgg107
 z46:=Tryz.sizeOf107
 v46:=Tryz.zeroValue107
 t51:=Tryz.underlying135
 a51:=Tryz.isAgg135
 z51:=Tryz.sizeOf135
 v51:=Tryz.zeroValue135
 t146:=Tryz.underlying175
 a146:=Tryz.isAgg175
 z146:=Tryz.sizeOf175
 v146:=Tryz.zeroValue175
 g1:=by kernel_rfl
 i3:=by kernel_rfl
 i4:=by kernel_rfl
 i5:=by kernel_rfl
 i9:=by kernel_rfl
 i46:=by kernel_rfl
 i51:=by kernel_rfl
 i146:=by kernel_rfl
 m1:=by kernel_rfl
 s1_3:=fun w h=>Go.Proofs.cell_of_shapedOpen_int (zero := #[.int .i64 0]) (t:=3) h (of_decide_eq_true (by kernel_rfl)) (by kernel_rfl) rfl (by kernel_rfl) (by kernel_rfl) Tryz.underlying3
theorem Tryz.index_fact (s sub:ByteArray) (m:Int) (w:World) (hs:s.size<4294967281) (hm:w.cell? ⟨0,0,none⟩=some (.int .i64 m)) :
  Calls Tryz.prog 90 #[.string s,.string sub] w fun e w'=>e=.returned (.int .i64 (Lib.index s.data.toList sub.data.toList))∧w'=w :=
 Any.stringslite_Index { Tryz.laysM219 with } s sub m w hs hm
theorem Tryz.index_var (w:World) (h:w.ShapedOpen Tryz.prog) : ∃ m,w.cell? ⟨0,0,none⟩=some (.int .i64 m):=Tryz.laysM219.s1_3 w h
end Go.Proofs
namespace Go.Proofs.YtngfappichkflaaGreat
open Go Go.Ab Go.RowKit
def ext:Ext := { split:=[96],HV:=[122],HY:=[] }
theorem Gm:EW Tryz.prog ext where
 ng:=QK (by kernel_rfl)
 HV:=by
  intro f hf
  have:f=122:=by
   unfold ext at hf
   simp only[has] at hf
   split at hf
   ·rename_i h; exact(Nat.eq_of_beq_eq_true h).symm
   ·cases hf
  subst this
  exact⟨Tryz.f122,111,25,1,4,by kernel_rfl,by kernel_rfl,by kernel_rfl,by kernel_rfl,by kernel_rfl,by kernel_rfl⟩
 HY:=fun f hf=>by cases hf
theorem mixed:Tryz.prog.follows .mixedOrders=true:=by kernel_rfl
def Iv:World→Prop:=fun w=>∃ m,w.cell? ⟨0,0,none⟩=some (.int .i64 m)
theorem adF (w w1 w2:World) (hw:Iv w) (h:∀ c,c<w.heap.size→w2.heap[c]?=w1.heap[c]?) (h1:Iv w1) : Iv w2:=by
 obtain⟨m0,hm0⟩:=hw
 obtain⟨m,hm⟩:=h1
 refine⟨m, ?_⟩
 have hlt:0<w.heap.size:=by
  rcases Nat.lt_or_ge 0 w.heap.size with h | h
  ·exact h
  ·simp[World.cell?,Array.getElem?_eq_none h] at hm0
 simpa [World.cell?,h 0 hlt] using hm
def row (x:List UInt8 × List UInt8 × Int) : aH := { args:=[.sc (.string ⟨⟨x.1⟩⟩),.sc (.string ⟨⟨x.2.1⟩⟩)],ans:=.val (.sc (.int .i64 x.2.2)) }
theorem acT (x:List UInt8 × List UInt8 × Int) (h:Lib.index x.1 x.2.1=x.2.2) (hl:x.1.length<4294967281) : wJ Tryz.prog Iv 90 (row x):=by
 refine wJ.val rfl fun w ⟨m,hm⟩ ρ us hus=>?_
 cases hus with
 | cons _ u1 _ us r1 hus =>
 cases hus with
 | cons _ u2 _ us r2 hus =>
 cases hus
 obtain⟨rfl,_⟩:=bi r1
 obtain⟨rfl,_⟩:=bi r2
 refine(Tryz.index_fact _ _ m w (by simpa [ByteArray.size] using hl) hm).mono fun e w' hR=>?_
 obtain⟨rfl,rfl⟩:=hR
 exact⟨⟨_,rfl,fun ρ=>by rw[← h]; exact .sc _ rfl⟩,rfl⟩
def known:List (List UInt8 × List UInt8 × Int):=[([99],[98,111],-1),([98,111,98],[98,111],0),([99],[97,110],-1),([98,111,98],[97,110],-1),([53],[97,110],-1),([97],[],0),([98],[],0)]
def T0:Table:=[(90,known.map row)]
theorem Z6:(known.all fun x=>decide (Lib.index x.1 x.2.1=x.2.2) && Nat.ble x.1.length 4000)=true:=by kernel_rfl
theorem t0:jX Tryz.prog Iv T0:=by
 intro g hg e he
 have hg:g=(90,known.map row):=by simpa [T0] using hg
 subst hg
 obtain⟨x,hx,rfl⟩:=List.mem_map.1 he
 have:=List.all_eq_true.1 Z6 x hx
 rw[Bool.and_eq_true,decide_eq_true_iff] at this
 exact acT x this.1 (by have:=bG this.2; omega)
end Go.Proofs.YtngfappichkflaaGreat
namespace Go.Proofs.YtngfappichkflaaGreat.kJ
open Go Go.Ab Go.Ab.ay Go.Ab.Crw Go.Ab.Crw.Viw Go.RowKit
theorem own:aaX 30 (ax 17):=by
 intro M v l Q h1 h2 h3
 obtain⟨a0,e,h⟩:=ZC (TE:=30) Zj h1 h2 h3
 cases e
 exact H8 h
theorem ag0:WN 91 116 (ax 10):=by
 intro M v l Q h1 h2 h3
 obtain⟨a0,e,h⟩:=Va abC apply h1 h2 h3
 cases e
 exact I8 h
theorem acv:Je (ax 14):=by
 intro M v xs Q h1 h2 h3
 obtain⟨a0,e,h⟩:=RY (TN:=40) abO h1 h2 h3
 cases e
 exact Fh h
theorem groups:NM (ax 40):=by
 intro M v es Q h1 h2 h3
 obtain⟨a0,e,h⟩:=Uw (TN:=40) (TS:=47) h1 h2 h3
 cases e
 exact Fu h
theorem fields:H5 91 116 64 (ax 32):=by
 intro M t B ps es s Q h1 h2 h3
 obtain⟨a0,a1,e,h⟩:=UD (TF:=64) N8 groups acv h1 h2 h3
 cases e
 exact Fp h
theorem agJ:aah 91 116 64 (ax 12):=by
 intro M t B ps es s Q h1 h2 h3 h4
 obtain⟨a0,a1,e,h⟩:=ZR fields h1 h2 h3 h4
 cases e
 exact IU h
theorem abg:Gy (ax 34):=by
 intro M x y Q h1
 obtain⟨a0,a1,e,h⟩:=PH (TL:=44) adr or_ h1
 cases e
 exact Ff h
abbrev fL:AV:=.fn (.func 34) [] []
theorem cmpL:iR bA uZ (bD (ax) fL):=ab3 abg
theorem eX:SortG bA 44 3 fL (Sort.insertionSort uZ) (fun _ _ _=>True) (ax 80):=by
 intro M b a e d Q h1 h2 h3 h4 h5 h6
 obtain⟨a0,a1,a2,a3,e,h⟩:=Crw.eX (cv:=ax) cmpL h1 h2 h3 h4 h5 h6
 cases e
 exact jv h
theorem aaF:SortG bA 44 3 fL Sort.reverseRange (fun _ a e=>a<e) (ax 84):=by
 intro M b a e d Q h1 h2 h3 h4 h5 h6
 obtain⟨a0,a1,a2,a3,e,h⟩:=Crw.aaF h1 h2 h3 h4 h5 h6
 cases e
 exact pO h
theorem XQ:WV 44 fL uZ (ax 109):=by
 intro M b lo hi first d Q h1 h2 h3 h4 h5
 obtain⟨a0,a1,a2,a3,a4,e,h⟩:=Crw.XQ (cv:=ax) cmpL h1 h2 h3 h4 h5
 cases e
 exact rM h
theorem Xu:SortG bA 44 3 fL (Sort.heapSort uZ) (fun _ a e=>a<e) (ax 81):=by
 intro M b a e d Q h1 h2 h3 h4 h5 h6
 obtain⟨a0,a1,a2,a3,e,h⟩:=Crw.Xu XQ h1 h2 h3 h4 h5 h6
 cases e
 exact rP h
theorem N7:ML 44 fL uZ (ax 86):=by
 intro M b a e pv d Q h1 h2 h3 h4 h5 h6
 obtain⟨a0,a1,a2,a3,a4,e,h⟩:=Crw.N7 (cv:=ax) cmpL h1 h2 h3 h4 h5 h6
 cases e
 exact oF h
theorem Ws:Wv 44 fL uZ (ax 87):=by
 intro M b a e pv d Q h1 h2 h3 h4 h5 h6
 obtain⟨a0,a1,a2,a3,a4,e,h⟩:=Crw.Ws (cv:=ax) cmpL h1 h2 h3 h4 h5 h6
 cases e
 exact rq h
theorem Nr:MF 44 3 fL uZ (ax 137):=by
 intro M b s k i j d Q h1 h2 h3 h4 h5 h6
 obtain⟨a0,a1,a2,a3,a4,e,h⟩:=Crw.Nr (cv:=ax) cmpL h1 h2 h3 h4 h5 h6
 cases e
 exact ug h
theorem GY:GU 44 3 fL uZ (ax 113):=by
 intro M b s k i j h d Q h1 h2 h3 h4 h5 h6 h7
 obtain⟨a0,a1,a2,a3,a4,a5,e,h⟩:=Crw.GY Nr h1 h2 h3 h4 h5 h6 h7
 cases e
 exact ui h
theorem NJ:Nl 44 3 fL uZ (ax 112):=by
 intro M b s k i d Q h1 h2 h3 h4 h5 h6 h7
 obtain⟨a0,a1,a2,a3,e,h⟩:=Crw.NJ GY h1 h2 h3 h4 h5 h6 h7
 cases e
 exact oI h
theorem MS:MO 44 fL uZ (ax 83):=by
 intro M b a e d Q h1 h2 h3 h4 h5
 obtain⟨a0,a1,a2,a3,e,h⟩:=Crw.MS NJ GY h1 h2 h3 h4 h5
 cases e
 exact qg h
theorem JD:Jd 44 fL uZ (ax 85):=by
 intro M b a e d Q h1 h2 h3 h4 h5
 obtain⟨a0,a1,a2,a3,e,h⟩:=Crw.JD (cv:=ax) cmpL h1 h2 h3 h4 h5
 cases e
 exact mr h
theorem RF:SortG bA 44 3 fL Sort.breakPatterns (fun _ _ _=>True) (ax 82):=by
 intro M b a e d Q h1 h2 h3 h4 h5 h6
 obtain⟨a0,a1,a2,a3,e,h⟩:=Crw.RF Xr ZI h1 h2 h3 h4 h5 h6
 cases e
 exact oU h
theorem WO:∀ m,XH 44 m fL uZ (ax 62)
 | 0=>by intro h1 h2 h3 h4 h5; omega
 | m + 1=>by
   intro h1 h2 h3 h4 h5 h6 hQ
   obtain⟨a0,a1,a2,a3,a4,e,h⟩:=Crw.WO (cv:=ax) Og eX Xu RF MS aaF JD cmpL N7 Ws (WO m) h1 h2 h3 h4 h5 h6 hQ
   cases e
   exact lq h
theorem Nt:MX (ax 80):=by
 intro M v fv Q h1
 obtain⟨a0,a1,a2,a3,e,h⟩:=Crw.Nt (cv:=ax) h1
 cases e
 exact jv h
theorem NK:Nu (ax 62):=by
 intro M v fv Q h1
 obtain⟨a0,a1,a2,a3,a4,e,h⟩:=Crw.NK (cv:=ax) Nt h1
 cases e
 exact lq h
theorem Np:MC fL uZ 44 (ax 33):=by
 intro M base v xs Q h1 h2 h3
 obtain⟨a0,a1,e,h⟩:=Crw.Np Og RA WO NK h1 h2 h3
 cases e
 exact qB h
theorem ae2:Xx 91 116 44 (ax 13):=by
 intro M t C ps es Q h1 h2 h3
 obtain⟨a0,e,h⟩:=YY (TF:=64) ZV fields Np h1 h2 h3
 cases e
 exact Ie h
end Go.Proofs.YtngfappichkflaaGreat.kJ
namespace Go.Proofs.YtngfappichkflaaGreat.kJ
open Go Go.Ab Go.Ab.ay Go.Ab.Crw Go.RowKit
theorem Io {α:Type} {R:q8 α} {M:RM} {S:Nat→Prop} {p:α→Prop} : ∀ (n:Nat) (ds:List AV),ds.length=n * R.size→(∀ i,i<n→∃ a,p a∧R.rel M ((ds.drop (i * R.size)).take R.size) a S) →
  ∃ xs:List α,xs.length=n∧dY R M S ds xs∧∀ x∈xs,p x
 | 0,ds,hl,_=>by
   have:ds=[]:=by simpa using hl
   subst this
   exact⟨[],rfl,.nil,by simp⟩
 | n + 1,ds,hl,h=>by
   obtain⟨a,pa,ha⟩:=h 0 (by omega)
   simp only[Nat.zero_mul,List.drop_zero] at ha
   have hl' : (ds.drop R.size).length=n * R.size:=by rw[List.length_drop,hl,Nat.succ_mul]; omega
   obtain⟨xs,h1,h2,h3⟩:=Io n (ds.drop R.size) hl' fun i hi=>by
    obtain⟨b,pb,hb⟩:=h (i + 1) (by omega)
    refine⟨b,pb, ?_⟩
    rw[List.drop_drop,show R.size + i * R.size=(i + 1) * R.size by rw[Nat.succ_mul,Nat.add_comm]]
    exact hb
   refine⟨a :: xs,by simp[h1], ?_,fun x hx=>?_⟩
   ·have:=dY.cons ha h2
    rwa [List.take_append_drop] at this
   ·rcases List.mem_cons.1 hx with rfl | hx
    ·exact pa
    ·exact h3 x hx
theorem cells3:Tryz.prog.cellsOf 3=1:=by kernel_rfl
theorem acQ:Tryz.prog.cellsOf 9=1:=by kernel_rfl
theorem aci:Tryz.prog.cellsOf 25=1:=by kernel_rfl
theorem H6:Tryz.prog.cellsOf 27=2:=by kernel_rfl
theorem acA:Tryz.prog.cellsOf 28=1:=by kernel_rfl
theorem MV:Tryz.prog.cellsOf 30=7:=by kernel_rfl
theorem Sc {M:RM} {cs:List AV} (h:Fits Tryz.prog M 27 cs) : ∃ d:ay,cs=aV.cells d∧d.2<2 ^ 64:=by
 obtain⟨hl,hf⟩:=h.Kk Tryz.underlying27
 rw[H6] at hl
 match cs,hl with
 | [a,b],_ =>
   have f0:Fits Tryz.prog M 3 (([a,b].drop 0).take (Tryz.prog.cellsOf 3)):=hf 0 _ rfl
   have f1:Fits Tryz.prog M 25 (([a,b].drop 1).take (Tryz.prog.cellsOf 25)):=hf 1 _ rfl
   rw[cells3] at f0
   rw[aci] at f1
   obtain⟨n,e,_,_⟩:=f0.Hf Tryz.underlying3
   obtain⟨m,e',g1,g2⟩:=f1.Hf Tryz.underlying25
   have g1:(0:Int)≤m:=g1
   have g2:m≤(18446744073709551615:Int):=g2
   obtain⟨k,rfl⟩:=Int.eq_ofNat_of_zero_le g1
   cases e; cases e'
   exact⟨(n,k),rfl,by show k<2 ^ 64; omega⟩
theorem Zz {M:RM} {cs:List AV} (h:Fits Tryz.prog M 28 cs) : ∃ v,∃ l:List ay,cs=[v]∧Sl aV M v l∧∀ d∈l,d.2<2 ^ 64:=by
 obtain⟨v,n,ds,rfl,hs,hb,he⟩:=h.O8 Tryz.underlying28 (by rw[H6]; decide)
 rw[H6] at hs he
 obtain⟨xs,rfl,rfl,hp⟩:=Pz (size:=2) aV.cells (fun d:ay=>d.2<2 ^ 64) (fun _=>rfl) n ds hs.length fun i hi=>by
  obtain⟨d,e,h⟩:=Sc (he i hi)
  exact⟨d,h,e⟩
 exact⟨v,xs,rfl,hs,hp⟩
def aaQ (x:Ev) : Prop:=x.1.1.2<2 ^ 64∧x.1.2.2.1.length≤reachBytes∧x.1.2.2.2.1.length≤reachBytes∧x.1.2.2.2.2.length≤reachBytes∧∀ d∈x.2,d.2<2 ^ 64
theorem ab2 {M:RM} {cs:List AV} (h:Fits Tryz.prog M 30 cs) : ∃ e kv ks,cs=bg e kv∧Sl aV M kv ks∧aaQ (e,ks):=by
 obtain⟨hl,hf⟩:=h.Kk Tryz.underlying30
 rw[MV] at hl
 match cs,hl with
 | [a,b,c,d,e,f,g],_ =>
   have f0:Fits Tryz.prog M 27 (([a,b,c,d,e,f,g].drop 0).take (Tryz.prog.cellsOf 27)):=hf 0 _ rfl
   have f1:Fits Tryz.prog M 3 (([a,b,c,d,e,f,g].drop 2).take (Tryz.prog.cellsOf 3)):=hf 1 _ rfl
   have f2:Fits Tryz.prog M 9 (([a,b,c,d,e,f,g].drop 3).take (Tryz.prog.cellsOf 9)):=hf 2 _ rfl
   have f3:Fits Tryz.prog M 9 (([a,b,c,d,e,f,g].drop 4).take (Tryz.prog.cellsOf 9)):=hf 3 _ rfl
   have f4:Fits Tryz.prog M 9 (([a,b,c,d,e,f,g].drop 5).take (Tryz.prog.cellsOf 9)):=hf 4 _ rfl
   have f5:Fits Tryz.prog M 28 (([a,b,c,d,e,f,g].drop 6).take (Tryz.prog.cellsOf 28)):=hf 5 _ rfl
   rw[H6] at f0
   rw[cells3] at f1
   rw[acQ] at f2 f3 f4
   rw[acA] at f5
   obtain⟨dd,e0,g0⟩:=Sc f0
   obtain⟨op,e1,_,_⟩:=f1.Hf Tryz.underlying3
   obtain⟨s2,e2,g2⟩:=f2.zK Tryz.underlying9
   obtain⟨s3,e3,g3⟩:=f3.zK Tryz.underlying9
   obtain⟨s4,e4,g4⟩:=f4.zK Tryz.underlying9
   obtain⟨kv,ks,e5,hk,g5⟩:=Zz f5
   cases e0; cases e1; cases e2; cases e3; cases e4; cases e5
   exact⟨(dd,(op,(s2,(s3,s4)))),_,ks,rfl,hk,g0,g2,g3,g4,g5⟩
theorem aaR {M:RM} {cs:List AV} (h:Fits Tryz.prog M 32 cs) : ∃ v,∃ l:List Ev,cs=[v]∧fG oC M v l (fun d=>d<M.next)∧∀ x∈l,aaQ x:=by
 obtain⟨v,n,ds,rfl,hs,hb,he⟩:=h.O8 Tryz.underlying32 (by rw[MV]; decide)
 rw[MV] at hs he
 obtain⟨xs,hn,hr,hp⟩:=Io (R:=oC) (M:=M) (S:=fun d=>d<M.next) (p:=aaQ) n ds hs.length fun i hi=>by
  obtain⟨e,kv,ks,e1,hk,ho⟩:=ab2 (he i hi)
  refine⟨(e,ks),ho, ?_⟩
  show oC.rel M ((ds.drop (i * 7)).take 7) (e,ks) _
  rw[e1]
  exact X7 hk (fun d hd=>aR.lt hk d hd)
 subst hn
 exact⟨v,xs,rfl,⟨ds,hs,fun d hd=>hs.lt d hd,hr⟩,hp⟩
end Go.Proofs.YtngfappichkflaaGreat.kJ
namespace Go.Proofs.YtngfappichkflaaGreat
open Go Go.Ab Go.RowKit
def c0:AV:=.sc (.int .i64 0)
def c1:AV:=.sc (.int .u64 1)
def c2:AV:=.sc (.string ⟨⟨ [99] ⟩⟩)
def c3:AV:=.sc (.string ⟨⟨ [102,110] ⟩⟩)
def c4:AV:=.sc (.string ⟨⟨ [65,110,110] ⟩⟩)
def c5:AV:=.sc (.int .i64 1)
def c6:AV:=.sc (.slice none 0 0)
def c7:AV:=.agg [c0,c1,c5,c2,c3,c4,c6]
def c8:AV:=.sc (.string ⟨⟨ [66,111,98] ⟩⟩)
def c9:AV:=.agg [c5,c1,c5,c2,c3,c8,c6]
def c10:AV:=.sc (.int .u64 2)
def c11:AV:=.sc (.string ⟨⟨ [116,101,108] ⟩⟩)
def c12:AV:=.sc (.string ⟨⟨ [53] ⟩⟩)
def c13:AV:=.agg [c0,c10,c5,c2,c11,c12,c6]
def c14:AV:=.ptr 1 0
def c15:Option AV:=some c6
def c16:Tree AV:=.node .leaf c15 .leaf
def c17:Tree AV:=.node c16 c15 .leaf
def c18:Tree AV:=.node c17 c15 c16
def c19:Tree AV:=.node c16 c15 c16
def c20:Tree AV:=.node c18 c15 c19
def c21:Tree AV:=.node c19 c15 c19
def Yh:Tree AV:=.node c20 c15 c21
def c23:AV:=.sc (.int .u64 0)
def c24:Option AV:=some c23
def c25:Tree AV:=.node .leaf c24 .leaf
def c26:Tree AV:=.node c25 c24 c25
def c27:Tree AV:=.node c26 c24 c26
def c28:Tree AV:=.node c27 c24 c27
def wY:dL:=.row 32 (.node Yh c24 c28) [] false 116 0
def yD:AV:=.ptr 4 0
def c31:AV:=.ptr 16 0
def c32:AV:=.agg [c0,c1]
def pG:AV:=.sc (.bool true)
def c34:AV:=.agg [c5,c1]
def gG:Option AV:=some c1
def c37:Tree AV:=.node .leaf gG .leaf
def ql:dL:=.row 1 c37 [] true 25 0
def Br:Option AV:=some (.emp 10)
def CL:AV:=.tup []
def c42:AV:=.ptr 4 2
def c43:dL:=.row 32 (.node Yh gG c28) [] false 116 0
def lu:AV:=.sc (.bool false)
def c46:AV:=.slc 12 0 1 (.op 5)
def Px:Option AV:=some c3
def RL:Tree AV:=.node .leaf Px .leaf
def c49:Option AV:=some c0
def c50:Option AV:=some c4
def c51:Tree AV:=.node .leaf c50 .leaf
def IM:Option AV:=some c2
def c53:dL:=.row 5 (.node (.node RL gG .leaf) c49 (.node c51 IM .leaf)) [] true 40 0
def OP:AV:=.slc 14 0 1 (.op 5)
def IA:AV:=.sc (.int .i64 (-1))
def lV:Option AV:=some (.emp 54)
def c59:AV:=.ptr 62 0
def jY:Tree AV:=.node c27 gG c27
def eU:Option AV:=some c10
def X5:Tree AV:=.node .leaf eU .leaf
def gX:dL:=.row 1 X5 [] true 25 0
def c64:Option AV:=some (.emp 100)
def c66:AV:=.slc 58 0 2 (.op 5)
def Bn:Tree AV:=.node .leaf IM .leaf
def c68:Option AV:=some c8
def O0:Tree AV:=.node .leaf c68 .leaf
def c70:Option AV:=some c5
def Be:dL:=.row 10 (.node (.node (.node Bn Px .leaf) gG (.node O0 c70 .leaf)) c49 (.node (.node RL c50 .leaf) IM c37)) [] true 40 0
def c72:AV:=.slc 60 0 2 (.op 5)
def OW:Tree AV:=.node .leaf c70 .leaf
def c75:Tree AV:=.node .leaf c49 .leaf
def c76:AV:=.agg [c0,c10]
def c77:AV:=.slc 104 0 3 (.op 5)
def c78:Option AV:=some c11
def Rp:Tree AV:=.node .leaf c78 .leaf
def c80:Tree AV:=.node .leaf (some c12) .leaf
def kE:dL:=.row 15 (.node (.node (.node Bn Px X5) gG (.node O0 c70 Rp)) c49 (.node (.node RL c50 Bn) IM (.node c75 gG c80))) [] true 40 0
def qZ:AV:=.slc 106 0 3 (.op 5)
def c83:AV:=.slc 184 0 3 (.op 5)
def c84:AV:=.slc 187 0 3 (.op 5)
def c85:AV:=.sc (.string ⟨⟨ [49] ⟩⟩)
def c86:Option AV:=some c85
def c87:Tree AV:=.node .leaf c86 .leaf
def pM:AV:=.sc (.string ⟨⟨ [98] ⟩⟩)
def OJ:Option AV:=some pM
def Cw:dL:=.row 5 (.node (.node Rp gG .leaf) c49 (.node c87 OJ .leaf)) [] true 40 0
def c91:Tree AV:=.node .leaf OJ .leaf
def yA:AV:=.sc (.string ⟨⟨ [97] ⟩⟩)
def c93:Option AV:=some yA
def qd:dL:=.row 10 (.node (.node (.node c91 Px .leaf) eU (.node c87 c49 .leaf)) c49 (.node (.node Rp OJ .leaf) c93 c37)) [] true 40 0
def gY:AV:=.ptr 2 0
def c98:AV:=.slc 115 0 3 (.op 5)
def c99:AV:=.slc 154 0 3 (.op 5)
def ads:AV:=.slc 215 0 3 (.op 5)
def ada:AV:=.slc 257 0 3 (.op 5)
def adb:AV:=.slc 70 0 1 (.op 5)
def adY:Tree AV:=.node c91 c93 .leaf
def EG:dL:=.row 5 (.node (.node RL eU .leaf) c49 adY) [] true 40 0
def c105:AV:=.slc 89 0 1 (.op 5)
def Eo:dL:=.row 5 (.node (.node Rp eU .leaf) c49 (.node c80 IM .leaf)) [] true 40 0
def c107:AV:=.slc 128 0 1 (.op 5)
def aef:AV:=.slc 123 0 2 (.op 5)
def c109:AV:=.slc 167 0 1 (.op 5)
def adf:AV:=.slc 162 0 2 (.op 5)
def adQ:AV:=.slc 228 0 1 (.op 5)
def aed:AV:=.slc 223 0 2 (.op 5)
def ac3:AV:=.slc 270 0 1 (.op 5)
def aem:AV:=.slc 265 0 2 (.op 5)
def aee:AV:=.slc 76 0 1 (.op 5)
def c116:AV:=.slc 94 0 1 (.op 5)
def c117:dL:=.row 1 Bn [] true 9 0
def aax:dL:=.row 2 adY [] true 9 0
def c119:AV:=.slc 182 0 1 (.op 3)
def aac:AV:=.sc (.int .i64 2)
def Vx:Option AV:=some aac
def acR:AV:=.sc (.string ⟨⟨ [66,79] ⟩⟩)
def QG:AV:=.sc (.string ⟨⟨ [98,111] ⟩⟩)
def c124:AV:=.sc (.string ⟨⟨ [98,111,98] ⟩⟩)
def Ej:AV:=.sc (.string ⟨⟨ [97,110] ⟩⟩)
def aaM:AV:=.agg [c0,c1,c5,pM,c11,c85,c6]
def c127:AV:=.agg [c0,c10,c5,yA,c3,pM,c6]
def rf:AV:=.sc (.string ⟨⟨ [] ⟩⟩)
def ac6:AV:=.slc 112 0 1 (.op 5)
def c130:AV:=.slc 130 0 1 (.op 5)
def c131:AV:=.slc 118 0 1 (.op 5)
def aeg:AV:=.slc 135 0 1 (.op 5)
def acV:AV:=.slc 145 0 2 (.op 5)
def QP:AV:=.agg [c5,c1,c2,c3,c8]
def WJ:AV:=.tup [QP,pG]
def ZM:AV:=.agg [c0,c10,c2,c11,c12]
def Tu:AV:=.tup [ZM,pG]
def c138:AV:=.agg [c0,c10,yA,c3,pM]
def c139:AV:=.tup [c138,pG]
def WY:AV:=.agg [c0,c1,pM,c11,c85]
def c141:AV:=.tup [WY,pG]
def VO:AV:=.agg [c0,c1,c2,c3,c4]
def c143:AV:=.ptr 3 0
def Ga:Tree AV:=.node RL c70 c16
def c145:AV:=.ptr 15 0
def c146:AV:=.ptr 61 0
def NH:Tree AV:=.node Rp c70 c16
def c148:Tree AV:=.node .leaf c93 .leaf
def ac9:AV:=.slc 139 0 2 (.op 3)
def Tn:dL:=.row 6 (.node (.node Rp c68 OW) Px (.node c80 Vx .leaf)) [] true 64 0
def aej:dL:=.row 3 (.node c91 Px OW) [] true 64 0
def c152:dL:=.row 3 (.node c87 c78 OW) [] true 64 0
def aat:AV:=.slc 102 0 2 (.op 3)
def c154:AV:=.tup [pG,c0]
def B1:Table:=[(11,[{args:=[c0,c1,c2,c3,c4],nx:=0,ans:=.val c7},{args:=[c5,c1,c2,c3,c8],nx:=0,ans:=.val c9},{args:=[c0,c10,c2,c11,c12],nx:=0,ans:=.val c13}]),(47,[{args:=[],ans:=.rows 1 c14 [(1,wY)] 2},{args:=[],ans:=.rows 4 yD [(4,wY)] 5},{args:=[],ans:=.rows 16 c31 [(16,wY)] 17}]),(69,[{args:=[c32],nx:=5,ans:=.val pG},{args:=[c34],nx:=17,ans:=.val pG}]),(70,[{args:=[c2,c3,c4],nx:=5,ans:=.val pG},{args:=[c2,c3,c8],nx:=17,ans:=.val pG}]),(92,[{args:=[c6],nx:=7,ans:=.val CL}]),(93,[{args:=[c6],nx:=7,ans:=.val c6}]),(73,[{args:=[c14,c1],fp:=[(1,wY)],nx:=12,ans:=.val lu}]),(77,[{args:=[c6,c32],nx:=17,ans:=.val IA}]),(57,[{args:=[yD,c14],fp:=[(1,wY),(10,ql),(4,(.row 32 (.node (.node c20 Br c21) gG c28) [] false 116 0))],nx:=15,ans:=.val lu}])]
theorem b1:mg Tryz.prog ext T0 100000 200 B1=true:=by kernel_rfl
def T1:Table:=B1++T0
theorem t1:jX Tryz.prog Iv T1:=t0.add Gm mixed b1
def B2:Table:=[ (73,[{args:=[c42,c1],fp:=[(10,ql),(4,(.row 32 (.node (.node c20 Br c21) gG c28) [] false 116 0))],nx:=56,ans:=.val lu}]),(36,[{args:=[c2,c2],nx:=61,ans:=.val c0},{args:=[c3,c3],nx:=61,ans:=.val c0}]),(77,[{args:=[c6,c34],nx:=63,ans:=.val IA}]),(57,[{args:=[c31,yD],fp:=[(10,ql),(4,(.row 32 (.node (.node c20 Br c21) gG c28) [] false 116 0)),(54,ql),(16,(.row 32 (.node (.node (.node c18 lV c19) c15 c21) gG jY) [] false 116 0))],nx:=61,ans:=.val lu}]),(69,[{args:=[c76],nx:=63,ans:=.val pG}]),(70,[{args:=[c2,c11,c12],nx:=63,ans:=.val pG}]),(47,[{args:=[],ans:=.rows 62 c59 [(62,wY)] 63}])]
theorem b2:mg Tryz.prog ext T1 100000 200 B2=true:=by kernel_rfl
def T2:Table:=B2++T1
theorem t2:jX Tryz.prog Iv T2:=t1.add Gm mixed b2
def B3:Table:=[(73,[{args:=[c31,c10],fp:=[(54,ql),(16,(.row 32 (.node (.node (.node c18 lV c19) c15 c21) gG jY) [] false 116 0))],nx:=102,ans:=.val lu},{args:=[yD,c10],fp:=[(10,ql),(4,(.row 32 (.node (.node c20 Br c21) gG c28) [] false 116 0))],nx:=56,ans:=.val lu}]),(36,[{args:=[c11,c3],nx:=107,ans:=.val c5},{args:=[yA,pM],nx:=61,ans:=.val IA},{args:=[c3,c11],nx:=61,ans:=.val IA},{args:=[pM,pM],nx:=105,ans:=.val c0}]),(77,[{args:=[c6,c76],nx:=109,ans:=.val IA}]),(57,[{args:=[c59,c31],fp:=[(54,ql),(16,(.row 32 (.node (.node (.node c18 lV c19) c15 c21) gG jY) [] false 116 0)),(100,gX),(62,(.row 32 (.node (.node c20 c64 c21) eU jY) [] false 116 0))],nx:=107,ans:=.val lu},{args:=[c31,yD],fp:=[(10,ql),(4,(.row 32 (.node (.node c20 Br c21) gG c28) [] false 116 0)),(54,gX),(16,(.row 32 (.node (.node c20 lV c21) eU c28) [] false 116 0))],nx:=61,ans:=.val lu}]),(61,[{args:=[gY,c2],fp:=[(106,kE),(100,gX),(62,(.row 32 (.node (.node c20 c64 c21) eU jY) [] false 116 0)),(2,(.row 2 (.node (.node .leaf (some qZ) .leaf) (some c59) .leaf) [] false 91 0))],ans:=.rows 107 c98 [(115,kE)] 116},{args:=[gY,c2],fp:=[(106,kE),(100,gX),(62,(.row 32 (.node (.node c20 c64 c21) eU jY) [] false 116 0)),(2,(.row 2 (.node (.node .leaf (some qZ) .leaf) (some c59) .leaf) [] false 91 0))],ans:=.rows 146 c99 [(154,kE)] 155},{args:=[gY,c2],fp:=[(106,kE),(100,gX),(62,(.row 32 (.node (.node c20 c64 c21) eU jY) [] false 116 0)),(2,(.row 2 (.node (.node .leaf (some qZ) .leaf) (some c59) .leaf) [] false 91 0))],ans:=.rows 207 ads [(215,kE)] 216},{args:=[gY,c2],fp:=[(106,kE),(100,gX),(62,(.row 32 (.node (.node c20 c64 c21) eU jY) [] false 116 0)),(2,(.row 2 (.node (.node .leaf (some qZ) .leaf) (some c59) .leaf) [] false 91 0))],ans:=.rows 249 ada [(257,kE)] 258},{args:=[gY,(.sc (.string ⟨⟨ [120] ⟩⟩))],fp:=[(60,qd),(54,gX),(16,(.row 32 (.node (.node c20 lV c21) eU c28) [] false 116 0)),(2,(.row 2 (.node (.node .leaf (some c72) .leaf) (some c31) .leaf) [] false 91 0))],nx:=61,ans:=.val c6},{args:=[gY,yA],fp:=[(60,qd),(54,gX),(16,(.row 32 (.node (.node c20 lV c21) eU c28) [] false 116 0)),(2,(.row 2 (.node (.node .leaf (some c72) .leaf) (some c31) .leaf) [] false 91 0))],ans:=.rows 68 adb [(70,EG)] 72},{args:=[gY,pM],fp:=[(60,qd),(54,gX),(16,(.row 32 (.node (.node c20 lV c21) eU c28) [] false 116 0)),(2,(.row 2 (.node (.node .leaf (some c72) .leaf) (some c31) .leaf) [] false 91 0))],ans:=.rows 86 c105 [(89,Cw)] 90}]),(40,[{args:=[c98],fp:=[(115,kE)],ans:=.rows 116 (.slc 126 0 2 (.op 1)) [(128,Eo),(123,Be),(126,(.row 2 (.node (.node .leaf (some c107) .leaf) (some aef) .leaf) [] true 47 0))] 129},{args:=[c99],fp:=[(154,kE)],ans:=.rows 155 (.slc 165 0 2 (.op 1)) [(167,Eo),(162,Be),(165,(.row 2 (.node (.node .leaf (some c109) .leaf) (some adf) .leaf) [] true 47 0))] 168},{args:=[c84],fp:=[(187,kE)],ans:=.rows 188 (.slc 198 0 2 (.op 1)) [(200,Eo),(195,Be),(198,(.row 2 (.node (.node .leaf (some (.slc 200 0 1 (.op 5))) .leaf) (some (.slc 195 0 2 (.op 5))) .leaf) [] true 47 0))] 201},{args:=[ads],fp:=[(215,kE)],ans:=.rows 216 (.slc 226 0 2 (.op 1)) [(228,Eo),(223,Be),(226,(.row 2 (.node (.node .leaf (some adQ) .leaf) (some aed) .leaf) [] true 47 0))] 229},{args:=[ada],fp:=[(257,kE)],ans:=.rows 258 (.slc 268 0 2 (.op 1)) [(270,Eo),(265,Be),(268,(.row 2 (.node (.node .leaf (some ac3) .leaf) (some aem) .leaf) [] true 47 0))] 271},{args:=[c6],nx:=61,ans:=.val c6},{args:=[adb],fp:=[(70,EG)],ans:=.rows 72 (.slc 74 0 1 (.op 1)) [(76,EG),(74,(.row 1 (.node .leaf (some aee) .leaf) [] true 47 0))] 77},{args:=[c105],fp:=[(89,Cw)],ans:=.rows 90 (.slc 92 0 1 (.op 1)) [(94,Cw),(92,(.row 1 (.node .leaf (some c116) .leaf) [] true 47 0))] 95}]),(37,[{args:=[c32,c32],nx:=132,ans:=.val lu},{args:=[c32,c34],nx:=133,ans:=.val pG},{args:=[c76,c76],nx:=138,ans:=.val lu},{args:=[c34,c76],nx:=190,ans:=.val pG}]),(26,[{args:=[gY],fp:=[(106,kE),(100,gX),(62,(.row 32 (.node (.node c20 c64 c21) eU jY) [] false 116 0)),(2,(.row 2 (.node (.node .leaf (some qZ) .leaf) (some c59) .leaf) [] false 91 0))],ans:=.rows 140 (.slc 142 0 1 (.op 1)) [(142,c117)] 145},{args:=[gY],fp:=[(106,kE),(100,gX),(62,(.row 32 (.node (.node c20 c64 c21) eU jY) [] false 116 0)),(2,(.row 2 (.node (.node .leaf (some qZ) .leaf) (some c59) .leaf) [] false 91 0))],ans:=.rows 202 (.slc 204 0 1 (.op 1)) [(204,c117)] 207},{args:=[gY],fp:=[(106,kE),(100,gX),(62,(.row 32 (.node (.node c20 c64 c21) eU jY) [] false 116 0)),(2,(.row 2 (.node (.node .leaf (some qZ) .leaf) (some c59) .leaf) [] false 91 0))],ans:=.rows 244 (.slc 246 0 1 (.op 1)) [(246,c117)] 249},{args:=[gY],fp:=[(60,qd),(54,gX),(16,(.row 32 (.node (.node c20 lV c21) eU c28) [] false 116 0)),(2,(.row 2 (.node (.node .leaf (some c72) .leaf) (some c31) .leaf) [] false 91 0))],ans:=.rows 61 (.slc 66 0 2 (.op 1)) [(66,aax)] 67}]),(62,[{args:=[c119,c0,c5,c5,(.fn (.func 34) [] [])],fp:=[(182,(.row 3 (.node O0 IM (.node .leaf Vx .leaf)) [] true 44 0))],nx:=183,ans:=.val CL}]),(38,[{args:=[acR],nx:=202,ans:=.val QG},{args:=[c2],nx:=207,ans:=.val c2},{args:=[c8],nx:=241,ans:=.val c124},{args:=[Ej],nx:=244,ans:=.val Ej},{args:=[c12],nx:=284,ans:=.val c12}]),(65,[{args:=[c2,QG],nx:=207,ans:=.val IA},{args:=[c124,QG],nx:=241,ans:=.val c0},{args:=[c2,Ej],nx:=249,ans:=.val IA},{args:=[c124,Ej],nx:=283,ans:=.val IA},{args:=[c12,Ej],nx:=284,ans:=.val IA}]),(11,[{args:=[c0,c1,pM,c11,c85],nx:=0,ans:=.val aaM},{args:=[c0,c10,yA,c3,pM],nx:=0,ans:=.val c127}]),(70,[{args:=[pM,c11,c85],nx:=5,ans:=.val pG},{args:=[yA,c3,pM],nx:=17,ans:=.val pG}])]
theorem b3:mg Tryz.prog ext T2 100000 200 B3=true:=by kernel_rfl
def T3:Table:=B3++T2
theorem t3:jX Tryz.prog Iv T3:=t2.add Gm mixed b3
def B4:Table:=[(36,[{args:=[pM,yA],nx:=105,ans:=.val c5}]),(14,[{args:=[c6],nx:=103,ans:=.val (.tup [(.agg [c0,c23,rf,rf,rf]),lu])}]),(38,[{args:=[rf],nx:=104,ans:=.val rf},{args:=[yA],nx:=110,ans:=.val yA},{args:=[pM],nx:=127,ans:=.val pM}]),(26,[{args:=[gY],fp:=[(60,qd),(54,gX),(16,(.row 32 (.node (.node c20 lV c21) eU c28) [] false 116 0)),(2,(.row 2 (.node (.node .leaf (some c72) .leaf) (some c31) .leaf) [] false 91 0))],ans:=.rows 104 (.slc 109 0 2 (.op 1)) [(109,aax)] 110}]),(65,[{args:=[yA,rf],nx:=110,ans:=.val c0},{args:=[pM,rf],nx:=127,ans:=.val c0}]),(61,[{args:=[gY,yA],fp:=[(60,qd),(54,gX),(16,(.row 32 (.node (.node c20 lV c21) eU c28) [] false 116 0)),(2,(.row 2 (.node (.node .leaf (some c72) .leaf) (some c31) .leaf) [] false 91 0))],ans:=.rows 110 ac6 [(112,EG)] 114},{args:=[gY,pM],fp:=[(60,qd),(54,gX),(16,(.row 32 (.node (.node c20 lV c21) eU c28) [] false 116 0)),(2,(.row 2 (.node (.node .leaf (some c72) .leaf) (some c31) .leaf) [] false 91 0))],ans:=.rows 127 c130 [(130,Cw)] 131}]),(40,[{args:=[ac6],fp:=[(112,EG)],ans:=.rows 114 (.slc 116 0 1 (.op 1)) [(118,EG),(116,(.row 1 (.node .leaf (some c131) .leaf) [] true 47 0))] 119},{args:=[c130],fp:=[(130,Cw)],ans:=.rows 131 (.slc 133 0 1 (.op 1)) [(135,Cw),(133,(.row 1 (.node .leaf (some aeg) .leaf) [] true 47 0))] 136},{args:=[acV],fp:=[(145,qd)],ans:=.rows 146 (.slc 153 0 2 (.op 1)) [(155,Cw),(150,EG),(153,(.row 2 (.node (.node .leaf (some (.slc 155 0 1 (.op 5))) .leaf) (some (.slc 150 0 1 (.op 5))) .leaf) [] true 47 0))] 156}])]
theorem b4:mg Tryz.prog ext T3 100000 200 B4=true:=by kernel_rfl
def T4:Table:=B4++T3
theorem t4:jX Tryz.prog Iv T4:=t3.add Gm mixed b4
def B5:Table:=[(29,[{args:=[],ans:=.rows 1 gY [(1,wY),(2,(.row 2 (.node c16 (some c14) .leaf) [] false 91 0))] 3}]),(48,[{args:=[c7],nx:=4,ans:=.val pG},{args:=[c9],nx:=16,ans:=.val pG},{args:=[c13],nx:=62,ans:=.val pG},{args:=[aaM],nx:=4,ans:=.val pG},{args:=[c127],nx:=16,ans:=.val pG}]),(71,[{args:=[yD,c14],fp:=[(1,wY),(4,wY)],nx:=5,ans:=.val CL},{args:=[c31,yD],fp:=[(10,ql),(4,(.row 32 (.node (.node c20 Br c21) gG c28) [] false 116 0)),(16,wY)],ans:=.rows 17 CL [(16,c43)] 49},{args:=[c59,c31],fp:=[(54,ql),(16,(.row 32 (.node (.node (.node c18 lV c19) c15 c21) gG jY) [] false 116 0)),(62,wY)],ans:=.rows 63 CL [(62,(.row 32 (.node Yh gG jY) [] false 116 0))] 95}]),(51,[{args:=[c14,c32],fp:=[(1,wY)],nx:=11,ans:=.val lu},{args:=[yD,c34],fp:=[(10,ql),(4,(.row 32 (.node (.node c20 Br c21) gG c28) [] false 116 0))],nx:=55,ans:=.val lu},{args:=[c31,c76],fp:=[(54,ql),(16,(.row 32 (.node (.node (.node c18 lV c19) c15 c21) gG jY) [] false 116 0))],nx:=101,ans:=.val lu},{args:=[yD,c76],fp:=[(10,ql),(4,(.row 32 (.node (.node c20 Br c21) gG c28) [] false 116 0))],nx:=55,ans:=.val lu}]),(52,[{args:=[c46,(.fn (.func 53) [] [])],fp:=[(12,c53)],nx:=13,ans:=.val CL},{args:=[c46,(.fn (.func 53) [] [])],fp:=[(12,Cw)],nx:=13,ans:=.val CL}]),(56,[{args:=[c6,c32],nx:=16,ans:=.val lu},{args:=[c6,c34],nx:=62,ans:=.val lu},{args:=[c6,c76],nx:=108,ans:=.val lu}]),(75,[{args:=[c34,c32],nx:=61,ans:=.val c5},{args:=[c76,c34],nx:=107,ans:=.val c5},{args:=[c76,c32],nx:=61,ans:=.val c5}]),(14,[{args:=[aef],fp:=[(123,Be)],nx:=129,ans:=.val WJ},{args:=[c107],fp:=[(128,Eo)],nx:=135,ans:=.val Tu},{args:=[adf],fp:=[(162,Be)],nx:=168,ans:=.val WJ},{args:=[c109],fp:=[(167,Eo)],nx:=174,ans:=.val Tu},{args:=[c83],fp:=[(184,kE)],nx:=185,ans:=.val Tu},{args:=[aed],fp:=[(223,Be)],nx:=229,ans:=.val WJ},{args:=[adQ],fp:=[(228,Eo)],nx:=235,ans:=.val Tu},{args:=[aem],fp:=[(265,Be)],nx:=271,ans:=.val WJ},{args:=[ac3],fp:=[(270,Eo)],nx:=277,ans:=.val Tu},{args:=[aee],fp:=[(76,EG)],nx:=77,ans:=.val c139},{args:=[c116],fp:=[(94,Cw)],nx:=95,ans:=.val c141},{args:=[c131],fp:=[(118,EG)],nx:=119,ans:=.val c139},{args:=[aeg],fp:=[(135,Cw)],nx:=136,ans:=.val c141}]),(33,[{args:=[c119,(.fn (.func 34) [] [])],fp:=[(182,(.row 3 (.node O0 IM (.node .leaf Vx .leaf)) [] true 44 0))],nx:=183,ans:=.val CL}]),(27,[{args:=[gY],fp:=[(106,kE),(100,gX),(62,(.row 32 (.node (.node c20 c64 c21) eU jY) [] false 116 0)),(2,(.row 2 (.node (.node .leaf (some qZ) .leaf) (some c59) .leaf) [] false 91 0))],ans:=.rows 183 c83 [(184,kE)] 185},{args:=[gY],fp:=[(106,kE),(100,gX),(62,(.row 32 (.node (.node c20 c64 c21) eU jY) [] false 116 0)),(2,(.row 2 (.node (.node .leaf (some qZ) .leaf) (some c59) .leaf) [] false 91 0))],ans:=.rows 186 c84 [(187,kE)] 188},{args:=[gY],fp:=[(60,qd),(54,gX),(16,(.row 32 (.node (.node c20 lV c21) eU c28) [] false 116 0)),(2,(.row 2 (.node (.node .leaf (some c72) .leaf) (some c31) .leaf) [] false 91 0))],ans:=.rows 144 acV [(145,qd)] 146}]),(39,[{args:=[c2,QG],nx:=207,ans:=.val lu},{args:=[c124,QG],nx:=241,ans:=.val pG},{args:=[c2,Ej],nx:=249,ans:=.val lu},{args:=[c124,Ej],nx:=283,ans:=.val lu},{args:=[c12,Ej],nx:=284,ans:=.val lu},{args:=[yA,rf],nx:=110,ans:=.val pG},{args:=[pM,rf],nx:=127,ans:=.val pG}]),(32,[{args:=[gY,(.sc (.string ⟨⟨ [120] ⟩⟩))],fp:=[(60,qd),(54,gX),(16,(.row 32 (.node (.node c20 lV c21) eU c28) [] false 116 0)),(2,(.row 2 (.node (.node .leaf (some c72) .leaf) (some c31) .leaf) [] false 91 0))],nx:=61,ans:=.val c6}]),(34,[{args:=[(.agg [pM,pM,c5]),(.agg [yA,pM,c5])],nx:=103,ans:=.val c5}])]
theorem b5:mg Tryz.prog ext T4 100000 200 B5=true:=by kernel_rfl
def T5:Table:=B5++T4
theorem t5:jX Tryz.prog Iv T5:=t4.add Gm mixed b5
def B6:Table:=[(49,[{args:=[c14],fp:=[(1,wY)],ans:=.rows 4 yD [(4,wY)] 5},{args:=[yD],fp:=[(10,ql),(4,(.row 32 (.node (.node c20 Br c21) gG c28) [] false 116 0))],ans:=.rows 16 c31 [(16,c43)] 49},{args:=[c31],fp:=[(54,ql),(16,(.row 32 (.node (.node (.node c18 lV c19) c15 c21) gG jY) [] false 116 0))],ans:=.rows 62 c59 [(62,(.row 32 (.node Yh gG jY) [] false 116 0))] 95}]),(50,[{args:=[yD,c32],fp:=[(4,wY)],ans:=.rows 7 c0 [(10,ql),(4,(.row 32 (.node (.node c20 Br c21) gG c28) [] false 116 0))] 11},{args:=[c31,c34],fp:=[(16,c43)],ans:=.rows 51 c0 [(54,ql),(16,(.row 32 (.node (.node (.node c18 lV c19) c15 c21) gG jY) [] false 116 0))] 55},{args:=[c59,c76],fp:=[(62,(.row 32 (.node Yh gG jY) [] false 116 0))],ans:=.rows 97 c0 [(100,gX),(62,(.row 32 (.node (.node c20 c64 c21) eU jY) [] false 116 0))] 101},{args:=[c31,c76],fp:=[(16,c43)],ans:=.rows 51 c0 [(54,gX),(16,(.row 32 (.node (.node c20 lV c21) eU c28) [] false 116 0))] 55}]),(55,[{args:=[VO,c143],fp:=[(3,(.row 7 (.node (.node Bn gG c51) c49 Ga) [] false 30 0))],nx:=15,ans:=.val lu},{args:=[VO,c145],fp:=[(15,(.row 7 (.node (.node Bn gG O0) c70 Ga) [] false 30 0))],nx:=61,ans:=.val lu},{args:=[QP,c145],fp:=[(15,(.row 7 (.node (.node Bn gG O0) c70 Ga) [] false 30 0))],nx:=61,ans:=.val lu},{args:=[VO,c146],fp:=[(61,(.row 7 (.node (.node Bn eU c80) c49 NH) [] false 30 0))],nx:=107,ans:=.val lu},{args:=[QP,c146],fp:=[(61,(.row 7 (.node (.node Bn eU c80) c49 NH) [] false 30 0))],nx:=107,ans:=.val lu},{args:=[ZM,c146],fp:=[(61,(.row 7 (.node (.node Bn eU c80) c49 NH) [] false 30 0))],nx:=107,ans:=.val lu},{args:=[WY,c143],fp:=[(3,(.row 7 (.node (.node c91 gG c87) c49 NH) [] false 30 0))],nx:=15,ans:=.val lu},{args:=[c138,c145],fp:=[(15,(.row 7 (.node (.node c148 eU c91) c49 Ga) [] false 30 0))],nx:=61,ans:=.val lu},{args:=[WY,c145],fp:=[(15,(.row 7 (.node (.node c148 eU c91) c49 Ga) [] false 30 0))],nx:=61,ans:=.val lu}]),(53,[{args:=[QP,VO],nx:=59,ans:=.val c5},{args:=[ZM,QP],nx:=105,ans:=.val c5},{args:=[c138,WY],nx:=59,ans:=.val IA}]),(32,[{args:=[gY,c2],fp:=[(106,kE),(100,gX),(62,(.row 32 (.node (.node c20 c64 c21) eU jY) [] false 116 0)),(2,(.row 2 (.node (.node .leaf (some qZ) .leaf) (some c59) .leaf) [] false 91 0))],ans:=.rows 107 ac9 [(139,Tn)] 140},{args:=[gY,c2],fp:=[(106,kE),(100,gX),(62,(.row 32 (.node (.node c20 c64 c21) eU jY) [] false 116 0)),(2,(.row 2 (.node (.node .leaf (some qZ) .leaf) (some c59) .leaf) [] false 91 0))],ans:=.rows 146 (.slc 178 0 2 (.op 3)) [(178,Tn)] 179},{args:=[gY,c2],fp:=[(106,kE),(100,gX),(62,(.row 32 (.node (.node c20 c64 c21) eU jY) [] false 116 0)),(2,(.row 2 (.node (.node .leaf (some qZ) .leaf) (some c59) .leaf) [] false 91 0))],ans:=.rows 207 (.slc 239 0 2 (.op 3)) [(239,Tn)] 240},{args:=[gY,c2],fp:=[(106,kE),(100,gX),(62,(.row 32 (.node (.node c20 c64 c21) eU jY) [] false 116 0)),(2,(.row 2 (.node (.node .leaf (some qZ) .leaf) (some c59) .leaf) [] false 91 0))],ans:=.rows 249 (.slc 281 0 2 (.op 3)) [(281,Tn)] 282},{args:=[gY,yA],fp:=[(60,qd),(54,gX),(16,(.row 32 (.node (.node c20 lV c21) eU c28) [] false 116 0)),(2,(.row 2 (.node (.node .leaf (some c72) .leaf) (some c31) .leaf) [] false 91 0))],ans:=.rows 68 (.slc 81 0 1 (.op 3)) [(81,aej)] 82},{args:=[gY,pM],fp:=[(60,qd),(54,gX),(16,(.row 32 (.node (.node c20 lV c21) eU c28) [] false 116 0)),(2,(.row 2 (.node (.node .leaf (some c72) .leaf) (some c31) .leaf) [] false 91 0))],ans:=.rows 86 (.slc 99 0 1 (.op 3)) [(99,c152)] 100},{args:=[gY,yA],fp:=[(60,qd),(54,gX),(16,(.row 32 (.node (.node c20 lV c21) eU c28) [] false 116 0)),(2,(.row 2 (.node (.node .leaf (some c72) .leaf) (some c31) .leaf) [] false 91 0))],ans:=.rows 110 (.slc 123 0 1 (.op 3)) [(123,aej)] 124},{args:=[gY,pM],fp:=[(60,qd),(54,gX),(16,(.row 32 (.node (.node c20 lV c21) eU c28) [] false 116 0)),(2,(.row 2 (.node (.node .leaf (some c72) .leaf) (some c31) .leaf) [] false 91 0))],ans:=.rows 127 (.slc 140 0 1 (.op 3)) [(140,c152)] 141}]),(16,[{args:=[gY],fp:=[(106,kE),(100,gX),(62,(.row 32 (.node (.node c20 c64 c21) eU jY) [] false 116 0)),(2,(.row 2 (.node (.node .leaf (some qZ) .leaf) (some c59) .leaf) [] false 91 0))],ans:=.rows 186 (.slc 201 0 2 (.op 5)) [(201,Be)] 202},{args:=[gY],fp:=[(60,qd),(54,gX),(16,(.row 32 (.node (.node c20 lV c21) eU c28) [] false 116 0)),(2,(.row 2 (.node (.node .leaf (some c72) .leaf) (some c31) .leaf) [] false 91 0))],nx:=144,ans:=.val c6}]),(12,[{args:=[gY,(.sc (.string ⟨⟨ [120] ⟩⟩))],fp:=[(60,qd),(54,gX),(16,(.row 32 (.node (.node c20 lV c21) eU c28) [] false 116 0)),(2,(.row 2 (.node (.node .leaf (some c72) .leaf) (some c31) .leaf) [] false 91 0))],nx:=61,ans:=.val (.tup [c6,(.sc (.int .i64 4))])}]),(62,[{args:=[aat,c0,aac,aac,(.fn (.func 34) [] [])],fp:=[(102,(.row 6 (.node (.node c91 OJ OW) c93 (.node c91 c70 .leaf)) [] true 44 0))],nx:=103,ans:=.val CL}])]
theorem b6:mg Tryz.prog ext T5 100000 200 B6=true:=by kernel_rfl
def T6:Table:=B6++T5
theorem t6:jX Tryz.prog Iv T6:=t5.add Gm mixed b6
def B7:Table:=[ (12,[{args:=[gY,c2],fp:=[(106,kE),(100,gX),(62,(.row 32 (.node (.node c20 c64 c21) eU jY) [] false 116 0)),(2,(.row 2 (.node (.node .leaf (some qZ) .leaf) (some c59) .leaf) [] false 91 0))],ans:=.rows 107 (.tup [ac9,c0]) [(139,Tn)] 140}]),(13,[{args:=[gY],fp:=[(106,kE),(100,gX),(62,(.row 32 (.node (.node c20 c64 c21) eU jY) [] false 116 0)),(2,(.row 2 (.node (.node .leaf (some qZ) .leaf) (some c59) .leaf) [] false 91 0))],ans:=.rows 140 c119 [(182,(.row 3 (.node O0 IM (.node .leaf Vx .leaf)) [] true 44 0))] 183}]),(15,[{args:=[gY,acR],fp:=[(106,kE),(100,gX),(62,(.row 32 (.node (.node c20 c64 c21) eU jY) [] false 116 0)),(2,(.row 2 (.node (.node .leaf (some qZ) .leaf) (some c59) .leaf) [] false 91 0))],ans:=.rows 202 (.slc 243 0 1 (.op 1)) [(243,c117)] 244},{args:=[gY,Ej],fp:=[(106,kE),(100,gX),(62,(.row 32 (.node (.node c20 c64 c21) eU jY) [] false 116 0)),(2,(.row 2 (.node (.node .leaf (some qZ) .leaf) (some c59) .leaf) [] false 91 0))],nx:=244,ans:=.val c6},{args:=[gY,rf],fp:=[(60,qd),(54,gX),(16,(.row 32 (.node (.node c20 lV c21) eU c28) [] false 116 0)),(2,(.row 2 (.node (.node .leaf (some c72) .leaf) (some c31) .leaf) [] false 91 0))],ans:=.rows 104 (.slc 143 0 2 (.op 1)) [(143,aax)] 144}]),(33,[{args:=[aat,(.fn (.func 34) [] [])],fp:=[(102,(.row 6 (.node (.node c91 OJ OW) c93 (.node c91 c70 .leaf)) [] true 44 0))],nx:=103,ans:=.val CL}])]
theorem b7:mg Tryz.prog ext T6 100000 200 B7=true:=by kernel_rfl
def T7:Table:=B7++T6
theorem t7:jX Tryz.prog Iv T7:=t6.add Gm mixed b7
def B8:Table:=[(54,[{args:=[OP,(.fn (.func 55) [] [c143])],fp:=[(3,(.row 7 (.node (.node Bn gG c51) c49 Ga) [] false 30 0)),(14,c53)],ans:=.rows 15 OP [] 15},{args:=[c72,(.fn (.func 55) [] [c145])],fp:=[(15,(.row 7 (.node (.node Bn gG O0) c70 Ga) [] false 30 0)),(60,Be)],ans:=.rows 61 c72 [] 61},{args:=[qZ,(.fn (.func 55) [] [c146])],fp:=[(61,(.row 7 (.node (.node Bn eU c80) c49 NH) [] false 30 0)),(106,kE)],ans:=.rows 107 qZ [] 107},{args:=[OP,(.fn (.func 55) [] [c143])],fp:=[(3,(.row 7 (.node (.node c91 gG c87) c49 NH) [] false 30 0)),(14,Cw)],ans:=.rows 15 OP [] 15},{args:=[c72,(.fn (.func 55) [] [c145])],fp:=[(15,(.row 7 (.node (.node c148 eU c91) c49 Ga) [] false 30 0)),(60,qd)],ans:=.rows 61 c72 [] 61}]),(52,[{args:=[c66,(.fn (.func 53) [] [])],fp:=[(58,Be)],nx:=59,ans:=.val CL},{args:=[c77,(.fn (.func 53) [] [])],fp:=[(104,kE)],nx:=105,ans:=.val CL},{args:=[c66,(.fn (.func 53) [] [])],fp:=[(58,(.row 10 (.node (.node (.node c148 c78 .leaf) gG (.node c91 c49 .leaf)) c49 (.node (.node RL c86 .leaf) OJ X5)) [] true 40 0))],ans:=.rows 59 CL [(58,qd)] 59}]),(13,[{args:=[gY],fp:=[(60,qd),(54,gX),(16,(.row 32 (.node (.node c20 lV c21) eU c28) [] false 116 0)),(2,(.row 2 (.node (.node .leaf (some c72) .leaf) (some c31) .leaf) [] false 91 0))],ans:=.rows 61 aat [(102,(.row 6 (.node (.node c91 OJ OW) c93 (.node c91 c70 .leaf)) [] true 44 0))] 103}])]
theorem b8:mg Tryz.prog ext T7 100000 200 B8=true:=by kernel_rfl
def T8:Table:=B8++T7
theorem t8:jX Tryz.prog Iv T8:=t7.add Gm mixed b8
def B9:Table:=[(30,[{args:=[gY,c7],fp:=[(1,wY),(2,(.row 2 (.node c16 (some c14) .leaf) [] false 91 0))],ans:=.rows 3 c154 [(14,c53),(10,ql),(4,(.row 32 (.node (.node c20 Br c21) gG c28) [] false 116 0)),(2,(.row 2 (.node (.node .leaf (some OP) .leaf) (some yD) .leaf) [] false 91 0))] 15},{args:=[gY,c9],fp:=[(14,c53),(10,ql),(4,(.row 32 (.node (.node c20 Br c21) gG c28) [] false 116 0)),(2,(.row 2 (.node (.node .leaf (some OP) .leaf) (some yD) .leaf) [] false 91 0))],ans:=.rows 15 c154 [(60,Be),(54,ql),(16,(.row 32 (.node (.node (.node c18 lV c19) c15 c21) gG jY) [] false 116 0)),(2,(.row 2 (.node (.node .leaf (some c72) .leaf) (some c31) .leaf) [] false 91 0))] 61},{args:=[gY,c13],fp:=[(60,Be),(54,ql),(16,(.row 32 (.node (.node (.node c18 lV c19) c15 c21) gG jY) [] false 116 0)),(2,(.row 2 (.node (.node .leaf (some c72) .leaf) (some c31) .leaf) [] false 91 0))],ans:=.rows 61 c154 [(106,kE),(100,gX),(62,(.row 32 (.node (.node c20 c64 c21) eU jY) [] false 116 0)),(2,(.row 2 (.node (.node .leaf (some qZ) .leaf) (some c59) .leaf) [] false 91 0))] 107},{args:=[gY,aaM],fp:=[(1,wY),(2,(.row 2 (.node c16 (some c14) .leaf) [] false 91 0))],ans:=.rows 3 c154 [(14,Cw),(10,ql),(4,(.row 32 (.node (.node c20 Br c21) gG c28) [] false 116 0)),(2,(.row 2 (.node (.node .leaf (some OP) .leaf) (some yD) .leaf) [] false 91 0))] 15},{args:=[gY,c127],fp:=[(14,Cw),(10,ql),(4,(.row 32 (.node (.node c20 Br c21) gG c28) [] false 116 0)),(2,(.row 2 (.node (.node .leaf (some OP) .leaf) (some yD) .leaf) [] false 91 0))],ans:=.rows 15 c154 [(60,qd),(54,gX),(16,(.row 32 (.node (.node c20 lV c21) eU c28) [] false 116 0)),(2,(.row 2 (.node (.node .leaf (some c72) .leaf) (some c31) .leaf) [] false 91 0))] 61}])]
theorem b9:mg Tryz.prog ext T8 100000 200 B9=true:=by kernel_rfl
def T9:Table:=B9++T8
theorem t9:jX Tryz.prog Iv T9:=t8.add Gm mixed b9
def B10:Table:=[(10,[{args:=[(.slc 0 0 3 (.ex 3))],fp:=[(0,(.row 21 (.node (.node (.node (.node X5 c70 .leaf) IM (.node c80 Px .leaf)) gG (.node (.node Bn c70 .leaf) c50 c16)) c49 (.node (.node (.node OW gG .leaf) Px (.node c16 c68 .leaf)) c70 (.node (.node Rp IM .leaf) c15 c75))) [c0,c23,c0,rf,rf,rf,c6] false 30 0))],ans:=.rows 1 gY [(106,kE),(100,gX),(62,(.row 32 (.node (.node c20 c64 c21) eU jY) [] false 116 0)),(2,(.row 2 (.node (.node .leaf (some qZ) .leaf) (some c59) .leaf) [] false 91 0))] 107},{args:=[(.slc 0 0 2 (.ex 2))],fp:=[(0,(.row 14 (.node (.node (.node c75 OJ RL) gG (.node OW c86 c16)) c49 (.node (.node X5 c78 c91) c70 (.node c148 c15 .leaf))) [c0,c23,c0,rf,rf,rf,c6] false 30 0))],ans:=.rows 1 gY [(60,qd),(54,gX),(16,(.row 32 (.node (.node c20 lV c21) eU c28) [] false 116 0)),(2,(.row 2 (.node (.node .leaf (some c72) .leaf) (some c31) .leaf) [] false 91 0))] 61}])]
theorem b10:mg Tryz.prog ext T9 100000 200 B10=true:=by kernel_rfl
def T10:Table:=B10++T9
theorem Py:jX Tryz.prog Iv T10:=t9.add Gm mixed b10
def B11:Table:=[(9,[{args:=[],nx:=0,ans:=.val pG}])]
theorem b11:mg Tryz.prog ext T10 100000 200 B11=true:=by kernel_rfl
def T11:Table:=B11++T10
theorem UQ:jX Tryz.prog Iv T11:=Py.add Gm mixed b11
theorem t:jX Tryz.prog Iv T11:=UQ
end Go.Proofs.YtngfappichkflaaGreat
namespace Go.Proofs.YtngfappichkflaaGreat.viewSame
open Go Go.Ab Go.ChangeShapes Go.WideShapes Go.ChangeAt Go.RowKit
theorem own:ownKnob Tryz.prog.godebug=none:=by kernel_rfl
open Go.Ab.ay Go.Ab.Crw Go.Ab.Crw.Viw Go.Proofs.YtngfappichkflaaGreat.kJ
def base (w:World) (hi:Iv w) : Base:=⟨w.heap.size,Iv,fun w1 w2 h h1=>adF w w1 w2 hi h h1⟩
theorem awake {B:Base} (hB:∀ w,B.inv w→Iv w) : YM B (iG Tryz.prog 9):=by
 intro M Q hM hQ
 exact XG t ⟨Tryz.f9,_,Tryz.func9,rfl⟩ (fun A=>by kernel_rfl) (hM▸hB) hQ
theorem walk (w:World) (hi:Iv w) (v0 v1 v2 v3 v4:Value) (h0:pE Tryz.prog (RM.old (base w hi) w) 32 (qb w.heap.size v0)) (h1:pE Tryz.prog (RM.old (base w hi) w) 3 (qb w.heap.size v1)) (h2:pE Tryz.prog (RM.old (base w hi) w) 9 (qb w.heap.size v2))
  (h3:pE Tryz.prog (RM.old (base w hi) w) 9 (qb w.heap.size v3)) (h4:pE Tryz.prog (RM.old (base w hi) w) 9 (qb w.heap.size v4)) :
  Calls Tryz.prog 8 #[v0,v1,v2,v3,v4] w fun e w'=>e=.returned (.bool true)∧Below w.heap.size w w':=by
 obtain⟨u0,l,e0,hl,_⟩:=aaR (h0.one (by kernel_rfl))
 obtain⟨n,e1,_,_⟩:=(h1.one (by kernel_rfl)).Hf Tryz.underlying3
 obtain⟨s2,e2,_⟩:=(h2.one (by kernel_rfl)).zK Tryz.underlying9
 obtain⟨s3,e3,_⟩:=(h3.one (by kernel_rfl)).zK Tryz.underlying9
 obtain⟨s4,e4,_⟩:=(h4.one (by kernel_rfl)).zK Tryz.underlying9
 refine iG.close (base:=base w hi) rfl hi ?_
 simp only[List.map_cons,List.map_nil]
 rw[show qb (base w hi).n v0=u0 from(List.cons.inj e0).1,show qb (base w hi).n v1=N .i64 n from(List.cons.inj e1).1,show qb (base w hi).n v2=_ from(List.cons.inj e2).1,show qb (base w hi).n v3=_ from(List.cons.inj e3).1,show qb (base w hi).n v4=_ from(List.cons.inj e4).1]
 have hb:∀ w',(base w hi).inv w'→Iv w':=fun _ h=>h
 obtain⟨a0,a1,a2,a3,a4,e,h⟩:=PQ (B:=base w hi) (TE:=30) (TD:=27) (TV:=30) (M:=RM.old (base w hi) w) (n:=n) (ct:=s2) (f:=s3) (a:=s4) (Q:=fun v _=>v=Bo true) (awake hb) kJ.own kJ.Yl kJ.ag0 kJ.abC kJ.apply kJ.ae2 kJ.acI kJ.agJ kJ.VV kJ.Ur rfl hl (fun M'=>rfl)
 cases e
 exact Ca h
set_option maxRecDepth 100000 in
theorem lifted (os:Os) (started:os.Started) (H:Type) (enc:TypeId × Value→H) :
  ReturnsInHanded {} Tryz.checked os 8 .any (Rows.viewSameSpec.pre6 enc Tryz.prog Tryz.f8 Rows.viewSameRow.domain false) (Rows.viewSameSpec.post enc Tryz.prog Tryz.f8 false true false false):=by
 refine returnsInHanded_of_change_shaped (C:=Tryz.checked) own started (by kernel_rfl) Tryz.func8
  (ChangeSpec.witness6 (enc:=enc) (C:=Tryz.checked) false ⟨#[],#[.slice none 0 0,.int .i64 0,.string ⟨#[]⟩,.string ⟨#[]⟩,.string ⟨#[]⟩],[]⟩ 8 (by kernel_rfl) (by kernel_rfl) (by kernel_rfl) (by kernel_rfl)) ?_
 intro W b0 args ds gs before hval hW hcnd hwt hsh _
 have hW':=hW
 obtain⟨p,q,hA,hV,rfl,hfz,hnd⟩:=hW
 rw[Tryz.params8] at hA hwt
 have hi:=Tryz.index_var W hsh
 obtain⟨rfl,rfl⟩:=trodVars_none hV
 have hfit:=Tm (base:=base W hi) rfl hA (fun j t v hj hv=>hval j t v (by rw[Tryz.params8]; simpa using hj) (by simpa using hv)) (fun y hy=>by
  have af9:(DataW.weightsEach Tryz.prog [32,3,9,9,9] (ds++[])).all (· ≤ reachBytes)=true:=hwt
  have:=List.all_eq_true.1 af9 y (by rw[List.append_nil]; exact hy)
  simpa using this)
 simp only[List.append_nil] at hW'
 have hlt:∀ x∈p,x.block<W.heap.size:=fun x hx=>hW'.lt x hx
 obtain⟨v0,v1,v2,v3,v4,d0,d1,d2,d3,d4,p0,p1,p2,p3,p4,rfl,rfl,rfl,h0,h1,h2,h3,h4⟩:=Rb hA
 refine(walk W hi v0 v1 v2 v3 v4 (hfit 0 _ _ rfl rfl) (hfit 1 _ _ rfl rfl) (hfit 2 _ _ rfl rfl) (hfit 3 _ _ rfl rfl) (hfit 4 _ _ rfl rfl)).mono fun e W' ⟨he,hg⟩=>?_
 subst he
 exact⟨_,rfl,PR (pa:=_) (pv:=[]) hW' (fun _ _ _=>(trodAll_cons_mk (shut_bool Tryz.underlying4 _) trodAll_mk0)) (fun sp hsp=>by
   rw[Tryz.params8]
   exact EQ (by kernel_rfl) hg (fun t ht=>by
    have ht:t=32∨t=3∨t=9∨t=9∨t=9:=by simpa using ht
    rcases ht with rfl | rfl | rfl | rfl | rfl <;> exact⟨by kernel_rfl,of_decide_eq_true (by kernel_rfl)⟩) hA hlt hsp) (fun _ _=>rfl) (by simp)
  hg (ok_one (by kernel_rfl) rfl (okWide_bool_mk Tryz.underlying4 _))⟩
theorem over:Rows.viewSameRow.holds Tryz.pinned (OpenSpec.ofChange Rows.viewSameSpec) :=
 OpenClaim.holds_of_wide 8 Tryz.f8 rfl rfl rfl rfl rfl rfl rfl ⟨rfl,rfl,rfl,rfl,rfl⟩ rfl rfl rfl rfl rfl (by kernel_rfl) Tryz.func8 (by kernel_rfl)
  (of_decide_eq_true (by kernel_rfl)) (by unfold Func.isWrapper; first | (rw[if_pos (by decide +kernel)]; kernel_rfl) | (rw[if_neg (by decide +kernel)]; exact⟨rfl,rfl⟩))
  (fun os started H enc _=>lifted os started H enc)
theorem proved:Rows.ViewSameSaid :=
 over
end Go.Proofs.YtngfappichkflaaGreat.viewSame
