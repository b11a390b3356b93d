/- 'ViewShows' returns true for all arguments: of any events each contact's fields, the list, what is found, what stands beside one another, is what the document says. No condition. By an AI agent. -/
import Derived.Test.YtngfappichkflaaGreatSho7
import Derived.KernelRfl
import Derived.Test.YtngfappichkflaaGreatProg
import Derived.Shelf.LaysM
import Derived.Shelf.Strings.Search2
import Derived.Test.YtngfappichkflaaGreatRows
import Derived.HandedShaped
import Derived.Carry
import Derived.WalkKit
import Derived.ProofKit
import Derived.OpenShut
set_option maxRecDepth 100000
set_option linter.unusedVariables false
set_option linter.unusedSimpArgs false
namespace Go.Proofs.YtngfappichkflaaGreat
open Go Go.Ab
abbrev ax := @iJ Tryz.prog
theorem pok:Qc Tryz.prog:=⟨Zx (by kernel_rfl),by kernel_rfl⟩
theorem aW {f:FuncId} {fn:Func} {args:List AV} {M:RM} {Q:aj} {B:Prop} (h:B) (hfn:Tryz.prog.funcs[f]?=some fn:=by kernel_rfl) (e:B=RY Tryz.prog fn args M Q:=by kernel_rfl) : ax f args M Q:=agi pok hfn (e▸h)
variable {a0 a1 a2 a3 a4 a5 a6 a7:AV} {M:RM} {Q:aj}
theorem Dq (h:Go.Ab.Vw.uL (ax 9) (ax 17) (ax 10) (ax 18) (ax 19) (ax 20) (ax 13) (ax 21) (ax 22) (ax 23) (ax 24) a0 a1 a2 M Q) : ax 4 [a0,a1,a2] M Q:=aW (fn:=Tryz.f4) h
theorem NZ (h:Go.Ab.Vw.G7 (ax 29) (ax 30) a0 M Q) : ax 10 [a0] M Q:=aW (fn:=Tryz.f10) h
theorem NB (h:Go.Ab.Vw.II (ax 32) a0 a1 M Q) : ax 12 [a0,a1] M Q:=aW (fn:=Tryz.f12) h
theorem Mh (h:Go.Ab.Vw.EK (ax 26) 44 (ax 32) 64 (ax 33) 34 a0 M Q) : ax 13 [a0] M Q:=aW (fn:=Tryz.f13) h
theorem Jp (h:Go.Ab.Vw.Aw 40 (ax 37) a0 M Q) : ax 14 [a0] M Q:=aW (fn:=Tryz.f14) h
theorem Mf (h:Go.Ab.Vw.EW (ax 38) (ax 26) (ax 39) (ax 32) 64 9 a0 a1 M Q) : ax 15 [a0,a1] M Q:=aW (fn:=Tryz.f15) h
theorem Fs (h:Go.Ab.Vw.vX (ax 27) (ax 40) 40 a0 M Q) : ax 16 [a0] M Q:=aW (fn:=Tryz.f16) h
theorem Mi (h:Go.Ab.Vw.aaB 30 (ax 41) a0 M Q) : ax 17 [a0] M Q:=aW (fn:=Tryz.f17) h
theorem Rc (h:Go.Ab.Crw.KH 40 (ax 28) (ax 42) a0 M Q) : ax 18 [a0] M Q:=aW (fn:=Tryz.f18) h
theorem Mg (h:Go.Ab.Vw.Fe (ax 12) (ax 22) a0 a1 a2 M Q) : ax 19 [a0,a1,a2] M Q:=aW (fn:=Tryz.f19) h
theorem O5 (h:Go.Ab.Crw.Ie 9 a0 M Q) : ax 20 [a0] M Q:=aW (fn:=Tryz.f20) h
theorem Vb (h:Go.Ab.Vw.Rm (ax 22) a0 a1 M Q) : ax 21 [a0,a1] M Q:=aW (fn:=Tryz.f21) h
theorem TT (h:Go.Ab.Vw.MV 85 a0 a1 M Q) : ax 22 [a0,a1] M Q:=aW (fn:=Tryz.f22) h
theorem Jm (h:Go.Ab.Vw.Am (ax 15) (ax 20) (ax 43) (ax 22) a0 a1 a2 M Q) : ax 23 [a0,a1,a2] M Q:=aW (fn:=Tryz.f23) h
theorem Ij (h:Go.Ab.Vw.zl (ax 16) (ax 44) 40 (ax 45) a0 a1 M Q) : ax 24 [a0,a1] M Q:=aW (fn:=Tryz.f24) h
theorem TW (h:Go.Ab.aH.NR 27 a0 a1 M Q) : ax 25 [a0,a1] M Q:=aW (fn:=Tryz.f25) h
theorem EY (h:Go.Ab.Crw.vK 40 9 a0 M Q) : ax 26 [a0] M Q:=aW (fn:=Tryz.f26) h
theorem FH (h:Go.Ab.Crw.yl (ax 46) a0 M Q) : ax 27 [a0] M Q:=aW (fn:=Tryz.f27) h
theorem aaU (h:Go.Ab.aH.acH 27 a0 a1 M Q) : ax 28 [a0,a1] M Q:=aW (fn:=Tryz.f28) h
theorem aa7 (h:Go.Ab.Crw.acT (ax 47) 91  M Q) : ax 29 [] M Q:=aW (fn:=Tryz.f29) h
theorem Jt (h:Go.Ab.Crw.Ak 30 (ax 48) (ax 49) 27 (ax 50) (ax 51) 40 (ax 46) (ax 52) 53 55 (ax 54) (ax 57) (ax 58) a0 a1 M Q) : ax 30 [a0,a1] M Q:=aW (fn:=Tryz.f30) h
theorem Jr (h:Go.Ab.Vw.Ay (ax 61) (ax 40) (ax 14) 40 64 a0 a1 M Q) : ax 32 [a0,a1] M Q:=aW (fn:=Tryz.f32) h
theorem sK (h:Go.Ab.Vw.jX (ax 63) (ax 62) a0 a1 M Q) : ax 33 [a0,a1] M Q:=aW (fn:=Tryz.f33) h
theorem Jo (h:Go.Ab.Vw.Az 44 (ax 36) 3 (ax 35) a0 a1 M Q) : ax 34 [a0,a1] M Q:=aW (fn:=Tryz.f34) h
theorem Sy (h:Go.Ab.Crw.OQ a0 M Q) : ax 35 [a0] M Q:=aW (fn:=Tryz.f35) h
theorem EB (h:Go.Ab.Crw.vH (ax 64) a0 a1 M Q) : ax 36 [a0,a1] M Q:=aW (fn:=Tryz.f36) h
theorem XR (h:Go.Ab.aH.YZ 27 a0 a1 M Q) : ax 37 [a0,a1] M Q:=aW (fn:=Tryz.f37) h
theorem JX (h:Go.Ab.Vw.Cw 5 a0 M Q) : ax 38 [a0] M Q:=aW (fn:=Tryz.f38) h
theorem Cf (h:Go.Ab.Vw.sM (ax 65) a0 a1 M Q) : ax 39 [a0,a1] M Q:=aW (fn:=Tryz.f39) h
theorem Jq (h:Go.Ab.Vw.Aj 40 47 a0 M Q) : ax 40 [a0] M Q:=aW (fn:=Tryz.f40) h
theorem Mj (h:Go.Ab.Crw.EF 30 (ax 66) (ax 25) a0 M Q) : ax 41 [a0] M Q:=aW (fn:=Tryz.f41) h
theorem Nz (h:Go.Ab.Crw.Hl 40 (ax 67) a0 a1 M Q) : ax 42 [a0,a1] M Q:=aW (fn:=Tryz.f42) h
theorem Rq (h:Go.Ab.Vw.Oi (ax 68) a0 a1 M Q) : ax 43 [a0,a1] M Q:=aW (fn:=Tryz.f43) h
theorem adE (h:Go.Ab.Crw.ai2 40 a0 a1 a2 M Q) : ax 44 [a0,a1,a2] M Q:=aW (fn:=Tryz.f44) h
theorem Xp (h:Go.Ab.Crw.WO a0 a1 M Q) : ax 45 [a0,a1] M Q:=aW (fn:=Tryz.f45) h
theorem Ju (h:Go.Ab.Crw.Au 40 a0 M Q) : ax 46 [a0] M Q:=aW (fn:=Tryz.f46) h
theorem Vp (h:Go.Ab.aH.SQ 116  M Q) : ax 47 [] M Q:=aW (fn:=Tryz.f47) h
theorem WK (h:Go.Ab.Crw.Zg 30 (ax 69) (ax 70) 27 (ax 37) a0 M Q) : ax 48 [a0] M Q:=aW (fn:=Tryz.f48) h
theorem NA (h:Go.Ab.aH.Hd (ax 47) (ax 71) a0 M Q) : ax 49 [a0] M Q:=aW (fn:=Tryz.f49) h
theorem Qz (h:Go.Ab.aH.JB 27 (ax 69) (ax 72) a0 a1 M Q) : ax 50 [a0,a1] M Q:=aW (fn:=Tryz.f50) h
theorem PD (h:Go.Ab.aH.KS 27 (ax 69) (ax 73) a0 a1 M Q) : ax 51 [a0,a1] M Q:=aW (fn:=Tryz.f51) h
theorem Ff (h:Go.Ab.Crw.vW (ax 63) (ax 74) a0 a1 M Q) : ax 52 [a0,a1] M Q:=aW (fn:=Tryz.f52) h
theorem Qn (h:Go.Ab.Crw.Kz 40 (ax 36) (ax 75) 3 (ax 35) a0 a1 M Q) : ax 53 [a0,a1] M Q:=aW (fn:=Tryz.f53) h
theorem Cy (h:Go.Ab.Crw.tO (ax 76) 40 (ax) a0 a1 M Q) : ax 54 [a0,a1] M Q:=aW (fn:=Tryz.f54) h
theorem Fu (h:Go.Ab.Crw.xq 40 (ax 56) a0 a1 M Q) : ax 55 [a0,a1] M Q:=aW (fn:=Tryz.f55) h
theorem Gf (h:Go.Ab.Crw.yz 27 (ax 77) a0 a1 M Q) : ax 56 [a0,a1] M Q:=aW (fn:=Tryz.f56) h
theorem KY (h:Go.Ab.aH.BR 113 (ax 73) a0 a1 M Q) : ax 57 [a0,a1] M Q:=aW (fn:=Tryz.f57) h
theorem Jj (h:Go.Ab.Crw.Ao a0 a1 M Q) : ax 58 [a0,a1] M Q:=aW (fn:=Tryz.f58) h
theorem FN (h:Go.Ab.Crw.xZ 40 a0 a1 M Q) : ax 61 [a0,a1] M Q:=aW (fn:=Tryz.f61) h
theorem nz (h:Go.Ab.Vw.gU (ax 80) (ax 81) (ax 82) (ax 83) (ax 84) (ax 85) (ax) (ax 86) (ax 87) (ax 62) a0 a1 a2 a3 a4 M Q) : ax 62 [a0,a1,a2,a3,a4] M Q:=aW (fn:=Tryz.f62) h
theorem Gb (h:Go.Ab.aH.xy (ax 88) (ax 89) a0 M Q) : ax 63 [a0] M Q:=aW (fn:=Tryz.f63) h
theorem IR (h:Go.Ab.Crw.y8 a0 M Q) : ax 64 [a0] M Q:=aW (fn:=Tryz.f64) h
theorem Fz (h:Go.Ab.Vw.xN (ax 90) a0 a1 M Q) : ax 65 [a0,a1] M Q:=aW (fn:=Tryz.f65) h
theorem Ui (h:Go.Ab.aH.Nv 27 a0 M Q) : ax 66 [a0] M Q:=aW (fn:=Tryz.f66) h
theorem Sa (h:Go.Ab.Crw.NL 40 (ax 25) a0 a1 M Q) : ax 67 [a0,a1] M Q:=aW (fn:=Tryz.f67) h
theorem aaY (h:Go.Ab.Vw.ab5 5 a0 M Q) : ax 68 [a0] M Q:=aW (fn:=Tryz.f68) h
theorem Ue (h:Go.Ab.aH.Na 27 a0 M Q) : ax 69 [a0] M Q:=aW (fn:=Tryz.f69) h
theorem Md (h:Go.Ab.Crw.Fq a0 a1 a2 M Q) : ax 70 [a0,a1,a2] M Q:=aW (fn:=Tryz.f70) h
theorem NW (h:Go.Ab.aH.Gt 113 111 (ax 91) (ax 92) (ax 93) (ax 94) a0 a1 M Q) : ax 71 [a0,a1] M Q:=aW (fn:=Tryz.f71) h
theorem NH (h:Go.Ab.aH.Hq (ax 95) 25 113 (ax 97) (ax 96) (ax 94) a0 a1 M Q) : ax 72 [a0,a1] M Q:=aW (fn:=Tryz.f72) h
theorem N9 (h:Go.Ab.aH.Iw (ax 95) a0 a1 M Q) : ax 73 [a0,a1] M Q:=aW (fn:=Tryz.f73) h
theorem qC (h:Go.Ab.Crw.jc (ax 98) (ax 99) (ax 100) (ax 101) (ax 102) (ax 103) (ax) (ax 104) (ax 105) (ax 74) a0 a1 a2 a3 a4 M Q) : ax 74 [a0,a1,a2,a3,a4] M Q:=aW (fn:=Tryz.f74) h
theorem Vr (h:Go.Ab.Crw.Tu 27 (ax 106) (ax 107) 3 (ax 35) a0 a1 M Q) : ax 75 [a0,a1] M Q:=aW (fn:=Tryz.f75) h
theorem Dt (h:Go.Ab.Crw.uK (ax) a0 a1 M Q) : ax 76 [a0,a1] M Q:=aW (fn:=Tryz.f76) h
theorem Me (h:Go.Ab.Crw.EQ 27 a0 a1 M Q) : ax 77 [a0,a1] M Q:=aW (fn:=Tryz.f77) h
theorem kH (h:Go.Ab.Vw.fq (ax) a0 a1 a2 a3 M Q) : ax 80 [a0,a1,a2,a3] M Q:=aW (fn:=Tryz.f80) h
theorem uP (h:Go.Ab.Vw.lG (ax 109) a0 a1 a2 a3 M Q) : ax 81 [a0,a1,a2,a3] M Q:=aW (fn:=Tryz.f81) h
theorem rM (h:Go.Ab.Vw.jv 150 (ax 110) (ax 111) a0 a1 a2 a3 M Q) : ax 82 [a0,a1,a2,a3] M Q:=aW (fn:=Tryz.f82) h
theorem sS (h:Go.Ab.Vw.jZ 3 (ax 112) (ax 113) a0 a1 a2 a3 M Q) : ax 83 [a0,a1,a2,a3] M Q:=aW (fn:=Tryz.f83) h
theorem rY (h:Go.Ab.Vw.jQ a0 a1 a2 a3 M Q) : ax 84 [a0,a1,a2,a3] M Q:=aW (fn:=Tryz.f84) h
theorem oI (h:Go.Ab.Vw.gT (ax) a0 a1 a2 a3 M Q) : ax 85 [a0,a1,a2,a3] M Q:=aW (fn:=Tryz.f85) h
theorem rq (h:Go.Ab.Vw.jf (ax) a0 a1 a2 a3 a4 M Q) : ax 86 [a0,a1,a2,a3,a4] M Q:=aW (fn:=Tryz.f86) h
theorem uG (h:Go.Ab.Vw.kU (ax) a0 a1 a2 a3 a4 M Q) : ax 87 [a0,a1,a2,a3,a4] M Q:=aW (fn:=Tryz.f87) h
theorem Dr (h:Go.Ab.aH.uN a0 M Q) : ax 89 [a0] M Q:=aW (fn:=Tryz.f89) h
theorem FU (h:Go.Ab.aH.xU 9 (ax 118) 25 a0 M Q) : ax 91 [a0] M Q:=aW (fn:=Tryz.f91) h
theorem Js (h:Go.Ab.aH.Ap (ax 63) (ax 119) a0 M Q) : ax 92 [a0] M Q:=aW (fn:=Tryz.f92) h
theorem Fj (h:Go.Ab.aH.wB a0 M Q) : ax 93 [a0] M Q:=aW (fn:=Tryz.f93) h
theorem GV (h:Go.Ab.aH.yF a0 M Q) : ax 94 [a0] M Q:=aW (fn:=Tryz.f94) h
theorem Ad (h:Go.Ab.aH.ql (ax 120) (ax 121) a0 a1 M Q) : ax 95 [a0,a1] M Q:=aW (fn:=Tryz.f95) h
theorem wT (h:Go.Ab.aH.pq 25 (ad2 Tryz.prog 122) (ax 123) a0 a1 a2 M Q) : ax 96 [a0,a1,a2] M Q:=aW (fn:=Tryz.f96) h
theorem H8 (h:Go.Ab.aH.Rp 25 a0 M Q) : ax 97 [a0] M Q:=aW (fn:=Tryz.f97) h
theorem mH (h:Go.Ab.Crw.gp (ax) a0 a1 a2 a3 M Q) : ax 98 [a0,a1,a2,a3] M Q:=aW (fn:=Tryz.f98) h
theorem ym (h:Go.Ab.Crw.oq (ax 124) a0 a1 a2 a3 M Q) : ax 99 [a0,a1,a2,a3] M Q:=aW (fn:=Tryz.f99) h
theorem uJ (h:Go.Ab.Crw.kK 150 (ax 110) (ax 111) a0 a1 a2 a3 M Q) : ax 100 [a0,a1,a2,a3] M Q:=aW (fn:=Tryz.f100) h
theorem vN (h:Go.Ab.Crw.mf 3 (ax 125) (ax 126) a0 a1 a2 a3 M Q) : ax 101 [a0,a1,a2,a3] M Q:=aW (fn:=Tryz.f101) h
theorem uY (h:Go.Ab.Crw.lu a0 a1 a2 a3 M Q) : ax 102 [a0,a1,a2,a3] M Q:=aW (fn:=Tryz.f102) h
theorem qJ (h:Go.Ab.Crw.iN (ax) a0 a1 a2 a3 M Q) : ax 103 [a0,a1,a2,a3] M Q:=aW (fn:=Tryz.f103) h
theorem uj (h:Go.Ab.Crw.ko (ax) a0 a1 a2 a3 a4 M Q) : ax 104 [a0,a1,a2,a3,a4] M Q:=aW (fn:=Tryz.f104) h
theorem yc (h:Go.Ab.Crw.nI (ax) a0 a1 a2 a3 a4 M Q) : ax 105 [a0,a1,a2,a3,a4] M Q:=aW (fn:=Tryz.f105) h
theorem EG (h:Go.Ab.Crw.vI (ax 127) a0 a1 M Q) : ax 106 [a0,a1] M Q:=aW (fn:=Tryz.f106) h
theorem Jl (h:Go.Ab.Crw.Av (ax 128) a0 a1 M Q) : ax 107 [a0,a1] M Q:=aW (fn:=Tryz.f107) h
theorem uU (h:Go.Ab.Vw.lq (ax) a0 a1 a2 a3 a4 M Q) : ax 109 [a0,a1,a2,a3,a4] M Q:=aW (fn:=Tryz.f109) h
theorem ET (h:Go.Ab.aH.wG (ax 63) a0 M Q) : ax 110 [a0] M Q:=aW (fn:=Tryz.f110) h
theorem wM (h:Go.Ab.aH.oO a0 M Q) : ax 111 [a0] M Q:=aW (fn:=Tryz.f111) h
theorem ru (h:Go.Ab.Vw.ji (ax 113) a0 a1 a2 a3 M Q) : ax 112 [a0,a1,a2,a3] M Q:=aW (fn:=Tryz.f112) h
theorem xh (h:Go.Ab.Vw.mQ (ax 137) a0 a1 a2 a3 a4 a5 M Q) : ax 113 [a0,a1,a2,a3,a4,a5] M Q:=aW (fn:=Tryz.f113) h
theorem Jv (h:Go.Ab.aH.AJ 9 25 a0 a1 M Q) : ax 118 [a0,a1] M Q:=aW (fn:=Tryz.f118) h
theorem qd (h:Go.Ab.aH.iP (ax 140) (ax 141) (ax 142) (ax 143) (ax 144) (ax 145) (ax 120) (ax 146) (ax 147) (ax 119) a0 a1 a2 a3 M Q) : ax 119 [a0,a1,a2,a3] M Q:=aW (fn:=Tryz.f119) h
theorem Jn (h:Go.Ab.aH.Aq (ax 127) a0 a1 M Q) : ax 120 [a0,a1] M Q:=aW (fn:=Tryz.f120) h
theorem EC (h:Go.Ab.aH.vG a0 M Q) : ax 121 [a0] M Q:=aW (fn:=Tryz.f121) h
theorem yn (h:Go.Ab.Crw.nZ (ax) a0 a1 a2 a3 a4 M Q) : ax 124 [a0,a1,a2,a3,a4] M Q:=aW (fn:=Tryz.f124) h
theorem tY (h:Go.Ab.Crw.j5 (ax 126) a0 a1 a2 a3 M Q) : ax 125 [a0,a1,a2,a3] M Q:=aW (fn:=Tryz.f125) h
theorem zW (h:Go.Ab.Crw.qH (ax 149) a0 a1 a2 a3 a4 a5 M Q) : ax 126 [a0,a1,a2,a3,a4,a5] M Q:=aW (fn:=Tryz.f126) h
theorem yf (h:Go.Ab.aH.uw a0 M Q) : ax 127 [a0] M Q:=aW (fn:=Tryz.f127) h
theorem Mk (h:Go.Ab.Crw.E9 a0 M Q) : ax 128 [a0] M Q:=aW (fn:=Tryz.f128) h
theorem xe (h:Go.Ab.Vw.mV (ax) a0 a1 a2 a3 a4 M Q) : ax 137 [a0,a1,a2,a3,a4] M Q:=aW (fn:=Tryz.f137) h
theorem lM (h:Go.Ab.aH.fU (ax 120) a0 a1 a2 M Q) : ax 140 [a0,a1,a2] M Q:=aW (fn:=Tryz.f140) h
theorem xQ (h:Go.Ab.aH.nN (ax 153) a0 a1 a2 M Q) : ax 141 [a0,a1,a2] M Q:=aW (fn:=Tryz.f141) h
theorem ul (h:Go.Ab.aH.kC 150 (ax 110) (ax 111) a0 a1 a2 M Q) : ax 142 [a0,a1,a2] M Q:=aW (fn:=Tryz.f142) h
theorem uQ (h:Go.Ab.aH.lm 3 (ax 154) (ax 155) a0 a1 a2 M Q) : ax 143 [a0,a1,a2] M Q:=aW (fn:=Tryz.f143) h
theorem uI (h:Go.Ab.aH.kL a0 a1 a2 M Q) : ax 144 [a0,a1,a2] M Q:=aW (fn:=Tryz.f144) h
theorem qi (h:Go.Ab.aH.iH (ax 120) a0 a1 a2 M Q) : ax 145 [a0,a1,a2] M Q:=aW (fn:=Tryz.f145) h
theorem sU (h:Go.Ab.aH.j4 (ax 120) a0 a1 a2 a3 M Q) : ax 146 [a0,a1,a2,a3] M Q:=aW (fn:=Tryz.f146) h
theorem xg (h:Go.Ab.aH.mP (ax 120) a0 a1 a2 a3 M Q) : ax 147 [a0,a1,a2,a3] M Q:=aW (fn:=Tryz.f147) h
theorem zV (h:Go.Ab.Crw.qD (ax) a0 a1 a2 a3 a4 M Q) : ax 149 [a0,a1,a2,a3,a4] M Q:=aW (fn:=Tryz.f149) h
theorem yh (h:Go.Ab.aH.nO (ax 120) a0 a1 a2 a3 M Q) : ax 153 [a0,a1,a2,a3] M Q:=aW (fn:=Tryz.f153) h
theorem tL (h:Go.Ab.aH.jY (ax 155) a0 a1 a2 M Q) : ax 154 [a0,a1,a2] M Q:=aW (fn:=Tryz.f154) h
theorem yH (h:Go.Ab.aH.pM (ax 158) a0 a1 a2 a3 a4 M Q) : ax 155 [a0,a1,a2,a3,a4] M Q:=aW (fn:=Tryz.f155) h
theorem yK (h:Go.Ab.aH.pX (ax 120) a0 a1 a2 a3 M Q) : ax 158 [a0,a1,a2,a3] M Q:=aW (fn:=Tryz.f158) h
end Go.Proofs.YtngfappichkflaaGreat
namespace Go.Proofs.YtngfappichkflaaGreat.mr
open Go Go.Ab Go.Ab.aH Go.Ab.Crw Go.RowKit
theorem over:akk (ad2 Tryz.prog 122):=by
 intro M ba oa na bb ob nb ea eb ca cb la lb opb Q hne ha hb h1 h2 hQ
 exact .inr (.inl ⟨⟨Tryz.f122,111,25,1,4,by kernel_rfl,by kernel_rfl,by kernel_rfl,by kernel_rfl,by kernel_rfl,by kernel_rfl⟩,
  ⟨ba,oa,na,ca,bb,ob,nb,cb,la,ea,0,lb,opb,eb,0,rfl,hne,ha,hb,rfl,h1,h2⟩,hQ⟩)
theorem af1:FX Tryz.prog 96:=⟨Tryz.f96,_,by kernel_rfl,rfl⟩
theorem insert:abO 25 (ax 96):=by
 intro M v bx n0 k x ex xs Q ho hn hl hk hx hxl hbx hQ
 by_cases hkn:k=xs.length
 ·subst hkn
  exact wT (adX ho hn hl hx hxl hQ)
 ·obtain⟨b,rfl,h1,h2,h3,h4⟩:=Own.uO ho (by omega)
  refine iJ.ah5 af1 h3 (by rw[h4]; show xs.length * 1=_; omega) fun c hc=>?_
  have hne:bx≠b:=fun e=>hbx (by simp[aJ,e])
  have kk:ag [b] M (M.put b (.row (bf.row xs++List.replicate (c - xs.length) .top) true 25 0)):=(ag.refl _ _).put _ (.inr (by simp))
  refine wT (afB (c:=c) over rfl (by omega) hc (by omega) (aU _) (by rw[jV]; exact h2) (rH hx hne) hxl hne ?_)
  intro v' M' q1 q2 q3 q4
  refine hQ v' M' q1 q2 (fun d hd=>?_) ?_
  ·rcases q3 d hd with rfl | h
   ·exact h1
   ·have:M.next≤d:=h
    omega
  ·exact(kk.trans q4).mono (by simp[aJ])
theorem nan:aeL (ax 127):=fun hQ=>yf (Qk hQ)
theorem avN:aeL (ax 121):=fun hQ=>EC (aaN hQ)
theorem less:zG (ax 120):=by
 intro M x y Q hQ
 obtain⟨a0,a1,e,h⟩:=agj nan hQ
 cases e
 exact Jn h
theorem search:LP (ax 95):=by
 intro M v xs n Q h1 h2 h3 hQ
 obtain⟨a0,a1,e,h⟩:=aaF less avN h1 h2 h3 hQ
 cases e
 exact Ad h
theorem aoj:afM 25 1 8 (ax 97):=fun h1 h2 h3 h4 _ hQ=>H8 (U2 h1 h2 (Nat.le_refl _) h3 h4 hQ)
theorem settled:IQ (ax 94):=by
 intro M b o T u l v xs Q h1 h2 h3 h4 h5 h6 h7 h8 h9 hQ
 obtain⟨a0,e,h⟩:=aar h1 h2 h3 h4 h5 h6 h7 h8 h9 hQ
 cases e
 exact GV h
theorem iA:adf (ax 72):=by
 intro M b o T u n l v xs Q h1 h2 h3 h4 h5 h6 h7 h8 h9 h10 h11 h12 hQ1 hQ2
 obtain⟨a0,a1,e,h⟩:=agf (TU:=25) (TP:=113) search aoj insert settled h1 h2 h3 h4 h5 h6 h7 h8 h9 h10 h11 h12 hQ1 hQ2
 cases e
 exact NH h
theorem fT:Vv (ax 73):=by
 intro M b o T u n l v xs Q h1 h2 h3 h4 h5 h6 hQ
 obtain⟨a0,a1,e,h⟩:=afK search h1 h2 h3 h4 h5 h6 hQ
 cases e
 exact N9 h
theorem good:DZ (ax 69):=by
 intro M d Q hQ
 obtain⟨a0,e,h⟩:=ae7 (T:=27) hQ
 cases e
 exact Ue h
theorem akN:DZ (ax 66):=by
 intro M d Q hQ
 obtain⟨a0,e,h⟩:=VU (T:=27) hQ
 cases e
 exact Ui h
theorem l5:VN 116 (ax 50):=by
 intro M b ps d S Q h1 h2 hQ
 obtain⟨a0,a1,e,h⟩:=af2 (TD:=27) good iA h1 h2 hQ
 cases e
 exact Qz h
theorem new:Zw 116 (ax 47):=by
 intro M Q hQ
 obtain⟨e,h⟩:=aiY hQ
 exact Vp h
theorem aoU:Tt (ax 28):=by
 intro M v l d Q h1 h2 hQ
 obtain⟨a0,a1,e,h⟩:=aaz (T:=27) h1 h2 hQ
 cases e
 exact aaU h
theorem within:yu 116 (ax 57):=by
 intro M a b ps qs S S' Q h1 h2 h3 h4 hQ
 obtain⟨a0,a1,e,h⟩:=Fa (T:=113) fT h1 h2 h3 h4 hQ
 cases e
 exact KY h
theorem iV:aeg 116 (ax 51):=by
 intro M b ps d S Q h1 h2 hQ
 obtain⟨a0,a1,e,h⟩:=ae5 (T:=27) good fT h1 h2 hQ
 cases e
 exact PD h
theorem grow:adl 25 (ax 118):=by
 intro M n Q h1 h2 h3
 obtain⟨a0,a1,e,h⟩:=afy (TS:=9) h1 h2 h3
 cases e
 exact Jv h
theorem concat:Tq 25 (ax 91):=by
 intro M bb TS v w xs ys Q h1 h2 h3 h4 h5 h6 hQ
 obtain⟨a0,e,h⟩:=aaM (TS:=9) grow h1 h2 h3 h4 h5 h6 hQ
 cases e
 exact FU h
theorem al8:Ug 25 3 (ax 158):=fun {M b s k i j d Q} h1 h2 h3 h4 hQ=>by
 obtain⟨a0,a1,a2,a3,e,h⟩:=Xv less h1 h2 h3 h4 hQ
 cases e
 exact yK h
theorem abx:LB 25 3 (ax 155):=fun {M b s k i j h d Q} h1 h2 h3 h4 h5 hQ=>by
 obtain⟨a0,a1,a2,a3,a4,e,h⟩:=XD al8 h1 h2 h3 h4 h5 hQ
 cases e
 exact yH h
theorem alq:Ru 25 3 (ax 154):=fun {M b s k i d Q} h1 h2 h3 h4 h5 hQ=>by
 obtain⟨a0,a1,a2,e,h⟩:=Y1 abx h1 h2 h3 h4 h5 hQ
 cases e
 exact tL h
theorem alJ:Rt 25 (ax 143):=fun {M b a e d Q} h1 h2 h3 h4 hQ=>by
 obtain⟨a0,a1,a2,e,h⟩:=aaq alq abx h1 h2 h3 h4 hQ
 cases e
 exact uQ h
theorem ag7:NP 25 (ax 145):=fun {M b a e d Q} h1 h2 h3 h4 hQ=>by
 obtain⟨a0,a1,a2,e,h⟩:=Va less h1 h2 h3 h4 hQ
 cases e
 exact qi h
theorem awv:Bh 25 (Sort.insertionSort lN) (fun _ _ _=>True) (ax 140):=fun {M b a e d Q} h1 h2 h3 h4 h5 hQ=>by
 obtain⟨a0,a1,a2,e,h⟩:=age less h1 h2 h3 h4 h5 hQ
 cases e
 exact lM h
theorem as7:ads 25 (ax 153):=fun {M b lo hi first d Q} h1 h2 h3 h4 hQ=>by
 obtain⟨a0,a1,a2,a3,e,h⟩:=af7 less h1 h2 h3 h4 hQ
 cases e
 exact yh h
theorem atj:Bh 25 (Sort.heapSort lN) (fun _ a e=>a<e) (ax 141):=fun {M b a e d Q} h1 h2 h3 h4 h5 hQ=>by
 obtain⟨a0,a1,a2,e,h⟩:=afC as7 h1 h2 h3 h4 h5 hQ
 cases e
 exact xQ h
theorem aiS:Bh 25 Sort.reverseRange (fun _ a e=>a<e) (ax 144):=fun {M b a e d Q} h1 h2 h3 h4 h5 hQ=>by
 obtain⟨a0,a1,a2,e,h⟩:=Z7 h1 h2 h3 h4 h5 hQ
 cases e
 exact uI h
theorem alj:Rz 25 (ax 146):=fun {M b a e pv d Q} h1 h2 h3 h4 h5 hQ=>by
 obtain⟨a0,a1,a2,a3,e,h⟩:=aa2 less h1 h2 h3 h4 h5 hQ
 cases e
 exact sU h
theorem asq:aeN 25 (ax 147):=fun {M b a e pv d Q} h1 h2 h3 h4 h5 hQ=>by
 obtain⟨a0,a1,a2,a3,e,h⟩:=afF less h1 h2 h3 h4 h5 hQ
 cases e
 exact xg h
theorem aqw:H6 (ax 89):=fun {M x Q} h1 hQ=>by
 obtain⟨a0,e,h⟩:=aa1 h1 hQ
 cases e
 exact Dr h
theorem acI:H6 (ax 63):=fun {M x Q} h1 hQ=>by
 obtain⟨a0,e,h⟩:=afu (c3:=ax 88) aqw h1 hQ
 cases e
 exact Gb h
theorem ajl:YT (ax 110):=fun {M x Q} h0 h1 hQ=>by
 obtain⟨a0,e,h⟩:=agr acI h0 h1 hQ
 cases e
 exact ET h
theorem avx:agn 25 150 (ax 111):=fun {M b s r d Q} h0 hQ=>by
 obtain⟨a0,e,h⟩:=agI h0 hQ
 cases e
 exact wM h
theorem apP:Wz 25 (ax 142):=fun {M b a e d Q} h1 h2 h3 h4 hQ=>by
 obtain⟨a0,a1,a2,e,h⟩:=acx ajl avx h1 h2 h3 h4 hQ
 cases e
 exact ul h
theorem amW:∀ m,acF 25 m (ax 119)
 | 0=>by intro h1 h2 h3 h4 h5; omega
 | m + 1=>by
   intro h1 h2 h3 h4 h5 h6 hQ
   obtain⟨a0,a1,a2,a3,e,h⟩:=agd awv atj apP alJ aiS ag7 less alj asq (amW m) h1 h2 h3 h4 h5 h6 hQ
   cases e
   exact qd h
theorem amL:Xw (ax 140):=fun {M v Q} hQ=>by
 obtain⟨a0,a1,a2,e,h⟩:=aaG (cl:=ax 120) (v:=v) hQ
 cases e
 exact lM h
theorem am0:Xj (ax 119):=fun {M v Q} hQ=>by
 obtain⟨a0,a1,a2,a3,e,h⟩:=aaL (c2:=ax 141) (c3:=ax 142) (cc:=ax 143) (c4:=ax 144) (cp:=ax 145) (c5:=ax 120) (c6:=ax 146) (c7:=ax 147) (c8:=ax 119) amL (v:=v) hQ
 cases e
 exact qd h
theorem amb:aeG (fun xs=>xs.length≤60000) lg 25 (ax 92):=fun {M base v xs Q} h1 h2 hQ=>by
 obtain⟨a0,e,h⟩:=acW acI amW am0 h1 h2 hQ
 cases e
 exact Js h
theorem acw:Ou (fun xs=>xs.length≤60000) dd 25 (ax 93):=fun {M base v xs Q} h1 h2 hQ=>by
 obtain⟨a0,e,h⟩:=Vg h1 h2 hQ
 cases e
 exact Fj h
theorem akV:ada (fun xs=>xs.length≤60000) (fun xs=>xs.length≤60000) lg dd 116 (ax 71):=fun {M a b ps qs S S' Q} h1 h2 h3 h4 h5 h6 h7 h8 hQ=>by
 obtain⟨a0,a1,e,h⟩:=afo (TP:=113) (TL:=111) concat amb acw settled h1 h2 h3 h4 h5 h6 h7 h8 hQ
 cases e
 exact NW h
theorem akw:Ag (ax 37):=by
 intro M a b Q h1
 obtain⟨a0,a1,e,h⟩:=acE (T:=27) h1
 cases e
 exact XR h
theorem abY:Ag (ax 25):=by
 intro M a b Q h1
 obtain⟨a0,a1,e,h⟩:=XZ (T:=27) h1
 cases e
 exact TW h
theorem names:XA (ax 70):=by
 intro M x y z Q h1
 obtain⟨a0,a1,a2,e,h⟩:=ac2 h1
 cases e
 exact Md h
theorem eG:BO (ax 48):=by
 intro M e kv ks Q h1 h2
 obtain⟨a0,e,h⟩:=aaX (TE:=30) (TD:=27) good names akw h1 h2
 cases e
 exact WK h
theorem afl:BO (ax 41):=by
 intro M e kv ks Q h1 h2
 obtain⟨a0,e,h⟩:=RJ (TE:=30) akN abY h1 h2
 cases e
 exact Mj h
theorem av9:IK (α:=List UInt8) (fun s=>St s) (ax 64):=by
 intro M x Q h1
 obtain⟨a0,e,h⟩:=aga h1
 cases e
 exact IR h
theorem aw9:IK (α:=Nat) (fun n=>N .u64 (n:Int)) (ax 127):=by
 intro M x Q h1
 obtain⟨a0,e,h⟩:=ae6 h1
 cases e
 exact yf h
theorem av3:IK (α:=Int) (fun n=>N .i64 n) (ax 128):=by
 intro M x Q h1
 obtain⟨a0,e,h⟩:=afz h1
 cases e
 exact Mk h
theorem anw:zH (α:=List UInt8) (fun s=>St s) (fun x y=>decide (x<y)) (ax 36):=by
 intro M x y Q h1
 obtain⟨a0,a1,e,h⟩:=agb av9 h1
 cases e
 exact EB h
theorem axh:zH (α:=Nat) (fun n=>N .u64 (n:Int)) (fun x y=>decide (x<y)) (ax 106):=by
 intro M x y Q h1
 obtain⟨a0,a1,e,h⟩:=aeX aw9 h1
 cases e
 exact EG h
theorem aw6:zH (α:=Int) (fun n=>N .i64 n) (fun x y=>decide (x<y)) (ax 107):=by
 intro M x y Q h1
 obtain⟨a0,a1,e,h⟩:=aeV av3 h1
 cases e
 exact Jl h
theorem or_:OrC (ax 35):=by
 intro M v xs Q h1 h2 h3
 obtain⟨a0,e,h⟩:=ak4 h1 h2 h3
 cases e
 exact Sy h
theorem asz:Yo (ax 75):=by
 intro M x y Q h1
 obtain⟨a0,a1,e,h⟩:=ad6 axh aw6 or_ h1
 cases e
 exact Vr h
theorem compare:NK (ax 53):=by
 intro M x y Q h1
 obtain⟨a0,a1,e,h⟩:=X9 anw asz or_ h1
 cases e
 exact Qn h
abbrev fE:AV:=.fn (.func 53) [] []
theorem Ny:qj aA gQ (cO (ax) fE):=ale compare
theorem ahF:SortG aA 40 5 fE (Sort.insertionSort gQ) (fun _ _ _=>True) (ax 98):=by
 intro M b a e d Q h1 h2 h3 h4 h5 h6
 obtain⟨a0,a1,a2,a3,e,h⟩:=Crw.ahF (cv:=ax) Ny h1 h2 h3 h4 h5 h6
 cases e
 exact mH h
theorem ai6:SortG aA 40 5 fE Sort.reverseRange (fun _ a e=>a<e) (ax 102):=by
 intro M b a e d Q h1 h2 h3 h4 h5 h6
 obtain⟨a0,a1,a2,a3,e,h⟩:=Crw.ai6 h1 h2 h3 h4 h5 h6
 cases e
 exact uY h
theorem ac5:ab7 40 fE gQ (ax 124):=by
 intro M b lo hi first d Q h1 h2 h3 h4 h5
 obtain⟨a0,a1,a2,a3,a4,e,h⟩:=Crw.ac5 (cv:=ax) Ny h1 h2 h3 h4 h5
 cases e
 exact yn h
theorem aeP:SortG aA 40 5 fE (Sort.heapSort gQ) (fun _ a e=>a<e) (ax 99):=by
 intro M b a e d Q h1 h2 h3 h4 h5 h6
 obtain⟨a0,a1,a2,a3,e,h⟩:=Crw.aeP ac5 h1 h2 h3 h4 h5 h6
 cases e
 exact ym h
theorem TY:RQ 40 fE gQ (ax 104):=by
 intro M b a e pv d Q h1 h2 h3 h4 h5 h6
 obtain⟨a0,a1,a2,a3,a4,e,h⟩:=Crw.TY (cv:=ax) Ny h1 h2 h3 h4 h5 h6
 cases e
 exact uj h
theorem adh:acJ 40 fE gQ (ax 105):=by
 intro M b a e pv d Q h1 h2 h3 h4 h5 h6
 obtain⟨a0,a1,a2,a3,a4,e,h⟩:=Crw.adh (cv:=ax) Ny h1 h2 h3 h4 h5 h6
 cases e
 exact yc h
theorem TK:Ud 40 3 fE gQ (ax 149):=by
 intro M b s k i j d Q h1 h2 h3 h4 h5 h6
 obtain⟨a0,a1,a2,a3,a4,e,h⟩:=Crw.TK (cv:=ax) Ny h1 h2 h3 h4 h5 h6
 cases e
 exact zV h
theorem Lj:Lv 40 3 fE gQ (ax 126):=by
 intro M b s k i j h d Q h1 h2 h3 h4 h5 h6 h7
 obtain⟨a0,a1,a2,a3,a4,a5,e,h⟩:=Crw.Lj TK h1 h2 h3 h4 h5 h6 h7
 cases e
 exact zW h
theorem Ti:SX 40 3 fE gQ (ax 125):=by
 intro M b s k i d Q h1 h2 h3 h4 h5 h6 h7
 obtain⟨a0,a1,a2,a3,e,h⟩:=Crw.Ti Lj h1 h2 h3 h4 h5 h6 h7
 cases e
 exact tY h
theorem RO:TQ 40 fE gQ (ax 101):=by
 intro M b a e d Q h1 h2 h3 h4 h5
 obtain⟨a0,a1,a2,a3,e,h⟩:=Crw.RO Ti Lj h1 h2 h3 h4 h5
 cases e
 exact vN h
theorem OV:MX 40 fE gQ (ax 103):=by
 intro M b a e d Q h1 h2 h3 h4 h5
 obtain⟨a0,a1,a2,a3,e,h⟩:=Crw.OV (cv:=ax) Ny h1 h2 h3 h4 h5
 cases e
 exact qJ h
theorem aor:acC 150 (ax 111):=by
 intro M s r Q h1 h2 h3
 obtain⟨a0,e,h⟩:=aeY h1 h2 h3
 cases e
 exact wM h
theorem ZU:SortG aA 40 5 fE Sort.breakPatterns (fun _ _ _=>True) (ax 100):=by
 intro M b a e d Q h1 h2 h3 h4 h5 h6
 obtain⟨a0,a1,a2,a3,e,h⟩:=Crw.ZU ajl aor h1 h2 h3 h4 h5 h6
 cases e
 exact uJ h
theorem adI:∀ m,ady 40 m fE gQ (ax 74)
 | 0=>by intro h1 h2 h3 h4 h5; omega
 | m + 1=>by
   intro h1 h2 h3 h4 h5 h6 hQ
   obtain⟨a0,a1,a2,a3,a4,e,h⟩:=Crw.adI (cv:=ax) jN ahF aeP ZU RO ai6 OV Ny TY adh (adI m) h1 h2 h3 h4 h5 h6 hQ
   cases e
   exact qC h
theorem Si:Sn (ax 98):=by
 intro M v fv Q h1
 obtain⟨a0,a1,a2,a3,e,h⟩:=Crw.Si (cv:=ax) h1
 cases e
 exact mH h
theorem RD:Ty (ax 74):=by
 intro M v fv Q h1
 obtain⟨a0,a1,a2,a3,a4,e,h⟩:=Crw.RD (cv:=ax) Si h1
 cases e
 exact qC h
theorem aq3:Rk fE gQ 40 (ax 52):=by
 intro M base v xs Q h1 h2 h3
 obtain⟨a0,a1,e,h⟩:=Crw.alY jN acI adI RD h1 h2 h3
 cases e
 exact Ff h
theorem clone:LV 40 (ax 46):=by
 intro M v xs Q h1 h2 h3
 obtain⟨a0,e,h⟩:=aaW h1 h2 h3
 cases e
 exact Ju h
theorem index:Sb (ax 77):=by
 intro M v l d Q h1 h2 h3
 obtain⟨a0,a1,e,h⟩:=aaK (T:=27) h1 h2 h3
 cases e
 exact Me h
theorem contains:H9 (ax 56):=by
 intro M v l d Q h1 h2 h3
 obtain⟨a0,a1,e,h⟩:=SS (T:=27) index h1 h2 h3
 cases e
 exact Gf h
theorem ary:BM (ax 58):=by
 intro M v w xs ys Q h1 h2 h3 h4
 obtain⟨a0,a1,e,h⟩:=aaV h1 h2 h3 h4
 cases e
 exact Jj h
theorem ae2 {b:Nat} {e:qI} {kv:AV} {ks:List aH} (hl:ks.length≤1000000) : VH (JI 30 b e kv ks) (fun x=>decide (x.1∈ks)) (cO (ax) (.fn (.func 55) [] [.ptr b 0])):=by
 intro M x Q hP hQ
 obtain⟨a0,a1,e,h⟩:=abh (T:=40) contains hl hP hQ
 refine⟨55,[],[.ptr b 0],rfl, ?_⟩
 show ax 55 [.agg (aA.cells x),.ptr b 0] M Q
 cases e
 exact Fu h
theorem anm {P:RM→Prop} {p:Crw.aD→Bool} {fv:AV} (hp:VH P p (cO (ax) fv)) : Te P p fv (ax 76):=by
 intro M v xs Q h1 h2 h3 h4 h5 h6
 obtain⟨a0,a1,e,h⟩:=abd hp h1 h2 h3 h4 h5 h6
 cases e
 exact Dt h
theorem amd (b:Nat) (e:qI) (kv:AV) (ks:List aH) (hl:ks.length≤1000000) : Oo 40 (JI 30 b e kv ks) (fun x=>decide (x.1∈ks)) (.fn (.func 55) [] [.ptr b 0]) (ax 54):=by
 intro M base v xs Q h1 h2 h3 h4 hQ
 obtain⟨a0,a1,e,h⟩:=Zl (TE:=40) (anm (ae2 hl)) (ae2 hl) h1 h2 h3 h4 hQ
 cases e
 exact Cy h
theorem Ql:aae 116 (ax 49):=by
 intro M b qs S' k Q h1 h2 h3 h4
 obtain⟨a0,e,h⟩:=ac8 new akV h1 h2 h3 h4
 cases e
 exact NA h
theorem atm:Yu 91 116 (ax 29):=by
 intro M Q h1
 obtain⟨e,h⟩:=acV new h1
 exact aa7 h
theorem apply:Zd 91 116 (ax 30):=by
 intro M t k B ps es e kv ks Q h1 h2 h3 h4 h5 h6 h7 h8
 obtain⟨a0,a1,e,h⟩:=aen (TE:=30) (TD:=27) (TN:=40) (cv:=ax) eG Ql l5 iV clone aq3 amd within ary h1 h2 h3 h4 h5 h6 h7 h8
 cases e
 exact Jt h
theorem entries:OZ 91 116 40 (ax 27):=by
 intro M t B ps es Q h1 h2 h3
 obtain⟨a0,e,h⟩:=WB clone h1 h2 h3
 cases e
 exact FH h
theorem F6:Oq 91 116 40 (ax 61):=by
 intro M t B ps es s Q h1 h2 h3
 obtain⟨a0,a1,e,h⟩:=Ym h1 h2 h3
 cases e
 exact FN h
theorem aup:Zt 40 (ax 44):=by
 intro M v es s f Q h1 h2 h3
 obtain⟨a0,a1,a2,e,h⟩:=aew h1 h2 h3
 cases e
 exact adE h
theorem before:Rj (ax 67):=by
 intro M x y Q h1
 obtain⟨a0,a1,e,h⟩:=aa4 (TN:=40) abY h1
 cases e
 exact Sa h
theorem agT:Kr 40 (ax 42):=by
 intro M base v l x Q h1 h2 h3 h4
 obtain⟨a0,a1,e,h⟩:=Vo before h1 h2 h3 h4
 cases e
 exact Nz h
theorem adt:Er 40 (ax 18):=by
 intro M v l S Q h1 h2 h3 h4 h5
 obtain⟨a0,e,h⟩:=Q8 aoU agT h1 h2 h3 h4 h5
 cases e
 exact Rc h
theorem WV:DD 91 116 9 (ax 26):=by
 intro M t B ps es Q h1 h2 h3
 obtain⟨a0,e,h⟩:=Vd (TN:=40) h1 h2 h3
 cases e
 exact EY h
theorem ME:yg 9 (ax 20):=by
 intro M v es Q h1 h2 h3
 obtain⟨a0,e,h⟩:=NT h1 h2 h3
 cases e
 exact O5 h
theorem alu:BM (ax 45):=by
 intro M v w xs ys Q h1 h2 h3 h4
 obtain⟨a0,a1,e,h⟩:=WQ h1 h2 h3 h4
 cases e
 exact Xp h
end Go.Proofs.YtngfappichkflaaGreat.mr
namespace Go.Proofs
open Go.Shelf
def Tryz.laysM219_ren:Go.Shelf.Ren:=⟨fun | 219=>90 | 217=>114 | 225=>115 | 224=>116 | 267=>117 | 266=>138 | 314=>139 | n=>n,fun | 9=>9 | 3=>3 | 4=>4 | 5=>5 | 46=>107 | 146=>175 | 51=>135 | n=>n,fun | 1=>0 | n=>n⟩
theorem Tryz.laysM219:Go.Proofs.LaysM.n219 Tryz.prog Tryz.laysM219_ren where
 mixed:=by kernel_rfl
 f217:=Tryz.func114.trans (congrArg some (by kernel_rfl))
 f219:=Tryz.func90.trans (congrArg some (by kernel_rfl))
 f224:=Tryz.func116.trans (congrArg some (by kernel_rfl))
 f225:=Tryz.func115.trans (congrArg some (by kernel_rfl))
 f266:=Tryz.func138.trans (congrArg some (by kernel_rfl))
 f267:=Tryz.func117.trans (congrArg some (by kernel_rfl))
 f314:=Tryz.func139.trans (congrArg some (by kernel_rfl))
 t3:=Tryz.underlying3
 a3:=Tryz.isAgg3
 z3:=Tryz.sizeOf3
 v3:=Tryz.zeroValue3
 t4:=Tryz.underlying4
 a4:=Tryz.isAgg4
 z4:=Tryz.sizeOf4
 v4:=Tryz.zeroValue4
 t5:=Tryz.underlying5
 a5:=Tryz.isAgg5
 z5:=Tryz.sizeOf5
 v5:=Tryz.zeroValue5
 t9:=Tryz.underlying9
 a9:=Tryz.isAgg9
 z9:=Tryz.sizeOf9
 v9:=Tryz.zeroValue9
 t46:=Tryz.underlying107
 a46:=Tryz.isAgg107
 z46:=Tryz.sizeOf107
 v46:=Tryz.zeroValue107
 t51:=Tryz.underlying135
 a51:=Tryz.isAgg135
 z51:=Tryz.sizeOf135
 v51:=Tryz.zeroValue135
 t146:=Tryz.underlying175
 a146:=Tryz.isAgg175
 z146:=Tryz.sizeOf175
 v146:=Tryz.zeroValue175
 g1:=by kernel_rfl
 i3:=by kernel_rfl
 i4:=by kernel_rfl
 i5:=by kernel_rfl
 i9:=by kernel_rfl
 i46:=by kernel_rfl
 i51:=by kernel_rfl
 i146:=by kernel_rfl
 m1:=by kernel_rfl
 s1_3:=fun w h=>Go.Proofs.cell_of_shapedOpen_int (zero := #[.int .i64 0]) (t:=3) h (of_decide_eq_true (by kernel_rfl)) (by kernel_rfl) rfl (by kernel_rfl) (by kernel_rfl) Tryz.underlying3
theorem Tryz.index_fact (s sub:ByteArray) (m:Int) (w:World) (hs:s.size<4294967281) (hm:w.cell? ⟨0,0,none⟩=some (.int .i64 m)) :
  Calls Tryz.prog 90 #[.string s,.string sub] w fun e w'=>e=.returned (.int .i64 (Lib.index s.data.toList sub.data.toList))∧w'=w :=
 Any.stringslite_Index { Tryz.laysM219 with } s sub m w hs hm
theorem Tryz.index_var (w:World) (h:w.ShapedOpen Tryz.prog) : ∃ m,w.cell? ⟨0,0,none⟩=some (.int .i64 m):=Tryz.laysM219.s1_3 w h
end Go.Proofs
namespace Go.Proofs.YtngfappichkflaaGreat
open Go Go.Ab Go.RowKit
def ext:Ext := { split:=[96],L8:=[122],LM:=[] }
theorem K5:Jb Tryz.prog ext where
 ng:=Zx (by kernel_rfl)
 L8:=by
  intro f hf
  have:f=122:=by
   unfold ext at hf
   simp only[has] at hf
   split at hf
   ·rename_i h; exact(Nat.eq_of_beq_eq_true h).symm
   ·cases hf
  subst this
  exact⟨Tryz.f122,111,25,1,4,by kernel_rfl,by kernel_rfl,by kernel_rfl,by kernel_rfl,by kernel_rfl,by kernel_rfl⟩
 LM:=fun f hf=>by cases hf
theorem mixed:Tryz.prog.follows .mixedOrders=true:=by kernel_rfl
def Iv:World→Prop:=fun w=>∃ m,w.cell? ⟨0,0,none⟩=some (.int .i64 m)
theorem aqM (w w1 w2:World) (hw:Iv w) (h:∀ c,c<w.heap.size→w2.heap[c]?=w1.heap[c]?) (h1:Iv w1) : Iv w2:=by
 obtain⟨m0,hm0⟩:=hw
 obtain⟨m,hm⟩:=h1
 refine⟨m, ?_⟩
 have hlt:0<w.heap.size:=by
  rcases Nat.lt_or_ge 0 w.heap.size with h | h
  ·exact h
  ·simp[World.cell?,Array.getElem?_eq_none h] at hm0
 simpa [World.cell?,h 0 hlt] using hm
def row (x:List UInt8 × List UInt8 × Int) : aD := { args:=[.sc (.string ⟨⟨x.1⟩⟩),.sc (.string ⟨⟨x.2.1⟩⟩)],ans:=.val (.sc (.int .i64 x.2.2)) }
theorem anQ (x:List UInt8 × List UInt8 × Int) (h:Lib.index x.1 x.2.1=x.2.2) (hl:x.1.length<4294967281) : zI Tryz.prog Iv 90 (row x):=by
 refine zI.val rfl fun w ⟨m,hm⟩ ρ us hus=>?_
 cases hus with
 | cons _ u1 _ us r1 hus =>
 cases hus with
 | cons _ u2 _ us r2 hus =>
 cases hus
 obtain⟨rfl,_⟩:=aX r1
 obtain⟨rfl,_⟩:=aX r2
 refine(Tryz.index_fact _ _ m w (by simpa [ByteArray.size] using hl) hm).mono fun e w' hR=>?_
 obtain⟨rfl,rfl⟩:=hR
 exact⟨⟨_,rfl,fun ρ=>by rw[← h]; exact .sc _ rfl⟩,rfl⟩
def known:List (List UInt8 × List UInt8 × Int):=[([99],[98,111],-1),([98,111,98],[98,111],0),([99],[97,110],-1),([98,111,98],[97,110],-1),([53],[97,110],-1),([97],[],0),([98],[],0)]
def T0:Table:=[(90,known.map row)]
theorem ahM:(known.all fun x=>decide (Lib.index x.1 x.2.1=x.2.2) && Nat.ble x.1.length 4000)=true:=by kernel_rfl
theorem t0:lT Tryz.prog Iv T0:=by
 intro g hg e he
 have hg:g=(90,known.map row):=by simpa [T0] using hg
 subst hg
 obtain⟨x,hx,rfl⟩:=List.mem_map.1 he
 have:=List.all_eq_true.1 ahM x hx
 rw[Bool.and_eq_true,decide_eq_true_iff] at this
 exact anQ x this.1 (by have:=bE this.2; omega)
end Go.Proofs.YtngfappichkflaaGreat
namespace Go.Proofs.YtngfappichkflaaGreat.mr
open Go Go.Ab Go.Ab.aH Go.Ab.Crw Go.Ab.Crw.Viw Go.RowKit
theorem own:aiQ 30 (ax 17):=by
 intro M v l Q h1 h2 h3
 obtain⟨a0,e,h⟩:=agu (TE:=30) afl h1 h2 h3
 cases e
 exact Mi h
theorem avD:aea 91 116 (ax 10):=by
 intro M v l Q h1 h2 h3
 obtain⟨a0,e,h⟩:=abH atm apply h1 h2 h3
 cases e
 exact NZ h
theorem alE:O8 (ax 14):=by
 intro M v xs Q h1 h2 h3
 obtain⟨a0,e,h⟩:=WH (TN:=40) akw h1 h2 h3
 cases e
 exact Jp h
theorem groups:LH (ax 40):=by
 intro M v es Q h1 h2 h3
 obtain⟨a0,e,h⟩:=aaS (TN:=40) (TS:=47) h1 h2 h3
 cases e
 exact Jq h
theorem fields:FJ 91 116 64 (ax 32):=by
 intro M t B ps es s Q h1 h2 h3
 obtain⟨a0,a1,e,h⟩:=aaO (TF:=64) F6 groups alE h1 h2 h3
 cases e
 exact Jr h
theorem avl:agH 91 116 64 (ax 12):=by
 intro M t B ps es s Q h1 h2 h3 h4
 obtain⟨a0,a1,e,h⟩:=aja fields h1 h2 h3 h4
 cases e
 exact NB h
theorem small:FQ (ax 38):=by
 intro M s Q h1 h2
 obtain⟨a0,e,h⟩:=acD (T8:=5) h1 h2
 cases e
 exact JX h
theorem arQ:FQ (ax 68):=by
 intro M s Q h1 h2
 obtain⟨a0,e,h⟩:=aa6 (T8:=5) h1 h2
 cases e
 exact aaY h
theorem al7:yu (ax 43):=by
 intro M a b Q h1 h2 h3
 obtain⟨a0,a1,e,h⟩:=Viw.Fa arQ h1 h2 h3
 cases e
 exact Rq h
theorem arZ {B:Base} (hB:∀ w,B.inv w→Iv w) : K4 B (ax 90):=by
 intro M a b Q hM ha hQ
 refine iJ.aiV (v:=N .i64 (Lib.index a b)) ⟨Tryz.f90,_,Tryz.func90,rfl⟩ (fun ρ w us hus hw=>?_) hQ
 obtain⟨m,hm⟩:=hB w (hM▸hw.inv)
 cases hus with
 | cons _ u1 _ us r1 hus =>
 cases hus with
 | cons _ u2 _ us r2 hus =>
 cases hus
 obtain⟨rfl,_⟩:=aX r1
 obtain⟨rfl,_⟩:=aX r2
 refine(Tryz.index_fact ⟨⟨a⟩⟩ ⟨⟨b⟩⟩ m w (by simpa [ByteArray.size] using ha) hm).mono fun e w' hR=>?_
 obtain⟨rfl,rfl⟩:=hR
 exact⟨_,rfl,Below.refl _ _,.sc _ rfl⟩
theorem ahB {B:Base} (hB:∀ w,B.inv w→Iv w) : K4 B (ax 65):=by
 intro M a b Q h1 h2 h3
 obtain⟨a0,a1,e,h⟩:=Vi (arZ hB) h1 h2 h3
 cases e
 exact Fz h
theorem containsS {B:Base} (hB:∀ w,B.inv w→Iv w) : KI B (ax 39):=by
 intro M a b Q h1 h2 h3
 obtain⟨a0,a1,e,h⟩:=Viw.Vh (ahB hB) h1 h2 h3
 cases e
 exact Cf h
theorem findF {B:Base} (hB:∀ w,B.inv w→Iv w) : adW B 91 116 9 (ax 15):=by
 intro M t C ps es s Q h0 h1 h2 h3 h4 h5 h6
 obtain⟨a0,a1,e,h⟩:=find_spec (TF:=64) small WV (containsS hB) fields h0 h1 h2 h3 h4 h5 h6
 cases e
 exact Mf h
theorem atB:Wu 91 116 40 (ax 16):=by
 intro M t C ps es Q h1 h2 h3 h4
 obtain⟨a0,e,h⟩:=adj entries groups h1 h2 h3 h4
 cases e
 exact Fs h
theorem ahE:J9 (ax 34):=by
 intro M x y Q h1
 obtain⟨a0,a1,e,h⟩:=Vj (TL:=44) anw or_ h1
 cases e
 exact Jo h
abbrev fL:AV:=.fn (.func 34) [] []
theorem cmpL:qj bi wR (cO (ax) fL):=al6 ahE
theorem gD:SortG bi 44 3 fL (Sort.insertionSort wR) (fun _ _ _=>True) (ax 80):=by
 intro M b a e d Q h1 h2 h3 h4 h5 h6
 obtain⟨a0,a1,a2,a3,e,h⟩:=Crw.gD (cv:=ax) cmpL h1 h2 h3 h4 h5 h6
 cases e
 exact kH h
theorem aht:SortG bi 44 3 fL Sort.reverseRange (fun _ a e=>a<e) (ax 84):=by
 intro M b a e d Q h1 h2 h3 h4 h5 h6
 obtain⟨a0,a1,a2,a3,e,h⟩:=Crw.aht h1 h2 h3 h4 h5 h6
 cases e
 exact rY h
theorem ad9:adO 44 fL wR (ax 109):=by
 intro M b lo hi first d Q h1 h2 h3 h4 h5
 obtain⟨a0,a1,a2,a3,a4,e,h⟩:=Crw.ad9 (cv:=ax) cmpL h1 h2 h3 h4 h5
 cases e
 exact uU h
theorem aca:SortG bi 44 3 fL (Sort.heapSort wR) (fun _ a e=>a<e) (ax 81):=by
 intro M b a e d Q h1 h2 h3 h4 h5 h6
 obtain⟨a0,a1,a2,a3,e,h⟩:=Crw.aca ad9 h1 h2 h3 h4 h5 h6
 cases e
 exact uP h
theorem Rv:Sg 44 fL wR (ax 86):=by
 intro M b a e pv d Q h1 h2 h3 h4 h5 h6
 obtain⟨a0,a1,a2,a3,a4,e,h⟩:=Crw.Rv (cv:=ax) cmpL h1 h2 h3 h4 h5 h6
 cases e
 exact rq h
theorem ab8:adK 44 fL wR (ax 87):=by
 intro M b a e pv d Q h1 h2 h3 h4 h5 h6
 obtain⟨a0,a1,a2,a3,a4,e,h⟩:=Crw.ab8 (cv:=ax) cmpL h1 h2 h3 h4 h5 h6
 cases e
 exact uG h
theorem Tg:SN 44 3 fL wR (ax 137):=by
 intro M b s k i j d Q h1 h2 h3 h4 h5 h6
 obtain⟨a0,a1,a2,a3,a4,e,h⟩:=Crw.Tg (cv:=ax) cmpL h1 h2 h3 h4 h5 h6
 cases e
 exact xe h
theorem Li:L9 44 3 fL wR (ax 113):=by
 intro M b s k i j h d Q h1 h2 h3 h4 h5 h6 h7
 obtain⟨a0,a1,a2,a3,a4,a5,e,h⟩:=Crw.Li Tg h1 h2 h3 h4 h5 h6 h7
 cases e
 exact xh h
theorem Tw:Sv 44 3 fL wR (ax 112):=by
 intro M b s k i d Q h1 h2 h3 h4 h5 h6 h7
 obtain⟨a0,a1,a2,a3,e,h⟩:=Crw.Tw Li h1 h2 h3 h4 h5 h6 h7
 cases e
 exact ru h
theorem Ta:Tn 44 fL wR (ax 83):=by
 intro M b a e d Q h1 h2 h3 h4 h5
 obtain⟨a0,a1,a2,a3,e,h⟩:=Crw.Ta Tw Li h1 h2 h3 h4 h5
 cases e
 exact sS h
theorem NQ:NN 44 fL wR (ax 85):=by
 intro M b a e d Q h1 h2 h3 h4 h5
 obtain⟨a0,a1,a2,a3,e,h⟩:=Crw.NQ (cv:=ax) cmpL h1 h2 h3 h4 h5
 cases e
 exact oI h
theorem Y4:SortG bi 44 3 fL Sort.breakPatterns (fun _ _ _=>True) (ax 82):=by
 intro M b a e d Q h1 h2 h3 h4 h5 h6
 obtain⟨a0,a1,a2,a3,e,h⟩:=Crw.Y4 ajl aor h1 h2 h3 h4 h5 h6
 cases e
 exact rM h
theorem adR:∀ m,acv 44 m fL wR (ax 62)
 | 0=>by intro h1 h2 h3 h4 h5; omega
 | m + 1=>by
   intro h1 h2 h3 h4 h5 h6 hQ
   obtain⟨a0,a1,a2,a3,a4,e,h⟩:=Crw.adR (cv:=ax) L6 gD aca Y4 Ta aht NQ cmpL Rv ab8 (adR m) h1 h2 h3 h4 h5 h6 hQ
   cases e
   exact nz h
theorem SG:Sm (ax 80):=by
 intro M v fv Q h1
 obtain⟨a0,a1,a2,a3,e,h⟩:=Crw.SG (cv:=ax) h1
 cases e
 exact kH h
theorem Uf:SB (ax 62):=by
 intro M v fv Q h1
 obtain⟨a0,a1,a2,a3,a4,e,h⟩:=Crw.Uf (cv:=ax) SG h1
 cases e
 exact nz h
theorem Tx:RV fL wR 44 (ax 33):=by
 intro M base v xs Q h1 h2 h3
 obtain⟨a0,a1,e,h⟩:=Crw.Tx L6 acI adR Uf h1 h2 h3
 cases e
 exact sK h
theorem asy:acR 91 116 44 (ax 13):=by
 intro M t C ps es Q h1 h2 h3
 obtain⟨a0,e,h⟩:=afZ (TF:=64) WV fields Tx h1 h2 h3
 cases e
 exact Mh h
theorem DJ:uo 85 (ax 22):=by
 intro M v es s Q h1 h2 h3
 obtain⟨a0,a1,e,h⟩:=TH h1 h2 h3
 cases e
 exact TT h
theorem aid:Lb (ax 21):=by
 intro M v es s Q h1 h2 h3
 obtain⟨a0,a1,e,h⟩:=Vq DJ h1 h2 h3
 cases e
 exact Vb h
theorem awP:acL 91 116 (ax 19):=by
 intro M t C ps es v s Q h1 h2 h3 h4 h5
 obtain⟨a0,a1,a2,e,h⟩:=aeU avl DJ h1 h2 h3 h4 h5
 cases e
 exact Mg h
theorem apY {B:Base} (hB:∀ w,B.inv w→Iv w) : TR B 91 116 (ax 23):=by
 intro M t C ps es v s Q h0 h1 h2 h3 h4 h5 h6 h7
 obtain⟨a0,a1,a2,e,h⟩:=aaR (findF hB) ME al7 DJ h0 h1 h2 h3 h4 h5 h6 h7
 cases e
 exact Jm h
theorem al4:Oc 91 116 (ax 24):=by
 intro M t C ps es v Q h1 h2 h3 h4 h5 h6
 obtain⟨a0,a1,e,h⟩:=XH (TL:=40) atB aup alu h1 h2 h3 h4 h5 h6
 cases e
 exact Ij h
end Go.Proofs.YtngfappichkflaaGreat.mr
namespace Go.Proofs.YtngfappichkflaaGreat.mr
open Go Go.Ab Go.Ab.aH Go.Ab.Crw Go.RowKit
theorem Ms {α:Type} {R:uF α} {M:RM} {S:Nat→Prop} {p:α→Prop} : ∀ (n:Nat) (ds:List AV),ds.length=n * R.size→(∀ i,i<n→∃ a,p a∧R.rel M ((ds.drop (i * R.size)).take R.size) a S) →
  ∃ xs:List α,xs.length=n∧fC R M S ds xs∧∀ x∈xs,p x
 | 0,ds,hl,_=>by
   have:ds=[]:=by simpa using hl
   subst this
   exact⟨[],rfl,.nil,by simp⟩
 | n + 1,ds,hl,h=>by
   obtain⟨a,pa,ha⟩:=h 0 (by omega)
   simp only[Nat.zero_mul,List.drop_zero] at ha
   have hl' : (ds.drop R.size).length=n * R.size:=by rw[List.length_drop,hl,Nat.succ_mul]; omega
   obtain⟨xs,h1,h2,h3⟩:=Ms n (ds.drop R.size) hl' fun i hi=>by
    obtain⟨b,pb,hb⟩:=h (i + 1) (by omega)
    refine⟨b,pb, ?_⟩
    rw[List.drop_drop,show R.size + i * R.size=(i + 1) * R.size by rw[Nat.succ_mul,Nat.add_comm]]
    exact hb
   refine⟨a :: xs,by simp[h1], ?_,fun x hx=>?_⟩
   ·have:=fC.cons ha h2
    rwa [List.take_append_drop] at this
   ·rcases List.mem_cons.1 hx with rfl | hx
    ·exact pa
    ·exact h3 x hx
theorem cells3:Tryz.prog.cellsOf 3=1:=by kernel_rfl
theorem ase:Tryz.prog.cellsOf 9=1:=by kernel_rfl
theorem alU:Tryz.prog.cellsOf 25=1:=by kernel_rfl
theorem LK:Tryz.prog.cellsOf 27=2:=by kernel_rfl
theorem amh:Tryz.prog.cellsOf 28=1:=by kernel_rfl
theorem Rs:Tryz.prog.cellsOf 30=7:=by kernel_rfl
theorem Zm {M:RM} {cs:List AV} (h:Fits Tryz.prog M 27 cs) : ∃ d:aH,cs=eX.cells d∧d.2<2 ^ 64:=by
 obtain⟨hl,hf⟩:=h.QF Tryz.underlying27
 rw[LK] at hl
 match cs,hl with
 | [a,b],_ =>
   have f0:Fits Tryz.prog M 3 (([a,b].drop 0).take (Tryz.prog.cellsOf 3)):=hf 0 _ rfl
   have f1:Fits Tryz.prog M 25 (([a,b].drop 1).take (Tryz.prog.cellsOf 25)):=hf 1 _ rfl
   rw[cells3] at f0
   rw[alU] at f1
   obtain⟨n,e,_,_⟩:=f0.SA Tryz.underlying3
   obtain⟨m,e',g1,g2⟩:=f1.SA Tryz.underlying25
   have g1:(0:Int)≤m:=g1
   have g2:m≤(18446744073709551615:Int):=g2
   obtain⟨k,rfl⟩:=Int.eq_ofNat_of_zero_le g1
   cases e; cases e'
   exact⟨(n,k),rfl,by show k<2 ^ 64; omega⟩
theorem agl {M:RM} {cs:List AV} (h:Fits Tryz.prog M 28 cs) : ∃ v,∃ l:List aH,cs=[v]∧Sl eX M v l∧∀ d∈l,d.2<2 ^ 64:=by
 obtain⟨v,n,ds,rfl,hs,hb,he⟩:=h.Uo Tryz.underlying28 (by rw[LK]; decide)
 rw[LK] at hs he
 obtain⟨xs,rfl,rfl,hp⟩:=UF (size:=2) eX.cells (fun d:aH=>d.2<2 ^ 64) (fun _=>rfl) n ds hs.length fun i hi=>by
  obtain⟨d,e,h⟩:=Zm (he i hi)
  exact⟨d,h,e⟩
 exact⟨v,xs,rfl,hs,hp⟩
def ai4 (x:Ev) : Prop:=x.1.1.2<2 ^ 64∧x.1.2.2.1.length≤reachBytes∧x.1.2.2.2.1.length≤reachBytes∧x.1.2.2.2.2.length≤reachBytes∧∀ d∈x.2,d.2<2 ^ 64
theorem ali {M:RM} {cs:List AV} (h:Fits Tryz.prog M 30 cs) : ∃ e kv ks,cs=gz e kv∧Sl eX M kv ks∧ai4 (e,ks):=by
 obtain⟨hl,hf⟩:=h.QF Tryz.underlying30
 rw[Rs] at hl
 match cs,hl with
 | [a,b,c,d,e,f,g],_ =>
   have f0:Fits Tryz.prog M 27 (([a,b,c,d,e,f,g].drop 0).take (Tryz.prog.cellsOf 27)):=hf 0 _ rfl
   have f1:Fits Tryz.prog M 3 (([a,b,c,d,e,f,g].drop 2).take (Tryz.prog.cellsOf 3)):=hf 1 _ rfl
   have f2:Fits Tryz.prog M 9 (([a,b,c,d,e,f,g].drop 3).take (Tryz.prog.cellsOf 9)):=hf 2 _ rfl
   have f3:Fits Tryz.prog M 9 (([a,b,c,d,e,f,g].drop 4).take (Tryz.prog.cellsOf 9)):=hf 3 _ rfl
   have f4:Fits Tryz.prog M 9 (([a,b,c,d,e,f,g].drop 5).take (Tryz.prog.cellsOf 9)):=hf 4 _ rfl
   have f5:Fits Tryz.prog M 28 (([a,b,c,d,e,f,g].drop 6).take (Tryz.prog.cellsOf 28)):=hf 5 _ rfl
   rw[LK] at f0
   rw[cells3] at f1
   rw[ase] at f2 f3 f4
   rw[amh] at f5
   obtain⟨dd,e0,g0⟩:=Zm f0
   obtain⟨op,e1,_,_⟩:=f1.SA Tryz.underlying3
   obtain⟨s2,e2,g2⟩:=f2.Fx Tryz.underlying9
   obtain⟨s3,e3,g3⟩:=f3.Fx Tryz.underlying9
   obtain⟨s4,e4,g4⟩:=f4.Fx Tryz.underlying9
   obtain⟨kv,ks,e5,hk,g5⟩:=agl f5
   cases e0; cases e1; cases e2; cases e3; cases e4; cases e5
   exact⟨(dd,(op,(s2,(s3,s4)))),_,ks,rfl,hk,g0,g2,g3,g4,g5⟩
theorem ahe {M:RM} {cs:List AV} (h:Fits Tryz.prog M 32 cs) : ∃ v,∃ l:List Ev,cs=[v]∧iK xM M v l (fun d=>d<M.next)∧∀ x∈l,ai4 x:=by
 obtain⟨v,n,ds,rfl,hs,hb,he⟩:=h.Uo Tryz.underlying32 (by rw[Rs]; decide)
 rw[Rs] at hs he
 obtain⟨xs,hn,hr,hp⟩:=Ms (R:=xM) (M:=M) (S:=fun d=>d<M.next) (p:=ai4) n ds hs.length fun i hi=>by
  obtain⟨e,kv,ks,e1,hk,ho⟩:=ali (he i hi)
  refine⟨(e,ks),ho, ?_⟩
  show xM.rel M ((ds.drop (i * 7)).take 7) (e,ks) _
  rw[e1]
  exact ae9 hk (fun d hd=>aL.lt hk d hd)
 subst hn
 exact⟨v,xs,rfl,⟨ds,hs,fun d hd=>hs.lt d hd,hr⟩,hp⟩
end Go.Proofs.YtngfappichkflaaGreat.mr
namespace Go.Proofs.YtngfappichkflaaGreat
open Go Go.Ab Go.RowKit
def c0:AV:=.sc (.int .i64 0)
def c1:AV:=.sc (.int .u64 1)
def c2:AV:=.sc (.string ⟨⟨ [99] ⟩⟩)
def c3:AV:=.sc (.string ⟨⟨ [102,110] ⟩⟩)
def c4:AV:=.sc (.string ⟨⟨ [65,110,110] ⟩⟩)
def c5:AV:=.sc (.int .i64 1)
def c6:AV:=.sc (.slice none 0 0)
def c7:AV:=.agg [c0,c1,c5,c2,c3,c4,c6]
def c8:AV:=.sc (.string ⟨⟨ [66,111,98] ⟩⟩)
def c9:AV:=.agg [c5,c1,c5,c2,c3,c8,c6]
def c10:AV:=.sc (.int .u64 2)
def c11:AV:=.sc (.string ⟨⟨ [116,101,108] ⟩⟩)
def c12:AV:=.sc (.string ⟨⟨ [53] ⟩⟩)
def c13:AV:=.agg [c0,c10,c5,c2,c11,c12,c6]
def c14:AV:=.ptr 1 0
def c15:Option AV:=some c6
def c16:Tree AV:=.node .leaf c15 .leaf
def c17:Tree AV:=.node c16 c15 .leaf
def c18:Tree AV:=.node c17 c15 c16
def c19:Tree AV:=.node c16 c15 c16
def c20:Tree AV:=.node c18 c15 c19
def c21:Tree AV:=.node c19 c15 c19
def uX:Tree AV:=.node c20 c15 c21
def c23:AV:=.sc (.int .u64 0)
def c24:Option AV:=some c23
def c25:Tree AV:=.node .leaf c24 .leaf
def c26:Tree AV:=.node c25 c24 c25
def c27:Tree AV:=.node c26 c24 c26
def c28:Tree AV:=.node c27 c24 c27
def lX:dN:=.row 32 (.node uX c24 c28) [] false 116 0
def yo:AV:=.ptr 4 0
def c31:AV:=.ptr 16 0
def c32:AV:=.agg [c0,c1]
def qa:AV:=.sc (.bool true)
def c34:AV:=.agg [c5,c1]
def kG:dN:=.row 2 c17 [c6] false 111 0
def dY:Option AV:=some c1
def c37:Tree AV:=.node .leaf dY .leaf
def oQ:dN:=.row 1 c37 [] true 25 0
def AO:Option AV:=some (.emp 10)
def c40:Tree AV:=.node .leaf AO .leaf
def dZ:AV:=.tup []
def c42:AV:=.ptr 4 2
def sw:dN:=.row 32 (.node uX dY c28) [] false 116 0
def c44:AV:=.ptr 16 2
def nJ:AV:=.sc (.bool false)
def c46:AV:=.slc 12 0 1 (.op 5)
def UZ:Option AV:=some c3
def UD:Tree AV:=.node .leaf UZ .leaf
def c49:Option AV:=some c0
def c50:Option AV:=some c4
def c51:Tree AV:=.node .leaf c50 .leaf
def MB:Option AV:=some c2
def c53:dN:=.row 5 (.node (.node UD dY .leaf) c49 (.node c51 MB .leaf)) [] true 40 0
def Du:AV:=.slc 14 0 1 (.op 5)
def zO:AV:=.sc (.int .i64 (-1))
def c56:Tree AV:=.node .leaf (some (.slc 54 0 1 (.op 1))) .leaf
def mE:Option AV:=some (.emp 54)
def c58:Tree AV:=.node .leaf mE .leaf
def c59:AV:=.ptr 62 0
def gM:Tree AV:=.node c27 dY c27
def fJ:Option AV:=some c10
def c62:Tree AV:=.node .leaf fJ .leaf
def iI:dN:=.row 1 c62 [] true 25 0
def c64:Option AV:=some (.emp 100)
def c65:AV:=.slc 57 0 1 (.op 5)
def c66:AV:=.slc 58 0 2 (.op 5)
def z8:Tree AV:=.node .leaf MB .leaf
def c68:Option AV:=some c8
def P6:Tree AV:=.node .leaf c68 .leaf
def c70:Option AV:=some c5
def wK:dN:=.row 10 (.node (.node (.node z8 UZ .leaf) dY (.node P6 c70 .leaf)) c49 (.node (.node UD c50 .leaf) MB c37)) [] true 40 0
def c72:AV:=.slc 60 0 2 (.op 5)
def FC:Tree AV:=.node .leaf c70 .leaf
def c74:dN:=.row 2 (.node FC c49 .leaf) [c0] false 3 0
def c75:Tree AV:=.node .leaf c49 .leaf
def c76:AV:=.agg [c0,c10]
def c77:AV:=.slc 104 0 3 (.op 5)
def c78:Option AV:=some c11
def ZF:Tree AV:=.node .leaf c78 .leaf
def c80:Tree AV:=.node .leaf (some c12) .leaf
def jq:dN:=.row 15 (.node (.node (.node z8 UZ c62) dY (.node P6 c70 ZF)) c49 (.node (.node UD c50 z8) MB (.node c75 dY c80))) [] true 40 0
def qL:AV:=.slc 106 0 3 (.op 5)
def c83:AV:=.slc 184 0 3 (.op 5)
def c84:AV:=.slc 187 0 3 (.op 5)
def c85:AV:=.sc (.string ⟨⟨ [49] ⟩⟩)
def c86:Option AV:=some c85
def c87:Tree AV:=.node .leaf c86 .leaf
def rX:AV:=.sc (.string ⟨⟨ [98] ⟩⟩)
def Qv:Option AV:=some rX
def xw:dN:=.row 5 (.node (.node ZF dY .leaf) c49 (.node c87 Qv .leaf)) [] true 40 0
def c91:Tree AV:=.node .leaf Qv .leaf
def AU:AV:=.sc (.string ⟨⟨ [97] ⟩⟩)
def c93:Option AV:=some AU
def oZ:dN:=.row 10 (.node (.node (.node c91 UZ .leaf) fJ (.node c87 c49 .leaf)) c49 (.node (.node ZF Qv .leaf) c93 c37)) [] true 40 0
def c95:Option AV:=some zO
def c96:Tree AV:=.node .leaf c95 .leaf
def jg:AV:=.ptr 2 0
def c98:AV:=.slc 115 0 3 (.op 5)
def c99:AV:=.slc 154 0 3 (.op 5)
def apB:AV:=.slc 215 0 3 (.op 5)
def anP:AV:=.slc 257 0 3 (.op 5)
def arP:AV:=.slc 70 0 1 (.op 5)
def aoJ:Tree AV:=.node c91 c93 .leaf
def GM:dN:=.row 5 (.node (.node UD fJ .leaf) c49 aoJ) [] true 40 0
def c105:AV:=.slc 89 0 1 (.op 5)
def Gx:dN:=.row 5 (.node (.node ZF fJ .leaf) c49 (.node c80 MB .leaf)) [] true 40 0
def c107:AV:=.slc 128 0 1 (.op 5)
def anJ:AV:=.slc 123 0 2 (.op 5)
def c109:AV:=.slc 167 0 1 (.op 5)
def anh:AV:=.slc 162 0 2 (.op 5)
def amF:AV:=.slc 228 0 1 (.op 5)
def amV:AV:=.slc 223 0 2 (.op 5)
def aos:AV:=.slc 270 0 1 (.op 5)
def amy:AV:=.slc 265 0 2 (.op 5)
def ap4:AV:=.slc 76 0 1 (.op 5)
def c116:AV:=.slc 94 0 1 (.op 5)
def c117:dN:=.row 1 z8 [] true 9 0
def aiA:dN:=.row 2 aoJ [] true 9 0
def c119:AV:=.slc 182 0 1 (.op 3)
def JP:AV:=.sc (.int .i64 2)
def acO:Option AV:=some JP
def apu:AV:=.sc (.string ⟨⟨ [66,79] ⟩⟩)
def ZE:AV:=.sc (.string ⟨⟨ [98,111] ⟩⟩)
def c124:AV:=.sc (.string ⟨⟨ [98,111,98] ⟩⟩)
def GH:AV:=.sc (.string ⟨⟨ [97,110] ⟩⟩)
def ai0:AV:=.agg [c0,c1,c5,rX,c11,c85,c6]
def c127:AV:=.agg [c0,c10,c5,AU,c3,rX,c6]
def uH:AV:=.sc (.string ⟨⟨ [] ⟩⟩)
def amz:AV:=.slc 112 0 1 (.op 5)
def c130:AV:=.slc 130 0 1 (.op 5)
def c131:AV:=.slc 118 0 1 (.op 5)
def ara:AV:=.slc 135 0 1 (.op 5)
def aji:AV:=.slc 145 0 2 (.op 5)
def Ye:AV:=.agg [c5,c1,c2,c3,c8]
def adB:AV:=.tup [Ye,qa]
def ag6:AV:=.agg [c0,c10,c2,c11,c12]
def ZC:AV:=.tup [ag6,qa]
def c138:AV:=.agg [c0,c10,AU,c3,rX]
def c139:AV:=.tup [c138,qa]
def acd:AV:=.agg [c0,c1,rX,c11,c85]
def c141:AV:=.tup [acd,qa]
def aey:AV:=.agg [c0,c1,c2,c3,c4]
def c143:AV:=.ptr 3 0
def BU:Tree AV:=.node UD c70 c16
def c145:AV:=.ptr 15 0
def c146:AV:=.ptr 61 0
def JC:Tree AV:=.node ZF c70 c16
def c148:Tree AV:=.node .leaf c93 .leaf
def aqF:AV:=.slc 139 0 2 (.op 3)
def XJ:dN:=.row 6 (.node (.node ZF c68 FC) UZ (.node c80 acO .leaf)) [] true 64 0
def anY:dN:=.row 3 (.node c91 UZ FC) [] true 64 0
def c152:dN:=.row 3 (.node c87 c78 FC) [] true 64 0
def agB:AV:=.slc 102 0 2 (.op 3)
def c154:AV:=.tup [qa,c0]
def B1:Table:=[(11,[{args:=[c0,c1,c2,c3,c4],nx:=0,ans:=.val c7},{args:=[c5,c1,c2,c3,c8],nx:=0,ans:=.val c9},{args:=[c0,c10,c2,c11,c12],nx:=0,ans:=.val c13}]),(47,[{args:=[],ans:=.rows 1 c14 [(1,lX)] 2},{args:=[],ans:=.rows 4 yo [(4,lX)] 5},{args:=[],ans:=.rows 16 c31 [(16,lX)] 17}]),(69,[{args:=[c32],nx:=5,ans:=.val qa},{args:=[c34],nx:=17,ans:=.val qa}]),(70,[{args:=[c2,c3,c4],nx:=5,ans:=.val qa},{args:=[c2,c3,c8],nx:=17,ans:=.val qa}]),(91,[{args:=[(.slc 6 0 2 (.ex 2))],fp:=[(6,kG)],nx:=7,ans:=.val c6},{args:=[(.slc 8 0 2 (.ex 2))],fp:=[(8,kG)],nx:=9,ans:=.val c6},{args:=[(.slc 10 0 2 (.ex 2))],fp:=[(10,kG)],nx:=11,ans:=.val c6},{args:=[(.slc 12 0 2 (.ex 2))],fp:=[(12,kG)],nx:=13,ans:=.val c6},{args:=[(.slc 14 0 2 (.ex 2))],fp:=[(14,kG)],nx:=15,ans:=.val c6},{args:=[(.slc 16 0 2 (.ex 2))],fp:=[(16,kG)],nx:=17,ans:=.val c6},{args:=[(.slc 18 0 2 (.ex 2))],fp:=[(18,kG)],nx:=19,ans:=.val c6},{args:=[(.slc 20 0 2 (.ex 2))],fp:=[(20,kG)],nx:=21,ans:=.val c6},{args:=[(.slc 22 0 2 (.ex 2))],fp:=[(22,kG)],nx:=23,ans:=.val c6},{args:=[(.slc 24 0 2 (.ex 2))],fp:=[(24,kG)],nx:=25,ans:=.val c6},{args:=[(.slc 26 0 2 (.ex 2))],fp:=[(26,kG)],nx:=27,ans:=.val c6},{args:=[(.slc 28 0 2 (.ex 2))],fp:=[(28,kG)],nx:=29,ans:=.val c6},{args:=[(.slc 30 0 2 (.ex 2))],fp:=[(30,kG)],nx:=31,ans:=.val c6},{args:=[(.slc 32 0 2 (.ex 2))],fp:=[(32,kG)],nx:=33,ans:=.val c6},{args:=[(.slc 34 0 2 (.ex 2))],fp:=[(34,kG)],nx:=35,ans:=.val c6},{args:=[(.slc 36 0 2 (.ex 2))],fp:=[(36,kG)],nx:=37,ans:=.val c6},{args:=[(.slc 18 0 2 (.ex 2))],fp:=[(10,oQ),(18,(.row 2 (.node c40 c15 .leaf) [c6] false 111 0))],nx:=19,ans:=.val c6}]),(92,[{args:=[c6],nx:=7,ans:=.val dZ}]),(93,[{args:=[c6],nx:=7,ans:=.val c6}]),(94,[{args:=[yo],fp:=[(4,lX)],nx:=7,ans:=.val dZ},{args:=[c42],fp:=[(4,lX)],nx:=9,ans:=.val dZ},{args:=[(.ptr 4 4)],fp:=[(4,lX)],nx:=11,ans:=.val dZ},{args:=[(.ptr 4 6)],fp:=[(4,lX)],nx:=13,ans:=.val dZ},{args:=[(.ptr 4 8)],fp:=[(4,lX)],nx:=15,ans:=.val dZ},{args:=[(.ptr 4 10)],fp:=[(4,lX)],nx:=17,ans:=.val dZ},{args:=[(.ptr 4 12)],fp:=[(4,lX)],nx:=19,ans:=.val dZ},{args:=[(.ptr 4 14)],fp:=[(4,lX)],nx:=21,ans:=.val dZ},{args:=[(.ptr 4 16)],fp:=[(4,lX)],nx:=23,ans:=.val dZ},{args:=[(.ptr 4 18)],fp:=[(4,lX)],nx:=25,ans:=.val dZ},{args:=[(.ptr 4 20)],fp:=[(4,lX)],nx:=27,ans:=.val dZ},{args:=[(.ptr 4 22)],fp:=[(4,lX)],nx:=29,ans:=.val dZ},{args:=[(.ptr 4 24)],fp:=[(4,lX)],nx:=31,ans:=.val dZ},{args:=[(.ptr 4 26)],fp:=[(4,lX)],nx:=33,ans:=.val dZ},{args:=[(.ptr 4 28)],fp:=[(4,lX)],nx:=35,ans:=.val dZ},{args:=[(.ptr 4 30)],fp:=[(4,lX)],nx:=37,ans:=.val dZ},{args:=[(.ptr 9 0)],fp:=[(10,oQ),(9,(.row 2 (.node (.node .leaf (some (.slc 10 0 1 (.op 1))) .leaf) c24 .leaf) [c23,c6] false 113 0))],ans:=.rows 11 dZ [(9,(.row 2 (.node c40 dY .leaf) [c23,c6] false 113 0))] 11},{args:=[c31],fp:=[(16,sw)],nx:=19,ans:=.val dZ},{args:=[c44],fp:=[(16,sw)],nx:=21,ans:=.val dZ},{args:=[(.ptr 16 4)],fp:=[(16,sw)],nx:=23,ans:=.val dZ},{args:=[(.ptr 16 6)],fp:=[(16,sw)],nx:=25,ans:=.val dZ},{args:=[(.ptr 16 8)],fp:=[(16,sw)],nx:=27,ans:=.val dZ},{args:=[(.ptr 16 10)],fp:=[(16,sw)],nx:=29,ans:=.val dZ},{args:=[(.ptr 16 12)],fp:=[(16,sw)],nx:=31,ans:=.val dZ},{args:=[(.ptr 16 14)],fp:=[(16,sw)],nx:=33,ans:=.val dZ}]),(73,[{args:=[c14,c1],fp:=[(1,lX)],nx:=12,ans:=.val nJ}]),(46,[{args:=[c6],nx:=12,ans:=.val c6},{args:=[c46],fp:=[(12,c53)],ans:=.rows 13 Du [(14,c53)] 15}]),(74,[{args:=[c46,c0,c5,c5,(.fn (.func 53) [] [])],fp:=[(12,c53)],nx:=13,ans:=.val dZ}]),(77,[{args:=[c6,c32],nx:=17,ans:=.val zO}]),(57,[{args:=[yo,c14],fp:=[(1,lX),(10,oQ),(4,(.row 32 (.node (.node c20 AO c21) dY c28) [] false 116 0))],nx:=15,ans:=.val nJ}])]
theorem b1:oC Tryz.prog ext T0 100000 200 B1=true:=by kernel_rfl
def T1:Table:=B1++T0
theorem t1:lT Tryz.prog Iv T1:=t0.add K5 mixed b1
def B2:Table:=[(94,[{args:=[(.ptr 16 16)],fp:=[(16,sw)],nx:=35,ans:=.val dZ},{args:=[(.ptr 16 18)],fp:=[(16,sw)],nx:=37,ans:=.val dZ},{args:=[(.ptr 16 20)],fp:=[(16,sw)],nx:=39,ans:=.val dZ},{args:=[(.ptr 16 22)],fp:=[(16,sw)],nx:=41,ans:=.val dZ},{args:=[(.ptr 16 24)],fp:=[(16,sw)],nx:=43,ans:=.val dZ},{args:=[(.ptr 16 26)],fp:=[(16,sw)],nx:=45,ans:=.val dZ},{args:=[(.ptr 16 28)],fp:=[(16,sw)],nx:=47,ans:=.val dZ},{args:=[(.ptr 16 30)],fp:=[(16,sw)],nx:=49,ans:=.val dZ},{args:=[(.ptr 53 0)],fp:=[(54,oQ),(53,(.row 2 (.node c56 c24 .leaf) [c23,c6] false 113 0))],ans:=.rows 55 dZ [(53,(.row 2 (.node c58 dY .leaf) [c23,c6] false 113 0))] 55},{args:=[c59],fp:=[(62,sw)],nx:=65,ans:=.val dZ},{args:=[(.ptr 62 2)],fp:=[(62,(.row 32 (.node uX dY gM) [] false 116 0))],nx:=67,ans:=.val dZ},{args:=[(.ptr 62 4)],fp:=[(62,(.row 32 (.node uX dY gM) [] false 116 0))],nx:=69,ans:=.val dZ},{args:=[(.ptr 62 6)],fp:=[(62,(.row 32 (.node uX dY gM) [] false 116 0))],nx:=71,ans:=.val dZ},{args:=[(.ptr 62 8)],fp:=[(62,(.row 32 (.node uX dY gM) [] false 116 0))],nx:=73,ans:=.val dZ},{args:=[(.ptr 62 10)],fp:=[(62,(.row 32 (.node uX dY gM) [] false 116 0))],nx:=75,ans:=.val dZ},{args:=[(.ptr 62 12)],fp:=[(62,(.row 32 (.node uX dY gM) [] false 116 0))],nx:=77,ans:=.val dZ},{args:=[(.ptr 62 14)],fp:=[(62,(.row 32 (.node uX dY gM) [] false 116 0))],nx:=79,ans:=.val dZ},{args:=[(.ptr 62 16)],fp:=[(62,(.row 32 (.node uX dY gM) [] false 116 0))],nx:=81,ans:=.val dZ},{args:=[(.ptr 62 18)],fp:=[(62,(.row 32 (.node uX dY gM) [] false 116 0))],nx:=83,ans:=.val dZ},{args:=[(.ptr 62 20)],fp:=[(62,(.row 32 (.node uX dY gM) [] false 116 0))],nx:=85,ans:=.val dZ},{args:=[(.ptr 62 22)],fp:=[(62,(.row 32 (.node uX dY gM) [] false 116 0))],nx:=87,ans:=.val dZ},{args:=[(.ptr 62 24)],fp:=[(62,(.row 32 (.node uX dY gM) [] false 116 0))],nx:=89,ans:=.val dZ},{args:=[(.ptr 62 26)],fp:=[(62,(.row 32 (.node uX dY gM) [] false 116 0))],nx:=91,ans:=.val dZ},{args:=[(.ptr 62 28)],fp:=[(62,(.row 32 (.node uX dY gM) [] false 116 0))],nx:=93,ans:=.val dZ},{args:=[(.ptr 62 30)],fp:=[(62,(.row 32 (.node uX dY gM) [] false 116 0))],nx:=95,ans:=.val dZ},{args:=[(.ptr 99 0)],fp:=[(100,iI),(99,(.row 2 (.node (.node .leaf (some (.slc 100 0 1 (.op 1))) .leaf) dY .leaf) [c23,c6] false 113 0))],ans:=.rows 101 dZ [(99,(.row 2 (.node (.node .leaf c64 .leaf) fJ .leaf) [c23,c6] false 113 0))] 101}]),(91,[{args:=[(.slc 38 0 2 (.ex 2))],fp:=[(38,kG)],nx:=39,ans:=.val c6},{args:=[(.slc 40 0 2 (.ex 2))],fp:=[(40,kG)],nx:=41,ans:=.val c6},{args:=[(.slc 42 0 2 (.ex 2))],fp:=[(42,kG)],nx:=43,ans:=.val c6},{args:=[(.slc 44 0 2 (.ex 2))],fp:=[(44,kG)],nx:=45,ans:=.val c6},{args:=[(.slc 46 0 2 (.ex 2))],fp:=[(46,kG)],nx:=47,ans:=.val c6},{args:=[(.slc 48 0 2 (.ex 2))],fp:=[(48,kG)],nx:=49,ans:=.val c6},{args:=[(.slc 64 0 2 (.ex 2))],fp:=[(64,kG)],nx:=65,ans:=.val c6},{args:=[(.slc 66 0 2 (.ex 2))],fp:=[(54,oQ),(66,(.row 2 (.node c58 c15 .leaf) [c6] false 111 0))],nx:=67,ans:=.val c6},{args:=[(.slc 68 0 2 (.ex 2))],fp:=[(68,kG)],nx:=69,ans:=.val c6},{args:=[(.slc 70 0 2 (.ex 2))],fp:=[(70,kG)],nx:=71,ans:=.val c6},{args:=[(.slc 72 0 2 (.ex 2))],fp:=[(72,kG)],nx:=73,ans:=.val c6},{args:=[(.slc 74 0 2 (.ex 2))],fp:=[(74,kG)],nx:=75,ans:=.val c6},{args:=[(.slc 76 0 2 (.ex 2))],fp:=[(76,kG)],nx:=77,ans:=.val c6},{args:=[(.slc 78 0 2 (.ex 2))],fp:=[(78,kG)],nx:=79,ans:=.val c6},{args:=[(.slc 80 0 2 (.ex 2))],fp:=[(80,kG)],nx:=81,ans:=.val c6},{args:=[(.slc 82 0 2 (.ex 2))],fp:=[(82,kG)],nx:=83,ans:=.val c6},{args:=[(.slc 84 0 2 (.ex 2))],fp:=[(84,kG)],nx:=85,ans:=.val c6},{args:=[(.slc 86 0 2 (.ex 2))],fp:=[(86,kG)],nx:=87,ans:=.val c6},{args:=[(.slc 88 0 2 (.ex 2))],fp:=[(88,kG)],nx:=89,ans:=.val c6},{args:=[(.slc 90 0 2 (.ex 2))],fp:=[(90,kG)],nx:=91,ans:=.val c6},{args:=[(.slc 92 0 2 (.ex 2))],fp:=[(92,kG)],nx:=93,ans:=.val c6},{args:=[(.slc 94 0 2 (.ex 2))],fp:=[(94,kG)],nx:=95,ans:=.val c6}]),(73,[{args:=[c42,c1],fp:=[(10,oQ),(4,(.row 32 (.node (.node c20 AO c21) dY c28) [] false 116 0))],nx:=56,ans:=.val nJ}]),(46,[{args:=[Du],fp:=[(14,c53)],ans:=.rows 56 c65 [(57,c53)] 58},{args:=[c66],fp:=[(58,wK)],ans:=.rows 59 c72 [(60,wK)] 61}]),(36,[{args:=[c2,c2],nx:=61,ans:=.val c0},{args:=[c3,c3],nx:=61,ans:=.val c0}]),(35,[{args:=[(.slc 63 0 2 (.ex 2))],fp:=[(63,c74)],nx:=64,ans:=.val c5},{args:=[(.slc 61 0 3 (.ex 3))],fp:=[(61,(.row 3 (.node c75 c49 FC) [c0] false 3 0))],nx:=62,ans:=.val c5}]),(77,[{args:=[c6,c34],nx:=63,ans:=.val zO}]),(57,[{args:=[c31,yo],fp:=[(10,oQ),(4,(.row 32 (.node (.node c20 AO c21) dY c28) [] false 116 0)),(54,oQ),(16,(.row 32 (.node (.node (.node c18 mE c19) c15 c21) dY gM) [] false 116 0))],nx:=61,ans:=.val nJ}]),(69,[{args:=[c76],nx:=63,ans:=.val qa}]),(70,[{args:=[c2,c11,c12],nx:=63,ans:=.val qa}]),(47,[{args:=[],ans:=.rows 62 c59 [(62,lX)] 63}])]
theorem b2:oC Tryz.prog ext T1 100000 200 B2=true:=by kernel_rfl
def T2:Table:=B2++T1
theorem t2:lT Tryz.prog Iv T2:=t1.add K5 mixed b2
def B3:Table:=[(73,[{args:=[c31,c10],fp:=[(54,oQ),(16,(.row 32 (.node (.node (.node c18 mE c19) c15 c21) dY gM) [] false 116 0))],nx:=102,ans:=.val nJ},{args:=[yo,c10],fp:=[(10,oQ),(4,(.row 32 (.node (.node c20 AO c21) dY c28) [] false 116 0))],nx:=56,ans:=.val nJ}]),(46,[{args:=[c72],fp:=[(60,wK)],ans:=.rows 102 (.slc 103 0 2 (.op 5)) [(103,wK)] 104},{args:=[c77],fp:=[(104,jq)],ans:=.rows 105 qL [(106,jq)] 107},{args:=[qL],fp:=[(106,jq)],ans:=.rows 183 c83 [(184,jq)] 185},{args:=[qL],fp:=[(106,jq)],ans:=.rows 186 c84 [(187,jq)] 188},{args:=[c46],fp:=[(12,xw)],ans:=.rows 13 Du [(14,xw)] 15},{args:=[Du],fp:=[(14,xw)],ans:=.rows 56 c65 [(57,xw)] 58},{args:=[c66],fp:=[(58,oZ)],ans:=.rows 59 c72 [(60,oZ)] 61}]),(36,[{args:=[c11,c3],nx:=107,ans:=.val c5},{args:=[AU,rX],nx:=61,ans:=.val zO},{args:=[c3,c11],nx:=61,ans:=.val zO},{args:=[rX,rX],nx:=105,ans:=.val c0}]),(35,[{args:=[(.slc 109 0 2 (.ex 2))],fp:=[(109,(.row 2 (.node c96 c70 .leaf) [c0] false 3 0))],nx:=110,ans:=.val c5},{args:=[(.slc 107 0 3 (.ex 3))],fp:=[(107,(.row 3 (.node FC c49 FC) [c0] false 3 0))],nx:=108,ans:=.val c5},{args:=[(.slc 63 0 2 (.ex 2))],fp:=[(63,(.row 2 (.node c75 c70 .leaf) [c0] false 3 0))],nx:=64,ans:=.val c5},{args:=[(.slc 61 0 3 (.ex 3))],fp:=[(61,(.row 3 (.node c96 c95 FC) [c0] false 3 0))],nx:=62,ans:=.val zO}]),(77,[{args:=[c6,c76],nx:=109,ans:=.val zO}]),(57,[{args:=[c59,c31],fp:=[(54,oQ),(16,(.row 32 (.node (.node (.node c18 mE c19) c15 c21) dY gM) [] false 116 0)),(100,iI),(62,(.row 32 (.node (.node c20 c64 c21) fJ gM) [] false 116 0))],nx:=107,ans:=.val nJ},{args:=[c31,yo],fp:=[(10,oQ),(4,(.row 32 (.node (.node c20 AO c21) dY c28) [] false 116 0)),(54,iI),(16,(.row 32 (.node (.node c20 mE c21) fJ c28) [] false 116 0))],nx:=61,ans:=.val nJ}]),(61,[{args:=[jg,c2],fp:=[(106,jq),(100,iI),(62,(.row 32 (.node (.node c20 c64 c21) fJ gM) [] false 116 0)),(2,(.row 2 (.node (.node .leaf (some qL) .leaf) (some c59) .leaf) [] false 91 0))],ans:=.rows 107 c98 [(115,jq)] 116},{args:=[jg,c2],fp:=[(106,jq),(100,iI),(62,(.row 32 (.node (.node c20 c64 c21) fJ gM) [] false 116 0)),(2,(.row 2 (.node (.node .leaf (some qL) .leaf) (some c59) .leaf) [] false 91 0))],ans:=.rows 146 c99 [(154,jq)] 155},{args:=[jg,c2],fp:=[(106,jq),(100,iI),(62,(.row 32 (.node (.node c20 c64 c21) fJ gM) [] false 116 0)),(2,(.row 2 (.node (.node .leaf (some qL) .leaf) (some c59) .leaf) [] false 91 0))],ans:=.rows 207 apB [(215,jq)] 216},{args:=[jg,c2],fp:=[(106,jq),(100,iI),(62,(.row 32 (.node (.node c20 c64 c21) fJ gM) [] false 116 0)),(2,(.row 2 (.node (.node .leaf (some qL) .leaf) (some c59) .leaf) [] false 91 0))],ans:=.rows 249 anP [(257,jq)] 258},{args:=[jg,(.sc (.string ⟨⟨ [120] ⟩⟩))],fp:=[(60,oZ),(54,iI),(16,(.row 32 (.node (.node c20 mE c21) fJ c28) [] false 116 0)),(2,(.row 2 (.node (.node .leaf (some c72) .leaf) (some c31) .leaf) [] false 91 0))],nx:=61,ans:=.val c6},{args:=[jg,AU],fp:=[(60,oZ),(54,iI),(16,(.row 32 (.node (.node c20 mE c21) fJ c28) [] false 116 0)),(2,(.row 2 (.node (.node .leaf (some c72) .leaf) (some c31) .leaf) [] false 91 0))],ans:=.rows 68 arP [(70,GM)] 72},{args:=[jg,rX],fp:=[(60,oZ),(54,iI),(16,(.row 32 (.node (.node c20 mE c21) fJ c28) [] false 116 0)),(2,(.row 2 (.node (.node .leaf (some c72) .leaf) (some c31) .leaf) [] false 91 0))],ans:=.rows 86 c105 [(89,xw)] 90}]),(40,[{args:=[c98],fp:=[(115,jq)],ans:=.rows 116 (.slc 126 0 2 (.op 1)) [(128,Gx),(123,wK),(126,(.row 2 (.node (.node .leaf (some c107) .leaf) (some anJ) .leaf) [] true 47 0))] 129},{args:=[c99],fp:=[(154,jq)],ans:=.rows 155 (.slc 165 0 2 (.op 1)) [(167,Gx),(162,wK),(165,(.row 2 (.node (.node .leaf (some c109) .leaf) (some anh) .leaf) [] true 47 0))] 168},{args:=[c84],fp:=[(187,jq)],ans:=.rows 188 (.slc 198 0 2 (.op 1)) [(200,Gx),(195,wK),(198,(.row 2 (.node (.node .leaf (some (.slc 200 0 1 (.op 5))) .leaf) (some (.slc 195 0 2 (.op 5))) .leaf) [] true 47 0))] 201},{args:=[apB],fp:=[(215,jq)],ans:=.rows 216 (.slc 226 0 2 (.op 1)) [(228,Gx),(223,wK),(226,(.row 2 (.node (.node .leaf (some amF) .leaf) (some amV) .leaf) [] true 47 0))] 229},{args:=[anP],fp:=[(257,jq)],ans:=.rows 258 (.slc 268 0 2 (.op 1)) [(270,Gx),(265,wK),(268,(.row 2 (.node (.node .leaf (some aos) .leaf) (some amy) .leaf) [] true 47 0))] 271},{args:=[c6],nx:=61,ans:=.val c6},{args:=[arP],fp:=[(70,GM)],ans:=.rows 72 (.slc 74 0 1 (.op 1)) [(76,GM),(74,(.row 1 (.node .leaf (some ap4) .leaf) [] true 47 0))] 77},{args:=[c105],fp:=[(89,xw)],ans:=.rows 90 (.slc 92 0 1 (.op 1)) [(94,xw),(92,(.row 1 (.node .leaf (some c116) .leaf) [] true 47 0))] 95}]),(37,[{args:=[c32,c32],nx:=132,ans:=.val nJ},{args:=[c32,c34],nx:=133,ans:=.val qa},{args:=[c76,c76],nx:=138,ans:=.val nJ},{args:=[c34,c76],nx:=190,ans:=.val qa}]),(26,[{args:=[jg],fp:=[(106,jq),(100,iI),(62,(.row 32 (.node (.node c20 c64 c21) fJ gM) [] false 116 0)),(2,(.row 2 (.node (.node .leaf (some qL) .leaf) (some c59) .leaf) [] false 91 0))],ans:=.rows 140 (.slc 142 0 1 (.op 1)) [(142,c117)] 145},{args:=[jg],fp:=[(106,jq),(100,iI),(62,(.row 32 (.node (.node c20 c64 c21) fJ gM) [] false 116 0)),(2,(.row 2 (.node (.node .leaf (some qL) .leaf) (some c59) .leaf) [] false 91 0))],ans:=.rows 202 (.slc 204 0 1 (.op 1)) [(204,c117)] 207},{args:=[jg],fp:=[(106,jq),(100,iI),(62,(.row 32 (.node (.node c20 c64 c21) fJ gM) [] false 116 0)),(2,(.row 2 (.node (.node .leaf (some qL) .leaf) (some c59) .leaf) [] false 91 0))],ans:=.rows 244 (.slc 246 0 1 (.op 1)) [(246,c117)] 249},{args:=[jg],fp:=[(60,oZ),(54,iI),(16,(.row 32 (.node (.node c20 mE c21) fJ c28) [] false 116 0)),(2,(.row 2 (.node (.node .leaf (some c72) .leaf) (some c31) .leaf) [] false 91 0))],ans:=.rows 61 (.slc 66 0 2 (.op 1)) [(66,aiA)] 67}]),(62,[{args:=[c119,c0,c5,c5,(.fn (.func 34) [] [])],fp:=[(182,(.row 3 (.node P6 MB (.node .leaf acO .leaf)) [] true 44 0))],nx:=183,ans:=.val dZ}]),(38,[{args:=[apu],nx:=202,ans:=.val ZE},{args:=[c2],nx:=207,ans:=.val c2},{args:=[c8],nx:=241,ans:=.val c124},{args:=[GH],nx:=244,ans:=.val GH},{args:=[c12],nx:=284,ans:=.val c12}]),(65,[{args:=[c2,ZE],nx:=207,ans:=.val zO},{args:=[c124,ZE],nx:=241,ans:=.val c0},{args:=[c2,GH],nx:=249,ans:=.val zO},{args:=[c124,GH],nx:=283,ans:=.val zO},{args:=[c12,GH],nx:=284,ans:=.val zO}]),(11,[{args:=[c0,c1,rX,c11,c85],nx:=0,ans:=.val ai0},{args:=[c0,c10,AU,c3,rX],nx:=0,ans:=.val c127}]),(70,[{args:=[rX,c11,c85],nx:=5,ans:=.val qa},{args:=[AU,c3,rX],nx:=17,ans:=.val qa}]),(74,[{args:=[c46,c0,c5,c5,(.fn (.func 53) [] [])],fp:=[(12,xw)],nx:=13,ans:=.val dZ}]),(94,[{args:=[(.ptr 53 0)],fp:=[(54,iI),(53,(.row 2 (.node c56 dY .leaf) [c23,c6] false 113 0))],ans:=.rows 55 dZ [(53,(.row 2 (.node c58 fJ .leaf) [c23,c6] false 113 0))] 55}])]
theorem b3:oC Tryz.prog ext T2 100000 200 B3=true:=by kernel_rfl
def T3:Table:=B3++T2
theorem t3:lT Tryz.prog Iv T3:=t2.add K5 mixed b3
def B4:Table:=[(36,[{args:=[rX,AU],nx:=105,ans:=.val c5}]),(35,[{args:=[(.slc 105 0 2 (.ex 2))],fp:=[(105,c74)],nx:=106,ans:=.val c5}]),(14,[{args:=[c6],nx:=103,ans:=.val (.tup [(.agg [c0,c23,uH,uH,uH]),nJ])}]),(38,[{args:=[uH],nx:=104,ans:=.val uH},{args:=[AU],nx:=110,ans:=.val AU},{args:=[rX],nx:=127,ans:=.val rX}]),(26,[{args:=[jg],fp:=[(60,oZ),(54,iI),(16,(.row 32 (.node (.node c20 mE c21) fJ c28) [] false 116 0)),(2,(.row 2 (.node (.node .leaf (some c72) .leaf) (some c31) .leaf) [] false 91 0))],ans:=.rows 104 (.slc 109 0 2 (.op 1)) [(109,aiA)] 110}]),(65,[{args:=[AU,uH],nx:=110,ans:=.val c0},{args:=[rX,uH],nx:=127,ans:=.val c0}]),(61,[{args:=[jg,AU],fp:=[(60,oZ),(54,iI),(16,(.row 32 (.node (.node c20 mE c21) fJ c28) [] false 116 0)),(2,(.row 2 (.node (.node .leaf (some c72) .leaf) (some c31) .leaf) [] false 91 0))],ans:=.rows 110 amz [(112,GM)] 114},{args:=[jg,rX],fp:=[(60,oZ),(54,iI),(16,(.row 32 (.node (.node c20 mE c21) fJ c28) [] false 116 0)),(2,(.row 2 (.node (.node .leaf (some c72) .leaf) (some c31) .leaf) [] false 91 0))],ans:=.rows 127 c130 [(130,xw)] 131}]),(40,[{args:=[amz],fp:=[(112,GM)],ans:=.rows 114 (.slc 116 0 1 (.op 1)) [(118,GM),(116,(.row 1 (.node .leaf (some c131) .leaf) [] true 47 0))] 119},{args:=[c130],fp:=[(130,xw)],ans:=.rows 131 (.slc 133 0 1 (.op 1)) [(135,xw),(133,(.row 1 (.node .leaf (some ara) .leaf) [] true 47 0))] 136},{args:=[aji],fp:=[(145,oZ)],ans:=.rows 146 (.slc 153 0 2 (.op 1)) [(155,xw),(150,GM),(153,(.row 2 (.node (.node .leaf (some (.slc 155 0 1 (.op 5))) .leaf) (some (.slc 150 0 1 (.op 5))) .leaf) [] true 47 0))] 156}]),(46,[{args:=[c72],fp:=[(60,oZ)],ans:=.rows 144 aji [(145,oZ)] 146}])]
theorem b4:oC Tryz.prog ext T3 100000 200 B4=true:=by kernel_rfl
def T4:Table:=B4++T3
theorem t4:lT Tryz.prog Iv T4:=t3.add K5 mixed b4
def B5:Table:=[(29,[{args:=[],ans:=.rows 1 jg [(1,lX),(2,(.row 2 (.node c16 (some c14) .leaf) [] false 91 0))] 3}]),(48,[{args:=[c7],nx:=4,ans:=.val qa},{args:=[c9],nx:=16,ans:=.val qa},{args:=[c13],nx:=62,ans:=.val qa},{args:=[ai0],nx:=4,ans:=.val qa},{args:=[c127],nx:=16,ans:=.val qa}]),(71,[{args:=[yo,c14],fp:=[(1,lX),(4,lX)],nx:=5,ans:=.val dZ},{args:=[c31,yo],fp:=[(10,oQ),(4,(.row 32 (.node (.node c20 AO c21) dY c28) [] false 116 0)),(16,lX)],ans:=.rows 17 dZ [(16,sw)] 49},{args:=[c59,c31],fp:=[(54,oQ),(16,(.row 32 (.node (.node (.node c18 mE c19) c15 c21) dY gM) [] false 116 0)),(62,lX)],ans:=.rows 63 dZ [(62,(.row 32 (.node uX dY gM) [] false 116 0))] 95}]),(72,[{args:=[yo,c1],fp:=[(4,lX)],ans:=.rows 8 qa [(10,oQ),(4,(.row 32 (.node (.node c20 AO c21) dY c28) [] false 116 0))] 11},{args:=[c44,c1],fp:=[(16,sw)],ans:=.rows 52 qa [(54,oQ),(16,(.row 32 (.node (.node (.node c18 mE c19) c15 c21) dY gM) [] false 116 0))] 55},{args:=[c59,c10],fp:=[(62,(.row 32 (.node uX dY gM) [] false 116 0))],ans:=.rows 98 qa [(100,iI),(62,(.row 32 (.node (.node c20 c64 c21) fJ gM) [] false 116 0))] 101},{args:=[c31,c10],fp:=[(16,sw)],ans:=.rows 52 qa [(54,iI),(16,(.row 32 (.node (.node c20 mE c21) fJ c28) [] false 116 0))] 55}]),(51,[{args:=[c14,c32],fp:=[(1,lX)],nx:=11,ans:=.val nJ},{args:=[yo,c34],fp:=[(10,oQ),(4,(.row 32 (.node (.node c20 AO c21) dY c28) [] false 116 0))],nx:=55,ans:=.val nJ},{args:=[c31,c76],fp:=[(54,oQ),(16,(.row 32 (.node (.node (.node c18 mE c19) c15 c21) dY gM) [] false 116 0))],nx:=101,ans:=.val nJ},{args:=[yo,c76],fp:=[(10,oQ),(4,(.row 32 (.node (.node c20 AO c21) dY c28) [] false 116 0))],nx:=55,ans:=.val nJ}]),(52,[{args:=[c46,(.fn (.func 53) [] [])],fp:=[(12,c53)],nx:=13,ans:=.val dZ},{args:=[c46,(.fn (.func 53) [] [])],fp:=[(12,xw)],nx:=13,ans:=.val dZ}]),(56,[{args:=[c6,c32],nx:=16,ans:=.val nJ},{args:=[c6,c34],nx:=62,ans:=.val nJ},{args:=[c6,c76],nx:=108,ans:=.val nJ}]),(75,[{args:=[c34,c32],nx:=61,ans:=.val c5},{args:=[c76,c34],nx:=107,ans:=.val c5},{args:=[c76,c32],nx:=61,ans:=.val c5}]),(14,[{args:=[anJ],fp:=[(123,wK)],nx:=129,ans:=.val adB},{args:=[c107],fp:=[(128,Gx)],nx:=135,ans:=.val ZC},{args:=[anh],fp:=[(162,wK)],nx:=168,ans:=.val adB},{args:=[c109],fp:=[(167,Gx)],nx:=174,ans:=.val ZC},{args:=[c83],fp:=[(184,jq)],nx:=185,ans:=.val ZC},{args:=[amV],fp:=[(223,wK)],nx:=229,ans:=.val adB},{args:=[amF],fp:=[(228,Gx)],nx:=235,ans:=.val ZC},{args:=[amy],fp:=[(265,wK)],nx:=271,ans:=.val adB},{args:=[aos],fp:=[(270,Gx)],nx:=277,ans:=.val ZC},{args:=[ap4],fp:=[(76,GM)],nx:=77,ans:=.val c139},{args:=[c116],fp:=[(94,xw)],nx:=95,ans:=.val c141},{args:=[c131],fp:=[(118,GM)],nx:=119,ans:=.val c139},{args:=[ara],fp:=[(135,xw)],nx:=136,ans:=.val c141}]),(33,[{args:=[c119,(.fn (.func 34) [] [])],fp:=[(182,(.row 3 (.node P6 MB (.node .leaf acO .leaf)) [] true 44 0))],nx:=183,ans:=.val dZ}]),(27,[{args:=[jg],fp:=[(106,jq),(100,iI),(62,(.row 32 (.node (.node c20 c64 c21) fJ gM) [] false 116 0)),(2,(.row 2 (.node (.node .leaf (some qL) .leaf) (some c59) .leaf) [] false 91 0))],ans:=.rows 183 c83 [(184,jq)] 185},{args:=[jg],fp:=[(106,jq),(100,iI),(62,(.row 32 (.node (.node c20 c64 c21) fJ gM) [] false 116 0)),(2,(.row 2 (.node (.node .leaf (some qL) .leaf) (some c59) .leaf) [] false 91 0))],ans:=.rows 186 c84 [(187,jq)] 188},{args:=[jg],fp:=[(60,oZ),(54,iI),(16,(.row 32 (.node (.node c20 mE c21) fJ c28) [] false 116 0)),(2,(.row 2 (.node (.node .leaf (some c72) .leaf) (some c31) .leaf) [] false 91 0))],ans:=.rows 144 aji [(145,oZ)] 146}]),(39,[{args:=[c2,ZE],nx:=207,ans:=.val nJ},{args:=[c124,ZE],nx:=241,ans:=.val qa},{args:=[c2,GH],nx:=249,ans:=.val nJ},{args:=[c124,GH],nx:=283,ans:=.val nJ},{args:=[c12,GH],nx:=284,ans:=.val nJ},{args:=[AU,uH],nx:=110,ans:=.val qa},{args:=[rX,uH],nx:=127,ans:=.val qa}]),(32,[{args:=[jg,(.sc (.string ⟨⟨ [120] ⟩⟩))],fp:=[(60,oZ),(54,iI),(16,(.row 32 (.node (.node c20 mE c21) fJ c28) [] false 116 0)),(2,(.row 2 (.node (.node .leaf (some c72) .leaf) (some c31) .leaf) [] false 91 0))],nx:=61,ans:=.val c6}]),(34,[{args:=[(.agg [rX,rX,c5]),(.agg [AU,rX,c5])],nx:=103,ans:=.val c5}])]
theorem b5:oC Tryz.prog ext T4 100000 200 B5=true:=by kernel_rfl
def T5:Table:=B5++T4
theorem t5:lT Tryz.prog Iv T5:=t4.add K5 mixed b5
def B6:Table:=[(49,[{args:=[c14],fp:=[(1,lX)],ans:=.rows 4 yo [(4,lX)] 5},{args:=[yo],fp:=[(10,oQ),(4,(.row 32 (.node (.node c20 AO c21) dY c28) [] false 116 0))],ans:=.rows 16 c31 [(16,sw)] 49},{args:=[c31],fp:=[(54,oQ),(16,(.row 32 (.node (.node (.node c18 mE c19) c15 c21) dY gM) [] false 116 0))],ans:=.rows 62 c59 [(62,(.row 32 (.node uX dY gM) [] false 116 0))] 95}]),(50,[{args:=[yo,c32],fp:=[(4,lX)],ans:=.rows 7 c0 [(10,oQ),(4,(.row 32 (.node (.node c20 AO c21) dY c28) [] false 116 0))] 11},{args:=[c31,c34],fp:=[(16,sw)],ans:=.rows 51 c0 [(54,oQ),(16,(.row 32 (.node (.node (.node c18 mE c19) c15 c21) dY gM) [] false 116 0))] 55},{args:=[c59,c76],fp:=[(62,(.row 32 (.node uX dY gM) [] false 116 0))],ans:=.rows 97 c0 [(100,iI),(62,(.row 32 (.node (.node c20 c64 c21) fJ gM) [] false 116 0))] 101},{args:=[c31,c76],fp:=[(16,sw)],ans:=.rows 51 c0 [(54,iI),(16,(.row 32 (.node (.node c20 mE c21) fJ c28) [] false 116 0))] 55}]),(55,[{args:=[aey,c143],fp:=[(3,(.row 7 (.node (.node z8 dY c51) c49 BU) [] false 30 0))],nx:=15,ans:=.val nJ},{args:=[aey,c145],fp:=[(15,(.row 7 (.node (.node z8 dY P6) c70 BU) [] false 30 0))],nx:=61,ans:=.val nJ},{args:=[Ye,c145],fp:=[(15,(.row 7 (.node (.node z8 dY P6) c70 BU) [] false 30 0))],nx:=61,ans:=.val nJ},{args:=[aey,c146],fp:=[(61,(.row 7 (.node (.node z8 fJ c80) c49 JC) [] false 30 0))],nx:=107,ans:=.val nJ},{args:=[Ye,c146],fp:=[(61,(.row 7 (.node (.node z8 fJ c80) c49 JC) [] false 30 0))],nx:=107,ans:=.val nJ},{args:=[ag6,c146],fp:=[(61,(.row 7 (.node (.node z8 fJ c80) c49 JC) [] false 30 0))],nx:=107,ans:=.val nJ},{args:=[acd,c143],fp:=[(3,(.row 7 (.node (.node c91 dY c87) c49 JC) [] false 30 0))],nx:=15,ans:=.val nJ},{args:=[c138,c145],fp:=[(15,(.row 7 (.node (.node c148 fJ c91) c49 BU) [] false 30 0))],nx:=61,ans:=.val nJ},{args:=[acd,c145],fp:=[(15,(.row 7 (.node (.node c148 fJ c91) c49 BU) [] false 30 0))],nx:=61,ans:=.val nJ}]),(53,[{args:=[Ye,aey],nx:=59,ans:=.val c5},{args:=[ag6,Ye],nx:=105,ans:=.val c5},{args:=[c138,acd],nx:=59,ans:=.val zO}]),(32,[{args:=[jg,c2],fp:=[(106,jq),(100,iI),(62,(.row 32 (.node (.node c20 c64 c21) fJ gM) [] false 116 0)),(2,(.row 2 (.node (.node .leaf (some qL) .leaf) (some c59) .leaf) [] false 91 0))],ans:=.rows 107 aqF [(139,XJ)] 140},{args:=[jg,c2],fp:=[(106,jq),(100,iI),(62,(.row 32 (.node (.node c20 c64 c21) fJ gM) [] false 116 0)),(2,(.row 2 (.node (.node .leaf (some qL) .leaf) (some c59) .leaf) [] false 91 0))],ans:=.rows 146 (.slc 178 0 2 (.op 3)) [(178,XJ)] 179},{args:=[jg,c2],fp:=[(106,jq),(100,iI),(62,(.row 32 (.node (.node c20 c64 c21) fJ gM) [] false 116 0)),(2,(.row 2 (.node (.node .leaf (some qL) .leaf) (some c59) .leaf) [] false 91 0))],ans:=.rows 207 (.slc 239 0 2 (.op 3)) [(239,XJ)] 240},{args:=[jg,c2],fp:=[(106,jq),(100,iI),(62,(.row 32 (.node (.node c20 c64 c21) fJ gM) [] false 116 0)),(2,(.row 2 (.node (.node .leaf (some qL) .leaf) (some c59) .leaf) [] false 91 0))],ans:=.rows 249 (.slc 281 0 2 (.op 3)) [(281,XJ)] 282},{args:=[jg,AU],fp:=[(60,oZ),(54,iI),(16,(.row 32 (.node (.node c20 mE c21) fJ c28) [] false 116 0)),(2,(.row 2 (.node (.node .leaf (some c72) .leaf) (some c31) .leaf) [] false 91 0))],ans:=.rows 68 (.slc 81 0 1 (.op 3)) [(81,anY)] 82},{args:=[jg,rX],fp:=[(60,oZ),(54,iI),(16,(.row 32 (.node (.node c20 mE c21) fJ c28) [] false 116 0)),(2,(.row 2 (.node (.node .leaf (some c72) .leaf) (some c31) .leaf) [] false 91 0))],ans:=.rows 86 (.slc 99 0 1 (.op 3)) [(99,c152)] 100},{args:=[jg,AU],fp:=[(60,oZ),(54,iI),(16,(.row 32 (.node (.node c20 mE c21) fJ c28) [] false 116 0)),(2,(.row 2 (.node (.node .leaf (some c72) .leaf) (some c31) .leaf) [] false 91 0))],ans:=.rows 110 (.slc 123 0 1 (.op 3)) [(123,anY)] 124},{args:=[jg,rX],fp:=[(60,oZ),(54,iI),(16,(.row 32 (.node (.node c20 mE c21) fJ c28) [] false 116 0)),(2,(.row 2 (.node (.node .leaf (some c72) .leaf) (some c31) .leaf) [] false 91 0))],ans:=.rows 127 (.slc 140 0 1 (.op 3)) [(140,c152)] 141}]),(16,[{args:=[jg],fp:=[(106,jq),(100,iI),(62,(.row 32 (.node (.node c20 c64 c21) fJ gM) [] false 116 0)),(2,(.row 2 (.node (.node .leaf (some qL) .leaf) (some c59) .leaf) [] false 91 0))],ans:=.rows 186 (.slc 201 0 2 (.op 5)) [(201,wK)] 202},{args:=[jg],fp:=[(60,oZ),(54,iI),(16,(.row 32 (.node (.node c20 mE c21) fJ c28) [] false 116 0)),(2,(.row 2 (.node (.node .leaf (some c72) .leaf) (some c31) .leaf) [] false 91 0))],nx:=144,ans:=.val c6}]),(12,[{args:=[jg,(.sc (.string ⟨⟨ [120] ⟩⟩))],fp:=[(60,oZ),(54,iI),(16,(.row 32 (.node (.node c20 mE c21) fJ c28) [] false 116 0)),(2,(.row 2 (.node (.node .leaf (some c72) .leaf) (some c31) .leaf) [] false 91 0))],nx:=61,ans:=.val (.tup [c6,(.sc (.int .i64 4))])}]),(62,[{args:=[agB,c0,JP,JP,(.fn (.func 34) [] [])],fp:=[(102,(.row 6 (.node (.node c91 Qv FC) c93 (.node c91 c70 .leaf)) [] true 44 0))],nx:=103,ans:=.val dZ}])]
theorem b6:oC Tryz.prog ext T5 100000 200 B6=true:=by kernel_rfl
def T6:Table:=B6++T5
theorem t6:lT Tryz.prog Iv T6:=t5.add K5 mixed b6
def B7:Table:=[(76,[{args:=[Du,(.fn (.func 55) [] [c143])],fp:=[(3,(.row 7 (.node (.node z8 dY c51) c49 BU) [] false 30 0)),(14,c53)],nx:=15,ans:=.val zO},{args:=[c72,(.fn (.func 55) [] [c145])],fp:=[(15,(.row 7 (.node (.node z8 dY P6) c70 BU) [] false 30 0)),(60,wK)],nx:=61,ans:=.val zO},{args:=[qL,(.fn (.func 55) [] [c146])],fp:=[(61,(.row 7 (.node (.node z8 fJ c80) c49 JC) [] false 30 0)),(106,jq)],nx:=107,ans:=.val zO},{args:=[Du,(.fn (.func 55) [] [c143])],fp:=[(3,(.row 7 (.node (.node c91 dY c87) c49 JC) [] false 30 0)),(14,xw)],nx:=15,ans:=.val zO},{args:=[c72,(.fn (.func 55) [] [c145])],fp:=[(15,(.row 7 (.node (.node c148 fJ c91) c49 BU) [] false 30 0)),(60,oZ)],nx:=61,ans:=.val zO}]),(74,[{args:=[c66,c0,JP,JP,(.fn (.func 53) [] [])],fp:=[(58,wK)],nx:=59,ans:=.val dZ},{args:=[c77,c0,(.sc (.int .i64 3)),JP,(.fn (.func 53) [] [])],fp:=[(104,jq)],nx:=105,ans:=.val dZ},{args:=[c66,c0,JP,JP,(.fn (.func 53) [] [])],fp:=[(58,(.row 10 (.node (.node (.node c148 c78 .leaf) dY (.node c91 c49 .leaf)) c49 (.node (.node UD c86 .leaf) Qv c62)) [] true 40 0))],ans:=.rows 59 dZ [(58,oZ)] 59}]),(12,[{args:=[jg,c2],fp:=[(106,jq),(100,iI),(62,(.row 32 (.node (.node c20 c64 c21) fJ gM) [] false 116 0)),(2,(.row 2 (.node (.node .leaf (some qL) .leaf) (some c59) .leaf) [] false 91 0))],ans:=.rows 107 (.tup [aqF,c0]) [(139,XJ)] 140}]),(13,[{args:=[jg],fp:=[(106,jq),(100,iI),(62,(.row 32 (.node (.node c20 c64 c21) fJ gM) [] false 116 0)),(2,(.row 2 (.node (.node .leaf (some qL) .leaf) (some c59) .leaf) [] false 91 0))],ans:=.rows 140 c119 [(182,(.row 3 (.node P6 MB (.node .leaf acO .leaf)) [] true 44 0))] 183}]),(15,[{args:=[jg,apu],fp:=[(106,jq),(100,iI),(62,(.row 32 (.node (.node c20 c64 c21) fJ gM) [] false 116 0)),(2,(.row 2 (.node (.node .leaf (some qL) .leaf) (some c59) .leaf) [] false 91 0))],ans:=.rows 202 (.slc 243 0 1 (.op 1)) [(243,c117)] 244},{args:=[jg,GH],fp:=[(106,jq),(100,iI),(62,(.row 32 (.node (.node c20 c64 c21) fJ gM) [] false 116 0)),(2,(.row 2 (.node (.node .leaf (some qL) .leaf) (some c59) .leaf) [] false 91 0))],nx:=244,ans:=.val c6},{args:=[jg,uH],fp:=[(60,oZ),(54,iI),(16,(.row 32 (.node (.node c20 mE c21) fJ c28) [] false 116 0)),(2,(.row 2 (.node (.node .leaf (some c72) .leaf) (some c31) .leaf) [] false 91 0))],ans:=.rows 104 (.slc 143 0 2 (.op 1)) [(143,aiA)] 144}]),(33,[{args:=[agB,(.fn (.func 34) [] [])],fp:=[(102,(.row 6 (.node (.node c91 Qv FC) c93 (.node c91 c70 .leaf)) [] true 44 0))],nx:=103,ans:=.val dZ}])]
theorem b7:oC Tryz.prog ext T6 100000 200 B7=true:=by kernel_rfl
def T7:Table:=B7++T6
theorem t7:lT Tryz.prog Iv T7:=t6.add K5 mixed b7
def B8:Table:=[(54,[{args:=[Du,(.fn (.func 55) [] [c143])],fp:=[(3,(.row 7 (.node (.node z8 dY c51) c49 BU) [] false 30 0)),(14,c53)],ans:=.rows 15 Du [] 15},{args:=[c72,(.fn (.func 55) [] [c145])],fp:=[(15,(.row 7 (.node (.node z8 dY P6) c70 BU) [] false 30 0)),(60,wK)],ans:=.rows 61 c72 [] 61},{args:=[qL,(.fn (.func 55) [] [c146])],fp:=[(61,(.row 7 (.node (.node z8 fJ c80) c49 JC) [] false 30 0)),(106,jq)],ans:=.rows 107 qL [] 107},{args:=[Du,(.fn (.func 55) [] [c143])],fp:=[(3,(.row 7 (.node (.node c91 dY c87) c49 JC) [] false 30 0)),(14,xw)],ans:=.rows 15 Du [] 15},{args:=[c72,(.fn (.func 55) [] [c145])],fp:=[(15,(.row 7 (.node (.node c148 fJ c91) c49 BU) [] false 30 0)),(60,oZ)],ans:=.rows 61 c72 [] 61}]),(52,[{args:=[c66,(.fn (.func 53) [] [])],fp:=[(58,wK)],nx:=59,ans:=.val dZ},{args:=[c77,(.fn (.func 53) [] [])],fp:=[(104,jq)],nx:=105,ans:=.val dZ},{args:=[c66,(.fn (.func 53) [] [])],fp:=[(58,(.row 10 (.node (.node (.node c148 c78 .leaf) dY (.node c91 c49 .leaf)) c49 (.node (.node UD c86 .leaf) Qv c62)) [] true 40 0))],ans:=.rows 59 dZ [(58,oZ)] 59}]),(13,[{args:=[jg],fp:=[(60,oZ),(54,iI),(16,(.row 32 (.node (.node c20 mE c21) fJ c28) [] false 116 0)),(2,(.row 2 (.node (.node .leaf (some c72) .leaf) (some c31) .leaf) [] false 91 0))],ans:=.rows 61 agB [(102,(.row 6 (.node (.node c91 Qv FC) c93 (.node c91 c70 .leaf)) [] true 44 0))] 103}])]
theorem b8:oC Tryz.prog ext T7 100000 200 B8=true:=by kernel_rfl
def T8:Table:=B8++T7
theorem t8:lT Tryz.prog Iv T8:=t7.add K5 mixed b8
def B9:Table:=[(30,[{args:=[jg,c7],fp:=[(1,lX),(2,(.row 2 (.node c16 (some c14) .leaf) [] false 91 0))],ans:=.rows 3 c154 [(14,c53),(10,oQ),(4,(.row 32 (.node (.node c20 AO c21) dY c28) [] false 116 0)),(2,(.row 2 (.node (.node .leaf (some Du) .leaf) (some yo) .leaf) [] false 91 0))] 15},{args:=[jg,c9],fp:=[(14,c53),(10,oQ),(4,(.row 32 (.node (.node c20 AO c21) dY c28) [] false 116 0)),(2,(.row 2 (.node (.node .leaf (some Du) .leaf) (some yo) .leaf) [] false 91 0))],ans:=.rows 15 c154 [(60,wK),(54,oQ),(16,(.row 32 (.node (.node (.node c18 mE c19) c15 c21) dY gM) [] false 116 0)),(2,(.row 2 (.node (.node .leaf (some c72) .leaf) (some c31) .leaf) [] false 91 0))] 61},{args:=[jg,c13],fp:=[(60,wK),(54,oQ),(16,(.row 32 (.node (.node (.node c18 mE c19) c15 c21) dY gM) [] false 116 0)),(2,(.row 2 (.node (.node .leaf (some c72) .leaf) (some c31) .leaf) [] false 91 0))],ans:=.rows 61 c154 [(106,jq),(100,iI),(62,(.row 32 (.node (.node c20 c64 c21) fJ gM) [] false 116 0)),(2,(.row 2 (.node (.node .leaf (some qL) .leaf) (some c59) .leaf) [] false 91 0))] 107},{args:=[jg,ai0],fp:=[(1,lX),(2,(.row 2 (.node c16 (some c14) .leaf) [] false 91 0))],ans:=.rows 3 c154 [(14,xw),(10,oQ),(4,(.row 32 (.node (.node c20 AO c21) dY c28) [] false 116 0)),(2,(.row 2 (.node (.node .leaf (some Du) .leaf) (some yo) .leaf) [] false 91 0))] 15},{args:=[jg,c127],fp:=[(14,xw),(10,oQ),(4,(.row 32 (.node (.node c20 AO c21) dY c28) [] false 116 0)),(2,(.row 2 (.node (.node .leaf (some Du) .leaf) (some yo) .leaf) [] false 91 0))],ans:=.rows 15 c154 [(60,oZ),(54,iI),(16,(.row 32 (.node (.node c20 mE c21) fJ c28) [] false 116 0)),(2,(.row 2 (.node (.node .leaf (some c72) .leaf) (some c31) .leaf) [] false 91 0))] 61}])]
theorem b9:oC Tryz.prog ext T8 100000 200 B9=true:=by kernel_rfl
def T9:Table:=B9++T8
theorem t9:lT Tryz.prog Iv T9:=t8.add K5 mixed b9
def B10:Table:=[(10,[{args:=[(.slc 0 0 3 (.ex 3))],fp:=[(0,(.row 21 (.node (.node (.node (.node c62 c70 .leaf) MB (.node c80 UZ .leaf)) dY (.node (.node z8 c70 .leaf) c50 c16)) c49 (.node (.node (.node FC dY .leaf) UZ (.node c16 c68 .leaf)) c70 (.node (.node ZF MB .leaf) c15 c75))) [c0,c23,c0,uH,uH,uH,c6] false 30 0))],ans:=.rows 1 jg [(106,jq),(100,iI),(62,(.row 32 (.node (.node c20 c64 c21) fJ gM) [] false 116 0)),(2,(.row 2 (.node (.node .leaf (some qL) .leaf) (some c59) .leaf) [] false 91 0))] 107},{args:=[(.slc 0 0 2 (.ex 2))],fp:=[(0,(.row 14 (.node (.node (.node c75 Qv UD) dY (.node FC c86 c16)) c49 (.node (.node c62 c78 c91) c70 (.node c148 c15 .leaf))) [c0,c23,c0,uH,uH,uH,c6] false 30 0))],ans:=.rows 1 jg [(60,oZ),(54,iI),(16,(.row 32 (.node (.node c20 mE c21) fJ c28) [] false 116 0)),(2,(.row 2 (.node (.node .leaf (some c72) .leaf) (some c31) .leaf) [] false 91 0))] 61}])]
theorem b10:oC Tryz.prog ext T9 100000 200 B10=true:=by kernel_rfl
def T10:Table:=B10++T9
theorem bW:lT Tryz.prog Iv T10:=t9.add K5 mixed b10
def B11:Table:=[(9,[{args:=[],nx:=0,ans:=.val qa}])]
theorem b11:oC Tryz.prog ext T10 100000 200 B11=true:=by kernel_rfl
def T11:Table:=B11++T10
theorem bM:lT Tryz.prog Iv T11:=bW.add K5 mixed b11
theorem t:lT Tryz.prog Iv T11:=bM
end Go.Proofs.YtngfappichkflaaGreat
namespace Go.Proofs.YtngfappichkflaaGreat.viewShows
open Go Go.Ab Go.ChangeShapes Go.WideShapes Go.ChangeAt Go.RowKit
theorem own:ownKnob Tryz.prog.godebug=none:=by kernel_rfl
open Go.Ab.aH Go.Ab.Crw Go.Ab.Crw.Viw Go.Proofs.YtngfappichkflaaGreat.mr
def base (w:World) (hi:Iv w) : Base:=⟨w.heap.size,Iv,fun w1 w2 h h1=>aqM w w1 w2 hi h h1⟩
theorem awake {B:Base} (hB:∀ w,B.inv w→Iv w) : aeR B (iJ Tryz.prog 9):=by
 intro M Q hM hQ
 exact adb t ⟨Tryz.f9,_,Tryz.func9,rfl⟩ (fun A=>by kernel_rfl) (hM▸hB) hQ
theorem walk (w:World) (hi:Iv w) (v0 v1 v2:Value) (h0:vw Tryz.prog (RM.old (base w hi) w) 32 (yX w.heap.size v0)) (h1:vw Tryz.prog (RM.old (base w hi) w) 9 (yX w.heap.size v1)) (h2:vw Tryz.prog (RM.old (base w hi) w) 9 (yX w.heap.size v2)) :
  Calls Tryz.prog 4 #[v0,v1,v2] w fun e w'=>e=.returned (.bool true)∧Below w.heap.size w w':=by
 obtain⟨u0,l,e0,hl,_⟩:=ahe (h0.one (by kernel_rfl))
 obtain⟨s1,e1,g1⟩:=(h1.one (by kernel_rfl)).Fx Tryz.underlying9
 obtain⟨s2,e2,g2⟩:=(h2.one (by kernel_rfl)).Fx Tryz.underlying9
 have g1:s1.length≤140737488351232:=g1
 refine iJ.close (base:=base w hi) rfl hi ?_
 simp only[List.map_cons,List.map_nil]
 rw[show yX (base w hi).n v0=u0 from(List.cons.inj e0).1,show yX (base w hi).n v1=_ from(List.cons.inj e1).1,show yX (base w hi).n v2=_ from(List.cons.inj e2).1]
 have hb:∀ w',(base w hi).inv w'→Iv w':=fun _ h=>h
 obtain⟨a0,a1,a2,e,h⟩:=Ul (B:=base w hi) (TE:=30) (M:=RM.old (base w hi) w) (text:=s1) (F6:=s2) (Q:=fun v _=>v=Bo true) (awake hb) mr.own mr.avD mr.adt mr.awP mr.ME mr.asy mr.aid mr.DJ (mr.apY hb) mr.al4 rfl hl (by omega) (fun M'=>rfl)
 cases e
 exact Dq h
set_option maxRecDepth 100000 in
theorem lifted (os:Os) (started:os.Started) (H:Type) (enc:TypeId × Value→H) :
  ReturnsInHanded {} Tryz.checked os 4 .any (Rows.viewShowsSpec.pre6 enc Tryz.prog Tryz.f4 Rows.viewShowsRow.domain false) (Rows.viewShowsSpec.post enc Tryz.prog Tryz.f4 false true false false):=by
 refine returnsInHanded_of_change_shaped (C:=Tryz.checked) own started (by kernel_rfl) Tryz.func4
  (ChangeSpec.witness6 (enc:=enc) (C:=Tryz.checked) false ⟨#[],#[.slice none 0 0,.string ⟨⟨[]⟩⟩,.string ⟨⟨[]⟩⟩],[]⟩ 8 (by kernel_rfl) (by kernel_rfl) (by kernel_rfl) (by kernel_rfl)) ?_
 intro W b0 args ds gs before hval hW hcnd hwt hsh _
 have hW':=hW
 obtain⟨p,q,hA,hV,rfl,hfz,hnd⟩:=hW
 rw[Tryz.params4] at hA hwt
 have hi:=Tryz.index_var W hsh
 obtain⟨rfl,rfl⟩:=trodVars_none hV
 have hfit:=ZZ (base:=base W hi) rfl hA (fun j t v hj hv=>hval j t v (by rw[Tryz.params4]; simpa using hj) (by simpa using hv)) (fun y hy=>by
  have avT:(DataW.weightsEach Tryz.prog [32,9,9] (ds++[])).all (· ≤ reachBytes)=true:=hwt
  have:=List.all_eq_true.1 avT y (by rw[List.append_nil]; exact hy)
  simpa using this)
 simp only[List.append_nil] at hW'
 have hlt:∀ x∈p,x.block<W.heap.size:=fun x hx=>hW'.lt x hx
 obtain⟨v0,v1,v2,d0,d1,d2,p0,p1,p2,rfl,rfl,rfl,h0,h1,h2⟩:=trodAll_three hA
 refine(walk W hi v0 v1 v2 (hfit 0 _ _ rfl rfl) (hfit 1 _ _ rfl rfl) (hfit 2 _ _ rfl rfl)).mono fun e W' ⟨he,hg⟩=>?_
 subst he
 exact⟨_,rfl,Vf (pa:=_) (pv:=[]) hW' (fun _ _ _=>(trodAll_cons_mk (shut_bool Tryz.underlying4 _) trodAll_mk0)) (fun sp hsp=>by
   rw[Tryz.params4]
   exact I1 (by kernel_rfl) hg (fun t ht=>by
    have ht:t=32∨t=9∨t=9:=by simpa using ht
    rcases ht with rfl | rfl | rfl <;> exact⟨by kernel_rfl,of_decide_eq_true (by kernel_rfl)⟩) hA hlt hsp) (fun _ _=>rfl) (by simp)
  hg (ok_one (by kernel_rfl) rfl (okWide_bool_mk Tryz.underlying4 _))⟩
theorem over:Rows.viewShowsRow.holds Tryz.pinned (OpenSpec.ofChange Rows.viewShowsSpec) :=
 OpenClaim.holds_of_wide 4 Tryz.f4 rfl rfl rfl rfl rfl rfl rfl ⟨rfl,rfl,rfl,rfl,rfl⟩ rfl rfl rfl rfl rfl (by kernel_rfl) Tryz.func4 (by kernel_rfl)
  (of_decide_eq_true (by kernel_rfl)) (by unfold Func.isWrapper; first | (rw[if_pos (by decide +kernel)]; kernel_rfl) | (rw[if_neg (by decide +kernel)]; exact⟨rfl,rfl⟩))
  (fun os started H enc _=>lifted os started H enc)
theorem proved:Rows.ViewShowsSaid :=
 over
end Go.Proofs.YtngfappichkflaaGreat.viewShows
