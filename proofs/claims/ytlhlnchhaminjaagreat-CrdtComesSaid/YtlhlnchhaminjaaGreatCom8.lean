/- 'CrdtComes' returns true for all arguments: what events come to is what the document says, in whatever order they are applied, however often. No condition. By an AI agent. -/
import Derived.Test.YtlhlnchhaminjaaGreatCom7
import Derived.KernelRfl
import Derived.Test.YtlhlnchhaminjaaGreatProg
import Derived.Test.YtlhlnchhaminjaaGreatRows
import Derived.SizedLaws
import Derived.JoinedOf
import Derived.Carry
import Derived.WalkKit
import Derived.ProofKit
import Derived.OpenShut
set_option maxRecDepth 100000
set_option linter.unusedVariables false
set_option linter.unusedSimpArgs false
namespace Go.Proofs.YtlhlnchhaminjaaGreat
open Go Go.Ab
abbrev av := @jH Tryz.prog
theorem pok:Q0 Tryz.prog:=⟨V6 (by kernel_rfl),by kernel_rfl⟩
theorem bg {f:FuncId} {fn:Func} {args:List AV} {M:RM} {Q:ak} {B:Prop} (h:B) (hfn:Tryz.prog.funcs[f]?=some fn:=by kernel_rfl) (e:B=RO Tryz.prog fn args M Q:=by kernel_rfl) : av f args M Q:=afI pok hfn (e▸h)
variable {a0 a1 a2 a3 a4 a5 a6 a7:AV} {M:RM} {Q:ak}
theorem Mj (h:Go.Ab.Crw.EG (av 10) (av 19) (av 11) (av 14) (av 20) (av 17) (av 21) (av 22) (av 16) (av 23) (av 24) (av 25) a0 a1 M Q) : av 4 [a0,a1] M Q:=bg (fn:=Tryz.f4) h
theorem aad (h:Go.Ab.Crw.acS (av 38) 75  M Q) : av 11 [] M Q:=bg (fn:=Tryz.f11) h
theorem Jg (h:Go.Ab.Crw.zR 30 (av 17) (av 41) 27 (av 42) (av 37) 58 (av 43) (av 44) 45 47 (av 46) (av 33) (av 49) a0 a1 M Q) : av 14 [a0,a1] M Q:=bg (fn:=Tryz.f14) h
theorem Y5 (h:Go.Ab.Crw.Ya 30 (av 58) (av 59) 27 (av 60) a0 M Q) : av 17 [a0] M Q:=bg (fn:=Tryz.f17) h
theorem FB (h:Go.Ab.Crw.xB (av 43) a0 M Q) : av 18 [a0] M Q:=bg (fn:=Tryz.f18) h
theorem ZQ (h:Go.Ab.Crw.adW 30 (av 20) a0 M Q) : av 19 [a0] M Q:=bg (fn:=Tryz.f19) h
theorem Mh (h:Go.Ab.Crw.E9 30 (av 61) (av 62) a0 M Q) : av 20 [a0] M Q:=bg (fn:=Tryz.f20) h
theorem VC (h:Go.Ab.Crw.Tv (av 11) (av 14) a0 a1 a2 M Q) : av 21 [a0,a1,a2] M Q:=bg (fn:=Tryz.f21) h
theorem He (h:Go.Ab.Crw.x9 (av 65) (av 64) (av 63) 58 a0 M Q) : av 22 [a0] M Q:=bg (fn:=Tryz.f22) h
theorem ZB (h:Go.Ab.Crw.YM (av 66) (av 18) (av 35) (av 67) (av 68) (av 32) (av 65) (av 70) (av 69) (av 22) (av 71) (av 36) (av 31) a0 a1 M Q) : av 23 [a0,a1] M Q:=bg (fn:=Tryz.f23) h
theorem JZ (h:Go.Ab.Crw.Cm (av 49) (av 33) a0 a1 M Q) : av 24 [a0,a1] M Q:=bg (fn:=Tryz.f24) h
theorem JN (h:Go.Ab.Crw.Bq (av 41) (av 43) 75 a0 M Q) : av 25 [a0] M Q:=bg (fn:=Tryz.f25) h
theorem ZI (h:Go.Ab.aC.abt 27 a0 a1 M Q) : av 27 [a0,a1] M Q:=bg (fn:=Tryz.f27) h
theorem ac1 (h:Go.Ab.Crw.afV 58 a0 a1 a2 M Q) : av 31 [a0,a1,a2] M Q:=bg (fn:=Tryz.f31) h
theorem Jn (h:Go.Ab.Crw.CE (av 41) a0 M Q) : av 32 [a0] M Q:=bg (fn:=Tryz.f32) h
theorem JP (h:Go.Ab.aC.BM 111 (av 77) a0 a1 M Q) : av 33 [a0,a1] M Q:=bg (fn:=Tryz.f33) h
theorem Em (h:Go.Ab.Crw.vY 58 9 a0 M Q) : av 35 [a0] M Q:=bg (fn:=Tryz.f35) h
theorem Fx (h:Go.Ab.Crw.wV 58 a0 a1 M Q) : av 36 [a0,a1] M Q:=bg (fn:=Tryz.f36) h
theorem Px (h:Go.Ab.aC.Kl 27 (av 58) (av 77) a0 a1 M Q) : av 37 [a0,a1] M Q:=bg (fn:=Tryz.f37) h
theorem IQ (h:Go.Ab.aC.FT 114  M Q) : av 38 [] M Q:=bg (fn:=Tryz.f38) h
theorem Ol (h:Go.Ab.aC.IJ (av 38) (av 73) a0 M Q) : av 41 [a0] M Q:=bg (fn:=Tryz.f41) h
theorem Rv (h:Go.Ab.aC.K4 27 (av 58) (av 81) a0 a1 M Q) : av 42 [a0,a1] M Q:=bg (fn:=Tryz.f42) h
theorem Jh (h:Go.Ab.Crw.z8 58 a0 M Q) : av 43 [a0] M Q:=bg (fn:=Tryz.f43) h
theorem EA (h:Go.Ab.Crw.vO (av 83) (av 82) a0 a1 M Q) : av 44 [a0,a1] M Q:=bg (fn:=Tryz.f44) h
theorem Rs (h:Go.Ab.Crw.K9 58 (av 85) (av 80) 3 (av 84) a0 a1 M Q) : av 45 [a0,a1] M Q:=bg (fn:=Tryz.f45) h
theorem BN (h:Go.Ab.Crw.sO (av 86) 58 (av) a0 a1 M Q) : av 46 [a0,a1] M Q:=bg (fn:=Tryz.f46) h
theorem FO (h:Go.Ab.Crw.xg 58 (av 48) a0 a1 M Q) : av 47 [a0,a1] M Q:=bg (fn:=Tryz.f47) h
theorem GI (h:Go.Ab.Crw.yz 27 (av 87) a0 a1 M Q) : av 48 [a0,a1] M Q:=bg (fn:=Tryz.f48) h
theorem Je (h:Go.Ab.Crw.zQ a0 a1 M Q) : av 49 [a0,a1] M Q:=bg (fn:=Tryz.f49) h
theorem ZF (h:Go.Ab.aC.Xz (av 88) 127 a0 M Q) : av 50 [a0] M Q:=bg (fn:=Tryz.f50) h
theorem JB (h:Go.Ab.aC.CL (av 89) a0 a1 M Q) : av 51 [a0,a1] M Q:=bg (fn:=Tryz.f51) h
theorem Jk (h:Go.Ab.aC.Ai (av 89) a0 M Q) : av 52 [a0] M Q:=bg (fn:=Tryz.f52) h
theorem Jf (h:Go.Ab.Crw.zN (av 51) a0 a1 M Q) : av 53 [a0,a1] M Q:=bg (fn:=Tryz.f53) h
theorem Ky (h:Go.Ab.aC.Cs a0 M Q) : av 54 [a0] M Q:=bg (fn:=Tryz.f54) h
theorem Ox (h:Go.Ab.aC.IK (av 50) (av 38) (av 51) (av 52) (av 56) 25 (av 54) (av 90) (av 65) (av 57) a0 M Q) : av 55 [a0] M Q:=bg (fn:=Tryz.f55) h
theorem KT (h:Go.Ab.aC.BS a0 M Q) : av 56 [a0] M Q:=bg (fn:=Tryz.f56) h
theorem Ja (h:Go.Ab.aC.zT a0 a1 M Q) : av 57 [a0,a1] M Q:=bg (fn:=Tryz.f57) h
theorem Sc (h:Go.Ab.aC.Oj 27 a0 M Q) : av 58 [a0] M Q:=bg (fn:=Tryz.f58) h
theorem Ml (h:Go.Ab.Crw.Eo a0 a1 a2 M Q) : av 59 [a0,a1,a2] M Q:=bg (fn:=Tryz.f59) h
theorem WS (h:Go.Ab.aC.Xq 27 a0 a1 M Q) : av 60 [a0,a1] M Q:=bg (fn:=Tryz.f60) h
theorem Sz (h:Go.Ab.aC.Ny 27 a0 M Q) : av 61 [a0] M Q:=bg (fn:=Tryz.f61) h
theorem Ua (h:Go.Ab.aC.NC 27 a0 a1 M Q) : av 62 [a0,a1] M Q:=bg (fn:=Tryz.f62) h
theorem ZC (h:Go.Ab.aC.YS (av 88) 5 a0 a1 M Q) : av 63 [a0,a1] M Q:=bg (fn:=Tryz.f63) h
theorem XF (h:Go.Ab.Crw.Y8 (av 63) 5 a0 a1 M Q) : av 64 [a0,a1] M Q:=bg (fn:=Tryz.f64) h
theorem Le (h:Go.Ab.aC.BK (av 91) (av 63) 133 a0 M Q) : av 65 [a0] M Q:=bg (fn:=Tryz.f65) h
theorem Q9 (h:Go.Ab.Crw.Jr 58 (av 27) (av 92) a0 M Q) : av 66 [a0] M Q:=bg (fn:=Tryz.f66) h
theorem Np (h:Go.Ab.Crw.GG 9 a0 M Q) : av 67 [a0] M Q:=bg (fn:=Tryz.f67) h
theorem Zi (h:Go.Ab.Crw.WB a0 a1 M Q) : av 68 [a0,a1] M Q:=bg (fn:=Tryz.f68) h
theorem Us (h:Go.Ab.aC.N8 (av 93) (av 74) 5 a0 M Q) : av 69 [a0] M Q:=bg (fn:=Tryz.f69) h
theorem Y0 (h:Go.Ab.Crw.YT (av 94) a0 M Q) : av 70 [a0] M Q:=bg (fn:=Tryz.f70) h
theorem Jj (h:Go.Ab.Crw.Ad (av 69) (av 75) (av 74) 5 a0 a1 M Q) : av 71 [a0,a1] M Q:=bg (fn:=Tryz.f71) h
theorem Pk (h:Go.Ab.aC.Gy 111 109 (av 96) (av 97) (av 98) (av 99) a0 a1 M Q) : av 73 [a0,a1] M Q:=bg (fn:=Tryz.f73) h
theorem Me (h:Go.Ab.aC.Fp 5 (av 74) a0 M Q) : av 74 [a0] M Q:=bg (fn:=Tryz.f74) h
theorem Mi (h:Go.Ab.Crw.E8 (av 74) 5 a0 M Q) : av 75 [a0] M Q:=bg (fn:=Tryz.f75) h
theorem OT (h:Go.Ab.aC.Hd (av 103) a0 a1 M Q) : av 77 [a0,a1] M Q:=bg (fn:=Tryz.f77) h
theorem Vo (h:Go.Ab.Crw.RP 27 (av 105) (av 106) 3 (av 84) a0 a1 M Q) : av 80 [a0,a1] M Q:=bg (fn:=Tryz.f80) h
theorem N7 (h:Go.Ab.aC.H6 (av 103) 25 111 (av 108) (av 107) (av 99) a0 a1 M Q) : av 81 [a0,a1] M Q:=bg (fn:=Tryz.f81) h
theorem qd (h:Go.Ab.Crw.jq (av 109) (av 110) (av 111) (av 112) (av 113) (av 114) (av) (av 115) (av 116) (av 82) a0 a1 a2 a3 a4 M Q) : av 82 [a0,a1,a2,a3,a4] M Q:=bg (fn:=Tryz.f82) h
theorem FC (h:Go.Ab.aC.xA (av 117) (av 118) a0 M Q) : av 83 [a0] M Q:=bg (fn:=Tryz.f83) h
theorem Tj (h:Go.Ab.Crw.Nr a0 M Q) : av 84 [a0] M Q:=bg (fn:=Tryz.f84) h
theorem Ff (h:Go.Ab.Crw.vV (av 119) a0 a1 M Q) : av 85 [a0,a1] M Q:=bg (fn:=Tryz.f85) h
theorem Df (h:Go.Ab.Crw.uG (av) a0 a1 M Q) : av 86 [a0,a1] M Q:=bg (fn:=Tryz.f86) h
theorem Mg (h:Go.Ab.Crw.EF 27 a0 a1 M Q) : av 87 [a0,a1] M Q:=bg (fn:=Tryz.f87) h
theorem Kk (h:Go.Ab.aC.WM 5 a0 M Q) : av 88 [a0] M Q:=bg (fn:=Tryz.f88) h
theorem FZ (h:Go.Ab.aC.xR a0 M Q) : av 89 [a0] M Q:=bg (fn:=Tryz.f89) h
theorem Kn (h:Go.Ab.aC.CU 111 a0 M Q) : av 90 [a0] M Q:=bg (fn:=Tryz.f90) h
theorem Mf (h:Go.Ab.aC.Fe 111 (av 108) 133 a0 M Q) : av 91 [a0] M Q:=bg (fn:=Tryz.f91) h
theorem OY (h:Go.Ab.Crw.Gn 58 (av 120) a0 a1 M Q) : av 92 [a0,a1] M Q:=bg (fn:=Tryz.f92) h
theorem VE (h:Go.Ab.aC.SX 137 25 a0 M Q) : av 93 [a0] M Q:=bg (fn:=Tryz.f93) h
theorem aay (h:Go.Ab.aC.acY 27 (av 27) (av 121) a0 a1 M Q) : av 94 [a0,a1] M Q:=bg (fn:=Tryz.f94) h
theorem Gg (h:Go.Ab.aC.xD 9 (av 122) 25 a0 M Q) : av 96 [a0] M Q:=bg (fn:=Tryz.f96) h
theorem Jc (h:Go.Ab.aC.Aa (av 83) (av 123) a0 M Q) : av 97 [a0] M Q:=bg (fn:=Tryz.f97) h
theorem Ey (h:Go.Ab.aC.vN a0 M Q) : av 98 [a0] M Q:=bg (fn:=Tryz.f98) h
theorem GV (h:Go.Ab.aC.yn a0 M Q) : av 99 [a0] M Q:=bg (fn:=Tryz.f99) h
theorem zK (h:Go.Ab.aC.pV (av 125) (av 126) a0 a1 M Q) : av 103 [a0,a1] M Q:=bg (fn:=Tryz.f103) h
theorem Es (h:Go.Ab.Crw.vX (av 135) a0 a1 M Q) : av 105 [a0,a1] M Q:=bg (fn:=Tryz.f105) h
theorem Jd (h:Go.Ab.Crw.zV (av 136) a0 a1 M Q) : av 106 [a0,a1] M Q:=bg (fn:=Tryz.f106) h
theorem wN (h:Go.Ab.aC.oD 25 (adt Tryz.prog 137) (av 138) a0 a1 a2 M Q) : av 107 [a0,a1,a2] M Q:=bg (fn:=Tryz.f107) h
theorem GJ (h:Go.Ab.aC.Tn 25 a0 M Q) : av 108 [a0] M Q:=bg (fn:=Tryz.f108) h
theorem mG (h:Go.Ab.Crw.gK (av) a0 a1 a2 a3 M Q) : av 109 [a0,a1,a2,a3] M Q:=bg (fn:=Tryz.f109) h
theorem xS (h:Go.Ab.Crw.nW (av 139) a0 a1 a2 a3 M Q) : av 110 [a0,a1,a2,a3] M Q:=bg (fn:=Tryz.f110) h
theorem uI (h:Go.Ab.Crw.kW 182 (av 140) (av 141) a0 a1 a2 a3 M Q) : av 111 [a0,a1,a2,a3] M Q:=bg (fn:=Tryz.f111) h
theorem vG (h:Go.Ab.Crw.mo 3 (av 142) (av 143) a0 a1 a2 a3 M Q) : av 112 [a0,a1,a2,a3] M Q:=bg (fn:=Tryz.f112) h
theorem uM (h:Go.Ab.Crw.lW a0 a1 a2 a3 M Q) : av 113 [a0,a1,a2,a3] M Q:=bg (fn:=Tryz.f113) h
theorem qo (h:Go.Ab.Crw.iX (av) a0 a1 a2 a3 M Q) : av 114 [a0,a1,a2,a3] M Q:=bg (fn:=Tryz.f114) h
theorem tV (h:Go.Ab.Crw.kJ (av) a0 a1 a2 a3 a4 M Q) : av 115 [a0,a1,a2,a3,a4] M Q:=bg (fn:=Tryz.f115) h
theorem xy (h:Go.Ab.Crw.nD (av) a0 a1 a2 a3 a4 M Q) : av 116 [a0,a1,a2,a3,a4] M Q:=bg (fn:=Tryz.f116) h
theorem Dh (h:Go.Ab.aC.uC a0 M Q) : av 118 [a0] M Q:=bg (fn:=Tryz.f118) h
theorem G7 (h:Go.Ab.Crw.yh a0 M Q) : av 119 [a0] M Q:=bg (fn:=Tryz.f119) h
theorem SL (h:Go.Ab.Crw.NM 58 (av 62) a0 a1 M Q) : av 120 [a0,a1] M Q:=bg (fn:=Tryz.f120) h
theorem Vv (h:Go.Ab.aC.Tt 27 a0 a1 M Q) : av 121 [a0,a1] M Q:=bg (fn:=Tryz.f121) h
theorem Ji (h:Go.Ab.aC.zX 9 25 a0 a1 M Q) : av 122 [a0,a1] M Q:=bg (fn:=Tryz.f122) h
theorem pK (h:Go.Ab.aC.je (av 144) (av 145) (av 146) (av 147) (av 148) (av 149) (av 125) (av 150) (av 151) (av 123) a0 a1 a2 a3 M Q) : av 123 [a0,a1,a2,a3] M Q:=bg (fn:=Tryz.f123) h
theorem Jb (h:Go.Ab.aC.zY (av 135) a0 a1 M Q) : av 125 [a0,a1] M Q:=bg (fn:=Tryz.f125) h
theorem En (h:Go.Ab.aC.vZ a0 M Q) : av 126 [a0] M Q:=bg (fn:=Tryz.f126) h
theorem xn (h:Go.Ab.aC.tK a0 M Q) : av 135 [a0] M Q:=bg (fn:=Tryz.f135) h
theorem Mk (h:Go.Ab.Crw.EZ a0 M Q) : av 136 [a0] M Q:=bg (fn:=Tryz.f136) h
theorem xU (h:Go.Ab.Crw.nP (av) a0 a1 a2 a3 a4 M Q) : av 139 [a0,a1,a2,a3,a4] M Q:=bg (fn:=Tryz.f139) h
theorem Er (h:Go.Ab.aC.vP (av 83) a0 M Q) : av 140 [a0] M Q:=bg (fn:=Tryz.f140) h
theorem wB (h:Go.Ab.aC.oo a0 M Q) : av 141 [a0] M Q:=bg (fn:=Tryz.f141) h
theorem tF (h:Go.Ab.Crw.kI (av 143) a0 a1 a2 a3 M Q) : av 142 [a0,a1,a2,a3] M Q:=bg (fn:=Tryz.f142) h
theorem zH (h:Go.Ab.Crw.pW (av 156) a0 a1 a2 a3 a4 a5 M Q) : av 143 [a0,a1,a2,a3,a4,a5] M Q:=bg (fn:=Tryz.f143) h
theorem ma (h:Go.Ab.aC.gq (av 125) a0 a1 a2 M Q) : av 144 [a0,a1,a2] M Q:=bg (fn:=Tryz.f144) h
theorem xM (h:Go.Ab.aC.nA (av 157) a0 a1 a2 M Q) : av 145 [a0,a1,a2] M Q:=bg (fn:=Tryz.f145) h
theorem uA (h:Go.Ab.aC.kH 182 (av 140) (av 141) a0 a1 a2 M Q) : av 146 [a0,a1,a2] M Q:=bg (fn:=Tryz.f146) h
theorem uS (h:Go.Ab.aC.lV 3 (av 158) (av 159) a0 a1 a2 M Q) : av 147 [a0,a1,a2] M Q:=bg (fn:=Tryz.f147) h
theorem uJ (h:Go.Ab.aC.kV a0 a1 a2 M Q) : av 148 [a0,a1,a2] M Q:=bg (fn:=Tryz.f148) h
theorem qm (h:Go.Ab.aC.iR (av 125) a0 a1 a2 M Q) : av 149 [a0,a1,a2] M Q:=bg (fn:=Tryz.f149) h
theorem sw (h:Go.Ab.aC.jZ (av 125) a0 a1 a2 a3 M Q) : av 150 [a0,a1,a2,a3] M Q:=bg (fn:=Tryz.f150) h
theorem wO (h:Go.Ab.aC.mJ (av 125) a0 a1 a2 a3 M Q) : av 151 [a0,a1,a2,a3] M Q:=bg (fn:=Tryz.f151) h
theorem zx (h:Go.Ab.Crw.qa (av) a0 a1 a2 a3 a4 M Q) : av 156 [a0,a1,a2,a3,a4] M Q:=bg (fn:=Tryz.f156) h
theorem xu (h:Go.Ab.aC.ni (av 125) a0 a1 a2 a3 M Q) : av 157 [a0,a1,a2,a3] M Q:=bg (fn:=Tryz.f157) h
theorem rV (h:Go.Ab.aC.j4 (av 159) a0 a1 a2 M Q) : av 158 [a0,a1,a2] M Q:=bg (fn:=Tryz.f158) h
theorem yC (h:Go.Ab.aC.oQ (av 162) a0 a1 a2 a3 a4 M Q) : av 159 [a0,a1,a2,a3,a4] M Q:=bg (fn:=Tryz.f159) h
theorem yJ (h:Go.Ab.aC.oZ (av 125) a0 a1 a2 a3 M Q) : av 162 [a0,a1,a2,a3] M Q:=bg (fn:=Tryz.f162) h
end Go.Proofs.YtlhlnchhaminjaaGreat
namespace Go.Proofs.YtlhlnchhaminjaaGreat.iD
open Go Go.Ab Go.Ab.aC Go.RowKit
theorem over:ajE (adt Tryz.prog 137):=by
 intro M ba oa na bb ob nb ea eb ca cb la lb opb Q hne ha hb h1 h2 hQ
 exact .inr (.inl ⟨⟨Tryz.f137,109,25,1,4,by kernel_rfl,by kernel_rfl,by kernel_rfl,by kernel_rfl,by kernel_rfl,by kernel_rfl⟩,
  ⟨ba,oa,na,ca,bb,ob,nb,cb,la,ea,0,lb,opb,eb,0,rfl,hne,ha,hb,rfl,h1,h2⟩,hQ⟩)
theorem afa:LD Tryz.prog 107:=⟨Tryz.f107,_,by kernel_rfl,rfl⟩
theorem insert:aa7 25 (av 107):=by
 intro M v bx n0 k x ex xs Q ho hn hl hk hx hxl hbx hQ
 by_cases hkn:k=xs.length
 ·subst hkn
  exact wN (adf ho hn hl hx hxl hQ)
 ·obtain⟨b,rfl,h1,h2,h3,h4⟩:=Own.Br ho (by omega)
  refine jH.ag3 afa h3 (by rw[h4]; show xs.length * 1=_; omega) fun c hc=>?_
  have hne:bx≠b:=fun e=>hbx (by simp[aD,e])
  have kk:ag [b] M (M.put b (.row (aU.row xs++List.replicate (c - xs.length) .top) true 25 0)):=(ag.refl _ _).put _ (.inr (by simp))
  refine wN (aes (c:=c) over rfl (by omega) hc (by omega) (aR _) (by rw[ny]; exact h2) (EW hx hne) hxl hne ?_)
  intro v' M' q1 q2 q3 q4
  refine hQ v' M' q1 q2 (fun d hd=>?_) ?_
  ·rcases q3 d hd with rfl | h
   ·exact h1
   ·have:M.next≤d:=h
    omega
  ·exact(kk.trans q4).mono (by simp[aD])
theorem nan:adH (av 135):=fun hQ=>xn (Rm hQ)
theorem azn:adH (av 126):=fun hQ=>En (Z6 hQ)
theorem less:zi (av 125):=by
 intro M x y Q hQ
 obtain⟨a0,a1,e,h⟩:=aeY nan hQ
 cases e
 exact Jb h
theorem search:LX (av 103):=by
 intro M v xs n Q h1 h2 h3 hQ
 obtain⟨a0,a1,e,h⟩:=aaA less azn h1 h2 h3 hQ
 cases e
 exact zK h
theorem afb:FP 25 1 8 (av 108):=fun h1 h2 h3 h4 _ hQ=>GJ (Kv h1 h2 (Nat.le_refl _) h3 h4 hQ)
theorem aez:FP 5 1 1 (av 88):=fun h1 h2 h3 h4 _ hQ=>Kk (Kv h1 h2 (Nat.le_refl _) h3 h4 hQ)
theorem uint:Gi 5 (av 63):=by
 intro M0 a0 cs n v h1 h2 h3 h4 Q hQ
 obtain⟨b0,b1,e,h⟩:=afA aez h1 h2 h3 h4 hQ
 cases e
 exact ZC h
theorem settled:Iu (av 99):=by
 intro M b o T u l v xs Q h1 h2 h3 h4 h5 h6 h7 h8 h9 hQ
 obtain⟨a0,e,h⟩:=WJ h1 h2 h3 h4 h5 h6 h7 h8 h9 hQ
 cases e
 exact GV h
theorem iM:acX (av 81):=by
 intro M b o T u n l v xs Q h1 h2 h3 h4 h5 h6 h7 h8 h9 h10 h11 h12 hQ1 hQ2
 obtain⟨a0,a1,e,h⟩:=ae5 (TU:=25) (TP:=111) search afb insert settled h1 h2 h3 h4 h5 h6 h7 h8 h9 h10 h11 h12 hQ1 hQ2
 cases e
 exact N7 h
theorem kF:VZ (av 77):=by
 intro M b o T u n l v xs Q h1 h2 h3 h4 h5 h6 hQ
 obtain⟨a0,a1,e,h⟩:=aeu search h1 h2 h3 h4 h5 h6 hQ
 cases e
 exact OT h
theorem good:Dm (av 58):=by
 intro M d Q hQ
 obtain⟨a0,e,h⟩:=afB (T:=27) hQ
 cases e
 exact Sc h
theorem alJ:Dm (av 61):=by
 intro M d Q hQ
 obtain⟨a0,e,h⟩:=Ze (T:=27) hQ
 cases e
 exact Sz h
theorem nY:acU 114 (av 42):=by
 intro M b ps d S Q h1 h2 hQ
 obtain⟨a0,a1,e,h⟩:=aeH (TD:=27) good iM h1 h2 hQ
 cases e
 exact Rv h
theorem new:abw 114 (av 38):=by
 intro M Q hQ
 obtain⟨e,h⟩:=ag2 hQ
 exact IQ h
theorem aAe:ab3 114 25 (av 38):=by
 intro M Q hQ
 obtain⟨e,h⟩:=ae9 hQ
 exact IQ h
theorem ar3:XA 114 133 (av 91):=by
 intro M b ps S Q h1 h2 hQ
 obtain⟨a0,e,h⟩:=adL (T:=111) afb h1 h2 hQ
 cases e
 exact Mf h
theorem encode:Bb 114 5 (av 65):=by
 intro M b ps S Q h1 h2 hQ
 obtain⟨a0,e,h⟩:=aan ar3 uint h1 h2 hQ
 cases e
 exact Le h
theorem num:aca 127 (av 89):=by
 intro M r S bs f Q h1 hQ
 obtain⟨a0,e,h⟩:=afY h1 hQ
 cases e
 exact FZ h
theorem int:Zo 127 (av 51):=by
 intro M r most S bs f Q h1 h2 hQ
 obtain⟨a0,a1,e,h⟩:=ag1 num h1 h2 hQ
 cases e
 exact JB h
theorem ajI:QA 127 (av 52):=by
 intro M r S bs f Q h1 hQ
 obtain⟨a0,e,h⟩:=acv num h1 hQ
 cases e
 exact Jk h
theorem err:adE 127 (av 56):=by
 intro M r S bs f Q h1 hQ
 obtain⟨a0,e,h⟩:=aip h1 hQ
 cases e
 exact KT h
theorem aq8:abD 127 (av 54):=by
 intro M r S bs f Q h1 hQ
 obtain⟨a0,e,h⟩:=ajf h1 hQ
 cases e
 exact Ky h
theorem read:VO 127 (av 50):=by
 intro M v bs Q h1 h2 hQ
 obtain⟨a0,e,h⟩:=afp aez h1 h2 hQ
 cases e
 exact ZF h
theorem formed:Tk 114 (av 90):=by
 intro M b ps S Q h1 h2 hQ
 obtain⟨a0,e,h⟩:=aab (T:=111) h1 h2 hQ
 cases e
 exact Kn h
theorem equal:Qc (av 57):=by
 intro M v w x y Q h1 h2 hQ
 obtain⟨a0,a1,e,h⟩:=abJ h1 h2 hQ
 cases e
 exact Ja h
theorem decode:Ul 114 25 (av 55):=by
 intro M v bs Q h1 h2 hN hS
 obtain⟨a0,e,h⟩:=ZT read aAe int ajI.ru err aq8 formed encode equal h1 h2 hN hS
 cases e
 exact Ox h
theorem ahead:Wz (av 121):=by
 intro M a b Q hQ
 obtain⟨a0,a1,e,h⟩:=acu (T:=27) hQ
 cases e
 exact Vv h
theorem afM:LM (av 27):=by
 intro M v l d Q h1 h2 hQ
 obtain⟨a0,a1,e,h⟩:=ZY (T:=27) h1 h2 hQ
 cases e
 exact ZI h
theorem arX:Ud 27 (av 94):=by
 intro M base v l d Q h1 h2 h3 hQ
 obtain⟨a0,a1,e,h⟩:=ZO afM ahead h1 h2 h3 hQ
 cases e
 exact aay h
theorem within:L8 114 (av 33):=by
 intro M a b ps qs S S' Q h1 h2 h3 h4 hQ
 obtain⟨a0,a1,e,h⟩:=aaw (T:=111) kF h1 h2 h3 h4 hQ
 cases e
 exact JP h
theorem fw:VQ 114 (av 37):=by
 intro M b ps d S Q h1 h2 hQ
 obtain⟨a0,a1,e,h⟩:=afL (T:=27) good kF h1 h2 hQ
 cases e
 exact Px h
theorem grow:adN 25 (av 122):=by
 intro M n Q h1 h2 h3
 obtain⟨a0,a1,e,h⟩:=aeU (TS:=9) h1 h2 h3
 cases e
 exact Ji h
theorem concat:Tg 25 (av 96):=by
 intro M bb TS v w xs ys Q h1 h2 h3 h4 h5 h6 hQ
 obtain⟨a0,e,h⟩:=aaz (TS:=9) grow h1 h2 h3 h4 h5 h6 hQ
 cases e
 exact Gg h
theorem Ur (v:Nat) : v<2 ^ 64→Iy 5 v (av 74):=by
 induction v using Nat.strongRecOn with
 | _ v ih =>
   intro hv M Q hQ
   obtain⟨a0,e,h⟩:=WR hv (fun w hw=>ih w hw (by omega)) hQ
   cases e
   exact Me h
theorem afX:Ei 137 25 (av 93):=fun {M v l Q} h1 h2 h3 h4=>by
 obtain⟨a0,e,h⟩:=Vt h1 h2 h3 h4
 cases e
 exact VE h
theorem Vd:xE 5 (av 69):=fun {M v l Q} h1 h2 h3 h4=>by
 obtain⟨a0,e,h⟩:=TJ afX (fun v=>Ur v) h1 h2 h3 h4
 cases e
 exact Us h
theorem alx:Un 25 3 (av 162):=fun {M b s k i j d Q} h1 h2 h3 h4 hQ=>by
 obtain⟨a0,a1,a2,a3,e,h⟩:=Zz less h1 h2 h3 h4 hQ
 cases e
 exact yJ h
theorem aaP:Lp 25 3 (av 159):=fun {M b s k i j h d Q} h1 h2 h3 h4 h5 hQ=>by
 obtain⟨a0,a1,a2,a3,a4,e,h⟩:=Wu alx h1 h2 h3 h4 h5 hQ
 cases e
 exact yC h
theorem akS:Td 25 3 (av 158):=fun {M b s k i d Q} h1 h2 h3 h4 h5 hQ=>by
 obtain⟨a0,a1,a2,e,h⟩:=XC aaP h1 h2 h3 h4 h5 hQ
 cases e
 exact rV h
theorem akQ:Uv 25 (av 147):=fun {M b a e d Q} h1 h2 h3 h4 hQ=>by
 obtain⟨a0,a1,a2,e,h⟩:=WX akS aaP h1 h2 h3 h4 hQ
 cases e
 exact uS h
theorem ai0:O4 25 (av 149):=fun {M b a e d Q} h1 h2 h3 h4 hQ=>by
 obtain⟨a0,a1,a2,e,h⟩:=Vr less h1 h2 h3 h4 hQ
 cases e
 exact qm h
theorem azS:A9 25 (Sort.insertionSort lN) (fun _ _ _=>True) (av 144):=fun {M b a e d Q} h1 h2 h3 h4 h5 hQ=>by
 obtain⟨a0,a1,a2,e,h⟩:=aeP less h1 h2 h3 h4 h5 hQ
 cases e
 exact ma h
theorem awj:abL 25 (av 157):=fun {M b lo hi first d Q} h1 h2 h3 h4 hQ=>by
 obtain⟨a0,a1,a2,a3,e,h⟩:=afz less h1 h2 h3 h4 hQ
 cases e
 exact xu h
theorem avW:A9 25 (Sort.heapSort lN) (fun _ a e=>a<e) (av 145):=fun {M b a e d Q} h1 h2 h3 h4 h5 hQ=>by
 obtain⟨a0,a1,a2,e,h⟩:=aet awj h1 h2 h3 h4 h5 hQ
 cases e
 exact xM h
theorem af4:A9 25 Sort.reverseRange (fun _ a e=>a<e) (av 148):=fun {M b a e d Q} h1 h2 h3 h4 h5 hQ=>by
 obtain⟨a0,a1,a2,e,h⟩:=Yg h1 h2 h3 h4 h5 hQ
 cases e
 exact uJ h
theorem alh:TM 25 (av 150):=fun {M b a e pv d Q} h1 h2 h3 h4 h5 hQ=>by
 obtain⟨a0,a1,a2,a3,e,h⟩:=Z4 less h1 h2 h3 h4 h5 hQ
 cases e
 exact sw h
theorem avH:ac4 25 (av 151):=fun {M b a e pv d Q} h1 h2 h3 h4 h5 hQ=>by
 obtain⟨a0,a1,a2,a3,e,h⟩:=aeZ less h1 h2 h3 h4 h5 hQ
 cases e
 exact wO h
theorem asX:JM (av 118):=fun {M x Q} h1 hQ=>by
 obtain⟨a0,e,h⟩:=aaD h1 hQ
 cases e
 exact Dh h
theorem ahk:JM (av 83):=fun {M x Q} h1 hQ=>by
 obtain⟨a0,e,h⟩:=ae0 (c3:=av 117) asX h1 hQ
 cases e
 exact FC h
theorem arw:adJ (av 140):=fun {M x Q} h0 h1 hQ=>by
 obtain⟨a0,e,h⟩:=af5 ahk h0 h1 hQ
 cases e
 exact Er h
theorem axS:ajj 25 182 (av 141):=fun {M b s r d Q} h0 hQ=>by
 obtain⟨a0,e,h⟩:=aiB h0 hQ
 cases e
 exact wB h
theorem anH:Yl 25 (av 146):=fun {M b a e d Q} h1 h2 h3 h4 hQ=>by
 obtain⟨a0,a1,a2,e,h⟩:=abW arw axS h1 h2 h3 h4 hQ
 cases e
 exact uA h
theorem apq:∀ m,ad3 25 m (av 123)
 | 0=>by intro h1 h2 h3 h4 h5; omega
 | m + 1=>by
   intro h1 h2 h3 h4 h5 h6 hQ
   obtain⟨a0,a1,a2,a3,e,h⟩:=ae1 azS avW anH akQ af4 ai0 less alh avH (apq m) h1 h2 h3 h4 h5 h6 hQ
   cases e
   exact pK h
theorem ao5:YV (av 144):=fun {M v Q} hQ=>by
 obtain⟨a0,a1,a2,e,h⟩:=aax (cl:=av 125) (v:=v) hQ
 cases e
 exact ma h
theorem asQ:Yu (av 123):=fun {M v Q} hQ=>by
 obtain⟨a0,a1,a2,a3,e,h⟩:=aas (c2:=av 145) (c3:=av 146) (cc:=av 147) (c4:=av 148) (cp:=av 149) (c5:=av 125) (c6:=av 150) (c7:=av 151) (c8:=av 123) ao5 (v:=v) hQ
 cases e
 exact pK h
theorem alV:acs (fun xs=>xs.length≤60000) lC 25 (av 97):=fun {M base v xs Q} h1 h2 hQ=>by
 obtain⟨a0,e,h⟩:=aec ahk apq asQ h1 h2 hQ
 cases e
 exact Jc h
theorem adi:O1 (fun xs=>xs.length≤60000) dd 25 (av 98):=fun {M base v xs Q} h1 h2 hQ=>by
 obtain⟨a0,e,h⟩:=Vz h1 h2 hQ
 cases e
 exact Ey h
theorem alB:adT (fun xs=>xs.length≤60000) (fun xs=>xs.length≤60000) lC dd 114 (av 73):=fun {M a b ps qs S S' Q} h1 h2 h3 h4 h5 h6 h7 h8 hQ=>by
 obtain⟨a0,a1,e,h⟩:=afi (TP:=111) (TL:=109) concat alV adi settled h1 h2 h3 h4 h5 h6 h7 h8 hQ
 cases e
 exact Pk h
end Go.Proofs.YtlhlnchhaminjaaGreat.iD
namespace Go.Proofs.YtlhlnchhaminjaaGreat.iD
open Go Go.Ab Go.Ab.aC Go.Ab.Crw Go.RowKit
theorem awr:Bn (av 60):=by
 intro M a b Q h1
 obtain⟨a0,a1,e,h⟩:=ab9 (T:=27) h1
 cases e
 exact WS h
theorem abg:Bn (av 62):=by
 intro M a b Q h1
 obtain⟨a0,a1,e,h⟩:=ZE (T:=27) h1
 cases e
 exact Ua h
theorem names:X3 (av 59):=by
 intro M x y z Q h1
 obtain⟨a0,a1,a2,e,h⟩:=abN h1
 cases e
 exact Ml h
theorem dX:wK (av 17):=by
 intro M e kv ks Q h1 h2
 obtain⟨a0,e,h⟩:=aaB (TE:=30) (TD:=27) good names awr h1 h2
 cases e
 exact Y5 h
theorem Vi:wK (av 20):=by
 intro M e kv ks Q h1 h2
 obtain⟨a0,e,h⟩:=Tp (TE:=30) alJ abg h1 h2
 cases e
 exact Mh h
theorem azO:GD (α:=List UInt8) (fun s=>St s) (av 119):=by
 intro M x Q h1
 obtain⟨a0,e,h⟩:=aep h1
 cases e
 exact G7 h
theorem ax3:GD (α:=Nat) (fun n=>N .u64 (n:Int)) (av 135):=by
 intro M x Q h1
 obtain⟨a0,e,h⟩:=ael h1
 cases e
 exact xn h
theorem aAq:GD (α:=Int) (fun n=>N .i64 n) (av 136):=by
 intro M x Q h1
 obtain⟨a0,e,h⟩:=aeQ h1
 cases e
 exact Mk h
theorem ayv:Av (α:=List UInt8) (fun s=>St s) (fun x y=>decide (x<y)) (av 85):=by
 intro M x y Q h1
 obtain⟨a0,a1,e,h⟩:=afE azO h1
 cases e
 exact Ff h
theorem ayg:Av (α:=Nat) (fun n=>N .u64 (n:Int)) (fun x y=>decide (x<y)) (av 105):=by
 intro M x y Q h1
 obtain⟨a0,a1,e,h⟩:=aen ax3 h1
 cases e
 exact Es h
theorem aAm:Av (α:=Int) (fun n=>N .i64 n) (fun x y=>decide (x<y)) (av 106):=by
 intro M x y Q h1
 obtain⟨a0,a1,e,h⟩:=ae8 aAq h1
 cases e
 exact Jd h
theorem or_:OrC (av 84):=by
 intro M v xs Q h1 h2 h3
 obtain⟨a0,e,h⟩:=akU h1 h2 h3
 cases e
 exact Tj h
theorem au4:YE (av 80):=by
 intro M x y Q h1
 obtain⟨a0,a1,e,h⟩:=ad8 ayg aAm or_ h1
 cases e
 exact Vo h
theorem compare:GN (av 45):=by
 intro M x y Q h1
 obtain⟨a0,a1,e,h⟩:=YQ ayv au4 or_ h1
 cases e
 exact Rs h
abbrev fE:AV:=.fn (.func 45) [] []
theorem Oe:CK aB jc (gW (av) fE):=amd compare
theorem agM:SortG aB 58 5 fE (Sort.insertionSort jc) (fun _ _ _=>True) (av 109):=by
 intro M b a e d Q h1 h2 h3 h4 h5 h6
 obtain⟨a0,a1,a2,a3,e,h⟩:=Crw.agM (cv:=av) Oe h1 h2 h3 h4 h5 h6
 cases e
 exact mG h
theorem ah8:SortG aB 58 5 fE Sort.reverseRange (fun _ a e=>a<e) (av 113):=by
 intro M b a e d Q h1 h2 h3 h4 h5 h6
 obtain⟨a0,a1,a2,a3,e,h⟩:=Crw.ah8 h1 h2 h3 h4 h5 h6
 cases e
 exact uM h
theorem adB:aee 58 fE jc (av 139):=by
 intro M b lo hi first d Q h1 h2 h3 h4 h5
 obtain⟨a0,a1,a2,a3,a4,e,h⟩:=Crw.adB (cv:=av) Oe h1 h2 h3 h4 h5
 cases e
 exact xU h
theorem ac0:SortG aB 58 5 fE (Sort.heapSort jc) (fun _ a e=>a<e) (av 110):=by
 intro M b a e d Q h1 h2 h3 h4 h5 h6
 obtain⟨a0,a1,a2,a3,e,h⟩:=Crw.ac0 adB h1 h2 h3 h4 h5 h6
 cases e
 exact xS h
theorem RX:SB 58 fE jc (av 115):=by
 intro M b a e pv d Q h1 h2 h3 h4 h5 h6
 obtain⟨a0,a1,a2,a3,a4,e,h⟩:=Crw.RX (cv:=av) Oe h1 h2 h3 h4 h5 h6
 cases e
 exact tV h
theorem abR:acO 58 fE jc (av 116):=by
 intro M b a e pv d Q h1 h2 h3 h4 h5 h6
 obtain⟨a0,a1,a2,a3,a4,e,h⟩:=Crw.abR (cv:=av) Oe h1 h2 h3 h4 h5 h6
 cases e
 exact xy h
theorem Sn:RV 58 3 fE jc (av 156):=by
 intro M b s k i j d Q h1 h2 h3 h4 h5 h6
 obtain⟨a0,a1,a2,a3,a4,e,h⟩:=Crw.Sn (cv:=av) Oe h1 h2 h3 h4 h5 h6
 cases e
 exact zx h
theorem Mc:LB 58 3 fE jc (av 143):=by
 intro M b s k i j h d Q h1 h2 h3 h4 h5 h6 h7
 obtain⟨a0,a1,a2,a3,a4,a5,e,h⟩:=Crw.Mc Sn h1 h2 h3 h4 h5 h6 h7
 cases e
 exact zH h
theorem Sv:Sg 58 3 fE jc (av 142):=by
 intro M b s k i d Q h1 h2 h3 h4 h5 h6 h7
 obtain⟨a0,a1,a2,a3,e,h⟩:=Crw.Sv Mc h1 h2 h3 h4 h5 h6 h7
 cases e
 exact tF h
theorem Tu:RQ 58 fE jc (av 112):=by
 intro M b a e d Q h1 h2 h3 h4 h5
 obtain⟨a0,a1,a2,a3,e,h⟩:=Crw.Tu Sv Mc h1 h2 h3 h4 h5
 cases e
 exact vG h
theorem O5:Og 58 fE jc (av 114):=by
 intro M b a e d Q h1 h2 h3 h4 h5
 obtain⟨a0,a1,a2,a3,e,h⟩:=Crw.O5 (cv:=av) Oe h1 h2 h3 h4 h5
 cases e
 exact qo h
theorem ax7:ahU 182 (av 141):=by
 intro M s r Q h1 h2 h3
 obtain⟨a0,e,h⟩:=ae2 h1 h2 h3
 cases e
 exact wB h
theorem Xk:SortG aB 58 5 fE Sort.breakPatterns (fun _ _ _=>True) (av 111):=by
 intro M b a e d Q h1 h2 h3 h4 h5 h6
 obtain⟨a0,a1,a2,a3,e,h⟩:=Crw.Xk arw ax7 h1 h2 h3 h4 h5 h6
 cases e
 exact uI h
theorem aeb:∀ m,acK 58 m fE jc (av 82)
 | 0=>by intro h1 h2 h3 h4 h5; omega
 | m + 1=>by
   intro h1 h2 h3 h4 h5 h6 hQ
   obtain⟨a0,a1,a2,a3,a4,e,h⟩:=Crw.aeb (cv:=av) kg agM ac0 Xk Tu ah8 O5 Oe RX abR (aeb m) h1 h2 h3 h4 h5 h6 hQ
   cases e
   exact qd h
theorem SE:TH (av 109):=by
 intro M v fv Q h1
 obtain⟨a0,a1,a2,a3,e,h⟩:=Crw.SE (cv:=av) h1
 cases e
 exact mG h
theorem Um:Sy (av 82):=by
 intro M v fv Q h1
 obtain⟨a0,a1,a2,a3,a4,e,h⟩:=Crw.Um (cv:=av) SE h1
 cases e
 exact qd h
theorem amE:SQ fE jc 58 (av 44):=by
 intro M base v xs Q h1 h2 h3
 obtain⟨a0,a1,e,h⟩:=Crw.al8 kg ahk aeb Um h1 h2 h3
 cases e
 exact EA h
theorem clone:FH 58 (av 43):=by
 intro M v xs Q h1 h2 h3
 obtain⟨a0,e,h⟩:=aap h1 h2 h3
 cases e
 exact Jh h
theorem index:SA (av 87):=by
 intro M v l d Q h1 h2 h3
 obtain⟨a0,a1,e,h⟩:=ZZ (T:=27) h1 h2 h3
 cases e
 exact Mg h
theorem contains:H7 (av 48):=by
 intro M v l d Q h1 h2 h3
 obtain⟨a0,a1,e,h⟩:=Sk (T:=27) index h1 h2 h3
 cases e
 exact GI h
theorem afK:yf (av 49):=by
 intro M v w xs ys Q h1 h2 h3 h4
 obtain⟨a0,a1,e,h⟩:=aaj h1 h2 h3 h4
 cases e
 exact Je h
theorem afR {b:Nat} {e:pG} {kv:AV} {ks:List aC} (hl:ks.length≤1000000) : VH (Jl 30 b e kv ks) (fun x=>decide (x.1∈ks)) (gW (av) (.fn (.func 47) [] [.ptr b 0])):=by
 intro M x Q hP hQ
 obtain⟨a0,a1,e,h⟩:=aac (T:=58) contains hl hP hQ
 refine⟨47,[],[.ptr b 0],rfl, ?_⟩
 show av 47 [.agg (aB.cells x),.ptr b 0] M Q
 cases e
 exact FO h
theorem anE {P:RM→Prop} {p:Crw.aP→Bool} {fv:AV} (hp:VH P p (gW (av) fv)) : Ub P p fv (av 86):=by
 intro M v xs Q h1 h2 h3 h4 h5 h6
 obtain⟨a0,a1,e,h⟩:=aau hp h1 h2 h3 h4 h5 h6
 cases e
 exact Df h
theorem al6 (b:Nat) (e:pG) (kv:AV) (ks:List aC) (hl:ks.length≤1000000) : NK 58 (Jl 30 b e kv ks) (fun x=>decide (x.1∈ks)) (.fn (.func 47) [] [.ptr b 0]) (av 46):=by
 intro M base v xs Q h1 h2 h3 h4 hQ
 obtain⟨a0,a1,e,h⟩:=Yd (TE:=58) (anE (afR hl)) (afR hl) h1 h2 h3 h4 hQ
 cases e
 exact BN h
theorem IP:Ku 114 (av 41):=by
 intro M b qs S' k Q h1 h2 h3 h4
 obtain⟨a0,e,h⟩:=abB new alB h1 h2 h3 h4
 cases e
 exact Ol h
theorem akC:Q8 75 114 (av 11):=by
 intro M Q h1
 obtain⟨e,h⟩:=adA new h1
 exact aad h
theorem apply:JK 75 114 (av 14):=by
 intro M t k B ps es e kv ks Q h1 h2 h3 h4 h5 h6 h7 h8
 obtain⟨a0,a1,e,h⟩:=acW (TE:=30) (TD:=27) (TN:=58) (cv:=av) dX IP nY fw clone amE al6 within afK h1 h2 h3 h4 h5 h6 h7 h8
 cases e
 exact Jg h
theorem entries:Oc 75 114 58 (av 18):=by
 intro M t B ps es Q h1 h2 h3
 obtain⟨a0,e,h⟩:=XZ clone h1 h2 h3
 cases e
 exact FB h
theorem own:af6 30 (av 19):=by
 intro M v l Q h1 h2 h3
 obtain⟨a0,e,h⟩:=aix Vi h1 h2 h3
 cases e
 exact ZQ h
theorem MC {α:Type} {R:sJ α} {M:RM} {S:Nat→Prop} {p:α→Prop} : ∀ (n:Nat) (ds:List AV),ds.length=n * R.size→(∀ i,i<n→∃ a,p a∧R.rel M ((ds.drop (i * R.size)).take R.size) a S) →
  ∃ xs:List α,xs.length=n∧gY R M S ds xs∧∀ x∈xs,p x
 | 0,ds,hl,_=>by
   have:ds=[]:=by simpa using hl
   subst this
   exact⟨[],rfl,.nil,by simp⟩
 | n + 1,ds,hl,h=>by
   obtain⟨a,pa,ha⟩:=h 0 (by omega)
   simp only[Nat.zero_mul,List.drop_zero] at ha
   have hl' : (ds.drop R.size).length=n * R.size:=by rw[List.length_drop,hl,Nat.succ_mul]; omega
   obtain⟨xs,h1,h2,h3⟩:=MC n (ds.drop R.size) hl' fun i hi=>by
    obtain⟨b,pb,hb⟩:=h (i + 1) (by omega)
    refine⟨b,pb, ?_⟩
    rw[List.drop_drop,show R.size + i * R.size=(i + 1) * R.size by rw[Nat.succ_mul,Nat.add_comm]]
    exact hb
   refine⟨a :: xs,by simp[h1], ?_,fun x hx=>?_⟩
   ·have:=gY.cons ha h2
    rwa [List.take_append_drop] at this
   ·rcases List.mem_cons.1 hx with rfl | hx
    ·exact pa
    ·exact h3 x hx
theorem cells3:Tryz.prog.cellsOf 3=1:=by kernel_rfl
theorem anb:Tryz.prog.cellsOf 9=1:=by kernel_rfl
theorem akH:Tryz.prog.cellsOf 25=1:=by kernel_rfl
theorem Lg:Tryz.prog.cellsOf 27=2:=by kernel_rfl
theorem akR:Tryz.prog.cellsOf 28=1:=by kernel_rfl
theorem L6:Tryz.prog.cellsOf 30=7:=by kernel_rfl
theorem Yj {M:RM} {cs:List AV} (h:Fits Tryz.prog M 27 cs) : ∃ d:aC,cs=dM.cells d∧d.2<2 ^ 64:=by
 obtain⟨hl,hf⟩:=h.QB Tryz.underlying27
 rw[Lg] at hl
 match cs,hl with
 | [a,b],_ =>
   have f0:Fits Tryz.prog M 3 (([a,b].drop 0).take (Tryz.prog.cellsOf 3)):=hf 0 _ rfl
   have f1:Fits Tryz.prog M 25 (([a,b].drop 1).take (Tryz.prog.cellsOf 25)):=hf 1 _ rfl
   rw[cells3] at f0
   rw[akH] at f1
   obtain⟨n,e,_,_⟩:=f0.LK Tryz.underlying3
   obtain⟨m,e',g1,g2⟩:=f1.LK Tryz.underlying25
   have g1:(0:Int)≤m:=g1
   have g2:m≤(18446744073709551615:Int):=g2
   obtain⟨k,rfl⟩:=Int.eq_ofNat_of_zero_le g1
   cases e; cases e'
   exact⟨(n,k),rfl,by show k<2 ^ 64; omega⟩
theorem afw {M:RM} {cs:List AV} (h:Fits Tryz.prog M 28 cs) : ∃ v,∃ l:List aC,cs=[v]∧Sl dM M v l∧∀ d∈l,d.2<2 ^ 64:=by
 obtain⟨v,n,ds,rfl,hs,hb,he⟩:=h.UI Tryz.underlying28 (by rw[Lg]; decide)
 rw[Lg] at hs he
 obtain⟨xs,rfl,rfl,hp⟩:=UA (size:=2) dM.cells (fun d:aC=>d.2<2 ^ 64) (fun _=>rfl) n ds hs.length fun i hi=>by
  obtain⟨d,e,h⟩:=Yj (he i hi)
  exact⟨d,h,e⟩
 exact⟨v,xs,rfl,hs,hp⟩
def aiI (x:Ev) : Prop:=x.1.1.2<2 ^ 64∧x.1.2.2.1.length≤reachBytes∧x.1.2.2.2.1.length≤reachBytes∧x.1.2.2.2.2.length≤reachBytes∧∀ d∈x.2,d.2<2 ^ 64
theorem alU {M:RM} {cs:List AV} (h:Fits Tryz.prog M 30 cs) : ∃ e kv ks,cs=gH e kv∧Sl dM M kv ks∧aiI (e,ks):=by
 obtain⟨hl,hf⟩:=h.QB Tryz.underlying30
 rw[L6] at hl
 match cs,hl with
 | [a,b,c,d,e,f,g],_ =>
   have f0:Fits Tryz.prog M 27 (([a,b,c,d,e,f,g].drop 0).take (Tryz.prog.cellsOf 27)):=hf 0 _ rfl
   have f1:Fits Tryz.prog M 3 (([a,b,c,d,e,f,g].drop 2).take (Tryz.prog.cellsOf 3)):=hf 1 _ rfl
   have f2:Fits Tryz.prog M 9 (([a,b,c,d,e,f,g].drop 3).take (Tryz.prog.cellsOf 9)):=hf 2 _ rfl
   have f3:Fits Tryz.prog M 9 (([a,b,c,d,e,f,g].drop 4).take (Tryz.prog.cellsOf 9)):=hf 3 _ rfl
   have f4:Fits Tryz.prog M 9 (([a,b,c,d,e,f,g].drop 5).take (Tryz.prog.cellsOf 9)):=hf 4 _ rfl
   have f5:Fits Tryz.prog M 28 (([a,b,c,d,e,f,g].drop 6).take (Tryz.prog.cellsOf 28)):=hf 5 _ rfl
   rw[Lg] at f0
   rw[cells3] at f1
   rw[anb] at f2 f3 f4
   rw[akR] at f5
   obtain⟨dd,e0,g0⟩:=Yj f0
   obtain⟨op,e1,_,_⟩:=f1.LK Tryz.underlying3
   obtain⟨s2,e2,g2⟩:=f2.SS Tryz.underlying9
   obtain⟨s3,e3,g3⟩:=f3.SS Tryz.underlying9
   obtain⟨s4,e4,g4⟩:=f4.SS Tryz.underlying9
   obtain⟨kv,ks,e5,hk,g5⟩:=afw f5
   cases e0; cases e1; cases e2; cases e3; cases e4; cases e5
   exact⟨(dd,(op,(s2,(s3,s4)))),_,ks,rfl,hk,g0,g2,g3,g4,g5⟩
theorem ajv {M:RM} {cs:List AV} (h:Fits Tryz.prog M 43 cs) : ∃ v,∃ l:List Ev,cs=[v]∧gD lY M v l (fun d=>d<M.next)∧∀ x∈l,aiI x:=by
 obtain⟨v,n,ds,rfl,hs,hb,he⟩:=h.UI Tryz.underlying43 (by rw[L6]; decide)
 rw[L6] at hs he
 obtain⟨xs,hn,hr,hp⟩:=MC (R:=lY) (M:=M) (S:=fun d=>d<M.next) (p:=aiI) n ds hs.length fun i hi=>by
  obtain⟨e,kv,ks,e1,hk,ho⟩:=alU (he i hi)
  refine⟨(e,ks),ho, ?_⟩
  show lY.rel M ((ds.drop (i * 7)).take 7) (e,ks) _
  rw[e1]
  exact afu hk (fun d hd=>aM.lt hk d hd)
 subst hn
 exact⟨v,xs,rfl,⟨ds,hs,fun d hd=>hs.lt d hd,hr⟩,hp⟩
theorem seen:acb 75 114 (av 32):=by
 intro M t k B ps es Q h1 h2 h3 h4
 obtain⟨a0,e,h⟩:=afh IP h1 h2 h3 h4
 cases e
 exact Jn h
theorem asr:Sa 75 114 (av 25):=by
 intro M t k B ps es Q h1 h2 h3 h4 h5
 obtain⟨a0,e,h⟩:=Z8 IP clone h1 h2 h3 h4 h5
 cases e
 exact JN h
theorem apI:SN 75 114 (av 24):=by
 intro M t u k l B C ps qs es fs Q h1 h2 h3 h4 h5 h6 h7 h8
 obtain⟨a0,a1,e,h⟩:=Z7 afK within h1 h2 h3 h4 h5 h6 h7 h8
 cases e
 exact JZ h
theorem state:Rc 75 114 (av 21):=by
 intro M v l n m back Q h1 h2 h3 h4 h5
 obtain⟨a0,a1,a2,e,h⟩:=acx akC apply h1 h2 h3 h4 h5
 cases e
 exact VC h
theorem acd {M:RM} {b o n k:Nat} {cs:List AV} (h:M.loads b o n=some cs) (hk:k≤n) : M.loads b o k=some (cs.take k):=by
 unfold RM.loads at h ⊢
 split at h
 ·rename_i l _
  split at h
  ·cases h
   rw[if_pos (by omega),List.take_take,Nat.min_eq_left hk]
  ·cases h
 ·cases h
theorem Y7 {M:RM} {b o n k:Nat} {cap cap' : Cap} {l:List Ev} (h:gD lY M (.slc b o n cap) l (fun d=>d<M.next)) (hk:k≤l.length) : gD lY M (.slc b o k cap') (l.take k) (fun d=>d<M.next):=by
 obtain⟨cs,h1,h2,h3⟩:=h
 generalize hn:l.length=m at h1 hk
 cases h1 with
 | slc _ _ _ _ _ hb hl =>
   refine⟨cs.take (k * 7), ?_,h2,h3.take k⟩
   rw[List.length_take,hn,Nat.min_eq_left hk]
   exact .slc _ _ _ _ _ hb (acd hl (Nat.mul_le_mul_right _ hk))
theorem al9 {M:RM} {cs:List AV} (h:Fits Tryz.prog M 43 cs) {v:AV} {l:List Ev} (hc:cs=[v]) {M' : RM} (hl:gD lY M' v l (fun d=>d<M'.next)) : arL M' v l:=by
 have hu:=Tryz.underlying43
 have key:v=dV∨(∃ b,v=.emp b)∨∃ b o n c,v=.slc b o n (.ex c)∧n≤c:=by
  cases h with
  | agD _ e' h1=>cases hc; exact .inl rfl
  | emp _ e' b h1=>cases hc; exact .inr (.inl ⟨b,rfl⟩)
  | slc _ e' b o n c ds h1 h2 h3 h4 h5 h6=>cases hc; exact .inr (.inr ⟨b,o,n,c,rfl,h3⟩)
  | zero _ e' _ h1 h2 =>
    rw[hu] at h1
    cases h1
    rw[L6] at h2
    cases h2
  | _=>simp_all [FW]
 intro k hk
 have hl0:=hl
 rcases key with rfl | ⟨b,rfl⟩ | ⟨b,o,n,c,rfl,hn⟩
 ·obtain⟨cs,h1,h2,h3⟩:=hl
  generalize hm:l.length=m at h1 hk
  cases h1
  have hk0:k=0:=by omega
  subst hk0
  have:l=[]:=List.length_eq_zero_iff.1 hm
  subst this
  exact⟨dV,rfl,hl0⟩
 ·obtain⟨cs,h1,h2,h3⟩:=hl
  generalize hm:l.length=m at h1 hk
  cases h1
  have hk0:k=0:=by omega
  subst hk0
  have:l=[]:=List.length_eq_zero_iff.1 hm
  subst this
  exact⟨.emp b,rfl,hl0⟩
 ·have hln:l.length=n:=by
   obtain⟨cs,h1,_,_⟩:=hl
   generalize hm:l.length=m at h1
   cases h1
   rfl
  by_cases hc0:c=0
  ·refine⟨.slc b o 0 (.ex 0), ?_, ?_⟩
   ·have hk0:k=0:=by omega
    subst hk0
    subst hc0
    simp[bB,bnd]
   ·have hk0:k=0:=by omega
    subst hk0
    exact Y7 hl (Nat.zero_le _)
  ·exact⟨_,H8 (by omega) hc0,Y7 hl hk⟩
theorem alR:O3 75 114 58 (av 36):=by
 intro M t B ps es s Q h1 h2 h3
 obtain⟨a0,a1,e,h⟩:=Zb h1 h2 h3
 cases e
 exact Fx h
theorem awg:Zq 58 (av 31):=by
 intro M v es s f Q h1 h2 h3
 obtain⟨a0,a1,a2,e,h⟩:=abQ h1 h2 h3
 cases e
 exact ac1 h
theorem before:Ta (av 120):=by
 intro M x y Q h1
 obtain⟨a0,a1,e,h⟩:=ZR (TN:=58) abg h1
 cases e
 exact SL h
theorem af0:JC 58 (av 92):=by
 intro M base v l x Q h1 h2 h3 h4
 obtain⟨a0,a1,e,h⟩:=Vw before h1 h2 h3 h4
 cases e
 exact OY h
theorem abT:EN 58 (av 66):=by
 intro M v l S Q h1 h2 h3 h4 h5
 obtain⟨a0,e,h⟩:=QF afM af0 h1 h2 h3 h4 h5
 cases e
 exact Q9 h
theorem Zr:JJ 75 114 9 (av 35):=by
 intro M t B ps es Q h1 h2 h3
 obtain⟨a0,e,h⟩:=Vp (TN:=58) h1 h2 h3
 cases e
 exact Em h
theorem ZV:Cv 9 (av 67):=by
 intro M v es Q h1 h2 h3
 obtain⟨a0,e,h⟩:=Oh h1 h2 h3
 cases e
 exact Np h
theorem al7:yf (av 68):=by
 intro M v w xs ys Q h1 h2 h3 h4
 obtain⟨a0,a1,e,h⟩:=YA h1 h2 h3 h4
 cases e
 exact Zi h
theorem alj:Ng 27 (av 70):=by
 intro M v l S Q h1 h2 h3 h4
 obtain⟨a0,e,h⟩:=XT arX h1 h2 h3 h4
 cases e
 exact Y0 h
theorem akV:Ni 5 (av 64):=by
 intro M v L s Q h1 h2 h3
 obtain⟨a0,a1,e,h⟩:=XY uint h1 h2 h3
 cases e
 exact XF h
theorem al1:OA 5 (av 75):=by
 intro M s Q h1 h2
 obtain⟨a0,e,h⟩:=Wn Ur h1 h2
 cases e
 exact Mi h
theorem Nh:zu 75 114 5 (av 22):=by
 intro M t B ps es Q h1 h2 h3 h4 h5
 obtain⟨a0,e,h⟩:=Vm (TN:=58) encode akV uint h1 h2 h3 h4 h5
 cases e
 exact He h
theorem ail:Kq 5 (av 71):=by
 intro M u v w es Q h1 h2 h3 h4 h5 h6 h7 h8
 obtain⟨a0,a1,e,h⟩:=Vx Vd al1 Ur h1 h2 h3 h4 h5 h6 h7 h8
 cases e
 exact Jj h
theorem azo:IsC 75 114 (av 23):=by
 intro M t B v l S ps es Q h1 h2 h3 h4 h5
 obtain⟨a0,a1,e,h⟩:=aaQ abT entries Zr ZV al7 seen encode alj Vd Nh ail alR awg h1 h2 h3 h4 h5
 cases e
 exact ZB h
end Go.Proofs.YtlhlnchhaminjaaGreat.iD
namespace Go.Proofs.YtlhlnchhaminjaaGreat
open Go Go.Ab
variable {a0 a1 a2 a3 a4 a5 a6 a7:AV} {M:RM} {Q:ak}
theorem RN (h:Go.Ab.Crw.Nt (av 50) (av 53) 5 (av 55) 75 (av 51) (av 52) 27 58 (av 56) (av 37) (av 45) (av 54) (av 22) (av 57) a0 M Q) : av 16 [a0] M Q:=bg (fn:=Tryz.f16) h
end Go.Proofs.YtlhlnchhaminjaaGreat
namespace Go.Proofs.YtlhlnchhaminjaaGreat.iD
open Go Go.Ab Go.Ab.aC Go.Ab.Crw Go.RowKit
theorem text:acz 127 (av 53):=by
 intro M r most S bs f Q h1 h2 hQ
 obtain⟨a0,a1,e,h⟩:=afN int h1 h2 hQ
 cases e
 exact Jf h
theorem DV:Y3 75 114 (av 16):=by
 intro M v bs Q h1 h2 h3 h4
 obtain⟨a0,e,h⟩:=acM (TD:=27) (TN:=58) (TB:=5) read text decode int ajI.ru err fw compare aq8 Nh equal h1 h2 h3 h4
 cases e
 exact RN h
end Go.Proofs.YtlhlnchhaminjaaGreat.iD
namespace Go.Proofs.YtlhlnchhaminjaaGreat
open Go Go.Ab Go.RowKit
def ext:Ext := { split:=[107],Lj:=[137],LG:=[] }
theorem Dr:I4 Tryz.prog ext where
 ng:=V6 (by kernel_rfl)
 Lj:=by
  intro f hf
  have:f=137:=by
   unfold ext at hf
   simp only[has] at hf
   split at hf
   ·rename_i h; exact(Nat.eq_of_beq_eq_true h).symm
   ·cases hf
  subst this
  exact⟨Tryz.f137,109,25,1,4,by kernel_rfl,by kernel_rfl,by kernel_rfl,by kernel_rfl,by kernel_rfl,by kernel_rfl⟩
 LG:=fun f hf=>by cases hf
theorem mixed:Tryz.prog.follows .mixedOrders=true:=by kernel_rfl
def Iv:World→Prop:=fun _=>True
def c0:AV:=.ptr 0 0
def c1:AV:=.sc (.slice none 0 0)
def c2:Option AV:=some c1
def c3:Tree AV:=.node .leaf c2 .leaf
def c4:Tree AV:=.node c3 c2 .leaf
def c5:Tree AV:=.node c4 c2 c3
def c6:Tree AV:=.node c3 c2 c3
def c7:Tree AV:=.node c5 c2 c6
def c8:Tree AV:=.node c6 c2 c6
def c9:Tree AV:=.node c7 c2 c8
def c10:AV:=.sc (.int .u64 0)
def c11:Option AV:=some c10
def c12:Tree AV:=.node .leaf c11 .leaf
def c13:Tree AV:=.node c12 c11 c12
def c14:Tree AV:=.node c13 c11 c13
def c15:Tree AV:=.node c14 c11 c14
def c16:dw:=.row 32 (.node c9 c11 c15) [] false 114 0
def c17:AV:=.ptr 4 0
def c18:AV:=.ptr 28 0
def c19:AV:=.ptr 1 0
def c20:AV:=.sc (.string ⟨⟨ [99] ⟩⟩)
def c21:AV:=.sc (.string ⟨⟨ [102,110] ⟩⟩)
def KW:Option AV:=some c21
def c23:Tree AV:=.node .leaf KW .leaf
def c24:AV:=.sc (.int .u64 1)
def gX:Option AV:=some c24
def c26:Tree AV:=.node c23 gX .leaf
def kU:AV:=.sc (.int .i64 0)
def c28:Option AV:=some kU
def c29:AV:=.sc (.string ⟨⟨ [65,110,110] ⟩⟩)
def c30:Option AV:=some c29
def c31:Tree AV:=.node .leaf c30 .leaf
def c32:Option AV:=some c20
def wM:dw:=.row 5 (.node c26 c28 (.node c31 c32 .leaf)) [] true 58 0
def c34:Tree AV:=.node .leaf gX .leaf
def mQ:dw:=.row 1 c34 [] true 25 0
def Ed:Option AV:=some (.emp 10)
def c37:AV:=.slc 14 0 1 (.op 5)
def c38:AV:=.slc 21 0 1 (.op 5)
def c39:AV:=.ptr 5 0
def c40:dw:=.row 1 c23 [] false 9 0
def c41:AV:=.sc (.int .i64 (-1))
def xX:AV:=.tup []
def PL:AV:=.slc 26 0 1 (.op 2)
def CJ:AV:=.agg [kU,c24]
def lm:AV:=.sc (.bool true)
def c46:AV:=.sc (.int .i64 1)
def FV:AV:=.agg [c46,c24]
def UL:AV:=.sc (.string ⟨⟨ [65,110,110,97] ⟩⟩)
def c52:AV:=.ptr 4 2
def c53:AV:=.ptr 9 0
def FM:dw:=.row 32 (.node c9 gX c15) [] false 114 0
def c55:AV:=.ptr 28 2
def uR:AV:=.sc (.bool false)
def c57:AV:=.slc 12 0 1 (.op 5)
def c58:AV:=.agg [kU,c24,c20,c21,c29]
def c59:AV:=.ptr 18 0
def wz:AV:=.ptr 65 0
def c61:AV:=.ptr 65 2
def xW:Option AV:=some (.emp 104)
def c64:AV:=.slc 62 0 1 (.op 5)
def pU:Tree AV:=.node c14 gX c14
def c66:AV:=.slc 109 0 2 (.op 5)
def UR:Tree AV:=.node .leaf c32 .leaf
def Mo:Option AV:=some UL
def c69:Tree AV:=.node .leaf Mo .leaf
def c70:Option AV:=some c46
def c71:dw:=.row 10 (.node (.node (.node UR KW .leaf) gX (.node c69 c70 .leaf)) c28 (.node (.node c23 c30 .leaf) c32 c34)) [] true 58 0
def c72:AV:=.slc 111 0 2 (.op 5)
def Qv:AV:=.ptr 63 0
def sj:AV:=.sc (.string ⟨⟨ [] ⟩⟩)
def c75:Option AV:=some sj
def c76:Tree AV:=.node .leaf c75 .leaf
def QW:AV:=.slc 111 0 1 (.op 5)
def c78:AV:=.slc 118 0 1 (.op 5)
def qB:dw:=.row 5 (.node c26 c70 (.node c69 c32 .leaf)) [] true 58 0
def c80:AV:=.agg [c46,c24,c20,c21,UL]
def c81:AV:=.ptr 115 0
def c82:dw:=.row 1 c76 [] false 9 0
def c83:AV:=.slc 123 0 1 (.op 2)
def Dy:dw:=.row 2 (.node c34 c70 .leaf) [] true 27 0
def c85:AV:=.sc (.int .u64 2)
def c86:AV:=.agg [kU,c85]
def c87:AV:=.slc 127 0 1 (.op 1)
def c88:AV:=.sc (.int .u8 0)
def wy:Option AV:=some c88
def I5:Tree AV:=.node .leaf wy .leaf
def c91:dw:=.row 1 I5 [] true 5 0
def c92:AV:=.slc 131 0 2 (.op 1)
def c93:Option AV:=some (.sc (.int .u8 2))
def c94:Tree AV:=.node .leaf c93 .leaf
def c95:dw:=.row 2 (.node c94 wy .leaf) [] true 5 0
def c96:AV:=.slc 135 0 3 (.op 1)
def c97:dw:=.row 3 (.node c94 wy c94) [] true 5 0
def c98:AV:=.slc 140 0 5 (.op 1)
def DU:Option AV:=some (.sc (.int .u8 1))
def uE:Tree AV:=.node .leaf DU .leaf
def aAj:Tree AV:=.node uE c93 .leaf
def aiW:Option AV:=some (.sc (.int .u8 99))
def ahX:Tree AV:=.node .leaf aiW .leaf
def auw:Tree AV:=.node ahX c93 .leaf
def c105:dw:=.row 5 (.node aAj wy auw) [] true 5 0
def ahx:AV:=.slc 144 0 6 (.op 1)
def c107:Tree AV:=.node uE c93 I5
def adD:dw:=.row 6 (.node c107 wy auw) [] true 5 0
def c109:AV:=.slc 148 0 7 (.op 1)
def an7:Tree AV:=.node ahX c93 I5
def aia:dw:=.row 7 (.node c107 wy an7) [] true 5 0
def azl:AV:=.slc 152 0 8 (.op 1)
def K7:Tree AV:=.node uE DU .leaf
def auQ:Tree AV:=.node K7 c93 I5
def auz:dw:=.row 8 (.node auQ wy an7) [] true 5 0
def c116:AV:=.slc 157 0 9 (.op 1)
def c117:Tree AV:=.node (.node uE aiW .leaf) c93 I5
def asV:dw:=.row 9 (.node auQ wy c117) [] true 5 0
def c119:AV:=.slc 161 0 10 (.op 1)
def aio:Tree AV:=.node uE wy .leaf
def Za:dw:=.row 10 (.node (.node K7 c93 aio) wy c117) [] true 5 0
def aAG:AV:=.slc 164 0 10 (.op 1)
def aAz:AV:=.slc 192 0 1 (.op 1)
def c124:dw:=.row 1 c94 [] true 5 0
def ayA:AV:=.slc 197 0 2 (.op 1)
def TZ:dw:=.row 2 (.node I5 c93 .leaf) [] true 5 0
def c127:AV:=.slc 201 0 3 (.op 1)
def RL:dw:=.row 3 (.node I5 c93 uE) [] true 5 0
def ayt:AV:=.slc 205 0 4 (.op 1)
def c130:Tree AV:=.node I5 wy .leaf
def c131:dw:=.row 4 (.node c130 c93 uE) [] true 5 0
def ayS:AV:=.slc 210 0 5 (.op 1)
def Ue:dw:=.row 5 (.node c130 c93 K7) [] true 5 0
def aAK:AV:=.slc 214 0 6 (.op 1)
def ain:Tree AV:=.node I5 wy uE
def S9:dw:=.row 6 (.node ain c93 K7) [] true 5 0
def apf:AV:=.slc 221 0 8 (.op 1)
def c138:Tree AV:=.node I5 DU .leaf
def c139:Tree AV:=.node c138 c93 uE
def Nw:Option AV:=some (.sc (.int .u8 7))
def c141:dw:=.row 8 (.node c139 Nw ain) [] true 5 0
def ayD:AV:=.slc 225 0 9 (.op 1)
def c143:Tree AV:=.node aio wy uE
def ac7:dw:=.row 9 (.node c139 Nw c143) [] true 5 0
def c145:AV:=.slc 230 0 10 (.op 1)
def c146:Tree AV:=.node c138 c93 K7
def abv:dw:=.row 10 (.node c146 Nw c143) [] true 5 0
def c148:AV:=.slc 234 0 11 (.op 1)
def ayr:Tree AV:=.node aio wy K7
def TG:dw:=.row 11 (.node c146 Nw ayr) [] true 5 0
def aiP:AV:=.slc 239 0 13 (.op 1)
def c152:Tree AV:=.node I5 DU uE
def aAQ:Tree AV:=.node c152 c93 K7
def c154:Tree AV:=.node uE wy ahX
def ayJ:Tree AV:=.node c154 wy K7
def c156:dw:=.row 13 (.node aAQ Nw ayJ) [] true 5 0
def c157:AV:=.slc 244 0 16 (.op 1)
def as9:Tree AV:=.node .leaf (some (.sc (.int .u8 110))) .leaf
def c159:Tree AV:=.node as9 wy .leaf
def c160:Tree AV:=.node uE DU c94
def azq:Tree AV:=.node (.node c159 DU uE) c93 c160
def c162:Tree AV:=.node .leaf (some (.sc (.int .u8 102))) .leaf
def ayf:Tree AV:=.node uE DU c162
def c164:dw:=.row 16 (.node azq Nw (.node c154 wy ayf)) [] true 5 0
def WY:AV:=.slc 249 0 21 (.op 1)
def ata:Tree AV:=.node as9 DU .leaf
def c167:Tree AV:=.node (.node .leaf (some (.sc (.int .u8 4))) .leaf) DU .leaf
def c168:dw:=.row 21 (.node (.node (.node c159 DU ata) c93 (.node (.node (.node .leaf (some (.sc (.int .u8 65))) .leaf) DU .leaf) DU c94)) Nw (.node (.node c167 wy (.node (.node .leaf (some (.sc (.int .u8 97))) .leaf) aiW .leaf)) wy (.node ata DU c162))) [] true 5 0
def azM:AV:=.slc 251 0 21 (.op 1)
def agV:AV:=.slc 253 0 7 (.op 1)
def c171:dw:=.row 7 (.node ain c93 (.node uE DU I5)) [] true 5 0
def ax0:AV:=.slc 255 0 7 (.op 1)
def c173:AV:=.ptr 165 0
def ac2:Tree AV:=.node .leaf (some uR) .leaf
def aqy:AV:=.ptr 252 0
def azu:AV:=.ptr 256 0
def amV:Tree AV:=.node .leaf c70 .leaf
def c182:Tree AV:=.node c34 c2 .leaf
def c183:AV:=.ptr 257 0
def iw:dw:=.row 32 (.node c9 gX pU) [] false 114 0
def apM:dw:=.row 6 (.node (.node amV gX c3) c28 c182) [] true 133 0
def ayu:AV:=.slc 279 0 1 (.op 1)
def azt:AV:=.slc 284 0 2 (.op 1)
def azY:AV:=.slc 288 0 3 (.op 1)
def az8:AV:=.slc 292 0 4 (.op 1)
def azD:AV:=.slc 297 0 5 (.op 1)
def aAr:AV:=.slc 301 0 6 (.op 1)
def azN:AV:=.slc 333 0 1 (.op 1)
def c193:AV:=.slc 338 0 2 (.op 1)
def c194:AV:=.slc 342 0 3 (.op 1)
def ay6:AV:=.slc 346 0 4 (.op 1)
def c196:AV:=.slc 351 0 5 (.op 1)
def axW:AV:=.slc 355 0 6 (.op 1)
def c198:AV:=.slc 362 0 8 (.op 1)
def ayk:AV:=.slc 366 0 9 (.op 1)
def ayx:AV:=.slc 371 0 10 (.op 1)
def c201:AV:=.slc 375 0 11 (.op 1)
def ajp:AV:=.slc 380 0 13 (.op 1)
def c203:AV:=.slc 385 0 16 (.op 1)
def auL:AV:=.slc 305 0 7 (.op 1)
def agI:AV:=.slc 390 0 21 (.op 1)
def azJ:AV:=.ptr 257 2
def c208:AV:=.ptr 391 0
def EH:AV:=.ptr 429 0
def c210:AV:=.ptr 429 2
def O6:AV:=.slc 311 0 1 (.op 5)
def c212:AV:=.slc 426 0 1 (.op 5)
def c213:Option AV:=some c85
def Kc:Option AV:=some (.emp 468)
def SV:AV:=.ptr 480 0
def amC:AV:=.slc 471 0 1 (.op 5)
def atT:AV:=.slc 473 0 1 (.op 5)
def c218:AV:=.slc 475 0 1 (.op 5)
def YY:AV:=.slc 471 0 0 (.op 5)
def apJ:AV:=.slc 476 0 0 (.ex 0)
def Oo:AV:=.sc (.int .i64 2)
def c222:AV:=.agg [kU,c85,Oo,c20,sj,sj,(.slc 168 0 1 (.op 2))]
def ZA:AV:=.agg [kU,c85,Oo,c20,sj,sj,c83]
def El:AV:=.ptr 306 0
def CF:Option AV:=some c183
def c226:AV:=.agg [kU,c10,kU,sj,sj,sj,c1]
def c228:Tree AV:=.node .leaf (some lm) .leaf
def c229:AV:=.ptr 8 0
def aqE:AV:=.slc 7 0 0 (.ex 0)
def ax1:Option AV:=some aqE
def c232:AV:=.sc (.int .i64 14)
def c233:AV:=.agg [kU,c24,c46,c20,c21,c29,c1]
def c234:AV:=.agg [c46,c24,c46,c20,c21,UL,PL]
def aAD:AV:=.slc 218 0 7 (.op 1)
def aAi:AV:=.sc (.int .i64 4)
def ay7:AV:=.slc 359 0 7 (.op 1)
def aqS:AV:=.tup [c233,kU]
def anF:AV:=.tup [c234,kU]
def amu:AV:=.tup [ZA,kU]
def am1:AV:=.ptr 3 0
def aja:AV:=.ptr 64 0
def aqI:AV:=.ptr 428 0
def aql:AV:=.sc (.string ⟨⟨ [2,0,1,0,1,1,0] ⟩⟩)
def apQ:AV:=.tup [(.sc (.pointer none)),c232]
def ah0:AV:=.tup [lm,kU]
def B1:Table:=[(38,[{args:=[],ans:=.rows 0 c0 [(0,c16)] 1},{args:=[],ans:=.rows 4 c17 [(4,c16)] 5},{args:=[],ans:=.rows 28 c18 [(28,c16)] 29}]),(36,[{args:=[c19,c20],fp:=[(0,c16),(1,(.row 2 (.node c3 (some c0) .leaf) [] false 75 0))],nx:=6,ans:=.val c1},{args:=[c19,c20],fp:=[(14,wM),(10,mQ),(4,(.row 32 (.node (.node c7 Ed c8) gX c15) [] false 114 0)),(1,(.row 2 (.node (.node .leaf (some c37) .leaf) (some c17) .leaf) [] false 75 0))],ans:=.rows 19 c38 [(21,wM)] 22}]),(79,[{args:=[c1,(.fn (.func 80) [] [])],nx:=7,ans:=.val xX},{args:=[PL,(.fn (.func 80) [] [])],fp:=[(26,(.row 2 (.node c34 c28 .leaf) [] true 27 0))],nx:=27,ans:=.val xX}]),(58,[{args:=[CJ],nx:=8,ans:=.val lm},{args:=[FV],nx:=28,ans:=.val lm}]),(59,[{args:=[c20,c21,c29],nx:=8,ans:=.val lm},{args:=[c20,c21,UL],nx:=28,ans:=.val lm}]),(97,[{args:=[c1],nx:=7,ans:=.val xX}]),(98,[{args:=[c1],nx:=7,ans:=.val c1}]),(77,[{args:=[c0,c24],fp:=[(0,c16)],nx:=12,ans:=.val uR}]),(43,[{args:=[c1],nx:=12,ans:=.val c1},{args:=[c57],fp:=[(12,wM)],ans:=.rows 13 c37 [(14,wM)] 15}]),(82,[{args:=[c57,kU,c46,c46,(.fn (.func 45) [] [])],fp:=[(12,wM)],nx:=13,ans:=.val xX}]),(87,[{args:=[c1,CJ],nx:=17,ans:=.val c41}]),(33,[{args:=[c17,c0],fp:=[(0,c16),(10,mQ),(4,(.row 32 (.node (.node c7 Ed c8) gX c15) [] false 114 0))],nx:=15,ans:=.val uR}]),(78,[{args:=[c58,c59],fp:=[(18,c40)],nx:=22,ans:=.val uR}])]
theorem b1:lc Tryz.prog ext [] 100000 200 B1=true:=by kernel_rfl
def T1:Table:=B1++[]
theorem t1:jR Tryz.prog Iv T1:=jR.nil.add Dr mixed b1
def B2:Table:=[ (43,[{args:=[c37],fp:=[(14,wM)],ans:=.rows 61 c64 [(62,wM)] 63}]),(38,[{args:=[],ans:=.rows 65 wz [(65,c16)] 66}]),(81,[{args:=[wz,c24],fp:=[(104,mQ),(65,(.row 32 (.node (.node (.node c5 xW c6) c2 c8) gX pU) [] false 114 0))],nx:=107,ans:=.val lm}]),(77,[{args:=[c55,c24],fp:=[(28,FM)],nx:=107,ans:=.val uR}])]
theorem b2:lc Tryz.prog ext T1 100000 200 B2=true:=by kernel_rfl
def T2:Table:=B2++T1
theorem t2:jR Tryz.prog Iv T2:=t1.add Dr mixed b2
def B3:Table:=[(43,[{args:=[c64],fp:=[(62,wM)],ans:=.rows 107 (.slc 108 0 1 (.op 5)) [(108,wM)] 109},{args:=[c66],fp:=[(109,c71)],ans:=.rows 110 c72 [(111,c71)] 112}]),(85,[{args:=[c20,c20],nx:=112,ans:=.val kU},{args:=[c21,c21],nx:=112,ans:=.val kU}]),(80,[{args:=[FV,CJ],nx:=112,ans:=.val c46}]),(87,[{args:=[PL,CJ],fp:=[(26,(.row 2 (.node c34 c28 .leaf) [] true 27 0))],nx:=114,ans:=.val kU},{args:=[PL,FV],fp:=[(26,(.row 2 (.node c34 c28 .leaf) [] true 27 0))],nx:=115,ans:=.val c41}]),(33,[{args:=[wz,c18],fp:=[(28,FM),(104,mQ),(65,(.row 32 (.node (.node (.node c5 xW c6) c2 c8) gX pU) [] false 114 0))],nx:=113,ans:=.val uR}]),(36,[{args:=[Qv,c20],fp:=[(111,(.row 10 (.node (.node (.node c76 KW .leaf) gX (.node c76 c28 .leaf)) c70 (.node (.node c76 Mo .leaf) c32 c12)) [] true 58 0)),(104,mQ),(65,(.row 32 (.node (.node (.node c5 xW c6) c2 c8) gX pU) [] false 114 0)),(63,(.row 2 (.node (.node .leaf (some QW) .leaf) (some wz) .leaf) [] false 75 0))],ans:=.rows 116 c78 [(118,qB)] 119}]),(78,[{args:=[c80,c81],fp:=[(115,c82)],nx:=119,ans:=.val uR}]),(79,[{args:=[c83,(.fn (.func 80) [] [])],fp:=[(123,Dy)],nx:=124,ans:=.val xX}]),(58,[{args:=[c86],nx:=125,ans:=.val lm}]),(59,[{args:=[c20,sj,sj],nx:=125,ans:=.val lm}]),(88,[{args:=[c1],nx:=126,ans:=.val c1},{args:=[c87],fp:=[(127,c91)],ans:=.rows 128 (.slc 129 0 1 (.op 1)) [(129,c91)] 130},{args:=[c92],fp:=[(131,c95)],ans:=.rows 132 (.slc 133 0 2 (.op 1)) [(133,c95)] 134},{args:=[c96],fp:=[(135,c97)],ans:=.rows 136 (.slc 137 0 3 (.op 1)) [(137,c97)] 138},{args:=[c98],fp:=[(140,c105)],ans:=.rows 141 (.slc 142 0 5 (.op 1)) [(142,c105)] 143},{args:=[ahx],fp:=[(144,adD)],ans:=.rows 145 (.slc 146 0 6 (.op 1)) [(146,adD)] 147},{args:=[c109],fp:=[(148,aia)],ans:=.rows 149 (.slc 150 0 7 (.op 1)) [(150,aia)] 151},{args:=[azl],fp:=[(152,auz)],ans:=.rows 154 (.slc 155 0 8 (.op 1)) [(155,auz)] 156},{args:=[c116],fp:=[(157,asV)],ans:=.rows 158 (.slc 159 0 9 (.op 1)) [(159,asV)] 160},{args:=[c119],fp:=[(161,Za)],ans:=.rows 163 aAG [(164,Za)] 165},{args:=[aAz],fp:=[(192,c124)],ans:=.rows 194 (.slc 195 0 1 (.op 1)) [(195,c124)] 196},{args:=[ayA],fp:=[(197,TZ)],ans:=.rows 198 (.slc 199 0 2 (.op 1)) [(199,TZ)] 200},{args:=[c127],fp:=[(201,RL)],ans:=.rows 202 (.slc 203 0 3 (.op 1)) [(203,RL)] 204},{args:=[ayt],fp:=[(205,c131)],ans:=.rows 207 (.slc 208 0 4 (.op 1)) [(208,c131)] 209},{args:=[ayS],fp:=[(210,Ue)],ans:=.rows 211 (.slc 212 0 5 (.op 1)) [(212,Ue)] 213},{args:=[aAK],fp:=[(214,S9)],ans:=.rows 215 (.slc 216 0 6 (.op 1)) [(216,S9)] 217},{args:=[apf],fp:=[(221,c141)],ans:=.rows 222 (.slc 223 0 8 (.op 1)) [(223,c141)] 224},{args:=[ayD],fp:=[(225,ac7)],ans:=.rows 227 (.slc 228 0 9 (.op 1)) [(228,ac7)] 229},{args:=[c145],fp:=[(230,abv)],ans:=.rows 231 (.slc 232 0 10 (.op 1)) [(232,abv)] 233},{args:=[c148],fp:=[(234,TG)],ans:=.rows 235 (.slc 236 0 11 (.op 1)) [(236,TG)] 237},{args:=[aiP],fp:=[(239,c156)],ans:=.rows 240 (.slc 241 0 13 (.op 1)) [(241,c156)] 242},{args:=[c157],fp:=[(244,c164)],ans:=.rows 245 (.slc 246 0 16 (.op 1)) [(246,c164)] 247},{args:=[WY],fp:=[(249,c168)],ans:=.rows 250 azM [(251,c168)] 252},{args:=[agV],fp:=[(253,c171)],ans:=.rows 254 ax0 [(255,c171)] 256}]),(54,[{args:=[c173],fp:=[(164,Za),(165,(.row 2 (.node ac2 (some (.emp 164)) .leaf) [] false 127 0))],nx:=169,ans:=.val kU},{args:=[azu],fp:=[(255,c171),(256,(.row 2 (.node ac2 (some (.emp 255)) .leaf) [] false 127 0))],nx:=258,ans:=.val kU}]),(91,[{args:=[wz],fp:=[(104,mQ),(65,(.row 32 (.node (.node (.node c5 xW c6) c2 c8) gX pU) [] false 114 0))],ans:=.rows 170 (.slc 176 0 2 (.op 3)) [(174,(.row 0 .leaf [c10] false 25 0)),(176,(.row 6 (.node (.node amV gX (.node .leaf (some (.slc 174 0 0 (.ex 0))) .leaf)) c28 c182) [] true 133 0))] 191},{args:=[c183],fp:=[(257,iw)],ans:=.rows 258 (.slc 263 0 2 (.op 3)) [(263,apM)] 278}]),(38,[{args:=[],ans:=.rows 257 c183 [(257,c16)] 258}]),(90,[{args:=[c183],fp:=[(257,iw)],nx:=258,ans:=.val lm}])]
theorem b3:lc Tryz.prog ext T2 100000 200 B3=true:=by kernel_rfl
def T3:Table:=B3++T2
theorem t3:jR Tryz.prog Iv T3:=t2.add Dr mixed b3
def B4:Table:=[(88,[{args:=[ayu],fp:=[(279,c124)],ans:=.rows 281 (.slc 282 0 1 (.op 1)) [(282,c124)] 283},{args:=[azt],fp:=[(284,TZ)],ans:=.rows 285 (.slc 286 0 2 (.op 1)) [(286,TZ)] 287},{args:=[azY],fp:=[(288,RL)],ans:=.rows 289 (.slc 290 0 3 (.op 1)) [(290,RL)] 291},{args:=[az8],fp:=[(292,c131)],ans:=.rows 294 (.slc 295 0 4 (.op 1)) [(295,c131)] 296},{args:=[azD],fp:=[(297,Ue)],ans:=.rows 298 (.slc 299 0 5 (.op 1)) [(299,Ue)] 300},{args:=[aAr],fp:=[(301,S9)],ans:=.rows 302 (.slc 303 0 6 (.op 1)) [(303,S9)] 304},{args:=[azN],fp:=[(333,c124)],ans:=.rows 335 (.slc 336 0 1 (.op 1)) [(336,c124)] 337},{args:=[c193],fp:=[(338,TZ)],ans:=.rows 339 (.slc 340 0 2 (.op 1)) [(340,TZ)] 341},{args:=[c194],fp:=[(342,RL)],ans:=.rows 343 (.slc 344 0 3 (.op 1)) [(344,RL)] 345},{args:=[ay6],fp:=[(346,c131)],ans:=.rows 348 (.slc 349 0 4 (.op 1)) [(349,c131)] 350},{args:=[c196],fp:=[(351,Ue)],ans:=.rows 352 (.slc 353 0 5 (.op 1)) [(353,Ue)] 354},{args:=[axW],fp:=[(355,S9)],ans:=.rows 356 (.slc 357 0 6 (.op 1)) [(357,S9)] 358},{args:=[c198],fp:=[(362,c141)],ans:=.rows 363 (.slc 364 0 8 (.op 1)) [(364,c141)] 365},{args:=[ayk],fp:=[(366,ac7)],ans:=.rows 368 (.slc 369 0 9 (.op 1)) [(369,ac7)] 370},{args:=[ayx],fp:=[(371,abv)],ans:=.rows 372 (.slc 373 0 10 (.op 1)) [(373,abv)] 374},{args:=[c201],fp:=[(375,TG)],ans:=.rows 376 (.slc 377 0 11 (.op 1)) [(377,TG)] 378},{args:=[ajp],fp:=[(380,c156)],ans:=.rows 381 (.slc 382 0 13 (.op 1)) [(382,c156)] 383},{args:=[c203],fp:=[(385,c164)],ans:=.rows 386 (.slc 387 0 16 (.op 1)) [(387,c164)] 388}]),(57,[{args:=[auL,agV],fp:=[(253,c171),(305,c171)],nx:=306,ans:=.val lm},{args:=[agI,WY],fp:=[(249,c168),(390,c168)],nx:=391,ans:=.val lm}]),(56,[{args:=[aqy],fp:=[(251,c168),(252,(.row 2 (.node ac2 (some (.emp 251)) .leaf) [] false 127 0))],nx:=310,ans:=.val kU}]),(77,[{args:=[azJ,c24],fp:=[(257,iw)],nx:=311,ans:=.val lm}]),(54,[{args:=[aqy],fp:=[(251,c168),(252,(.row 2 (.node ac2 (some (.emp 251)) .leaf) [] false 127 0))],nx:=312,ans:=.val kU}]),(91,[{args:=[c183],fp:=[(257,iw)],ans:=.rows 312 (.slc 317 0 2 (.op 3)) [(317,apM)] 332}]),(38,[{args:=[],ans:=.rows 391 c208 [(391,c16)] 392}])]
theorem b4:lc Tryz.prog ext T3 100000 200 B4=true:=by kernel_rfl
def T4:Table:=B4++T3
theorem t4:jR Tryz.prog Iv T4:=t3.add Dr mixed b4
def B5:Table:=[ (49,[{args:=[O6,QW],fp:=[(111,(.row 10 (.node (.node (.node c76 KW .leaf) gX (.node c76 c28 .leaf)) c70 (.node (.node c76 Mo .leaf) c32 c12)) [] true 58 0)),(311,qB)],nx:=424,ans:=.val lm}]),(33,[{args:=[c183,wz],fp:=[(104,mQ),(65,(.row 32 (.node (.node (.node c5 xW c6) c2 c8) gX pU) [] false 114 0)),(257,iw)],nx:=424,ans:=.val lm},{args:=[wz,c183],fp:=[(257,iw),(104,mQ),(65,(.row 32 (.node (.node (.node c5 xW c6) c2 c8) gX pU) [] false 114 0))],nx:=424,ans:=.val lm}]),(80,[{args:=[CJ,FV],nx:=429,ans:=.val c41}]),(77,[{args:=[c52,c24],fp:=[(10,mQ),(4,(.row 32 (.node (.node c7 Ed c8) gX c15) [] false 114 0))],nx:=426,ans:=.val uR},{args:=[c183,c24],fp:=[(257,iw)],nx:=429,ans:=.val lm}]),(82,[{args:=[c212,kU,c46,c46,(.fn (.func 45) [] [])],fp:=[(426,qB)],nx:=428,ans:=.val xX}]),(38,[{args:=[],ans:=.rows 429 EH [(429,c16)] 430}])]
theorem b5:lc Tryz.prog ext T4 100000 200 B5=true:=by kernel_rfl
def T5:Table:=B5++T4
theorem t5:jR Tryz.prog Iv T5:=t4.add Dr mixed b5
def B6:Table:=[ (81,[{args:=[c210,c24],fp:=[(468,(.row 1 (.node .leaf c213 .leaf) [] true 25 0)),(429,(.row 32 (.node (.node c7 Kc c8) c213 pU) [] false 114 0))],nx:=471,ans:=.val lm}]),(43,[{args:=[QW],fp:=[(111,(.row 10 (.node (.node (.node c76 KW .leaf) gX (.node c76 c28 .leaf)) c70 (.node (.node c76 Mo .leaf) c32 c12)) [] true 58 0))],ans:=.rows 470 amC [(471,qB)] 472},{args:=[c212],fp:=[(426,qB)],ans:=.rows 472 atT [(473,qB)] 474},{args:=[c212],fp:=[(426,qB)],ans:=.rows 474 c218 [(475,qB)] 476},{args:=[YY],fp:=[(471,(.row 5 (.node (.node c76 c11 .leaf) c28 (.node c76 c75 .leaf)) [] true 58 0))],ans:=.rows 476 apJ [(476,(.row 0 .leaf [kU,c10,sj,sj,sj] false 58 0))] 477}]),(87,[{args:=[c83,FV],fp:=[(123,Dy)],nx:=474,ans:=.val kU}]),(33,[{args:=[EH,wz],fp:=[(104,mQ),(65,(.row 32 (.node (.node (.node c5 xW c6) c2 c8) gX pU) [] false 114 0)),(468,(.row 1 (.node .leaf c213 .leaf) [] true 25 0)),(429,(.row 32 (.node (.node c7 Kc c8) c213 pU) [] false 114 0))],nx:=472,ans:=.val uR}]),(34,[{args:=[c222,ZA],fp:=[(123,Dy),(168,Dy)],nx:=472,ans:=.val lm}]),(35,[{args:=[Qv],fp:=[(471,(.row 5 (.node (.node c76 c11 .leaf) c28 (.node c76 c75 .leaf)) [] true 58 0)),(468,(.row 1 (.node .leaf c213 .leaf) [] true 25 0)),(429,(.row 32 (.node (.node c7 Kc c8) c213 pU) [] false 114 0)),(63,(.row 2 (.node (.node .leaf (some YY) .leaf) (some EH) .leaf) [] false 75 0))],nx:=477,ans:=.val c1}]),(36,[{args:=[El,c20],fp:=[(426,qB),(257,iw),(306,(.row 2 (.node (.node .leaf (some c212) .leaf) CF .leaf) [] false 75 0))],ans:=.rows 477 (.slc 479 0 1 (.op 5)) [(479,qB)] 480}]),(38,[{args:=[],ans:=.rows 480 SV [(480,c16)] 481},{args:=[],ans:=.rows 9 c53 [(9,c16)] 10}]),(77,[{args:=[SV,c24],fp:=[(480,iw)],nx:=514,ans:=.val lm}]),(13,[{args:=[c19,CJ,c20,sj,(.sc (.string ⟨⟨ [120] ⟩⟩))],fp:=[(0,c16),(1,(.row 2 (.node c3 (some c0) .leaf) [] false 75 0))],nx:=3,ans:=.val (.tup [c226,c46])}]),(58,[{args:=[(.agg [kU,c10])],nx:=6,ans:=.val uR}]),(54,[{args:=[c39],fp:=[(5,(.row 2 (.node c228 c2 .leaf) [] false 127 0))],nx:=7,ans:=.val c232},{args:=[c229],fp:=[(7,(.row 0 .leaf [c88] false 5 0)),(8,(.row 2 (.node c228 ax1 .leaf) [] false 127 0))],nx:=10,ans:=.val c232}]),(88,[{args:=[(.slc 6 0 0 (.op 1))],fp:=[(6,(.row 0 .leaf [] true 5 0))],ans:=.rows 7 aqE [(7,(.row 0 .leaf [c88] false 5 0))] 8}])]
theorem b6:lc Tryz.prog ext T5 100000 200 B6=true:=by kernel_rfl
def T6:Table:=B6++T5
theorem t6:jR Tryz.prog Iv T6:=t5.add Dr mixed b6
def B7:Table:=[(11,[{args:=[],ans:=.rows 0 c19 [(0,c16),(1,(.row 2 (.node c3 (some c0) .leaf) [] false 75 0))] 2}]),(46,[{args:=[c1,(.fn (.func 78) [] [c39])],fp:=[(5,c40)],nx:=6,ans:=.val c1}]),(17,[{args:=[c233],nx:=7,ans:=.val lm},{args:=[c234],fp:=[(26,(.row 2 (.node c34 c28 .leaf) [] true 27 0))],nx:=27,ans:=.val lm},{args:=[ZA],fp:=[(123,Dy)],nx:=124,ans:=.val lm},{args:=[c222],fp:=[(168,Dy)],nx:=169,ans:=.val lm}]),(73,[{args:=[c17,c0],fp:=[(0,c16),(4,c16)],nx:=5,ans:=.val xX},{args:=[c18,c17],fp:=[(10,mQ),(4,(.row 32 (.node (.node c7 Ed c8) gX c15) [] false 114 0)),(28,c16)],ans:=.rows 29 xX [(28,FM)] 61},{args:=[wz,c18],fp:=[(28,FM),(65,c16)],ans:=.rows 66 xX [(65,FM)] 98}]),(81,[{args:=[c17,c24],fp:=[(4,c16)],ans:=.rows 8 lm [(10,mQ),(4,(.row 32 (.node (.node c7 Ed c8) gX c15) [] false 114 0))] 11},{args:=[c61,c24],fp:=[(65,FM)],ans:=.rows 102 lm [(104,mQ),(65,(.row 32 (.node (.node (.node c5 xW c6) c2 c8) gX pU) [] false 114 0))] 105}]),(37,[{args:=[c0,CJ],fp:=[(0,c16)],nx:=11,ans:=.val uR},{args:=[c18,FV],fp:=[(28,FM)],nx:=106,ans:=.val uR}]),(44,[{args:=[c57,(.fn (.func 45) [] [])],fp:=[(12,wM)],nx:=13,ans:=.val xX}]),(48,[{args:=[c1,CJ],nx:=16,ans:=.val uR},{args:=[PL,CJ],fp:=[(26,(.row 2 (.node c34 c28 .leaf) [] true 27 0))],nx:=113,ans:=.val lm},{args:=[PL,FV],fp:=[(26,(.row 2 (.node c34 c28 .leaf) [] true 27 0))],nx:=114,ans:=.val uR}]),(42,[{args:=[wz,CJ],fp:=[(104,mQ),(65,(.row 32 (.node (.node (.node c5 xW c6) c2 c8) gX pU) [] false 114 0))],nx:=106,ans:=.val kU}]),(45,[{args:=[c80,c58],nx:=110,ans:=.val c46}])]
theorem b7:lc Tryz.prog ext T6 100000 200 B7=true:=by kernel_rfl
def T7:Table:=B7++T6
theorem t7:jR Tryz.prog Iv T7:=t6.add Dr mixed b7
def B8:Table:=[ (37,[{args:=[c183,FV],fp:=[(257,iw)],nx:=310,ans:=.val lm},{args:=[c17,FV],fp:=[(10,mQ),(4,(.row 32 (.node (.node c7 Ed c8) gX c15) [] false 114 0))],nx:=425,ans:=.val uR},{args:=[c183,CJ],fp:=[(257,iw)],nx:=428,ans:=.val lm},{args:=[SV,CJ],fp:=[(480,iw)],nx:=513,ans:=.val lm}]),(73,[{args:=[c208,c183],fp:=[(257,iw),(391,c16)],ans:=.rows 392 xX [(391,iw)] 424},{args:=[c183,c17],fp:=[(10,mQ),(4,(.row 32 (.node (.node c7 Ed c8) gX c15) [] false 114 0)),(257,iw)],nx:=428,ans:=.val xX},{args:=[EH,wz],fp:=[(104,mQ),(65,(.row 32 (.node (.node (.node c5 xW c6) c2 c8) gX pU) [] false 114 0)),(429,c16)],ans:=.rows 430 xX [(429,iw)] 462},{args:=[SV,c183],fp:=[(257,iw),(480,c16)],ans:=.rows 481 xX [(480,iw)] 513}]),(24,[{args:=[El,Qv],fp:=[(111,(.row 10 (.node (.node (.node c76 KW .leaf) gX (.node c76 c28 .leaf)) c70 (.node (.node c76 Mo .leaf) c32 c12)) [] true 58 0)),(104,mQ),(65,(.row 32 (.node (.node (.node c5 xW c6) c2 c8) gX pU) [] false 114 0)),(63,(.row 2 (.node (.node .leaf (some QW) .leaf) (some wz) .leaf) [] false 75 0)),(311,qB),(257,iw),(306,(.row 2 (.node (.node .leaf (some O6) .leaf) CF .leaf) [] false 75 0))],nx:=424,ans:=.val lm}]),(45,[{args:=[c58,c80],nx:=427,ans:=.val c41}]),(44,[{args:=[c212,(.fn (.func 45) [] [])],fp:=[(426,qB)],nx:=428,ans:=.val xX}]),(81,[{args:=[EH,c85],fp:=[(429,iw)],ans:=.rows 466 lm [(468,(.row 1 (.node .leaf c213 .leaf) [] true 25 0)),(429,(.row 32 (.node (.node c7 Kc c8) c213 pU) [] false 114 0))] 469}]),(42,[{args:=[EH,FV],fp:=[(468,(.row 1 (.node .leaf c213 .leaf) [] true 25 0)),(429,(.row 32 (.node (.node c7 Kc c8) c213 pU) [] false 114 0))],nx:=470,ans:=.val kU}]),(48,[{args:=[c83,FV],fp:=[(123,Dy)],nx:=473,ans:=.val lm}]),(18,[{args:=[El],fp:=[(426,qB),(257,iw),(306,(.row 2 (.node (.node .leaf (some c212) .leaf) CF .leaf) [] false 75 0))],ans:=.rows 472 atT [(473,qB)] 474},{args:=[El],fp:=[(426,qB),(257,iw),(306,(.row 2 (.node (.node .leaf (some c212) .leaf) CF .leaf) [] false 75 0))],ans:=.rows 474 c218 [(475,qB)] 476},{args:=[Qv],fp:=[(471,(.row 5 (.node (.node c76 c11 .leaf) c28 (.node c76 c75 .leaf)) [] true 58 0)),(468,(.row 1 (.node .leaf c213 .leaf) [] true 25 0)),(429,(.row 32 (.node (.node c7 Kc c8) c213 pU) [] false 114 0)),(63,(.row 2 (.node (.node .leaf (some YY) .leaf) (some EH) .leaf) [] false 75 0))],ans:=.rows 476 apJ [(476,(.row 0 .leaf [kU,c10,sj,sj,sj] false 58 0))] 477},{args:=[c19],fp:=[(0,c16),(1,(.row 2 (.node c3 (some c0) .leaf) [] false 75 0))],nx:=5,ans:=.val c1}]),(46,[{args:=[c1,(.fn (.func 78) [] [c17])],fp:=[(4,c82)],nx:=5,ans:=.val c1}]),(17,[{args:=[c226],nx:=5,ans:=.val uR}])]
theorem b8:lc Tryz.prog ext T7 100000 200 B8=true:=by kernel_rfl
def T8:Table:=B8++T7
theorem t8:jR Tryz.prog Iv T8:=t7.add Dr mixed b8
def B9:Table:=[ (40,[{args:=[c233,c1],nx:=5,ans:=.val aqS},{args:=[(.agg [c46,c24,c46,c20,c21,UL,c1]),c38],fp:=[(21,wM)],ans:=.rows 22 anF [(26,(.row 2 (.node c34 c28 .leaf) [] true 27 0))] 27},{args:=[(.agg [kU,c85,Oo,c20,sj,sj,c1]),c78],fp:=[(118,qB)],ans:=.rows 119 amu [(123,Dy)] 124}]),(41,[{args:=[c0],fp:=[(0,c16)],ans:=.rows 4 c17 [(4,c16)] 5},{args:=[c17],fp:=[(10,mQ),(4,(.row 32 (.node (.node c7 Ed c8) gX c15) [] false 114 0))],ans:=.rows 28 c18 [(28,FM)] 61},{args:=[c18],fp:=[(28,FM)],ans:=.rows 65 wz [(65,FM)] 98},{args:=[c183],fp:=[(257,iw)],ans:=.rows 391 c208 [(391,iw)] 424},{args:=[wz],fp:=[(104,mQ),(65,(.row 32 (.node (.node (.node c5 xW c6) c2 c8) gX pU) [] false 114 0))],ans:=.rows 429 EH [(429,iw)] 462},{args:=[c183],fp:=[(257,iw)],ans:=.rows 480 SV [(480,iw)] 513}]),(42,[{args:=[c17,CJ],fp:=[(4,c16)],ans:=.rows 7 kU [(10,mQ),(4,(.row 32 (.node (.node c7 Ed c8) gX c15) [] false 114 0))] 11},{args:=[wz,FV],fp:=[(65,FM)],ans:=.rows 101 kU [(104,mQ),(65,(.row 32 (.node (.node (.node c5 xW c6) c2 c8) gX pU) [] false 114 0))] 105},{args:=[EH,c86],fp:=[(429,iw)],ans:=.rows 465 kU [(468,(.row 1 (.node .leaf c213 .leaf) [] true 25 0)),(429,(.row 32 (.node (.node c7 Kc c8) c213 pU) [] false 114 0))] 469}]),(47,[{args:=[c58,am1],fp:=[(3,(.row 7 (.node (.node UR gX c31) c28 (.node c23 c70 c3)) [] false 30 0))],nx:=15,ans:=.val uR},{args:=[c58,aja],fp:=[(26,(.row 2 (.node c34 c28 .leaf) [] true 27 0)),(64,(.row 7 (.node (.node UR gX c69) c70 (.node c23 c70 (.node .leaf (some PL) .leaf))) [] false 30 0))],nx:=112,ans:=.val lm},{args:=[c80,aja],fp:=[(26,(.row 2 (.node c34 c28 .leaf) [] true 27 0)),(64,(.row 7 (.node (.node UR gX c69) c70 (.node c23 c70 (.node .leaf (some PL) .leaf))) [] false 30 0))],nx:=113,ans:=.val uR},{args:=[c80,aqI],fp:=[(123,Dy),(428,(.row 7 (.node (.node UR c213 c76) c28 (.node c76 (some Oo) (.node .leaf (some c83) .leaf))) [] false 30 0))],nx:=472,ans:=.val lm}]),(46,[{args:=[c38,(.fn (.func 78) [] [c59])],fp:=[(18,c40),(21,wM)],ans:=.rows 22 c38 [] 22},{args:=[c78,(.fn (.func 78) [] [c81])],fp:=[(115,c82),(118,qB)],ans:=.rows 119 c78 [] 119}]),(82,[{args:=[c66,kU,Oo,Oo,(.fn (.func 45) [] [])],fp:=[(109,c71)],nx:=110,ans:=.val xX}]),(64,[{args:=[c96,c20],fp:=[(135,c97)],ans:=.rows 136 c98 [(140,c105)] 141},{args:=[c98,sj],fp:=[(140,c105)],ans:=.rows 141 ahx [(144,adD)] 145},{args:=[ahx,sj],fp:=[(144,adD)],ans:=.rows 145 c109 [(148,aia)] 149},{args:=[c1,aql],ans:=.rows 219 apf [(221,c141)] 222},{args:=[c148,c20],fp:=[(234,TG)],ans:=.rows 235 aiP [(239,c156)] 240},{args:=[aiP,c21],fp:=[(239,c156)],ans:=.rows 240 c157 [(244,c164)] 245},{args:=[c157,UL],fp:=[(244,c164)],ans:=.rows 245 WY [(249,c168)] 250},{args:=[c1,aql],ans:=.rows 360 c198 [(362,c141)] 363},{args:=[c201,c20],fp:=[(375,TG)],ans:=.rows 376 ajp [(380,c156)] 381},{args:=[ajp,c21],fp:=[(380,c156)],ans:=.rows 381 c203 [(385,c164)] 386},{args:=[c203,UL],fp:=[(385,c164)],ans:=.rows 386 agI [(390,c168)] 391}]),(65,[{args:=[wz],fp:=[(104,mQ),(65,(.row 32 (.node (.node (.node c5 xW c6) c2 c8) gX pU) [] false 114 0))],ans:=.rows 170 aAD [(218,c171)] 219},{args:=[c183],fp:=[(257,iw)],ans:=.rows 258 auL [(305,c171)] 306},{args:=[c183],fp:=[(257,iw)],ans:=.rows 312 ay7 [(359,c171)] 360}]),(72,[{args:=[c19,c80],fp:=[(14,wM),(10,mQ),(4,(.row 32 (.node (.node c7 Ed c8) gX c15) [] false 114 0)),(1,(.row 2 (.node (.node .leaf (some c37) .leaf) (some c17) .leaf) [] false 75 0))],nx:=425,ans:=.val uR},{args:=[El,c58],fp:=[(311,qB),(257,iw),(306,(.row 2 (.node (.node .leaf (some O6) .leaf) CF .leaf) [] false 75 0))],nx:=428,ans:=.val uR}]),(14,[{args:=[c19,c226],fp:=[(0,c16),(1,(.row 2 (.node c3 (some c0) .leaf) [] false 75 0))],nx:=4,ans:=.val (.tup [uR,c46])}]),(55,[{args:=[(.slc 6 0 0 (.op 1))],fp:=[(6,(.row 0 .leaf [] true 5 0))],nx:=7,ans:=.val apQ}])]
theorem b9:lc Tryz.prog ext T8 100000 200 B9=true:=by kernel_rfl
def T9:Table:=B9++T8
theorem t9:jR Tryz.prog Iv T9:=t8.add Dr mixed b9
def B10:Table:=[(13,[{args:=[c19,CJ,c20,c21,c29],fp:=[(0,c16),(1,(.row 2 (.node c3 (some c0) .leaf) [] false 75 0))],nx:=2,ans:=.val aqS}]),(25,[{args:=[c19],fp:=[(14,wM),(10,mQ),(4,(.row 32 (.node (.node c7 Ed c8) gX c15) [] false 114 0)),(1,(.row 2 (.node (.node .leaf (some c37) .leaf) (some c17) .leaf) [] false 75 0))],ans:=.rows 28 Qv [(62,wM),(28,FM),(63,(.row 2 (.node (.node .leaf (some c64) .leaf) (some c18) .leaf) [] false 75 0))] 64}]),(44,[{args:=[c66,(.fn (.func 45) [] [])],fp:=[(109,c71)],nx:=110,ans:=.val xX}]),(28,[{args:=[ZA],fp:=[(123,Dy)],ans:=.rows 125 (.tup [c119,kU]) [(161,Za)] 162}]),(15,[{args:=[c119],fp:=[(161,Za)],ans:=.rows 162 (.tup [c222,kU]) [(168,Dy)] 169},{args:=[c1],nx:=4,ans:=.val (.tup [c226,c232])}]),(22,[{args:=[Qv],fp:=[(111,(.row 10 (.node (.node (.node c76 KW .leaf) gX (.node c76 c28 .leaf)) c70 (.node (.node c76 Mo .leaf) c32 c12)) [] true 58 0)),(104,mQ),(65,(.row 32 (.node (.node (.node c5 xW c6) c2 c8) gX pU) [] false 114 0)),(63,(.row 2 (.node (.node .leaf (some QW) .leaf) (some wz) .leaf) [] false 75 0))],ans:=.rows 170 WY [(249,c168)] 250},{args:=[El],fp:=[(311,qB),(257,iw),(306,(.row 2 (.node (.node .leaf (some O6) .leaf) CF .leaf) [] false 75 0))],ans:=.rows 312 agI [(390,c168)] 391}]),(55,[{args:=[agV],fp:=[(253,c171)],ans:=.rows 254 (.tup [c183,kU]) [(257,iw)] 306}]),(32,[{args:=[El],fp:=[(311,qB),(257,iw),(306,(.row 2 (.node (.node .leaf (some O6) .leaf) CF .leaf) [] false 75 0))],ans:=.rows 391 c208 [(391,iw)] 424},{args:=[El],fp:=[(426,qB),(257,iw),(306,(.row 2 (.node (.node .leaf (some c212) .leaf) CF .leaf) [] false 75 0))],ans:=.rows 480 SV [(480,iw)] 513}]),(26,[{args:=[El,c19],fp:=[(14,wM),(10,mQ),(4,(.row 32 (.node (.node c7 Ed c8) gX c15) [] false 114 0)),(1,(.row 2 (.node (.node .leaf (some c37) .leaf) (some c17) .leaf) [] false 75 0)),(311,qB),(257,iw),(306,(.row 2 (.node (.node .leaf (some O6) .leaf) CF .leaf) [] false 75 0))],ans:=.rows 424 xX [(426,qB),(306,(.row 2 (.node (.node .leaf (some c212) .leaf) CF .leaf) [] false 75 0))] 428}]),(12,[{args:=[c19,CJ,c20,sj],fp:=[(0,c16),(1,(.row 2 (.node c3 (some c0) .leaf) [] false 75 0))],nx:=2,ans:=.val (.tup [c226,aAi])}]),(16,[{args:=[c1],nx:=5,ans:=.val apQ}])]
theorem b10:lc Tryz.prog ext T9 100000 200 B10=true:=by kernel_rfl
def T10:Table:=B10++T9
theorem bH:jR Tryz.prog Iv T10:=t9.add Dr mixed b10
def B11:Table:=[(46,[{args:=[c37,(.fn (.func 47) [] [am1])],fp:=[(3,(.row 7 (.node (.node UR gX c31) c28 (.node c23 c70 c3)) [] false 30 0)),(14,wM)],ans:=.rows 15 c37 [] 15},{args:=[c72,(.fn (.func 47) [] [aja])],fp:=[(26,(.row 2 (.node c34 c28 .leaf) [] true 27 0)),(64,(.row 7 (.node (.node UR gX c69) c70 (.node c23 c70 (.node .leaf (some PL) .leaf))) [] false 30 0)),(111,c71)],ans:=.rows 112 QW [(111,(.row 10 (.node (.node (.node c76 KW .leaf) gX (.node c76 c28 .leaf)) c70 (.node (.node c76 Mo .leaf) c32 c12)) [] true 58 0))] 113},{args:=[amC,(.fn (.func 47) [] [aqI])],fp:=[(123,Dy),(428,(.row 7 (.node (.node UR c213 c76) c28 (.node c76 (some Oo) (.node .leaf (some c83) .leaf))) [] false 30 0)),(471,qB)],ans:=.rows 472 YY [(471,(.row 5 (.node (.node c76 c11 .leaf) c28 (.node c76 c75 .leaf)) [] true 58 0))] 472}]),(13,[{args:=[c19,FV,c20,c21,UL],fp:=[(14,wM),(10,mQ),(4,(.row 32 (.node (.node c7 Ed c8) gX c15) [] false 114 0)),(1,(.row 2 (.node (.node .leaf (some c37) .leaf) (some c17) .leaf) [] false 75 0))],ans:=.rows 15 anF [(26,(.row 2 (.node c34 c28 .leaf) [] true 27 0))] 27}]),(12,[{args:=[Qv,c86,c20,sj],fp:=[(111,(.row 10 (.node (.node (.node c76 KW .leaf) gX (.node c76 c28 .leaf)) c70 (.node (.node c76 Mo .leaf) c32 c12)) [] true 58 0)),(104,mQ),(65,(.row 32 (.node (.node (.node c5 xW c6) c2 c8) gX pU) [] false 114 0)),(63,(.row 2 (.node (.node .leaf (some QW) .leaf) (some wz) .leaf) [] false 75 0))],ans:=.rows 113 amu [(123,Dy)] 124}]),(16,[{args:=[WY],fp:=[(249,c168)],ans:=.rows 250 (.tup [El,kU]) [(311,qB),(257,iw),(306,(.row 2 (.node (.node .leaf (some O6) .leaf) CF .leaf) [] false 75 0))] 391}])]
theorem b11:lc Tryz.prog ext T10 100000 200 B11=true:=by kernel_rfl
def T11:Table:=B11++T10
theorem bV:jR Tryz.prog Iv T11:=bH.add Dr mixed b11
def B12:Table:=[(14,[{args:=[c19,c233],fp:=[(0,c16),(1,(.row 2 (.node c3 (some c0) .leaf) [] false 75 0))],ans:=.rows 3 ah0 [(14,wM),(10,mQ),(4,(.row 32 (.node (.node c7 Ed c8) gX c15) [] false 114 0)),(1,(.row 2 (.node (.node .leaf (some c37) .leaf) (some c17) .leaf) [] false 75 0))] 15},{args:=[Qv,c234],fp:=[(26,(.row 2 (.node c34 c28 .leaf) [] true 27 0)),(62,wM),(28,FM),(63,(.row 2 (.node (.node .leaf (some c64) .leaf) (some c18) .leaf) [] false 75 0))],ans:=.rows 64 ah0 [(111,(.row 10 (.node (.node (.node c76 KW .leaf) gX (.node c76 c28 .leaf)) c70 (.node (.node c76 Mo .leaf) c32 c12)) [] true 58 0)),(104,mQ),(65,(.row 32 (.node (.node (.node c5 xW c6) c2 c8) gX pU) [] false 114 0)),(63,(.row 2 (.node (.node .leaf (some QW) .leaf) (some wz) .leaf) [] false 75 0))] 113},{args:=[Qv,ZA],fp:=[(123,Dy),(111,(.row 10 (.node (.node (.node c76 KW .leaf) gX (.node c76 c28 .leaf)) c70 (.node (.node c76 Mo .leaf) c32 c12)) [] true 58 0)),(104,mQ),(65,(.row 32 (.node (.node (.node c5 xW c6) c2 c8) gX pU) [] false 114 0)),(63,(.row 2 (.node (.node .leaf (some QW) .leaf) (some wz) .leaf) [] false 75 0))],ans:=.rows 428 ah0 [(471,(.row 5 (.node (.node c76 c11 .leaf) c28 (.node c76 c75 .leaf)) [] true 58 0)),(468,(.row 1 (.node .leaf c213 .leaf) [] true 25 0)),(429,(.row 32 (.node (.node c7 Kc c8) c213 pU) [] false 114 0)),(63,(.row 2 (.node (.node .leaf (some YY) .leaf) (some EH) .leaf) [] false 75 0))] 472}])]
theorem b12:lc Tryz.prog ext T11 100000 200 B12=true:=by kernel_rfl
def T12:Table:=B12++T11
theorem t12:jR Tryz.prog Iv T12:=bV.add Dr mixed b12
def B13:Table:=[(10,[{args:=[],nx:=0,ans:=.val lm}])]
theorem b13:lc Tryz.prog ext T12 100000 200 B13=true:=by kernel_rfl
def T13:Table:=B13++T12
theorem bf:jR Tryz.prog Iv T13:=t12.add Dr mixed b13
theorem t:jR Tryz.prog Iv T13:=bf
abbrev T:Table:=T13
def BA:Table:=[(10,[{ args:=[],ans:=.val (.sc (.bool true)) }])]
theorem bA:lc Tryz.prog ext T 100000 200 BA=true:=by kernel_rfl
def TA:Table:=BA++T
theorem tA:jR Tryz.prog Iv TA:=t.add Dr mixed bA
end Go.Proofs.YtlhlnchhaminjaaGreat
namespace Go.Proofs.YtlhlnchhaminjaaGreat.crdtComes
open Go Go.Ab Go.ChangeShapes Go.WideShapes Go.ChangeAt Go.RowKit
theorem own:ownKnob Tryz.prog.godebug=none:=by kernel_rfl
open Go.Ab.aC Go.Ab.Crw Go.Proofs.YtlhlnchhaminjaaGreat.iD
def base (w:World) : Base:=⟨w.heap.size,fun _=>True,fun _ _ _ _=>trivial⟩
theorem awake {B:Base} : AwakeC B (jH Tryz.prog 10):=by
 intro M Q hM hQ
 exact adR tA ⟨Tryz.f10,_,Tryz.func10,rfl⟩ (fun A=>by kernel_rfl) (fun _ _=>trivial) hQ
theorem walk (w:World) (v0 v1:Value) (h0:xN Tryz.prog (RM.old (base w) w) 43 (Db w.heap.size v0)) (h1:xN Tryz.prog (RM.old (base w) w) 3 (Db w.heap.size v1)) :
  Calls Tryz.prog 4 #[v0,v1] w fun e w'=>e=.returned (.bool true)∧Below w.heap.size w w':=by
 have hf:=h0.one (by kernel_rfl)
 obtain⟨u0,l,e0,hl,_⟩:=ajv hf
 obtain⟨n,e1,_,_⟩:=(h1.one (by kernel_rfl)).LK Tryz.underlying3
 refine jH.close (base:=base w) rfl trivial ?_
 simp only[List.map_cons,List.map_nil]
 rw[show Db (base w).n v0=u0 from(List.cons.inj e0).1,show Db (base w).n v1=N .i64 n from(List.cons.inj e1).1]
 obtain⟨a0,a1,e,h⟩:=Uc (TB:=5) (TE:=30) (M:=RM.old (base w) w) (n:=n) (Q:=fun v _=>v=Bo true) (awake (B:=base w)) iD.own iD.akC iD.apply iD.Vi iD.dX iD.state iD.Nh iD.DV iD.azo iD.apI iD.asr rfl hl (fun M' k=>al9 hf e0 ((hl.keep k (by simp)).mono (fun d hd=>Nat.lt_of_lt_of_le hd k.next))) (fun M'=>rfl)
 cases e
 exact Mj h
set_option maxRecDepth 100000 in
theorem lifted (os:Os) (started:os.Started) (H:Type) (enc:TypeId × Value→H) :
  ReturnsInHanded {} Tryz.checked os 4 .any (Rows.crdtComesSpec.pre6 enc Tryz.prog Tryz.f4 Rows.crdtComesRow.domain false) (Rows.crdtComesSpec.post enc Tryz.prog Tryz.f4 false true false false):=by
 refine returnsInHanded_of_change_sized (C:=Tryz.checked) own started (by kernel_rfl) Tryz.func4
  (ChangeSpec.witness6 (enc:=enc) (C:=Tryz.checked) false ⟨#[],#[.slice none 0 0,.int .i64 0],[]⟩ 8 (by kernel_rfl) (by kernel_rfl) (by kernel_rfl) (by kernel_rfl)) ?_
 intro W b0 args ds gs before hval hW hcnd hwt _
 have hW':=hW
 obtain⟨p,q,hA,hV,rfl,hfz,hnd⟩:=hW
 rw[Tryz.params4] at hA hwt
 obtain⟨rfl,rfl⟩:=trodVars_none hV
 have hfit:=Zv (base:=base W) rfl hA (fun j t v hj hv=>hval j t v (by rw[Tryz.params4]; simpa using hj) (by simpa using hv)) (fun y hy=>by
  have ayW:(DataW.weightsEach Tryz.prog [43,3] (ds++[])).all (· ≤ reachBytes)=true:=hwt
  have:=List.all_eq_true.1 ayW y (by rw[List.append_nil]; exact hy)
  simpa using this)
 simp only[List.append_nil] at hW'
 have hlt:∀ x∈p,x.block<W.heap.size:=fun x hx=>hW'.lt x hx
 obtain⟨v0,v1,d0,d1,p0,p1,rfl,rfl,rfl,h0,h1⟩:=trodAll_two hA
 refine(walk W v0 v1 (hfit 0 _ _ rfl rfl) (hfit 1 _ _ rfl rfl)).mono fun e W' ⟨he,hg⟩=>?_
 subst he
 exact⟨_,rfl,Vq (pa:=_) (pv:=[]) hW' (fun _ _ _=>(trodAll_cons_mk (shut_bool Tryz.underlying4 _) trodAll_mk0)) (fun sp hsp=>by
   rw[Tryz.params4]
   exact IW (by kernel_rfl) hg (fun t ht=>by
    have ht:t=43∨t=3:=by simpa using ht
    rcases ht with rfl | rfl <;> exact⟨by kernel_rfl,of_decide_eq_true (by kernel_rfl)⟩) hA hlt hsp) (fun _ _=>rfl) (by simp)
  hg (ok_one (by kernel_rfl) rfl (okWide_bool_mk Tryz.underlying4 _))⟩
theorem over:Rows.crdtComesRow.holds Tryz.pinned (OpenSpec.ofChange Rows.crdtComesSpec) :=
 OpenClaim.holds_of_wide 4 Tryz.f4 rfl rfl rfl rfl rfl rfl rfl ⟨rfl,rfl,rfl,rfl,rfl⟩ rfl rfl rfl rfl rfl (by kernel_rfl) Tryz.func4 (by kernel_rfl)
  (of_decide_eq_true (by kernel_rfl)) (by unfold Func.isWrapper; first | (rw[if_pos (by decide +kernel)]; kernel_rfl) | (rw[if_neg (by decide +kernel)]; exact⟨rfl,rfl⟩))
  (fun os started H enc _=>lifted os started H enc)
theorem proved:Rows.CrdtComesSaid :=
 over
end Go.Proofs.YtlhlnchhaminjaaGreat.crdtComes
