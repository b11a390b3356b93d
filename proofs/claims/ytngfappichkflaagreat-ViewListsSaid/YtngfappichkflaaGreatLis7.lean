/- 'ViewLists' returns true for all arguments: the list has each contact once, and no other; how many fields it has is what is got of it; conflicts are of contacts that are listed. No condition. By an AI agent. -/
import Derived.Test.YtngfappichkflaaGreatLis6
import Derived.KernelRfl
import Derived.Test.YtngfappichkflaaGreatProg
import Derived.Shelf.LaysM
import Derived.Shelf.Strings.Search2
import Derived.Test.YtngfappichkflaaGreatRows
import Derived.HandedShaped
import Derived.Carry
import Derived.WalkKit
import Derived.ProofKit
import Derived.OpenShut
set_option maxRecDepth 100000
set_option linter.unusedVariables false
set_option linter.unusedSimpArgs false
namespace Go.Proofs.YtngfappichkflaaGreat
open Go Go.Ab
abbrev ay := @iV Tryz.prog
theorem pok:Nj Tryz.prog:=⟨Tm (by kernel_rfl),by kernel_rfl⟩
theorem bf {f:FuncId} {fn:Func} {args:List AV} {M:RM} {Q:ak} {B:Prop} (h:B) (hfn:Tryz.prog.funcs[f]?=some fn:=by kernel_rfl) (e:B=OT Tryz.prog fn args M Q:=by kernel_rfl) : ay f args M Q:=acF pok hfn (e▸h)
variable {a0 a1 a2 a3 a4 a5 a6 a7:AV} {M:RM} {Q:ak}
theorem BB (h:Go.Ab.Vw.sW (ay 9) (ay 17) (ay 10) (ay 26) (ay 13) (ay 12) (ay 16) (ay 27) a0 M Q) : ay 7 [a0] M Q:=bf (fn:=Tryz.f7) h
theorem Ll (h:Go.Ab.Vw.FI (ay 29) (ay 30) a0 M Q) : ay 10 [a0] M Q:=bf (fn:=Tryz.f10) h
theorem KS (h:Go.Ab.Vw.Es (ay 32) a0 a1 M Q) : ay 12 [a0,a1] M Q:=bf (fn:=Tryz.f12) h
theorem Ju (h:Go.Ab.Vw.Cy (ay 26) 44 (ay 32) 64 (ay 33) 34 a0 M Q) : ay 13 [a0] M Q:=bf (fn:=Tryz.f13) h
theorem Gv (h:Go.Ab.Vw.zh 40 (ay 37) a0 M Q) : ay 14 [a0] M Q:=bf (fn:=Tryz.f14) h
theorem Da (h:Go.Ab.Vw.uw (ay 27) (ay 40) 40 a0 M Q) : ay 16 [a0] M Q:=bf (fn:=Tryz.f16) h
theorem Jy (h:Go.Ab.Vw.X8 30 (ay 41) a0 M Q) : ay 17 [a0] M Q:=bf (fn:=Tryz.f17) h
theorem Qb (h:Go.Ab.aD.LU 27 a0 a1 M Q) : ay 25 [a0,a1] M Q:=bf (fn:=Tryz.f25) h
theorem CG (h:Go.Ab.Crw.uu 40 9 a0 M Q) : ay 26 [a0] M Q:=bf (fn:=Tryz.f26) h
theorem DI (h:Go.Ab.Crw.wu (ay 46) a0 M Q) : ay 27 [a0] M Q:=bf (fn:=Tryz.f27) h
theorem XU (h:Go.Ab.Crw.ZK (ay 47) 91  M Q) : ay 29 [] M Q:=bf (fn:=Tryz.f29) h
theorem GD (h:Go.Ab.Crw.ze 30 (ay 48) (ay 49) 27 (ay 50) (ay 51) 40 (ay 46) (ay 52) 53 55 (ay 54) (ay 57) (ay 58) a0 a1 M Q) : ay 30 [a0,a1] M Q:=bf (fn:=Tryz.f30) h
theorem GA (h:Go.Ab.Vw.zf (ay 61) (ay 40) (ay 14) 40 64 a0 a1 M Q) : ay 32 [a0,a1] M Q:=bf (fn:=Tryz.f32) h
theorem qF (h:Go.Ab.Vw.jh (ay 63) (ay 62) a0 a1 M Q) : ay 33 [a0,a1] M Q:=bf (fn:=Tryz.f33) h
theorem Gw (h:Go.Ab.Vw.y8 44 (ay 36) 3 (ay 35) a0 a1 M Q) : ay 34 [a0,a1] M Q:=bf (fn:=Tryz.f34) h
theorem Qj (h:Go.Ab.Crw.KD a0 M Q) : ay 35 [a0] M Q:=bf (fn:=Tryz.f35) h
theorem CZ (h:Go.Ab.Crw.uQ (ay 64) a0 a1 M Q) : ay 36 [a0,a1] M Q:=bf (fn:=Tryz.f36) h
theorem Uk (h:Go.Ab.aD.Wp 27 a0 a1 M Q) : ay 37 [a0,a1] M Q:=bf (fn:=Tryz.f37) h
theorem GH (h:Go.Ab.Vw.yU 40 47 a0 M Q) : ay 40 [a0] M Q:=bf (fn:=Tryz.f40) h
theorem Jz (h:Go.Ab.Crw.Cr 30 (ay 66) (ay 25) a0 M Q) : ay 41 [a0] M Q:=bf (fn:=Tryz.f41) h
theorem Gx (h:Go.Ab.Crw.yX 40 a0 M Q) : ay 46 [a0] M Q:=bf (fn:=Tryz.f46) h
theorem RU (h:Go.Ab.aD.Ps 116  M Q) : ay 47 [] M Q:=bf (fn:=Tryz.f47) h
theorem Wd (h:Go.Ab.Crw.Ue 30 (ay 69) (ay 70) 27 (ay 37) a0 M Q) : ay 48 [a0] M Q:=bf (fn:=Tryz.f48) h
theorem Kb (h:Go.Ab.aD.Fe (ay 47) (ay 71) a0 M Q) : ay 49 [a0] M Q:=bf (fn:=Tryz.f49) h
theorem MQ (h:Go.Ab.aD.GJ 27 (ay 69) (ay 72) a0 a1 M Q) : ay 50 [a0,a1] M Q:=bf (fn:=Tryz.f50) h
theorem Nu (h:Go.Ab.aD.GU 27 (ay 69) (ay 73) a0 a1 M Q) : ay 51 [a0,a1] M Q:=bf (fn:=Tryz.f51) h
theorem Cu (h:Go.Ab.Crw.uK (ay 63) (ay 74) a0 a1 M Q) : ay 52 [a0,a1] M Q:=bf (fn:=Tryz.f52) h
theorem Nr (h:Go.Ab.Crw.H5 40 (ay 36) (ay 75) 3 (ay 35) a0 a1 M Q) : ay 53 [a0,a1] M Q:=bf (fn:=Tryz.f53) h
theorem Bu (h:Go.Ab.Crw.qW (ay 76) 40 (ay) a0 a1 M Q) : ay 54 [a0,a1] M Q:=bf (fn:=Tryz.f54) h
theorem DD (h:Go.Ab.Crw.wE 40 (ay 56) a0 a1 M Q) : ay 55 [a0,a1] M Q:=bf (fn:=Tryz.f55) h
theorem FU (h:Go.Ab.Crw.wV 27 (ay 77) a0 a1 M Q) : ay 56 [a0,a1] M Q:=bf (fn:=Tryz.f56) h
theorem GX (h:Go.Ab.aD.Bi 113 (ay 73) a0 a1 M Q) : ay 57 [a0,a1] M Q:=bf (fn:=Tryz.f57) h
theorem Gs (h:Go.Ab.Crw.yY a0 a1 M Q) : ay 58 [a0,a1] M Q:=bf (fn:=Tryz.f58) h
theorem DX (h:Go.Ab.Crw.wB 40 a0 a1 M Q) : ay 61 [a0,a1] M Q:=bf (fn:=Tryz.f61) h
theorem lY (h:Go.Ab.Vw.fT (ay 80) (ay 81) (ay 82) (ay 83) (ay 84) (ay 85) (ay) (ay 86) (ay 87) (ay 62) a0 a1 a2 a3 a4 M Q) : ay 62 [a0,a1,a2,a3,a4] M Q:=bf (fn:=Tryz.f62) h
theorem Dx (h:Go.Ab.aD.wo (ay 88) (ay 89) a0 M Q) : ay 63 [a0] M Q:=bf (fn:=Tryz.f63) h
theorem FJ (h:Go.Ab.Crw.xS a0 M Q) : ay 64 [a0] M Q:=bf (fn:=Tryz.f64) h
theorem Pm (h:Go.Ab.aD.Mv 27 a0 M Q) : ay 66 [a0] M Q:=bf (fn:=Tryz.f66) h
theorem Qy (h:Go.Ab.Crw.Lx 40 (ay 25) a0 a1 M Q) : ay 67 [a0,a1] M Q:=bf (fn:=Tryz.f67) h
theorem O0 (h:Go.Ab.aD.LB 27 a0 M Q) : ay 69 [a0] M Q:=bf (fn:=Tryz.f69) h
theorem Jw (h:Go.Ab.Crw.Dc a0 a1 a2 M Q) : ay 70 [a0,a1,a2] M Q:=bf (fn:=Tryz.f70) h
theorem L6 (h:Go.Ab.aD.ER 113 111 (ay 91) (ay 92) (ay 93) (ay 94) a0 a1 M Q) : ay 71 [a0,a1] M Q:=bf (fn:=Tryz.f71) h
theorem Mh (h:Go.Ab.aD.FO (ay 95) 25 113 (ay 97) (ay 96) (ay 94) a0 a1 M Q) : ay 72 [a0,a1] M Q:=bf (fn:=Tryz.f72) h
theorem Kl (h:Go.Ab.aD.EP (ay 95) a0 a1 M Q) : ay 73 [a0,a1] M Q:=bf (fn:=Tryz.f73) h
theorem oz (h:Go.Ab.Crw.iD (ay 98) (ay 99) (ay 100) (ay 101) (ay 102) (ay 103) (ay) (ay 104) (ay 105) (ay 74) a0 a1 a2 a3 a4 M Q) : ay 74 [a0,a1,a2,a3,a4] M Q:=bf (fn:=Tryz.f74) h
theorem Sb (h:Go.Ab.Crw.PZ 27 (ay 106) (ay 107) 3 (ay 35) a0 a1 M Q) : ay 75 [a0,a1] M Q:=bf (fn:=Tryz.f75) h
theorem BC (h:Go.Ab.Crw.sM (ay) a0 a1 M Q) : ay 76 [a0,a1] M Q:=bf (fn:=Tryz.f76) h
theorem Jt (h:Go.Ab.Crw.CF 27 a0 a1 M Q) : ay 77 [a0,a1] M Q:=bf (fn:=Tryz.f77) h
theorem jI (h:Go.Ab.Vw.dX (ay) a0 a1 a2 a3 M Q) : ay 80 [a0,a1,a2,a3] M Q:=bf (fn:=Tryz.f80) h
theorem tJ (h:Go.Ab.Vw.kI (ay 109) a0 a1 a2 a3 M Q) : ay 81 [a0,a1,a2,a3] M Q:=bf (fn:=Tryz.f81) h
theorem qj (h:Go.Ab.Vw.iM 150 (ay 110) (ay 111) a0 a1 a2 a3 M Q) : ay 82 [a0,a1,a2,a3] M Q:=bf (fn:=Tryz.f82) h
theorem rC (h:Go.Ab.Vw.jg 3 (ay 112) (ay 113) a0 a1 a2 a3 M Q) : ay 83 [a0,a1,a2,a3] M Q:=bf (fn:=Tryz.f83) h
theorem qC (h:Go.Ab.Vw.jc a0 a1 a2 a3 M Q) : ay 84 [a0,a1,a2,a3] M Q:=bf (fn:=Tryz.f84) h
theorem nG (h:Go.Ab.Vw.fU (ay) a0 a1 a2 a3 M Q) : ay 85 [a0,a1,a2,a3] M Q:=bf (fn:=Tryz.f85) h
theorem qa (h:Go.Ab.Vw.iB (ay) a0 a1 a2 a3 a4 M Q) : ay 86 [a0,a1,a2,a3,a4] M Q:=bf (fn:=Tryz.f86) h
theorem sU (h:Go.Ab.Vw.jM (ay) a0 a1 a2 a3 a4 M Q) : ay 87 [a0,a1,a2,a3,a4] M Q:=bf (fn:=Tryz.f87) h
theorem BA (h:Go.Ab.aD.sO a0 M Q) : ay 89 [a0] M Q:=bf (fn:=Tryz.f89) h
theorem Dn (h:Go.Ab.aD.wy 9 (ay 118) 25 a0 M Q) : ay 91 [a0] M Q:=bf (fn:=Tryz.f91) h
theorem Gz (h:Go.Ab.aD.y9 (ay 63) (ay 119) a0 M Q) : ay 92 [a0] M Q:=bf (fn:=Tryz.f92) h
theorem Ct (h:Go.Ab.aD.uC a0 M Q) : ay 93 [a0] M Q:=bf (fn:=Tryz.f93) h
theorem FW (h:Go.Ab.aD.xN a0 M Q) : ay 94 [a0] M Q:=bf (fn:=Tryz.f94) h
theorem yP (h:Go.Ab.aD.oq (ay 120) (ay 121) a0 a1 M Q) : ay 95 [a0,a1] M Q:=bf (fn:=Tryz.f95) h
theorem u6 (h:Go.Ab.aD.nH 25 (Zi Tryz.prog 122) (ay 123) a0 a1 a2 M Q) : ay 96 [a0,a1,a2] M Q:=bf (fn:=Tryz.f96) h
theorem Ee (h:Go.Ab.aD.Qp 25 a0 M Q) : ay 97 [a0] M Q:=bf (fn:=Tryz.f97) h
theorem lv (h:Go.Ab.Crw.fw (ay) a0 a1 a2 a3 M Q) : ay 98 [a0,a1,a2,a3] M Q:=bf (fn:=Tryz.f98) h
theorem wK (h:Go.Ab.Crw.mF (ay 124) a0 a1 a2 a3 M Q) : ay 99 [a0,a1,a2,a3] M Q:=bf (fn:=Tryz.f99) h
theorem sQ (h:Go.Ab.Crw.jL 150 (ay 110) (ay 111) a0 a1 a2 a3 M Q) : ay 100 [a0,a1,a2,a3] M Q:=bf (fn:=Tryz.f100) h
theorem uM (h:Go.Ab.Crw.lg 3 (ay 125) (ay 126) a0 a1 a2 a3 M Q) : ay 101 [a0,a1,a2,a3] M Q:=bf (fn:=Tryz.f101) h
theorem tu (h:Go.Ab.Crw.kG a0 a1 a2 a3 M Q) : ay 102 [a0,a1,a2,a3] M Q:=bf (fn:=Tryz.f102) h
theorem oZ (h:Go.Ab.Crw.gV (ay) a0 a1 a2 a3 M Q) : ay 103 [a0,a1,a2,a3] M Q:=bf (fn:=Tryz.f103) h
theorem sw (h:Go.Ab.Crw.jA (ay) a0 a1 a2 a3 a4 M Q) : ay 104 [a0,a1,a2,a3,a4] M Q:=bf (fn:=Tryz.f104) h
theorem wG (h:Go.Ab.Crw.mf (ay) a0 a1 a2 a3 a4 M Q) : ay 105 [a0,a1,a2,a3,a4] M Q:=bf (fn:=Tryz.f105) h
theorem CK (h:Go.Ab.Crw.ul (ay 127) a0 a1 M Q) : ay 106 [a0,a1] M Q:=bf (fn:=Tryz.f106) h
theorem Gy (h:Go.Ab.Crw.zg (ay 128) a0 a1 M Q) : ay 107 [a0,a1] M Q:=bf (fn:=Tryz.f107) h
theorem tV (h:Go.Ab.Vw.kF (ay) a0 a1 a2 a3 a4 M Q) : ay 109 [a0,a1,a2,a3,a4] M Q:=bf (fn:=Tryz.f109) h
theorem CP (h:Go.Ab.aD.uB (ay 63) a0 M Q) : ay 110 [a0] M Q:=bf (fn:=Tryz.f110) h
theorem uV (h:Go.Ab.aD.nC a0 M Q) : ay 111 [a0] M Q:=bf (fn:=Tryz.f111) h
theorem qb (h:Go.Ab.Vw.iF (ay 113) a0 a1 a2 a3 M Q) : ay 112 [a0,a1,a2,a3] M Q:=bf (fn:=Tryz.f112) h
theorem vF (h:Go.Ab.Vw.lK (ay 137) a0 a1 a2 a3 a4 a5 M Q) : ay 113 [a0,a1,a2,a3,a4,a5] M Q:=bf (fn:=Tryz.f113) h
theorem Gt (h:Go.Ab.aD.zi 9 25 a0 a1 M Q) : ay 118 [a0,a1] M Q:=bf (fn:=Tryz.f118) h
theorem og (h:Go.Ab.aD.gY (ay 140) (ay 141) (ay 142) (ay 143) (ay 144) (ay 145) (ay 120) (ay 146) (ay 147) (ay 119) a0 a1 a2 a3 M Q) : ay 119 [a0,a1,a2,a3] M Q:=bf (fn:=Tryz.f119) h
theorem Gu (h:Go.Ab.aD.y7 (ay 127) a0 a1 M Q) : ay 120 [a0,a1] M Q:=bf (fn:=Tryz.f120) h
theorem Db (h:Go.Ab.aD.uk a0 M Q) : ay 121 [a0] M Q:=bf (fn:=Tryz.f121) h
theorem wL (h:Go.Ab.Crw.mE (ay) a0 a1 a2 a3 a4 M Q) : ay 124 [a0,a1,a2,a3,a4] M Q:=bf (fn:=Tryz.f124) h
theorem rX (h:Go.Ab.Crw.jD (ay 126) a0 a1 a2 a3 M Q) : ay 125 [a0,a1,a2,a3] M Q:=bf (fn:=Tryz.f125) h
theorem yx (h:Go.Ab.Crw.oL (ay 149) a0 a1 a2 a3 a4 a5 M Q) : ay 126 [a0,a1,a2,a3,a4,a5] M Q:=bf (fn:=Tryz.f126) h
theorem vH (h:Go.Ab.aD.rH a0 M Q) : ay 127 [a0] M Q:=bf (fn:=Tryz.f127) h
theorem Jv (h:Go.Ab.Crw.Dj a0 M Q) : ay 128 [a0] M Q:=bf (fn:=Tryz.f128) h
theorem vG (h:Go.Ab.Vw.lL (ay) a0 a1 a2 a3 a4 M Q) : ay 137 [a0,a1,a2,a3,a4] M Q:=bf (fn:=Tryz.f137) h
theorem kT (h:Go.Ab.aD.eZ (ay 120) a0 a1 a2 M Q) : ay 140 [a0,a1,a2] M Q:=bf (fn:=Tryz.f140) h
theorem vM (h:Go.Ab.aD.ma (ay 153) a0 a1 a2 M Q) : ay 141 [a0,a1,a2] M Q:=bf (fn:=Tryz.f141) h
theorem sD (h:Go.Ab.aD.jv 150 (ay 110) (ay 111) a0 a1 a2 M Q) : ay 142 [a0,a1,a2] M Q:=bf (fn:=Tryz.f142) h
theorem tH (h:Go.Ab.aD.kw 3 (ay 154) (ay 155) a0 a1 a2 M Q) : ay 143 [a0,a1,a2] M Q:=bf (fn:=Tryz.f143) h
theorem sS (h:Go.Ab.aD.jU a0 a1 a2 M Q) : ay 144 [a0,a1,a2] M Q:=bf (fn:=Tryz.f144) h
theorem oD (h:Go.Ab.aD.gQ (ay 120) a0 a1 a2 M Q) : ay 145 [a0,a1,a2] M Q:=bf (fn:=Tryz.f145) h
theorem qD (h:Go.Ab.aD.jf (ay 120) a0 a1 a2 a3 M Q) : ay 146 [a0,a1,a2,a3] M Q:=bf (fn:=Tryz.f146) h
theorem vE (h:Go.Ab.aD.lI (ay 120) a0 a1 a2 a3 M Q) : ay 147 [a0,a1,a2,a3] M Q:=bf (fn:=Tryz.f147) h
theorem yH (h:Go.Ab.Crw.oV (ay) a0 a1 a2 a3 a4 M Q) : ay 149 [a0,a1,a2,a3,a4] M Q:=bf (fn:=Tryz.f149) h
theorem vV (h:Go.Ab.aD.l8 (ay 120) a0 a1 a2 a3 M Q) : ay 153 [a0,a1,a2,a3] M Q:=bf (fn:=Tryz.f153) h
theorem qU (h:Go.Ab.aD.jm (ay 155) a0 a1 a2 M Q) : ay 154 [a0,a1,a2] M Q:=bf (fn:=Tryz.f154) h
theorem wX (h:Go.Ab.aD.nS (ay 158) a0 a1 a2 a3 a4 M Q) : ay 155 [a0,a1,a2,a3,a4] M Q:=bf (fn:=Tryz.f155) h
theorem xx (h:Go.Ab.aD.nV (ay 120) a0 a1 a2 a3 M Q) : ay 158 [a0,a1,a2,a3] M Q:=bf (fn:=Tryz.f158) h
end Go.Proofs.YtngfappichkflaaGreat
namespace Go.Proofs.YtngfappichkflaaGreat.oI
open Go Go.Ab Go.Ab.aD Go.Ab.Crw Go.RowKit
theorem over:afR (Zi Tryz.prog 122):=by
 intro M ba oa na bb ob nb ea eb ca cb la lb opb Q hne ha hb h1 h2 hQ
 exact .inr (.inl ⟨⟨Tryz.f122,111,25,1,4,by kernel_rfl,by kernel_rfl,by kernel_rfl,by kernel_rfl,by kernel_rfl,by kernel_rfl⟩,
  ⟨ba,oa,na,ca,bb,ob,nb,cb,la,ea,0,lb,opb,eb,0,rfl,hne,ha,hb,rfl,h1,h2⟩,hQ⟩)
theorem acM:Jr Tryz.prog 96:=⟨Tryz.f96,_,by kernel_rfl,rfl⟩
theorem insert:YB 25 (ay 96):=by
 intro M v bx n0 k x ex xs Q ho hn hl hk hx hxl hbx hQ
 by_cases hkn:k=xs.length
 ·subst hkn
  exact u6 (aag ho hn hl hx hxl hQ)
 ·obtain⟨b,rfl,h1,h2,h3,h4⟩:=Own.yJ ho (by omega)
  refine iV.ae8 acM h3 (by rw[h4]; show xs.length * 1=_; omega) fun c hc=>?_
  have hne:bx≠b:=fun e=>hbx (by simp[aH,e])
  have kk:ag [b] M (M.put b (.row (aX.row xs++List.replicate (c - xs.length) .top) true 25 0)):=(ag.refl _ _).put _ (.inr (by simp))
  refine u6 (abZ (c:=c) over rfl (by omega) hc (by omega) (aR _) (by rw[lX]; exact h2) (qi hx hne) hxl hne ?_)
  intro v' M' q1 q2 q3 q4
  refine hQ v' M' q1 q2 (fun d hd=>?_) ?_
  ·rcases q3 d hd with rfl | h
   ·exact h1
   ·have:M.next≤d:=h
    omega
  ·exact(kk.trans q4).mono (by simp[aH])
theorem nan:Z7 (ay 127):=fun hQ=>vH (Nb hQ)
theorem apV:Z7 (ay 121):=fun hQ=>Db (Ye hQ)
theorem less:xZ (ay 120):=by
 intro M x y Q hQ
 obtain⟨a0,a1,e,h⟩:=acf nan hQ
 cases e
 exact Gu h
theorem search:IW (ay 95):=by
 intro M v xs n Q h1 h2 h3 hQ
 obtain⟨a0,a1,e,h⟩:=Yw less apV h1 h2 h3 hQ
 cases e
 exact yP h
theorem aii:acU 25 1 8 (ay 97):=fun h1 h2 h3 h4 _ hQ=>Ee (Ra h1 h2 (Nat.le_refl _) h3 h4 hQ)
theorem settled:EJ (ay 94):=by
 intro M b o T u l v xs Q h1 h2 h3 h4 h5 h6 h7 h8 h9 hQ
 obtain⟨a0,e,h⟩:=Wn h1 h2 h3 h4 h5 h6 h7 h8 h9 hQ
 cases e
 exact FW h
theorem gG:aax (ay 72):=by
 intro M b o T u n l v xs Q h1 h2 h3 h4 h5 h6 h7 h8 h9 h10 h11 h12 hQ1 hQ2
 obtain⟨a0,a1,e,h⟩:=acg (TU:=25) (TP:=113) search aii insert settled h1 h2 h3 h4 h5 h6 h7 h8 h9 h10 h11 h12 hQ1 hQ2
 cases e
 exact Mh h
theorem ku:Sj (ay 73):=by
 intro M b o T u n l v xs Q h1 h2 h3 h4 h5 h6 hQ
 obtain⟨a0,a1,e,h⟩:=acG search h1 h2 h3 h4 h5 h6 hQ
 cases e
 exact Kl h
theorem good:BF (ay 69):=by
 intro M d Q hQ
 obtain⟨a0,e,h⟩:=ack (T:=27) hQ
 cases e
 exact O0 h
theorem ahM:BF (ay 66):=by
 intro M d Q hQ
 obtain⟨a0,e,h⟩:=U5 (T:=27) hQ
 cases e
 exact Pm h
theorem lh:Sq 116 (ay 50):=by
 intro M b ps d S Q h1 h2 hQ
 obtain⟨a0,a1,e,h⟩:=acz (TD:=27) good gG h1 h2 hQ
 cases e
 exact MQ h
theorem new:Xt 116 (ay 47):=by
 intro M Q hQ
 obtain⟨e,h⟩:=aeG hQ
 exact RU h
theorem within:Ql 116 (ay 57):=by
 intro M a b ps qs S S' Q h1 h2 h3 h4 hQ
 obtain⟨a0,a1,e,h⟩:=XO (T:=113) ku h1 h2 h3 h4 hQ
 cases e
 exact GX h
theorem gZ:aaA 116 (ay 51):=by
 intro M b ps d S Q h1 h2 hQ
 obtain⟨a0,a1,e,h⟩:=ac5 (T:=27) good ku h1 h2 hQ
 cases e
 exact Nu h
theorem grow:ZX 25 (ay 118):=by
 intro M n Q h1 h2 h3
 obtain⟨a0,a1,e,h⟩:=acQ (TS:=9) h1 h2 h3
 cases e
 exact Gt h
theorem concat:OY 25 (ay 91):=by
 intro M bb TS v w xs ys Q h1 h2 h3 h4 h5 h6 hQ
 obtain⟨a0,e,h⟩:=Yp (TS:=9) grow h1 h2 h3 h4 h5 h6 hQ
 cases e
 exact Dn h
theorem ah5:OW 25 3 (ay 158):=fun {M b s k i j d Q} h1 h2 h3 h4 hQ=>by
 obtain⟨a0,a1,a2,a3,e,h⟩:=SG less h1 h2 h3 h4 hQ
 cases e
 exact xx h
theorem Y2:Jd 25 3 (ay 155):=fun {M b s k i j h d Q} h1 h2 h3 h4 h5 hQ=>by
 obtain⟨a0,a1,a2,a3,a4,e,h⟩:=Xq ah5 h1 h2 h3 h4 h5 hQ
 cases e
 exact wX h
theorem ag3:O8 25 3 (ay 154):=fun {M b s k i d Q} h1 h2 h3 h4 h5 hQ=>by
 obtain⟨a0,a1,a2,e,h⟩:=Vm Y2 h1 h2 h3 h4 h5 hQ
 cases e
 exact qU h
theorem ahN:PV 25 (ay 143):=fun {M b a e d Q} h1 h2 h3 h4 hQ=>by
 obtain⟨a0,a1,a2,e,h⟩:=Xp ag3 Y2 h1 h2 h3 h4 hQ
 cases e
 exact tH h
theorem aeE:Lc 25 (ay 145):=fun {M b a e d Q} h1 h2 h3 h4 hQ=>by
 obtain⟨a0,a1,a2,e,h⟩:=RV less h1 h2 h3 h4 hQ
 cases e
 exact oD h
theorem aqv:zP 25 (Sort.insertionSort lN) (fun _ _ _=>True) (ay 140):=fun {M b a e d Q} h1 h2 h3 h4 h5 hQ=>by
 obtain⟨a0,a1,a2,e,h⟩:=acp less h1 h2 h3 h4 h5 hQ
 cases e
 exact kT h
theorem amY:ZE 25 (ay 153):=fun {M b lo hi first d Q} h1 h2 h3 h4 hQ=>by
 obtain⟨a0,a1,a2,a3,e,h⟩:=acu less h1 h2 h3 h4 hQ
 cases e
 exact vV h
theorem anE:zP 25 (Sort.heapSort lN) (fun _ a e=>a<e) (ay 141):=fun {M b a e d Q} h1 h2 h3 h4 h5 hQ=>by
 obtain⟨a0,a1,a2,e,h⟩:=aco amY h1 h2 h3 h4 h5 hQ
 cases e
 exact vM h
theorem aeX:zP 25 Sort.reverseRange (fun _ a e=>a<e) (ay 144):=fun {M b a e d Q} h1 h2 h3 h4 h5 hQ=>by
 obtain⟨a0,a1,a2,e,h⟩:=Xc h1 h2 h3 h4 h5 hQ
 cases e
 exact sS h
theorem ahB:Qo 25 (ay 146):=fun {M b a e pv d Q} h1 h2 h3 h4 h5 hQ=>by
 obtain⟨a0,a1,a2,a3,e,h⟩:=Yr less h1 h2 h3 h4 h5 hQ
 cases e
 exact qD h
theorem anA:aaN 25 (ay 147):=fun {M b a e pv d Q} h1 h2 h3 h4 h5 hQ=>by
 obtain⟨a0,a1,a2,a3,e,h⟩:=adg less h1 h2 h3 h4 h5 hQ
 cases e
 exact vE h
theorem akh:EE (ay 89):=fun {M x Q} h1 hQ=>by
 obtain⟨a0,e,h⟩:=Yu h1 hQ
 cases e
 exact BA h
theorem aa4:EE (ay 63):=fun {M x Q} h1 hQ=>by
 obtain⟨a0,e,h⟩:=ada (c3:=ay 88) akh h1 hQ
 cases e
 exact Dx h
theorem afg:Un (ay 110):=fun {M x Q} h0 h1 hQ=>by
 obtain⟨a0,e,h⟩:=afv aa4 h0 h1 hQ
 cases e
 exact CP h
theorem aqD:ad8 25 150 (ay 111):=fun {M b s r d Q} h0 hQ=>by
 obtain⟨a0,e,h⟩:=afi h0 hQ
 cases e
 exact uV h
theorem akT:Vv 25 (ay 142):=fun {M b a e d Q} h1 h2 h3 h4 hQ=>by
 obtain⟨a0,a1,a2,e,h⟩:=aac afg aqD h1 h2 h3 h4 hQ
 cases e
 exact sD h
theorem akN:∀ m,Z8 25 m (ay 119)
 | 0=>by intro h1 h2 h3 h4 h5; omega
 | m + 1=>by
   intro h1 h2 h3 h4 h5 h6 hQ
   obtain⟨a0,a1,a2,a3,e,h⟩:=aci aqv anE akT ahN aeX aeE less ahB anA (akN m) h1 h2 h3 h4 h5 h6 hQ
   cases e
   exact og h
theorem aja:VJ (ay 140):=fun {M v Q} hQ=>by
 obtain⟨a0,a1,a2,e,h⟩:=Yn (cl:=ay 120) (v:=v) hQ
 cases e
 exact kT h
theorem ai7:Vz (ay 119):=fun {M v Q} hQ=>by
 obtain⟨a0,a1,a2,a3,e,h⟩:=XT (c2:=ay 141) (c3:=ay 142) (cc:=ay 143) (c4:=ay 144) (cp:=ay 145) (c5:=ay 120) (c6:=ay 146) (c7:=ay 147) (c8:=ay 119) aja (v:=v) hQ
 cases e
 exact og h
theorem ahc:aaJ (fun xs=>xs.length≤60000) j4 25 (ay 92):=fun {M base v xs Q} h1 h2 hQ=>by
 obtain⟨a0,e,h⟩:=aa8 aa4 akN ai7 h1 h2 hQ
 cases e
 exact Gz h
theorem abh:KN (fun xs=>xs.length≤60000) dd 25 (ay 93):=fun {M base v xs Q} h1 h2 hQ=>by
 obtain⟨a0,e,h⟩:=Sa h1 h2 hQ
 cases e
 exact Ct h
theorem ag2:aaC (fun xs=>xs.length≤60000) (fun xs=>xs.length≤60000) j4 dd 116 (ay 71):=fun {M a b ps qs S S' Q} h1 h2 h3 h4 h5 h6 h7 h8 hQ=>by
 obtain⟨a0,a1,e,h⟩:=ac4 (TP:=113) (TL:=111) concat ahc abh settled h1 h2 h3 h4 h5 h6 h7 h8 hQ
 cases e
 exact L6 h
theorem agb:yF (ay 37):=by
 intro M a b Q h1
 obtain⟨a0,a1,e,h⟩:=ZY (T:=27) h1
 cases e
 exact Uk h
theorem Y1:yF (ay 25):=by
 intro M a b Q h1
 obtain⟨a0,a1,e,h⟩:=XA (T:=27) h1
 cases e
 exact Qb h
theorem names:Wl (ay 70):=by
 intro M x y z Q h1
 obtain⟨a0,a1,a2,e,h⟩:=aa1 h1
 cases e
 exact Jw h
theorem dO:zS (ay 48):=by
 intro M e kv ks Q h1 h2
 obtain⟨a0,e,h⟩:=X0 (TE:=30) (TD:=27) good names agb h1 h2
 cases e
 exact Wd h
theorem acN:zS (ay 41):=by
 intro M e kv ks Q h1 h2
 obtain⟨a0,e,h⟩:=Qa (TE:=30) ahM Y1 h1 h2
 cases e
 exact Jz h
theorem aqX:ET (α:=List UInt8) (fun s=>St s) (ay 64):=by
 intro M x Q h1
 obtain⟨a0,e,h⟩:=acJ h1
 cases e
 exact FJ h
theorem aqB:ET (α:=Nat) (fun n=>N .u64 (n:Int)) (ay 127):=by
 intro M x Q h1
 obtain⟨a0,e,h⟩:=ab7 h1
 cases e
 exact vH h
theorem aqE:ET (α:=Int) (fun n=>N .i64 n) (ay 128):=by
 intro M x Q h1
 obtain⟨a0,e,h⟩:=ac9 h1
 cases e
 exact Jv h
theorem aml:yc (α:=List UInt8) (fun s=>St s) (fun x y=>decide (x<y)) (ay 36):=by
 intro M x y Q h1
 obtain⟨a0,a1,e,h⟩:=abY aqX h1
 cases e
 exact CZ h
theorem ap5:yc (α:=Nat) (fun n=>N .u64 (n:Int)) (fun x y=>decide (x<y)) (ay 106):=by
 intro M x y Q h1
 obtain⟨a0,a1,e,h⟩:=ab8 aqB h1
 cases e
 exact CK h
theorem apN:yc (α:=Int) (fun n=>N .i64 n) (fun x y=>decide (x<y)) (ay 107):=by
 intro M x y Q h1
 obtain⟨a0,a1,e,h⟩:=acZ aqE h1
 cases e
 exact Gy h
theorem or_:OrC (ay 35):=by
 intro M v xs Q h1 h2 h3
 obtain⟨a0,e,h⟩:=ahZ h1 h2 h3
 cases e
 exact Qj h
theorem aoz:Uv (ay 75):=by
 intro M x y Q h1
 obtain⟨a0,a1,e,h⟩:=aaY ap5 apN or_ h1
 cases e
 exact Sb h
theorem compare:KC (ay 53):=by
 intro M x y Q h1
 obtain⟨a0,a1,e,h⟩:=XJ aml aoz or_ h1
 cases e
 exact Nr h
abbrev fE:AV:=.fn (.func 53) [] []
theorem LM:oF aB gp (bT (ay) fE):=agQ compare
theorem afm:SortG aB 40 5 fE (Sort.insertionSort gp) (fun _ _ _=>True) (ay 98):=by
 intro M b a e d Q h1 h2 h3 h4 h5 h6
 obtain⟨a0,a1,a2,a3,e,h⟩:=Crw.afm (cv:=ay) LM h1 h2 h3 h4 h5 h6
 cases e
 exact lv h
theorem adZ:SortG aB 40 5 fE Sort.reverseRange (fun _ a e=>a<e) (ay 102):=by
 intro M b a e d Q h1 h2 h3 h4 h5 h6
 obtain⟨a0,a1,a2,a3,e,h⟩:=Crw.adZ h1 h2 h3 h4 h5 h6
 cases e
 exact tu h
theorem aaE:abB 40 fE gp (ay 124):=by
 intro M b lo hi first d Q h1 h2 h3 h4 h5
 obtain⟨a0,a1,a2,a3,a4,e,h⟩:=Crw.aaE (cv:=ay) LM h1 h2 h3 h4 h5
 cases e
 exact wL h
theorem aa9:SortG aB 40 5 fE (Sort.heapSort gp) (fun _ a e=>a<e) (ay 99):=by
 intro M b a e d Q h1 h2 h3 h4 h5 h6
 obtain⟨a0,a1,a2,a3,e,h⟩:=Crw.aa9 aaE h1 h2 h3 h4 h5 h6
 cases e
 exact wK h
theorem O4:QH 40 fE gp (ay 104):=by
 intro M b a e pv d Q h1 h2 h3 h4 h5 h6
 obtain⟨a0,a1,a2,a3,a4,e,h⟩:=Crw.O4 (cv:=ay) LM h1 h2 h3 h4 h5 h6
 cases e
 exact sw h
theorem aba:abw 40 fE gp (ay 105):=by
 intro M b a e pv d Q h1 h2 h3 h4 h5 h6
 obtain⟨a0,a1,a2,a3,a4,e,h⟩:=Crw.aba (cv:=ay) LM h1 h2 h3 h4 h5 h6
 cases e
 exact wG h
theorem Pv:QB 40 3 fE gp (ay 149):=by
 intro M b s k i j d Q h1 h2 h3 h4 h5 h6
 obtain⟨a0,a1,a2,a3,a4,e,h⟩:=Crw.Pv (cv:=ay) LM h1 h2 h3 h4 h5 h6
 cases e
 exact yH h
theorem Jj:IQ 40 3 fE gp (ay 126):=by
 intro M b s k i j h d Q h1 h2 h3 h4 h5 h6 h7
 obtain⟨a0,a1,a2,a3,a4,a5,e,h⟩:=Crw.Jj Pv h1 h2 h3 h4 h5 h6 h7
 cases e
 exact yx h
theorem Qi:QA 40 3 fE gp (ay 125):=by
 intro M b s k i d Q h1 h2 h3 h4 h5 h6 h7
 obtain⟨a0,a1,a2,a3,e,h⟩:=Crw.Qi Jj h1 h2 h3 h4 h5 h6 h7
 cases e
 exact rX h
theorem Pw:QQ 40 fE gp (ay 101):=by
 intro M b a e d Q h1 h2 h3 h4 h5
 obtain⟨a0,a1,a2,a3,e,h⟩:=Crw.Pw Qi Jj h1 h2 h3 h4 h5
 cases e
 exact uM h
theorem Mg:KF 40 fE gp (ay 103):=by
 intro M b a e d Q h1 h2 h3 h4 h5
 obtain⟨a0,a1,a2,a3,e,h⟩:=Crw.Mg (cv:=ay) LM h1 h2 h3 h4 h5
 cases e
 exact oZ h
theorem al8:abA 150 (ay 111):=by
 intro M s r Q h1 h2 h3
 obtain⟨a0,e,h⟩:=acR h1 h2 h3
 cases e
 exact uV h
theorem Vg:SortG aB 40 5 fE Sort.breakPatterns (fun _ _ _=>True) (ay 100):=by
 intro M b a e d Q h1 h2 h3 h4 h5 h6
 obtain⟨a0,a1,a2,a3,e,h⟩:=Crw.Vg afg al8 h1 h2 h3 h4 h5 h6
 cases e
 exact sQ h
theorem ZR:∀ m,ZG 40 m fE gp (ay 74)
 | 0=>by intro h1 h2 h3 h4 h5; omega
 | m + 1=>by
   intro h1 h2 h3 h4 h5 h6 hQ
   obtain⟨a0,a1,a2,a3,a4,e,h⟩:=Crw.ZR (cv:=ay) iY afm aa9 Vg Pw adZ Mg LM O4 aba (ZR m) h1 h2 h3 h4 h5 h6 hQ
   cases e
   exact oz h
theorem QE:QN (ay 98):=by
 intro M v fv Q h1
 obtain⟨a0,a1,a2,a3,e,h⟩:=Crw.QE (cv:=ay) h1
 cases e
 exact lv h
theorem QI:Qr (ay 74):=by
 intro M v fv Q h1
 obtain⟨a0,a1,a2,a3,a4,e,h⟩:=Crw.QI (cv:=ay) QE h1
 cases e
 exact oz h
theorem akn:O9 fE gp 40 (ay 52):=by
 intro M base v xs Q h1 h2 h3
 obtain⟨a0,a1,e,h⟩:=Crw.ahd iY aa4 ZR QI h1 h2 h3
 cases e
 exact Cu h
theorem clone:Jk 40 (ay 46):=by
 intro M v xs Q h1 h2 h3
 obtain⟨a0,e,h⟩:=Yg h1 h2 h3
 cases e
 exact Gx h
theorem index:PN (ay 77):=by
 intro M v l d Q h1 h2 h3
 obtain⟨a0,a1,e,h⟩:=XQ (T:=27) h1 h2 h3
 cases e
 exact Jt h
theorem contains:EG (ay 56):=by
 intro M v l d Q h1 h2 h3
 obtain⟨a0,a1,e,h⟩:=PU (T:=27) index h1 h2 h3
 cases e
 exact FU h
theorem ajL:Qk (ay 58):=by
 intro M v w xs ys Q h1 h2 h3 h4
 obtain⟨a0,a1,e,h⟩:=Yy h1 h2 h3 h4
 cases e
 exact Gs h
theorem acH {b:Nat} {e:oK} {kv:AV} {ks:List aD} (hl:ks.length≤1000000) : SA (H8 30 b e kv ks) (fun x=>decide (x.1∈ks)) (bT (ay) (.fn (.func 55) [] [.ptr b 0])):=by
 intro M x Q hP hQ
 obtain⟨a0,a1,e,h⟩:=X9 (T:=40) contains hl hP hQ
 refine⟨55,[],[.ptr b 0],rfl, ?_⟩
 show ay 55 [.agg (aB.cells x),.ptr b 0] M Q
 cases e
 exact DD h
theorem alD {P:RM→Prop} {p:Crw.aF→Bool} {fv:AV} (hp:SA P p (bT (ay) fv)) : O3 P p fv (ay 76):=by
 intro M v xs Q h1 h2 h3 h4 h5 h6
 obtain⟨a0,a1,e,h⟩:=XX hp h1 h2 h3 h4 h5 h6
 cases e
 exact BC h
theorem ag5 (b:Nat) (e:oK) (kv:AV) (ks:List aD) (hl:ks.length≤1000000) : Ko 40 (H8 30 b e kv ks) (fun x=>decide (x.1∈ks)) (.fn (.func 55) [] [.ptr b 0]) (ay 54):=by
 intro M base v xs Q h1 h2 h3 h4 hQ
 obtain⟨a0,a1,e,h⟩:=Vn (TE:=40) (alD (acH hl)) (acH hl) h1 h2 h3 h4 hQ
 cases e
 exact Bu h
theorem Nk:U0 116 (ay 49):=by
 intro M b qs S' k Q h1 h2 h3 h4
 obtain⟨a0,e,h⟩:=abe new ag2 h1 h2 h3 h4
 cases e
 exact Kb h
theorem anj:TK 91 116 (ay 29):=by
 intro M Q h1
 obtain⟨e,h⟩:=aa7 new h1
 exact XU h
theorem apply:WH 91 116 (ay 30):=by
 intro M t k B ps es e kv ks Q h1 h2 h3 h4 h5 h6 h7 h8
 obtain⟨a0,a1,e,h⟩:=aaw (TE:=30) (TD:=27) (TN:=40) (cv:=ay) dO Nk lh gZ clone akn ag5 within ajL h1 h2 h3 h4 h5 h6 h7 h8
 cases e
 exact GD h
theorem entries:Fw 91 116 40 (ay 27):=by
 intro M t B ps es Q h1 h2 h3
 obtain⟨a0,e,h⟩:=Tc clone h1 h2 h3
 cases e
 exact DI h
theorem Za:Kn 91 116 40 (ay 61):=by
 intro M t B ps es s Q h1 h2 h3
 obtain⟨a0,a1,e,h⟩:=XC h1 h2 h3
 cases e
 exact DX h
theorem before:YP (ay 67):=by
 intro M x y Q h1
 obtain⟨a0,a1,e,h⟩:=XR (TN:=40) Y1 h1
 cases e
 exact Qy h
theorem LJ:Ca 91 116 9 (ay 26):=by
 intro M t B ps es Q h1 h2 h3
 obtain⟨a0,e,h⟩:=Sc (TN:=40) h1 h2 h3
 cases e
 exact CG h
end Go.Proofs.YtngfappichkflaaGreat.oI
namespace Go.Proofs
open Go.Shelf
def Tryz.laysM219_ren:Go.Shelf.Ren:=⟨fun | 219=>90 | 217=>114 | 225=>115 | 224=>116 | 267=>117 | 266=>138 | 314=>139 | n=>n,fun | 9=>9 | 3=>3 | 4=>4 | 5=>5 | 46=>107 | 146=>175 | 51=>135 | n=>n,fun | 1=>0 | n=>n⟩
theorem Tryz.laysM219:Go.Proofs.LaysM.n219 Tryz.prog Tryz.laysM219_ren where
 mixed:=by kernel_rfl
 f217:=Tryz.func114.trans (congrArg some (by kernel_rfl))
 f219:=Tryz.func90.trans (congrArg some (by kernel_rfl))
 f224:=Tryz.func116.trans (congrArg some (by kernel_rfl))
 f225:=Tryz.func115.trans (congrArg some (by kernel_rfl))
 f266:=Tryz.func138.trans (congrArg some (by kernel_rfl))
 f267:=Tryz.func117.trans (congrArg some (by kernel_rfl))
 f314:=Tryz.func139.trans (congrArg some (by kernel_rfl))
 t3:=Tryz.underlying3
 a3:=Tryz.isAgg3
 z3:=Tryz.sizeOf3
 v3:=Tryz.zeroValue3
 t4:=Tryz.underlying4
 a4:=Tryz.isAgg4
 z4:=Tryz.sizeOf4
 v4:=Tryz.zeroValue4
 t5:=Tryz.underlying5
 a5:=Tryz.isAgg5
 z5:=Tryz.sizeOf5
 v5:=Tryz.zeroValue5
 t9:=Tryz.underlying9
 a9:=Tryz.isAgg9
 z9:=Tryz.sizeOf9
 v9:=Tryz.zeroValue9
 t46:=Tryz.underlying107
 a46:=Tryz.isAgg107
 z46:=Tryz.sizeOf107
 v46:=Tryz.zeroValue107
 t51:=Tryz.underlying135
 a51:=Tryz.isAgg135
 z51:=Tryz.sizeOf135
 v51:=Tryz.zeroValue135
 t146:=Tryz.underlying175
 a146:=Tryz.isAgg175
 z146:=Tryz.sizeOf175
 v146:=Tryz.zeroValue175
 g1:=by kernel_rfl
 i3:=by kernel_rfl
 i4:=by kernel_rfl
 i5:=by kernel_rfl
 i9:=by kernel_rfl
 i46:=by kernel_rfl
 i51:=by kernel_rfl
 i146:=by kernel_rfl
 m1:=by kernel_rfl
 s1_3:=fun w h=>Go.Proofs.cell_of_shapedOpen_int (zero := #[.int .i64 0]) (t:=3) h (of_decide_eq_true (by kernel_rfl)) (by kernel_rfl) rfl (by kernel_rfl) (by kernel_rfl) Tryz.underlying3
theorem Tryz.index_fact (s sub:ByteArray) (m:Int) (w:World) (hs:s.size<4294967281) (hm:w.cell? ⟨0,0,none⟩=some (.int .i64 m)) :
  Calls Tryz.prog 90 #[.string s,.string sub] w fun e w'=>e=.returned (.int .i64 (Lib.index s.data.toList sub.data.toList))∧w'=w :=
 Any.stringslite_Index { Tryz.laysM219 with } s sub m w hs hm
theorem Tryz.index_var (w:World) (h:w.ShapedOpen Tryz.prog) : ∃ m,w.cell? ⟨0,0,none⟩=some (.int .i64 m):=Tryz.laysM219.s1_3 w h
end Go.Proofs
namespace Go.Proofs.YtngfappichkflaaGreat
open Go Go.Ab Go.RowKit
def ext:Ext := { split:=[96],I1:=[122],Je:=[] }
theorem Ip:Gi Tryz.prog ext where
 ng:=Tm (by kernel_rfl)
 I1:=by
  intro f hf
  have:f=122:=by
   unfold ext at hf
   simp only[has] at hf
   split at hf
   ·rename_i h; exact(Nat.eq_of_beq_eq_true h).symm
   ·cases hf
  subst this
  exact⟨Tryz.f122,111,25,1,4,by kernel_rfl,by kernel_rfl,by kernel_rfl,by kernel_rfl,by kernel_rfl,by kernel_rfl⟩
 Je:=fun f hf=>by cases hf
theorem mixed:Tryz.prog.follows .mixedOrders=true:=by kernel_rfl
def Iv:World→Prop:=fun w=>∃ m,w.cell? ⟨0,0,none⟩=some (.int .i64 m)
theorem akG (w w1 w2:World) (hw:Iv w) (h:∀ c,c<w.heap.size→w2.heap[c]?=w1.heap[c]?) (h1:Iv w1) : Iv w2:=by
 obtain⟨m0,hm0⟩:=hw
 obtain⟨m,hm⟩:=h1
 refine⟨m, ?_⟩
 have hlt:0<w.heap.size:=by
  rcases Nat.lt_or_ge 0 w.heap.size with h | h
  ·exact h
  ·simp[World.cell?,Array.getElem?_eq_none h] at hm0
 simpa [World.cell?,h 0 hlt] using hm
def row (x:List UInt8 × List UInt8 × Int) : aF := { args:=[.sc (.string ⟨⟨x.1⟩⟩),.sc (.string ⟨⟨x.2.1⟩⟩)],ans:=.val (.sc (.int .i64 x.2.2)) }
theorem alf (x:List UInt8 × List UInt8 × Int) (h:Lib.index x.1 x.2.1=x.2.2) (hl:x.1.length<4294967281) : yj Tryz.prog Iv 90 (row x):=by
 refine yj.val rfl fun w ⟨m,hm⟩ ρ us hus=>?_
 cases hus with
 | cons _ u1 _ us r1 hus =>
 cases hus with
 | cons _ u2 _ us r2 hus =>
 cases hus
 obtain⟨rfl,_⟩:=aV r1
 obtain⟨rfl,_⟩:=aV r2
 refine(Tryz.index_fact _ _ m w (by simpa [ByteArray.size] using hl) hm).mono fun e w' hR=>?_
 obtain⟨rfl,rfl⟩:=hR
 exact⟨⟨_,rfl,fun ρ=>by rw[← h]; exact .sc _ rfl⟩,rfl⟩
def known:List (List UInt8 × List UInt8 × Int):=[([99],[98,111],-1),([98,111,98],[98,111],0),([99],[97,110],-1),([98,111,98],[97,110],-1),([53],[97,110],-1),([97],[],0),([98],[],0)]
def T0:Table:=[(90,known.map row)]
theorem afz:(known.all fun x=>decide (Lib.index x.1 x.2.1=x.2.2) && Nat.ble x.1.length 4000)=true:=by kernel_rfl
theorem t0:kN Tryz.prog Iv T0:=by
 intro g hg e he
 have hg:g=(90,known.map row):=by simpa [T0] using hg
 subst hg
 obtain⟨x,hx,rfl⟩:=List.mem_map.1 he
 have:=List.all_eq_true.1 afz x hx
 rw[Bool.and_eq_true,decide_eq_true_iff] at this
 exact alf x this.1 (by have:=bz this.2; omega)
end Go.Proofs.YtngfappichkflaaGreat
namespace Go.Proofs.YtngfappichkflaaGreat.oI
open Go Go.Ab Go.Ab.aD Go.Ab.Crw Go.Ab.Crw.Viw Go.RowKit
theorem own:aeV 30 (ay 17):=by
 intro M v l Q h1 h2 h3
 obtain⟨a0,e,h⟩:=adE (TE:=30) acN h1 h2 h3
 cases e
 exact Jy h
theorem aqs:aak 91 116 (ay 10):=by
 intro M v l Q h1 h2 h3
 obtain⟨a0,e,h⟩:=YC anj apply h1 h2 h3
 cases e
 exact Ll h
theorem ahb:Kk (ay 14):=by
 intro M v xs Q h1 h2 h3
 obtain⟨a0,e,h⟩:=Xa (TN:=40) agb h1 h2 h3
 cases e
 exact Gv h
theorem groups:Ja (ay 40):=by
 intro M v es Q h1 h2 h3
 obtain⟨a0,e,h⟩:=Ym (TN:=40) (TS:=47) h1 h2 h3
 cases e
 exact GH h
theorem fields:Jl 91 116 64 (ay 32):=by
 intro M t B ps es s Q h1 h2 h3
 obtain⟨a0,a1,e,h⟩:=XV (TF:=64) Za groups ahb h1 h2 h3
 cases e
 exact GA h
theorem aqd:afw 91 116 64 (ay 12):=by
 intro M t B ps es s Q h1 h2 h3 h4
 obtain⟨a0,a1,e,h⟩:=aeh fields h1 h2 h3 h4
 cases e
 exact KS h
theorem an8:Uf 91 116 40 (ay 16):=by
 intro M t C ps es Q h1 h2 h3 h4
 obtain⟨a0,e,h⟩:=abu entries groups h1 h2 h3 h4
 cases e
 exact Da h
theorem afb:Im (ay 34):=by
 intro M x y Q h1
 obtain⟨a0,a1,e,h⟩:=Sd (TL:=44) aml or_ h1
 cases e
 exact Gw h
abbrev fL:AV:=.fn (.func 34) [] []
theorem cmpL:oF aZ wM (bT (ay) fL):=ahn afb
theorem fD:SortG aZ 44 3 fL (Sort.insertionSort wM) (fun _ _ _=>True) (ay 80):=by
 intro M b a e d Q h1 h2 h3 h4 h5 h6
 obtain⟨a0,a1,a2,a3,e,h⟩:=Crw.fD (cv:=ay) cmpL h1 h2 h3 h4 h5 h6
 cases e
 exact jI h
theorem afJ:SortG aZ 44 3 fL Sort.reverseRange (fun _ a e=>a<e) (ay 84):=by
 intro M b a e d Q h1 h2 h3 h4 h5 h6
 obtain⟨a0,a1,a2,a3,e,h⟩:=Crw.afJ h1 h2 h3 h4 h5 h6
 cases e
 exact qC h
theorem aaQ:Z0 44 fL wM (ay 109):=by
 intro M b lo hi first d Q h1 h2 h3 h4 h5
 obtain⟨a0,a1,a2,a3,a4,e,h⟩:=Crw.aaQ (cv:=ay) cmpL h1 h2 h3 h4 h5
 cases e
 exact tV h
theorem Zz:SortG aZ 44 3 fL (Sort.heapSort wM) (fun _ a e=>a<e) (ay 81):=by
 intro M b a e d Q h1 h2 h3 h4 h5 h6
 obtain⟨a0,a1,a2,a3,e,h⟩:=Crw.Zz aaQ h1 h2 h3 h4 h5 h6
 cases e
 exact tJ h
theorem Pj:PT 44 fL wM (ay 86):=by
 intro M b a e pv d Q h1 h2 h3 h4 h5 h6
 obtain⟨a0,a1,a2,a3,a4,e,h⟩:=Crw.Pj (cv:=ay) cmpL h1 h2 h3 h4 h5 h6
 cases e
 exact qa h
theorem aao:abq 44 fL wM (ay 87):=by
 intro M b a e pv d Q h1 h2 h3 h4 h5 h6
 obtain⟨a0,a1,a2,a3,a4,e,h⟩:=Crw.aao (cv:=ay) cmpL h1 h2 h3 h4 h5 h6
 cases e
 exact sU h
theorem O5:PP 44 3 fL wM (ay 137):=by
 intro M b s k i j d Q h1 h2 h3 h4 h5 h6
 obtain⟨a0,a1,a2,a3,a4,e,h⟩:=Crw.O5 (cv:=ay) cmpL h1 h2 h3 h4 h5 h6
 cases e
 exact vG h
theorem IY:Jg 44 3 fL wM (ay 113):=by
 intro M b s k i j h d Q h1 h2 h3 h4 h5 h6 h7
 obtain⟨a0,a1,a2,a3,a4,a5,e,h⟩:=Crw.IY O5 h1 h2 h3 h4 h5 h6 h7
 cases e
 exact vF h
theorem Pb:PE 44 3 fL wM (ay 112):=by
 intro M b s k i d Q h1 h2 h3 h4 h5 h6 h7
 obtain⟨a0,a1,a2,a3,e,h⟩:=Crw.Pb IY h1 h2 h3 h4 h5 h6 h7
 cases e
 exact qb h
theorem Qh:Qs 44 fL wM (ay 83):=by
 intro M b a e d Q h1 h2 h3 h4 h5
 obtain⟨a0,a1,a2,a3,e,h⟩:=Crw.Qh Pb IY h1 h2 h3 h4 h5
 cases e
 exact rC h
theorem KL:Lu 44 fL wM (ay 85):=by
 intro M b a e d Q h1 h2 h3 h4 h5
 obtain⟨a0,a1,a2,a3,e,h⟩:=Crw.KL (cv:=ay) cmpL h1 h2 h3 h4 h5
 cases e
 exact nG h
theorem WC:SortG aZ 44 3 fL Sort.breakPatterns (fun _ _ _=>True) (ay 82):=by
 intro M b a e d Q h1 h2 h3 h4 h5 h6
 obtain⟨a0,a1,a2,a3,e,h⟩:=Crw.WC afg al8 h1 h2 h3 h4 h5 h6
 cases e
 exact qj h
theorem abJ:∀ m,ZU 44 m fL wM (ay 62)
 | 0=>by intro h1 h2 h3 h4 h5; omega
 | m + 1=>by
   intro h1 h2 h3 h4 h5 h6 hQ
   obtain⟨a0,a1,a2,a3,a4,e,h⟩:=Crw.abJ (cv:=ay) Qm fD Zz WC Qh afJ KL cmpL Pj aao (abJ m) h1 h2 h3 h4 h5 h6 hQ
   cases e
   exact lY h
theorem PK:P9 (ay 80):=by
 intro M v fv Q h1
 obtain⟨a0,a1,a2,a3,e,h⟩:=Crw.PK (cv:=ay) h1
 cases e
 exact jI h
theorem PY:OZ (ay 62):=by
 intro M v fv Q h1
 obtain⟨a0,a1,a2,a3,a4,e,h⟩:=Crw.PY (cv:=ay) PK h1
 cases e
 exact lY h
theorem QO:Qe fL wM 44 (ay 33):=by
 intro M base v xs Q h1 h2 h3
 obtain⟨a0,a1,e,h⟩:=Crw.QO Qm aa4 abJ PY h1 h2 h3
 cases e
 exact qF h
theorem am4:ZO 91 116 44 (ay 13):=by
 intro M t C ps es Q h1 h2 h3
 obtain⟨a0,e,h⟩:=acA (TF:=64) LJ fields QO h1 h2 h3
 cases e
 exact Ju h
end Go.Proofs.YtngfappichkflaaGreat.oI
namespace Go.Proofs.YtngfappichkflaaGreat.oI
open Go Go.Ab Go.Ab.aD Go.Ab.Crw Go.RowKit
theorem JV {α:Type} {R:sJ α} {M:RM} {S:Nat→Prop} {p:α→Prop} : ∀ (n:Nat) (ds:List AV),ds.length=n * R.size→(∀ i,i<n→∃ a,p a∧R.rel M ((ds.drop (i * R.size)).take R.size) a S) →
  ∃ xs:List α,xs.length=n∧ek R M S ds xs∧∀ x∈xs,p x
 | 0,ds,hl,_=>by
   have:ds=[]:=by simpa using hl
   subst this
   exact⟨[],rfl,.nil,by simp⟩
 | n + 1,ds,hl,h=>by
   obtain⟨a,pa,ha⟩:=h 0 (by omega)
   simp only[Nat.zero_mul,List.drop_zero] at ha
   have hl' : (ds.drop R.size).length=n * R.size:=by rw[List.length_drop,hl,Nat.succ_mul]; omega
   obtain⟨xs,h1,h2,h3⟩:=JV n (ds.drop R.size) hl' fun i hi=>by
    obtain⟨b,pb,hb⟩:=h (i + 1) (by omega)
    refine⟨b,pb, ?_⟩
    rw[List.drop_drop,show R.size + i * R.size=(i + 1) * R.size by rw[Nat.succ_mul,Nat.add_comm]]
    exact hb
   refine⟨a :: xs,by simp[h1], ?_,fun x hx=>?_⟩
   ·have:=ek.cons ha h2
    rwa [List.take_append_drop] at this
   ·rcases List.mem_cons.1 hx with rfl | hx
    ·exact pa
    ·exact h3 x hx
theorem cells3:Tryz.prog.cellsOf 3=1:=by kernel_rfl
theorem ajU:Tryz.prog.cellsOf 9=1:=by kernel_rfl
theorem ag0:Tryz.prog.cellsOf 25=1:=by kernel_rfl
theorem I9:Tryz.prog.cellsOf 27=2:=by kernel_rfl
theorem aht:Tryz.prog.cellsOf 28=1:=by kernel_rfl
theorem PG:Tryz.prog.cellsOf 30=7:=by kernel_rfl
theorem W9 {M:RM} {cs:List AV} (h:Fits Tryz.prog M 27 cs) : ∃ d:aD,cs=eQ.cells d∧d.2<2 ^ 64:=by
 obtain⟨hl,hf⟩:=h.OP Tryz.underlying27
 rw[I9] at hl
 match cs,hl with
 | [a,b],_ =>
   have f0:Fits Tryz.prog M 3 (([a,b].drop 0).take (Tryz.prog.cellsOf 3)):=hf 0 _ rfl
   have f1:Fits Tryz.prog M 25 (([a,b].drop 1).take (Tryz.prog.cellsOf 25)):=hf 1 _ rfl
   rw[cells3] at f0
   rw[ag0] at f1
   obtain⟨n,e,_,_⟩:=f0.Qz Tryz.underlying3
   obtain⟨m,e',g1,g2⟩:=f1.Qz Tryz.underlying25
   have g1:(0:Int)≤m:=g1
   have g2:m≤(18446744073709551615:Int):=g2
   obtain⟨k,rfl⟩:=Int.eq_ofNat_of_zero_le g1
   cases e; cases e'
   exact⟨(n,k),rfl,by show k<2 ^ 64; omega⟩
theorem abW {M:RM} {cs:List AV} (h:Fits Tryz.prog M 28 cs) : ∃ v,∃ l:List aD,cs=[v]∧Sl eQ M v l∧∀ d∈l,d.2<2 ^ 64:=by
 obtain⟨v,n,ds,rfl,hs,hb,he⟩:=h.RG Tryz.underlying28 (by rw[I9]; decide)
 rw[I9] at hs he
 obtain⟨xs,rfl,rfl,hp⟩:=Rt (size:=2) eQ.cells (fun d:aD=>d.2<2 ^ 64) (fun _=>rfl) n ds hs.length fun i hi=>by
  obtain⟨d,e,h⟩:=W9 (he i hi)
  exact⟨d,h,e⟩
 exact⟨v,xs,rfl,hs,hp⟩
def aeK (x:Ev) : Prop:=x.1.1.2<2 ^ 64∧x.1.2.2.1.length≤reachBytes∧x.1.2.2.2.1.length≤reachBytes∧x.1.2.2.2.2.length≤reachBytes∧∀ d∈x.2,d.2<2 ^ 64
theorem agR {M:RM} {cs:List AV} (h:Fits Tryz.prog M 30 cs) : ∃ e kv ks,cs=gF e kv∧Sl eQ M kv ks∧aeK (e,ks):=by
 obtain⟨hl,hf⟩:=h.OP Tryz.underlying30
 rw[PG] at hl
 match cs,hl with
 | [a,b,c,d,e,f,g],_ =>
   have f0:Fits Tryz.prog M 27 (([a,b,c,d,e,f,g].drop 0).take (Tryz.prog.cellsOf 27)):=hf 0 _ rfl
   have f1:Fits Tryz.prog M 3 (([a,b,c,d,e,f,g].drop 2).take (Tryz.prog.cellsOf 3)):=hf 1 _ rfl
   have f2:Fits Tryz.prog M 9 (([a,b,c,d,e,f,g].drop 3).take (Tryz.prog.cellsOf 9)):=hf 2 _ rfl
   have f3:Fits Tryz.prog M 9 (([a,b,c,d,e,f,g].drop 4).take (Tryz.prog.cellsOf 9)):=hf 3 _ rfl
   have f4:Fits Tryz.prog M 9 (([a,b,c,d,e,f,g].drop 5).take (Tryz.prog.cellsOf 9)):=hf 4 _ rfl
   have f5:Fits Tryz.prog M 28 (([a,b,c,d,e,f,g].drop 6).take (Tryz.prog.cellsOf 28)):=hf 5 _ rfl
   rw[I9] at f0
   rw[cells3] at f1
   rw[ajU] at f2 f3 f4
   rw[aht] at f5
   obtain⟨dd,e0,g0⟩:=W9 f0
   obtain⟨op,e1,_,_⟩:=f1.Qz Tryz.underlying3
   obtain⟨s2,e2,g2⟩:=f2.Qt Tryz.underlying9
   obtain⟨s3,e3,g3⟩:=f3.Qt Tryz.underlying9
   obtain⟨s4,e4,g4⟩:=f4.Qt Tryz.underlying9
   obtain⟨kv,ks,e5,hk,g5⟩:=abW f5
   cases e0; cases e1; cases e2; cases e3; cases e4; cases e5
   exact⟨(dd,(op,(s2,(s3,s4)))),_,ks,rfl,hk,g0,g2,g3,g4,g5⟩
theorem aeP {M:RM} {cs:List AV} (h:Fits Tryz.prog M 32 cs) : ∃ v,∃ l:List Ev,cs=[v]∧iy yK M v l (fun d=>d<M.next)∧∀ x∈l,aeK x:=by
 obtain⟨v,n,ds,rfl,hs,hb,he⟩:=h.RG Tryz.underlying32 (by rw[PG]; decide)
 rw[PG] at hs he
 obtain⟨xs,hn,hr,hp⟩:=JV (R:=yK) (M:=M) (S:=fun d=>d<M.next) (p:=aeK) n ds hs.length fun i hi=>by
  obtain⟨e,kv,ks,e1,hk,ho⟩:=agR (he i hi)
  refine⟨(e,ks),ho, ?_⟩
  show yK.rel M ((ds.drop (i * 7)).take 7) (e,ks) _
  rw[e1]
  exact acX hk (fun d hd=>aL.lt hk d hd)
 subst hn
 exact⟨v,xs,rfl,⟨ds,hs,fun d hd=>hs.lt d hd,hr⟩,hp⟩
end Go.Proofs.YtngfappichkflaaGreat.oI
namespace Go.Proofs.YtngfappichkflaaGreat
open Go Go.Ab Go.RowKit
def c0:AV:=.sc (.int .i64 0)
def c1:AV:=.sc (.int .u64 1)
def c2:AV:=.sc (.string ⟨⟨ [99] ⟩⟩)
def c3:AV:=.sc (.string ⟨⟨ [102,110] ⟩⟩)
def c4:AV:=.sc (.string ⟨⟨ [65,110,110] ⟩⟩)
def c5:AV:=.sc (.int .i64 1)
def c6:AV:=.sc (.slice none 0 0)
def c7:AV:=.agg [c0,c1,c5,c2,c3,c4,c6]
def c8:AV:=.sc (.string ⟨⟨ [66,111,98] ⟩⟩)
def c9:AV:=.agg [c5,c1,c5,c2,c3,c8,c6]
def c10:AV:=.sc (.int .u64 2)
def c11:AV:=.sc (.string ⟨⟨ [116,101,108] ⟩⟩)
def c12:AV:=.sc (.string ⟨⟨ [53] ⟩⟩)
def c13:AV:=.agg [c0,c10,c5,c2,c11,c12,c6]
def c14:AV:=.ptr 1 0
def c15:Option AV:=some c6
def c16:Tree AV:=.node .leaf c15 .leaf
def c17:Tree AV:=.node c16 c15 .leaf
def c18:Tree AV:=.node c17 c15 c16
def c19:Tree AV:=.node c16 c15 c16
def c20:Tree AV:=.node c18 c15 c19
def c21:Tree AV:=.node c19 c15 c19
def tL:Tree AV:=.node c20 c15 c21
def c23:AV:=.sc (.int .u64 0)
def c24:Option AV:=some c23
def c25:Tree AV:=.node .leaf c24 .leaf
def c26:Tree AV:=.node c25 c24 c25
def c27:Tree AV:=.node c26 c24 c26
def c28:Tree AV:=.node c27 c24 c27
def kP:dz:=.row 32 (.node tL c24 c28) [] false 116 0
def wN:AV:=.ptr 4 0
def c31:AV:=.ptr 16 0
def c32:AV:=.agg [c0,c1]
def oh:AV:=.sc (.bool true)
def c34:AV:=.agg [c5,c1]
def jF:dz:=.row 2 c17 [c6] false 111 0
def dI:Option AV:=some c1
def c37:Tree AV:=.node .leaf dI .leaf
def nA:dz:=.row 1 c37 [] true 25 0
def zl:Option AV:=some (.emp 10)
def c40:Tree AV:=.node .leaf zl .leaf
def dJ:AV:=.tup []
def c42:AV:=.ptr 4 2
def qM:dz:=.row 32 (.node tL dI c28) [] false 116 0
def c44:AV:=.ptr 16 2
def mg:AV:=.sc (.bool false)
def c46:AV:=.slc 12 0 1 (.op 5)
def Rp:Option AV:=some c3
def QV:Tree AV:=.node .leaf Rp .leaf
def c49:Option AV:=some c0
def c50:Option AV:=some c4
def c51:Tree AV:=.node .leaf c50 .leaf
def JL:Option AV:=some c2
def c53:dz:=.row 5 (.node (.node QV dI .leaf) c49 (.node c51 JL .leaf)) [] true 40 0
def BP:AV:=.slc 14 0 1 (.op 5)
def yM:AV:=.sc (.int .i64 (-1))
def c56:Tree AV:=.node .leaf (some (.slc 54 0 1 (.op 1))) .leaf
def lq:Option AV:=some (.emp 54)
def c58:Tree AV:=.node .leaf lq .leaf
def c59:AV:=.ptr 62 0
def fO:Tree AV:=.node c27 dI c27
def eF:Option AV:=some c10
def YU:Tree AV:=.node .leaf eF .leaf
def gM:dz:=.row 1 YU [] true 25 0
def c64:Option AV:=some (.emp 100)
def c65:AV:=.slc 57 0 1 (.op 5)
def Zf:AV:=.slc 58 0 2 (.op 5)
def yA:Tree AV:=.node .leaf JL .leaf
def c68:Option AV:=some c8
def MG:Tree AV:=.node .leaf c68 .leaf
def c70:Option AV:=some c5
def vC:dz:=.row 10 (.node (.node (.node yA Rp .leaf) dI (.node MG c70 .leaf)) c49 (.node (.node QV c50 .leaf) JL c37)) [] true 40 0
def c72:AV:=.slc 60 0 2 (.op 5)
def Dv:Tree AV:=.node .leaf c70 .leaf
def c74:dz:=.row 2 (.node Dv c49 .leaf) [c0] false 3 0
def c75:Tree AV:=.node .leaf c49 .leaf
def c76:AV:=.agg [c0,c10]
def c77:AV:=.slc 104 0 3 (.op 5)
def c78:Option AV:=some c11
def VF:Tree AV:=.node .leaf c78 .leaf
def c80:Tree AV:=.node .leaf (some c12) .leaf
def iI:dz:=.row 15 (.node (.node (.node yA Rp YU) dI (.node MG c70 VF)) c49 (.node (.node QV c50 yA) JL (.node c75 dI c80))) [] true 40 0
def pg:AV:=.slc 106 0 3 (.op 5)
def c83:AV:=.slc 184 0 3 (.op 5)
def c84:AV:=.slc 187 0 3 (.op 5)
def c85:AV:=.sc (.string ⟨⟨ [49] ⟩⟩)
def c86:Option AV:=some c85
def c87:Tree AV:=.node .leaf c86 .leaf
def qB:AV:=.sc (.string ⟨⟨ [98] ⟩⟩)
def NT:Option AV:=some qB
def vQ:dz:=.row 5 (.node (.node VF dI .leaf) c49 (.node c87 NT .leaf)) [] true 40 0
def c91:Tree AV:=.node .leaf NT .leaf
def zo:AV:=.sc (.string ⟨⟨ [97] ⟩⟩)
def c93:Option AV:=some zo
def nz:dz:=.row 10 (.node (.node (.node c91 Rp .leaf) eF (.node c87 c49 .leaf)) c49 (.node (.node VF NT .leaf) c93 c37)) [] true 40 0
def c95:Option AV:=some yM
def c96:Tree AV:=.node .leaf c95 .leaf
def iA:AV:=.ptr 2 0
def c98:AV:=.slc 115 0 3 (.op 5)
def c99:AV:=.slc 154 0 3 (.op 5)
def ajG:AV:=.slc 215 0 3 (.op 5)
def ake:AV:=.slc 257 0 3 (.op 5)
def alr:AV:=.slc 70 0 1 (.op 5)
def alW:Tree AV:=.node c91 c93 .leaf
def E9:dz:=.row 5 (.node (.node QV eF .leaf) c49 alW) [] true 40 0
def c105:AV:=.slc 89 0 1 (.op 5)
def EZ:dz:=.row 5 (.node (.node VF eF .leaf) c49 (.node c80 JL .leaf)) [] true 40 0
def c107:AV:=.slc 128 0 1 (.op 5)
def aky:AV:=.slc 123 0 2 (.op 5)
def c109:AV:=.slc 167 0 1 (.op 5)
def aiY:AV:=.slc 162 0 2 (.op 5)
def aik:AV:=.slc 228 0 1 (.op 5)
def akH:AV:=.slc 223 0 2 (.op 5)
def aiS:AV:=.slc 270 0 1 (.op 5)
def ajC:AV:=.slc 265 0 2 (.op 5)
def al6:AV:=.slc 76 0 1 (.op 5)
def c116:AV:=.slc 94 0 1 (.op 5)
def c117:dz:=.row 1 yA [] true 9 0
def ae0:dz:=.row 2 alW [] true 9 0
def c119:AV:=.slc 182 0 1 (.op 3)
def IA:AV:=.sc (.int .i64 2)
def abo:Option AV:=some IA
def ai0:AV:=.sc (.string ⟨⟨ [66,79] ⟩⟩)
def Xh:AV:=.sc (.string ⟨⟨ [98,111] ⟩⟩)
def c124:AV:=.sc (.string ⟨⟨ [98,111,98] ⟩⟩)
def En:AV:=.sc (.string ⟨⟨ [97,110] ⟩⟩)
def ad6:AV:=.agg [c0,c1,c5,qB,c11,c85,c6]
def c127:AV:=.agg [c0,c10,c5,zo,c3,qB,c6]
def sV:AV:=.sc (.string ⟨⟨ [] ⟩⟩)
def akU:AV:=.slc 112 0 1 (.op 5)
def c130:AV:=.slc 130 0 1 (.op 5)
def c131:AV:=.slc 118 0 1 (.op 5)
def alk:AV:=.slc 135 0 1 (.op 5)
def ad1:AV:=.slc 145 0 2 (.op 5)
def VW:AV:=.agg [c5,c1,c2,c3,c8]
def Zo:AV:=.tup [VW,oh]
def afe:AV:=.agg [c0,c10,c2,c11,c12]
def TQ:AV:=.tup [afe,oh]
def c138:AV:=.agg [c0,c10,zo,c3,qB]
def c139:AV:=.tup [c138,oh]
def aaF:AV:=.agg [c0,c1,qB,c11,c85]
def c141:AV:=.tup [aaF,oh]
def aaU:AV:=.agg [c0,c1,c2,c3,c4]
def c143:AV:=.ptr 3 0
def Am:Tree AV:=.node QV c70 c16
def c145:AV:=.ptr 15 0
def c146:AV:=.ptr 61 0
def Ij:Tree AV:=.node VF c70 c16
def c148:Tree AV:=.node .leaf c93 .leaf
def aj6:AV:=.slc 139 0 2 (.op 3)
def VG:dz:=.row 6 (.node (.node VF c68 Dv) Rp (.node c80 abo .leaf)) [] true 64 0
def aia:dz:=.row 3 (.node c91 Rp Dv) [] true 64 0
def c152:dz:=.row 3 (.node c87 c78 Dv) [] true 64 0
def aeZ:AV:=.slc 102 0 2 (.op 3)
def c154:AV:=.tup [oh,c0]
def B1:Table:=[(11,[{args:=[c0,c1,c2,c3,c4],nx:=0,ans:=.val c7},{args:=[c5,c1,c2,c3,c8],nx:=0,ans:=.val c9},{args:=[c0,c10,c2,c11,c12],nx:=0,ans:=.val c13}]),(47,[{args:=[],ans:=.rows 1 c14 [(1,kP)] 2},{args:=[],ans:=.rows 4 wN [(4,kP)] 5},{args:=[],ans:=.rows 16 c31 [(16,kP)] 17}]),(69,[{args:=[c32],nx:=5,ans:=.val oh},{args:=[c34],nx:=17,ans:=.val oh}]),(70,[{args:=[c2,c3,c4],nx:=5,ans:=.val oh},{args:=[c2,c3,c8],nx:=17,ans:=.val oh}]),(91,[{args:=[(.slc 6 0 2 (.ex 2))],fp:=[(6,jF)],nx:=7,ans:=.val c6},{args:=[(.slc 8 0 2 (.ex 2))],fp:=[(8,jF)],nx:=9,ans:=.val c6},{args:=[(.slc 10 0 2 (.ex 2))],fp:=[(10,jF)],nx:=11,ans:=.val c6},{args:=[(.slc 12 0 2 (.ex 2))],fp:=[(12,jF)],nx:=13,ans:=.val c6},{args:=[(.slc 14 0 2 (.ex 2))],fp:=[(14,jF)],nx:=15,ans:=.val c6},{args:=[(.slc 16 0 2 (.ex 2))],fp:=[(16,jF)],nx:=17,ans:=.val c6},{args:=[(.slc 18 0 2 (.ex 2))],fp:=[(18,jF)],nx:=19,ans:=.val c6},{args:=[(.slc 20 0 2 (.ex 2))],fp:=[(20,jF)],nx:=21,ans:=.val c6},{args:=[(.slc 22 0 2 (.ex 2))],fp:=[(22,jF)],nx:=23,ans:=.val c6},{args:=[(.slc 24 0 2 (.ex 2))],fp:=[(24,jF)],nx:=25,ans:=.val c6},{args:=[(.slc 26 0 2 (.ex 2))],fp:=[(26,jF)],nx:=27,ans:=.val c6},{args:=[(.slc 28 0 2 (.ex 2))],fp:=[(28,jF)],nx:=29,ans:=.val c6},{args:=[(.slc 30 0 2 (.ex 2))],fp:=[(30,jF)],nx:=31,ans:=.val c6},{args:=[(.slc 32 0 2 (.ex 2))],fp:=[(32,jF)],nx:=33,ans:=.val c6},{args:=[(.slc 34 0 2 (.ex 2))],fp:=[(34,jF)],nx:=35,ans:=.val c6},{args:=[(.slc 36 0 2 (.ex 2))],fp:=[(36,jF)],nx:=37,ans:=.val c6},{args:=[(.slc 18 0 2 (.ex 2))],fp:=[(10,nA),(18,(.row 2 (.node c40 c15 .leaf) [c6] false 111 0))],nx:=19,ans:=.val c6}]),(92,[{args:=[c6],nx:=7,ans:=.val dJ}]),(93,[{args:=[c6],nx:=7,ans:=.val c6}]),(94,[{args:=[wN],fp:=[(4,kP)],nx:=7,ans:=.val dJ},{args:=[c42],fp:=[(4,kP)],nx:=9,ans:=.val dJ},{args:=[(.ptr 4 4)],fp:=[(4,kP)],nx:=11,ans:=.val dJ},{args:=[(.ptr 4 6)],fp:=[(4,kP)],nx:=13,ans:=.val dJ},{args:=[(.ptr 4 8)],fp:=[(4,kP)],nx:=15,ans:=.val dJ},{args:=[(.ptr 4 10)],fp:=[(4,kP)],nx:=17,ans:=.val dJ},{args:=[(.ptr 4 12)],fp:=[(4,kP)],nx:=19,ans:=.val dJ},{args:=[(.ptr 4 14)],fp:=[(4,kP)],nx:=21,ans:=.val dJ},{args:=[(.ptr 4 16)],fp:=[(4,kP)],nx:=23,ans:=.val dJ},{args:=[(.ptr 4 18)],fp:=[(4,kP)],nx:=25,ans:=.val dJ},{args:=[(.ptr 4 20)],fp:=[(4,kP)],nx:=27,ans:=.val dJ},{args:=[(.ptr 4 22)],fp:=[(4,kP)],nx:=29,ans:=.val dJ},{args:=[(.ptr 4 24)],fp:=[(4,kP)],nx:=31,ans:=.val dJ},{args:=[(.ptr 4 26)],fp:=[(4,kP)],nx:=33,ans:=.val dJ},{args:=[(.ptr 4 28)],fp:=[(4,kP)],nx:=35,ans:=.val dJ},{args:=[(.ptr 4 30)],fp:=[(4,kP)],nx:=37,ans:=.val dJ},{args:=[(.ptr 9 0)],fp:=[(10,nA),(9,(.row 2 (.node (.node .leaf (some (.slc 10 0 1 (.op 1))) .leaf) c24 .leaf) [c23,c6] false 113 0))],ans:=.rows 11 dJ [(9,(.row 2 (.node c40 dI .leaf) [c23,c6] false 113 0))] 11},{args:=[c31],fp:=[(16,qM)],nx:=19,ans:=.val dJ},{args:=[c44],fp:=[(16,qM)],nx:=21,ans:=.val dJ},{args:=[(.ptr 16 4)],fp:=[(16,qM)],nx:=23,ans:=.val dJ},{args:=[(.ptr 16 6)],fp:=[(16,qM)],nx:=25,ans:=.val dJ},{args:=[(.ptr 16 8)],fp:=[(16,qM)],nx:=27,ans:=.val dJ},{args:=[(.ptr 16 10)],fp:=[(16,qM)],nx:=29,ans:=.val dJ},{args:=[(.ptr 16 12)],fp:=[(16,qM)],nx:=31,ans:=.val dJ},{args:=[(.ptr 16 14)],fp:=[(16,qM)],nx:=33,ans:=.val dJ}]),(73,[{args:=[c14,c1],fp:=[(1,kP)],nx:=12,ans:=.val mg}]),(46,[{args:=[c6],nx:=12,ans:=.val c6},{args:=[c46],fp:=[(12,c53)],ans:=.rows 13 BP [(14,c53)] 15}]),(74,[{args:=[c46,c0,c5,c5,(.fn (.func 53) [] [])],fp:=[(12,c53)],nx:=13,ans:=.val dJ}]),(77,[{args:=[c6,c32],nx:=17,ans:=.val yM}]),(57,[{args:=[wN,c14],fp:=[(1,kP),(10,nA),(4,(.row 32 (.node (.node c20 zl c21) dI c28) [] false 116 0))],nx:=15,ans:=.val mg}])]
theorem b1:mU Tryz.prog ext T0 100000 200 B1=true:=by kernel_rfl
def T1:Table:=B1++T0
theorem t1:kN Tryz.prog Iv T1:=t0.add Ip mixed b1
def B2:Table:=[(94,[{args:=[(.ptr 16 16)],fp:=[(16,qM)],nx:=35,ans:=.val dJ},{args:=[(.ptr 16 18)],fp:=[(16,qM)],nx:=37,ans:=.val dJ},{args:=[(.ptr 16 20)],fp:=[(16,qM)],nx:=39,ans:=.val dJ},{args:=[(.ptr 16 22)],fp:=[(16,qM)],nx:=41,ans:=.val dJ},{args:=[(.ptr 16 24)],fp:=[(16,qM)],nx:=43,ans:=.val dJ},{args:=[(.ptr 16 26)],fp:=[(16,qM)],nx:=45,ans:=.val dJ},{args:=[(.ptr 16 28)],fp:=[(16,qM)],nx:=47,ans:=.val dJ},{args:=[(.ptr 16 30)],fp:=[(16,qM)],nx:=49,ans:=.val dJ},{args:=[(.ptr 53 0)],fp:=[(54,nA),(53,(.row 2 (.node c56 c24 .leaf) [c23,c6] false 113 0))],ans:=.rows 55 dJ [(53,(.row 2 (.node c58 dI .leaf) [c23,c6] false 113 0))] 55},{args:=[c59],fp:=[(62,qM)],nx:=65,ans:=.val dJ},{args:=[(.ptr 62 2)],fp:=[(62,(.row 32 (.node tL dI fO) [] false 116 0))],nx:=67,ans:=.val dJ},{args:=[(.ptr 62 4)],fp:=[(62,(.row 32 (.node tL dI fO) [] false 116 0))],nx:=69,ans:=.val dJ},{args:=[(.ptr 62 6)],fp:=[(62,(.row 32 (.node tL dI fO) [] false 116 0))],nx:=71,ans:=.val dJ},{args:=[(.ptr 62 8)],fp:=[(62,(.row 32 (.node tL dI fO) [] false 116 0))],nx:=73,ans:=.val dJ},{args:=[(.ptr 62 10)],fp:=[(62,(.row 32 (.node tL dI fO) [] false 116 0))],nx:=75,ans:=.val dJ},{args:=[(.ptr 62 12)],fp:=[(62,(.row 32 (.node tL dI fO) [] false 116 0))],nx:=77,ans:=.val dJ},{args:=[(.ptr 62 14)],fp:=[(62,(.row 32 (.node tL dI fO) [] false 116 0))],nx:=79,ans:=.val dJ},{args:=[(.ptr 62 16)],fp:=[(62,(.row 32 (.node tL dI fO) [] false 116 0))],nx:=81,ans:=.val dJ},{args:=[(.ptr 62 18)],fp:=[(62,(.row 32 (.node tL dI fO) [] false 116 0))],nx:=83,ans:=.val dJ},{args:=[(.ptr 62 20)],fp:=[(62,(.row 32 (.node tL dI fO) [] false 116 0))],nx:=85,ans:=.val dJ},{args:=[(.ptr 62 22)],fp:=[(62,(.row 32 (.node tL dI fO) [] false 116 0))],nx:=87,ans:=.val dJ},{args:=[(.ptr 62 24)],fp:=[(62,(.row 32 (.node tL dI fO) [] false 116 0))],nx:=89,ans:=.val dJ},{args:=[(.ptr 62 26)],fp:=[(62,(.row 32 (.node tL dI fO) [] false 116 0))],nx:=91,ans:=.val dJ},{args:=[(.ptr 62 28)],fp:=[(62,(.row 32 (.node tL dI fO) [] false 116 0))],nx:=93,ans:=.val dJ},{args:=[(.ptr 62 30)],fp:=[(62,(.row 32 (.node tL dI fO) [] false 116 0))],nx:=95,ans:=.val dJ},{args:=[(.ptr 99 0)],fp:=[(100,gM),(99,(.row 2 (.node (.node .leaf (some (.slc 100 0 1 (.op 1))) .leaf) dI .leaf) [c23,c6] false 113 0))],ans:=.rows 101 dJ [(99,(.row 2 (.node (.node .leaf c64 .leaf) eF .leaf) [c23,c6] false 113 0))] 101}]),(91,[{args:=[(.slc 38 0 2 (.ex 2))],fp:=[(38,jF)],nx:=39,ans:=.val c6},{args:=[(.slc 40 0 2 (.ex 2))],fp:=[(40,jF)],nx:=41,ans:=.val c6},{args:=[(.slc 42 0 2 (.ex 2))],fp:=[(42,jF)],nx:=43,ans:=.val c6},{args:=[(.slc 44 0 2 (.ex 2))],fp:=[(44,jF)],nx:=45,ans:=.val c6},{args:=[(.slc 46 0 2 (.ex 2))],fp:=[(46,jF)],nx:=47,ans:=.val c6},{args:=[(.slc 48 0 2 (.ex 2))],fp:=[(48,jF)],nx:=49,ans:=.val c6},{args:=[(.slc 64 0 2 (.ex 2))],fp:=[(64,jF)],nx:=65,ans:=.val c6},{args:=[(.slc 66 0 2 (.ex 2))],fp:=[(54,nA),(66,(.row 2 (.node c58 c15 .leaf) [c6] false 111 0))],nx:=67,ans:=.val c6},{args:=[(.slc 68 0 2 (.ex 2))],fp:=[(68,jF)],nx:=69,ans:=.val c6},{args:=[(.slc 70 0 2 (.ex 2))],fp:=[(70,jF)],nx:=71,ans:=.val c6},{args:=[(.slc 72 0 2 (.ex 2))],fp:=[(72,jF)],nx:=73,ans:=.val c6},{args:=[(.slc 74 0 2 (.ex 2))],fp:=[(74,jF)],nx:=75,ans:=.val c6},{args:=[(.slc 76 0 2 (.ex 2))],fp:=[(76,jF)],nx:=77,ans:=.val c6},{args:=[(.slc 78 0 2 (.ex 2))],fp:=[(78,jF)],nx:=79,ans:=.val c6},{args:=[(.slc 80 0 2 (.ex 2))],fp:=[(80,jF)],nx:=81,ans:=.val c6},{args:=[(.slc 82 0 2 (.ex 2))],fp:=[(82,jF)],nx:=83,ans:=.val c6},{args:=[(.slc 84 0 2 (.ex 2))],fp:=[(84,jF)],nx:=85,ans:=.val c6},{args:=[(.slc 86 0 2 (.ex 2))],fp:=[(86,jF)],nx:=87,ans:=.val c6},{args:=[(.slc 88 0 2 (.ex 2))],fp:=[(88,jF)],nx:=89,ans:=.val c6},{args:=[(.slc 90 0 2 (.ex 2))],fp:=[(90,jF)],nx:=91,ans:=.val c6},{args:=[(.slc 92 0 2 (.ex 2))],fp:=[(92,jF)],nx:=93,ans:=.val c6},{args:=[(.slc 94 0 2 (.ex 2))],fp:=[(94,jF)],nx:=95,ans:=.val c6}]),(73,[{args:=[c42,c1],fp:=[(10,nA),(4,(.row 32 (.node (.node c20 zl c21) dI c28) [] false 116 0))],nx:=56,ans:=.val mg}]),(46,[{args:=[BP],fp:=[(14,c53)],ans:=.rows 56 c65 [(57,c53)] 58},{args:=[Zf],fp:=[(58,vC)],ans:=.rows 59 c72 [(60,vC)] 61}]),(36,[{args:=[c2,c2],nx:=61,ans:=.val c0},{args:=[c3,c3],nx:=61,ans:=.val c0}]),(35,[{args:=[(.slc 63 0 2 (.ex 2))],fp:=[(63,c74)],nx:=64,ans:=.val c5},{args:=[(.slc 61 0 3 (.ex 3))],fp:=[(61,(.row 3 (.node c75 c49 Dv) [c0] false 3 0))],nx:=62,ans:=.val c5}]),(77,[{args:=[c6,c34],nx:=63,ans:=.val yM}]),(57,[{args:=[c31,wN],fp:=[(10,nA),(4,(.row 32 (.node (.node c20 zl c21) dI c28) [] false 116 0)),(54,nA),(16,(.row 32 (.node (.node (.node c18 lq c19) c15 c21) dI fO) [] false 116 0))],nx:=61,ans:=.val mg}]),(69,[{args:=[c76],nx:=63,ans:=.val oh}]),(70,[{args:=[c2,c11,c12],nx:=63,ans:=.val oh}]),(47,[{args:=[],ans:=.rows 62 c59 [(62,kP)] 63}])]
theorem b2:mU Tryz.prog ext T1 100000 200 B2=true:=by kernel_rfl
def T2:Table:=B2++T1
theorem t2:kN Tryz.prog Iv T2:=t1.add Ip mixed b2
def B3:Table:=[(73,[{args:=[c31,c10],fp:=[(54,nA),(16,(.row 32 (.node (.node (.node c18 lq c19) c15 c21) dI fO) [] false 116 0))],nx:=102,ans:=.val mg},{args:=[wN,c10],fp:=[(10,nA),(4,(.row 32 (.node (.node c20 zl c21) dI c28) [] false 116 0))],nx:=56,ans:=.val mg}]),(46,[{args:=[c72],fp:=[(60,vC)],ans:=.rows 102 (.slc 103 0 2 (.op 5)) [(103,vC)] 104},{args:=[c77],fp:=[(104,iI)],ans:=.rows 105 pg [(106,iI)] 107},{args:=[pg],fp:=[(106,iI)],ans:=.rows 183 c83 [(184,iI)] 185},{args:=[pg],fp:=[(106,iI)],ans:=.rows 186 c84 [(187,iI)] 188},{args:=[c46],fp:=[(12,vQ)],ans:=.rows 13 BP [(14,vQ)] 15},{args:=[BP],fp:=[(14,vQ)],ans:=.rows 56 c65 [(57,vQ)] 58},{args:=[Zf],fp:=[(58,nz)],ans:=.rows 59 c72 [(60,nz)] 61}]),(36,[{args:=[c11,c3],nx:=107,ans:=.val c5},{args:=[zo,qB],nx:=61,ans:=.val yM},{args:=[c3,c11],nx:=61,ans:=.val yM},{args:=[qB,qB],nx:=105,ans:=.val c0}]),(35,[{args:=[(.slc 109 0 2 (.ex 2))],fp:=[(109,(.row 2 (.node c96 c70 .leaf) [c0] false 3 0))],nx:=110,ans:=.val c5},{args:=[(.slc 107 0 3 (.ex 3))],fp:=[(107,(.row 3 (.node Dv c49 Dv) [c0] false 3 0))],nx:=108,ans:=.val c5},{args:=[(.slc 63 0 2 (.ex 2))],fp:=[(63,(.row 2 (.node c75 c70 .leaf) [c0] false 3 0))],nx:=64,ans:=.val c5},{args:=[(.slc 61 0 3 (.ex 3))],fp:=[(61,(.row 3 (.node c96 c95 Dv) [c0] false 3 0))],nx:=62,ans:=.val yM}]),(77,[{args:=[c6,c76],nx:=109,ans:=.val yM}]),(57,[{args:=[c59,c31],fp:=[(54,nA),(16,(.row 32 (.node (.node (.node c18 lq c19) c15 c21) dI fO) [] false 116 0)),(100,gM),(62,(.row 32 (.node (.node c20 c64 c21) eF fO) [] false 116 0))],nx:=107,ans:=.val mg},{args:=[c31,wN],fp:=[(10,nA),(4,(.row 32 (.node (.node c20 zl c21) dI c28) [] false 116 0)),(54,gM),(16,(.row 32 (.node (.node c20 lq c21) eF c28) [] false 116 0))],nx:=61,ans:=.val mg}]),(61,[{args:=[iA,c2],fp:=[(106,iI),(100,gM),(62,(.row 32 (.node (.node c20 c64 c21) eF fO) [] false 116 0)),(2,(.row 2 (.node (.node .leaf (some pg) .leaf) (some c59) .leaf) [] false 91 0))],ans:=.rows 107 c98 [(115,iI)] 116},{args:=[iA,c2],fp:=[(106,iI),(100,gM),(62,(.row 32 (.node (.node c20 c64 c21) eF fO) [] false 116 0)),(2,(.row 2 (.node (.node .leaf (some pg) .leaf) (some c59) .leaf) [] false 91 0))],ans:=.rows 146 c99 [(154,iI)] 155},{args:=[iA,c2],fp:=[(106,iI),(100,gM),(62,(.row 32 (.node (.node c20 c64 c21) eF fO) [] false 116 0)),(2,(.row 2 (.node (.node .leaf (some pg) .leaf) (some c59) .leaf) [] false 91 0))],ans:=.rows 207 ajG [(215,iI)] 216},{args:=[iA,c2],fp:=[(106,iI),(100,gM),(62,(.row 32 (.node (.node c20 c64 c21) eF fO) [] false 116 0)),(2,(.row 2 (.node (.node .leaf (some pg) .leaf) (some c59) .leaf) [] false 91 0))],ans:=.rows 249 ake [(257,iI)] 258},{args:=[iA,(.sc (.string ⟨⟨ [120] ⟩⟩))],fp:=[(60,nz),(54,gM),(16,(.row 32 (.node (.node c20 lq c21) eF c28) [] false 116 0)),(2,(.row 2 (.node (.node .leaf (some c72) .leaf) (some c31) .leaf) [] false 91 0))],nx:=61,ans:=.val c6},{args:=[iA,zo],fp:=[(60,nz),(54,gM),(16,(.row 32 (.node (.node c20 lq c21) eF c28) [] false 116 0)),(2,(.row 2 (.node (.node .leaf (some c72) .leaf) (some c31) .leaf) [] false 91 0))],ans:=.rows 68 alr [(70,E9)] 72},{args:=[iA,qB],fp:=[(60,nz),(54,gM),(16,(.row 32 (.node (.node c20 lq c21) eF c28) [] false 116 0)),(2,(.row 2 (.node (.node .leaf (some c72) .leaf) (some c31) .leaf) [] false 91 0))],ans:=.rows 86 c105 [(89,vQ)] 90}]),(40,[{args:=[c98],fp:=[(115,iI)],ans:=.rows 116 (.slc 126 0 2 (.op 1)) [(128,EZ),(123,vC),(126,(.row 2 (.node (.node .leaf (some c107) .leaf) (some aky) .leaf) [] true 47 0))] 129},{args:=[c99],fp:=[(154,iI)],ans:=.rows 155 (.slc 165 0 2 (.op 1)) [(167,EZ),(162,vC),(165,(.row 2 (.node (.node .leaf (some c109) .leaf) (some aiY) .leaf) [] true 47 0))] 168},{args:=[c84],fp:=[(187,iI)],ans:=.rows 188 (.slc 198 0 2 (.op 1)) [(200,EZ),(195,vC),(198,(.row 2 (.node (.node .leaf (some (.slc 200 0 1 (.op 5))) .leaf) (some (.slc 195 0 2 (.op 5))) .leaf) [] true 47 0))] 201},{args:=[ajG],fp:=[(215,iI)],ans:=.rows 216 (.slc 226 0 2 (.op 1)) [(228,EZ),(223,vC),(226,(.row 2 (.node (.node .leaf (some aik) .leaf) (some akH) .leaf) [] true 47 0))] 229},{args:=[ake],fp:=[(257,iI)],ans:=.rows 258 (.slc 268 0 2 (.op 1)) [(270,EZ),(265,vC),(268,(.row 2 (.node (.node .leaf (some aiS) .leaf) (some ajC) .leaf) [] true 47 0))] 271},{args:=[c6],nx:=61,ans:=.val c6},{args:=[alr],fp:=[(70,E9)],ans:=.rows 72 (.slc 74 0 1 (.op 1)) [(76,E9),(74,(.row 1 (.node .leaf (some al6) .leaf) [] true 47 0))] 77},{args:=[c105],fp:=[(89,vQ)],ans:=.rows 90 (.slc 92 0 1 (.op 1)) [(94,vQ),(92,(.row 1 (.node .leaf (some c116) .leaf) [] true 47 0))] 95}]),(37,[{args:=[c32,c32],nx:=132,ans:=.val mg},{args:=[c32,c34],nx:=133,ans:=.val oh},{args:=[c76,c76],nx:=138,ans:=.val mg},{args:=[c34,c76],nx:=190,ans:=.val oh}]),(26,[{args:=[iA],fp:=[(106,iI),(100,gM),(62,(.row 32 (.node (.node c20 c64 c21) eF fO) [] false 116 0)),(2,(.row 2 (.node (.node .leaf (some pg) .leaf) (some c59) .leaf) [] false 91 0))],ans:=.rows 140 (.slc 142 0 1 (.op 1)) [(142,c117)] 145},{args:=[iA],fp:=[(106,iI),(100,gM),(62,(.row 32 (.node (.node c20 c64 c21) eF fO) [] false 116 0)),(2,(.row 2 (.node (.node .leaf (some pg) .leaf) (some c59) .leaf) [] false 91 0))],ans:=.rows 202 (.slc 204 0 1 (.op 1)) [(204,c117)] 207},{args:=[iA],fp:=[(106,iI),(100,gM),(62,(.row 32 (.node (.node c20 c64 c21) eF fO) [] false 116 0)),(2,(.row 2 (.node (.node .leaf (some pg) .leaf) (some c59) .leaf) [] false 91 0))],ans:=.rows 244 (.slc 246 0 1 (.op 1)) [(246,c117)] 249},{args:=[iA],fp:=[(60,nz),(54,gM),(16,(.row 32 (.node (.node c20 lq c21) eF c28) [] false 116 0)),(2,(.row 2 (.node (.node .leaf (some c72) .leaf) (some c31) .leaf) [] false 91 0))],ans:=.rows 61 (.slc 66 0 2 (.op 1)) [(66,ae0)] 67}]),(62,[{args:=[c119,c0,c5,c5,(.fn (.func 34) [] [])],fp:=[(182,(.row 3 (.node MG JL (.node .leaf abo .leaf)) [] true 44 0))],nx:=183,ans:=.val dJ}]),(38,[{args:=[ai0],nx:=202,ans:=.val Xh},{args:=[c2],nx:=207,ans:=.val c2},{args:=[c8],nx:=241,ans:=.val c124},{args:=[En],nx:=244,ans:=.val En},{args:=[c12],nx:=284,ans:=.val c12}]),(65,[{args:=[c2,Xh],nx:=207,ans:=.val yM},{args:=[c124,Xh],nx:=241,ans:=.val c0},{args:=[c2,En],nx:=249,ans:=.val yM},{args:=[c124,En],nx:=283,ans:=.val yM},{args:=[c12,En],nx:=284,ans:=.val yM}]),(11,[{args:=[c0,c1,qB,c11,c85],nx:=0,ans:=.val ad6},{args:=[c0,c10,zo,c3,qB],nx:=0,ans:=.val c127}]),(70,[{args:=[qB,c11,c85],nx:=5,ans:=.val oh},{args:=[zo,c3,qB],nx:=17,ans:=.val oh}]),(74,[{args:=[c46,c0,c5,c5,(.fn (.func 53) [] [])],fp:=[(12,vQ)],nx:=13,ans:=.val dJ}]),(94,[{args:=[(.ptr 53 0)],fp:=[(54,gM),(53,(.row 2 (.node c56 dI .leaf) [c23,c6] false 113 0))],ans:=.rows 55 dJ [(53,(.row 2 (.node c58 eF .leaf) [c23,c6] false 113 0))] 55}])]
theorem b3:mU Tryz.prog ext T2 100000 200 B3=true:=by kernel_rfl
def T3:Table:=B3++T2
theorem t3:kN Tryz.prog Iv T3:=t2.add Ip mixed b3
def B4:Table:=[(36,[{args:=[qB,zo],nx:=105,ans:=.val c5}]),(35,[{args:=[(.slc 105 0 2 (.ex 2))],fp:=[(105,c74)],nx:=106,ans:=.val c5}]),(14,[{args:=[c6],nx:=103,ans:=.val (.tup [(.agg [c0,c23,sV,sV,sV]),mg])}]),(38,[{args:=[sV],nx:=104,ans:=.val sV},{args:=[zo],nx:=110,ans:=.val zo},{args:=[qB],nx:=127,ans:=.val qB}]),(26,[{args:=[iA],fp:=[(60,nz),(54,gM),(16,(.row 32 (.node (.node c20 lq c21) eF c28) [] false 116 0)),(2,(.row 2 (.node (.node .leaf (some c72) .leaf) (some c31) .leaf) [] false 91 0))],ans:=.rows 104 (.slc 109 0 2 (.op 1)) [(109,ae0)] 110}]),(65,[{args:=[zo,sV],nx:=110,ans:=.val c0},{args:=[qB,sV],nx:=127,ans:=.val c0}]),(61,[{args:=[iA,zo],fp:=[(60,nz),(54,gM),(16,(.row 32 (.node (.node c20 lq c21) eF c28) [] false 116 0)),(2,(.row 2 (.node (.node .leaf (some c72) .leaf) (some c31) .leaf) [] false 91 0))],ans:=.rows 110 akU [(112,E9)] 114},{args:=[iA,qB],fp:=[(60,nz),(54,gM),(16,(.row 32 (.node (.node c20 lq c21) eF c28) [] false 116 0)),(2,(.row 2 (.node (.node .leaf (some c72) .leaf) (some c31) .leaf) [] false 91 0))],ans:=.rows 127 c130 [(130,vQ)] 131}]),(40,[{args:=[akU],fp:=[(112,E9)],ans:=.rows 114 (.slc 116 0 1 (.op 1)) [(118,E9),(116,(.row 1 (.node .leaf (some c131) .leaf) [] true 47 0))] 119},{args:=[c130],fp:=[(130,vQ)],ans:=.rows 131 (.slc 133 0 1 (.op 1)) [(135,vQ),(133,(.row 1 (.node .leaf (some alk) .leaf) [] true 47 0))] 136},{args:=[ad1],fp:=[(145,nz)],ans:=.rows 146 (.slc 153 0 2 (.op 1)) [(155,vQ),(150,E9),(153,(.row 2 (.node (.node .leaf (some (.slc 155 0 1 (.op 5))) .leaf) (some (.slc 150 0 1 (.op 5))) .leaf) [] true 47 0))] 156}]),(46,[{args:=[c72],fp:=[(60,nz)],ans:=.rows 144 ad1 [(145,nz)] 146}])]
theorem b4:mU Tryz.prog ext T3 100000 200 B4=true:=by kernel_rfl
def T4:Table:=B4++T3
theorem t4:kN Tryz.prog Iv T4:=t3.add Ip mixed b4
def B5:Table:=[(29,[{args:=[],ans:=.rows 1 iA [(1,kP),(2,(.row 2 (.node c16 (some c14) .leaf) [] false 91 0))] 3}]),(48,[{args:=[c7],nx:=4,ans:=.val oh},{args:=[c9],nx:=16,ans:=.val oh},{args:=[c13],nx:=62,ans:=.val oh},{args:=[ad6],nx:=4,ans:=.val oh},{args:=[c127],nx:=16,ans:=.val oh}]),(71,[{args:=[wN,c14],fp:=[(1,kP),(4,kP)],nx:=5,ans:=.val dJ},{args:=[c31,wN],fp:=[(10,nA),(4,(.row 32 (.node (.node c20 zl c21) dI c28) [] false 116 0)),(16,kP)],ans:=.rows 17 dJ [(16,qM)] 49},{args:=[c59,c31],fp:=[(54,nA),(16,(.row 32 (.node (.node (.node c18 lq c19) c15 c21) dI fO) [] false 116 0)),(62,kP)],ans:=.rows 63 dJ [(62,(.row 32 (.node tL dI fO) [] false 116 0))] 95}]),(72,[{args:=[wN,c1],fp:=[(4,kP)],ans:=.rows 8 oh [(10,nA),(4,(.row 32 (.node (.node c20 zl c21) dI c28) [] false 116 0))] 11},{args:=[c44,c1],fp:=[(16,qM)],ans:=.rows 52 oh [(54,nA),(16,(.row 32 (.node (.node (.node c18 lq c19) c15 c21) dI fO) [] false 116 0))] 55},{args:=[c59,c10],fp:=[(62,(.row 32 (.node tL dI fO) [] false 116 0))],ans:=.rows 98 oh [(100,gM),(62,(.row 32 (.node (.node c20 c64 c21) eF fO) [] false 116 0))] 101},{args:=[c31,c10],fp:=[(16,qM)],ans:=.rows 52 oh [(54,gM),(16,(.row 32 (.node (.node c20 lq c21) eF c28) [] false 116 0))] 55}]),(51,[{args:=[c14,c32],fp:=[(1,kP)],nx:=11,ans:=.val mg},{args:=[wN,c34],fp:=[(10,nA),(4,(.row 32 (.node (.node c20 zl c21) dI c28) [] false 116 0))],nx:=55,ans:=.val mg},{args:=[c31,c76],fp:=[(54,nA),(16,(.row 32 (.node (.node (.node c18 lq c19) c15 c21) dI fO) [] false 116 0))],nx:=101,ans:=.val mg},{args:=[wN,c76],fp:=[(10,nA),(4,(.row 32 (.node (.node c20 zl c21) dI c28) [] false 116 0))],nx:=55,ans:=.val mg}]),(52,[{args:=[c46,(.fn (.func 53) [] [])],fp:=[(12,c53)],nx:=13,ans:=.val dJ},{args:=[c46,(.fn (.func 53) [] [])],fp:=[(12,vQ)],nx:=13,ans:=.val dJ}]),(56,[{args:=[c6,c32],nx:=16,ans:=.val mg},{args:=[c6,c34],nx:=62,ans:=.val mg},{args:=[c6,c76],nx:=108,ans:=.val mg}]),(75,[{args:=[c34,c32],nx:=61,ans:=.val c5},{args:=[c76,c34],nx:=107,ans:=.val c5},{args:=[c76,c32],nx:=61,ans:=.val c5}]),(14,[{args:=[aky],fp:=[(123,vC)],nx:=129,ans:=.val Zo},{args:=[c107],fp:=[(128,EZ)],nx:=135,ans:=.val TQ},{args:=[aiY],fp:=[(162,vC)],nx:=168,ans:=.val Zo},{args:=[c109],fp:=[(167,EZ)],nx:=174,ans:=.val TQ},{args:=[c83],fp:=[(184,iI)],nx:=185,ans:=.val TQ},{args:=[akH],fp:=[(223,vC)],nx:=229,ans:=.val Zo},{args:=[aik],fp:=[(228,EZ)],nx:=235,ans:=.val TQ},{args:=[ajC],fp:=[(265,vC)],nx:=271,ans:=.val Zo},{args:=[aiS],fp:=[(270,EZ)],nx:=277,ans:=.val TQ},{args:=[al6],fp:=[(76,E9)],nx:=77,ans:=.val c139},{args:=[c116],fp:=[(94,vQ)],nx:=95,ans:=.val c141},{args:=[c131],fp:=[(118,E9)],nx:=119,ans:=.val c139},{args:=[alk],fp:=[(135,vQ)],nx:=136,ans:=.val c141}]),(33,[{args:=[c119,(.fn (.func 34) [] [])],fp:=[(182,(.row 3 (.node MG JL (.node .leaf abo .leaf)) [] true 44 0))],nx:=183,ans:=.val dJ}]),(27,[{args:=[iA],fp:=[(106,iI),(100,gM),(62,(.row 32 (.node (.node c20 c64 c21) eF fO) [] false 116 0)),(2,(.row 2 (.node (.node .leaf (some pg) .leaf) (some c59) .leaf) [] false 91 0))],ans:=.rows 183 c83 [(184,iI)] 185},{args:=[iA],fp:=[(106,iI),(100,gM),(62,(.row 32 (.node (.node c20 c64 c21) eF fO) [] false 116 0)),(2,(.row 2 (.node (.node .leaf (some pg) .leaf) (some c59) .leaf) [] false 91 0))],ans:=.rows 186 c84 [(187,iI)] 188},{args:=[iA],fp:=[(60,nz),(54,gM),(16,(.row 32 (.node (.node c20 lq c21) eF c28) [] false 116 0)),(2,(.row 2 (.node (.node .leaf (some c72) .leaf) (some c31) .leaf) [] false 91 0))],ans:=.rows 144 ad1 [(145,nz)] 146}]),(39,[{args:=[c2,Xh],nx:=207,ans:=.val mg},{args:=[c124,Xh],nx:=241,ans:=.val oh},{args:=[c2,En],nx:=249,ans:=.val mg},{args:=[c124,En],nx:=283,ans:=.val mg},{args:=[c12,En],nx:=284,ans:=.val mg},{args:=[zo,sV],nx:=110,ans:=.val oh},{args:=[qB,sV],nx:=127,ans:=.val oh}]),(32,[{args:=[iA,(.sc (.string ⟨⟨ [120] ⟩⟩))],fp:=[(60,nz),(54,gM),(16,(.row 32 (.node (.node c20 lq c21) eF c28) [] false 116 0)),(2,(.row 2 (.node (.node .leaf (some c72) .leaf) (some c31) .leaf) [] false 91 0))],nx:=61,ans:=.val c6}]),(34,[{args:=[(.agg [qB,qB,c5]),(.agg [zo,qB,c5])],nx:=103,ans:=.val c5}])]
theorem b5:mU Tryz.prog ext T4 100000 200 B5=true:=by kernel_rfl
def T5:Table:=B5++T4
theorem t5:kN Tryz.prog Iv T5:=t4.add Ip mixed b5
def B6:Table:=[(49,[{args:=[c14],fp:=[(1,kP)],ans:=.rows 4 wN [(4,kP)] 5},{args:=[wN],fp:=[(10,nA),(4,(.row 32 (.node (.node c20 zl c21) dI c28) [] false 116 0))],ans:=.rows 16 c31 [(16,qM)] 49},{args:=[c31],fp:=[(54,nA),(16,(.row 32 (.node (.node (.node c18 lq c19) c15 c21) dI fO) [] false 116 0))],ans:=.rows 62 c59 [(62,(.row 32 (.node tL dI fO) [] false 116 0))] 95}]),(50,[{args:=[wN,c32],fp:=[(4,kP)],ans:=.rows 7 c0 [(10,nA),(4,(.row 32 (.node (.node c20 zl c21) dI c28) [] false 116 0))] 11},{args:=[c31,c34],fp:=[(16,qM)],ans:=.rows 51 c0 [(54,nA),(16,(.row 32 (.node (.node (.node c18 lq c19) c15 c21) dI fO) [] false 116 0))] 55},{args:=[c59,c76],fp:=[(62,(.row 32 (.node tL dI fO) [] false 116 0))],ans:=.rows 97 c0 [(100,gM),(62,(.row 32 (.node (.node c20 c64 c21) eF fO) [] false 116 0))] 101},{args:=[c31,c76],fp:=[(16,qM)],ans:=.rows 51 c0 [(54,gM),(16,(.row 32 (.node (.node c20 lq c21) eF c28) [] false 116 0))] 55}]),(55,[{args:=[aaU,c143],fp:=[(3,(.row 7 (.node (.node yA dI c51) c49 Am) [] false 30 0))],nx:=15,ans:=.val mg},{args:=[aaU,c145],fp:=[(15,(.row 7 (.node (.node yA dI MG) c70 Am) [] false 30 0))],nx:=61,ans:=.val mg},{args:=[VW,c145],fp:=[(15,(.row 7 (.node (.node yA dI MG) c70 Am) [] false 30 0))],nx:=61,ans:=.val mg},{args:=[aaU,c146],fp:=[(61,(.row 7 (.node (.node yA eF c80) c49 Ij) [] false 30 0))],nx:=107,ans:=.val mg},{args:=[VW,c146],fp:=[(61,(.row 7 (.node (.node yA eF c80) c49 Ij) [] false 30 0))],nx:=107,ans:=.val mg},{args:=[afe,c146],fp:=[(61,(.row 7 (.node (.node yA eF c80) c49 Ij) [] false 30 0))],nx:=107,ans:=.val mg},{args:=[aaF,c143],fp:=[(3,(.row 7 (.node (.node c91 dI c87) c49 Ij) [] false 30 0))],nx:=15,ans:=.val mg},{args:=[c138,c145],fp:=[(15,(.row 7 (.node (.node c148 eF c91) c49 Am) [] false 30 0))],nx:=61,ans:=.val mg},{args:=[aaF,c145],fp:=[(15,(.row 7 (.node (.node c148 eF c91) c49 Am) [] false 30 0))],nx:=61,ans:=.val mg}]),(53,[{args:=[VW,aaU],nx:=59,ans:=.val c5},{args:=[afe,VW],nx:=105,ans:=.val c5},{args:=[c138,aaF],nx:=59,ans:=.val yM}]),(32,[{args:=[iA,c2],fp:=[(106,iI),(100,gM),(62,(.row 32 (.node (.node c20 c64 c21) eF fO) [] false 116 0)),(2,(.row 2 (.node (.node .leaf (some pg) .leaf) (some c59) .leaf) [] false 91 0))],ans:=.rows 107 aj6 [(139,VG)] 140},{args:=[iA,c2],fp:=[(106,iI),(100,gM),(62,(.row 32 (.node (.node c20 c64 c21) eF fO) [] false 116 0)),(2,(.row 2 (.node (.node .leaf (some pg) .leaf) (some c59) .leaf) [] false 91 0))],ans:=.rows 146 (.slc 178 0 2 (.op 3)) [(178,VG)] 179},{args:=[iA,c2],fp:=[(106,iI),(100,gM),(62,(.row 32 (.node (.node c20 c64 c21) eF fO) [] false 116 0)),(2,(.row 2 (.node (.node .leaf (some pg) .leaf) (some c59) .leaf) [] false 91 0))],ans:=.rows 207 (.slc 239 0 2 (.op 3)) [(239,VG)] 240},{args:=[iA,c2],fp:=[(106,iI),(100,gM),(62,(.row 32 (.node (.node c20 c64 c21) eF fO) [] false 116 0)),(2,(.row 2 (.node (.node .leaf (some pg) .leaf) (some c59) .leaf) [] false 91 0))],ans:=.rows 249 (.slc 281 0 2 (.op 3)) [(281,VG)] 282},{args:=[iA,zo],fp:=[(60,nz),(54,gM),(16,(.row 32 (.node (.node c20 lq c21) eF c28) [] false 116 0)),(2,(.row 2 (.node (.node .leaf (some c72) .leaf) (some c31) .leaf) [] false 91 0))],ans:=.rows 68 (.slc 81 0 1 (.op 3)) [(81,aia)] 82},{args:=[iA,qB],fp:=[(60,nz),(54,gM),(16,(.row 32 (.node (.node c20 lq c21) eF c28) [] false 116 0)),(2,(.row 2 (.node (.node .leaf (some c72) .leaf) (some c31) .leaf) [] false 91 0))],ans:=.rows 86 (.slc 99 0 1 (.op 3)) [(99,c152)] 100},{args:=[iA,zo],fp:=[(60,nz),(54,gM),(16,(.row 32 (.node (.node c20 lq c21) eF c28) [] false 116 0)),(2,(.row 2 (.node (.node .leaf (some c72) .leaf) (some c31) .leaf) [] false 91 0))],ans:=.rows 110 (.slc 123 0 1 (.op 3)) [(123,aia)] 124},{args:=[iA,qB],fp:=[(60,nz),(54,gM),(16,(.row 32 (.node (.node c20 lq c21) eF c28) [] false 116 0)),(2,(.row 2 (.node (.node .leaf (some c72) .leaf) (some c31) .leaf) [] false 91 0))],ans:=.rows 127 (.slc 140 0 1 (.op 3)) [(140,c152)] 141}]),(16,[{args:=[iA],fp:=[(106,iI),(100,gM),(62,(.row 32 (.node (.node c20 c64 c21) eF fO) [] false 116 0)),(2,(.row 2 (.node (.node .leaf (some pg) .leaf) (some c59) .leaf) [] false 91 0))],ans:=.rows 186 (.slc 201 0 2 (.op 5)) [(201,vC)] 202},{args:=[iA],fp:=[(60,nz),(54,gM),(16,(.row 32 (.node (.node c20 lq c21) eF c28) [] false 116 0)),(2,(.row 2 (.node (.node .leaf (some c72) .leaf) (some c31) .leaf) [] false 91 0))],nx:=144,ans:=.val c6}]),(12,[{args:=[iA,(.sc (.string ⟨⟨ [120] ⟩⟩))],fp:=[(60,nz),(54,gM),(16,(.row 32 (.node (.node c20 lq c21) eF c28) [] false 116 0)),(2,(.row 2 (.node (.node .leaf (some c72) .leaf) (some c31) .leaf) [] false 91 0))],nx:=61,ans:=.val (.tup [c6,(.sc (.int .i64 4))])}]),(62,[{args:=[aeZ,c0,IA,IA,(.fn (.func 34) [] [])],fp:=[(102,(.row 6 (.node (.node c91 NT Dv) c93 (.node c91 c70 .leaf)) [] true 44 0))],nx:=103,ans:=.val dJ}])]
theorem b6:mU Tryz.prog ext T5 100000 200 B6=true:=by kernel_rfl
def T6:Table:=B6++T5
theorem t6:kN Tryz.prog Iv T6:=t5.add Ip mixed b6
def B7:Table:=[(76,[{args:=[BP,(.fn (.func 55) [] [c143])],fp:=[(3,(.row 7 (.node (.node yA dI c51) c49 Am) [] false 30 0)),(14,c53)],nx:=15,ans:=.val yM},{args:=[c72,(.fn (.func 55) [] [c145])],fp:=[(15,(.row 7 (.node (.node yA dI MG) c70 Am) [] false 30 0)),(60,vC)],nx:=61,ans:=.val yM},{args:=[pg,(.fn (.func 55) [] [c146])],fp:=[(61,(.row 7 (.node (.node yA eF c80) c49 Ij) [] false 30 0)),(106,iI)],nx:=107,ans:=.val yM},{args:=[BP,(.fn (.func 55) [] [c143])],fp:=[(3,(.row 7 (.node (.node c91 dI c87) c49 Ij) [] false 30 0)),(14,vQ)],nx:=15,ans:=.val yM},{args:=[c72,(.fn (.func 55) [] [c145])],fp:=[(15,(.row 7 (.node (.node c148 eF c91) c49 Am) [] false 30 0)),(60,nz)],nx:=61,ans:=.val yM}]),(74,[{args:=[Zf,c0,IA,IA,(.fn (.func 53) [] [])],fp:=[(58,vC)],nx:=59,ans:=.val dJ},{args:=[c77,c0,(.sc (.int .i64 3)),IA,(.fn (.func 53) [] [])],fp:=[(104,iI)],nx:=105,ans:=.val dJ},{args:=[Zf,c0,IA,IA,(.fn (.func 53) [] [])],fp:=[(58,(.row 10 (.node (.node (.node c148 c78 .leaf) dI (.node c91 c49 .leaf)) c49 (.node (.node QV c86 .leaf) NT YU)) [] true 40 0))],ans:=.rows 59 dJ [(58,nz)] 59}]),(12,[{args:=[iA,c2],fp:=[(106,iI),(100,gM),(62,(.row 32 (.node (.node c20 c64 c21) eF fO) [] false 116 0)),(2,(.row 2 (.node (.node .leaf (some pg) .leaf) (some c59) .leaf) [] false 91 0))],ans:=.rows 107 (.tup [aj6,c0]) [(139,VG)] 140}]),(13,[{args:=[iA],fp:=[(106,iI),(100,gM),(62,(.row 32 (.node (.node c20 c64 c21) eF fO) [] false 116 0)),(2,(.row 2 (.node (.node .leaf (some pg) .leaf) (some c59) .leaf) [] false 91 0))],ans:=.rows 140 c119 [(182,(.row 3 (.node MG JL (.node .leaf abo .leaf)) [] true 44 0))] 183}]),(15,[{args:=[iA,ai0],fp:=[(106,iI),(100,gM),(62,(.row 32 (.node (.node c20 c64 c21) eF fO) [] false 116 0)),(2,(.row 2 (.node (.node .leaf (some pg) .leaf) (some c59) .leaf) [] false 91 0))],ans:=.rows 202 (.slc 243 0 1 (.op 1)) [(243,c117)] 244},{args:=[iA,En],fp:=[(106,iI),(100,gM),(62,(.row 32 (.node (.node c20 c64 c21) eF fO) [] false 116 0)),(2,(.row 2 (.node (.node .leaf (some pg) .leaf) (some c59) .leaf) [] false 91 0))],nx:=244,ans:=.val c6},{args:=[iA,sV],fp:=[(60,nz),(54,gM),(16,(.row 32 (.node (.node c20 lq c21) eF c28) [] false 116 0)),(2,(.row 2 (.node (.node .leaf (some c72) .leaf) (some c31) .leaf) [] false 91 0))],ans:=.rows 104 (.slc 143 0 2 (.op 1)) [(143,ae0)] 144}]),(33,[{args:=[aeZ,(.fn (.func 34) [] [])],fp:=[(102,(.row 6 (.node (.node c91 NT Dv) c93 (.node c91 c70 .leaf)) [] true 44 0))],nx:=103,ans:=.val dJ}])]
theorem b7:mU Tryz.prog ext T6 100000 200 B7=true:=by kernel_rfl
def T7:Table:=B7++T6
theorem t7:kN Tryz.prog Iv T7:=t6.add Ip mixed b7
def B8:Table:=[(54,[{args:=[BP,(.fn (.func 55) [] [c143])],fp:=[(3,(.row 7 (.node (.node yA dI c51) c49 Am) [] false 30 0)),(14,c53)],ans:=.rows 15 BP [] 15},{args:=[c72,(.fn (.func 55) [] [c145])],fp:=[(15,(.row 7 (.node (.node yA dI MG) c70 Am) [] false 30 0)),(60,vC)],ans:=.rows 61 c72 [] 61},{args:=[pg,(.fn (.func 55) [] [c146])],fp:=[(61,(.row 7 (.node (.node yA eF c80) c49 Ij) [] false 30 0)),(106,iI)],ans:=.rows 107 pg [] 107},{args:=[BP,(.fn (.func 55) [] [c143])],fp:=[(3,(.row 7 (.node (.node c91 dI c87) c49 Ij) [] false 30 0)),(14,vQ)],ans:=.rows 15 BP [] 15},{args:=[c72,(.fn (.func 55) [] [c145])],fp:=[(15,(.row 7 (.node (.node c148 eF c91) c49 Am) [] false 30 0)),(60,nz)],ans:=.rows 61 c72 [] 61}]),(52,[{args:=[Zf,(.fn (.func 53) [] [])],fp:=[(58,vC)],nx:=59,ans:=.val dJ},{args:=[c77,(.fn (.func 53) [] [])],fp:=[(104,iI)],nx:=105,ans:=.val dJ},{args:=[Zf,(.fn (.func 53) [] [])],fp:=[(58,(.row 10 (.node (.node (.node c148 c78 .leaf) dI (.node c91 c49 .leaf)) c49 (.node (.node QV c86 .leaf) NT YU)) [] true 40 0))],ans:=.rows 59 dJ [(58,nz)] 59}]),(13,[{args:=[iA],fp:=[(60,nz),(54,gM),(16,(.row 32 (.node (.node c20 lq c21) eF c28) [] false 116 0)),(2,(.row 2 (.node (.node .leaf (some c72) .leaf) (some c31) .leaf) [] false 91 0))],ans:=.rows 61 aeZ [(102,(.row 6 (.node (.node c91 NT Dv) c93 (.node c91 c70 .leaf)) [] true 44 0))] 103}])]
theorem b8:mU Tryz.prog ext T7 100000 200 B8=true:=by kernel_rfl
def T8:Table:=B8++T7
theorem t8:kN Tryz.prog Iv T8:=t7.add Ip mixed b8
def B9:Table:=[(30,[{args:=[iA,c7],fp:=[(1,kP),(2,(.row 2 (.node c16 (some c14) .leaf) [] false 91 0))],ans:=.rows 3 c154 [(14,c53),(10,nA),(4,(.row 32 (.node (.node c20 zl c21) dI c28) [] false 116 0)),(2,(.row 2 (.node (.node .leaf (some BP) .leaf) (some wN) .leaf) [] false 91 0))] 15},{args:=[iA,c9],fp:=[(14,c53),(10,nA),(4,(.row 32 (.node (.node c20 zl c21) dI c28) [] false 116 0)),(2,(.row 2 (.node (.node .leaf (some BP) .leaf) (some wN) .leaf) [] false 91 0))],ans:=.rows 15 c154 [(60,vC),(54,nA),(16,(.row 32 (.node (.node (.node c18 lq c19) c15 c21) dI fO) [] false 116 0)),(2,(.row 2 (.node (.node .leaf (some c72) .leaf) (some c31) .leaf) [] false 91 0))] 61},{args:=[iA,c13],fp:=[(60,vC),(54,nA),(16,(.row 32 (.node (.node (.node c18 lq c19) c15 c21) dI fO) [] false 116 0)),(2,(.row 2 (.node (.node .leaf (some c72) .leaf) (some c31) .leaf) [] false 91 0))],ans:=.rows 61 c154 [(106,iI),(100,gM),(62,(.row 32 (.node (.node c20 c64 c21) eF fO) [] false 116 0)),(2,(.row 2 (.node (.node .leaf (some pg) .leaf) (some c59) .leaf) [] false 91 0))] 107},{args:=[iA,ad6],fp:=[(1,kP),(2,(.row 2 (.node c16 (some c14) .leaf) [] false 91 0))],ans:=.rows 3 c154 [(14,vQ),(10,nA),(4,(.row 32 (.node (.node c20 zl c21) dI c28) [] false 116 0)),(2,(.row 2 (.node (.node .leaf (some BP) .leaf) (some wN) .leaf) [] false 91 0))] 15},{args:=[iA,c127],fp:=[(14,vQ),(10,nA),(4,(.row 32 (.node (.node c20 zl c21) dI c28) [] false 116 0)),(2,(.row 2 (.node (.node .leaf (some BP) .leaf) (some wN) .leaf) [] false 91 0))],ans:=.rows 15 c154 [(60,nz),(54,gM),(16,(.row 32 (.node (.node c20 lq c21) eF c28) [] false 116 0)),(2,(.row 2 (.node (.node .leaf (some c72) .leaf) (some c31) .leaf) [] false 91 0))] 61}])]
theorem b9:mU Tryz.prog ext T8 100000 200 B9=true:=by kernel_rfl
def T9:Table:=B9++T8
theorem t9:kN Tryz.prog Iv T9:=t8.add Ip mixed b9
def B10:Table:=[(10,[{args:=[(.slc 0 0 3 (.ex 3))],fp:=[(0,(.row 21 (.node (.node (.node (.node YU c70 .leaf) JL (.node c80 Rp .leaf)) dI (.node (.node yA c70 .leaf) c50 c16)) c49 (.node (.node (.node Dv dI .leaf) Rp (.node c16 c68 .leaf)) c70 (.node (.node VF JL .leaf) c15 c75))) [c0,c23,c0,sV,sV,sV,c6] false 30 0))],ans:=.rows 1 iA [(106,iI),(100,gM),(62,(.row 32 (.node (.node c20 c64 c21) eF fO) [] false 116 0)),(2,(.row 2 (.node (.node .leaf (some pg) .leaf) (some c59) .leaf) [] false 91 0))] 107},{args:=[(.slc 0 0 2 (.ex 2))],fp:=[(0,(.row 14 (.node (.node (.node c75 NT QV) dI (.node Dv c86 c16)) c49 (.node (.node YU c78 c91) c70 (.node c148 c15 .leaf))) [c0,c23,c0,sV,sV,sV,c6] false 30 0))],ans:=.rows 1 iA [(60,nz),(54,gM),(16,(.row 32 (.node (.node c20 lq c21) eF c28) [] false 116 0)),(2,(.row 2 (.node (.node .leaf (some c72) .leaf) (some c31) .leaf) [] false 91 0))] 61}])]
theorem b10:mU Tryz.prog ext T9 100000 200 B10=true:=by kernel_rfl
def T10:Table:=B10++T9
theorem bW:kN Tryz.prog Iv T10:=t9.add Ip mixed b10
def B11:Table:=[(9,[{args:=[],nx:=0,ans:=.val oh}])]
theorem b11:mU Tryz.prog ext T10 100000 200 B11=true:=by kernel_rfl
def T11:Table:=B11++T10
theorem bQ:kN Tryz.prog Iv T11:=bW.add Ip mixed b11
theorem t:kN Tryz.prog Iv T11:=bQ
end Go.Proofs.YtngfappichkflaaGreat
namespace Go.Proofs.YtngfappichkflaaGreat.viewLists
open Go Go.Ab Go.ChangeShapes Go.WideShapes Go.ChangeAt Go.RowKit
theorem own:ownKnob Tryz.prog.godebug=none:=by kernel_rfl
open Go.Ab.aD Go.Ab.Crw Go.Ab.Crw.Viw Go.Proofs.YtngfappichkflaaGreat.oI
def base (w:World) (hi:Iv w) : Base:=⟨w.heap.size,Iv,fun w1 w2 h h1=>akG w w1 w2 hi h h1⟩
theorem awake {B:Base} (hB:∀ w,B.inv w→Iv w) : abT B (iV Tryz.prog 9):=by
 intro M Q hM hQ
 exact abb t ⟨Tryz.f9,_,Tryz.func9,rfl⟩ (fun A=>by kernel_rfl) (hM▸hB) hQ
theorem walk (w:World) (hi:Iv w) (v0:Value) (h0:yf Tryz.prog (RM.old (base w hi) w) 32 (Eb w.heap.size v0)) :
  Calls Tryz.prog 7 #[v0] w fun e w'=>e=.returned (.bool true)∧Below w.heap.size w w':=by
 obtain⟨u0,l,e0,hl,_⟩:=aeP (h0.one (by kernel_rfl))
 refine iV.close (base:=base w hi) rfl hi ?_
 simp only[List.map_cons,List.map_nil]
 rw[show Eb (base w hi).n v0=u0 from(List.cons.inj e0).1]
 have hb:∀ w',(base w hi).inv w'→Iv w':=fun _ h=>h
 obtain⟨a0,e,h⟩:=PI (B:=base w hi) (TE:=30) (M:=RM.old (base w hi) w) (Q:=fun v _=>v=Bo true) (awake hb) oI.own oI.aqs oI.LJ oI.am4 oI.aqd oI.an8 oI.entries rfl hl (fun M'=>rfl)
 cases e
 exact BB h
set_option maxRecDepth 100000 in
theorem lifted (os:Os) (started:os.Started) (H:Type) (enc:TypeId × Value→H) :
  ReturnsInHanded {} Tryz.checked os 7 .any (Rows.viewListsSpec.pre6 enc Tryz.prog Tryz.f7 Rows.viewListsRow.domain false) (Rows.viewListsSpec.post enc Tryz.prog Tryz.f7 false true false false):=by
 refine returnsInHanded_of_change_shaped (C:=Tryz.checked) own started (by kernel_rfl) Tryz.func7
  (ChangeSpec.witness6 (enc:=enc) (C:=Tryz.checked) false ⟨#[],#[.slice none 0 0],[]⟩ 8 (by kernel_rfl) (by kernel_rfl) (by kernel_rfl) (by kernel_rfl)) ?_
 intro W b0 args ds gs before hval hW hcnd hwt hsh _
 have hW':=hW
 obtain⟨p,q,hA,hV,rfl,hfz,hnd⟩:=hW
 rw[Tryz.params7] at hA hwt
 have hi:=Tryz.index_var W hsh
 obtain⟨rfl,rfl⟩:=trodVars_none hV
 have hfit:=VP (base:=base W hi) rfl hA (fun j t v hj hv=>hval j t v (by rw[Tryz.params7]; simpa using hj) (by simpa using hv)) (fun y hy=>by
  have aqS:(DataW.weightsEach Tryz.prog [32] (ds++[])).all (· ≤ reachBytes)=true:=hwt
  have:=List.all_eq_true.1 aqS y (by rw[List.append_nil]; exact hy)
  simpa using this)
 simp only[List.append_nil] at hW'
 have hlt:∀ x∈p,x.block<W.heap.size:=fun x hx=>hW'.lt x hx
 obtain⟨v0,d0,rfl,rfl,h0⟩:=trodAll_one hA
 refine(walk W hi v0 (hfit 0 _ _ rfl rfl)).mono fun e W' ⟨he,hg⟩=>?_
 subst he
 exact⟨_,rfl,RZ (pa:=p) (pv:=[]) hW' (fun _ _ _=>(trodAll_cons_mk (shut_bool Tryz.underlying4 _) trodAll_mk0)) (fun sp hsp=>by
   rw[Tryz.params7]
   exact Gn (by kernel_rfl) hg (fun t ht=>by
    have ht:t=32:=by simpa using ht
    subst ht; exact⟨by kernel_rfl,of_decide_eq_true (by kernel_rfl)⟩) hA hlt hsp) (fun _ _=>rfl) (by simp)
  hg (ok_one (by kernel_rfl) rfl (okWide_bool_mk Tryz.underlying4 _))⟩
theorem over:Rows.viewListsRow.holds Tryz.pinned (OpenSpec.ofChange Rows.viewListsSpec) :=
 OpenClaim.holds_of_wide 7 Tryz.f7 rfl rfl rfl rfl rfl rfl rfl ⟨rfl,rfl,rfl,rfl,rfl⟩ rfl rfl rfl rfl rfl (by kernel_rfl) Tryz.func7 (by kernel_rfl)
  (of_decide_eq_true (by kernel_rfl)) (by unfold Func.isWrapper; first | (rw[if_pos (by decide +kernel)]; kernel_rfl) | (rw[if_neg (by decide +kernel)]; exact⟨rfl,rfl⟩))
  (fun os started H enc _=>lifted os started H enc)
theorem proved:Rows.ViewListsSaid :=
 over
end Go.Proofs.YtngfappichkflaaGreat.viewLists
