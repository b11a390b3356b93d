/- 'CrdtBytes' returns true where what is read is of bulk at most 1048576: events and states become bytes and come back, and any other bytes are refused, or are what they were. By an AI agent. -/
import Derived.Test.YtlhlnchhaminjaaGreatByt7
import Derived.KernelRfl
import Derived.Test.YtlhlnchhaminjaaGreatProg
import Derived.Test.YtlhlnchhaminjaaGreatRows
import Derived.SizedLaws
import Derived.JoinedOf
import Derived.Carry
import Derived.WalkKit
import Derived.ProofKit
import Derived.OpenShut
set_option maxRecDepth 100000
set_option linter.unusedVariables false
set_option linter.unusedSimpArgs false
namespace Go.Proofs.YtlhlnchhaminjaaGreat
open Go Go.Ab
abbrev av := @jv Tryz.prog
theorem pok:OP Tryz.prog:=⟨VI (by kernel_rfl),by kernel_rfl⟩
theorem bi {f:FuncId} {fn:Func} {args:List AV} {M:RM} {Q:ak} {B:Prop} (h:B) (hfn:Tryz.prog.funcs[f]?=some fn:=by kernel_rfl) (e:B=Qy Tryz.prog fn args M Q:=by kernel_rfl) : av f args M Q:=acw pok hfn (e▸h)
variable {a0 a1 a2 a3 a4 a5 a6 a7:AV} {M:RM} {Q:ak}
theorem KV (h:Go.Ab.Crw.DU 30 (av 10) (av 28) (av 20) (av 29) (av 30) (av 19) (av 21) (av 22) (av 16) a0 a1 a2 a3 a4 M Q) : av 7 [a0,a1,a2,a3,a4] M Q:=bi (fn:=Tryz.f7) h
theorem Yf (h:Go.Ab.Crw.aaa (av 38) 75  M Q) : av 11 [] M Q:=bi (fn:=Tryz.f11) h
theorem Hu (h:Go.Ab.Crw.yY 30 (av 17) (av 41) 27 (av 42) (av 37) 58 (av 43) (av 44) 45 47 (av 46) (av 33) (av 49) a0 a1 M Q) : av 14 [a0,a1] M Q:=bi (fn:=Tryz.f14) h
theorem Hw (h:Go.Ab.Crw.y5 30 (av 50) (av 51) (av 52) (av 53) 27 (av 54) (av 17) a0 M Q) : av 15 [a0] M Q:=bi (fn:=Tryz.f15) h
theorem Uq (h:Go.Ab.Crw.XF 30 (av 58) (av 59) 27 (av 60) a0 M Q) : av 17 [a0] M Q:=bi (fn:=Tryz.f17) h
theorem XQ (h:Go.Ab.Crw.abo 30 (av 20) a0 M Q) : av 19 [a0] M Q:=bi (fn:=Tryz.f19) h
theorem KX (h:Go.Ab.Crw.Di 30 (av 61) (av 62) a0 M Q) : av 20 [a0] M Q:=bi (fn:=Tryz.f20) h
theorem Ti (h:Go.Ab.Crw.QO (av 11) (av 14) a0 a1 a2 M Q) : av 21 [a0,a1,a2] M Q:=bi (fn:=Tryz.f21) h
theorem Gh (h:Go.Ab.Crw.xc (av 65) (av 64) (av 63) 58 a0 M Q) : av 22 [a0] M Q:=bi (fn:=Tryz.f22) h
theorem H8 (h:Go.Ab.Crw.yP 30 (av 17) (av 63) (av 64) 27 a0 M Q) : av 28 [a0] M Q:=bi (fn:=Tryz.f28) h
theorem Ej (h:Go.Ab.Crw.wm 30 (av 74) 5 (av 75) a0 M Q) : av 29 [a0] M Q:=bi (fn:=Tryz.f29) h
theorem S9 (h:Go.Ab.Crw.Qs (av 15) 30 (av 76) (av 34) a0 M Q) : av 30 [a0] M Q:=bi (fn:=Tryz.f30) h
theorem IC (h:Go.Ab.ay.AY 111 (av 77) a0 a1 M Q) : av 33 [a0,a1] M Q:=bi (fn:=Tryz.f33) h
theorem KU (h:Go.Ab.Crw.Du 30 a0 a1 M Q) : av 34 [a0,a1] M Q:=bi (fn:=Tryz.f34) h
theorem Ph (h:Go.Ab.ay.JE 27 (av 58) (av 77) a0 a1 M Q) : av 37 [a0,a1] M Q:=bi (fn:=Tryz.f37) h
theorem Hq (h:Go.Ab.ay.Eo 114  M Q) : av 38 [] M Q:=bi (fn:=Tryz.f38) h
theorem LG (h:Go.Ab.ay.Fu (av 38) (av 73) a0 M Q) : av 41 [a0] M Q:=bi (fn:=Tryz.f41) h
theorem NY (h:Go.Ab.ay.Ib 27 (av 58) (av 81) a0 a1 M Q) : av 42 [a0,a1] M Q:=bi (fn:=Tryz.f42) h
theorem Hy (h:Go.Ab.Crw.y8 58 a0 M Q) : av 43 [a0] M Q:=bi (fn:=Tryz.f43) h
theorem Dr (h:Go.Ab.Crw.uF (av 83) (av 82) a0 a1 M Q) : av 44 [a0,a1] M Q:=bi (fn:=Tryz.f44) h
theorem NG (h:Go.Ab.Crw.Jn 58 (av 85) (av 80) 3 (av 84) a0 a1 M Q) : av 45 [a0,a1] M Q:=bi (fn:=Tryz.f45) h
theorem BD (h:Go.Ab.Crw.qM (av 86) 58 (av) a0 a1 M Q) : av 46 [a0,a1] M Q:=bi (fn:=Tryz.f46) h
theorem EB (h:Go.Ab.Crw.vU 58 (av 48) a0 a1 M Q) : av 47 [a0,a1] M Q:=bi (fn:=Tryz.f47) h
theorem Ga (h:Go.Ab.Crw.xk 27 (av 87) a0 a1 M Q) : av 48 [a0,a1] M Q:=bi (fn:=Tryz.f48) h
theorem Ht (h:Go.Ab.Crw.yX a0 a1 M Q) : av 49 [a0,a1] M Q:=bi (fn:=Tryz.f49) h
theorem UE (h:Go.Ab.ay.U6 (av 88) 127 a0 M Q) : av 50 [a0] M Q:=bi (fn:=Tryz.f50) h
theorem JI (h:Go.Ab.ay.Ac (av 89) a0 a1 M Q) : av 51 [a0,a1] M Q:=bi (fn:=Tryz.f51) h
theorem H7 (h:Go.Ab.ay.y9 (av 89) a0 M Q) : av 52 [a0] M Q:=bi (fn:=Tryz.f52) h
theorem H9 (h:Go.Ab.Crw.y7 (av 51) a0 a1 M Q) : av 53 [a0,a1] M Q:=bi (fn:=Tryz.f53) h
theorem JO (h:Go.Ab.ay.Ay a0 M Q) : av 54 [a0] M Q:=bi (fn:=Tryz.f54) h
theorem LH (h:Go.Ab.ay.FE (av 50) (av 38) (av 51) (av 52) (av 56) 25 (av 54) (av 90) (av 65) (av 57) a0 M Q) : av 55 [a0] M Q:=bi (fn:=Tryz.f55) h
theorem IZ (h:Go.Ab.ay.A9 a0 M Q) : av 56 [a0] M Q:=bi (fn:=Tryz.f56) h
theorem Hz (h:Go.Ab.ay.yQ a0 a1 M Q) : av 57 [a0,a1] M Q:=bi (fn:=Tryz.f57) h
theorem Qk (h:Go.Ab.ay.Mm 27 a0 M Q) : av 58 [a0] M Q:=bi (fn:=Tryz.f58) h
theorem KY (h:Go.Ab.Crw.CK a0 a1 a2 M Q) : av 59 [a0,a1,a2] M Q:=bi (fn:=Tryz.f59) h
theorem Wt (h:Go.Ab.ay.WX 27 a0 a1 M Q) : av 60 [a0,a1] M Q:=bi (fn:=Tryz.f60) h
theorem Qp (h:Go.Ab.ay.Md 27 a0 M Q) : av 61 [a0] M Q:=bi (fn:=Tryz.f61) h
theorem PI (h:Go.Ab.ay.LP 27 a0 a1 M Q) : av 62 [a0,a1] M Q:=bi (fn:=Tryz.f62) h
theorem Vu (h:Go.Ab.ay.Xe (av 88) 5 a0 a1 M Q) : av 63 [a0,a1] M Q:=bi (fn:=Tryz.f63) h
theorem VM (h:Go.Ab.Crw.Xo (av 63) 5 a0 a1 M Q) : av 64 [a0,a1] M Q:=bi (fn:=Tryz.f64) h
theorem JN (h:Go.Ab.ay.Bh (av 91) (av 63) 133 a0 M Q) : av 65 [a0] M Q:=bi (fn:=Tryz.f65) h
theorem Mh (h:Go.Ab.ay.GL 111 109 (av 96) (av 97) (av 98) (av 99) a0 a1 M Q) : av 73 [a0,a1] M Q:=bi (fn:=Tryz.f73) h
theorem KS (h:Go.Ab.ay.Dj 5 (av 74) a0 M Q) : av 74 [a0] M Q:=bi (fn:=Tryz.f74) h
theorem KO (h:Go.Ab.Crw.CR (av 74) 5 a0 M Q) : av 75 [a0] M Q:=bi (fn:=Tryz.f75) h
theorem EG (h:Go.Ab.Crw.vT 30 (av 100) 27 (av 101) (av 102) (av 20) a0 M Q) : av 76 [a0] M Q:=bi (fn:=Tryz.f76) h
theorem Ng (h:Go.Ab.ay.Gf (av 103) a0 a1 M Q) : av 77 [a0,a1] M Q:=bi (fn:=Tryz.f77) h
theorem Td (h:Go.Ab.Crw.Qv 27 (av 105) (av 106) 3 (av 84) a0 a1 M Q) : av 80 [a0,a1] M Q:=bi (fn:=Tryz.f80) h
theorem MB (h:Go.Ab.ay.Fx (av 103) 25 111 (av 108) (av 107) (av 99) a0 a1 M Q) : av 81 [a0,a1] M Q:=bi (fn:=Tryz.f81) h
theorem oZ (h:Go.Ab.Crw.iW (av 109) (av 110) (av 111) (av 112) (av 113) (av 114) (av) (av 115) (av 116) (av 82) a0 a1 a2 a3 a4 M Q) : av 82 [a0,a1,a2,a3,a4] M Q:=bi (fn:=Tryz.f82) h
theorem El (h:Go.Ab.ay.wz (av 117) (av 118) a0 M Q) : av 83 [a0] M Q:=bi (fn:=Tryz.f83) h
theorem Qb (h:Go.Ab.Crw.LY a0 M Q) : av 84 [a0] M Q:=bi (fn:=Tryz.f84) h
theorem Dl (h:Go.Ab.Crw.uD (av 119) a0 a1 M Q) : av 85 [a0,a1] M Q:=bi (fn:=Tryz.f85) h
theorem BH (h:Go.Ab.Crw.sP (av) a0 a1 M Q) : av 86 [a0,a1] M Q:=bi (fn:=Tryz.f86) h
theorem KT (h:Go.Ab.Crw.CL 27 a0 a1 M Q) : av 87 [a0,a1] M Q:=bi (fn:=Tryz.f87) h
theorem Jz (h:Go.Ab.ay.Xt 5 a0 M Q) : av 88 [a0] M Q:=bi (fn:=Tryz.f88) h
theorem Eh (h:Go.Ab.ay.wu a0 M Q) : av 89 [a0] M Q:=bi (fn:=Tryz.f89) h
theorem Ia (h:Go.Ab.ay.Ag 111 a0 M Q) : av 90 [a0] M Q:=bi (fn:=Tryz.f90) h
theorem KP (h:Go.Ab.ay.Dm 111 (av 108) 133 a0 M Q) : av 91 [a0] M Q:=bi (fn:=Tryz.f91) h
theorem EF (h:Go.Ab.ay.vP 9 (av 122) 25 a0 M Q) : av 96 [a0] M Q:=bi (fn:=Tryz.f96) h
theorem HZ (h:Go.Ab.ay.yU (av 83) (av 123) a0 M Q) : av 97 [a0] M Q:=bi (fn:=Tryz.f97) h
theorem Dq (h:Go.Ab.ay.uQ a0 M Q) : av 98 [a0] M Q:=bi (fn:=Tryz.f98) h
theorem EX (h:Go.Ab.ay.xS a0 M Q) : av 99 [a0] M Q:=bi (fn:=Tryz.f99) h
theorem Yp (h:Go.Ab.Crw.acr 27 (av 101) (av 124) a0 M Q) : av 100 [a0] M Q:=bi (fn:=Tryz.f100) h
theorem I4 (h:Go.Ab.Crw.Aj (av 124) a0 a1 M Q) : av 101 [a0,a1] M Q:=bi (fn:=Tryz.f101) h
theorem H6 (h:Go.Ab.Crw.zf (av 101) a0 a1 M Q) : av 102 [a0,a1] M Q:=bi (fn:=Tryz.f102) h
theorem yI (h:Go.Ab.ay.oJ (av 125) (av 126) a0 a1 M Q) : av 103 [a0,a1] M Q:=bi (fn:=Tryz.f103) h
theorem Dc (h:Go.Ab.Crw.uh (av 135) a0 a1 M Q) : av 105 [a0,a1] M Q:=bi (fn:=Tryz.f105) h
theorem H5 (h:Go.Ab.Crw.yT (av 136) a0 a1 M Q) : av 106 [a0,a1] M Q:=bi (fn:=Tryz.f106) h
theorem uT (h:Go.Ab.ay.nN 25 (ZF Tryz.prog 137) (av 138) a0 a1 a2 M Q) : av 107 [a0,a1,a2] M Q:=bi (fn:=Tryz.f107) h
theorem FC (h:Go.Ab.ay.PP 25 a0 M Q) : av 108 [a0] M Q:=bi (fn:=Tryz.f108) h
theorem lL (h:Go.Ab.Crw.fZ (av) a0 a1 a2 a3 M Q) : av 109 [a0,a1,a2,a3] M Q:=bi (fn:=Tryz.f109) h
theorem wO (h:Go.Ab.Crw.nz (av 139) a0 a1 a2 a3 M Q) : av 110 [a0,a1,a2,a3] M Q:=bi (fn:=Tryz.f110) h
theorem sO (h:Go.Ab.Crw.j6 182 (av 140) (av 141) a0 a1 a2 a3 M Q) : av 111 [a0,a1,a2,a3] M Q:=bi (fn:=Tryz.f111) h
theorem uO (h:Go.Ab.Crw.lH 3 (av 142) (av 143) a0 a1 a2 a3 M Q) : av 112 [a0,a1,a2,a3] M Q:=bi (fn:=Tryz.f112) h
theorem tu (h:Go.Ab.Crw.kU a0 a1 a2 a3 M Q) : av 113 [a0,a1,a2,a3] M Q:=bi (fn:=Tryz.f113) h
theorem pM (h:Go.Ab.Crw.iK (av) a0 a1 a2 a3 M Q) : av 114 [a0,a1,a2,a3] M Q:=bi (fn:=Tryz.f114) h
theorem rO (h:Go.Ab.Crw.jV (av) a0 a1 a2 a3 a4 M Q) : av 115 [a0,a1,a2,a3,a4] M Q:=bi (fn:=Tryz.f115) h
theorem vL (h:Go.Ab.Crw.mV (av) a0 a1 a2 a3 a4 M Q) : av 116 [a0,a1,a2,a3,a4] M Q:=bi (fn:=Tryz.f116) h
theorem BI (h:Go.Ab.ay.sU a0 M Q) : av 118 [a0] M Q:=bi (fn:=Tryz.f118) h
theorem F9 (h:Go.Ab.Crw.xA a0 M Q) : av 119 [a0] M Q:=bi (fn:=Tryz.f119) h
theorem HV (h:Go.Ab.ay.yJ 9 25 a0 a1 M Q) : av 122 [a0,a1] M Q:=bi (fn:=Tryz.f122) h
theorem oF (h:Go.Ab.ay.iN (av 144) (av 145) (av 146) (av 147) (av 148) (av 149) (av 125) (av 150) (av 151) (av 123) a0 a1 a2 a3 M Q) : av 123 [a0,a1,a2,a3] M Q:=bi (fn:=Tryz.f123) h
theorem MU (h:Go.Ab.Crw.Fh a0 M Q) : av 124 [a0] M Q:=bi (fn:=Tryz.f124) h
theorem HY (h:Go.Ab.ay.yN (av 135) a0 a1 M Q) : av 125 [a0,a1] M Q:=bi (fn:=Tryz.f125) h
theorem DZ (h:Go.Ab.ay.uP a0 M Q) : av 126 [a0] M Q:=bi (fn:=Tryz.f126) h
theorem wh (h:Go.Ab.ay.sw a0 M Q) : av 135 [a0] M Q:=bi (fn:=Tryz.f135) h
theorem KW (h:Go.Ab.Crw.DN a0 M Q) : av 136 [a0] M Q:=bi (fn:=Tryz.f136) h
theorem wP (h:Go.Ab.Crw.nG (av) a0 a1 a2 a3 a4 M Q) : av 139 [a0,a1,a2,a3,a4] M Q:=bi (fn:=Tryz.f139) h
theorem Dp (h:Go.Ab.ay.uj (av 83) a0 M Q) : av 140 [a0] M Q:=bi (fn:=Tryz.f140) h
theorem vz (h:Go.Ab.ay.nQ a0 M Q) : av 141 [a0] M Q:=bi (fn:=Tryz.f141) h
theorem sH (h:Go.Ab.Crw.jT (av 143) a0 a1 a2 a3 M Q) : av 142 [a0,a1,a2,a3] M Q:=bi (fn:=Tryz.f142) h
theorem yu (h:Go.Ab.Crw.pg (av 156) a0 a1 a2 a3 a4 a5 M Q) : av 143 [a0,a1,a2,a3,a4,a5] M Q:=bi (fn:=Tryz.f143) h
theorem lg (h:Go.Ab.ay.fP (av 125) a0 a1 a2 M Q) : av 144 [a0,a1,a2] M Q:=bi (fn:=Tryz.f144) h
theorem vH (h:Go.Ab.ay.mQ (av 157) a0 a1 a2 M Q) : av 145 [a0,a1,a2] M Q:=bi (fn:=Tryz.f145) h
theorem rP (h:Go.Ab.ay.jU 182 (av 140) (av 141) a0 a1 a2 M Q) : av 146 [a0,a1,a2] M Q:=bi (fn:=Tryz.f146) h
theorem tF (h:Go.Ab.ay.kZ 3 (av 158) (av 159) a0 a1 a2 M Q) : av 147 [a0,a1,a2] M Q:=bi (fn:=Tryz.f147) h
theorem sK (h:Go.Ab.ay.ko a0 a1 a2 M Q) : av 148 [a0,a1,a2] M Q:=bi (fn:=Tryz.f148) h
theorem oQ (h:Go.Ab.ay.iC (av 125) a0 a1 a2 M Q) : av 149 [a0,a1,a2] M Q:=bi (fn:=Tryz.f149) h
theorem rG (h:Go.Ab.ay.jM (av 125) a0 a1 a2 a3 M Q) : av 150 [a0,a1,a2,a3] M Q:=bi (fn:=Tryz.f150) h
theorem vF (h:Go.Ab.ay.lX (av 125) a0 a1 a2 a3 M Q) : av 151 [a0,a1,a2,a3] M Q:=bi (fn:=Tryz.f151) h
theorem yE (h:Go.Ab.Crw.oP (av) a0 a1 a2 a3 a4 M Q) : av 156 [a0,a1,a2,a3,a4] M Q:=bi (fn:=Tryz.f156) h
theorem wM (h:Go.Ab.ay.mG (av 125) a0 a1 a2 a3 M Q) : av 157 [a0,a1,a2,a3] M Q:=bi (fn:=Tryz.f157) h
theorem rC (h:Go.Ab.ay.jK (av 159) a0 a1 a2 M Q) : av 158 [a0,a1,a2] M Q:=bi (fn:=Tryz.f158) h
theorem wV (h:Go.Ab.ay.ol (av 162) a0 a1 a2 a3 a4 M Q) : av 159 [a0,a1,a2,a3,a4] M Q:=bi (fn:=Tryz.f159) h
theorem xM (h:Go.Ab.ay.oo (av 125) a0 a1 a2 a3 M Q) : av 162 [a0,a1,a2,a3] M Q:=bi (fn:=Tryz.f162) h
end Go.Proofs.YtlhlnchhaminjaaGreat
namespace Go.Proofs.YtlhlnchhaminjaaGreat.il
open Go Go.Ab Go.Ab.ay Go.RowKit
theorem over:aid (ZF Tryz.prog 137):=by
 intro M ba oa na bb ob nb ea eb ca cb la lb opb Q hne ha hb h1 h2 hQ
 exact .inr (.inl ⟨⟨Tryz.f137,109,25,1,4,by kernel_rfl,by kernel_rfl,by kernel_rfl,by kernel_rfl,by kernel_rfl,by kernel_rfl⟩,
  ⟨ba,oa,na,ca,bb,ob,nb,cb,la,ea,0,lb,opb,eb,0,rfl,hne,ha,hb,rfl,h1,h2⟩,hQ⟩)
theorem adl:KI Tryz.prog 107:=⟨Tryz.f107,_,by kernel_rfl,rfl⟩
theorem insert:YJ 25 (av 107):=by
 intro M v bx n0 k x ex xs Q ho hn hl hk hx hxl hbx hQ
 by_cases hkn:k=xs.length
 ·subst hkn
  exact uT (ack ho hn hl hx hxl hQ)
 ·obtain⟨b,rfl,h1,h2,h3,h4⟩:=Own.En ho (by omega)
  refine jv.ahv adl h3 (by rw[h4]; show xs.length * 1=_; omega) fun c hc=>?_
  have hne:bx≠b:=fun e=>hbx (by simp[aG,e])
  have kk:ag [b] M (M.put b (.row (aX.row xs++List.replicate (c - xs.length) .top) true 25 0)):=(ag.refl _ _).put _ (.inr (by simp))
  refine uT (acF (c:=c) over rfl (by omega) hc (by omega) (aN _) (by rw[jk]; exact h2) (Dw hx hne) hxl hne ?_)
  intro v' M' q1 q2 q3 q4
  refine hQ v' M' q1 q2 (fun d hd=>?_) ?_
  ·rcases q3 d hd with rfl | h
   ·exact h1
   ·have:M.next≤d:=h
    omega
  ·exact(kk.trans q4).mono (by simp[aG])
theorem nan:aar (av 135):=fun hQ=>wh (NJ hQ)
theorem axR:aar (av 126):=fun hQ=>DZ (XU hQ)
theorem less:ym (av 125):=by
 intro M x y Q hQ
 obtain⟨a0,a1,e,h⟩:=acU nan hQ
 cases e
 exact HY h
theorem search:JY (av 103):=by
 intro M v xs n Q h1 h2 h3 hQ
 obtain⟨a0,a1,e,h⟩:=Yt less axR h1 h2 h3 hQ
 cases e
 exact yI h
theorem acY:EA 25 1 8 (av 108):=fun h1 h2 h3 h4 _ hQ=>FC (JM h1 h2 (Nat.le_refl _) h3 h4 hQ)
theorem adJ:EA 5 1 1 (av 88):=fun h1 h2 h3 h4 _ hQ=>Jz (JM h1 h2 (Nat.le_refl _) h3 h4 hQ)
theorem uint:BV 5 (av 63):=by
 intro M0 a0 cs n v h1 h2 h3 h4 Q hQ
 obtain⟨b0,b1,e,h⟩:=adW adJ h1 h2 h3 h4 hQ
 cases e
 exact Vu h
theorem settled:Gj (av 99):=by
 intro M b o T u l v xs Q h1 h2 h3 h4 h5 h6 h7 h8 h9 hQ
 obtain⟨a0,e,h⟩:=Wl h1 h2 h3 h4 h5 h6 h7 h8 h9 hQ
 cases e
 exact EX h
theorem iA:aa1 (av 81):=by
 intro M b o T u n l v xs Q h1 h2 h3 h4 h5 h6 h7 h8 h9 h10 h11 h12 hQ1 hQ2
 obtain⟨a0,a1,e,h⟩:=adE (TU:=25) (TP:=111) search acY insert settled h1 h2 h3 h4 h5 h6 h7 h8 h9 h10 h11 h12 hQ1 hQ2
 cases e
 exact MB h
theorem lc:TJ (av 77):=by
 intro M b o T u n l v xs Q h1 h2 h3 h4 h5 h6 hQ
 obtain⟨a0,a1,e,h⟩:=ad3 search h1 h2 h3 h4 h5 h6 hQ
 cases e
 exact Ng h
theorem good:Cb (av 58):=by
 intro M d Q hQ
 obtain⟨a0,e,h⟩:=adP (T:=27) hQ
 cases e
 exact Qk h
theorem aiW:Cb (av 61):=by
 intro M d Q hQ
 obtain⟨a0,e,h⟩:=Vx (T:=27) hQ
 cases e
 exact Qp h
theorem ny:abV 114 (av 42):=by
 intro M b ps d S Q h1 h2 hQ
 obtain⟨a0,a1,e,h⟩:=ac8 (TD:=27) good iA h1 h2 hQ
 cases e
 exact NY h
theorem new:aao 114 (av 38):=by
 intro M Q hQ
 obtain⟨e,h⟩:=agI hQ
 exact Hq h
theorem avM:aaT 114 25 (av 38):=by
 intro M Q hQ
 obtain⟨e,h⟩:=adI hQ
 exact Hq h
theorem ano:VR 114 133 (av 91):=by
 intro M b ps S Q h1 h2 hQ
 obtain⟨a0,e,h⟩:=aaA (T:=111) acY h1 h2 hQ
 cases e
 exact KP h
theorem encode:KN 114 5 (av 65):=by
 intro M b ps S Q h1 h2 hQ
 obtain⟨a0,e,h⟩:=Yz ano uint h1 h2 hQ
 cases e
 exact JN h
theorem num:acg 127 (av 89):=by
 intro M r S bs f Q h1 hQ
 obtain⟨a0,e,h⟩:=agi h1 hQ
 cases e
 exact Eh h
theorem int:Qi 127 (av 51):=by
 intro M r most S bs f Q h1 h2 hQ
 obtain⟨a0,a1,e,h⟩:=aeV num h1 h2 hQ
 cases e
 exact JI h
theorem aal:OZ 127 (av 52):=by
 intro M r S bs f Q h1 hQ
 obtain⟨a0,e,h⟩:=ZL num h1 hQ
 cases e
 exact H7 h
theorem err:ZE 127 (av 56):=by
 intro M r S bs f Q h1 hQ
 obtain⟨a0,e,h⟩:=aeq h1 hQ
 cases e
 exact IZ h
theorem ad9:VW 127 (av 54):=by
 intro M r S bs f Q h1 hQ
 obtain⟨a0,e,h⟩:=aef h1 hQ
 cases e
 exact JO h
theorem read:Nt 127 (av 50):=by
 intro M v bs Q h1 h2 hQ
 obtain⟨a0,e,h⟩:=adt adJ h1 h2 hQ
 cases e
 exact UE h
theorem formed:PU 114 (av 90):=by
 intro M b ps S Q h1 h2 hQ
 obtain⟨a0,e,h⟩:=XT (T:=111) h1 h2 hQ
 cases e
 exact Ia h
theorem equal:OX (av 57):=by
 intro M v w x y Q h1 h2 hQ
 obtain⟨a0,a1,e,h⟩:=ZI h1 h2 hQ
 cases e
 exact Hz h
theorem decode:Rf 114 25 (av 55):=by
 intro M v bs Q h1 h2 hN hS
 obtain⟨a0,e,h⟩:=YE read avM int aal.ru err ad9 formed encode equal h1 h2 hN hS
 cases e
 exact LH h
theorem within:Rm 114 (av 33):=by
 intro M a b ps qs S S' Q h1 h2 h3 h4 hQ
 obtain⟨a0,a1,e,h⟩:=Yj (T:=111) lc h1 h2 h3 h4 hQ
 cases e
 exact IC h
theorem gz:Tx 114 (av 37):=by
 intro M b ps d S Q h1 h2 hQ
 obtain⟨a0,a1,e,h⟩:=adD (T:=27) good lc h1 h2 hQ
 cases e
 exact Ph h
theorem grow:abd 25 (av 122):=by
 intro M n Q h1 h2 h3
 obtain⟨a0,a1,e,h⟩:=adS (TS:=9) h1 h2 h3
 cases e
 exact HV h
theorem concat:QR 25 (av 96):=by
 intro M bb TS v w xs ys Q h1 h2 h3 h4 h5 h6 hQ
 obtain⟨a0,e,h⟩:=XX (TS:=9) grow h1 h2 h3 h4 h5 h6 hQ
 cases e
 exact EF h
theorem Ze (v:Nat) : v<2 ^ 64→FT 5 v (av 74):=by
 induction v using Nat.strongRecOn with
 | _ v ih =>
   intro hv M Q hQ
   obtain⟨a0,e,h⟩:=Xi hv (fun w hw=>ih w hw (by omega)) hQ
   cases e
   exact KS h
theorem aja:Rh 25 3 (av 162):=fun {M b s k i j d Q} h1 h2 h3 h4 hQ=>by
 obtain⟨a0,a1,a2,a3,e,h⟩:=UW less h1 h2 h3 h4 hQ
 cases e
 exact xM h
theorem YO:Kj 25 3 (av 159):=fun {M b s k i j h d Q} h1 h2 h3 h4 h5 hQ=>by
 obtain⟨a0,a1,a2,a3,a4,e,h⟩:=VP aja h1 h2 h3 h4 h5 hQ
 cases e
 exact wV h
theorem aiO:Rj 25 3 (av 158):=fun {M b s k i d Q} h1 h2 h3 h4 h5 hQ=>by
 obtain⟨a0,a1,a2,e,h⟩:=VL YO h1 h2 h3 h4 h5 hQ
 cases e
 exact rC h
theorem ajm:PQ 25 (av 147):=fun {M b a e d Q} h1 h2 h3 h4 hQ=>by
 obtain⟨a0,a1,a2,e,h⟩:=Uw aiO YO h1 h2 h3 h4 hQ
 cases e
 exact tF h
theorem ahy:MG 25 (av 149):=fun {M b a e d Q} h1 h2 h3 h4 hQ=>by
 obtain⟨a0,a1,a2,e,h⟩:=SK less h1 h2 h3 h4 hQ
 cases e
 exact oQ h
theorem awi:zC 25 (Sort.insertionSort lN) (fun _ _ _=>True) (av 144):=fun {M b a e d Q} h1 h2 h3 h4 h5 hQ=>by
 obtain⟨a0,a1,a2,e,h⟩:=adT less h1 h2 h3 h4 h5 hQ
 cases e
 exact lg h
theorem ase:abx 25 (av 157):=fun {M b lo hi first d Q} h1 h2 h3 h4 hQ=>by
 obtain⟨a0,a1,a2,a3,e,h⟩:=acy less h1 h2 h3 h4 hQ
 cases e
 exact wM h
theorem atN:zC 25 (Sort.heapSort lN) (fun _ a e=>a<e) (av 145):=fun {M b a e d Q} h1 h2 h3 h4 h5 hQ=>by
 obtain⟨a0,a1,a2,e,h⟩:=acQ ase h1 h2 h3 h4 h5 hQ
 cases e
 exact vH h
theorem aeP:zC 25 Sort.reverseRange (fun _ a e=>a<e) (av 148):=fun {M b a e d Q} h1 h2 h3 h4 h5 hQ=>by
 obtain⟨a0,a1,a2,e,h⟩:=XG h1 h2 h3 h4 h5 hQ
 cases e
 exact sK h
theorem ajT:Q0 25 (av 150):=fun {M b a e pv d Q} h1 h2 h3 h4 h5 hQ=>by
 obtain⟨a0,a1,a2,a3,e,h⟩:=X4 less h1 h2 h3 h4 h5 hQ
 cases e
 exact rG h
theorem arD:aaN 25 (av 151):=fun {M b a e pv d Q} h1 h2 h3 h4 h5 hQ=>by
 obtain⟨a0,a1,a2,a3,e,h⟩:=adf less h1 h2 h3 h4 h5 hQ
 cases e
 exact vF h
theorem alh:IL (av 118):=fun {M x Q} h1 hQ=>by
 obtain⟨a0,e,h⟩:=X7 h1 hQ
 cases e
 exact BI h
theorem ag4:IL (av 83):=fun {M x Q} h1 hQ=>by
 obtain⟨a0,e,h⟩:=adv (c3:=av 117) alh h1 hQ
 cases e
 exact El h
theorem akM:abw (av 140):=fun {M x Q} h0 h1 hQ=>by
 obtain⟨a0,e,h⟩:=agf ag4 h0 h1 hQ
 cases e
 exact Dp h
theorem au6:aga 25 182 (av 141):=fun {M b s r d Q} h0 hQ=>by
 obtain⟨a0,e,h⟩:=afq h0 hQ
 cases e
 exact vz h
theorem ale:U8 25 (av 146):=fun {M b a e d Q} h1 h2 h3 h4 hQ=>by
 obtain⟨a0,a1,a2,e,h⟩:=abA akM au6 h1 h2 h3 h4 hQ
 cases e
 exact rP h
theorem alH:∀ m,ZO 25 m (av 123)
 | 0=>by intro h1 h2 h3 h4 h5; omega
 | m + 1=>by
   intro h1 h2 h3 h4 h5 h6 hQ
   obtain⟨a0,a1,a2,a3,e,h⟩:=ad4 awi atN ale ajm aeP ahy less ajT arD (alH m) h1 h2 h3 h4 h5 h6 hQ
   cases e
   exact oF h
theorem aoU:Uo (av 144):=fun {M v Q} hQ=>by
 obtain⟨a0,a1,a2,e,h⟩:=Yv (cl:=av 125) (v:=v) hQ
 cases e
 exact lg h
theorem anH:Ua (av 123):=fun {M v Q} hQ=>by
 obtain⟨a0,a1,a2,a3,e,h⟩:=Yc (c2:=av 145) (c3:=av 146) (cc:=av 147) (c4:=av 148) (cp:=av 149) (c5:=av 125) (c6:=av 150) (c7:=av 151) (c8:=av 123) aoU (v:=v) hQ
 cases e
 exact oF h
theorem ajA:aci (fun xs=>xs.length≤60000) kR 25 (av 97):=fun {M base v xs Q} h1 h2 hQ=>by
 obtain⟨a0,e,h⟩:=Z6 ag4 alH anH h1 h2 hQ
 cases e
 exact HZ h
theorem aaH:MF (fun xs=>xs.length≤60000) dd 25 (av 98):=fun {M base v xs Q} h1 h2 hQ=>by
 obtain⟨a0,e,h⟩:=Te h1 h2 hQ
 cases e
 exact Dq h
theorem aki:aat (fun xs=>xs.length≤60000) (fun xs=>xs.length≤60000) kR dd 114 (av 73):=fun {M a b ps qs S S' Q} h1 h2 h3 h4 h5 h6 h7 h8 hQ=>by
 obtain⟨a0,a1,e,h⟩:=acT (TP:=111) (TL:=109) concat ajA aaH settled h1 h2 h3 h4 h5 h6 h7 h8 hQ
 cases e
 exact Mh h
end Go.Proofs.YtlhlnchhaminjaaGreat.il
namespace Go.Proofs.YtlhlnchhaminjaaGreat.il
open Go Go.Ab Go.Ab.ay Go.Ab.Crw Go.RowKit
theorem asZ:Ez (av 60):=by
 intro M a b Q h1
 obtain⟨a0,a1,e,h⟩:=aaW (T:=27) h1
 cases e
 exact Wt h
theorem ake:Ez (av 62):=by
 intro M a b Q h1
 obtain⟨a0,a1,e,h⟩:=WI (T:=27) h1
 cases e
 exact PI h
theorem names:Xy (av 59):=by
 intro M x y z Q h1
 obtain⟨a0,a1,a2,e,h⟩:=aaq h1
 cases e
 exact KY h
theorem bz:qy (av 17):=by
 intro M e kv ks Q h1 h2
 obtain⟨a0,e,h⟩:=XP (TE:=30) (TD:=27) good names asZ h1 h2
 cases e
 exact Uq h
theorem JK:qy (av 20):=by
 intro M e kv ks Q h1 h2
 obtain⟨a0,e,h⟩:=Qu (TE:=30) aiW ake h1 h2
 cases e
 exact KX h
theorem awk:FW (α:=List UInt8) (fun s=>St s) (av 119):=by
 intro M x Q h1
 obtain⟨a0,e,h⟩:=ade h1
 cases e
 exact F9 h
theorem avc:FW (α:=Nat) (fun n=>N .u64 (n:Int)) (av 135):=by
 intro M x Q h1
 obtain⟨a0,e,h⟩:=adm h1
 cases e
 exact wh h
theorem axU:FW (α:=Int) (fun n=>N .i64 n) (av 136):=by
 intro M x Q h1
 obtain⟨a0,e,h⟩:=adi h1
 cases e
 exact KW h
theorem au5:zq (α:=List UInt8) (fun s=>St s) (fun x y=>decide (x<y)) (av 85):=by
 intro M x y Q h1
 obtain⟨a0,a1,e,h⟩:=ac3 awk h1
 cases e
 exact Dl h
theorem axl:zq (α:=Nat) (fun n=>N .u64 (n:Int)) (fun x y=>decide (x<y)) (av 105):=by
 intro M x y Q h1
 obtain⟨a0,a1,e,h⟩:=acx avc h1
 cases e
 exact Dc h
theorem awc:zq (α:=Int) (fun n=>N .i64 n) (fun x y=>decide (x<y)) (av 106):=by
 intro M x y Q h1
 obtain⟨a0,a1,e,h⟩:=adM axU h1
 cases e
 exact H5 h
theorem or_:OrC (av 84):=by
 intro M v xs Q h1 h2 h3
 obtain⟨a0,e,h⟩:=aiX h1 h2 h3
 cases e
 exact Qb h
theorem ar9:Vg (av 80):=by
 intro M x y Q h1
 obtain⟨a0,a1,e,h⟩:=abZ axl awc or_ h1
 cases e
 exact Td h
theorem compare:GX (av 45):=by
 intro M x y Q h1
 obtain⟨a0,a1,e,h⟩:=XE au5 ar9 or_ h1
 cases e
 exact NG h
abbrev fE:AV:=.fn (.func 45) [] []
theorem MW:Ah aK qR (gq (av) fE):=ajq compare
theorem aek:SortG aK 58 5 fE (Sort.insertionSort qR) (fun _ _ _=>True) (av 109):=by
 intro M b a e d Q h1 h2 h3 h4 h5 h6
 obtain⟨a0,a1,a2,a3,e,h⟩:=Crw.aek (cv:=av) MW h1 h2 h3 h4 h5 h6
 cases e
 exact lL h
theorem afo:SortG aK 58 5 fE Sort.reverseRange (fun _ a e=>a<e) (av 113):=by
 intro M b a e d Q h1 h2 h3 h4 h5 h6
 obtain⟨a0,a1,a2,a3,e,h⟩:=Crw.afo h1 h2 h3 h4 h5 h6
 cases e
 exact tu h
theorem ace:aau 58 fE qR (av 139):=by
 intro M b lo hi first d Q h1 h2 h3 h4 h5
 obtain⟨a0,a1,a2,a3,a4,e,h⟩:=Crw.ace (cv:=av) MW h1 h2 h3 h4 h5
 cases e
 exact wP h
theorem abW:SortG aK 58 5 fE (Sort.heapSort qR) (fun _ a e=>a<e) (av 110):=by
 intro M b a e d Q h1 h2 h3 h4 h5 h6
 obtain⟨a0,a1,a2,a3,e,h⟩:=Crw.abW ace h1 h2 h3 h4 h5 h6
 cases e
 exact wO h
theorem Rp:Rl 58 fE qR (av 115):=by
 intro M b a e pv d Q h1 h2 h3 h4 h5 h6
 obtain⟨a0,a1,a2,a3,a4,e,h⟩:=Crw.Rp (cv:=av) MW h1 h2 h3 h4 h5 h6
 cases e
 exact rO h
theorem abF:ZQ 58 fE qR (av 116):=by
 intro M b a e pv d Q h1 h2 h3 h4 h5 h6
 obtain⟨a0,a1,a2,a3,a4,e,h⟩:=Crw.abF (cv:=av) MW h1 h2 h3 h4 h5 h6
 cases e
 exact vL h
theorem QW:Qg 58 3 fE qR (av 156):=by
 intro M b s k i j d Q h1 h2 h3 h4 h5 h6
 obtain⟨a0,a1,a2,a3,a4,e,h⟩:=Crw.QW (cv:=av) MW h1 h2 h3 h4 h5 h6
 cases e
 exact yE h
theorem Kc:Kt 58 3 fE qR (av 143):=by
 intro M b s k i j h d Q h1 h2 h3 h4 h5 h6 h7
 obtain⟨a0,a1,a2,a3,a4,a5,e,h⟩:=Crw.Kc QW h1 h2 h3 h4 h5 h6 h7
 cases e
 exact yu h
theorem QJ:Ql 58 3 fE qR (av 142):=by
 intro M b s k i d Q h1 h2 h3 h4 h5 h6 h7
 obtain⟨a0,a1,a2,a3,e,h⟩:=Crw.QJ Kc h1 h2 h3 h4 h5 h6 h7
 cases e
 exact sH h
theorem Q8:PV 58 fE qR (av 112):=by
 intro M b a e d Q h1 h2 h3 h4 h5
 obtain⟨a0,a1,a2,a3,e,h⟩:=Crw.Q8 QJ Kc h1 h2 h3 h4 h5
 cases e
 exact uO h
theorem Mg:LK 58 fE qR (av 114):=by
 intro M b a e d Q h1 h2 h3 h4 h5
 obtain⟨a0,a1,a2,a3,e,h⟩:=Crw.Mg (cv:=av) MW h1 h2 h3 h4 h5
 cases e
 exact pM h
theorem av5:ahm 182 (av 141):=by
 intro M s r Q h1 h2 h3
 obtain⟨a0,e,h⟩:=acz h1 h2 h3
 cases e
 exact vz h
theorem VK:SortG aK 58 5 fE Sort.breakPatterns (fun _ _ _=>True) (av 111):=by
 intro M b a e d Q h1 h2 h3 h4 h5 h6
 obtain⟨a0,a1,a2,a3,e,h⟩:=Crw.VK akM av5 h1 h2 h3 h4 h5 h6
 cases e
 exact sO h
theorem aa8:∀ m,aaY 58 m fE qR (av 82)
 | 0=>by intro h1 h2 h3 h4 h5; omega
 | m + 1=>by
   intro h1 h2 h3 h4 h5 h6 hQ
   obtain⟨a0,a1,a2,a3,a4,e,h⟩:=Crw.aa8 (cv:=av) rT aek abW VK Q8 afo Mg MW Rp abF (aa8 m) h1 h2 h3 h4 h5 h6 hQ
   cases e
   exact oZ h
theorem Qo:QF (av 109):=by
 intro M v fv Q h1
 obtain⟨a0,a1,a2,a3,e,h⟩:=Crw.Qo (cv:=av) h1
 cases e
 exact lL h
theorem Ri:Re (av 82):=by
 intro M v fv Q h1
 obtain⟨a0,a1,a2,a3,a4,e,h⟩:=Crw.Ri (cv:=av) Qo h1
 cases e
 exact oZ h
theorem als:QC fE qR 58 (av 44):=by
 intro M base v xs Q h1 h2 h3
 obtain⟨a0,a1,e,h⟩:=Crw.aj3 rT ag4 aa8 Ri h1 h2 h3
 cases e
 exact Dr h
theorem clone:QM 58 (av 43):=by
 intro M v xs Q h1 h2 h3
 obtain⟨a0,e,h⟩:=Yn h1 h2 h3
 cases e
 exact Hy h
theorem index:QS (av 87):=by
 intro M v l d Q h1 h2 h3
 obtain⟨a0,a1,e,h⟩:=YB (T:=27) h1 h2 h3
 cases e
 exact KT h
theorem contains:GH (av 48):=by
 intro M v l d Q h1 h2 h3
 obtain⟨a0,a1,e,h⟩:=PK (T:=27) index h1 h2 h3
 cases e
 exact Ga h
theorem amW:QX (av 49):=by
 intro M v w xs ys Q h1 h2 h3 h4
 obtain⟨a0,a1,e,h⟩:=X0 h1 h2 h3 h4
 cases e
 exact Ht h
theorem adA {b:Nat} {e:gp} {kv:AV} {ks:List ay} (hl:ks.length≤1000000) : Tt (Ik 30 b e kv ks) (fun x=>decide (x.1∈ks)) (gq (av) (.fn (.func 47) [] [.ptr b 0])):=by
 intro M x Q hP hQ
 obtain⟨a0,a1,e,h⟩:=Yi (T:=58) contains hl hP hQ
 refine⟨47,[],[.ptr b 0],rfl, ?_⟩
 show av 47 [.agg (aK.cells x),.ptr b 0] M Q
 cases e
 exact EB h
theorem ap0 {P:RM→Prop} {p:Crw.aS→Bool} {fv:AV} (hp:Tt P p (gq (av) fv)) : PR P p fv (av 86):=by
 intro M v xs Q h1 h2 h3 h4 h5 h6
 obtain⟨a0,a1,e,h⟩:=XR hp h1 h2 h3 h4 h5 h6
 cases e
 exact BH h
theorem ai8 (b:Nat) (e:gp) (kv:AV) (ks:List ay) (hl:ks.length≤1000000) : LM 58 (Ik 30 b e kv ks) (fun x=>decide (x.1∈ks)) (.fn (.func 47) [] [.ptr b 0]) (av 46):=by
 intro M base v xs Q h1 h2 h3 h4 hQ
 obtain⟨a0,a1,e,h⟩:=Vq (TE:=58) (ap0 (adA hl)) (adA hl) h1 h2 h3 h4 hQ
 cases e
 exact BD h
theorem Oi:WJ 114 (av 41):=by
 intro M b qs S' k Q h1 h2 h3 h4
 obtain⟨a0,e,h⟩:=aab new aki h1 h2 h3 h4
 cases e
 exact LG h
theorem as6:VT 75 114 (av 11):=by
 intro M Q h1
 obtain⟨e,h⟩:=abJ new h1
 exact Yf h
theorem apply:XC 75 114 (av 14):=by
 intro M t k B ps es e kv ks Q h1 h2 h3 h4 h5 h6 h7 h8
 obtain⟨a0,a1,e,h⟩:=aa9 (TE:=30) (TD:=27) (TN:=58) (cv:=av) bz Oi ny gz clone als ai8 within amW h1 h2 h3 h4 h5 h6 h7 h8
 cases e
 exact Hu h
theorem own:afR 30 (av 19):=by
 intro M v l Q h1 h2 h3
 obtain⟨a0,e,h⟩:=aew JK h1 h2 h3
 cases e
 exact XQ h
theorem Lx {α:Type} {R:qP α} {M:RM} {S:Nat→Prop} {p:α→Prop} : ∀ (n:Nat) (ds:List AV),ds.length=n * R.size→(∀ i,i<n→∃ a,p a∧R.rel M ((ds.drop (i * R.size)).take R.size) a S) →
  ∃ xs:List α,xs.length=n∧gZ R M S ds xs∧∀ x∈xs,p x
 | 0,ds,hl,_=>by
   have:ds=[]:=by simpa using hl
   subst this
   exact⟨[],rfl,.nil,by simp⟩
 | n + 1,ds,hl,h=>by
   obtain⟨a,pa,ha⟩:=h 0 (by omega)
   simp only[Nat.zero_mul,List.drop_zero] at ha
   have hl' : (ds.drop R.size).length=n * R.size:=by rw[List.length_drop,hl,Nat.succ_mul]; omega
   obtain⟨xs,h1,h2,h3⟩:=Lx n (ds.drop R.size) hl' fun i hi=>by
    obtain⟨b,pb,hb⟩:=h (i + 1) (by omega)
    refine⟨b,pb, ?_⟩
    rw[List.drop_drop,show R.size + i * R.size=(i + 1) * R.size by rw[Nat.succ_mul,Nat.add_comm]]
    exact hb
   refine⟨a :: xs,by simp[h1], ?_,fun x hx=>?_⟩
   ·have:=gZ.cons ha h2
    rwa [List.take_append_drop] at this
   ·rcases List.mem_cons.1 hx with rfl | hx
    ·exact pa
    ·exact h3 x hx
theorem cells3:Tryz.prog.cellsOf 3=1:=by kernel_rfl
theorem amL:Tryz.prog.cellsOf 9=1:=by kernel_rfl
theorem ajp:Tryz.prog.cellsOf 25=1:=by kernel_rfl
theorem JZ:Tryz.prog.cellsOf 27=2:=by kernel_rfl
theorem ajo:Tryz.prog.cellsOf 28=1:=by kernel_rfl
theorem PZ:Tryz.prog.cellsOf 30=7:=by kernel_rfl
theorem UU {M:RM} {cs:List AV} (h:Fits Tryz.prog M 27 cs) : ∃ d:ay,cs=dV.cells d∧d.2<2 ^ 64:=by
 obtain⟨hl,hf⟩:=h.NC Tryz.underlying27
 rw[JZ] at hl
 match cs,hl with
 | [a,b],_ =>
   have f0:Fits Tryz.prog M 3 (([a,b].drop 0).take (Tryz.prog.cellsOf 3)):=hf 0 _ rfl
   have f1:Fits Tryz.prog M 25 (([a,b].drop 1).take (Tryz.prog.cellsOf 25)):=hf 1 _ rfl
   rw[cells3] at f0
   rw[ajp] at f1
   obtain⟨n,e,_,_⟩:=f0.Ei Tryz.underlying3
   obtain⟨m,e',g1,g2⟩:=f1.Ei Tryz.underlying25
   have g1:(0:Int)≤m:=g1
   have g2:m≤(18446744073709551615:Int):=g2
   obtain⟨k,rfl⟩:=Int.eq_ofNat_of_zero_le g1
   cases e; cases e'
   exact⟨(n,k),rfl,by show k<2 ^ 64; omega⟩
theorem adV {M:RM} {cs:List AV} (h:Fits Tryz.prog M 28 cs) : ∃ v,∃ l:List ay,cs=[v]∧Sl dV M v l∧∀ d∈l,d.2<2 ^ 64:=by
 obtain⟨v,n,ds,rfl,hs,hb,he⟩:=h.I1 Tryz.underlying28 (by rw[JZ]; decide)
 rw[JZ] at hs he
 obtain⟨xs,rfl,rfl,hp⟩:=Je (size:=2) dV.cells (fun d:ay=>d.2<2 ^ 64) (fun _=>rfl) n ds hs.length fun i hi=>by
  obtain⟨d,e,h⟩:=UU (he i hi)
  exact⟨d,h,e⟩
 exact⟨v,xs,rfl,hs,hp⟩
def aho (x:Ev) : Prop:=x.1.1.2<2 ^ 64∧x.1.2.2.1.length≤reachBytes∧x.1.2.2.2.1.length≤reachBytes∧x.1.2.2.2.2.length≤reachBytes∧∀ d∈x.2,d.2<2 ^ 64
theorem YS {M:RM} {cs:List AV} (h:Fits Tryz.prog M 30 cs) : ∃ e kv ks,cs=aP e kv∧Sl dV M kv ks∧aho (e,ks):=by
 obtain⟨hl,hf⟩:=h.NC Tryz.underlying30
 rw[PZ] at hl
 match cs,hl with
 | [a,b,c,d,e,f,g],_ =>
   have f0:Fits Tryz.prog M 27 (([a,b,c,d,e,f,g].drop 0).take (Tryz.prog.cellsOf 27)):=hf 0 _ rfl
   have f1:Fits Tryz.prog M 3 (([a,b,c,d,e,f,g].drop 2).take (Tryz.prog.cellsOf 3)):=hf 1 _ rfl
   have f2:Fits Tryz.prog M 9 (([a,b,c,d,e,f,g].drop 3).take (Tryz.prog.cellsOf 9)):=hf 2 _ rfl
   have f3:Fits Tryz.prog M 9 (([a,b,c,d,e,f,g].drop 4).take (Tryz.prog.cellsOf 9)):=hf 3 _ rfl
   have f4:Fits Tryz.prog M 9 (([a,b,c,d,e,f,g].drop 5).take (Tryz.prog.cellsOf 9)):=hf 4 _ rfl
   have f5:Fits Tryz.prog M 28 (([a,b,c,d,e,f,g].drop 6).take (Tryz.prog.cellsOf 28)):=hf 5 _ rfl
   rw[JZ] at f0
   rw[cells3] at f1
   rw[amL] at f2 f3 f4
   rw[ajo] at f5
   obtain⟨dd,e0,g0⟩:=UU f0
   obtain⟨op,e1,_,_⟩:=f1.Ei Tryz.underlying3
   obtain⟨s2,e2,g2⟩:=f2.QA Tryz.underlying9
   obtain⟨s3,e3,g3⟩:=f3.QA Tryz.underlying9
   obtain⟨s4,e4,g4⟩:=f4.QA Tryz.underlying9
   obtain⟨kv,ks,e5,hk,g5⟩:=adV f5
   cases e0; cases e1; cases e2; cases e3; cases e4; cases e5
   exact⟨(dd,(op,(s2,(s3,s4)))),_,ks,rfl,hk,g0,g2,g3,g4,g5⟩
theorem aha {M:RM} {cs:List AV} (h:Fits Tryz.prog M 43 cs) : ∃ v,∃ l:List Ev,cs=[v]∧iZ vo M v l (fun d=>d<M.next)∧∀ x∈l,aho x:=by
 obtain⟨v,n,ds,rfl,hs,hb,he⟩:=h.I1 Tryz.underlying43 (by rw[PZ]; decide)
 rw[PZ] at hs he
 obtain⟨xs,hn,hr,hp⟩:=Lx (R:=vo) (M:=M) (S:=fun d=>d<M.next) (p:=aho) n ds hs.length fun i hi=>by
  obtain⟨e,kv,ks,e1,hk,ho⟩:=YS (he i hi)
  refine⟨(e,ks),ho, ?_⟩
  show vo.rel M ((ds.drop (i * 7)).take 7) (e,ks) _
  rw[e1]
  exact acB hk (fun d hd=>aL.lt hk d hd)
 subst hn
 exact⟨v,xs,rfl,⟨ds,hs,fun d hd=>hs.lt d hd,hr⟩,hp⟩
theorem state:NV 75 114 (av 21):=by
 intro M v l n m back Q h1 h2 h3 h4 h5
 obtain⟨a0,a1,a2,e,h⟩:=Z8 as6 apply h1 h2 h3 h4 h5
 cases e
 exact Ti h
theorem YZ:EP 5 (av 64):=by
 intro M v L s Q h1 h2 h3
 obtain⟨a0,a1,e,h⟩:=Ul uint h1 h2 h3
 cases e
 exact VM h
theorem ajW:Mt 5 (av 75):=by
 intro M s Q h1 h2
 obtain⟨a0,e,h⟩:=Wh Ze h1 h2
 cases e
 exact KO h
theorem Um:yG 75 114 5 (av 22):=by
 intro M t B ps es Q h1 h2 h3 h4 h5
 obtain⟨a0,e,h⟩:=SS (TN:=58) encode YZ uint h1 h2 h3 h4 h5
 cases e
 exact Gh h
end Go.Proofs.YtlhlnchhaminjaaGreat.il
namespace Go.Proofs.YtlhlnchhaminjaaGreat
open Go Go.Ab
variable {a0 a1 a2 a3 a4 a5 a6 a7:AV} {M:RM} {Q:ak}
theorem Qj (h:Go.Ab.Crw.MK (av 50) (av 53) 5 (av 55) 75 (av 51) (av 52) 27 58 (av 56) (av 37) (av 45) (av 54) (av 22) (av 57) a0 M Q) : av 16 [a0] M Q:=bi (fn:=Tryz.f16) h
end Go.Proofs.YtlhlnchhaminjaaGreat
namespace Go.Proofs.YtlhlnchhaminjaaGreat.il
open Go Go.Ab Go.Ab.ay Go.Ab.Crw Go.RowKit
theorem text:Tm 127 (av 53):=by
 intro M r most S bs f Q h1 h2 hQ
 obtain⟨a0,a1,e,h⟩:=acI int h1 h2 hQ
 cases e
 exact H9 h
theorem tQ:IU 75 114 (av 16):=by
 intro M v bs Q h1 h2 h3 h4
 obtain⟨a0,e,h⟩:=aad (TD:=27) (TN:=58) (TB:=5) read text decode int aal.ru err gz compare ad9 Um equal h1 h2 h3 h4
 cases e
 exact Qj h
theorem arR:Il 5 (av 28):=by
 intro M e kv ks Q h1 h2 h3
 obtain⟨a0,e,h⟩:=aaJ (TE:=30) (TD:=27) bz uint YZ h1 h2 h3
 cases e
 exact H8 h
theorem ag5:yA 5 (av 29):=by
 intro M e kv ks Q h1 h2 h3
 obtain⟨a0,e,h⟩:=SL (TE:=30) Ze ajW h1 h2 h3
 cases e
 exact Ej h
theorem akJ:Uy (av 15):=by
 intro M v b Q h1 h2 h3 h4
 obtain⟨a0,e,h⟩:=aaB (TE:=30) (TD:=27) read int aal.ru text ad9 bz h1 h2 h3 h4
 cases e
 exact Hw h
theorem ams:Qr (av 34):=by
 intro M e f kv lv ks ls Q h1 h2 h3 h4
 obtain⟨a0,a1,e,h⟩:=Yy (TE:=30) h1 h2 h3 h4
 cases e
 exact KU h
theorem ac7:Z5 (av 124):=by
 intro M v bs Q h1 h2 h3 h4
 obtain⟨a0,e,h⟩:=ad6 h1 h2 h3 h4
 cases e
 exact MU h
theorem Mk:xI (av 101):=by
 intro M v bs most Q h1 h2 h3 h4 h5
 obtain⟨a0,a1,e,h⟩:=YC ac7 h1 h2 h3 h4 h5
 cases e
 exact I4 h
theorem adX:Am (av 102):=by
 intro M v bs most Q h1 h2 h3 h4 h5
 obtain⟨a0,a1,e,h⟩:=UQ Mk h1 h2 h3 h4 h5
 cases e
 exact H6 h
theorem am3:ZX (av 100):=by
 intro M v bs Q h1 h2 h3
 obtain⟨a0,e,h⟩:=ac5 (TD:=27) Mk ac7 h1 h2 h3
 cases e
 exact Yp h
theorem kH:Ii (av 76):=by
 intro M v b Q h1 h2 h3 h4
 obtain⟨a0,e,h⟩:=SQ (TE:=30) (TD:=27) am3 Mk adX JK h1 h2 h3 h4
 cases e
 exact EG h
theorem acn:XA (av 30):=by
 intro M v b Q h1 h2 h3 h4
 obtain⟨a0,e,h⟩:=aax (TE:=30) akJ kH ams h1 h2 h3 h4
 cases e
 exact S9 h
end Go.Proofs.YtlhlnchhaminjaaGreat.il
namespace Go.Proofs.YtlhlnchhaminjaaGreat
open Go Go.Ab Go.RowKit
def ext:Ext := { split:=[107],Km:=[137],KF:=[] }
theorem Cc:G7 Tryz.prog ext where
 ng:=VI (by kernel_rfl)
 Km:=by
  intro f hf
  have:f=137:=by
   unfold ext at hf
   simp only[has] at hf
   split at hf
   ·rename_i h; exact(Nat.eq_of_beq_eq_true h).symm
   ·cases hf
  subst this
  exact⟨Tryz.f137,109,25,1,4,by kernel_rfl,by kernel_rfl,by kernel_rfl,by kernel_rfl,by kernel_rfl,by kernel_rfl⟩
 KF:=fun f hf=>by cases hf
theorem mixed:Tryz.prog.follows .mixedOrders=true:=by kernel_rfl
def Iv:World→Prop:=fun _=>True
def c0:AV:=.ptr 0 0
def c1:AV:=.sc (.slice none 0 0)
def c2:Option AV:=some c1
def c3:Tree AV:=.node .leaf c2 .leaf
def c4:Tree AV:=.node c3 c2 .leaf
def c5:Tree AV:=.node c4 c2 c3
def c6:Tree AV:=.node c3 c2 c3
def c7:Tree AV:=.node c5 c2 c6
def c8:Tree AV:=.node c6 c2 c6
def c9:Tree AV:=.node c7 c2 c8
def c10:AV:=.sc (.int .u64 0)
def c11:Option AV:=some c10
def c12:Tree AV:=.node .leaf c11 .leaf
def c13:Tree AV:=.node c12 c11 c12
def c14:Tree AV:=.node c13 c11 c13
def c15:Tree AV:=.node c14 c11 c14
def c16:dz:=.row 32 (.node c9 c11 c15) [] false 114 0
def c17:AV:=.ptr 4 0
def c18:AV:=.ptr 28 0
def c19:AV:=.ptr 1 0
def c20:AV:=.sc (.string ⟨⟨ [99] ⟩⟩)
def c21:AV:=.sc (.string ⟨⟨ [102,110] ⟩⟩)
def I9:Option AV:=some c21
def c23:Tree AV:=.node .leaf I9 .leaf
def c24:AV:=.sc (.int .u64 1)
def gu:Option AV:=some c24
def c26:Tree AV:=.node c23 gu .leaf
def j4:AV:=.sc (.int .i64 0)
def c28:Option AV:=some j4
def c29:AV:=.sc (.string ⟨⟨ [65,110,110] ⟩⟩)
def c30:Option AV:=some c29
def c31:Tree AV:=.node .leaf c30 .leaf
def c32:Option AV:=some c20
def vB:dz:=.row 5 (.node c26 c28 (.node c31 c32 .leaf)) [] true 58 0
def c34:Tree AV:=.node .leaf gu .leaf
def mq:dz:=.row 1 c34 [] true 25 0
def Cw:Option AV:=some (.emp 10)
def c37:AV:=.slc 14 0 1 (.op 5)
def c38:AV:=.slc 21 0 1 (.op 5)
def c39:AV:=.ptr 5 0
def c40:dz:=.row 1 c23 [] false 9 0
def c41:AV:=.sc (.int .i64 (-1))
def wS:AV:=.tup []
def NR:AV:=.slc 26 0 1 (.op 2)
def zT:AV:=.agg [j4,c24]
def kI:AV:=.sc (.bool true)
def c46:AV:=.sc (.int .i64 1)
def Em:AV:=.agg [c46,c24]
def SG:AV:=.sc (.string ⟨⟨ [65,110,110,97] ⟩⟩)
def c52:AV:=.ptr 4 2
def c53:AV:=.ptr 9 0
def Et:dz:=.row 32 (.node c9 gu c15) [] false 114 0
def c55:AV:=.ptr 28 2
def tN:AV:=.sc (.bool false)
def c57:AV:=.slc 12 0 1 (.op 5)
def Zd:AV:=.agg [j4,c24,c20,c21,c29]
def c59:AV:=.ptr 18 0
def uU:AV:=.ptr 65 0
def c61:AV:=.ptr 65 2
def wR:Option AV:=some (.emp 104)
def c64:AV:=.slc 62 0 1 (.op 5)
def pK:Tree AV:=.node c14 gu c14
def c66:AV:=.slc 109 0 2 (.op 5)
def Sw:Tree AV:=.node .leaf c32 .leaf
def Lg:Option AV:=some SG
def c69:Tree AV:=.node .leaf Lg .leaf
def c70:Option AV:=some c46
def c71:dz:=.row 10 (.node (.node (.node Sw I9 .leaf) gu (.node c69 c70 .leaf)) c28 (.node (.node c23 c30 .leaf) c32 c34)) [] true 58 0
def c72:AV:=.slc 111 0 2 (.op 5)
def N8:AV:=.ptr 63 0
def rq:AV:=.sc (.string ⟨⟨ [] ⟩⟩)
def c75:Option AV:=some rq
def c76:Tree AV:=.node .leaf c75 .leaf
def OO:AV:=.slc 111 0 1 (.op 5)
def c78:AV:=.slc 118 0 1 (.op 5)
def pO:dz:=.row 5 (.node c26 c70 (.node c69 c32 .leaf)) [] true 58 0
def c80:AV:=.agg [c46,c24,c20,c21,SG]
def c81:AV:=.ptr 115 0
def c82:dz:=.row 1 c76 [] false 9 0
def YT:AV:=.slc 123 0 1 (.op 2)
def Cj:dz:=.row 2 (.node c34 c70 .leaf) [] true 27 0
def c85:AV:=.sc (.int .u64 2)
def c86:AV:=.agg [j4,c85]
def c87:AV:=.slc 127 0 1 (.op 1)
def c88:AV:=.sc (.int .u8 0)
def uR:Option AV:=some c88
def Hl:Tree AV:=.node .leaf uR .leaf
def c91:dz:=.row 1 Hl [] true 5 0
def c92:AV:=.slc 131 0 2 (.op 1)
def c93:Option AV:=some (.sc (.int .u8 2))
def Zt:Tree AV:=.node .leaf c93 .leaf
def c95:dz:=.row 2 (.node Zt uR .leaf) [] true 5 0
def c96:AV:=.slc 135 0 3 (.op 1)
def c97:dz:=.row 3 (.node Zt uR Zt) [] true 5 0
def c98:AV:=.slc 140 0 5 (.op 1)
def Ct:Option AV:=some (.sc (.int .u8 1))
def sQ:Tree AV:=.node .leaf Ct .leaf
def axi:Tree AV:=.node sQ c93 .leaf
def aez:Option AV:=some (.sc (.int .u8 99))
def afC:Tree AV:=.node .leaf aez .leaf
def aoo:Tree AV:=.node afC c93 .leaf
def c105:dz:=.row 5 (.node axi uR aoo) [] true 5 0
def age:AV:=.slc 144 0 6 (.op 1)
def c107:Tree AV:=.node sQ c93 Hl
def abR:dz:=.row 6 (.node c107 uR aoo) [] true 5 0
def c109:AV:=.slc 148 0 7 (.op 1)
def apc:Tree AV:=.node afC c93 Hl
def aej:dz:=.row 7 (.node c107 uR apc) [] true 5 0
def awI:AV:=.slc 152 0 8 (.op 1)
def IA:Tree AV:=.node sQ Ct .leaf
def anO:Tree AV:=.node IA c93 Hl
def amZ:dz:=.row 8 (.node anO uR apc) [] true 5 0
def c116:AV:=.slc 157 0 9 (.op 1)
def c117:Tree AV:=.node (.node sQ aez .leaf) c93 Hl
def al1:dz:=.row 9 (.node anO uR c117) [] true 5 0
def c119:AV:=.slc 161 0 10 (.op 1)
def afb:Tree AV:=.node sQ uR .leaf
def Vn:dz:=.row 10 (.node (.node IA c93 afb) uR c117) [] true 5 0
def av1:AV:=.slc 164 0 10 (.op 1)
def axr:AV:=.slc 192 0 1 (.op 1)
def c124:dz:=.row 1 Zt [] true 5 0
def auS:AV:=.slc 197 0 2 (.op 1)
def PT:dz:=.row 2 (.node Hl c93 .leaf) [] true 5 0
def c127:AV:=.slc 201 0 3 (.op 1)
def Rt:dz:=.row 3 (.node Hl c93 sQ) [] true 5 0
def au0:AV:=.slc 205 0 4 (.op 1)
def c130:Tree AV:=.node Hl uR .leaf
def c131:dz:=.row 4 (.node c130 c93 sQ) [] true 5 0
def axX:AV:=.slc 210 0 5 (.op 1)
def Rn:dz:=.row 5 (.node c130 c93 IA) [] true 5 0
def axq:AV:=.slc 214 0 6 (.op 1)
def agV:Tree AV:=.node Hl uR sQ
def PN:dz:=.row 6 (.node agV c93 IA) [] true 5 0
def ap2:AV:=.slc 221 0 8 (.op 1)
def c138:Tree AV:=.node Hl Ct .leaf
def c139:Tree AV:=.node c138 c93 sQ
def Nk:Option AV:=some (.sc (.int .u8 7))
def c141:dz:=.row 8 (.node c139 Nk agV) [] true 5 0
def axy:AV:=.slc 225 0 9 (.op 1)
def c143:Tree AV:=.node afb uR sQ
def aaR:dz:=.row 9 (.node c139 Nk c143) [] true 5 0
def c145:AV:=.slc 230 0 10 (.op 1)
def c146:Tree AV:=.node c138 c93 IA
def abP:dz:=.row 10 (.node c146 Nk c143) [] true 5 0
def c148:AV:=.slc 234 0 11 (.op 1)
def axh:Tree AV:=.node afb uR IA
def Qm:dz:=.row 11 (.node c146 Nk axh) [] true 5 0
def aes:AV:=.slc 239 0 13 (.op 1)
def c152:Tree AV:=.node Hl Ct sQ
def awz:Tree AV:=.node c152 c93 IA
def c154:Tree AV:=.node sQ uR afC
def au4:Tree AV:=.node c154 uR IA
def c156:dz:=.row 13 (.node awz Nk au4) [] true 5 0
def c157:AV:=.slc 244 0 16 (.op 1)
def am4:Tree AV:=.node .leaf (some (.sc (.int .u8 110))) .leaf
def c159:Tree AV:=.node am4 uR .leaf
def c160:Tree AV:=.node sQ Ct Zt
def av2:Tree AV:=.node (.node c159 Ct sQ) c93 c160
def c162:Tree AV:=.node .leaf (some (.sc (.int .u8 102))) .leaf
def axd:Tree AV:=.node sQ Ct c162
def c164:dz:=.row 16 (.node av2 Nk (.node c154 uR axd)) [] true 5 0
def VF:AV:=.slc 249 0 21 (.op 1)
def apT:Tree AV:=.node am4 Ct .leaf
def c167:Tree AV:=.node (.node .leaf (some (.sc (.int .u8 4))) .leaf) Ct .leaf
def c168:dz:=.row 21 (.node (.node (.node c159 Ct apT) c93 (.node (.node (.node .leaf (some (.sc (.int .u8 65))) .leaf) Ct .leaf) Ct Zt)) Nk (.node (.node c167 uR (.node (.node .leaf (some (.sc (.int .u8 97))) .leaf) aez .leaf)) uR (.node apT Ct c162))) [] true 5 0
def awN:AV:=.slc 251 0 21 (.op 1)
def af3:AV:=.slc 253 0 7 (.op 1)
def c171:dz:=.row 7 (.node agV c93 (.node sQ Ct Hl)) [] true 5 0
def avy:AV:=.slc 255 0 7 (.op 1)
def c173:AV:=.ptr 165 0
def aaz:Tree AV:=.node .leaf (some tN) .leaf
def apR:AV:=.ptr 252 0
def awL:AV:=.ptr 256 0
def alG:Tree AV:=.node .leaf c70 .leaf
def c182:Tree AV:=.node c34 c2 .leaf
def c183:AV:=.ptr 257 0
def gM:dz:=.row 32 (.node c9 gu pK) [] false 114 0
def aml:dz:=.row 6 (.node (.node alG gu c3) c28 c182) [] true 133 0
def au7:AV:=.slc 279 0 1 (.op 1)
def axH:AV:=.slc 284 0 2 (.op 1)
def axk:AV:=.slc 288 0 3 (.op 1)
def axG:AV:=.slc 292 0 4 (.op 1)
def axF:AV:=.slc 297 0 5 (.op 1)
def avV:AV:=.slc 301 0 6 (.op 1)
def awp:AV:=.slc 333 0 1 (.op 1)
def c193:AV:=.slc 338 0 2 (.op 1)
def c194:AV:=.slc 342 0 3 (.op 1)
def avJ:AV:=.slc 346 0 4 (.op 1)
def c196:AV:=.slc 351 0 5 (.op 1)
def axb:AV:=.slc 355 0 6 (.op 1)
def c198:AV:=.slc 362 0 8 (.op 1)
def avb:AV:=.slc 366 0 9 (.op 1)
def awC:AV:=.slc 371 0 10 (.op 1)
def c201:AV:=.slc 375 0 11 (.op 1)
def agN:AV:=.slc 380 0 13 (.op 1)
def c203:AV:=.slc 385 0 16 (.op 1)
def akK:AV:=.slc 305 0 7 (.op 1)
def agc:AV:=.slc 390 0 21 (.op 1)
def awh:AV:=.ptr 257 2
def c208:AV:=.ptr 391 0
def CQ:AV:=.ptr 429 0
def c210:AV:=.ptr 429 2
def MO:AV:=.slc 311 0 1 (.op 5)
def c212:AV:=.slc 426 0 1 (.op 5)
def c213:Option AV:=some c85
def Io:Option AV:=some (.emp 468)
def Qt:AV:=.ptr 480 0
def apW:AV:=.slc 471 0 1 (.op 5)
def alp:AV:=.slc 473 0 1 (.op 5)
def c218:AV:=.slc 475 0 1 (.op 5)
def Ux:AV:=.slc 471 0 0 (.op 5)
def aoE:AV:=.slc 476 0 0 (.ex 0)
def Ni:AV:=.sc (.int .i64 2)
def c222:AV:=.agg [j4,c85,Ni,c20,rq,rq,(.slc 168 0 1 (.op 2))]
def Ud:AV:=.agg [j4,c85,Ni,c20,rq,rq,YT]
def DV:AV:=.ptr 306 0
def Az:Option AV:=some c183
def c226:AV:=.agg [j4,c10,j4,rq,rq,rq,c1]
def c228:Tree AV:=.node .leaf (some kI) .leaf
def c229:AV:=.ptr 8 0
def anM:AV:=.slc 7 0 0 (.ex 0)
def avK:Option AV:=some anM
def c232:AV:=.sc (.int .i64 14)
def c233:AV:=.agg [j4,c24,c46,c20,c21,c29,c1]
def c234:AV:=.agg [c46,c24,c46,c20,c21,SG,NR]
def avU:AV:=.slc 218 0 7 (.op 1)
def axv:AV:=.sc (.int .i64 4)
def awt:AV:=.slc 359 0 7 (.op 1)
def apS:AV:=.tup [c233,j4]
def amQ:AV:=.tup [c234,j4]
def aoj:AV:=.tup [Ud,j4]
def anE:AV:=.ptr 3 0
def aeA:AV:=.ptr 64 0
def ako:AV:=.ptr 428 0
def alD:AV:=.sc (.string ⟨⟨ [2,0,1,0,1,1,0] ⟩⟩)
def amg:AV:=.tup [(.sc (.pointer none)),c232]
def ahC:AV:=.tup [kI,j4]
def B1:Table:=[(38,[{args:=[],ans:=.rows 0 c0 [(0,c16)] 1},{args:=[],ans:=.rows 4 c17 [(4,c16)] 5},{args:=[],ans:=.rows 28 c18 [(28,c16)] 29}]),(36,[{args:=[c19,c20],fp:=[(0,c16),(1,(.row 2 (.node c3 (some c0) .leaf) [] false 75 0))],nx:=6,ans:=.val c1},{args:=[c19,c20],fp:=[(14,vB),(10,mq),(4,(.row 32 (.node (.node c7 Cw c8) gu c15) [] false 114 0)),(1,(.row 2 (.node (.node .leaf (some c37) .leaf) (some c17) .leaf) [] false 75 0))],ans:=.rows 19 c38 [(21,vB)] 22}]),(79,[{args:=[c1,(.fn (.func 80) [] [])],nx:=7,ans:=.val wS},{args:=[NR,(.fn (.func 80) [] [])],fp:=[(26,(.row 2 (.node c34 c28 .leaf) [] true 27 0))],nx:=27,ans:=.val wS}]),(58,[{args:=[zT],nx:=8,ans:=.val kI},{args:=[Em],nx:=28,ans:=.val kI}]),(59,[{args:=[c20,c21,c29],nx:=8,ans:=.val kI},{args:=[c20,c21,SG],nx:=28,ans:=.val kI}]),(97,[{args:=[c1],nx:=7,ans:=.val wS}]),(98,[{args:=[c1],nx:=7,ans:=.val c1}]),(77,[{args:=[c0,c24],fp:=[(0,c16)],nx:=12,ans:=.val tN}]),(43,[{args:=[c1],nx:=12,ans:=.val c1},{args:=[c57],fp:=[(12,vB)],ans:=.rows 13 c37 [(14,vB)] 15}]),(82,[{args:=[c57,j4,c46,c46,(.fn (.func 45) [] [])],fp:=[(12,vB)],nx:=13,ans:=.val wS}]),(87,[{args:=[c1,zT],nx:=17,ans:=.val c41}]),(33,[{args:=[c17,c0],fp:=[(0,c16),(10,mq),(4,(.row 32 (.node (.node c7 Cw c8) gu c15) [] false 114 0))],nx:=15,ans:=.val tN}]),(78,[{args:=[Zd,c59],fp:=[(18,c40)],nx:=22,ans:=.val tN}])]
theorem b1:kw Tryz.prog ext [] 100000 200 B1=true:=by kernel_rfl
def T1:Table:=B1++[]
theorem t1:jO Tryz.prog Iv T1:=jO.nil.add Cc mixed b1
def B2:Table:=[ (43,[{args:=[c37],fp:=[(14,vB)],ans:=.rows 61 c64 [(62,vB)] 63}]),(38,[{args:=[],ans:=.rows 65 uU [(65,c16)] 66}]),(81,[{args:=[uU,c24],fp:=[(104,mq),(65,(.row 32 (.node (.node (.node c5 wR c6) c2 c8) gu pK) [] false 114 0))],nx:=107,ans:=.val kI}]),(77,[{args:=[c55,c24],fp:=[(28,Et)],nx:=107,ans:=.val tN}])]
theorem b2:kw Tryz.prog ext T1 100000 200 B2=true:=by kernel_rfl
def T2:Table:=B2++T1
theorem t2:jO Tryz.prog Iv T2:=t1.add Cc mixed b2
def B3:Table:=[(43,[{args:=[c64],fp:=[(62,vB)],ans:=.rows 107 (.slc 108 0 1 (.op 5)) [(108,vB)] 109},{args:=[c66],fp:=[(109,c71)],ans:=.rows 110 c72 [(111,c71)] 112}]),(85,[{args:=[c20,c20],nx:=112,ans:=.val j4},{args:=[c21,c21],nx:=112,ans:=.val j4}]),(80,[{args:=[Em,zT],nx:=112,ans:=.val c46}]),(87,[{args:=[NR,zT],fp:=[(26,(.row 2 (.node c34 c28 .leaf) [] true 27 0))],nx:=114,ans:=.val j4},{args:=[NR,Em],fp:=[(26,(.row 2 (.node c34 c28 .leaf) [] true 27 0))],nx:=115,ans:=.val c41}]),(33,[{args:=[uU,c18],fp:=[(28,Et),(104,mq),(65,(.row 32 (.node (.node (.node c5 wR c6) c2 c8) gu pK) [] false 114 0))],nx:=113,ans:=.val tN}]),(36,[{args:=[N8,c20],fp:=[(111,(.row 10 (.node (.node (.node c76 I9 .leaf) gu (.node c76 c28 .leaf)) c70 (.node (.node c76 Lg .leaf) c32 c12)) [] true 58 0)),(104,mq),(65,(.row 32 (.node (.node (.node c5 wR c6) c2 c8) gu pK) [] false 114 0)),(63,(.row 2 (.node (.node .leaf (some OO) .leaf) (some uU) .leaf) [] false 75 0))],ans:=.rows 116 c78 [(118,pO)] 119}]),(78,[{args:=[c80,c81],fp:=[(115,c82)],nx:=119,ans:=.val tN}]),(79,[{args:=[YT,(.fn (.func 80) [] [])],fp:=[(123,Cj)],nx:=124,ans:=.val wS}]),(58,[{args:=[c86],nx:=125,ans:=.val kI}]),(59,[{args:=[c20,rq,rq],nx:=125,ans:=.val kI}]),(88,[{args:=[c1],nx:=126,ans:=.val c1},{args:=[c87],fp:=[(127,c91)],ans:=.rows 128 (.slc 129 0 1 (.op 1)) [(129,c91)] 130},{args:=[c92],fp:=[(131,c95)],ans:=.rows 132 (.slc 133 0 2 (.op 1)) [(133,c95)] 134},{args:=[c96],fp:=[(135,c97)],ans:=.rows 136 (.slc 137 0 3 (.op 1)) [(137,c97)] 138},{args:=[c98],fp:=[(140,c105)],ans:=.rows 141 (.slc 142 0 5 (.op 1)) [(142,c105)] 143},{args:=[age],fp:=[(144,abR)],ans:=.rows 145 (.slc 146 0 6 (.op 1)) [(146,abR)] 147},{args:=[c109],fp:=[(148,aej)],ans:=.rows 149 (.slc 150 0 7 (.op 1)) [(150,aej)] 151},{args:=[awI],fp:=[(152,amZ)],ans:=.rows 154 (.slc 155 0 8 (.op 1)) [(155,amZ)] 156},{args:=[c116],fp:=[(157,al1)],ans:=.rows 158 (.slc 159 0 9 (.op 1)) [(159,al1)] 160},{args:=[c119],fp:=[(161,Vn)],ans:=.rows 163 av1 [(164,Vn)] 165},{args:=[axr],fp:=[(192,c124)],ans:=.rows 194 (.slc 195 0 1 (.op 1)) [(195,c124)] 196},{args:=[auS],fp:=[(197,PT)],ans:=.rows 198 (.slc 199 0 2 (.op 1)) [(199,PT)] 200},{args:=[c127],fp:=[(201,Rt)],ans:=.rows 202 (.slc 203 0 3 (.op 1)) [(203,Rt)] 204},{args:=[au0],fp:=[(205,c131)],ans:=.rows 207 (.slc 208 0 4 (.op 1)) [(208,c131)] 209},{args:=[axX],fp:=[(210,Rn)],ans:=.rows 211 (.slc 212 0 5 (.op 1)) [(212,Rn)] 213},{args:=[axq],fp:=[(214,PN)],ans:=.rows 215 (.slc 216 0 6 (.op 1)) [(216,PN)] 217},{args:=[ap2],fp:=[(221,c141)],ans:=.rows 222 (.slc 223 0 8 (.op 1)) [(223,c141)] 224},{args:=[axy],fp:=[(225,aaR)],ans:=.rows 227 (.slc 228 0 9 (.op 1)) [(228,aaR)] 229},{args:=[c145],fp:=[(230,abP)],ans:=.rows 231 (.slc 232 0 10 (.op 1)) [(232,abP)] 233},{args:=[c148],fp:=[(234,Qm)],ans:=.rows 235 (.slc 236 0 11 (.op 1)) [(236,Qm)] 237},{args:=[aes],fp:=[(239,c156)],ans:=.rows 240 (.slc 241 0 13 (.op 1)) [(241,c156)] 242},{args:=[c157],fp:=[(244,c164)],ans:=.rows 245 (.slc 246 0 16 (.op 1)) [(246,c164)] 247},{args:=[VF],fp:=[(249,c168)],ans:=.rows 250 awN [(251,c168)] 252},{args:=[af3],fp:=[(253,c171)],ans:=.rows 254 avy [(255,c171)] 256}]),(54,[{args:=[c173],fp:=[(164,Vn),(165,(.row 2 (.node aaz (some (.emp 164)) .leaf) [] false 127 0))],nx:=169,ans:=.val j4},{args:=[awL],fp:=[(255,c171),(256,(.row 2 (.node aaz (some (.emp 255)) .leaf) [] false 127 0))],nx:=258,ans:=.val j4}]),(91,[{args:=[uU],fp:=[(104,mq),(65,(.row 32 (.node (.node (.node c5 wR c6) c2 c8) gu pK) [] false 114 0))],ans:=.rows 170 (.slc 176 0 2 (.op 3)) [(174,(.row 0 .leaf [c10] false 25 0)),(176,(.row 6 (.node (.node alG gu (.node .leaf (some (.slc 174 0 0 (.ex 0))) .leaf)) c28 c182) [] true 133 0))] 191},{args:=[c183],fp:=[(257,gM)],ans:=.rows 258 (.slc 263 0 2 (.op 3)) [(263,aml)] 278}]),(38,[{args:=[],ans:=.rows 257 c183 [(257,c16)] 258}]),(90,[{args:=[c183],fp:=[(257,gM)],nx:=258,ans:=.val kI}])]
theorem b3:kw Tryz.prog ext T2 100000 200 B3=true:=by kernel_rfl
def T3:Table:=B3++T2
theorem t3:jO Tryz.prog Iv T3:=t2.add Cc mixed b3
def B4:Table:=[(88,[{args:=[au7],fp:=[(279,c124)],ans:=.rows 281 (.slc 282 0 1 (.op 1)) [(282,c124)] 283},{args:=[axH],fp:=[(284,PT)],ans:=.rows 285 (.slc 286 0 2 (.op 1)) [(286,PT)] 287},{args:=[axk],fp:=[(288,Rt)],ans:=.rows 289 (.slc 290 0 3 (.op 1)) [(290,Rt)] 291},{args:=[axG],fp:=[(292,c131)],ans:=.rows 294 (.slc 295 0 4 (.op 1)) [(295,c131)] 296},{args:=[axF],fp:=[(297,Rn)],ans:=.rows 298 (.slc 299 0 5 (.op 1)) [(299,Rn)] 300},{args:=[avV],fp:=[(301,PN)],ans:=.rows 302 (.slc 303 0 6 (.op 1)) [(303,PN)] 304},{args:=[awp],fp:=[(333,c124)],ans:=.rows 335 (.slc 336 0 1 (.op 1)) [(336,c124)] 337},{args:=[c193],fp:=[(338,PT)],ans:=.rows 339 (.slc 340 0 2 (.op 1)) [(340,PT)] 341},{args:=[c194],fp:=[(342,Rt)],ans:=.rows 343 (.slc 344 0 3 (.op 1)) [(344,Rt)] 345},{args:=[avJ],fp:=[(346,c131)],ans:=.rows 348 (.slc 349 0 4 (.op 1)) [(349,c131)] 350},{args:=[c196],fp:=[(351,Rn)],ans:=.rows 352 (.slc 353 0 5 (.op 1)) [(353,Rn)] 354},{args:=[axb],fp:=[(355,PN)],ans:=.rows 356 (.slc 357 0 6 (.op 1)) [(357,PN)] 358},{args:=[c198],fp:=[(362,c141)],ans:=.rows 363 (.slc 364 0 8 (.op 1)) [(364,c141)] 365},{args:=[avb],fp:=[(366,aaR)],ans:=.rows 368 (.slc 369 0 9 (.op 1)) [(369,aaR)] 370},{args:=[awC],fp:=[(371,abP)],ans:=.rows 372 (.slc 373 0 10 (.op 1)) [(373,abP)] 374},{args:=[c201],fp:=[(375,Qm)],ans:=.rows 376 (.slc 377 0 11 (.op 1)) [(377,Qm)] 378},{args:=[agN],fp:=[(380,c156)],ans:=.rows 381 (.slc 382 0 13 (.op 1)) [(382,c156)] 383},{args:=[c203],fp:=[(385,c164)],ans:=.rows 386 (.slc 387 0 16 (.op 1)) [(387,c164)] 388}]),(57,[{args:=[akK,af3],fp:=[(253,c171),(305,c171)],nx:=306,ans:=.val kI},{args:=[agc,VF],fp:=[(249,c168),(390,c168)],nx:=391,ans:=.val kI}]),(56,[{args:=[apR],fp:=[(251,c168),(252,(.row 2 (.node aaz (some (.emp 251)) .leaf) [] false 127 0))],nx:=310,ans:=.val j4}]),(77,[{args:=[awh,c24],fp:=[(257,gM)],nx:=311,ans:=.val kI}]),(54,[{args:=[apR],fp:=[(251,c168),(252,(.row 2 (.node aaz (some (.emp 251)) .leaf) [] false 127 0))],nx:=312,ans:=.val j4}]),(91,[{args:=[c183],fp:=[(257,gM)],ans:=.rows 312 (.slc 317 0 2 (.op 3)) [(317,aml)] 332}]),(38,[{args:=[],ans:=.rows 391 c208 [(391,c16)] 392}])]
theorem b4:kw Tryz.prog ext T3 100000 200 B4=true:=by kernel_rfl
def T4:Table:=B4++T3
theorem t4:jO Tryz.prog Iv T4:=t3.add Cc mixed b4
def B5:Table:=[ (49,[{args:=[MO,OO],fp:=[(111,(.row 10 (.node (.node (.node c76 I9 .leaf) gu (.node c76 c28 .leaf)) c70 (.node (.node c76 Lg .leaf) c32 c12)) [] true 58 0)),(311,pO)],nx:=424,ans:=.val kI}]),(33,[{args:=[c183,uU],fp:=[(104,mq),(65,(.row 32 (.node (.node (.node c5 wR c6) c2 c8) gu pK) [] false 114 0)),(257,gM)],nx:=424,ans:=.val kI},{args:=[uU,c183],fp:=[(257,gM),(104,mq),(65,(.row 32 (.node (.node (.node c5 wR c6) c2 c8) gu pK) [] false 114 0))],nx:=424,ans:=.val kI}]),(80,[{args:=[zT,Em],nx:=429,ans:=.val c41}]),(77,[{args:=[c52,c24],fp:=[(10,mq),(4,(.row 32 (.node (.node c7 Cw c8) gu c15) [] false 114 0))],nx:=426,ans:=.val tN},{args:=[c183,c24],fp:=[(257,gM)],nx:=429,ans:=.val kI}]),(82,[{args:=[c212,j4,c46,c46,(.fn (.func 45) [] [])],fp:=[(426,pO)],nx:=428,ans:=.val wS}]),(38,[{args:=[],ans:=.rows 429 CQ [(429,c16)] 430}])]
theorem b5:kw Tryz.prog ext T4 100000 200 B5=true:=by kernel_rfl
def T5:Table:=B5++T4
theorem t5:jO Tryz.prog Iv T5:=t4.add Cc mixed b5
def B6:Table:=[ (81,[{args:=[c210,c24],fp:=[(468,(.row 1 (.node .leaf c213 .leaf) [] true 25 0)),(429,(.row 32 (.node (.node c7 Io c8) c213 pK) [] false 114 0))],nx:=471,ans:=.val kI}]),(43,[{args:=[OO],fp:=[(111,(.row 10 (.node (.node (.node c76 I9 .leaf) gu (.node c76 c28 .leaf)) c70 (.node (.node c76 Lg .leaf) c32 c12)) [] true 58 0))],ans:=.rows 470 apW [(471,pO)] 472},{args:=[c212],fp:=[(426,pO)],ans:=.rows 472 alp [(473,pO)] 474},{args:=[c212],fp:=[(426,pO)],ans:=.rows 474 c218 [(475,pO)] 476},{args:=[Ux],fp:=[(471,(.row 5 (.node (.node c76 c11 .leaf) c28 (.node c76 c75 .leaf)) [] true 58 0))],ans:=.rows 476 aoE [(476,(.row 0 .leaf [j4,c10,rq,rq,rq] false 58 0))] 477}]),(87,[{args:=[YT,Em],fp:=[(123,Cj)],nx:=474,ans:=.val j4}]),(33,[{args:=[CQ,uU],fp:=[(104,mq),(65,(.row 32 (.node (.node (.node c5 wR c6) c2 c8) gu pK) [] false 114 0)),(468,(.row 1 (.node .leaf c213 .leaf) [] true 25 0)),(429,(.row 32 (.node (.node c7 Io c8) c213 pK) [] false 114 0))],nx:=472,ans:=.val tN}]),(34,[{args:=[c222,Ud],fp:=[(123,Cj),(168,Cj)],nx:=472,ans:=.val kI}]),(35,[{args:=[N8],fp:=[(471,(.row 5 (.node (.node c76 c11 .leaf) c28 (.node c76 c75 .leaf)) [] true 58 0)),(468,(.row 1 (.node .leaf c213 .leaf) [] true 25 0)),(429,(.row 32 (.node (.node c7 Io c8) c213 pK) [] false 114 0)),(63,(.row 2 (.node (.node .leaf (some Ux) .leaf) (some CQ) .leaf) [] false 75 0))],nx:=477,ans:=.val c1}]),(36,[{args:=[DV,c20],fp:=[(426,pO),(257,gM),(306,(.row 2 (.node (.node .leaf (some c212) .leaf) Az .leaf) [] false 75 0))],ans:=.rows 477 (.slc 479 0 1 (.op 5)) [(479,pO)] 480}]),(38,[{args:=[],ans:=.rows 480 Qt [(480,c16)] 481},{args:=[],ans:=.rows 9 c53 [(9,c16)] 10}]),(77,[{args:=[Qt,c24],fp:=[(480,gM)],nx:=514,ans:=.val kI}]),(13,[{args:=[c19,zT,c20,rq,(.sc (.string ⟨⟨ [120] ⟩⟩))],fp:=[(0,c16),(1,(.row 2 (.node c3 (some c0) .leaf) [] false 75 0))],nx:=3,ans:=.val (.tup [c226,c46])}]),(58,[{args:=[(.agg [j4,c10])],nx:=6,ans:=.val tN}]),(54,[{args:=[c39],fp:=[(5,(.row 2 (.node c228 c2 .leaf) [] false 127 0))],nx:=7,ans:=.val c232},{args:=[c229],fp:=[(7,(.row 0 .leaf [c88] false 5 0)),(8,(.row 2 (.node c228 avK .leaf) [] false 127 0))],nx:=10,ans:=.val c232}]),(88,[{args:=[(.slc 6 0 0 (.op 1))],fp:=[(6,(.row 0 .leaf [] true 5 0))],ans:=.rows 7 anM [(7,(.row 0 .leaf [c88] false 5 0))] 8}])]
theorem b6:kw Tryz.prog ext T5 100000 200 B6=true:=by kernel_rfl
def T6:Table:=B6++T5
theorem t6:jO Tryz.prog Iv T6:=t5.add Cc mixed b6
def B7:Table:=[(11,[{args:=[],ans:=.rows 0 c19 [(0,c16),(1,(.row 2 (.node c3 (some c0) .leaf) [] false 75 0))] 2}]),(46,[{args:=[c1,(.fn (.func 78) [] [c39])],fp:=[(5,c40)],nx:=6,ans:=.val c1}]),(17,[{args:=[c233],nx:=7,ans:=.val kI},{args:=[c234],fp:=[(26,(.row 2 (.node c34 c28 .leaf) [] true 27 0))],nx:=27,ans:=.val kI},{args:=[Ud],fp:=[(123,Cj)],nx:=124,ans:=.val kI},{args:=[c222],fp:=[(168,Cj)],nx:=169,ans:=.val kI}]),(73,[{args:=[c17,c0],fp:=[(0,c16),(4,c16)],nx:=5,ans:=.val wS},{args:=[c18,c17],fp:=[(10,mq),(4,(.row 32 (.node (.node c7 Cw c8) gu c15) [] false 114 0)),(28,c16)],ans:=.rows 29 wS [(28,Et)] 61},{args:=[uU,c18],fp:=[(28,Et),(65,c16)],ans:=.rows 66 wS [(65,Et)] 98}]),(81,[{args:=[c17,c24],fp:=[(4,c16)],ans:=.rows 8 kI [(10,mq),(4,(.row 32 (.node (.node c7 Cw c8) gu c15) [] false 114 0))] 11},{args:=[c61,c24],fp:=[(65,Et)],ans:=.rows 102 kI [(104,mq),(65,(.row 32 (.node (.node (.node c5 wR c6) c2 c8) gu pK) [] false 114 0))] 105}]),(37,[{args:=[c0,zT],fp:=[(0,c16)],nx:=11,ans:=.val tN},{args:=[c18,Em],fp:=[(28,Et)],nx:=106,ans:=.val tN}]),(44,[{args:=[c57,(.fn (.func 45) [] [])],fp:=[(12,vB)],nx:=13,ans:=.val wS}]),(48,[{args:=[c1,zT],nx:=16,ans:=.val tN},{args:=[NR,zT],fp:=[(26,(.row 2 (.node c34 c28 .leaf) [] true 27 0))],nx:=113,ans:=.val kI},{args:=[NR,Em],fp:=[(26,(.row 2 (.node c34 c28 .leaf) [] true 27 0))],nx:=114,ans:=.val tN}]),(42,[{args:=[uU,zT],fp:=[(104,mq),(65,(.row 32 (.node (.node (.node c5 wR c6) c2 c8) gu pK) [] false 114 0))],nx:=106,ans:=.val j4}]),(45,[{args:=[c80,Zd],nx:=110,ans:=.val c46}])]
theorem b7:kw Tryz.prog ext T6 100000 200 B7=true:=by kernel_rfl
def T7:Table:=B7++T6
theorem t7:jO Tryz.prog Iv T7:=t6.add Cc mixed b7
def B8:Table:=[ (37,[{args:=[c183,Em],fp:=[(257,gM)],nx:=310,ans:=.val kI},{args:=[c17,Em],fp:=[(10,mq),(4,(.row 32 (.node (.node c7 Cw c8) gu c15) [] false 114 0))],nx:=425,ans:=.val tN},{args:=[c183,zT],fp:=[(257,gM)],nx:=428,ans:=.val kI},{args:=[Qt,zT],fp:=[(480,gM)],nx:=513,ans:=.val kI}]),(73,[{args:=[c208,c183],fp:=[(257,gM),(391,c16)],ans:=.rows 392 wS [(391,gM)] 424},{args:=[c183,c17],fp:=[(10,mq),(4,(.row 32 (.node (.node c7 Cw c8) gu c15) [] false 114 0)),(257,gM)],nx:=428,ans:=.val wS},{args:=[CQ,uU],fp:=[(104,mq),(65,(.row 32 (.node (.node (.node c5 wR c6) c2 c8) gu pK) [] false 114 0)),(429,c16)],ans:=.rows 430 wS [(429,gM)] 462},{args:=[Qt,c183],fp:=[(257,gM),(480,c16)],ans:=.rows 481 wS [(480,gM)] 513}]),(24,[{args:=[DV,N8],fp:=[(111,(.row 10 (.node (.node (.node c76 I9 .leaf) gu (.node c76 c28 .leaf)) c70 (.node (.node c76 Lg .leaf) c32 c12)) [] true 58 0)),(104,mq),(65,(.row 32 (.node (.node (.node c5 wR c6) c2 c8) gu pK) [] false 114 0)),(63,(.row 2 (.node (.node .leaf (some OO) .leaf) (some uU) .leaf) [] false 75 0)),(311,pO),(257,gM),(306,(.row 2 (.node (.node .leaf (some MO) .leaf) Az .leaf) [] false 75 0))],nx:=424,ans:=.val kI}]),(45,[{args:=[Zd,c80],nx:=427,ans:=.val c41}]),(44,[{args:=[c212,(.fn (.func 45) [] [])],fp:=[(426,pO)],nx:=428,ans:=.val wS}]),(81,[{args:=[CQ,c85],fp:=[(429,gM)],ans:=.rows 466 kI [(468,(.row 1 (.node .leaf c213 .leaf) [] true 25 0)),(429,(.row 32 (.node (.node c7 Io c8) c213 pK) [] false 114 0))] 469}]),(42,[{args:=[CQ,Em],fp:=[(468,(.row 1 (.node .leaf c213 .leaf) [] true 25 0)),(429,(.row 32 (.node (.node c7 Io c8) c213 pK) [] false 114 0))],nx:=470,ans:=.val j4}]),(48,[{args:=[YT,Em],fp:=[(123,Cj)],nx:=473,ans:=.val kI}]),(18,[{args:=[DV],fp:=[(426,pO),(257,gM),(306,(.row 2 (.node (.node .leaf (some c212) .leaf) Az .leaf) [] false 75 0))],ans:=.rows 472 alp [(473,pO)] 474},{args:=[DV],fp:=[(426,pO),(257,gM),(306,(.row 2 (.node (.node .leaf (some c212) .leaf) Az .leaf) [] false 75 0))],ans:=.rows 474 c218 [(475,pO)] 476},{args:=[N8],fp:=[(471,(.row 5 (.node (.node c76 c11 .leaf) c28 (.node c76 c75 .leaf)) [] true 58 0)),(468,(.row 1 (.node .leaf c213 .leaf) [] true 25 0)),(429,(.row 32 (.node (.node c7 Io c8) c213 pK) [] false 114 0)),(63,(.row 2 (.node (.node .leaf (some Ux) .leaf) (some CQ) .leaf) [] false 75 0))],ans:=.rows 476 aoE [(476,(.row 0 .leaf [j4,c10,rq,rq,rq] false 58 0))] 477},{args:=[c19],fp:=[(0,c16),(1,(.row 2 (.node c3 (some c0) .leaf) [] false 75 0))],nx:=5,ans:=.val c1}]),(46,[{args:=[c1,(.fn (.func 78) [] [c17])],fp:=[(4,c82)],nx:=5,ans:=.val c1}]),(17,[{args:=[c226],nx:=5,ans:=.val tN}])]
theorem b8:kw Tryz.prog ext T7 100000 200 B8=true:=by kernel_rfl
def T8:Table:=B8++T7
theorem t8:jO Tryz.prog Iv T8:=t7.add Cc mixed b8
def B9:Table:=[ (40,[{args:=[c233,c1],nx:=5,ans:=.val apS},{args:=[(.agg [c46,c24,c46,c20,c21,SG,c1]),c38],fp:=[(21,vB)],ans:=.rows 22 amQ [(26,(.row 2 (.node c34 c28 .leaf) [] true 27 0))] 27},{args:=[(.agg [j4,c85,Ni,c20,rq,rq,c1]),c78],fp:=[(118,pO)],ans:=.rows 119 aoj [(123,Cj)] 124}]),(41,[{args:=[c0],fp:=[(0,c16)],ans:=.rows 4 c17 [(4,c16)] 5},{args:=[c17],fp:=[(10,mq),(4,(.row 32 (.node (.node c7 Cw c8) gu c15) [] false 114 0))],ans:=.rows 28 c18 [(28,Et)] 61},{args:=[c18],fp:=[(28,Et)],ans:=.rows 65 uU [(65,Et)] 98},{args:=[c183],fp:=[(257,gM)],ans:=.rows 391 c208 [(391,gM)] 424},{args:=[uU],fp:=[(104,mq),(65,(.row 32 (.node (.node (.node c5 wR c6) c2 c8) gu pK) [] false 114 0))],ans:=.rows 429 CQ [(429,gM)] 462},{args:=[c183],fp:=[(257,gM)],ans:=.rows 480 Qt [(480,gM)] 513}]),(42,[{args:=[c17,zT],fp:=[(4,c16)],ans:=.rows 7 j4 [(10,mq),(4,(.row 32 (.node (.node c7 Cw c8) gu c15) [] false 114 0))] 11},{args:=[uU,Em],fp:=[(65,Et)],ans:=.rows 101 j4 [(104,mq),(65,(.row 32 (.node (.node (.node c5 wR c6) c2 c8) gu pK) [] false 114 0))] 105},{args:=[CQ,c86],fp:=[(429,gM)],ans:=.rows 465 j4 [(468,(.row 1 (.node .leaf c213 .leaf) [] true 25 0)),(429,(.row 32 (.node (.node c7 Io c8) c213 pK) [] false 114 0))] 469}]),(47,[{args:=[Zd,anE],fp:=[(3,(.row 7 (.node (.node Sw gu c31) c28 (.node c23 c70 c3)) [] false 30 0))],nx:=15,ans:=.val tN},{args:=[Zd,aeA],fp:=[(26,(.row 2 (.node c34 c28 .leaf) [] true 27 0)),(64,(.row 7 (.node (.node Sw gu c69) c70 (.node c23 c70 (.node .leaf (some NR) .leaf))) [] false 30 0))],nx:=112,ans:=.val kI},{args:=[c80,aeA],fp:=[(26,(.row 2 (.node c34 c28 .leaf) [] true 27 0)),(64,(.row 7 (.node (.node Sw gu c69) c70 (.node c23 c70 (.node .leaf (some NR) .leaf))) [] false 30 0))],nx:=113,ans:=.val tN},{args:=[c80,ako],fp:=[(123,Cj),(428,(.row 7 (.node (.node Sw c213 c76) c28 (.node c76 (some Ni) (.node .leaf (some YT) .leaf))) [] false 30 0))],nx:=472,ans:=.val kI}]),(46,[{args:=[c38,(.fn (.func 78) [] [c59])],fp:=[(18,c40),(21,vB)],ans:=.rows 22 c38 [] 22},{args:=[c78,(.fn (.func 78) [] [c81])],fp:=[(115,c82),(118,pO)],ans:=.rows 119 c78 [] 119}]),(82,[{args:=[c66,j4,Ni,Ni,(.fn (.func 45) [] [])],fp:=[(109,c71)],nx:=110,ans:=.val wS}]),(64,[{args:=[c96,c20],fp:=[(135,c97)],ans:=.rows 136 c98 [(140,c105)] 141},{args:=[c98,rq],fp:=[(140,c105)],ans:=.rows 141 age [(144,abR)] 145},{args:=[age,rq],fp:=[(144,abR)],ans:=.rows 145 c109 [(148,aej)] 149},{args:=[c1,alD],ans:=.rows 219 ap2 [(221,c141)] 222},{args:=[c148,c20],fp:=[(234,Qm)],ans:=.rows 235 aes [(239,c156)] 240},{args:=[aes,c21],fp:=[(239,c156)],ans:=.rows 240 c157 [(244,c164)] 245},{args:=[c157,SG],fp:=[(244,c164)],ans:=.rows 245 VF [(249,c168)] 250},{args:=[c1,alD],ans:=.rows 360 c198 [(362,c141)] 363},{args:=[c201,c20],fp:=[(375,Qm)],ans:=.rows 376 agN [(380,c156)] 381},{args:=[agN,c21],fp:=[(380,c156)],ans:=.rows 381 c203 [(385,c164)] 386},{args:=[c203,SG],fp:=[(385,c164)],ans:=.rows 386 agc [(390,c168)] 391}]),(65,[{args:=[uU],fp:=[(104,mq),(65,(.row 32 (.node (.node (.node c5 wR c6) c2 c8) gu pK) [] false 114 0))],ans:=.rows 170 avU [(218,c171)] 219},{args:=[c183],fp:=[(257,gM)],ans:=.rows 258 akK [(305,c171)] 306},{args:=[c183],fp:=[(257,gM)],ans:=.rows 312 awt [(359,c171)] 360}]),(72,[{args:=[c19,c80],fp:=[(14,vB),(10,mq),(4,(.row 32 (.node (.node c7 Cw c8) gu c15) [] false 114 0)),(1,(.row 2 (.node (.node .leaf (some c37) .leaf) (some c17) .leaf) [] false 75 0))],nx:=425,ans:=.val tN},{args:=[DV,Zd],fp:=[(311,pO),(257,gM),(306,(.row 2 (.node (.node .leaf (some MO) .leaf) Az .leaf) [] false 75 0))],nx:=428,ans:=.val tN}]),(14,[{args:=[c19,c226],fp:=[(0,c16),(1,(.row 2 (.node c3 (some c0) .leaf) [] false 75 0))],nx:=4,ans:=.val (.tup [tN,c46])}]),(55,[{args:=[(.slc 6 0 0 (.op 1))],fp:=[(6,(.row 0 .leaf [] true 5 0))],nx:=7,ans:=.val amg}])]
theorem b9:kw Tryz.prog ext T8 100000 200 B9=true:=by kernel_rfl
def T9:Table:=B9++T8
theorem t9:jO Tryz.prog Iv T9:=t8.add Cc mixed b9
def B10:Table:=[(13,[{args:=[c19,zT,c20,c21,c29],fp:=[(0,c16),(1,(.row 2 (.node c3 (some c0) .leaf) [] false 75 0))],nx:=2,ans:=.val apS}]),(25,[{args:=[c19],fp:=[(14,vB),(10,mq),(4,(.row 32 (.node (.node c7 Cw c8) gu c15) [] false 114 0)),(1,(.row 2 (.node (.node .leaf (some c37) .leaf) (some c17) .leaf) [] false 75 0))],ans:=.rows 28 N8 [(62,vB),(28,Et),(63,(.row 2 (.node (.node .leaf (some c64) .leaf) (some c18) .leaf) [] false 75 0))] 64}]),(44,[{args:=[c66,(.fn (.func 45) [] [])],fp:=[(109,c71)],nx:=110,ans:=.val wS}]),(28,[{args:=[Ud],fp:=[(123,Cj)],ans:=.rows 125 (.tup [c119,j4]) [(161,Vn)] 162}]),(15,[{args:=[c119],fp:=[(161,Vn)],ans:=.rows 162 (.tup [c222,j4]) [(168,Cj)] 169},{args:=[c1],nx:=4,ans:=.val (.tup [c226,c232])}]),(22,[{args:=[N8],fp:=[(111,(.row 10 (.node (.node (.node c76 I9 .leaf) gu (.node c76 c28 .leaf)) c70 (.node (.node c76 Lg .leaf) c32 c12)) [] true 58 0)),(104,mq),(65,(.row 32 (.node (.node (.node c5 wR c6) c2 c8) gu pK) [] false 114 0)),(63,(.row 2 (.node (.node .leaf (some OO) .leaf) (some uU) .leaf) [] false 75 0))],ans:=.rows 170 VF [(249,c168)] 250},{args:=[DV],fp:=[(311,pO),(257,gM),(306,(.row 2 (.node (.node .leaf (some MO) .leaf) Az .leaf) [] false 75 0))],ans:=.rows 312 agc [(390,c168)] 391}]),(55,[{args:=[af3],fp:=[(253,c171)],ans:=.rows 254 (.tup [c183,j4]) [(257,gM)] 306}]),(32,[{args:=[DV],fp:=[(311,pO),(257,gM),(306,(.row 2 (.node (.node .leaf (some MO) .leaf) Az .leaf) [] false 75 0))],ans:=.rows 391 c208 [(391,gM)] 424},{args:=[DV],fp:=[(426,pO),(257,gM),(306,(.row 2 (.node (.node .leaf (some c212) .leaf) Az .leaf) [] false 75 0))],ans:=.rows 480 Qt [(480,gM)] 513}]),(26,[{args:=[DV,c19],fp:=[(14,vB),(10,mq),(4,(.row 32 (.node (.node c7 Cw c8) gu c15) [] false 114 0)),(1,(.row 2 (.node (.node .leaf (some c37) .leaf) (some c17) .leaf) [] false 75 0)),(311,pO),(257,gM),(306,(.row 2 (.node (.node .leaf (some MO) .leaf) Az .leaf) [] false 75 0))],ans:=.rows 424 wS [(426,pO),(306,(.row 2 (.node (.node .leaf (some c212) .leaf) Az .leaf) [] false 75 0))] 428}]),(12,[{args:=[c19,zT,c20,rq],fp:=[(0,c16),(1,(.row 2 (.node c3 (some c0) .leaf) [] false 75 0))],nx:=2,ans:=.val (.tup [c226,axv])}]),(16,[{args:=[c1],nx:=5,ans:=.val amg}])]
theorem b10:kw Tryz.prog ext T9 100000 200 B10=true:=by kernel_rfl
def T10:Table:=B10++T9
theorem bN:jO Tryz.prog Iv T10:=t9.add Cc mixed b10
def B11:Table:=[(46,[{args:=[c37,(.fn (.func 47) [] [anE])],fp:=[(3,(.row 7 (.node (.node Sw gu c31) c28 (.node c23 c70 c3)) [] false 30 0)),(14,vB)],ans:=.rows 15 c37 [] 15},{args:=[c72,(.fn (.func 47) [] [aeA])],fp:=[(26,(.row 2 (.node c34 c28 .leaf) [] true 27 0)),(64,(.row 7 (.node (.node Sw gu c69) c70 (.node c23 c70 (.node .leaf (some NR) .leaf))) [] false 30 0)),(111,c71)],ans:=.rows 112 OO [(111,(.row 10 (.node (.node (.node c76 I9 .leaf) gu (.node c76 c28 .leaf)) c70 (.node (.node c76 Lg .leaf) c32 c12)) [] true 58 0))] 113},{args:=[apW,(.fn (.func 47) [] [ako])],fp:=[(123,Cj),(428,(.row 7 (.node (.node Sw c213 c76) c28 (.node c76 (some Ni) (.node .leaf (some YT) .leaf))) [] false 30 0)),(471,pO)],ans:=.rows 472 Ux [(471,(.row 5 (.node (.node c76 c11 .leaf) c28 (.node c76 c75 .leaf)) [] true 58 0))] 472}]),(13,[{args:=[c19,Em,c20,c21,SG],fp:=[(14,vB),(10,mq),(4,(.row 32 (.node (.node c7 Cw c8) gu c15) [] false 114 0)),(1,(.row 2 (.node (.node .leaf (some c37) .leaf) (some c17) .leaf) [] false 75 0))],ans:=.rows 15 amQ [(26,(.row 2 (.node c34 c28 .leaf) [] true 27 0))] 27}]),(12,[{args:=[N8,c86,c20,rq],fp:=[(111,(.row 10 (.node (.node (.node c76 I9 .leaf) gu (.node c76 c28 .leaf)) c70 (.node (.node c76 Lg .leaf) c32 c12)) [] true 58 0)),(104,mq),(65,(.row 32 (.node (.node (.node c5 wR c6) c2 c8) gu pK) [] false 114 0)),(63,(.row 2 (.node (.node .leaf (some OO) .leaf) (some uU) .leaf) [] false 75 0))],ans:=.rows 113 aoj [(123,Cj)] 124}]),(16,[{args:=[VF],fp:=[(249,c168)],ans:=.rows 250 (.tup [DV,j4]) [(311,pO),(257,gM),(306,(.row 2 (.node (.node .leaf (some MO) .leaf) Az .leaf) [] false 75 0))] 391}])]
theorem b11:kw Tryz.prog ext T10 100000 200 B11=true:=by kernel_rfl
def T11:Table:=B11++T10
theorem cB:jO Tryz.prog Iv T11:=bN.add Cc mixed b11
def B12:Table:=[(14,[{args:=[c19,c233],fp:=[(0,c16),(1,(.row 2 (.node c3 (some c0) .leaf) [] false 75 0))],ans:=.rows 3 ahC [(14,vB),(10,mq),(4,(.row 32 (.node (.node c7 Cw c8) gu c15) [] false 114 0)),(1,(.row 2 (.node (.node .leaf (some c37) .leaf) (some c17) .leaf) [] false 75 0))] 15},{args:=[N8,c234],fp:=[(26,(.row 2 (.node c34 c28 .leaf) [] true 27 0)),(62,vB),(28,Et),(63,(.row 2 (.node (.node .leaf (some c64) .leaf) (some c18) .leaf) [] false 75 0))],ans:=.rows 64 ahC [(111,(.row 10 (.node (.node (.node c76 I9 .leaf) gu (.node c76 c28 .leaf)) c70 (.node (.node c76 Lg .leaf) c32 c12)) [] true 58 0)),(104,mq),(65,(.row 32 (.node (.node (.node c5 wR c6) c2 c8) gu pK) [] false 114 0)),(63,(.row 2 (.node (.node .leaf (some OO) .leaf) (some uU) .leaf) [] false 75 0))] 113},{args:=[N8,Ud],fp:=[(123,Cj),(111,(.row 10 (.node (.node (.node c76 I9 .leaf) gu (.node c76 c28 .leaf)) c70 (.node (.node c76 Lg .leaf) c32 c12)) [] true 58 0)),(104,mq),(65,(.row 32 (.node (.node (.node c5 wR c6) c2 c8) gu pK) [] false 114 0)),(63,(.row 2 (.node (.node .leaf (some OO) .leaf) (some uU) .leaf) [] false 75 0))],ans:=.rows 428 ahC [(471,(.row 5 (.node (.node c76 c11 .leaf) c28 (.node c76 c75 .leaf)) [] true 58 0)),(468,(.row 1 (.node .leaf c213 .leaf) [] true 25 0)),(429,(.row 32 (.node (.node c7 Io c8) c213 pK) [] false 114 0)),(63,(.row 2 (.node (.node .leaf (some Ux) .leaf) (some CQ) .leaf) [] false 75 0))] 472}])]
theorem b12:kw Tryz.prog ext T11 100000 200 B12=true:=by kernel_rfl
def T12:Table:=B12++T11
theorem t12:jO Tryz.prog Iv T12:=cB.add Cc mixed b12
def B13:Table:=[(10,[{args:=[],nx:=0,ans:=.val kI}])]
theorem b13:kw Tryz.prog ext T12 100000 200 B13=true:=by kernel_rfl
def T13:Table:=B13++T12
theorem bO:jO Tryz.prog Iv T13:=t12.add Cc mixed b13
theorem t:jO Tryz.prog Iv T13:=bO
abbrev T:Table:=T13
def BA:Table:=[(10,[{ args:=[],ans:=.val (.sc (.bool true)) }])]
theorem bA:kw Tryz.prog ext T 100000 200 BA=true:=by kernel_rfl
def TA:Table:=BA++T
theorem tA:jO Tryz.prog Iv TA:=t.add Cc mixed bA
end Go.Proofs.YtlhlnchhaminjaaGreat
namespace Go.Proofs.YtlhlnchhaminjaaGreat.crdtBytes
open Go Go.Ab Go.ChangeShapes Go.WideShapes Go.ChangeAt Go.RowKit
theorem own:ownKnob Tryz.prog.godebug=none:=by kernel_rfl
open Go.Ab.ay Go.Ab.Crw Go.Proofs.YtlhlnchhaminjaaGreat.il
def base (w:World) : Base:=⟨w.heap.size,fun _=>True,fun _ _ _ _=>trivial⟩
theorem awake {B:Base} : AwakeC B (jv Tryz.prog 10):=by
 intro M Q hM hQ
 exact ab9 tA ⟨Tryz.f10,_,Tryz.func10,rfl⟩ (fun A=>by kernel_rfl) (fun _ _=>trivial) hQ
theorem fits_cap {P:Program} {M:RM} {t e:TypeId} {v:AV} (h:Fits P M t [v]) (hu:P.underlying t=some (.slice e)) (hz:0<P.cellsOf e) : eZ v:=by
 generalize hc:[v]=cs at h
 cases h with
 | agw _ e' h1=>cases hc; trivial
 | emp _ e' b h1=>cases hc; trivial
 | slc _ e' b o n c ds h1 h2 h3 h4 h5 h6=>cases hc; exact h3
 | zero _ e' _ h1 h2=>rw[hu] at h1; cases h1; omega
 | _=>simp_all [Ed]
theorem cells5:Tryz.prog.cellsOf 5=1:=by kernel_rfl
theorem fits_u8 {M:RM} {cs:List AV} (h:Fits Tryz.prog M 5 cs) : ∃ k:UInt8,cs=[By k]:=by
 obtain⟨n,rfl,h1,h2⟩:=h.Ei Tryz.underlying5
 have h1:(0:Int)≤n:=h1
 have h2:n≤(255:Int):=h2
 refine⟨UInt8.ofNat n.toNat, ?_⟩
 have:((UInt8.ofNat n.toNat).toNat:Int)=n:=by rw[OC]; omega
 rw[By,this]
theorem slr_nil {M:RM} {cs:List AV} {n:Nat} {u:AV} (h:aL M 1 u cs n) (hu:u=aZ) : n=0:=by
 cases h with
 | nil=>rfl
 | emp b=>rfl
 | slc b o n cap cs h1 h2=>cases hu
theorem slr_len {M:RM} {n0 len cap n:Nat} {a:Addr} {cs:List AV} {u:AV} (h:aL M 1 u cs n) (hu:mO n0 (.slice (some a) len cap)=u) : n≤len:=by
 cases h with
 | nil=>exact Nat.zero_le _
 | emp b=>exact Nat.zero_le _
 | slc b o n c cs h1 h2 =>
   simp only[mO] at hu
   unfold sM at hu
   split at hu
   ·rename_i heq; cases heq
   ·cases hu
   ·rename_i heq
    cases heq
    split at hu
    ·cases hu; exact Nat.le_refl _
    ·cases hu
   ·cases hp:plain (Value.slice (some a) len cap) <;> simp[tJ,hp] at hu
theorem fits_bytes {M:RM} {cs:List AV} (h:Fits Tryz.prog M 46 cs) : ∃ v,∃ bs:List UInt8,cs=[v]∧Sl BY M v bs∧eZ v:=by
 obtain⟨v,n,ds,rfl,hs,hb,he⟩:=h.I1 Tryz.underlying46 (by rw[cells5]; decide)
 have hc:=fits_cap h Tryz.underlying46 (by rw[cells5]; decide)
 rw[cells5] at hs he
 obtain⟨xs,rfl,rfl,_⟩:=Je (size:=1) BY.cells (fun _=>True) (fun _=>rfl) n ds hs.length fun i hi=>by
  obtain⟨k,e⟩:=fits_u8 (he i hi)
  exact⟨k,trivial,e⟩
 exact⟨v,xs,rfl,hs,hc⟩
theorem bulk_pos {H:Type} (d:DataW H) : 1≤Rows.uptoBulk d:=by
 cases d with
 | lit l=>cases l <;> simp[Rows.uptoBulk]
 | _=>simp[Rows.uptoBulk]
theorem bulk_len {H:Type} : ∀ (ds:List (DataW H)),ds.length≤Rows.uptoBulkAll ds
 | []=>by simp
 | d :: ds=>by
   have h1:=bulk_pos d
   have h2:=bulk_len ds
   simp only[Rows.uptoBulkAll,List.length_cons]
   omega
theorem trod_len {H:Type} {enc:TypeId × Value→H} {P:Program} {w:World} {b0 n0:Nat} {sp:Nat→Bool} {held:Bool} {t e:TypeId} {v:Value} {d:DataW H} {p:List MemPlace} {M:RM} {u:AV} {bs:List UInt8}
  (h:DataW.Trod enc P w b0 sp held t v d p) (hu:P.underlying t=some (.slice e)) (hv:mO n0 v=u) (hs:Sl BY M u bs) : bs.length≤Rows.uptoBulk d:=by
 obtain⟨fuel,h⟩:=h
 have hvs:∀ x,v.cells.toList=[x]→v=x∨∃ cs,mO n0 v=.agg cs:=fun x hx=>by
  cases v <;> first | (left; simpa [Value.cells] using hx) | (right; exact⟨_,rfl⟩)
 have nag:∀ cs,mO n0 v≠.agg cs:=fun cs hc=>by
  rw[hv] at hc
  subst hc
  cases hs
 rcases DataW.trod_slice hu h with⟨e1,e2⟩ | ⟨a,len,cap,elems,rest,n,_,e1,e2,_,hlc,_,hel,_⟩
 ·rcases hvs _ e1 with rfl | ⟨cs,hc⟩
  ·have hz:bs.length=0:=slr_nil hs hv.symm
   omega
  ·exact absurd hc (nag cs)
 ·rcases hvs _ e1 with rfl | ⟨cs,hc⟩
  ·have hl:bs.length≤len:=slr_len hs hv
   have ed:d=.slice (elems.map (·.1)) (rest.map (·.1)):=congrArg Prod.fst e2
   subst ed
   have:=bulk_len (elems.map (·.1))
   simp only[Rows.uptoBulk,List.length_map] at *
   omega
  ·exact absurd hc (nag cs)
theorem walk (w:World) (v0 v1 v2 v3 v4:Value) (h0:qH Tryz.prog (RM.old (base w) w) 30 (mO w.heap.size v0)) (h1:qH Tryz.prog (RM.old (base w) w) 46 (mO w.heap.size v1)) (h2:qH Tryz.prog (RM.old (base w) w) 43 (mO w.heap.size v2)) (h3:qH Tryz.prog (RM.old (base w) w) 3 (mO w.heap.size v3)) (h4:qH Tryz.prog (RM.old (base w) w) 5 (mO w.heap.size v4))
  (hb:∀ u bs,mO w.heap.size v1=u→Sl BY (RM.old (base w) w) u bs→bs.length≤1600000) :
  Calls Tryz.prog 7 #[v0,v1,v2,v3,v4] w fun e w'=>e=.returned (.bool true)∧Below w.heap.size w w':=by
 obtain⟨cs,e0,hf0⟩:=h0.agg (by kernel_rfl)
 obtain⟨ev,kv,ks,rfl,hk,_⟩:=YS hf0
 obtain⟨u1,bs,e1,hs,hc⟩:=fits_bytes (h1.one (by kernel_rfl))
 obtain⟨u2,l,e2,hl,_⟩:=aha (h2.one (by kernel_rfl))
 obtain⟨n,e3,_,_⟩:=(h3.one (by kernel_rfl)).Ei Tryz.underlying3
 obtain⟨k,e4⟩:=fits_u8 (h4.one (by kernel_rfl))
 have e1' : mO (base w).n v1=u1:=(List.cons.inj e1).1
 refine jv.close (base:=base w) rfl trivial ?_
 simp only[List.map_cons,List.map_nil]
 rw[show mO (base w).n v0=.agg (aP ev kv) from e0,e1',show mO (base w).n v2=u2 from(List.cons.inj e2).1,show mO (base w).n v3=N .i64 n from(List.cons.inj e3).1,show mO (base w).n v4=By k from(List.cons.inj e4).1]
 obtain⟨a0,a1,a2,a3,a4,e,h⟩:=QY (TE:=30) (M:=RM.old (base w) w) (n:=n) (k:=k) (Q:=fun v _=>v=Bo true) (awake (B:=base w)) il.arR il.JK il.ag5 il.acn il.own il.state il.Um il.tQ rfl hk hs hc (hb _ _ e1' hs) hl (fun M'=>rfl)
 cases e
 exact KV h
set_option maxRecDepth 100000 in
theorem lifted (os:Os) (started:os.Started) (H:Type) (enc:TypeId × Value→H) (F:Stop.Interp) :
  ReturnsInHanded {} Tryz.checked os 7 .any ((Rows.OpenSpec.upto Rows.crdtBytesSpec).pre6 enc Tryz.prog Tryz.f7 Rows.crdtBytesUptoRow.domain false) (((Rows.OpenSpec.upto Rows.crdtBytesSpec).at F).post enc Tryz.prog Tryz.f7 false true false false):=by
 refine KZ (C:=Tryz.checked) (k:=Rows.uptoSmall) rfl own started (by kernel_rfl) Tryz.func7
  (OpenSpec.witness (enc:=enc) (C:=Tryz.checked) (s:=Rows.OpenSpec.upto Rows.crdtBytesSpec) (k:=Rows.uptoSmall) (x:=([.agg [.agg [.lit (.int .i64 0),.lit (.int .u64 0)],.lit (.int .i64 0),.lit (.string []),.lit (.string []),.lit (.string []),.nil],.nil,.nil,.lit (.int .i64 0),.lit (.int .u8 0)],[],[])) rfl false ⟨#[],#[.agg ⟨[.int .i64 0,.int .u64 0,.int .i64 0,.string ⟨#[]⟩,.string ⟨#[]⟩,.string ⟨#[]⟩,.slice none 0 0]⟩,.slice none 0 0,.slice none 0 0,.int .i64 0,.int .u8 0],[]⟩ 8 (by kernel_rfl) (by kernel_rfl) (by kernel_rfl) (by kernel_rfl) (by kernel_rfl) (by kernel_rfl)) ?_
 intro W b0 args ds gs before hval hW hcnd hkk hwt _
 have hW':=hW
 obtain⟨p,q,hA,hV,rfl,hfz,hnd⟩:=hW
 rw[Tryz.params7] at hA hwt
 obtain⟨rfl,rfl⟩:=trodVars_none hV
 have hfit:=Wn (base:=base W) rfl hA (fun j t v hj hv=>hval j t v (by rw[Tryz.params7]; simpa using hj) (by simpa using hv)) (fun y hy=>by
  have avp:(DataW.weightsEach Tryz.prog [30,46,43,3,5] (ds++[])).all (· ≤ reachBytes)=true:=hwt
  have:=List.all_eq_true.1 avp y (by rw[List.append_nil]; exact hy)
  simpa using this)
 simp only[List.append_nil] at hW' hkk
 have hlt:∀ x∈p,x.block<W.heap.size:=fun x hx=>hW'.lt x hx
 obtain⟨v0,v1,v2,v3,v4,d0,d1,d2,d3,d4,p0,p1,p2,p3,p4,rfl,rfl,rfl,h0,h1,h2,h3,h4⟩:=XD hA
 have hbulk:Rows.uptoBulk d1≤1048576:=by
  have:Rows.uptoBulkAll [d0,d1,d2,d3,d4]≤1048576:=of_decide_eq_true hkk
  simp only[Rows.uptoBulkAll] at this
  omega
 refine(walk W v0 v1 v2 v3 v4 (hfit 0 _ _ rfl rfl) (hfit 1 _ _ rfl rfl) (hfit 2 _ _ rfl rfl) (hfit 3 _ _ rfl rfl) (hfit 4 _ _ rfl rfl) (fun u bs hu hs=>Nat.le_trans (trod_len h1 Tryz.underlying46 hu hs) (by omega))).mono fun e W' ⟨he,hg⟩=>?_
 subst he
 exact⟨_,rfl,SN (pa:=_) (pv:=[]) hW' (fun _ _ _=>(trodAll_cons_mk (shut_bool Tryz.underlying4 _) trodAll_mk0)) (fun sp hsp=>by
   rw[Tryz.params7]
   exact Ha (by kernel_rfl) hg (fun t ht=>by
    have ht:t=30∨t=46∨t=43∨t=3∨t=5:=by simpa using ht
    rcases ht with rfl | rfl | rfl | rfl | rfl <;> exact⟨by kernel_rfl,of_decide_eq_true (by kernel_rfl)⟩) hA hlt hsp) (fun _ _=>rfl) (by simp)
  hg (ok_one (by kernel_rfl) rfl (okWide_bool_mk Tryz.underlying4 _))⟩
theorem over:Rows.crdtBytesUptoRow.holds Tryz.pinned (Rows.OpenSpec.upto Rows.crdtBytesSpec) :=
 OpenClaim.holds_of_cond 7 Tryz.f7 rfl rfl rfl rfl rfl rfl rfl ⟨rfl,rfl,rfl,rfl,rfl⟩ rfl rfl rfl rfl rfl (by kernel_rfl) Tryz.func7 (by kernel_rfl)
  (of_decide_eq_true (by kernel_rfl)) (by unfold Func.isWrapper; first | (rw[if_pos (by decide +kernel)]; kernel_rfl) | (rw[if_neg (by decide +kernel)]; exact⟨rfl,rfl⟩))
  (fun os started H enc _ F=>lifted os started H enc F)
theorem proved:Rows.CrdtBytesUptoSaid :=
 over
end Go.Proofs.YtlhlnchhaminjaaGreat.crdtBytes
