/- 'ViewFinds' returns true for all arguments: what is found by a longer text is found by its beginnings, too; all contacts by the empty one; whatever case its letters have. No condition. By an AI agent. -/
import Derived.Test.YtngfappichkflaaGreatFin6
import Derived.KernelRfl
import Derived.Test.YtngfappichkflaaGreatProg
import Derived.Shelf.LaysM
import Derived.Shelf.Strings.Search2
import Derived.Test.YtngfappichkflaaGreatRows
import Derived.HandedShaped
import Derived.Carry
import Derived.WalkKit
import Derived.ProofKit
import Derived.OpenShut
set_option maxRecDepth 100000
set_option linter.unusedVariables false
set_option linter.unusedSimpArgs false
namespace Go.Proofs.YtngfappichkflaaGreat
open Go Go.Ab
abbrev az := @fQ Tryz.prog
theorem pok:La Tryz.prog:=⟨QO (by kernel_rfl),by kernel_rfl⟩
theorem bg {f:FuncId} {fn:Func} {args:List AV} {M:RM} {Q:ai} {B:Prop} (h:B) (hfn:Tryz.prog.funcs[f]?=some fn:=by kernel_rfl) (e:B=LZ Tryz.prog fn args M Q:=by kernel_rfl) : az f args M Q:=Y8 pok hfn (e▸h)
variable {a0 a1 a2 a3 a4 a5 a6 a7:AV} {M:RM} {Q:ai}
theorem zh (h:Go.Ab.Vw.qf (az 9) (az 17) (az 10) (az 15) 5 (az 26) a0 a1 a2 M Q) : az 6 [a0,a1,a2] M Q:=bg (fn:=Tryz.f6) h
theorem JK (h:Go.Ab.Vw.DL (az 29) (az 30) a0 M Q) : az 10 [a0] M Q:=bg (fn:=Tryz.f10) h
theorem Ey (h:Go.Ab.Vw.wT 40 (az 37) a0 M Q) : az 14 [a0] M Q:=bg (fn:=Tryz.f14) h
theorem G9 (h:Go.Ab.Vw.AR (az 38) (az 26) (az 39) (az 32) 64 9 a0 a1 M Q) : az 15 [a0,a1] M Q:=bg (fn:=Tryz.f15) h
theorem Hd (h:Go.Ab.Vw.Uw 30 (az 41) a0 M Q) : az 17 [a0] M Q:=bg (fn:=Tryz.f17) h
theorem Mf (h:Go.Ab.aB.Ji 27 a0 a1 M Q) : az 25 [a0,a1] M Q:=bg (fn:=Tryz.f25) h
theorem Bl (h:Go.Ab.Crw.rE 40 9 a0 M Q) : az 26 [a0] M Q:=bg (fn:=Tryz.f26) h
theorem TT (h:Go.Ab.Crw.Yo (az 47) 91  M Q) : az 29 [] M Q:=bg (fn:=Tryz.f29) h
theorem EB (h:Go.Ab.Crw.wR 30 (az 48) (az 49) 27 (az 50) (az 51) 40 (az 46) (az 52) 53 55 (az 54) (az 57) (az 58) a0 a1 M Q) : az 30 [a0,a1] M Q:=bg (fn:=Tryz.f30) h
theorem ED (h:Go.Ab.Vw.wM (az 61) (az 40) (az 14) 40 64 a0 a1 M Q) : az 32 [a0,a1] M Q:=bg (fn:=Tryz.f32) h
theorem Nz (h:Go.Ab.Crw.JE a0 M Q) : az 35 [a0] M Q:=bg (fn:=Tryz.f35) h
theorem AB (h:Go.Ab.Crw.rf (az 64) a0 a1 M Q) : az 36 [a0,a1] M Q:=bg (fn:=Tryz.f36) h
theorem Pq (h:Go.Ab.aB.SB 27 a0 a1 M Q) : az 37 [a0,a1] M Q:=bg (fn:=Tryz.f37) h
theorem Fa (h:Go.Ab.Vw.xS 5 a0 M Q) : az 38 [a0] M Q:=bg (fn:=Tryz.f38) h
theorem x9 (h:Go.Ab.Vw.ol (az 65) a0 a1 M Q) : az 39 [a0,a1] M Q:=bg (fn:=Tryz.f39) h
theorem EF (h:Go.Ab.Vw.wU 40 47 a0 M Q) : az 40 [a0] M Q:=bg (fn:=Tryz.f40) h
theorem Hf (h:Go.Ab.Crw.Aj 30 (az 66) (az 25) a0 M Q) : az 41 [a0] M Q:=bg (fn:=Tryz.f41) h
theorem EC (h:Go.Ab.Crw.wQ 40 a0 M Q) : az 46 [a0] M Q:=bg (fn:=Tryz.f46) h
theorem OV (h:Go.Ab.aB.MH 116  M Q) : az 47 [] M Q:=bg (fn:=Tryz.f47) h
theorem Ta (h:Go.Ab.Crw.Ql 30 (az 69) (az 70) 27 (az 37) a0 M Q) : az 48 [a0] M Q:=bg (fn:=Tryz.f48) h
theorem I8 (h:Go.Ab.aB.DN (az 47) (az 71) a0 M Q) : az 49 [a0] M Q:=bg (fn:=Tryz.f49) h
theorem JZ (h:Go.Ab.aB.FH 27 (az 69) (az 72) a0 a1 M Q) : az 50 [a0,a1] M Q:=bg (fn:=Tryz.f50) h
theorem Lj (h:Go.Ab.aB.EO 27 (az 69) (az 73) a0 a1 M Q) : az 51 [a0,a1] M Q:=bg (fn:=Tryz.f51) h
theorem Bd (h:Go.Ab.Crw.rA (az 63) (az 74) a0 a1 M Q) : az 52 [a0,a1] M Q:=bg (fn:=Tryz.f52) h
theorem KC (h:Go.Ab.Crw.FU 40 (az 36) (az 75) 3 (az 35) a0 a1 M Q) : az 53 [a0,a1] M Q:=bg (fn:=Tryz.f53) h
theorem yg (h:Go.Ab.Crw.oC (az 76) 40 (az) a0 a1 M Q) : az 54 [a0,a1] M Q:=bg (fn:=Tryz.f54) h
theorem Bp (h:Go.Ab.Crw.tJ 40 (az 56) a0 a1 M Q) : az 55 [a0,a1] M Q:=bg (fn:=Tryz.f55) h
theorem Cb (h:Go.Ab.Crw.uQ 27 (az 77) a0 a1 M Q) : az 56 [a0,a1] M Q:=bg (fn:=Tryz.f56) h
theorem E9 (h:Go.Ab.aB.yV 113 (az 73) a0 a1 M Q) : az 57 [a0,a1] M Q:=bg (fn:=Tryz.f57) h
theorem Ew (h:Go.Ab.Crw.wD a0 a1 M Q) : az 58 [a0,a1] M Q:=bg (fn:=Tryz.f58) h
theorem BQ (h:Go.Ab.Crw.tu 40 a0 a1 M Q) : az 61 [a0,a1] M Q:=bg (fn:=Tryz.f61) h
theorem BP (h:Go.Ab.aB.tH (az 88) (az 89) a0 M Q) : az 63 [a0] M Q:=bg (fn:=Tryz.f63) h
theorem DI (h:Go.Ab.Crw.uF a0 M Q) : az 64 [a0] M Q:=bg (fn:=Tryz.f64) h
theorem BC (h:Go.Ab.Vw.sO (az 90) a0 a1 M Q) : az 65 [a0,a1] M Q:=bg (fn:=Tryz.f65) h
theorem LX (h:Go.Ab.aB.IQ 27 a0 M Q) : az 66 [a0] M Q:=bg (fn:=Tryz.f66) h
theorem Mt (h:Go.Ab.Crw.JS 40 (az 25) a0 a1 M Q) : az 67 [a0,a1] M Q:=bg (fn:=Tryz.f67) h
theorem Nb (h:Go.Ab.aB.Iy 27 a0 M Q) : az 69 [a0] M Q:=bg (fn:=Tryz.f69) h
theorem He (h:Go.Ab.Crw.Be a0 a1 a2 M Q) : az 70 [a0,a1,a2] M Q:=bg (fn:=Tryz.f70) h
theorem IP (h:Go.Ab.aB.CJ 113 111 (az 91) (az 92) (az 93) (az 94) a0 a1 M Q) : az 71 [a0,a1] M Q:=bg (fn:=Tryz.f71) h
theorem Jj (h:Go.Ab.aB.CO (az 95) 25 113 (az 97) (az 96) (az 94) a0 a1 M Q) : az 72 [a0,a1] M Q:=bg (fn:=Tryz.f72) h
theorem Im (h:Go.Ab.aB.DY (az 95) a0 a1 M Q) : az 73 [a0,a1] M Q:=bg (fn:=Tryz.f73) h
theorem mq (h:Go.Ab.Crw.gL (az 98) (az 99) (az 100) (az 101) (az 102) (az 103) (az) (az 104) (az 105) (az 74) a0 a1 a2 a3 a4 M Q) : az 74 [a0,a1,a2,a3,a4] M Q:=bg (fn:=Tryz.f74) h
theorem OX (h:Go.Ab.Crw.Ns 27 (az 106) (az 107) 3 (az 35) a0 a1 M Q) : az 75 [a0,a1] M Q:=bg (fn:=Tryz.f75) h
theorem zi (h:Go.Ab.Crw.qd (az) a0 a1 M Q) : az 76 [a0,a1] M Q:=bg (fn:=Tryz.f76) h
theorem G8 (h:Go.Ab.Crw.Ak 27 a0 a1 M Q) : az 77 [a0,a1] M Q:=bg (fn:=Tryz.f77) h
theorem zk (h:Go.Ab.aB.qi a0 M Q) : az 89 [a0] M Q:=bg (fn:=Tryz.f89) h
theorem BJ (h:Go.Ab.aB.uo 9 (az 118) 25 a0 M Q) : az 91 [a0] M Q:=bg (fn:=Tryz.f91) h
theorem Eu (h:Go.Ab.aB.wJ (az 63) (az 119) a0 M Q) : az 92 [a0] M Q:=bg (fn:=Tryz.f92) h
theorem AQ (h:Go.Ab.aB.rJ a0 M Q) : az 93 [a0] M Q:=bg (fn:=Tryz.f93) h
theorem Co (h:Go.Ab.aB.uL a0 M Q) : az 94 [a0] M Q:=bg (fn:=Tryz.f94) h
theorem vT (h:Go.Ab.aB.mr (az 120) (az 121) a0 a1 M Q) : az 95 [a0,a1] M Q:=bg (fn:=Tryz.f95) h
theorem sJ (h:Go.Ab.aB.lI 25 (XH Tryz.prog 122) (az 123) a0 a1 a2 M Q) : az 96 [a0,a1,a2] M Q:=bg (fn:=Tryz.f96) h
theorem DT (h:Go.Ab.aB.Ml 25 a0 M Q) : az 97 [a0] M Q:=bg (fn:=Tryz.f97) h
theorem jN (h:Go.Ab.Crw.eB (az) a0 a1 a2 a3 M Q) : az 98 [a0,a1,a2,a3] M Q:=bg (fn:=Tryz.f98) h
theorem uw (h:Go.Ab.Crw.kX (az 124) a0 a1 a2 a3 M Q) : az 99 [a0,a1,a2,a3] M Q:=bg (fn:=Tryz.f99) h
theorem qc (h:Go.Ab.Crw.iU 150 (az 110) (az 111) a0 a1 a2 a3 M Q) : az 100 [a0,a1,a2,a3] M Q:=bg (fn:=Tryz.f100) h
theorem ru (h:Go.Ab.Crw.jI 3 (az 125) (az 126) a0 a1 a2 a3 M Q) : az 101 [a0,a1,a2,a3] M Q:=bg (fn:=Tryz.f101) h
theorem qE (h:Go.Ab.Crw.jk a0 a1 a2 a3 M Q) : az 102 [a0,a1,a2,a3] M Q:=bg (fn:=Tryz.f102) h
theorem mQ (h:Go.Ab.Crw.fZ (az) a0 a1 a2 a3 M Q) : az 103 [a0,a1,a2,a3] M Q:=bg (fn:=Tryz.f103) h
theorem pX (h:Go.Ab.Crw.iN (az) a0 a1 a2 a3 a4 M Q) : az 104 [a0,a1,a2,a3,a4] M Q:=bg (fn:=Tryz.f104) h
theorem tZ (h:Go.Ab.Crw.kG (az) a0 a1 a2 a3 a4 M Q) : az 105 [a0,a1,a2,a3,a4] M Q:=bg (fn:=Tryz.f105) h
theorem Bn (h:Go.Ab.Crw.qR (az 127) a0 a1 M Q) : az 106 [a0,a1] M Q:=bg (fn:=Tryz.f106) h
theorem EE (h:Go.Ab.Crw.wF (az 128) a0 a1 M Q) : az 107 [a0,a1] M Q:=bg (fn:=Tryz.f107) h
theorem Bb (h:Go.Ab.aB.rM (az 63) a0 M Q) : az 110 [a0] M Q:=bg (fn:=Tryz.f110) h
theorem sH (h:Go.Ab.aB.lh a0 M Q) : az 111 [a0] M Q:=bg (fn:=Tryz.f111) h
theorem EA (h:Go.Ab.aB.wL 9 25 a0 a1 M Q) : az 118 [a0,a1] M Q:=bg (fn:=Tryz.f118) h
theorem ma (h:Go.Ab.aB.gq (az 140) (az 141) (az 142) (az 143) (az 144) (az 145) (az 120) (az 146) (az 147) (az 119) a0 a1 a2 a3 M Q) : az 119 [a0,a1,a2,a3] M Q:=bg (fn:=Tryz.f119) h
theorem Ez (h:Go.Ab.aB.wS (az 127) a0 a1 M Q) : az 120 [a0,a1] M Q:=bg (fn:=Tryz.f120) h
theorem AX (h:Go.Ab.aB.rq a0 M Q) : az 121 [a0] M Q:=bg (fn:=Tryz.f121) h
theorem uu (h:Go.Ab.Crw.kZ (az) a0 a1 a2 a3 a4 M Q) : az 124 [a0,a1,a2,a3,a4] M Q:=bg (fn:=Tryz.f124) h
theorem pY (h:Go.Ab.Crw.iM (az 126) a0 a1 a2 a3 M Q) : az 125 [a0,a1,a2,a3] M Q:=bg (fn:=Tryz.f125) h
theorem wm (h:Go.Ab.Crw.mK (az 149) a0 a1 a2 a3 a4 a5 M Q) : az 126 [a0,a1,a2,a3,a4,a5] M Q:=bg (fn:=Tryz.f126) h
theorem sZ (h:Go.Ab.aB.pF a0 M Q) : az 127 [a0] M Q:=bg (fn:=Tryz.f127) h
theorem Ha (h:Go.Ab.Crw.Az a0 M Q) : az 128 [a0] M Q:=bg (fn:=Tryz.f128) h
theorem jA (h:Go.Ab.aB.dY (az 120) a0 a1 a2 M Q) : az 140 [a0,a1,a2] M Q:=bg (fn:=Tryz.f140) h
theorem uk (h:Go.Ab.aB.kH (az 153) a0 a1 a2 M Q) : az 141 [a0,a1,a2] M Q:=bg (fn:=Tryz.f141) h
theorem pG (h:Go.Ab.aB.iO 150 (az 110) (az 111) a0 a1 a2 M Q) : az 142 [a0,a1,a2] M Q:=bg (fn:=Tryz.f142) h
theorem qF (h:Go.Ab.aB.jm 3 (az 154) (az 155) a0 a1 a2 M Q) : az 143 [a0,a1,a2] M Q:=bg (fn:=Tryz.f143) h
theorem qj (h:Go.Ab.aB.iX a0 a1 a2 M Q) : az 144 [a0,a1,a2] M Q:=bg (fn:=Tryz.f144) h
theorem mi (h:Go.Ab.aB.fP (az 120) a0 a1 a2 M Q) : az 145 [a0,a1,a2] M Q:=bg (fn:=Tryz.f145) h
theorem oN (h:Go.Ab.aB.iE (az 120) a0 a1 a2 a3 M Q) : az 146 [a0,a1,a2,a3] M Q:=bg (fn:=Tryz.f146) h
theorem sM (h:Go.Ab.aB.jS (az 120) a0 a1 a2 a3 M Q) : az 147 [a0,a1,a2,a3] M Q:=bg (fn:=Tryz.f147) h
theorem vX (h:Go.Ab.Crw.mD (az) a0 a1 a2 a3 a4 M Q) : az 149 [a0,a1,a2,a3,a4] M Q:=bg (fn:=Tryz.f149) h
theorem ug (h:Go.Ab.aB.kJ (az 120) a0 a1 a2 a3 M Q) : az 153 [a0,a1,a2,a3] M Q:=bg (fn:=Tryz.f153) h
theorem nV (h:Go.Ab.aB.iF (az 155) a0 a1 a2 M Q) : az 154 [a0,a1,a2] M Q:=bg (fn:=Tryz.f154) h
theorem uC (h:Go.Ab.aB.lX (az 158) a0 a1 a2 a3 a4 M Q) : az 155 [a0,a1,a2,a3,a4] M Q:=bg (fn:=Tryz.f155) h
theorem u6 (h:Go.Ab.aB.lV (az 120) a0 a1 a2 a3 M Q) : az 158 [a0,a1,a2,a3] M Q:=bg (fn:=Tryz.f158) h
end Go.Proofs.YtngfappichkflaaGreat
namespace Go.Proofs.YtngfappichkflaaGreat.qJ
open Go Go.Ab Go.Ab.aB Go.Ab.Crw Go.RowKit
theorem over:acV (XH Tryz.prog 122):=by
 intro M ba oa na bb ob nb ea eb ca cb la lb opb Q hne ha hb h1 h2 hQ
 exact .inr (.inl ⟨⟨Tryz.f122,111,25,1,4,by kernel_rfl,by kernel_rfl,by kernel_rfl,by kernel_rfl,by kernel_rfl,by kernel_rfl⟩,
  ⟨ba,oa,na,ca,bb,ob,nb,cb,la,ea,0,lb,opb,eb,0,rfl,hne,ha,hb,rfl,h1,h2⟩,hQ⟩)
theorem Zp:Bu Tryz.prog 96:=⟨Tryz.f96,_,by kernel_rfl,rfl⟩
theorem insert:Vj 25 (az 96):=by
 intro M v bx n0 k x ex xs Q ho hn hl hk hx hxl hbx hQ
 by_cases hkn:k=xs.length
 ·subst hkn
  exact sJ (Xu ho hn hl hx hxl hQ)
 ·obtain⟨b,rfl,h1,h2,h3,h4⟩:=Own.yP ho (by omega)
  refine fQ.acC Zp h3 (by rw[h4]; show xs.length * 1=_; omega) fun c hc=>?_
  have hne:bx≠b:=fun e=>hbx (by simp[aD,e])
  have kk:ag [b] M (M.put b (.row (aS.row xs++List.replicate (c - xs.length) .top) true 25 0)):=(ag.refl _ _).put _ (.inr (by simp))
  refine sJ (YC (c:=c) over rfl (by omega) hc (by omega) (aU _) (by rw[nC]; exact h2) (qy hx hne) hxl hne ?_)
  intro v' M' q1 q2 q3 q4
  refine hQ v' M' q1 q2 (fun d hd=>?_) ?_
  ·rcases q3 d hd with rfl | h
   ·exact h1
   ·have:M.next≤d:=h
    omega
  ·exact(kk.trans q4).mono (by simp[aD])
theorem nan:XU (az 127):=fun hQ=>sZ (Ky hQ)
theorem anT:XU (az 121):=fun hQ=>AX (Ua hQ)
theorem less:vJ (az 120):=by
 intro M x y Q hQ
 obtain⟨a0,a1,e,h⟩:=ZA nan hQ
 cases e
 exact Ez h
theorem search:Gr (az 95):=by
 intro M v xs n Q h1 h2 h3 hQ
 obtain⟨a0,a1,e,h⟩:=Ud less anT h1 h2 h3 hQ
 cases e
 exact vT h
theorem ai2:YO 25 1 8 (az 97):=fun h1 h2 h3 h4 _ hQ=>DT (OB h1 h2 (Nat.le_refl _) h3 h4 hQ)
theorem settled:Da (az 94):=by
 intro M b o T u l v xs Q h1 h2 h3 h4 h5 h6 h7 h8 h9 hQ
 obtain⟨a0,e,h⟩:=P8 h1 h2 h3 h4 h5 h6 h7 h8 h9 hQ
 cases e
 exact Co h
theorem fF:Wp (az 72):=by
 intro M b o T u n l v xs Q h1 h2 h3 h4 h5 h6 h7 h8 h9 h10 h11 h12 hQ1 hQ2
 obtain⟨a0,a1,e,h⟩:=Y0 (TU:=25) (TP:=113) search ai2 insert settled h1 h2 h3 h4 h5 h6 h7 h8 h9 h10 h11 h12 hQ1 hQ2
 cases e
 exact Jj h
theorem ed:O5 (az 73):=by
 intro M b o T u n l v xs Q h1 h2 h3 h4 h5 h6 hQ
 obtain⟨a0,a1,e,h⟩:=Zl search h1 h2 h3 h4 h5 h6 hQ
 cases e
 exact Im h
theorem good:zD (az 69):=by
 intro M d Q hQ
 obtain⟨a0,e,h⟩:=Y9 (T:=27) hQ
 cases e
 exact Nb h
theorem adI:zD (az 66):=by
 intro M d Q hQ
 obtain⟨a0,e,h⟩:=Rh (T:=27) hQ
 cases e
 exact LX h
theorem jG:O8 116 (az 50):=by
 intro M b ps d S Q h1 h2 hQ
 obtain⟨a0,a1,e,h⟩:=Za (TD:=27) good fF h1 h2 hQ
 cases e
 exact JZ h
theorem new:Sa 116 (az 47):=by
 intro M Q hQ
 obtain⟨e,h⟩:=abD hQ
 exact OV h
theorem within:Nt 116 (az 57):=by
 intro M a b ps qs S S' Q h1 h2 h3 h4 hQ
 obtain⟨a0,a1,e,h⟩:=Uk (T:=113) ed h1 h2 h3 h4 hQ
 cases e
 exact E9 h
theorem gF:Xy 116 (az 51):=by
 intro M b ps d S Q h1 h2 hQ
 obtain⟨a0,a1,e,h⟩:=YR (T:=27) good ed h1 h2 hQ
 cases e
 exact Lj h
theorem grow:XT 25 (az 118):=by
 intro M n Q h1 h2 h3
 obtain⟨a0,a1,e,h⟩:=Zg (TS:=9) h1 h2 h3
 cases e
 exact EA h
theorem concat:Mk 25 (az 91):=by
 intro M bb TS v w xs ys Q h1 h2 h3 h4 h5 h6 hQ
 obtain⟨a0,e,h⟩:=Um (TS:=9) grow h1 h2 h3 h4 h5 h6 hQ
 cases e
 exact BJ h
theorem adY:Ny 25 3 (az 158):=fun {M b s k i j d Q} h1 h2 h3 h4 hQ=>by
 obtain⟨a0,a1,a2,a3,e,h⟩:=PL less h1 h2 h3 h4 hQ
 cases e
 exact u6 h
theorem Vh:GJ 25 3 (az 155):=fun {M b s k i j h d Q} h1 h2 h3 h4 h5 hQ=>by
 obtain⟨a0,a1,a2,a3,a4,e,h⟩:=Sr adY h1 h2 h3 h4 h5 hQ
 cases e
 exact uC h
theorem ae7:NB 25 3 (az 154):=fun {M b s k i d Q} h1 h2 h3 h4 h5 hQ=>by
 obtain⟨a0,a1,a2,e,h⟩:=RU Vh h1 h2 h3 h4 h5 hQ
 cases e
 exact nV h
theorem aeq:L9 25 (az 143):=fun {M b a e d Q} h1 h2 h3 h4 hQ=>by
 obtain⟨a0,a1,a2,e,h⟩:=Qy ae7 Vh h1 h2 h3 h4 hQ
 cases e
 exact qF h
theorem ab7:JH 25 (az 145):=fun {M b a e d Q} h1 h2 h3 h4 hQ=>by
 obtain⟨a0,a1,a2,e,h⟩:=OO less h1 h2 h3 h4 hQ
 cases e
 exact mi h
theorem an5:xh 25 (Sort.insertionSort lN) (fun _ _ _=>True) (az 140):=fun {M b a e d Q} h1 h2 h3 h4 h5 hQ=>by
 obtain⟨a0,a1,a2,e,h⟩:=YP less h1 h2 h3 h4 h5 hQ
 cases e
 exact jA h
theorem ami:X3 25 (az 153):=fun {M b lo hi first d Q} h1 h2 h3 h4 hQ=>by
 obtain⟨a0,a1,a2,a3,e,h⟩:=Zj less h1 h2 h3 h4 hQ
 cases e
 exact ug h
theorem ale:xh 25 (Sort.heapSort lN) (fun _ a e=>a<e) (az 141):=fun {M b a e d Q} h1 h2 h3 h4 h5 hQ=>by
 obtain⟨a0,a1,a2,e,h⟩:=YS ami h1 h2 h3 h4 h5 hQ
 cases e
 exact uk h
theorem aat:xh 25 Sort.reverseRange (fun _ a e=>a<e) (az 144):=fun {M b a e d Q} h1 h2 h3 h4 h5 hQ=>by
 obtain⟨a0,a1,a2,e,h⟩:=Qc h1 h2 h3 h4 h5 hQ
 cases e
 exact qj h
theorem aeG:MV 25 (az 146):=fun {M b a e pv d Q} h1 h2 h3 h4 h5 hQ=>by
 obtain⟨a0,a1,a2,a3,e,h⟩:=Ur less h1 h2 h3 h4 h5 hQ
 cases e
 exact oN h
theorem alz:WY 25 (az 147):=fun {M b a e pv d Q} h1 h2 h3 h4 h5 hQ=>by
 obtain⟨a0,a1,a2,a3,e,h⟩:=ZH less h1 h2 h3 h4 h5 hQ
 cases e
 exact sM h
theorem af3:F9 (az 89):=fun {M x Q} h1 hQ=>by
 obtain⟨a0,e,h⟩:=Ub h1 hQ
 cases e
 exact zk h
theorem ab0:F9 (az 63):=fun {M x Q} h1 hQ=>by
 obtain⟨a0,e,h⟩:=Zn (c3:=az 88) af3 h1 hQ
 cases e
 exact BP h
theorem ajp:WJ (az 110):=fun {M x Q} h0 h1 hQ=>by
 obtain⟨a0,e,h⟩:=Z9 ab0 h0 h1 hQ
 cases e
 exact Bb h
theorem ank:ZP 25 150 (az 111):=fun {M b s r d Q} h0 hQ=>by
 obtain⟨a0,e,h⟩:=abG h0 hQ
 cases e
 exact sH h
theorem ah9:Sv 25 (az 142):=fun {M b a e d Q} h1 h2 h3 h4 hQ=>by
 obtain⟨a0,a1,a2,e,h⟩:=Xf ajp ank h1 h2 h3 h4 hQ
 cases e
 exact pG h
theorem ahM:∀ m,Xm 25 m (az 119)
 | 0=>by intro h1 h2 h3 h4 h5; omega
 | m + 1=>by
   intro h1 h2 h3 h4 h5 h6 hQ
   obtain⟨a0,a1,a2,a3,e,h⟩:=ZO an5 ale ah9 aeq aat ab7 less aeG alz (ahM m) h1 h2 h3 h4 h5 h6 hQ
   cases e
   exact ma h
theorem ag6:Sw (az 140):=fun {M v Q} hQ=>by
 obtain⟨a0,a1,a2,e,h⟩:=Uz (cl:=az 120) (v:=v) hQ
 cases e
 exact jA h
theorem ahv:SL (az 119):=fun {M v Q} hQ=>by
 obtain⟨a0,a1,a2,a3,e,h⟩:=TR (c2:=az 141) (c3:=az 142) (cc:=az 143) (c4:=az 144) (cp:=az 145) (c5:=az 120) (c6:=az 146) (c7:=az 147) (c8:=az 119) ag6 (v:=v) hQ
 cases e
 exact ma h
theorem aei:VW (fun xs=>xs.length≤60000) ja 25 (az 92):=fun {M base v xs Q} h1 h2 hQ=>by
 obtain⟨a0,e,h⟩:=XQ ab0 ahM ahv h1 h2 hQ
 cases e
 exact Eu h
theorem VQ:I7 (fun xs=>xs.length≤60000) dd 25 (az 93):=fun {M base v xs Q} h1 h2 hQ=>by
 obtain⟨a0,e,h⟩:=OL h1 h2 hQ
 cases e
 exact AQ h
theorem adQ:Vy (fun xs=>xs.length≤60000) (fun xs=>xs.length≤60000) ja dd 116 (az 71):=fun {M a b ps qs S S' Q} h1 h2 h3 h4 h5 h6 h7 h8 hQ=>by
 obtain⟨a0,a1,e,h⟩:=ZI (TP:=113) (TL:=111) concat aei VQ settled h1 h2 h3 h4 h5 h6 h7 h8 hQ
 cases e
 exact IP h
theorem acE:vS (az 37):=by
 intro M a b Q h1
 obtain⟨a0,a1,e,h⟩:=VE (T:=27) h1
 cases e
 exact Pq h
theorem U9:vS (az 25):=by
 intro M a b Q h1
 obtain⟨a0,a1,e,h⟩:=PT (T:=27) h1
 cases e
 exact Mf h
theorem names:P9 (az 70):=by
 intro M x y z Q h1
 obtain⟨a0,a1,a2,e,h⟩:=WS h1
 cases e
 exact He h
theorem dz:xL (az 48):=by
 intro M e kv ks Q h1 h2
 obtain⟨a0,e,h⟩:=UD (TE:=30) (TD:=27) good names acE h1 h2
 cases e
 exact Ta h
theorem Yw:xL (az 41):=by
 intro M e kv ks Q h1 h2
 obtain⟨a0,e,h⟩:=NA (TE:=30) adI U9 h1 h2
 cases e
 exact Hf h
theorem apc:Cy (α:=List UInt8) (fun s=>St s) (az 64):=by
 intro M x Q h1
 obtain⟨a0,e,h⟩:=Yq h1
 cases e
 exact DI h
theorem aor:Cy (α:=Nat) (fun n=>N .u64 (n:Int)) (az 127):=by
 intro M x Q h1
 obtain⟨a0,e,h⟩:=Yu h1
 cases e
 exact sZ h
theorem anq:Cy (α:=Int) (fun n=>N .i64 n) (az 128):=by
 intro M x Q h1
 obtain⟨a0,e,h⟩:=YX h1
 cases e
 exact Ha h
theorem ao6:xg (α:=List UInt8) (fun s=>St s) (fun x y=>decide (x<y)) (az 36):=by
 intro M x y Q h1
 obtain⟨a0,a1,e,h⟩:=Yr apc h1
 cases e
 exact AB h
theorem anx:xg (α:=Nat) (fun n=>N .u64 (n:Int)) (fun x y=>decide (x<y)) (az 106):=by
 intro M x y Q h1
 obtain⟨a0,a1,e,h⟩:=ZB aor h1
 cases e
 exact Bn h
theorem anN:xg (α:=Int) (fun n=>N .i64 n) (fun x y=>decide (x<y)) (az 107):=by
 intro M x y Q h1
 obtain⟨a0,a1,e,h⟩:=Yx anq h1
 cases e
 exact EE h
theorem or_:OrC (az 35):=by
 intro M v xs Q h1 h2 h3
 obtain⟨a0,e,h⟩:=afb h1 h2 h3
 cases e
 exact Nz h
theorem akM:Tt (az 75):=by
 intro M x y Q h1
 obtain⟨a0,a1,e,h⟩:=Wn anx anN or_ h1
 cases e
 exact OX h
theorem compare:Il (az 53):=by
 intro M x y Q h1
 obtain⟨a0,a1,e,h⟩:=TA ao6 akM or_ h1
 cases e
 exact KC h
abbrev fE:AV:=.fn (.func 53) [] []
theorem IV:yM aA fI (eG (az) fE):=adC compare
theorem aaA:SortG aA 40 5 fE (Sort.insertionSort fI) (fun _ _ _=>True) (az 98):=by
 intro M b a e d Q h1 h2 h3 h4 h5 h6
 obtain⟨a0,a1,a2,a3,e,h⟩:=Crw.aaA (cv:=az) IV h1 h2 h3 h4 h5 h6
 cases e
 exact jN h
theorem abC:SortG aA 40 5 fE Sort.reverseRange (fun _ a e=>a<e) (az 102):=by
 intro M b a e d Q h1 h2 h3 h4 h5 h6
 obtain⟨a0,a1,a2,a3,e,h⟩:=Crw.abC h1 h2 h3 h4 h5 h6
 cases e
 exact qE h
theorem Xo:Ya 40 fE fI (az 124):=by
 intro M b lo hi first d Q h1 h2 h3 h4 h5
 obtain⟨a0,a1,a2,a3,a4,e,h⟩:=Crw.Xo (cv:=az) IV h1 h2 h3 h4 h5
 cases e
 exact uu h
theorem Wm:SortG aA 40 5 fE (Sort.heapSort fI) (fun _ a e=>a<e) (az 99):=by
 intro M b a e d Q h1 h2 h3 h4 h5 h6
 obtain⟨a0,a1,a2,a3,e,h⟩:=Crw.Wm Xo h1 h2 h3 h4 h5 h6
 cases e
 exact uw h
theorem Ni:Mj 40 fE fI (az 104):=by
 intro M b a e pv d Q h1 h2 h3 h4 h5 h6
 obtain⟨a0,a1,a2,a3,a4,e,h⟩:=Crw.Ni (cv:=az) IV h1 h2 h3 h4 h5 h6
 cases e
 exact pX h
theorem VC:Vu 40 fE fI (az 105):=by
 intro M b a e pv d Q h1 h2 h3 h4 h5 h6
 obtain⟨a0,a1,a2,a3,a4,e,h⟩:=Crw.VC (cv:=az) IV h1 h2 h3 h4 h5 h6
 cases e
 exact tZ h
theorem LQ:MX 40 3 fE fI (az 149):=by
 intro M b s k i j d Q h1 h2 h3 h4 h5 h6
 obtain⟨a0,a1,a2,a3,a4,e,h⟩:=Crw.LQ (cv:=az) IV h1 h2 h3 h4 h5 h6
 cases e
 exact vX h
theorem G6:Gb 40 3 fE fI (az 126):=by
 intro M b s k i j h d Q h1 h2 h3 h4 h5 h6 h7
 obtain⟨a0,a1,a2,a3,a4,a5,e,h⟩:=Crw.G6 LQ h1 h2 h3 h4 h5 h6 h7
 cases e
 exact wm h
theorem Mh:Nf 40 3 fE fI (az 125):=by
 intro M b s k i d Q h1 h2 h3 h4 h5 h6 h7
 obtain⟨a0,a1,a2,a3,e,h⟩:=Crw.Mh G6 h1 h2 h3 h4 h5 h6 h7
 cases e
 exact pY h
theorem Nv:NH 40 fE fI (az 101):=by
 intro M b a e d Q h1 h2 h3 h4 h5
 obtain⟨a0,a1,a2,a3,e,h⟩:=Crw.Nv Mh G6 h1 h2 h3 h4 h5
 cases e
 exact ru h
theorem IC:JR 40 fE fI (az 103):=by
 intro M b a e d Q h1 h2 h3 h4 h5
 obtain⟨a0,a1,a2,a3,e,h⟩:=Crw.IC (cv:=az) IV h1 h2 h3 h4 h5
 cases e
 exact mQ h
theorem ao9:aae 150 (az 111):=by
 intro M s r Q h1 h2 h3
 obtain⟨a0,e,h⟩:=YN h1 h2 h3
 cases e
 exact sH h
theorem S9:SortG aA 40 5 fE Sort.breakPatterns (fun _ _ _=>True) (az 100):=by
 intro M b a e d Q h1 h2 h3 h4 h5 h6
 obtain⟨a0,a1,a2,a3,e,h⟩:=Crw.S9 ajp ao9 h1 h2 h3 h4 h5 h6
 cases e
 exact qc h
theorem X8:∀ m,Xi 40 m fE fI (az 74)
 | 0=>by intro h1 h2 h3 h4 h5; omega
 | m + 1=>by
   intro h1 h2 h3 h4 h5 h6 hQ
   obtain⟨a0,a1,a2,a3,a4,e,h⟩:=Crw.X8 (cv:=az) iI aaA Wm S9 Nv abC IC IV Ni VC (X8 m) h1 h2 h3 h4 h5 h6 hQ
   cases e
   exact mq h
theorem NJ:Nj (az 98):=by
 intro M v fv Q h1
 obtain⟨a0,a1,a2,a3,e,h⟩:=Crw.NJ (cv:=az) h1
 cases e
 exact jN h
theorem NE:NF (az 74):=by
 intro M v fv Q h1
 obtain⟨a0,a1,a2,a3,a4,e,h⟩:=Crw.NE (cv:=az) NJ h1
 cases e
 exact mq h
theorem ah6:Mg fE fI 40 (az 52):=by
 intro M base v xs Q h1 h2 h3
 obtain⟨a0,a1,e,h⟩:=Crw.adH iI ab0 X8 NE h1 h2 h3
 cases e
 exact Bd h
theorem clone:Ng 40 (az 46):=by
 intro M v xs Q h1 h2 h3
 obtain⟨a0,e,h⟩:=UG h1 h2 h3
 cases e
 exact EC h
theorem index:MW (az 77):=by
 intro M v l d Q h1 h2 h3
 obtain⟨a0,a1,e,h⟩:=UI (T:=27) h1 h2 h3
 cases e
 exact G8 h
theorem contains:Ci (az 56):=by
 intro M v l d Q h1 h2 h3
 obtain⟨a0,a1,e,h⟩:=MO (T:=27) index h1 h2 h3
 cases e
 exact Cb h
theorem ajj:Nr (az 58):=by
 intro M v w xs ys Q h1 h2 h3 h4
 obtain⟨a0,a1,e,h⟩:=Ug h1 h2 h3 h4
 cases e
 exact Ew h
theorem Zh {b:Nat} {e:mE} {kv:AV} {ks:List aB} (hl:ks.length≤1000000) : O6 (E5 30 b e kv ks) (fun x=>decide (x.1∈ks)) (eG (az) (.fn (.func 55) [] [.ptr b 0])):=by
 intro M x Q hP hQ
 obtain⟨a0,a1,e,h⟩:=Uf (T:=40) contains hl hP hQ
 refine⟨55,[],[.ptr b 0],rfl, ?_⟩
 show az 55 [.agg (aA.cells x),.ptr b 0] M Q
 cases e
 exact Bp h
theorem afo {P:RM→Prop} {p:Crw.aC→Bool} {fv:AV} (hp:O6 P p (eG (az) fv)) : Mv P p fv (az 76):=by
 intro M v xs Q h1 h2 h3 h4 h5 h6
 obtain⟨a0,a1,e,h⟩:=Ue hp h1 h2 h3 h4 h5 h6
 cases e
 exact zi h
theorem aew (b:Nat) (e:mE) (kv:AV) (ks:List aB) (hl:ks.length≤1000000) : Jy 40 (E5 30 b e kv ks) (fun x=>decide (x.1∈ks)) (.fn (.func 55) [] [.ptr b 0]) (az 54):=by
 intro M base v xs Q h1 h2 h3 h4 hQ
 obtain⟨a0,a1,e,h⟩:=Pw (TE:=40) (afo (Zh hl)) (Zh hl) h1 h2 h3 h4 hQ
 cases e
 exact yg h
theorem Lt:RP 116 (az 49):=by
 intro M b qs S' k Q h1 h2 h3 h4
 obtain⟨a0,e,h⟩:=XN new adQ h1 h2 h3 h4
 cases e
 exact I8 h
theorem alY:PG 91 116 (az 29):=by
 intro M Q h1
 obtain⟨e,h⟩:=Xq new h1
 exact TT h
theorem apply:PP 91 116 (az 30):=by
 intro M t k B ps es e kv ks Q h1 h2 h3 h4 h5 h6 h7 h8
 obtain⟨a0,a1,e,h⟩:=Vz (TE:=30) (TD:=27) (TN:=40) (cv:=az) dz Lt jG gF clone ah6 aew within ajj h1 h2 h3 h4 h5 h6 h7 h8
 cases e
 exact EB h
theorem adD:JL 91 116 40 (az 61):=by
 intro M t B ps es s Q h1 h2 h3
 obtain⟨a0,a1,e,h⟩:=Sq h1 h2 h3
 cases e
 exact BQ h
theorem before:U7 (az 67):=by
 intro M x y Q h1
 obtain⟨a0,a1,e,h⟩:=Ui (TN:=40) U9 h1
 cases e
 exact Mt h
theorem Jk:zI 91 116 9 (az 26):=by
 intro M t B ps es Q h1 h2 h3
 obtain⟨a0,e,h⟩:=OU (TN:=40) h1 h2 h3
 cases e
 exact Bl h
end Go.Proofs.YtngfappichkflaaGreat.qJ
namespace Go.Proofs
open Go.Shelf
def Tryz.laysM219_ren:Go.Shelf.Ren:=⟨fun | 219=>90 | 217=>114 | 225=>115 | 224=>116 | 267=>117 | 266=>138 | 314=>139 | n=>n,fun | 9=>9 | 3=>3 | 4=>4 | 5=>5 | 46=>107 | 146=>175 | 51=>135 | n=>n,fun | 1=>0 | n=>n⟩
theorem Tryz.laysM219:Go.Proofs.LaysM.n219 Tryz.prog Tryz.laysM219_ren where
 mixed:=by kernel_rfl
 f217:=Tryz.func114.trans (congrArg some (by kernel_rfl))
 f219:=Tryz.func90.trans (congrArg some (by kernel_rfl))
 f224:=Tryz.func116.trans (congrArg some (by kernel_rfl))
 f225:=Tryz.func115.trans (congrArg some (by kernel_rfl))
 f266:=Tryz.func138.trans (congrArg some (by kernel_rfl))
 f267:=Tryz.func117.trans (congrArg some (by kernel_rfl))
 f314:=Tryz.func139.trans (congrArg some (by kernel_rfl))
 t3:=Tryz.underlying3
 a3:=Tryz.isAgg3
 z3:=Tryz.sizeOf3
 v3:=Tryz.zeroValue3
 t4:=Tryz.underlying4
 a4:=Tryz.isAgg4
 z4:=Tryz.sizeOf4
 v4:=Tryz.zeroValue4
 t5:=Tryz.underlying5
 a5:=Tryz.isAgg5
 z5:=Tryz.sizeOf5
 v5:=Tryz.zeroValue5
 t9:=Tryz.underlying9
 a9:=Tryz.isAgg9
 z9:=Tryz.sizeOf9
 v9:=Tryz.zeroValue9
 t46:=Tryz.underlying107
 a46:=Tryz.isAgg107
 z46:=Tryz.sizeOf107
 v46:=Tryz.zeroValue107
 t51:=Tryz.underlying135
 a51:=Tryz.isAgg135
 z51:=Tryz.sizeOf135
 v51:=Tryz.zeroValue135
 t146:=Tryz.underlying175
 a146:=Tryz.isAgg175
 z146:=Tryz.sizeOf175
 v146:=Tryz.zeroValue175
 g1:=by kernel_rfl
 i3:=by kernel_rfl
 i4:=by kernel_rfl
 i5:=by kernel_rfl
 i9:=by kernel_rfl
 i46:=by kernel_rfl
 i51:=by kernel_rfl
 i146:=by kernel_rfl
 m1:=by kernel_rfl
 s1_3:=fun w h=>Go.Proofs.cell_of_shapedOpen_int (zero := #[.int .i64 0]) (t:=3) h (of_decide_eq_true (by kernel_rfl)) (by kernel_rfl) rfl (by kernel_rfl) (by kernel_rfl) Tryz.underlying3
theorem Tryz.index_fact (s sub:ByteArray) (m:Int) (w:World) (hs:s.size<4294967281) (hm:w.cell? ⟨0,0,none⟩=some (.int .i64 m)) :
  Calls Tryz.prog 90 #[.string s,.string sub] w fun e w'=>e=.returned (.int .i64 (Lib.index s.data.toList sub.data.toList))∧w'=w :=
 Any.stringslite_Index { Tryz.laysM219 with } s sub m w hs hm
theorem Tryz.index_var (w:World) (h:w.ShapedOpen Tryz.prog) : ∃ m,w.cell? ⟨0,0,none⟩=some (.int .i64 m):=Tryz.laysM219.s1_3 w h
end Go.Proofs
namespace Go.Proofs.YtngfappichkflaaGreat
open Go Go.Ab Go.RowKit
def ext:Ext := { split:=[96],GM:=[122],GV:=[] }
theorem Fp:Er Tryz.prog ext where
 ng:=QO (by kernel_rfl)
 GM:=by
  intro f hf
  have:f=122:=by
   unfold ext at hf
   simp only[has] at hf
   split at hf
   ·rename_i h; exact(Nat.eq_of_beq_eq_true h).symm
   ·cases hf
  subst this
  exact⟨Tryz.f122,111,25,1,4,by kernel_rfl,by kernel_rfl,by kernel_rfl,by kernel_rfl,by kernel_rfl,by kernel_rfl⟩
 GV:=fun f hf=>by cases hf
theorem mixed:Tryz.prog.follows .mixedOrders=true:=by kernel_rfl
def Iv:World→Prop:=fun w=>∃ m,w.cell? ⟨0,0,none⟩=some (.int .i64 m)
theorem ajY (w w1 w2:World) (hw:Iv w) (h:∀ c,c<w.heap.size→w2.heap[c]?=w1.heap[c]?) (h1:Iv w1) : Iv w2:=by
 obtain⟨m0,hm0⟩:=hw
 obtain⟨m,hm⟩:=h1
 refine⟨m, ?_⟩
 have hlt:0<w.heap.size:=by
  rcases Nat.lt_or_ge 0 w.heap.size with h | h
  ·exact h
  ·simp[World.cell?,Array.getElem?_eq_none h] at hm0
 simpa [World.cell?,h 0 hlt] using hm
def row (x:List UInt8 × List UInt8 × Int) : aC := { args:=[.sc (.string ⟨⟨x.1⟩⟩),.sc (.string ⟨⟨x.2.1⟩⟩)],ans:=.val (.sc (.int .i64 x.2.2)) }
theorem aiJ (x:List UInt8 × List UInt8 × Int) (h:Lib.index x.1 x.2.1=x.2.2) (hl:x.1.length<4294967281) : vK Tryz.prog Iv 90 (row x):=by
 refine vK.val rfl fun w ⟨m,hm⟩ ρ us hus=>?_
 cases hus with
 | cons _ u1 _ us r1 hus =>
 cases hus with
 | cons _ u2 _ us r2 hus =>
 cases hus
 obtain⟨rfl,_⟩:=aQ r1
 obtain⟨rfl,_⟩:=aQ r2
 refine(Tryz.index_fact _ _ m w (by simpa [ByteArray.size] using hl) hm).mono fun e w' hR=>?_
 obtain⟨rfl,rfl⟩:=hR
 exact⟨⟨_,rfl,fun ρ=>by rw[← h]; exact .sc _ rfl⟩,rfl⟩
def known:List (List UInt8 × List UInt8 × Int):=[([99],[98,111],-1),([98,111,98],[98,111],0),([99],[97,110],-1),([98,111,98],[97,110],-1),([53],[97,110],-1),([97],[],0),([98],[],0)]
def T0:Table:=[(90,known.map row)]
theorem acg:(known.all fun x=>decide (Lib.index x.1 x.2.1=x.2.2) && Nat.ble x.1.length 4000)=true:=by kernel_rfl
theorem t0:jC Tryz.prog Iv T0:=by
 intro g hg e he
 have hg:g=(90,known.map row):=by simpa [T0] using hg
 subst hg
 obtain⟨x,hx,rfl⟩:=List.mem_map.1 he
 have:=List.all_eq_true.1 acg x hx
 rw[Bool.and_eq_true,decide_eq_true_iff] at this
 exact aiJ x this.1 (by have:=aZ this.2; omega)
end Go.Proofs.YtngfappichkflaaGreat
namespace Go.Proofs.YtngfappichkflaaGreat.qJ
open Go Go.Ab Go.Ab.aB Go.Ab.Crw Go.Ab.Crw.Viw Go.RowKit
theorem own:aa2 30 (az 17):=by
 intro M v l Q h1 h2 h3
 obtain⟨a0,e,h⟩:=abJ (TE:=30) Yw h1 h2 h3
 cases e
 exact Hd h
theorem anm:Wz 91 116 (az 10):=by
 intro M v l Q h1 h2 h3
 obtain⟨a0,e,h⟩:=UK alY apply h1 h2 h3
 cases e
 exact JK h
theorem aep:Ju (az 14):=by
 intro M v xs Q h1 h2 h3
 obtain⟨a0,e,h⟩:=Tp (TN:=40) acE h1 h2 h3
 cases e
 exact Ey h
theorem groups:NC (az 40):=by
 intro M v es Q h1 h2 h3
 obtain⟨a0,e,h⟩:=Uq (TN:=40) (TS:=47) h1 h2 h3
 cases e
 exact EF h
theorem fields:Nu 91 116 64 (az 32):=by
 intro M t B ps es s Q h1 h2 h3
 obtain⟨a0,a1,e,h⟩:=Uv (TF:=64) adD groups aep h1 h2 h3
 cases e
 exact ED h
theorem small:Qb (az 38):=by
 intro M s Q h1 h2
 obtain⟨a0,e,h⟩:=VT (T8:=5) h1 h2
 cases e
 exact Fa h
theorem ai1 {B:Base} (hB:∀ w,B.inv w→Iv w) : Fs B (az 90):=by
 intro M a b Q hM ha hQ
 refine fQ.abf (v:=N .i64 (Lib.index a b)) ⟨Tryz.f90,_,Tryz.func90,rfl⟩ (fun ρ w us hus hw=>?_) hQ
 obtain⟨m,hm⟩:=hB w (hM▸hw.inv)
 cases hus with
 | cons _ u1 _ us r1 hus =>
 cases hus with
 | cons _ u2 _ us r2 hus =>
 cases hus
 obtain⟨rfl,_⟩:=aQ r1
 obtain⟨rfl,_⟩:=aQ r2
 refine(Tryz.index_fact ⟨⟨a⟩⟩ ⟨⟨b⟩⟩ m w (by simpa [ByteArray.size] using ha) hm).mono fun e w' hR=>?_
 obtain⟨rfl,rfl⟩:=hR
 exact⟨_,rfl,Below.refl _ _,.sc _ rfl⟩
theorem aaW {B:Base} (hB:∀ w,B.inv w→Iv w) : Fs B (az 65):=by
 intro M a b Q h1 h2 h3
 obtain⟨a0,a1,e,h⟩:=OP (ai1 hB) h1 h2 h3
 cases e
 exact BC h
theorem containsS {B:Base} (hB:∀ w,B.inv w→Iv w) : FP B (az 39):=by
 intro M a b Q h1 h2 h3
 obtain⟨a0,a1,e,h⟩:=Viw.OZ (aaW hB) h1 h2 h3
 cases e
 exact x9 h
theorem findF {B:Base} (hB:∀ w,B.inv w→Iv w) : WH B 91 116 9 (az 15):=by
 intro M t C ps es s Q h0 h1 h2 h3 h4 h5 h6
 obtain⟨a0,a1,e,h⟩:=find_spec (TF:=64) small Jk (containsS hB) fields h0 h1 h2 h3 h4 h5 h6
 cases e
 exact G9 h
end Go.Proofs.YtngfappichkflaaGreat.qJ
namespace Go.Proofs.YtngfappichkflaaGreat.qJ
open Go Go.Ab Go.Ab.aB Go.Ab.Crw Go.RowKit
theorem Hy {α:Type} {R:qa α} {M:RM} {S:Nat→Prop} {p:α→Prop} : ∀ (n:Nat) (ds:List AV),ds.length=n * R.size→(∀ i,i<n→∃ a,p a∧R.rel M ((ds.drop (i * R.size)).take R.size) a S) →
  ∃ xs:List α,xs.length=n∧dJ R M S ds xs∧∀ x∈xs,p x
 | 0,ds,hl,_=>by
   have:ds=[]:=by simpa using hl
   subst this
   exact⟨[],rfl,.nil,by simp⟩
 | n + 1,ds,hl,h=>by
   obtain⟨a,pa,ha⟩:=h 0 (by omega)
   simp only[Nat.zero_mul,List.drop_zero] at ha
   have hl' : (ds.drop R.size).length=n * R.size:=by rw[List.length_drop,hl,Nat.succ_mul]; omega
   obtain⟨xs,h1,h2,h3⟩:=Hy n (ds.drop R.size) hl' fun i hi=>by
    obtain⟨b,pb,hb⟩:=h (i + 1) (by omega)
    refine⟨b,pb, ?_⟩
    rw[List.drop_drop,show R.size + i * R.size=(i + 1) * R.size by rw[Nat.succ_mul,Nat.add_comm]]
    exact hb
   refine⟨a :: xs,by simp[h1], ?_,fun x hx=>?_⟩
   ·have:=dJ.cons ha h2
    rwa [List.take_append_drop] at this
   ·rcases List.mem_cons.1 hx with rfl | hx
    ·exact pa
    ·exact h3 x hx
theorem cells3:Tryz.prog.cellsOf 3=1:=by kernel_rfl
theorem aj2:Tryz.prog.cellsOf 9=1:=by kernel_rfl
theorem ae4:Tryz.prog.cellsOf 25=1:=by kernel_rfl
theorem Gp:Tryz.prog.cellsOf 27=2:=by kernel_rfl
theorem aeB:Tryz.prog.cellsOf 28=1:=by kernel_rfl
theorem ME:Tryz.prog.cellsOf 30=7:=by kernel_rfl
theorem PH {M:RM} {cs:List AV} (h:Fits Tryz.prog M 27 cs) : ∃ d:aB,cs=dP.cells d∧d.2<2 ^ 64:=by
 obtain⟨hl,hf⟩:=h.Ka Tryz.underlying27
 rw[Gp] at hl
 match cs,hl with
 | [a,b],_ =>
   have f0:Fits Tryz.prog M 3 (([a,b].drop 0).take (Tryz.prog.cellsOf 3)):=hf 0 _ rfl
   have f1:Fits Tryz.prog M 25 (([a,b].drop 1).take (Tryz.prog.cellsOf 25)):=hf 1 _ rfl
   rw[cells3] at f0
   rw[ae4] at f1
   obtain⟨n,e,_,_⟩:=f0.GH Tryz.underlying3
   obtain⟨m,e',g1,g2⟩:=f1.GH Tryz.underlying25
   have g1:(0:Int)≤m:=g1
   have g2:m≤(18446744073709551615:Int):=g2
   obtain⟨k,rfl⟩:=Int.eq_ofNat_of_zero_le g1
   cases e; cases e'
   exact⟨(n,k),rfl,by show k<2 ^ 64; omega⟩
theorem Zu {M:RM} {cs:List AV} (h:Fits Tryz.prog M 28 cs) : ∃ v,∃ l:List aB,cs=[v]∧Sl dP M v l∧∀ d∈l,d.2<2 ^ 64:=by
 obtain⟨v,n,ds,rfl,hs,hb,he⟩:=h.Oi Tryz.underlying28 (by rw[Gp]; decide)
 rw[Gp] at hs he
 obtain⟨xs,rfl,rfl,hp⟩:=N9 (size:=2) dP.cells (fun d:aB=>d.2<2 ^ 64) (fun _=>rfl) n ds hs.length fun i hi=>by
  obtain⟨d,e,h⟩:=PH (he i hi)
  exact⟨d,h,e⟩
 exact⟨v,xs,rfl,hs,hp⟩
def ab3 (x:Ev) : Prop:=x.1.1.2<2 ^ 64∧x.1.2.2.1.length≤reachBytes∧x.1.2.2.2.1.length≤reachBytes∧x.1.2.2.2.2.length≤reachBytes∧∀ d∈x.2,d.2<2 ^ 64
theorem aeU {M:RM} {cs:List AV} (h:Fits Tryz.prog M 30 cs) : ∃ e kv ks,cs=fA e kv∧Sl dP M kv ks∧ab3 (e,ks):=by
 obtain⟨hl,hf⟩:=h.Ka Tryz.underlying30
 rw[ME] at hl
 match cs,hl with
 | [a,b,c,d,e,f,g],_ =>
   have f0:Fits Tryz.prog M 27 (([a,b,c,d,e,f,g].drop 0).take (Tryz.prog.cellsOf 27)):=hf 0 _ rfl
   have f1:Fits Tryz.prog M 3 (([a,b,c,d,e,f,g].drop 2).take (Tryz.prog.cellsOf 3)):=hf 1 _ rfl
   have f2:Fits Tryz.prog M 9 (([a,b,c,d,e,f,g].drop 3).take (Tryz.prog.cellsOf 9)):=hf 2 _ rfl
   have f3:Fits Tryz.prog M 9 (([a,b,c,d,e,f,g].drop 4).take (Tryz.prog.cellsOf 9)):=hf 3 _ rfl
   have f4:Fits Tryz.prog M 9 (([a,b,c,d,e,f,g].drop 5).take (Tryz.prog.cellsOf 9)):=hf 4 _ rfl
   have f5:Fits Tryz.prog M 28 (([a,b,c,d,e,f,g].drop 6).take (Tryz.prog.cellsOf 28)):=hf 5 _ rfl
   rw[Gp] at f0
   rw[cells3] at f1
   rw[aj2] at f2 f3 f4
   rw[aeB] at f5
   obtain⟨dd,e0,g0⟩:=PH f0
   obtain⟨op,e1,_,_⟩:=f1.GH Tryz.underlying3
   obtain⟨s2,e2,g2⟩:=f2.Gj Tryz.underlying9
   obtain⟨s3,e3,g3⟩:=f3.Gj Tryz.underlying9
   obtain⟨s4,e4,g4⟩:=f4.Gj Tryz.underlying9
   obtain⟨kv,ks,e5,hk,g5⟩:=Zu f5
   cases e0; cases e1; cases e2; cases e3; cases e4; cases e5
   exact⟨(dd,(op,(s2,(s3,s4)))),_,ks,rfl,hk,g0,g2,g3,g4,g5⟩
theorem acy {M:RM} {cs:List AV} (h:Fits Tryz.prog M 32 cs) : ∃ v,∃ l:List Ev,cs=[v]∧gV vQ M v l (fun d=>d<M.next)∧∀ x∈l,ab3 x:=by
 obtain⟨v,n,ds,rfl,hs,hb,he⟩:=h.Oi Tryz.underlying32 (by rw[ME]; decide)
 rw[ME] at hs he
 obtain⟨xs,hn,hr,hp⟩:=Hy (R:=vQ) (M:=M) (S:=fun d=>d<M.next) (p:=ab3) n ds hs.length fun i hi=>by
  obtain⟨e,kv,ks,e1,hk,ho⟩:=aeU (he i hi)
  refine⟨(e,ks),ho, ?_⟩
  show vQ.rel M ((ds.drop (i * 7)).take 7) (e,ks) _
  rw[e1]
  exact YL hk (fun d hd=>aL.lt hk d hd)
 subst hn
 exact⟨v,xs,rfl,⟨ds,hs,fun d hd=>hs.lt d hd,hr⟩,hp⟩
end Go.Proofs.YtngfappichkflaaGreat.qJ
namespace Go.Proofs.YtngfappichkflaaGreat
open Go Go.Ab Go.RowKit
def c0:AV:=.sc (.int .i64 0)
def c1:AV:=.sc (.int .u64 1)
def c2:AV:=.sc (.string ⟨⟨ [99] ⟩⟩)
def c3:AV:=.sc (.string ⟨⟨ [102,110] ⟩⟩)
def c4:AV:=.sc (.string ⟨⟨ [65,110,110] ⟩⟩)
def c5:AV:=.sc (.int .i64 1)
def c6:AV:=.sc (.slice none 0 0)
def c7:AV:=.agg [c0,c1,c5,c2,c3,c4,c6]
def c8:AV:=.sc (.string ⟨⟨ [66,111,98] ⟩⟩)
def c9:AV:=.agg [c5,c1,c5,c2,c3,c8,c6]
def c10:AV:=.sc (.int .u64 2)
def c11:AV:=.sc (.string ⟨⟨ [116,101,108] ⟩⟩)
def c12:AV:=.sc (.string ⟨⟨ [53] ⟩⟩)
def c13:AV:=.agg [c0,c10,c5,c2,c11,c12,c6]
def c14:AV:=.ptr 1 0
def c15:Option AV:=some c6
def c16:Tree AV:=.node .leaf c15 .leaf
def c17:Tree AV:=.node c16 c15 .leaf
def c18:Tree AV:=.node c17 c15 c16
def c19:Tree AV:=.node c16 c15 c16
def c20:Tree AV:=.node c18 c15 c19
def c21:Tree AV:=.node c19 c15 c19
def qB:Tree AV:=.node c20 c15 c21
def c23:AV:=.sc (.int .u64 0)
def c24:Option AV:=some c23
def c25:Tree AV:=.node .leaf c24 .leaf
def c26:Tree AV:=.node c25 c24 c25
def c27:Tree AV:=.node c26 c24 c26
def c28:Tree AV:=.node c27 c24 c27
def jv:bX:=.row 32 (.node qB c24 c28) [] false 116 0
def uy:AV:=.ptr 4 0
def c31:AV:=.ptr 16 0
def c32:AV:=.agg [c0,c1]
def l5:AV:=.sc (.bool true)
def c34:AV:=.agg [c5,c1]
def iQ:bX:=.row 2 c17 [c6] false 111 0
def cZ:Option AV:=some c1
def c37:Tree AV:=.node .leaf cZ .leaf
def lu:bX:=.row 1 c37 [] true 25 0
def wX:Option AV:=some (.emp 10)
def c40:Tree AV:=.node .leaf wX .leaf
def di:AV:=.tup []
def c42:AV:=.ptr 4 2
def oK:bX:=.row 32 (.node qB cZ c28) [] false 116 0
def c44:AV:=.ptr 16 2
def j4:AV:=.sc (.bool false)
def c46:AV:=.slc 12 0 1 (.op 5)
def Om:Option AV:=some c3
def Ov:Tree AV:=.node .leaf Om .leaf
def c49:Option AV:=some c0
def c50:Option AV:=some c4
def c51:Tree AV:=.node .leaf c50 .leaf
def H8:Option AV:=some c2
def c53:bX:=.row 5 (.node (.node Ov cZ .leaf) c49 (.node c51 H8 .leaf)) [] true 40 0
def zw:AV:=.slc 14 0 1 (.op 5)
def vU:AV:=.sc (.int .i64 (-1))
def c56:Tree AV:=.node .leaf (some (.slc 54 0 1 (.op 1))) .leaf
def jL:Option AV:=some (.emp 54)
def c58:Tree AV:=.node .leaf jL .leaf
def c59:AV:=.ptr 62 0
def eZ:Tree AV:=.node c27 cZ c27
def dN:Option AV:=some c10
def U4:Tree AV:=.node .leaf dN .leaf
def fU:bX:=.row 1 U4 [] true 25 0
def c64:Option AV:=some (.emp 100)
def c65:AV:=.slc 57 0 1 (.op 5)
def U8:AV:=.slc 58 0 2 (.op 5)
def wh:Tree AV:=.node .leaf H8 .leaf
def c68:Option AV:=some c8
def Lb:Tree AV:=.node .leaf c68 .leaf
def c70:Option AV:=some c5
def sj:bX:=.row 10 (.node (.node (.node wh Om .leaf) cZ (.node Lb c70 .leaf)) c49 (.node (.node Ov c50 .leaf) H8 c37)) [] true 40 0
def c72:AV:=.slc 60 0 2 (.op 5)
def BH:Tree AV:=.node .leaf c70 .leaf
def c74:bX:=.row 2 (.node BH c49 .leaf) [c0] false 3 0
def c75:Tree AV:=.node .leaf c49 .leaf
def c76:AV:=.agg [c0,c10]
def c77:AV:=.slc 104 0 3 (.op 5)
def ZJ:Option AV:=some c11
def Sd:Tree AV:=.node .leaf ZJ .leaf
def c80:Tree AV:=.node .leaf (some c12) .leaf
def gU:bX:=.row 15 (.node (.node (.node wh Om U4) cZ (.node Lb c70 Sd)) c49 (.node (.node Ov c50 wh) H8 (.node c75 cZ c80))) [] true 40 0
def mR:AV:=.slc 106 0 3 (.op 5)
def c83:AV:=.slc 184 0 3 (.op 5)
def c84:AV:=.slc 187 0 3 (.op 5)
def c85:AV:=.sc (.string ⟨⟨ [49] ⟩⟩)
def c86:Option AV:=some c85
def c87:Tree AV:=.node .leaf c86 .leaf
def nS:AV:=.sc (.string ⟨⟨ [98] ⟩⟩)
def Ke:Option AV:=some nS
def tq:bX:=.row 5 (.node (.node Sd cZ .leaf) c49 (.node c87 Ke .leaf)) [] true 40 0
def c91:Tree AV:=.node .leaf Ke .leaf
def wZ:AV:=.sc (.string ⟨⟨ [97] ⟩⟩)
def c93:Option AV:=some wZ
def lJ:bX:=.row 10 (.node (.node (.node c91 Om .leaf) dN (.node c87 c49 .leaf)) c49 (.node (.node Sd Ke .leaf) c93 c37)) [] true 40 0
def c95:Option AV:=some vU
def c96:Tree AV:=.node .leaf c95 .leaf
def gM:AV:=.ptr 2 0
def c98:AV:=.slc 115 0 3 (.op 5)
def c99:AV:=.slc 154 0 3 (.op 5)
def ajP:AV:=.slc 215 0 3 (.op 5)
def akf:AV:=.slc 257 0 3 (.op 5)
def afj:AV:=.slc 70 0 1 (.op 5)
def ahB:Tree AV:=.node c91 c93 .leaf
def Dl:bX:=.row 5 (.node (.node Ov dN .leaf) c49 ahB) [] true 40 0
def c105:AV:=.slc 89 0 1 (.op 5)
def Cj:bX:=.row 5 (.node (.node Sd dN .leaf) c49 (.node c80 H8 .leaf)) [] true 40 0
def c107:AV:=.slc 128 0 1 (.op 5)
def aiS:AV:=.slc 123 0 2 (.op 5)
def c109:AV:=.slc 167 0 1 (.op 5)
def agl:AV:=.slc 162 0 2 (.op 5)
def akj:AV:=.slc 228 0 1 (.op 5)
def ajh:AV:=.slc 223 0 2 (.op 5)
def aky:AV:=.slc 270 0 1 (.op 5)
def aki:AV:=.slc 265 0 2 (.op 5)
def ah0:AV:=.slc 76 0 1 (.op 5)
def c116:AV:=.slc 94 0 1 (.op 5)
def c117:bX:=.row 1 wh [] true 9 0
def acp:bX:=.row 2 ahB [] true 9 0
def c119:AV:=.slc 182 0 1 (.op 3)
def FM:AV:=.sc (.int .i64 2)
def VJ:Option AV:=some FM
def aid:AV:=.sc (.string ⟨⟨ [66,79] ⟩⟩)
def RG:AV:=.sc (.string ⟨⟨ [98,111] ⟩⟩)
def c124:AV:=.sc (.string ⟨⟨ [98,111,98] ⟩⟩)
def Dj:AV:=.sc (.string ⟨⟨ [97,110] ⟩⟩)
def aaK:AV:=.agg [c0,c1,c5,nS,c11,c85,c6]
def c127:AV:=.agg [c0,c10,c5,wZ,c3,nS,c6]
def qm:AV:=.sc (.string ⟨⟨ [] ⟩⟩)
def ahs:AV:=.slc 112 0 1 (.op 5)
def c130:AV:=.slc 130 0 1 (.op 5)
def c131:AV:=.slc 118 0 1 (.op 5)
def ahr:AV:=.slc 135 0 1 (.op 5)
def aaH:AV:=.slc 145 0 2 (.op 5)
def PZ:AV:=.agg [c5,c1,c2,c3,c8]
def XL:AV:=.tup [PZ,l5]
def acA:AV:=.agg [c0,c10,c2,c11,c12]
def RX:AV:=.tup [acA,l5]
def c138:AV:=.agg [c0,c10,wZ,c3,nS]
def c139:AV:=.tup [c138,l5]
def Ws:AV:=.agg [c0,c1,nS,c11,c85]
def c141:AV:=.tup [Ws,l5]
def WC:AV:=.agg [c0,c1,c2,c3,c4]
def c143:AV:=.ptr 3 0
def yG:Tree AV:=.node Ov c70 c16
def c145:AV:=.ptr 15 0
def c146:AV:=.ptr 61 0
def Fj:Tree AV:=.node Sd c70 c16
def c148:Tree AV:=.node .leaf c93 .leaf
def afn:AV:=.slc 139 0 2 (.op 3)
def Pz:bX:=.row 6 (.node (.node Sd c68 BH) Om (.node c80 VJ .leaf)) [] true 64 0
def ag4:bX:=.row 3 (.node c91 Om BH) [] true 64 0
def c152:bX:=.row 3 (.node c87 ZJ BH) [] true 64 0
def ab5:AV:=.slc 102 0 2 (.op 3)
def c154:AV:=.tup [l5,c0]
def B1:Table:=[(11,[{args:=[c0,c1,c2,c3,c4],nx:=0,ans:=.val c7},{args:=[c5,c1,c2,c3,c8],nx:=0,ans:=.val c9},{args:=[c0,c10,c2,c11,c12],nx:=0,ans:=.val c13}]),(47,[{args:=[],ans:=.rows 1 c14 [(1,jv)] 2},{args:=[],ans:=.rows 4 uy [(4,jv)] 5},{args:=[],ans:=.rows 16 c31 [(16,jv)] 17}]),(69,[{args:=[c32],nx:=5,ans:=.val l5},{args:=[c34],nx:=17,ans:=.val l5}]),(70,[{args:=[c2,c3,c4],nx:=5,ans:=.val l5},{args:=[c2,c3,c8],nx:=17,ans:=.val l5}]),(91,[{args:=[(.slc 6 0 2 (.ex 2))],fp:=[(6,iQ)],nx:=7,ans:=.val c6},{args:=[(.slc 8 0 2 (.ex 2))],fp:=[(8,iQ)],nx:=9,ans:=.val c6},{args:=[(.slc 10 0 2 (.ex 2))],fp:=[(10,iQ)],nx:=11,ans:=.val c6},{args:=[(.slc 12 0 2 (.ex 2))],fp:=[(12,iQ)],nx:=13,ans:=.val c6},{args:=[(.slc 14 0 2 (.ex 2))],fp:=[(14,iQ)],nx:=15,ans:=.val c6},{args:=[(.slc 16 0 2 (.ex 2))],fp:=[(16,iQ)],nx:=17,ans:=.val c6},{args:=[(.slc 18 0 2 (.ex 2))],fp:=[(18,iQ)],nx:=19,ans:=.val c6},{args:=[(.slc 20 0 2 (.ex 2))],fp:=[(20,iQ)],nx:=21,ans:=.val c6},{args:=[(.slc 22 0 2 (.ex 2))],fp:=[(22,iQ)],nx:=23,ans:=.val c6},{args:=[(.slc 24 0 2 (.ex 2))],fp:=[(24,iQ)],nx:=25,ans:=.val c6},{args:=[(.slc 26 0 2 (.ex 2))],fp:=[(26,iQ)],nx:=27,ans:=.val c6},{args:=[(.slc 28 0 2 (.ex 2))],fp:=[(28,iQ)],nx:=29,ans:=.val c6},{args:=[(.slc 30 0 2 (.ex 2))],fp:=[(30,iQ)],nx:=31,ans:=.val c6},{args:=[(.slc 32 0 2 (.ex 2))],fp:=[(32,iQ)],nx:=33,ans:=.val c6},{args:=[(.slc 34 0 2 (.ex 2))],fp:=[(34,iQ)],nx:=35,ans:=.val c6},{args:=[(.slc 36 0 2 (.ex 2))],fp:=[(36,iQ)],nx:=37,ans:=.val c6},{args:=[(.slc 18 0 2 (.ex 2))],fp:=[(10,lu),(18,(.row 2 (.node c40 c15 .leaf) [c6] false 111 0))],nx:=19,ans:=.val c6}]),(92,[{args:=[c6],nx:=7,ans:=.val di}]),(93,[{args:=[c6],nx:=7,ans:=.val c6}]),(94,[{args:=[uy],fp:=[(4,jv)],nx:=7,ans:=.val di},{args:=[c42],fp:=[(4,jv)],nx:=9,ans:=.val di},{args:=[(.ptr 4 4)],fp:=[(4,jv)],nx:=11,ans:=.val di},{args:=[(.ptr 4 6)],fp:=[(4,jv)],nx:=13,ans:=.val di},{args:=[(.ptr 4 8)],fp:=[(4,jv)],nx:=15,ans:=.val di},{args:=[(.ptr 4 10)],fp:=[(4,jv)],nx:=17,ans:=.val di},{args:=[(.ptr 4 12)],fp:=[(4,jv)],nx:=19,ans:=.val di},{args:=[(.ptr 4 14)],fp:=[(4,jv)],nx:=21,ans:=.val di},{args:=[(.ptr 4 16)],fp:=[(4,jv)],nx:=23,ans:=.val di},{args:=[(.ptr 4 18)],fp:=[(4,jv)],nx:=25,ans:=.val di},{args:=[(.ptr 4 20)],fp:=[(4,jv)],nx:=27,ans:=.val di},{args:=[(.ptr 4 22)],fp:=[(4,jv)],nx:=29,ans:=.val di},{args:=[(.ptr 4 24)],fp:=[(4,jv)],nx:=31,ans:=.val di},{args:=[(.ptr 4 26)],fp:=[(4,jv)],nx:=33,ans:=.val di},{args:=[(.ptr 4 28)],fp:=[(4,jv)],nx:=35,ans:=.val di},{args:=[(.ptr 4 30)],fp:=[(4,jv)],nx:=37,ans:=.val di},{args:=[(.ptr 9 0)],fp:=[(10,lu),(9,(.row 2 (.node (.node .leaf (some (.slc 10 0 1 (.op 1))) .leaf) c24 .leaf) [c23,c6] false 113 0))],ans:=.rows 11 di [(9,(.row 2 (.node c40 cZ .leaf) [c23,c6] false 113 0))] 11},{args:=[c31],fp:=[(16,oK)],nx:=19,ans:=.val di},{args:=[c44],fp:=[(16,oK)],nx:=21,ans:=.val di},{args:=[(.ptr 16 4)],fp:=[(16,oK)],nx:=23,ans:=.val di},{args:=[(.ptr 16 6)],fp:=[(16,oK)],nx:=25,ans:=.val di},{args:=[(.ptr 16 8)],fp:=[(16,oK)],nx:=27,ans:=.val di},{args:=[(.ptr 16 10)],fp:=[(16,oK)],nx:=29,ans:=.val di},{args:=[(.ptr 16 12)],fp:=[(16,oK)],nx:=31,ans:=.val di},{args:=[(.ptr 16 14)],fp:=[(16,oK)],nx:=33,ans:=.val di}]),(73,[{args:=[c14,c1],fp:=[(1,jv)],nx:=12,ans:=.val j4}]),(46,[{args:=[c6],nx:=12,ans:=.val c6},{args:=[c46],fp:=[(12,c53)],ans:=.rows 13 zw [(14,c53)] 15}]),(74,[{args:=[c46,c0,c5,c5,(.fn (.func 53) [] [])],fp:=[(12,c53)],nx:=13,ans:=.val di}]),(77,[{args:=[c6,c32],nx:=17,ans:=.val vU}]),(57,[{args:=[uy,c14],fp:=[(1,jv),(10,lu),(4,(.row 32 (.node (.node c20 wX c21) cZ c28) [] false 116 0))],nx:=15,ans:=.val j4}])]
theorem b1:lc Tryz.prog ext T0 100000 200 B1=true:=by kernel_rfl
def T1:Table:=B1++T0
theorem t1:jC Tryz.prog Iv T1:=t0.add Fp mixed b1
def B2:Table:=[(94,[{args:=[(.ptr 16 16)],fp:=[(16,oK)],nx:=35,ans:=.val di},{args:=[(.ptr 16 18)],fp:=[(16,oK)],nx:=37,ans:=.val di},{args:=[(.ptr 16 20)],fp:=[(16,oK)],nx:=39,ans:=.val di},{args:=[(.ptr 16 22)],fp:=[(16,oK)],nx:=41,ans:=.val di},{args:=[(.ptr 16 24)],fp:=[(16,oK)],nx:=43,ans:=.val di},{args:=[(.ptr 16 26)],fp:=[(16,oK)],nx:=45,ans:=.val di},{args:=[(.ptr 16 28)],fp:=[(16,oK)],nx:=47,ans:=.val di},{args:=[(.ptr 16 30)],fp:=[(16,oK)],nx:=49,ans:=.val di},{args:=[(.ptr 53 0)],fp:=[(54,lu),(53,(.row 2 (.node c56 c24 .leaf) [c23,c6] false 113 0))],ans:=.rows 55 di [(53,(.row 2 (.node c58 cZ .leaf) [c23,c6] false 113 0))] 55},{args:=[c59],fp:=[(62,oK)],nx:=65,ans:=.val di},{args:=[(.ptr 62 2)],fp:=[(62,(.row 32 (.node qB cZ eZ) [] false 116 0))],nx:=67,ans:=.val di},{args:=[(.ptr 62 4)],fp:=[(62,(.row 32 (.node qB cZ eZ) [] false 116 0))],nx:=69,ans:=.val di},{args:=[(.ptr 62 6)],fp:=[(62,(.row 32 (.node qB cZ eZ) [] false 116 0))],nx:=71,ans:=.val di},{args:=[(.ptr 62 8)],fp:=[(62,(.row 32 (.node qB cZ eZ) [] false 116 0))],nx:=73,ans:=.val di},{args:=[(.ptr 62 10)],fp:=[(62,(.row 32 (.node qB cZ eZ) [] false 116 0))],nx:=75,ans:=.val di},{args:=[(.ptr 62 12)],fp:=[(62,(.row 32 (.node qB cZ eZ) [] false 116 0))],nx:=77,ans:=.val di},{args:=[(.ptr 62 14)],fp:=[(62,(.row 32 (.node qB cZ eZ) [] false 116 0))],nx:=79,ans:=.val di},{args:=[(.ptr 62 16)],fp:=[(62,(.row 32 (.node qB cZ eZ) [] false 116 0))],nx:=81,ans:=.val di},{args:=[(.ptr 62 18)],fp:=[(62,(.row 32 (.node qB cZ eZ) [] false 116 0))],nx:=83,ans:=.val di},{args:=[(.ptr 62 20)],fp:=[(62,(.row 32 (.node qB cZ eZ) [] false 116 0))],nx:=85,ans:=.val di},{args:=[(.ptr 62 22)],fp:=[(62,(.row 32 (.node qB cZ eZ) [] false 116 0))],nx:=87,ans:=.val di},{args:=[(.ptr 62 24)],fp:=[(62,(.row 32 (.node qB cZ eZ) [] false 116 0))],nx:=89,ans:=.val di},{args:=[(.ptr 62 26)],fp:=[(62,(.row 32 (.node qB cZ eZ) [] false 116 0))],nx:=91,ans:=.val di},{args:=[(.ptr 62 28)],fp:=[(62,(.row 32 (.node qB cZ eZ) [] false 116 0))],nx:=93,ans:=.val di},{args:=[(.ptr 62 30)],fp:=[(62,(.row 32 (.node qB cZ eZ) [] false 116 0))],nx:=95,ans:=.val di},{args:=[(.ptr 99 0)],fp:=[(100,fU),(99,(.row 2 (.node (.node .leaf (some (.slc 100 0 1 (.op 1))) .leaf) cZ .leaf) [c23,c6] false 113 0))],ans:=.rows 101 di [(99,(.row 2 (.node (.node .leaf c64 .leaf) dN .leaf) [c23,c6] false 113 0))] 101}]),(91,[{args:=[(.slc 38 0 2 (.ex 2))],fp:=[(38,iQ)],nx:=39,ans:=.val c6},{args:=[(.slc 40 0 2 (.ex 2))],fp:=[(40,iQ)],nx:=41,ans:=.val c6},{args:=[(.slc 42 0 2 (.ex 2))],fp:=[(42,iQ)],nx:=43,ans:=.val c6},{args:=[(.slc 44 0 2 (.ex 2))],fp:=[(44,iQ)],nx:=45,ans:=.val c6},{args:=[(.slc 46 0 2 (.ex 2))],fp:=[(46,iQ)],nx:=47,ans:=.val c6},{args:=[(.slc 48 0 2 (.ex 2))],fp:=[(48,iQ)],nx:=49,ans:=.val c6},{args:=[(.slc 64 0 2 (.ex 2))],fp:=[(64,iQ)],nx:=65,ans:=.val c6},{args:=[(.slc 66 0 2 (.ex 2))],fp:=[(54,lu),(66,(.row 2 (.node c58 c15 .leaf) [c6] false 111 0))],nx:=67,ans:=.val c6},{args:=[(.slc 68 0 2 (.ex 2))],fp:=[(68,iQ)],nx:=69,ans:=.val c6},{args:=[(.slc 70 0 2 (.ex 2))],fp:=[(70,iQ)],nx:=71,ans:=.val c6},{args:=[(.slc 72 0 2 (.ex 2))],fp:=[(72,iQ)],nx:=73,ans:=.val c6},{args:=[(.slc 74 0 2 (.ex 2))],fp:=[(74,iQ)],nx:=75,ans:=.val c6},{args:=[(.slc 76 0 2 (.ex 2))],fp:=[(76,iQ)],nx:=77,ans:=.val c6},{args:=[(.slc 78 0 2 (.ex 2))],fp:=[(78,iQ)],nx:=79,ans:=.val c6},{args:=[(.slc 80 0 2 (.ex 2))],fp:=[(80,iQ)],nx:=81,ans:=.val c6},{args:=[(.slc 82 0 2 (.ex 2))],fp:=[(82,iQ)],nx:=83,ans:=.val c6},{args:=[(.slc 84 0 2 (.ex 2))],fp:=[(84,iQ)],nx:=85,ans:=.val c6},{args:=[(.slc 86 0 2 (.ex 2))],fp:=[(86,iQ)],nx:=87,ans:=.val c6},{args:=[(.slc 88 0 2 (.ex 2))],fp:=[(88,iQ)],nx:=89,ans:=.val c6},{args:=[(.slc 90 0 2 (.ex 2))],fp:=[(90,iQ)],nx:=91,ans:=.val c6},{args:=[(.slc 92 0 2 (.ex 2))],fp:=[(92,iQ)],nx:=93,ans:=.val c6},{args:=[(.slc 94 0 2 (.ex 2))],fp:=[(94,iQ)],nx:=95,ans:=.val c6}]),(73,[{args:=[c42,c1],fp:=[(10,lu),(4,(.row 32 (.node (.node c20 wX c21) cZ c28) [] false 116 0))],nx:=56,ans:=.val j4}]),(46,[{args:=[zw],fp:=[(14,c53)],ans:=.rows 56 c65 [(57,c53)] 58},{args:=[U8],fp:=[(58,sj)],ans:=.rows 59 c72 [(60,sj)] 61}]),(36,[{args:=[c2,c2],nx:=61,ans:=.val c0},{args:=[c3,c3],nx:=61,ans:=.val c0}]),(35,[{args:=[(.slc 63 0 2 (.ex 2))],fp:=[(63,c74)],nx:=64,ans:=.val c5},{args:=[(.slc 61 0 3 (.ex 3))],fp:=[(61,(.row 3 (.node c75 c49 BH) [c0] false 3 0))],nx:=62,ans:=.val c5}]),(77,[{args:=[c6,c34],nx:=63,ans:=.val vU}]),(57,[{args:=[c31,uy],fp:=[(10,lu),(4,(.row 32 (.node (.node c20 wX c21) cZ c28) [] false 116 0)),(54,lu),(16,(.row 32 (.node (.node (.node c18 jL c19) c15 c21) cZ eZ) [] false 116 0))],nx:=61,ans:=.val j4}]),(69,[{args:=[c76],nx:=63,ans:=.val l5}]),(70,[{args:=[c2,c11,c12],nx:=63,ans:=.val l5}]),(47,[{args:=[],ans:=.rows 62 c59 [(62,jv)] 63}])]
theorem b2:lc Tryz.prog ext T1 100000 200 B2=true:=by kernel_rfl
def T2:Table:=B2++T1
theorem t2:jC Tryz.prog Iv T2:=t1.add Fp mixed b2
def B3:Table:=[(73,[{args:=[c31,c10],fp:=[(54,lu),(16,(.row 32 (.node (.node (.node c18 jL c19) c15 c21) cZ eZ) [] false 116 0))],nx:=102,ans:=.val j4},{args:=[uy,c10],fp:=[(10,lu),(4,(.row 32 (.node (.node c20 wX c21) cZ c28) [] false 116 0))],nx:=56,ans:=.val j4}]),(46,[{args:=[c72],fp:=[(60,sj)],ans:=.rows 102 (.slc 103 0 2 (.op 5)) [(103,sj)] 104},{args:=[c77],fp:=[(104,gU)],ans:=.rows 105 mR [(106,gU)] 107},{args:=[mR],fp:=[(106,gU)],ans:=.rows 183 c83 [(184,gU)] 185},{args:=[mR],fp:=[(106,gU)],ans:=.rows 186 c84 [(187,gU)] 188},{args:=[c46],fp:=[(12,tq)],ans:=.rows 13 zw [(14,tq)] 15},{args:=[zw],fp:=[(14,tq)],ans:=.rows 56 c65 [(57,tq)] 58},{args:=[U8],fp:=[(58,lJ)],ans:=.rows 59 c72 [(60,lJ)] 61}]),(36,[{args:=[c11,c3],nx:=107,ans:=.val c5},{args:=[wZ,nS],nx:=61,ans:=.val vU},{args:=[c3,c11],nx:=61,ans:=.val vU},{args:=[nS,nS],nx:=105,ans:=.val c0}]),(35,[{args:=[(.slc 109 0 2 (.ex 2))],fp:=[(109,(.row 2 (.node c96 c70 .leaf) [c0] false 3 0))],nx:=110,ans:=.val c5},{args:=[(.slc 107 0 3 (.ex 3))],fp:=[(107,(.row 3 (.node BH c49 BH) [c0] false 3 0))],nx:=108,ans:=.val c5},{args:=[(.slc 63 0 2 (.ex 2))],fp:=[(63,(.row 2 (.node c75 c70 .leaf) [c0] false 3 0))],nx:=64,ans:=.val c5},{args:=[(.slc 61 0 3 (.ex 3))],fp:=[(61,(.row 3 (.node c96 c95 BH) [c0] false 3 0))],nx:=62,ans:=.val vU}]),(77,[{args:=[c6,c76],nx:=109,ans:=.val vU}]),(57,[{args:=[c59,c31],fp:=[(54,lu),(16,(.row 32 (.node (.node (.node c18 jL c19) c15 c21) cZ eZ) [] false 116 0)),(100,fU),(62,(.row 32 (.node (.node c20 c64 c21) dN eZ) [] false 116 0))],nx:=107,ans:=.val j4},{args:=[c31,uy],fp:=[(10,lu),(4,(.row 32 (.node (.node c20 wX c21) cZ c28) [] false 116 0)),(54,fU),(16,(.row 32 (.node (.node c20 jL c21) dN c28) [] false 116 0))],nx:=61,ans:=.val j4}]),(61,[{args:=[gM,c2],fp:=[(106,gU),(100,fU),(62,(.row 32 (.node (.node c20 c64 c21) dN eZ) [] false 116 0)),(2,(.row 2 (.node (.node .leaf (some mR) .leaf) (some c59) .leaf) [] false 91 0))],ans:=.rows 107 c98 [(115,gU)] 116},{args:=[gM,c2],fp:=[(106,gU),(100,fU),(62,(.row 32 (.node (.node c20 c64 c21) dN eZ) [] false 116 0)),(2,(.row 2 (.node (.node .leaf (some mR) .leaf) (some c59) .leaf) [] false 91 0))],ans:=.rows 146 c99 [(154,gU)] 155},{args:=[gM,c2],fp:=[(106,gU),(100,fU),(62,(.row 32 (.node (.node c20 c64 c21) dN eZ) [] false 116 0)),(2,(.row 2 (.node (.node .leaf (some mR) .leaf) (some c59) .leaf) [] false 91 0))],ans:=.rows 207 ajP [(215,gU)] 216},{args:=[gM,c2],fp:=[(106,gU),(100,fU),(62,(.row 32 (.node (.node c20 c64 c21) dN eZ) [] false 116 0)),(2,(.row 2 (.node (.node .leaf (some mR) .leaf) (some c59) .leaf) [] false 91 0))],ans:=.rows 249 akf [(257,gU)] 258},{args:=[gM,(.sc (.string ⟨⟨ [120] ⟩⟩))],fp:=[(60,lJ),(54,fU),(16,(.row 32 (.node (.node c20 jL c21) dN c28) [] false 116 0)),(2,(.row 2 (.node (.node .leaf (some c72) .leaf) (some c31) .leaf) [] false 91 0))],nx:=61,ans:=.val c6},{args:=[gM,wZ],fp:=[(60,lJ),(54,fU),(16,(.row 32 (.node (.node c20 jL c21) dN c28) [] false 116 0)),(2,(.row 2 (.node (.node .leaf (some c72) .leaf) (some c31) .leaf) [] false 91 0))],ans:=.rows 68 afj [(70,Dl)] 72},{args:=[gM,nS],fp:=[(60,lJ),(54,fU),(16,(.row 32 (.node (.node c20 jL c21) dN c28) [] false 116 0)),(2,(.row 2 (.node (.node .leaf (some c72) .leaf) (some c31) .leaf) [] false 91 0))],ans:=.rows 86 c105 [(89,tq)] 90}]),(40,[{args:=[c98],fp:=[(115,gU)],ans:=.rows 116 (.slc 126 0 2 (.op 1)) [(128,Cj),(123,sj),(126,(.row 2 (.node (.node .leaf (some c107) .leaf) (some aiS) .leaf) [] true 47 0))] 129},{args:=[c99],fp:=[(154,gU)],ans:=.rows 155 (.slc 165 0 2 (.op 1)) [(167,Cj),(162,sj),(165,(.row 2 (.node (.node .leaf (some c109) .leaf) (some agl) .leaf) [] true 47 0))] 168},{args:=[c84],fp:=[(187,gU)],ans:=.rows 188 (.slc 198 0 2 (.op 1)) [(200,Cj),(195,sj),(198,(.row 2 (.node (.node .leaf (some (.slc 200 0 1 (.op 5))) .leaf) (some (.slc 195 0 2 (.op 5))) .leaf) [] true 47 0))] 201},{args:=[ajP],fp:=[(215,gU)],ans:=.rows 216 (.slc 226 0 2 (.op 1)) [(228,Cj),(223,sj),(226,(.row 2 (.node (.node .leaf (some akj) .leaf) (some ajh) .leaf) [] true 47 0))] 229},{args:=[akf],fp:=[(257,gU)],ans:=.rows 258 (.slc 268 0 2 (.op 1)) [(270,Cj),(265,sj),(268,(.row 2 (.node (.node .leaf (some aky) .leaf) (some aki) .leaf) [] true 47 0))] 271},{args:=[c6],nx:=61,ans:=.val c6},{args:=[afj],fp:=[(70,Dl)],ans:=.rows 72 (.slc 74 0 1 (.op 1)) [(76,Dl),(74,(.row 1 (.node .leaf (some ah0) .leaf) [] true 47 0))] 77},{args:=[c105],fp:=[(89,tq)],ans:=.rows 90 (.slc 92 0 1 (.op 1)) [(94,tq),(92,(.row 1 (.node .leaf (some c116) .leaf) [] true 47 0))] 95}]),(37,[{args:=[c32,c32],nx:=132,ans:=.val j4},{args:=[c32,c34],nx:=133,ans:=.val l5},{args:=[c76,c76],nx:=138,ans:=.val j4},{args:=[c34,c76],nx:=190,ans:=.val l5}]),(26,[{args:=[gM],fp:=[(106,gU),(100,fU),(62,(.row 32 (.node (.node c20 c64 c21) dN eZ) [] false 116 0)),(2,(.row 2 (.node (.node .leaf (some mR) .leaf) (some c59) .leaf) [] false 91 0))],ans:=.rows 140 (.slc 142 0 1 (.op 1)) [(142,c117)] 145},{args:=[gM],fp:=[(106,gU),(100,fU),(62,(.row 32 (.node (.node c20 c64 c21) dN eZ) [] false 116 0)),(2,(.row 2 (.node (.node .leaf (some mR) .leaf) (some c59) .leaf) [] false 91 0))],ans:=.rows 202 (.slc 204 0 1 (.op 1)) [(204,c117)] 207},{args:=[gM],fp:=[(106,gU),(100,fU),(62,(.row 32 (.node (.node c20 c64 c21) dN eZ) [] false 116 0)),(2,(.row 2 (.node (.node .leaf (some mR) .leaf) (some c59) .leaf) [] false 91 0))],ans:=.rows 244 (.slc 246 0 1 (.op 1)) [(246,c117)] 249},{args:=[gM],fp:=[(60,lJ),(54,fU),(16,(.row 32 (.node (.node c20 jL c21) dN c28) [] false 116 0)),(2,(.row 2 (.node (.node .leaf (some c72) .leaf) (some c31) .leaf) [] false 91 0))],ans:=.rows 61 (.slc 66 0 2 (.op 1)) [(66,acp)] 67}]),(62,[{args:=[c119,c0,c5,c5,(.fn (.func 34) [] [])],fp:=[(182,(.row 3 (.node Lb H8 (.node .leaf VJ .leaf)) [] true 44 0))],nx:=183,ans:=.val di}]),(38,[{args:=[aid],nx:=202,ans:=.val RG},{args:=[c2],nx:=207,ans:=.val c2},{args:=[c8],nx:=241,ans:=.val c124},{args:=[Dj],nx:=244,ans:=.val Dj},{args:=[c12],nx:=284,ans:=.val c12}]),(65,[{args:=[c2,RG],nx:=207,ans:=.val vU},{args:=[c124,RG],nx:=241,ans:=.val c0},{args:=[c2,Dj],nx:=249,ans:=.val vU},{args:=[c124,Dj],nx:=283,ans:=.val vU},{args:=[c12,Dj],nx:=284,ans:=.val vU}]),(11,[{args:=[c0,c1,nS,c11,c85],nx:=0,ans:=.val aaK},{args:=[c0,c10,wZ,c3,nS],nx:=0,ans:=.val c127}]),(70,[{args:=[nS,c11,c85],nx:=5,ans:=.val l5},{args:=[wZ,c3,nS],nx:=17,ans:=.val l5}]),(74,[{args:=[c46,c0,c5,c5,(.fn (.func 53) [] [])],fp:=[(12,tq)],nx:=13,ans:=.val di}]),(94,[{args:=[(.ptr 53 0)],fp:=[(54,fU),(53,(.row 2 (.node c56 cZ .leaf) [c23,c6] false 113 0))],ans:=.rows 55 di [(53,(.row 2 (.node c58 dN .leaf) [c23,c6] false 113 0))] 55}])]
theorem b3:lc Tryz.prog ext T2 100000 200 B3=true:=by kernel_rfl
def T3:Table:=B3++T2
theorem t3:jC Tryz.prog Iv T3:=t2.add Fp mixed b3
def B4:Table:=[(36,[{args:=[nS,wZ],nx:=105,ans:=.val c5}]),(35,[{args:=[(.slc 105 0 2 (.ex 2))],fp:=[(105,c74)],nx:=106,ans:=.val c5}]),(14,[{args:=[c6],nx:=103,ans:=.val (.tup [(.agg [c0,c23,qm,qm,qm]),j4])}]),(38,[{args:=[qm],nx:=104,ans:=.val qm},{args:=[wZ],nx:=110,ans:=.val wZ},{args:=[nS],nx:=127,ans:=.val nS}]),(26,[{args:=[gM],fp:=[(60,lJ),(54,fU),(16,(.row 32 (.node (.node c20 jL c21) dN c28) [] false 116 0)),(2,(.row 2 (.node (.node .leaf (some c72) .leaf) (some c31) .leaf) [] false 91 0))],ans:=.rows 104 (.slc 109 0 2 (.op 1)) [(109,acp)] 110}]),(65,[{args:=[wZ,qm],nx:=110,ans:=.val c0},{args:=[nS,qm],nx:=127,ans:=.val c0}]),(61,[{args:=[gM,wZ],fp:=[(60,lJ),(54,fU),(16,(.row 32 (.node (.node c20 jL c21) dN c28) [] false 116 0)),(2,(.row 2 (.node (.node .leaf (some c72) .leaf) (some c31) .leaf) [] false 91 0))],ans:=.rows 110 ahs [(112,Dl)] 114},{args:=[gM,nS],fp:=[(60,lJ),(54,fU),(16,(.row 32 (.node (.node c20 jL c21) dN c28) [] false 116 0)),(2,(.row 2 (.node (.node .leaf (some c72) .leaf) (some c31) .leaf) [] false 91 0))],ans:=.rows 127 c130 [(130,tq)] 131}]),(40,[{args:=[ahs],fp:=[(112,Dl)],ans:=.rows 114 (.slc 116 0 1 (.op 1)) [(118,Dl),(116,(.row 1 (.node .leaf (some c131) .leaf) [] true 47 0))] 119},{args:=[c130],fp:=[(130,tq)],ans:=.rows 131 (.slc 133 0 1 (.op 1)) [(135,tq),(133,(.row 1 (.node .leaf (some ahr) .leaf) [] true 47 0))] 136},{args:=[aaH],fp:=[(145,lJ)],ans:=.rows 146 (.slc 153 0 2 (.op 1)) [(155,tq),(150,Dl),(153,(.row 2 (.node (.node .leaf (some (.slc 155 0 1 (.op 5))) .leaf) (some (.slc 150 0 1 (.op 5))) .leaf) [] true 47 0))] 156}]),(46,[{args:=[c72],fp:=[(60,lJ)],ans:=.rows 144 aaH [(145,lJ)] 146}])]
theorem b4:lc Tryz.prog ext T3 100000 200 B4=true:=by kernel_rfl
def T4:Table:=B4++T3
theorem t4:jC Tryz.prog Iv T4:=t3.add Fp mixed b4
def B5:Table:=[(29,[{args:=[],ans:=.rows 1 gM [(1,jv),(2,(.row 2 (.node c16 (some c14) .leaf) [] false 91 0))] 3}]),(48,[{args:=[c7],nx:=4,ans:=.val l5},{args:=[c9],nx:=16,ans:=.val l5},{args:=[c13],nx:=62,ans:=.val l5},{args:=[aaK],nx:=4,ans:=.val l5},{args:=[c127],nx:=16,ans:=.val l5}]),(71,[{args:=[uy,c14],fp:=[(1,jv),(4,jv)],nx:=5,ans:=.val di},{args:=[c31,uy],fp:=[(10,lu),(4,(.row 32 (.node (.node c20 wX c21) cZ c28) [] false 116 0)),(16,jv)],ans:=.rows 17 di [(16,oK)] 49},{args:=[c59,c31],fp:=[(54,lu),(16,(.row 32 (.node (.node (.node c18 jL c19) c15 c21) cZ eZ) [] false 116 0)),(62,jv)],ans:=.rows 63 di [(62,(.row 32 (.node qB cZ eZ) [] false 116 0))] 95}]),(72,[{args:=[uy,c1],fp:=[(4,jv)],ans:=.rows 8 l5 [(10,lu),(4,(.row 32 (.node (.node c20 wX c21) cZ c28) [] false 116 0))] 11},{args:=[c44,c1],fp:=[(16,oK)],ans:=.rows 52 l5 [(54,lu),(16,(.row 32 (.node (.node (.node c18 jL c19) c15 c21) cZ eZ) [] false 116 0))] 55},{args:=[c59,c10],fp:=[(62,(.row 32 (.node qB cZ eZ) [] false 116 0))],ans:=.rows 98 l5 [(100,fU),(62,(.row 32 (.node (.node c20 c64 c21) dN eZ) [] false 116 0))] 101},{args:=[c31,c10],fp:=[(16,oK)],ans:=.rows 52 l5 [(54,fU),(16,(.row 32 (.node (.node c20 jL c21) dN c28) [] false 116 0))] 55}]),(51,[{args:=[c14,c32],fp:=[(1,jv)],nx:=11,ans:=.val j4},{args:=[uy,c34],fp:=[(10,lu),(4,(.row 32 (.node (.node c20 wX c21) cZ c28) [] false 116 0))],nx:=55,ans:=.val j4},{args:=[c31,c76],fp:=[(54,lu),(16,(.row 32 (.node (.node (.node c18 jL c19) c15 c21) cZ eZ) [] false 116 0))],nx:=101,ans:=.val j4},{args:=[uy,c76],fp:=[(10,lu),(4,(.row 32 (.node (.node c20 wX c21) cZ c28) [] false 116 0))],nx:=55,ans:=.val j4}]),(52,[{args:=[c46,(.fn (.func 53) [] [])],fp:=[(12,c53)],nx:=13,ans:=.val di},{args:=[c46,(.fn (.func 53) [] [])],fp:=[(12,tq)],nx:=13,ans:=.val di}]),(56,[{args:=[c6,c32],nx:=16,ans:=.val j4},{args:=[c6,c34],nx:=62,ans:=.val j4},{args:=[c6,c76],nx:=108,ans:=.val j4}]),(75,[{args:=[c34,c32],nx:=61,ans:=.val c5},{args:=[c76,c34],nx:=107,ans:=.val c5},{args:=[c76,c32],nx:=61,ans:=.val c5}]),(14,[{args:=[aiS],fp:=[(123,sj)],nx:=129,ans:=.val XL},{args:=[c107],fp:=[(128,Cj)],nx:=135,ans:=.val RX},{args:=[agl],fp:=[(162,sj)],nx:=168,ans:=.val XL},{args:=[c109],fp:=[(167,Cj)],nx:=174,ans:=.val RX},{args:=[c83],fp:=[(184,gU)],nx:=185,ans:=.val RX},{args:=[ajh],fp:=[(223,sj)],nx:=229,ans:=.val XL},{args:=[akj],fp:=[(228,Cj)],nx:=235,ans:=.val RX},{args:=[aki],fp:=[(265,sj)],nx:=271,ans:=.val XL},{args:=[aky],fp:=[(270,Cj)],nx:=277,ans:=.val RX},{args:=[ah0],fp:=[(76,Dl)],nx:=77,ans:=.val c139},{args:=[c116],fp:=[(94,tq)],nx:=95,ans:=.val c141},{args:=[c131],fp:=[(118,Dl)],nx:=119,ans:=.val c139},{args:=[ahr],fp:=[(135,tq)],nx:=136,ans:=.val c141}]),(33,[{args:=[c119,(.fn (.func 34) [] [])],fp:=[(182,(.row 3 (.node Lb H8 (.node .leaf VJ .leaf)) [] true 44 0))],nx:=183,ans:=.val di}]),(27,[{args:=[gM],fp:=[(106,gU),(100,fU),(62,(.row 32 (.node (.node c20 c64 c21) dN eZ) [] false 116 0)),(2,(.row 2 (.node (.node .leaf (some mR) .leaf) (some c59) .leaf) [] false 91 0))],ans:=.rows 183 c83 [(184,gU)] 185},{args:=[gM],fp:=[(106,gU),(100,fU),(62,(.row 32 (.node (.node c20 c64 c21) dN eZ) [] false 116 0)),(2,(.row 2 (.node (.node .leaf (some mR) .leaf) (some c59) .leaf) [] false 91 0))],ans:=.rows 186 c84 [(187,gU)] 188},{args:=[gM],fp:=[(60,lJ),(54,fU),(16,(.row 32 (.node (.node c20 jL c21) dN c28) [] false 116 0)),(2,(.row 2 (.node (.node .leaf (some c72) .leaf) (some c31) .leaf) [] false 91 0))],ans:=.rows 144 aaH [(145,lJ)] 146}]),(39,[{args:=[c2,RG],nx:=207,ans:=.val j4},{args:=[c124,RG],nx:=241,ans:=.val l5},{args:=[c2,Dj],nx:=249,ans:=.val j4},{args:=[c124,Dj],nx:=283,ans:=.val j4},{args:=[c12,Dj],nx:=284,ans:=.val j4},{args:=[wZ,qm],nx:=110,ans:=.val l5},{args:=[nS,qm],nx:=127,ans:=.val l5}]),(32,[{args:=[gM,(.sc (.string ⟨⟨ [120] ⟩⟩))],fp:=[(60,lJ),(54,fU),(16,(.row 32 (.node (.node c20 jL c21) dN c28) [] false 116 0)),(2,(.row 2 (.node (.node .leaf (some c72) .leaf) (some c31) .leaf) [] false 91 0))],nx:=61,ans:=.val c6}]),(34,[{args:=[(.agg [nS,nS,c5]),(.agg [wZ,nS,c5])],nx:=103,ans:=.val c5}])]
theorem b5:lc Tryz.prog ext T4 100000 200 B5=true:=by kernel_rfl
def T5:Table:=B5++T4
theorem t5:jC Tryz.prog Iv T5:=t4.add Fp mixed b5
def B6:Table:=[(49,[{args:=[c14],fp:=[(1,jv)],ans:=.rows 4 uy [(4,jv)] 5},{args:=[uy],fp:=[(10,lu),(4,(.row 32 (.node (.node c20 wX c21) cZ c28) [] false 116 0))],ans:=.rows 16 c31 [(16,oK)] 49},{args:=[c31],fp:=[(54,lu),(16,(.row 32 (.node (.node (.node c18 jL c19) c15 c21) cZ eZ) [] false 116 0))],ans:=.rows 62 c59 [(62,(.row 32 (.node qB cZ eZ) [] false 116 0))] 95}]),(50,[{args:=[uy,c32],fp:=[(4,jv)],ans:=.rows 7 c0 [(10,lu),(4,(.row 32 (.node (.node c20 wX c21) cZ c28) [] false 116 0))] 11},{args:=[c31,c34],fp:=[(16,oK)],ans:=.rows 51 c0 [(54,lu),(16,(.row 32 (.node (.node (.node c18 jL c19) c15 c21) cZ eZ) [] false 116 0))] 55},{args:=[c59,c76],fp:=[(62,(.row 32 (.node qB cZ eZ) [] false 116 0))],ans:=.rows 97 c0 [(100,fU),(62,(.row 32 (.node (.node c20 c64 c21) dN eZ) [] false 116 0))] 101},{args:=[c31,c76],fp:=[(16,oK)],ans:=.rows 51 c0 [(54,fU),(16,(.row 32 (.node (.node c20 jL c21) dN c28) [] false 116 0))] 55}]),(55,[{args:=[WC,c143],fp:=[(3,(.row 7 (.node (.node wh cZ c51) c49 yG) [] false 30 0))],nx:=15,ans:=.val j4},{args:=[WC,c145],fp:=[(15,(.row 7 (.node (.node wh cZ Lb) c70 yG) [] false 30 0))],nx:=61,ans:=.val j4},{args:=[PZ,c145],fp:=[(15,(.row 7 (.node (.node wh cZ Lb) c70 yG) [] false 30 0))],nx:=61,ans:=.val j4},{args:=[WC,c146],fp:=[(61,(.row 7 (.node (.node wh dN c80) c49 Fj) [] false 30 0))],nx:=107,ans:=.val j4},{args:=[PZ,c146],fp:=[(61,(.row 7 (.node (.node wh dN c80) c49 Fj) [] false 30 0))],nx:=107,ans:=.val j4},{args:=[acA,c146],fp:=[(61,(.row 7 (.node (.node wh dN c80) c49 Fj) [] false 30 0))],nx:=107,ans:=.val j4},{args:=[Ws,c143],fp:=[(3,(.row 7 (.node (.node c91 cZ c87) c49 Fj) [] false 30 0))],nx:=15,ans:=.val j4},{args:=[c138,c145],fp:=[(15,(.row 7 (.node (.node c148 dN c91) c49 yG) [] false 30 0))],nx:=61,ans:=.val j4},{args:=[Ws,c145],fp:=[(15,(.row 7 (.node (.node c148 dN c91) c49 yG) [] false 30 0))],nx:=61,ans:=.val j4}]),(53,[{args:=[PZ,WC],nx:=59,ans:=.val c5},{args:=[acA,PZ],nx:=105,ans:=.val c5},{args:=[c138,Ws],nx:=59,ans:=.val vU}]),(32,[{args:=[gM,c2],fp:=[(106,gU),(100,fU),(62,(.row 32 (.node (.node c20 c64 c21) dN eZ) [] false 116 0)),(2,(.row 2 (.node (.node .leaf (some mR) .leaf) (some c59) .leaf) [] false 91 0))],ans:=.rows 107 afn [(139,Pz)] 140},{args:=[gM,c2],fp:=[(106,gU),(100,fU),(62,(.row 32 (.node (.node c20 c64 c21) dN eZ) [] false 116 0)),(2,(.row 2 (.node (.node .leaf (some mR) .leaf) (some c59) .leaf) [] false 91 0))],ans:=.rows 146 (.slc 178 0 2 (.op 3)) [(178,Pz)] 179},{args:=[gM,c2],fp:=[(106,gU),(100,fU),(62,(.row 32 (.node (.node c20 c64 c21) dN eZ) [] false 116 0)),(2,(.row 2 (.node (.node .leaf (some mR) .leaf) (some c59) .leaf) [] false 91 0))],ans:=.rows 207 (.slc 239 0 2 (.op 3)) [(239,Pz)] 240},{args:=[gM,c2],fp:=[(106,gU),(100,fU),(62,(.row 32 (.node (.node c20 c64 c21) dN eZ) [] false 116 0)),(2,(.row 2 (.node (.node .leaf (some mR) .leaf) (some c59) .leaf) [] false 91 0))],ans:=.rows 249 (.slc 281 0 2 (.op 3)) [(281,Pz)] 282},{args:=[gM,wZ],fp:=[(60,lJ),(54,fU),(16,(.row 32 (.node (.node c20 jL c21) dN c28) [] false 116 0)),(2,(.row 2 (.node (.node .leaf (some c72) .leaf) (some c31) .leaf) [] false 91 0))],ans:=.rows 68 (.slc 81 0 1 (.op 3)) [(81,ag4)] 82},{args:=[gM,nS],fp:=[(60,lJ),(54,fU),(16,(.row 32 (.node (.node c20 jL c21) dN c28) [] false 116 0)),(2,(.row 2 (.node (.node .leaf (some c72) .leaf) (some c31) .leaf) [] false 91 0))],ans:=.rows 86 (.slc 99 0 1 (.op 3)) [(99,c152)] 100},{args:=[gM,wZ],fp:=[(60,lJ),(54,fU),(16,(.row 32 (.node (.node c20 jL c21) dN c28) [] false 116 0)),(2,(.row 2 (.node (.node .leaf (some c72) .leaf) (some c31) .leaf) [] false 91 0))],ans:=.rows 110 (.slc 123 0 1 (.op 3)) [(123,ag4)] 124},{args:=[gM,nS],fp:=[(60,lJ),(54,fU),(16,(.row 32 (.node (.node c20 jL c21) dN c28) [] false 116 0)),(2,(.row 2 (.node (.node .leaf (some c72) .leaf) (some c31) .leaf) [] false 91 0))],ans:=.rows 127 (.slc 140 0 1 (.op 3)) [(140,c152)] 141}]),(16,[{args:=[gM],fp:=[(106,gU),(100,fU),(62,(.row 32 (.node (.node c20 c64 c21) dN eZ) [] false 116 0)),(2,(.row 2 (.node (.node .leaf (some mR) .leaf) (some c59) .leaf) [] false 91 0))],ans:=.rows 186 (.slc 201 0 2 (.op 5)) [(201,sj)] 202},{args:=[gM],fp:=[(60,lJ),(54,fU),(16,(.row 32 (.node (.node c20 jL c21) dN c28) [] false 116 0)),(2,(.row 2 (.node (.node .leaf (some c72) .leaf) (some c31) .leaf) [] false 91 0))],nx:=144,ans:=.val c6}]),(12,[{args:=[gM,(.sc (.string ⟨⟨ [120] ⟩⟩))],fp:=[(60,lJ),(54,fU),(16,(.row 32 (.node (.node c20 jL c21) dN c28) [] false 116 0)),(2,(.row 2 (.node (.node .leaf (some c72) .leaf) (some c31) .leaf) [] false 91 0))],nx:=61,ans:=.val (.tup [c6,(.sc (.int .i64 4))])}]),(62,[{args:=[ab5,c0,FM,FM,(.fn (.func 34) [] [])],fp:=[(102,(.row 6 (.node (.node c91 Ke BH) c93 (.node c91 c70 .leaf)) [] true 44 0))],nx:=103,ans:=.val di}])]
theorem b6:lc Tryz.prog ext T5 100000 200 B6=true:=by kernel_rfl
def T6:Table:=B6++T5
theorem t6:jC Tryz.prog Iv T6:=t5.add Fp mixed b6
def B7:Table:=[(76,[{args:=[zw,(.fn (.func 55) [] [c143])],fp:=[(3,(.row 7 (.node (.node wh cZ c51) c49 yG) [] false 30 0)),(14,c53)],nx:=15,ans:=.val vU},{args:=[c72,(.fn (.func 55) [] [c145])],fp:=[(15,(.row 7 (.node (.node wh cZ Lb) c70 yG) [] false 30 0)),(60,sj)],nx:=61,ans:=.val vU},{args:=[mR,(.fn (.func 55) [] [c146])],fp:=[(61,(.row 7 (.node (.node wh dN c80) c49 Fj) [] false 30 0)),(106,gU)],nx:=107,ans:=.val vU},{args:=[zw,(.fn (.func 55) [] [c143])],fp:=[(3,(.row 7 (.node (.node c91 cZ c87) c49 Fj) [] false 30 0)),(14,tq)],nx:=15,ans:=.val vU},{args:=[c72,(.fn (.func 55) [] [c145])],fp:=[(15,(.row 7 (.node (.node c148 dN c91) c49 yG) [] false 30 0)),(60,lJ)],nx:=61,ans:=.val vU}]),(74,[{args:=[U8,c0,FM,FM,(.fn (.func 53) [] [])],fp:=[(58,sj)],nx:=59,ans:=.val di},{args:=[c77,c0,(.sc (.int .i64 3)),FM,(.fn (.func 53) [] [])],fp:=[(104,gU)],nx:=105,ans:=.val di},{args:=[U8,c0,FM,FM,(.fn (.func 53) [] [])],fp:=[(58,(.row 10 (.node (.node (.node c148 ZJ .leaf) cZ (.node c91 c49 .leaf)) c49 (.node (.node Ov c86 .leaf) Ke U4)) [] true 40 0))],ans:=.rows 59 di [(58,lJ)] 59}]),(12,[{args:=[gM,c2],fp:=[(106,gU),(100,fU),(62,(.row 32 (.node (.node c20 c64 c21) dN eZ) [] false 116 0)),(2,(.row 2 (.node (.node .leaf (some mR) .leaf) (some c59) .leaf) [] false 91 0))],ans:=.rows 107 (.tup [afn,c0]) [(139,Pz)] 140}]),(13,[{args:=[gM],fp:=[(106,gU),(100,fU),(62,(.row 32 (.node (.node c20 c64 c21) dN eZ) [] false 116 0)),(2,(.row 2 (.node (.node .leaf (some mR) .leaf) (some c59) .leaf) [] false 91 0))],ans:=.rows 140 c119 [(182,(.row 3 (.node Lb H8 (.node .leaf VJ .leaf)) [] true 44 0))] 183}]),(15,[{args:=[gM,aid],fp:=[(106,gU),(100,fU),(62,(.row 32 (.node (.node c20 c64 c21) dN eZ) [] false 116 0)),(2,(.row 2 (.node (.node .leaf (some mR) .leaf) (some c59) .leaf) [] false 91 0))],ans:=.rows 202 (.slc 243 0 1 (.op 1)) [(243,c117)] 244},{args:=[gM,Dj],fp:=[(106,gU),(100,fU),(62,(.row 32 (.node (.node c20 c64 c21) dN eZ) [] false 116 0)),(2,(.row 2 (.node (.node .leaf (some mR) .leaf) (some c59) .leaf) [] false 91 0))],nx:=244,ans:=.val c6},{args:=[gM,qm],fp:=[(60,lJ),(54,fU),(16,(.row 32 (.node (.node c20 jL c21) dN c28) [] false 116 0)),(2,(.row 2 (.node (.node .leaf (some c72) .leaf) (some c31) .leaf) [] false 91 0))],ans:=.rows 104 (.slc 143 0 2 (.op 1)) [(143,acp)] 144}]),(33,[{args:=[ab5,(.fn (.func 34) [] [])],fp:=[(102,(.row 6 (.node (.node c91 Ke BH) c93 (.node c91 c70 .leaf)) [] true 44 0))],nx:=103,ans:=.val di}])]
theorem b7:lc Tryz.prog ext T6 100000 200 B7=true:=by kernel_rfl
def T7:Table:=B7++T6
theorem t7:jC Tryz.prog Iv T7:=t6.add Fp mixed b7
def B8:Table:=[(54,[{args:=[zw,(.fn (.func 55) [] [c143])],fp:=[(3,(.row 7 (.node (.node wh cZ c51) c49 yG) [] false 30 0)),(14,c53)],ans:=.rows 15 zw [] 15},{args:=[c72,(.fn (.func 55) [] [c145])],fp:=[(15,(.row 7 (.node (.node wh cZ Lb) c70 yG) [] false 30 0)),(60,sj)],ans:=.rows 61 c72 [] 61},{args:=[mR,(.fn (.func 55) [] [c146])],fp:=[(61,(.row 7 (.node (.node wh dN c80) c49 Fj) [] false 30 0)),(106,gU)],ans:=.rows 107 mR [] 107},{args:=[zw,(.fn (.func 55) [] [c143])],fp:=[(3,(.row 7 (.node (.node c91 cZ c87) c49 Fj) [] false 30 0)),(14,tq)],ans:=.rows 15 zw [] 15},{args:=[c72,(.fn (.func 55) [] [c145])],fp:=[(15,(.row 7 (.node (.node c148 dN c91) c49 yG) [] false 30 0)),(60,lJ)],ans:=.rows 61 c72 [] 61}]),(52,[{args:=[U8,(.fn (.func 53) [] [])],fp:=[(58,sj)],nx:=59,ans:=.val di},{args:=[c77,(.fn (.func 53) [] [])],fp:=[(104,gU)],nx:=105,ans:=.val di},{args:=[U8,(.fn (.func 53) [] [])],fp:=[(58,(.row 10 (.node (.node (.node c148 ZJ .leaf) cZ (.node c91 c49 .leaf)) c49 (.node (.node Ov c86 .leaf) Ke U4)) [] true 40 0))],ans:=.rows 59 di [(58,lJ)] 59}]),(13,[{args:=[gM],fp:=[(60,lJ),(54,fU),(16,(.row 32 (.node (.node c20 jL c21) dN c28) [] false 116 0)),(2,(.row 2 (.node (.node .leaf (some c72) .leaf) (some c31) .leaf) [] false 91 0))],ans:=.rows 61 ab5 [(102,(.row 6 (.node (.node c91 Ke BH) c93 (.node c91 c70 .leaf)) [] true 44 0))] 103}])]
theorem b8:lc Tryz.prog ext T7 100000 200 B8=true:=by kernel_rfl
def T8:Table:=B8++T7
theorem t8:jC Tryz.prog Iv T8:=t7.add Fp mixed b8
def B9:Table:=[(30,[{args:=[gM,c7],fp:=[(1,jv),(2,(.row 2 (.node c16 (some c14) .leaf) [] false 91 0))],ans:=.rows 3 c154 [(14,c53),(10,lu),(4,(.row 32 (.node (.node c20 wX c21) cZ c28) [] false 116 0)),(2,(.row 2 (.node (.node .leaf (some zw) .leaf) (some uy) .leaf) [] false 91 0))] 15},{args:=[gM,c9],fp:=[(14,c53),(10,lu),(4,(.row 32 (.node (.node c20 wX c21) cZ c28) [] false 116 0)),(2,(.row 2 (.node (.node .leaf (some zw) .leaf) (some uy) .leaf) [] false 91 0))],ans:=.rows 15 c154 [(60,sj),(54,lu),(16,(.row 32 (.node (.node (.node c18 jL c19) c15 c21) cZ eZ) [] false 116 0)),(2,(.row 2 (.node (.node .leaf (some c72) .leaf) (some c31) .leaf) [] false 91 0))] 61},{args:=[gM,c13],fp:=[(60,sj),(54,lu),(16,(.row 32 (.node (.node (.node c18 jL c19) c15 c21) cZ eZ) [] false 116 0)),(2,(.row 2 (.node (.node .leaf (some c72) .leaf) (some c31) .leaf) [] false 91 0))],ans:=.rows 61 c154 [(106,gU),(100,fU),(62,(.row 32 (.node (.node c20 c64 c21) dN eZ) [] false 116 0)),(2,(.row 2 (.node (.node .leaf (some mR) .leaf) (some c59) .leaf) [] false 91 0))] 107},{args:=[gM,aaK],fp:=[(1,jv),(2,(.row 2 (.node c16 (some c14) .leaf) [] false 91 0))],ans:=.rows 3 c154 [(14,tq),(10,lu),(4,(.row 32 (.node (.node c20 wX c21) cZ c28) [] false 116 0)),(2,(.row 2 (.node (.node .leaf (some zw) .leaf) (some uy) .leaf) [] false 91 0))] 15},{args:=[gM,c127],fp:=[(14,tq),(10,lu),(4,(.row 32 (.node (.node c20 wX c21) cZ c28) [] false 116 0)),(2,(.row 2 (.node (.node .leaf (some zw) .leaf) (some uy) .leaf) [] false 91 0))],ans:=.rows 15 c154 [(60,lJ),(54,fU),(16,(.row 32 (.node (.node c20 jL c21) dN c28) [] false 116 0)),(2,(.row 2 (.node (.node .leaf (some c72) .leaf) (some c31) .leaf) [] false 91 0))] 61}])]
theorem b9:lc Tryz.prog ext T8 100000 200 B9=true:=by kernel_rfl
def T9:Table:=B9++T8
theorem t9:jC Tryz.prog Iv T9:=t8.add Fp mixed b9
def B10:Table:=[(10,[{args:=[(.slc 0 0 3 (.ex 3))],fp:=[(0,(.row 21 (.node (.node (.node (.node U4 c70 .leaf) H8 (.node c80 Om .leaf)) cZ (.node (.node wh c70 .leaf) c50 c16)) c49 (.node (.node (.node BH cZ .leaf) Om (.node c16 c68 .leaf)) c70 (.node (.node Sd H8 .leaf) c15 c75))) [c0,c23,c0,qm,qm,qm,c6] false 30 0))],ans:=.rows 1 gM [(106,gU),(100,fU),(62,(.row 32 (.node (.node c20 c64 c21) dN eZ) [] false 116 0)),(2,(.row 2 (.node (.node .leaf (some mR) .leaf) (some c59) .leaf) [] false 91 0))] 107},{args:=[(.slc 0 0 2 (.ex 2))],fp:=[(0,(.row 14 (.node (.node (.node c75 Ke Ov) cZ (.node BH c86 c16)) c49 (.node (.node U4 ZJ c91) c70 (.node c148 c15 .leaf))) [c0,c23,c0,qm,qm,qm,c6] false 30 0))],ans:=.rows 1 gM [(60,lJ),(54,fU),(16,(.row 32 (.node (.node c20 jL c21) dN c28) [] false 116 0)),(2,(.row 2 (.node (.node .leaf (some c72) .leaf) (some c31) .leaf) [] false 91 0))] 61}])]
theorem b10:lc Tryz.prog ext T9 100000 200 B10=true:=by kernel_rfl
def T10:Table:=B10++T9
theorem bM:jC Tryz.prog Iv T10:=t9.add Fp mixed b10
def B11:Table:=[(9,[{args:=[],nx:=0,ans:=.val l5}])]
theorem b11:lc Tryz.prog ext T10 100000 200 B11=true:=by kernel_rfl
def T11:Table:=B11++T10
theorem bU:jC Tryz.prog Iv T11:=bM.add Fp mixed b11
theorem t:jC Tryz.prog Iv T11:=bU
end Go.Proofs.YtngfappichkflaaGreat
namespace Go.Proofs.YtngfappichkflaaGreat.viewFinds
open Go Go.Ab Go.ChangeShapes Go.WideShapes Go.ChangeAt Go.RowKit
theorem own:ownKnob Tryz.prog.godebug=none:=by kernel_rfl
open Go.Ab.aB Go.Ab.Crw Go.Ab.Crw.Viw Go.Proofs.YtngfappichkflaaGreat.qJ
def base (w:World) (hi:Iv w) : Base:=⟨w.heap.size,Iv,fun w1 w2 h h1=>ajY w w1 w2 hi h h1⟩
theorem awake {B:Base} (hB:∀ w,B.inv w→Iv w) : YT B (fQ Tryz.prog 9):=by
 intro M Q hM hQ
 exact X0 t ⟨Tryz.f9,_,Tryz.func9,rfl⟩ (fun A=>by kernel_rfl) (hM▸hB) hQ
theorem walk (w:World) (hi:Iv w) (v0 v1 v2:Value) (h0:qN Tryz.prog (RM.old (base w hi) w) 32 (vk w.heap.size v0)) (h1:qN Tryz.prog (RM.old (base w hi) w) 9 (vk w.heap.size v1)) (h2:qN Tryz.prog (RM.old (base w hi) w) 3 (vk w.heap.size v2)) :
  Calls Tryz.prog 6 #[v0,v1,v2] w fun e w'=>e=.returned (.bool true)∧Below w.heap.size w w':=by
 obtain⟨u0,l,e0,hl,_⟩:=acy (h0.one (by kernel_rfl))
 obtain⟨s1,e1,g1⟩:=(h1.one (by kernel_rfl)).Gj Tryz.underlying9
 obtain⟨n,e2,_,_⟩:=(h2.one (by kernel_rfl)).GH Tryz.underlying3
 refine fQ.close (base:=base w hi) rfl hi ?_
 simp only[List.map_cons,List.map_nil]
 rw[show vk (base w hi).n v0=u0 from(List.cons.inj e0).1,show vk (base w hi).n v1=_ from(List.cons.inj e1).1,show vk (base w hi).n v2=N .i64 n from(List.cons.inj e2).1]
 have hb:∀ w',(base w hi).inv w'→Iv w':=fun _ h=>h
 obtain⟨a0,a1,a2,e,h⟩:=Nw (B:=base w hi) (TE:=30) (T8:=5) (M:=RM.old (base w hi) w) (text:=s1) (cut:=n) (Q:=fun v _=>v=Bo true) (awake hb) qJ.own qJ.anm (qJ.findF hb) qJ.Jk rfl hl (fun M'=>rfl)
 cases e
 exact zh h
set_option maxRecDepth 100000 in
theorem lifted (os:Os) (started:os.Started) (H:Type) (enc:TypeId × Value→H) :
  ReturnsInHanded {} Tryz.checked os 6 .any (Rows.viewFindsSpec.pre6 enc Tryz.prog Tryz.f6 Rows.viewFindsRow.domain false) (Rows.viewFindsSpec.post enc Tryz.prog Tryz.f6 false true false false):=by
 refine returnsInHanded_of_change_shaped (C:=Tryz.checked) own started (by kernel_rfl) Tryz.func6
  (ChangeSpec.witness6 (enc:=enc) (C:=Tryz.checked) false ⟨#[],#[.slice none 0 0,.string ⟨#[]⟩,.int .i64 0],[]⟩ 8 (by kernel_rfl) (by kernel_rfl) (by kernel_rfl) (by kernel_rfl)) ?_
 intro W b0 args ds gs before hval hW hcnd hwt hsh _
 have hW':=hW
 obtain⟨p,q,hA,hV,rfl,hfz,hnd⟩:=hW
 rw[Tryz.params6] at hA hwt
 have hi:=Tryz.index_var W hsh
 obtain⟨rfl,rfl⟩:=trodVars_none hV
 have hfit:=Tx (base:=base W hi) rfl hA (fun j t v hj hv=>hval j t v (by rw[Tryz.params6]; simpa using hj) (by simpa using hv)) (fun y hy=>by
  have apb:(DataW.weightsEach Tryz.prog [32,9,3] (ds++[])).all (· ≤ reachBytes)=true:=hwt
  have:=List.all_eq_true.1 apb y (by rw[List.append_nil]; exact hy)
  simpa using this)
 simp only[List.append_nil] at hW'
 have hlt:∀ x∈p,x.block<W.heap.size:=fun x hx=>hW'.lt x hx
 obtain⟨v0,v1,v2,d0,d1,d2,p0,p1,p2,rfl,rfl,rfl,h0,h1,h2⟩:=trodAll_three hA
 refine(walk W hi v0 v1 v2 (hfit 0 _ _ rfl rfl) (hfit 1 _ _ rfl rfl) (hfit 2 _ _ rfl rfl)).mono fun e W' ⟨he,hg⟩=>?_
 subst he
 exact⟨_,rfl,OY (pa:=_) (pv:=[]) hW' (fun _ _ _=>(trodAll_cons_mk (shut_bool Tryz.underlying4 _) trodAll_mk0)) (fun sp hsp=>by
   rw[Tryz.params6]
   exact Et (by kernel_rfl) hg (fun t ht=>by
    have ht:t=32∨t=9∨t=3:=by simpa using ht
    rcases ht with rfl | rfl | rfl <;> exact⟨by kernel_rfl,of_decide_eq_true (by kernel_rfl)⟩) hA hlt hsp) (fun _ _=>rfl) (by simp)
  hg (ok_one (by kernel_rfl) rfl (okWide_bool_mk Tryz.underlying4 _))⟩
theorem over:Rows.viewFindsRow.holds Tryz.pinned (OpenSpec.ofChange Rows.viewFindsSpec) :=
 OpenClaim.holds_of_wide 6 Tryz.f6 rfl rfl rfl rfl rfl rfl rfl ⟨rfl,rfl,rfl,rfl,rfl⟩ rfl rfl rfl rfl rfl (by kernel_rfl) Tryz.func6 (by kernel_rfl)
  (of_decide_eq_true (by kernel_rfl)) (by unfold Func.isWrapper; first | (rw[if_pos (by decide +kernel)]; kernel_rfl) | (rw[if_neg (by decide +kernel)]; exact⟨rfl,rfl⟩))
  (fun os started H enc _=>lifted os started H enc)
theorem proved:Rows.ViewFindsSaid :=
 over
end Go.Proofs.YtngfappichkflaaGreat.viewFinds
