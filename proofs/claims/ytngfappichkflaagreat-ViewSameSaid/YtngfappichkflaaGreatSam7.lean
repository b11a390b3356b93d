/- Part 7 of the ground of the proofs of this seat (texts C11 to R21). By an AI agent. -/
import Derived.Test.YtngfappichkflaaGreatSam6
import Derived.Lib.IndexMore
import Derived.Carry
set_option maxRecDepth 10000
set_option linter.unusedVariables false
set_option linter.unusedSimpArgs false
namespace Go.Ab.Crw
open Go Go.Ab Go.Ab.ay
theorem UK {M:RM} {v:AV} {xs:List aH} (h:Sl aF M v xs) {i:Nat} (hi:i<xs.length) {kd:IntKind} {j:Nat} {x:AV} (hx:(aF.cells xs[i])[j]?=some x) {K:AV→Prop} : (ah v (N kd (i:Int)) 5 fun p=>aJ p j fun q=>az M q K)=K x:=by
 obtain⟨b,o,_,_,hidx,hld⟩:=Sl.at (E:=aF) (i:=i) h 5 (i:Int) hi rfl rfl
 rw[hidx,aP,gL]
 rw[rZ hld hx]
 simp
def Ep (TS T TN:Nat) (c:ai) : Prop:=∀ {M:RM} {t:Nat} {B:Nat→Prop} {ps:List Pt} {es:List aH} {s:List UInt8} {Q:ak},mZ TS T B M t ps es→es.length≤50000→(∀ v M',Ow aF M' M.next TN v (es.filter fun x=>x.2.1 == s)→ag [] M M'→Q v M')→c [.ptr t 0,St s] M Q
theorem Si {TS T TN:Nat} : Ep TS T TN fun args M Q=>∃ a0 a1,args=[a0,a1]∧uq TN a0 a1 M Q:=by
 intro M t B ps es s Q hst hlen hQ
 refine⟨_,_,rfl, ?_⟩
 unfold uq
 simp only[iN,dP,dz,dK,bH]
 obtain⟨s0,v,r1,_,r3,_,_⟩:=hst.row
 rw[aU,aP,aA (i:=0 + 1) r1 rfl,aR.len r3]
 refine aG (fun z ys M3=>∃ (i:Nat) (dv:AV),z=es.length - i∧ys=[dv,N .i64 (i:Int)]∧i≤es.length∧ag [] M M3∧Ow aF M3 M.next TN dv ((es.take i).filter fun x=>x.2.1 == s)) _
  ⟨0,bB,rfl,rfl,Nat.zero_le _,ag.refl _ _,.nil⟩ ?_
 rintro next z ys M3 hnext ⟨i,dv,rfl,rfl,hil,k3,o3⟩
 dsimp only[aa]
 rw[dC]
 refine aD (fun hlt=>?_) (fun hge=>?_)
 ·have hlt:i<es.length:=of_decide_eq_true hlt
  have n3:=k3.next
  have hfl:=Xb (fun x:aH=>x.2.1 == s) es i
  refine aT (fun zs M'=>∃ dv',zs=[dv']∧ag [] M M'∧Ow aF M' M.next TN dv' ((es.take (i + 1)).filter fun x=>x.2.1 == s)) ?_ ?_
  ·rintro zs M' ⟨dv',rfl,k',o'⟩
   dsimp only[aa]
   rw[add1 (by omega)]
   exact hnext _ _ _ (by omega) ⟨i + 1,dv',rfl,rfl,by omega,k',o'⟩
  intro J hJ
  rw[TR hlt] at hJ
  rw[pU (aR.keep r3 k3 (by simp)) hlt]
  generalize ((es.take i).filter fun x=>x.2.1 == s)=acc at *
  generalize es[i]=x at *
  rw[aX,dh (n:=5) (x:=.agg (aF.cells x)) (l:=[(N .i64 0),(N .u64 0),(St []),(St []),(St [])]) (RM.aQ _) rfl rfl (nC x)]
  have k4:ag [] M3 ((M3.push (.row [(N .i64 0),(N .u64 0),(St []),(St []),(St [])] false TN 0)).put M3.next (.row (AV.agg (aF.cells x)).cells false TN 0)):=((ag.refl _ _).push _).new _ (Nat.le_refl _)
  have h4:((M3.push (.row [(N .i64 0),(N .u64 0),(St []),(St []),(St [])] false TN 0)).put M3.next (.row (AV.agg (aF.cells x)).cells false TN 0)).heap M3.next=some (.row (aF.cells x) false TN 0):=aN _
  generalize (M3.push (.row [(N .i64 0),(N .u64 0),(St []),(St []),(St [])] false TN 0)).put M3.next (.row (AV.agg (aF.cells x)).cells false TN 0)=M4 at *
  generalize M3.next=b at *
  rw[aP,aA (i:=0 + 2) (x:=St x.2.1) h4 rfl,Ah]
  have k04:=k3.trans k4
  have o4:=o3.keep k4 (by simp)
  refine aD (fun hc=>?_) (fun hc=>?_)
  ·rw[bS (n:=5) h4 rfl,mE (x:=.agg (aF.cells x)) (size:=5) rfl (nC x) rfl,aX]
   refine qW (E:=aF) (a:=x) o4 (by have:=k04.next; omega) (by decide) (by omega) (by omega) fun v2 M7 o7 k7 n7 _=>?_
   refine hJ _ _ ⟨v2,rfl,k04.bW k7 (fun d hd=>.inl (o4.blk d hd).1), ?_⟩
   rw[hc,if_pos rfl]
   exact o7
  ·refine hJ _ _ ⟨dv,rfl,k04, ?_⟩
   rw[hc,if_neg (by decide),List.append_nil]
   exact o4
 ·have he:i=es.length:=by
   have:¬ i<es.length:=of_decide_eq_false hge
   omega
  subst he
  rw[List.take_length] at o3
  exact hQ dv M3 o3 k3
def Qc (T b:Nat) (s:List UInt8) (M:RM) : Prop:=b<M.next∧M.heap b=some (.row [St s] false T 0)
def AQ (s:List UInt8) (x:aH) : Bool:=(s != []) && (x.2.2.1 != s)
theorem aaO {TN TB b:Nat} {s:List UInt8} {M:RM} {x:aH} {Q:ak} (hP:Qc TB b s M) (hQ:∀ M',ag [] M M'→Q (Bo (AQ s x)) M') :
  ∃ a0 a1,[AV.agg (aF.cells x),.ptr b 0]=[a0,a1]∧zZ TN a0 a1 M Q:=by
 obtain⟨h1,h2⟩:=hP
 refine⟨_,_,rfl, ?_⟩
 unfold zZ
 simp only[iN,dP,dz,dK,bH]
 rw[dJ rfl (by rw[aF.len]; decide),aX]
 have k0:ag [] M (M.push (.row (aF.cells x) false TN 0)):=(ag.refl _ _).push _
 have hx:(M.push (.row (aF.cells x) false TN 0)).heap M.next=some (.row (aF.cells x) false TN 0):=RM.aQ _
 have h2':=k0.aK h2 h1 (by simp)
 generalize M.push (.row (aF.cells x) false TN 0)=M1 at *
 generalize M.next=c at *
 rw[aA (i:=0) (x:=St s) h2' rfl,jF]
 refine andM (p:=x.2.2.1 != s) (fun _ k hk=>?_) (hQ M1 k0)
 rw[aP,aA (i:=0 + 3) (x:=St x.2.2.1) hx rfl,aA (i:=0) (x:=St s) h2' rfl,jF]
 exact hk
def VM (TS T:Nat) (c:ai) : Prop:=∀ {M:RM} {t:Nat} {B:Nat→Prop} {ps:List Pt} {es:List aH} {s f:List UInt8} {Q:ak},mZ TS T B M t ps es→es.length≤50000→(∀ v M',Sl aF M' v ((es.filter fun x=>x.2.1 == s).filter fun x=>!AQ f x)→ag [] M M'→Q v M')→c [.ptr t 0,St s,St f] M Q
theorem X8 {TS T TN TB nd:Nat} {cC cD:ai} (hC:Ep TS T TN cC) (hD:∀ b f,Au TN (Qc TB b f) (AQ f) (.fn (.func nd) [] [.ptr b 0]) cD) :
  VM TS T fun args M Q=>∃ a0 a1 a2,args=[a0,a1,a2]∧EB TB cC nd cD a0 a1 a2 M Q:=by
 intro M t B ps es s f Q hst hlen hQ
 refine⟨_,_,_,rfl, ?_⟩
 unfold EB
 refine⟨rfl,Nat.le_refl _, ?_⟩
 dsimp only
 rw[aX]
 have k0:ag [] M (M.push (.row (St f).cells false TB 0)):=(ag.refl _ _).push _
 have h0:(M.push (.row (St f).cells false TB 0)).heap M.next=some (.row [St f] false TB 0):=RM.aQ _
 have n0:M.next<(M.push (.row (St f).cells false TB 0)).next:=by simp[RM.push]
 have st1:=hst.keep k0 (by simp) (by simp)
 generalize M.push (.row (St f).cells false TB 0)=M1 at *
 generalize hb:M.next=b at *
 refine hC st1 hlen fun v M2 o2 k2=>?_
 have n2:=k2.next
 have hlf:((es.filter fun x=>x.2.1 == s)).length≤50000:=Nat.le_trans (List.length_filter_le _ _) hlen
 refine hD b f ⟨by omega,k2.aK h0 n0 (by simp)⟩ (fun Ma Mb ks hP k hk=>⟨Nat.lt_of_lt_of_le hP.1 k.next,k.aK hP.2 hP.1 (fun hm=>?_)⟩) o2 (by omega) fun v' M3 h3 hb3 k3=>?_
 ·have:=(o2.blk b (hk b hm)).1
  omega
 ·refine hQ v' M3 h3 ((k0.trans k2).bW k3 (fun d hd=>?_))
  have:=(o2.blk d hd).1
  exact .inl (by omega)
abbrev jq:lh:=((0,0),(0,([],([],[]))))
theorem Vs (e:lh) (kv w:AV) : (bg e kv).set (0 + 6) w=bg e w:=rfl
theorem Rt (e:lh) (kv:AV) : (bg e kv).length=7:=rfl
def Xl (c:ai) : Prop:=∀ {M:RM} {v:AV} {e:lh} {xs:List aH} {Q:ak},Sl aF M v xs→xs.length≤50000 →
 (∀ kv M',di e (nY pF (xs.map fun x=>x.1))=true→Sl aV M' kv (nY pF (xs.map fun x=>x.1))→(∀ d∈aI kv,M.next≤d)→ag [] M M'→Q (.tup [.agg (bg e kv),N .i64 0]) M') →
 (∀ n M',di e (nY pF (xs.map fun x=>x.1))=false→n≠(0:Int)→ag [] M M'→Q (.tup [.agg (bg jq bB),N .i64 n]) M')→c [.agg (bg e bB),v] M Q
theorem YV {TE TN TD nc:Nat} {cS cG cC:ai} (hS:Nk (.fn (.func nc) [] []) pF TD cS) (hG:vN cG) (hC:yS cC) :
  Xl fun args M Q=>∃ a0 a1,args=[a0,a1]∧Tw TE TN TD cS nc cG cC a0 a1 M Q:=by
 intro M v e xs Q hv hl hok hbad
 refine⟨_,_,rfl, ?_⟩
 unfold Tw
 simp only[iN,dP,dz,dK,bH]
 rw[dJ rfl (by rw[Rt]; decide),aX,aX]
 have k1:ag [] M ((M.push (.row (bg e bB) false TE 0)).push (.row [(N .i64 0),(N .u64 0),(N .i64 0),(St []),(St []),(St []),(.sc (.slice none 0 0))] false TE 0)):=((ag.refl _ _).push _).push _
 have h2:((M.push (.row (bg e bB) false TE 0)).push (.row [(N .i64 0),(N .u64 0),(N .i64 0),(St []),(St []),(St []),(.sc (.slice none 0 0))] false TE 0)).heap M.next=some (.row (bg e bB) false TE 0):=iV (RM.aQ _) (by simp[RM.push])
 have h4:((M.push (.row (bg e bB) false TE 0)).push (.row [(N .i64 0),(N .u64 0),(N .i64 0),(St []),(St []),(St []),(.sc (.slice none 0 0))] false TE 0)).heap (M.next + 1)=some (.row (bg jq bB) false TE 0):=RM.aQ _
 have n1:((M.push (.row (bg e bB) false TE 0)).push (.row [(N .i64 0),(N .u64 0),(N .i64 0),(St []),(St []),(St []),(.sc (.slice none 0 0))] false TE 0)).next=M.next + 2:=rfl
 rw[show(M.push (.row (bg e bB) false TE 0)).next=M.next + 1 from rfl,aR.len hv]
 generalize (M.push (.row (bg e bB) false TE 0)).push (.row [(N .i64 0),(N .u64 0),(N .i64 0),(St []),(St []),(St []),(.sc (.slice none 0 0))] false TE 0)=M1 at *
 have nM:M.next≤M1.next:=k1.next
 generalize hb2:M.next=b2 at *
 refine aG (fun m ys M3=>∃ (i:Nat) (dv:AV),m=xs.length - i∧ys=[N .i64 (i:Int)]∧i≤xs.length∧ag [] M M3∧M1.next≤M3.next∧M3.heap b2=some (.row (bg e dv) false TE 0)∧M3.heap (b2 + 1)=some (.row (bg jq bB) false TE 0)∧Ow aV M3 (b2 + 2) TD dv ((xs.take i).map fun x=>x.1)) _
  ⟨0,bB,rfl,rfl,Nat.zero_le _,k1,Nat.le_refl _,h2,h4,.nil⟩ ?_
 rintro next m ys M3 hnext ⟨i,dv,rfl,rfl,hi,k3,n3,g2,g4,o3⟩
 dsimp only[aa]
 rw[dC]
 refine aD (fun hlt=>?_) (fun hge=>?_)
 ·have hlt:i<xs.length:=of_decide_eq_true hlt
  have htk:(xs.take (i + 1)).map (fun x:aH=>x.1)=(xs.take i).map (fun x:aH=>x.1)++[xs[i].1]:=by
   rw[List.take_succ_eq_append_getElem hlt,List.map_append]; rfl
  have hml:((xs.take i).map fun x:aH=>x.1).length≤i:=by rw[List.length_map,List.length_take]; omega
  rw[pU (aR.keep hv k3 (by simp)) hlt]
  generalize ((xs.take i).map fun x:aH=>x.1)=acc at *
  generalize xs[i]=x at *
  rw[aX,dh (n:=5) (x:=.agg (aF.cells x)) (l:=[(N .i64 0),(N .u64 0),(St []),(St []),(St [])]) (RM.aQ _) rfl rfl (nC x)]
  have k4:ag [] M3 ((M3.push (.row [(N .i64 0),(N .u64 0),(St []),(St []),(St [])] false TN 0)).put M3.next (.row (AV.agg (aF.cells x)).cells false TN 0)):=((ag.refl _ _).push _).new _ (Nat.le_refl _)
  have f4:((M3.push (.row [(N .i64 0),(N .u64 0),(St []),(St []),(St [])] false TN 0)).put M3.next (.row (AV.agg (aF.cells x)).cells false TN 0)).heap M3.next=some (.row (aF.cells x) false TN 0):=aN _
  generalize (M3.push (.row [(N .i64 0),(N .u64 0),(St []),(St []),(St [])] false TN 0)).put M3.next (.row (AV.agg (aF.cells x)).cells false TN 0)=M4 at *
  generalize hb3:M3.next=b at *
  have n4:=k4.next
  have q2:=k4.aK g2 (by omega) (by simp)
  have q4:=k4.aK g4 (by omega) (by simp)
  have o4:=o3.keep k4 (by simp)
  rw[aP,aA (i:=0 + 6) (x:=dv) q2 rfl,bJ,Sv f4,mE (x:=.agg (aO x.1)) (size:=2) rfl rfl rfl,aX]
  refine qW (E:=aV) (a:=x.1) o4 (by omega) (by decide) (by omega) (by omega) fun v2 M5 o5 k5 n5 _=>?_
  have hnb:∀ d,d<b2 + 2→d ∉ aI dv:=fun d hd hm=>by have:=(o4.blk d hm).1; omega
  have p2:=k5.aK q2 (by omega) (hnb b2 (by omega))
  have p4:=k5.aK q4 (by omega) (hnb (b2 + 1) (by omega))
  rw[aP,dV (i:=0 + 6) p2 (by rw[Rt]; decide) (aR.cells o5.il) (aR.one o5.il),Vs,add1 (by omega)]
  have k6:ag [b2] M5 (M5.put b2 (.row (bg e v2) false TE 0)):=(ag.refl _ _).put _ (.inr (by simp))
  have k35:ag [] M M5:=(k3.trans k4).bW k5 (fun d hd=>.inl (by have:=(o4.blk d hd).1; omega))
  refine hnext _ _ _ (by omega) ⟨i + 1,v2,rfl,rfl,by omega,k35.bW k6 (fun d hd=>by simp at hd; omega),by rw[gJ]; omega,aN _,mV p4 (by omega), ?_⟩
  rw[htk]
  exact o5.keep k6 (fun d hd hm=>by simp at hm; have:=(o5.blk d hd).1; omega)
 ·have he:i=xs.length:=by
   have:¬ i<xs.length:=of_decide_eq_false hge
   omega
  subst he
  rw[List.take_length] at o3
  clear hnext hge
  have hml:(xs.map fun x:aH=>x.1).length≤50000:=by rw[List.length_map]; exact hl
  generalize (xs.map fun x:aH=>x.1)=ds at *
  have hnb:∀ d,d<b2 + 2→d ∉ aI dv:=fun d hd hm=>by have:=(o3.blk d hm).1; omega
  rw[aP,aA (i:=0 + 6) (x:=dv) g2 rfl]
  refine hS o3 (by omega) fun M5 o5 k5=>?_
  have n5:=k5.next
  have p2:=k5.aK g2 (by omega) (hnb b2 (by omega))
  have p4:=k5.aK g4 (by omega) (hnb (b2 + 1) (by omega))
  have k05:ag [] M M5:=k3.bW k5 (fun d hd=>.inl (by have:=(o3.blk d hd).1; omega))
  have hks:Sl aV M5 dv (nY pF ds):=o5.il
  have hkb:∀ d∈aI dv,b2 + 2≤d∧d<M5.next:=fun d hd=>o5.blk d hd
  have hkl:(nY pF ds).length≤50000:=by rw[(EF Hd ds).length_eq]; exact hml
  generalize nY pF ds=ks at *
  rw[bS (n:=7) p2 rfl]
  refine hG hks fun M6 k6=>?_
  have n6:=k6.next
  have r2:=k6.aK p2 (by omega) (by simp)
  have r4:=k6.aK p4 (by omega) (by simp)
  have k06:=k05.trans k6
  have Tg:Sl aV M6 dv ks:=aR.keep hks k6 (by simp)
  refine aD (fun hg=>?_) (fun hg=>?_)
  ·rw[bS (n:=7) r2 rfl,dh (n:=7) (x:=.agg (bg e dv)) (l:=bg jq bB) r4 rfl rfl (xH Tg),bS (n:=7) (aN _) rfl]
   have k7:ag [b2 + 1] M6 (M6.put (b2 + 1) (.row (AV.agg (bg e dv)).cells false TE 0)):=(ag.refl _ _).put _ (.inr (by simp))
   exact hok dv _ hg (aR.keep Tg k7 (fun d hd hm=>by simp at hm; have:=hkb d hd; omega)) (fun d hd=>by have:=hkb d hd; omega) (k06.bW k7 (fun d hd=>by simp at hd; omega))
  ·have fin:∀ M' (n:Int),n≠0→ag [] M M'→M'.heap (b2 + 1)=some (.row (bg jq bB) false TE 0) →
     jo [(N .i64 0),(N .u64 0),(N .i64 0),(St []),(St []),(St []),(.sc (.slice none 0 0))] [] (fun t46=>aC M' (.ptr (b2 + 1) 0) t46 7 fun adw=>av adw (.ptr (b2 + 1) 0) 7 fun acX=>Q (.tup [acX,(N .i64 n)]) adw):=by
    intro M' n hn k' h'
    rw[iD]
    refine⟨bg jq bB,rfl, ?_⟩
    rw[dh (n:=7) (x:=.agg (bg jq bB)) (l:=bg jq bB) h' rfl rfl rfl,bS (n:=7) (aN _) rfl]
    exact hbad n _ hg hn (k'.new _ (by omega))
   refine aT (fun zs M'=>zs=[]∧ag [] M M'∧M'.heap (b2 + 1)=some (.row (bg jq bB) false TE 0)) ?_ ?_
   ·rintro zs M' ⟨rfl,k',h'⟩
    exact fin M' 1 (by decide) k' h'
   ·intro J hJ
    rw[aP,aA (i:=0 + 6) (x:=dv) r2 rfl,aR.len Tg,iQ]
    refine aD (fun _=>?_) (fun _=>hJ [] M6 ⟨rfl,k06,r4⟩)
    rw[bS (n:=7) r2 rfl,aX,dh (n:=7) (x:=.agg (bg e dv)) (l:=[(N .i64 0),(N .u64 0),(N .i64 0),(St []),(St []),(St []),(.sc (.slice none 0 0))]) (RM.aQ _) rfl rfl (xH Tg)]
    have k7:ag [] M6 ((M6.push (.row [(N .i64 0),(N .u64 0),(N .i64 0),(St []),(St []),(St []),(.sc (.slice none 0 0))] false TE 0)).put M6.next (.row (AV.agg (bg e dv)).cells false TE 0)):=((ag.refl _ _).push _).new _ (Nat.le_refl _)
    have f7:((M6.push (.row [(N .i64 0),(N .u64 0),(N .i64 0),(St []),(St []),(St []),(.sc (.slice none 0 0))] false TE 0)).put M6.next (.row (AV.agg (bg e dv)).cells false TE 0)).heap M6.next=some (.row (bg e dv) false TE 0):=aN _
    have n7:M6.next<((M6.push (.row [(N .i64 0),(N .u64 0),(N .i64 0),(St []),(St []),(St []),(.sc (.slice none 0 0))] false TE 0)).put M6.next (.row (AV.agg (bg e dv)).cells false TE 0)).next:=by rw[gJ]; simp[RM.push]
    generalize (M6.push (.row [(N .i64 0),(N .u64 0),(N .i64 0),(St []),(St []),(St []),(.sc (.slice none 0 0))] false TE 0)).put M6.next (.row (AV.agg (bg e dv)).cells false TE 0)=M7 at *
    generalize hb8:M6.next=b8 at *
    rw[aP,dV (i:=0 + 6) f7 (by rw[Rt]; decide) rfl rfl,Vs]
    have k8:ag [] M6 (M7.put b8 (.row (bg e bB) false TE 0)):=k7.put _ (.inl (by omega))
    have f8:(M7.put b8 (.row (bg e bB) false TE 0)).heap b8=some (.row (bg e bB) false TE 0):=aN _
    have n8:(M7.put b8 (.row (bg e bB) false TE 0)).next=M7.next:=rfl
    generalize M7.put b8 (.row (bg e bB) false TE 0)=M8 at *
    rw[bS (n:=7) f8 rfl]
    refine hG (kv:=bB) (ks:=[]) .nil fun M9 k9=>?_
    have k69:=k8.trans k9
    have s2:=k69.aK r2 (by omega) (by simp)
    have s4:=k69.aK r4 (by omega) (by simp)
    have agi:Sl aV M9 dv ks:=aR.keep Tg k69 (by simp)
    refine aeu (P:=fun M'=>ag [] M9 M') (p:=!decide (e.1∈ks)) (ag.refl _ _) (fun _ k' hk'=>?_) fun M10 k10=>?_
    ·rw[aP,aA (i:=0 + 6) (x:=dv) s2 rfl,bJ,yL s2]
     refine hC agi (by omega) fun M10 k10=>?_
     rw[bu]
     exact hk' M10 k10
    have n9:=k69.next
    have u4:=k10.aK s4 (by omega) (by simp)
    have ZX:=(k06.trans k69).trans k10
    refine aD (fun _=>fin M10 2 (by decide) ZX u4) (fun _=>hJ [] M10 ⟨rfl,ZX,u4⟩)
def setOf (d:ay) (c f a:List UInt8) : lh:=(d,(1,(c,(f,a))))
def CP (es:List aH) (c f:List UInt8) : List aH:=(es.filter fun x=>x.2.1 == c).filter fun x=>!AQ f x
def fI (es:List aH) (c f:List UInt8) : List ay:=nY pF ((CP es c f).map fun x=>x.1)
def JX (TS T:Nat) (c:ai) : Prop:=∀ {M:RM} {t:Nat} {B:Nat→Prop} {ps:List Pt} {es:List aH} {d:ay} {s f a:List UInt8} {Q:ak},mZ TS T B M t ps es→es.length≤50000 →
 (∀ kv M',f≠[]→di (setOf d s f a) (fI es s f)=true→Sl aV M' kv (fI es s f)→(∀ d∈aI kv,M.next≤d)→ag [] M M'→Q (.tup [.agg (bg (setOf d s f a) kv),N .i64 0]) M') →
 (∀ n M',(f=[]∨di (setOf d s f a) (fI es s f)=false)→n≠(0:Int)→ag [] M M'→Q (.tup [.agg (bg jq bB),N .i64 n]) M')→c [.ptr t 0,.agg (aO d),St s,St f,St a] M Q
theorem Qv {TS T TD TE:Nat} {co cm:ai} (hO:VM TS T co) (hM:Xl cm) : JX TS T fun args M Q=>∃ a0 a1 a2 a3 a4,args=[a0,a1,a2,a3,a4]∧uW TD TE co cm a0 a1 a2 a3 a4 M Q:=by
 intro M t B ps es d s f a Q hst hl hok hbad
 refine⟨_,_,_,_,_,rfl, ?_⟩
 unfold uW
 rw[dJ rfl (by show 1≤2; decide),aX,aX]
 have k1:ag [] M ((M.push (.row (aO d) false TD 0)).push (.row [(N .i64 0),(N .u64 0),(N .i64 0),(St []),(St []),(St []),(.sc (.slice none 0 0))] false TE 0)):=((ag.refl _ _).push _).push _
 have h1:((M.push (.row (aO d) false TD 0)).push (.row [(N .i64 0),(N .u64 0),(N .i64 0),(St []),(St []),(St []),(.sc (.slice none 0 0))] false TE 0)).heap M.next=some (.row (aO d) false TD 0):=iV (RM.aQ _) (by simp[RM.push])
 have h2:((M.push (.row (aO d) false TD 0)).push (.row [(N .i64 0),(N .u64 0),(N .i64 0),(St []),(St []),(St []),(.sc (.slice none 0 0))] false TE 0)).heap (M.next + 1)=some (.row (bg jq bB) false TE 0):=RM.aQ _
 have n1:((M.push (.row (aO d) false TD 0)).push (.row [(N .i64 0),(N .u64 0),(N .i64 0),(St []),(St []),(St []),(.sc (.slice none 0 0))] false TE 0)).next=M.next + 2:=rfl
 rw[show(M.push (.row (aO d) false TD 0)).next=M.next + 1 from rfl]
 generalize (M.push (.row (aO d) false TD 0)).push (.row [(N .i64 0),(N .u64 0),(N .i64 0),(St []),(St []),(St []),(.sc (.slice none 0 0))] false TE 0)=M1 at *
 have nM:M.next≤M1.next:=k1.next
 have st1:=hst.keep k1 (by simp) (by simp)
 generalize hb:M.next=b at *
 rw[bS (n:=2) h1 rfl,iD]
 refine⟨bg (setOf d s f a) bB,rfl, ?_⟩
 rw[aX,dh (n:=7) (x:=.agg (bg (setOf d s f a) bB)) (l:=[(N .i64 0),(N .u64 0),(N .i64 0),(St []),(St []),(St []),(.sc (.slice none 0 0))]) (RM.aQ _) rfl rfl rfl]
 have k2:ag [] M1 ((M1.push (.row [(N .i64 0),(N .u64 0),(N .i64 0),(St []),(St []),(St []),(.sc (.slice none 0 0))] false TE 0)).put M1.next (.row (AV.agg (bg (setOf d s f a) bB)).cells false TE 0)):=((ag.refl _ _).push _).new _ (Nat.le_refl _)
 have h3:((M1.push (.row [(N .i64 0),(N .u64 0),(N .i64 0),(St []),(St []),(St []),(.sc (.slice none 0 0))] false TE 0)).put M1.next (.row (AV.agg (bg (setOf d s f a) bB)).cells false TE 0)).heap M1.next=some (.row (bg (setOf d s f a) bB) false TE 0):=aN _
 have n2:M1.next<((M1.push (.row [(N .i64 0),(N .u64 0),(N .i64 0),(St []),(St []),(St []),(.sc (.slice none 0 0))] false TE 0)).put M1.next (.row (AV.agg (bg (setOf d s f a) bB)).cells false TE 0)).next:=by rw[gJ]; simp[RM.push]
 generalize (M1.push (.row [(N .i64 0),(N .u64 0),(N .i64 0),(St []),(St []),(St []),(.sc (.slice none 0 0))] false TE 0)).put M1.next (.row (AV.agg (bg (setOf d s f a) bB)).cells false TE 0)=M2 at *
 have g2:=k2.aK h2 (by omega) (by simp)
 have k02:=k1.trans k2
 rw[Ah]
 refine aD (fun hc=>?_) (fun hc=>?_)
 ·rw[iD]
  refine⟨bg jq bB,rfl, ?_⟩
  rw[dh (n:=7) (x:=.agg (bg jq bB)) (l:=bg jq bB) g2 rfl rfl rfl,bS (n:=7) (aN _) rfl]
  exact hbad 1 _ (.inl (by simpa using hc)) (by decide) (k02.new _ (by omega))
 ·have hf:f≠[]:=by simpa using hc
  rw[bS (n:=7) h3 rfl]
  refine hO (st1.keep k2 (by simp) (by simp)) hl fun v M3 hv k3=>?_
  have n3:=k3.next
  have h3':=k3.aK h3 n2 (by simp)
  have g3:=k3.aK g2 (by omega) (by simp)
  have hfl:(CP es s f).length≤50000:=Nat.le_trans (List.length_filter_le _ _) (Nat.le_trans (List.length_filter_le _ _) hl)
  rw[bS (n:=7) h3' rfl]
  refine⟨rfl,hM (xs:=CP es s f) hv hfl (fun kv M4 hg hkv hkb k4=>?_) (fun n M4 hg hn k4=>?_)⟩
  ·rw[fo,fu]
   have n4:=k4.next
   have g4:=k4.aK g3 (by omega) (by simp)
   rw[dh (n:=7) (x:=.agg (bg (setOf d s f a) kv)) (l:=bg jq bB) g4 rfl rfl (xH hkv),bS (n:=7) (aN _) rfl]
   have k04:=(k02.trans k3).trans k4
   have k5:ag [b + 1] M4 (M4.put (b + 1) (.row (AV.agg (bg (setOf d s f a) kv)).cells false TE 0)):=(ag.refl _ _).put _ (.inr (by simp))
   exact hok kv _ hf hg (aR.keep hkv k5 (fun d' hd hm=>by simp at hm; have:=hkb d' hd; omega)) (fun d' hd=>by have:=hkb d' hd; omega) (k04.bW k5 (fun d' hd=>by simp at hd; omega))
  ·rw[fo,fu]
   have n4:=k4.next
   have g4:=k4.aK g3 (by omega) (by simp)
   rw[dh (n:=7) (x:=.agg (bg jq bB)) (l:=bg jq bB) g4 rfl rfl rfl,bS (n:=7) (aN _) rfl]
   exact hbad n _ (.inr hg) hn (((k02.trans k3).trans k4).new _ (by omega))
structure Apart (w:List Ev) (s:uL) (c f a b cc:List UInt8) : Prop where
 ch:Ch w s
 good:∀ e∈w,di e.1 e.2=true
 one:w.Pairwise fun x y=>x.1.1≠y.1.1
 len:w.length≤30
 dev:∀ e∈w,e.1.1.1<12∧∀ k∈e.2,k.1<12
 hf:f≠[]
 gx:di (setOf (12,1) c f a) (fI s.2 c f)=true
 gy:di (setOf (13,1) c f b) (fI s.2 c f)=true
 hc:cc.length≤512
section
variable {w:List Ev} {s:uL} {c f a b cc:List UInt8}
end
structure SH (TS T:Nat) (M:RM) (t:Nat) (B:Nat→Prop) (s:uL) : Prop where
 st:mZ TS T B M t s.1 s.2
 lo:∀ d,B d→d<M.next
theorem SH.of {TS T t:Nat} {M:RM} {B:Nat→Prop} {ps:List Pt} {es:List aH} (h:mZ TS T B M t ps es) : SH TS T M t (fun d=>B d∧d<M.next) (ps,es):=⟨h.below,fun d hd=>hd.2⟩
structure ahw (TE:Nat) (M:RM) (b:Nat) (e:lh) (kv:AV) (ks:List ay) : Prop where
 lt:b<M.next
 row:M.heap b=some (.row (bg e kv) false TE 0)
 kills:Sl aV M kv ks
section
variable {TS T:Nat}
end
theorem oJ {M:RM} {v:AV} {l:List Ev} {S:Nat→Prop} (h:fG oC M v l S) {i:Nat} (hi:i<l.length) :
  ∃ b o kv,(∀ (kd:IntKind) (K:AV→Prop),ah v (N kd (i:Int)) 7 K=K (.ptr b o))∧M.loads b o 7=some (bg l[i].1 kv)∧Sl aV M kv l[i].2:=by
 obtain⟨b,o,cs,_,_,hidx,hld,ds,hcs,kv,hds,hkv⟩:=h.at (i:=i) 7 (i:Int) hi rfl rfl
 subst hds
 subst hcs
 exact⟨b,o,kv,hidx,hld,fG.sl hkv⟩
theorem tF {M:RM} {b o k j:Nat} {cs:List AV} {x:AV} (h:M.loads b o k=some cs) (hj:cs[j]?=some x) {K:AV→Prop} (hK:K x) : az M (.ptr b (o + j)) K:=by
 rw[gL]
 exact⟨x,rZ h hj,hK⟩
def Od (c:ai) : Prop:=∀ {M:RM} {x y:aH} {Q:ak},(∀ M',ag [] M M'→Q (Bo (fO x y)) M')→c [.agg (aF.cells x),.agg (aF.cells y)] M Q
theorem abD {x y:aH} (h:x.2.1≠y.2.1) : fO x y=decide (x.2.1<y.2.1):=by
 rw[fO,lex]; simp[h]
theorem abG {x y:aH} (h:x.2.1=y.2.1) (h2:x.2.2.1≠y.2.2.1) : fO x y=decide (x.2.2.1<y.2.2.1):=by
 rw[fO,lex,lex]; simp[h,h2,List.lt_irrefl]
theorem abu {x y:aH} (h:x.2.1=y.2.1) (h2:x.2.2.1=y.2.2.1) : fO x y=nX x.1 y.1:=by
 rw[fO,lex,lex]; simp[h,h2,List.lt_irrefl,nX,lex]
theorem Ud {TN:Nat} {cl:ai} (hl:wV cl) : Od fun args M Q=>∃ a0 a1,args=[a0,a1]∧JA TN cl a0 a1 M Q:=by
 intro M x y Q hQ
 refine⟨_,_,rfl, ?_⟩
 unfold JA
 rw[dJ rfl (by rw[aF.len]; decide),aX,dJ rfl (by rw[aF.len]; decide),aX]
 have k0:ag [] M ((M.push (.row (aF.cells x) false TN 0)).push (.row (aF.cells y) false TN 0)):=((ag.refl _ _).push _).push _
 have hx:((M.push (.row (aF.cells x) false TN 0)).push (.row (aF.cells y) false TN 0)).heap M.next=some (.row (aF.cells x) false TN 0):=iV (RM.aQ _) (by simp[RM.push])
 have hy:((M.push (.row (aF.cells x) false TN 0)).push (.row (aF.cells y) false TN 0)).heap (M.push (.row (aF.cells x) false TN 0)).next=some (.row (aF.cells y) false TN 0):=RM.aQ _
 generalize (M.push (.row (aF.cells x) false TN 0)).push (.row (aF.cells y) false TN 0)=M1 at *
 generalize (M.push (.row (aF.cells x) false TN 0)).next=b2 at *
 rw[aP,aA (i:=0 + 2) (x:=St x.2.1) hx rfl,aP,aA (i:=0 + 2) (x:=St y.2.1) hy rfl,jF]
 refine aD (fun h=>?_) (fun h=>?_)
 ·have h:x.2.1≠y.2.1:=by simpa using h
  rw[aP,aA (i:=0 + 2) (x:=St x.2.1) hx rfl,aP,aA (i:=0 + 2) (x:=St y.2.1) hy rfl,Jy,qA,← abD h]
  exact hQ _ k0
 have h:x.2.1=y.2.1:=by simpa using h
 rw[aP,aA (i:=0 + 3) (x:=St x.2.2.1) hx rfl,aP,aA (i:=0 + 3) (x:=St y.2.2.1) hy rfl,jF]
 refine aD (fun h2=>?_) (fun h2=>?_)
 ·have h2:x.2.2.1≠y.2.2.1:=by simpa using h2
  rw[aP,aA (i:=0 + 3) (x:=St x.2.2.1) hx rfl,aP,aA (i:=0 + 3) (x:=St y.2.2.1) hy rfl,Jy,qA,← abG h h2]
  exact hQ _ k0
 have h2:x.2.2.1=y.2.2.1:=by simpa using h2
 rw[bJ,Sv hx,bJ,Sv hy]
 refine hl fun M2 k2=>?_
 rw[← abu h h2]
 exact hQ _ (k0.trans k2)
theorem MR {α:Type} {p:α→Bool} : ∀ {l:List α} {i:Nat},i≤l.length→(∀ k (hk:k<l.length),k<i→p l[k]=true)→(∀ (hi:i<l.length),p l[i]=false)→(l.takeWhile p).length=i
 | [],i,h,_,_=>by simp at h; subst h; rfl
 | x :: l,0,_,_,h2=>by
   have:=h2 (by simp)
   simp only[List.getElem_cons_zero] at this
   simp[this]
 | x :: l,i + 1,h,h1,h2=>by
   have hx:=h1 0 (by simp) (by omega)
   simp only[List.getElem_cons_zero] at hx
   have:=MR (p:=p) (l:=l) (i:=i) (by simpa using h) (fun k hk hki=>by have:=h1 (k + 1) (by simp; omega) (by omega); simpa using this) (fun hi=>by have:=h2 (by simp; omega); simpa using this)
   rw[List.takeWhile_cons_of_pos hx,List.length_cons,this]
def UJ (x:aH) (l:List aH) : Nat:=(l.takeWhile fun y=>fO y x).length
def Ee (l:List aH) (x:aH) : List aH:=l.take (UJ x l)++x :: l.drop (UJ x l)
theorem aaV (l:List aH) (x:aH) : (Ee l x).length=l.length + 1:=by
 unfold Ee
 have:(l.take (UJ x l)++l.drop (UJ x l)).length=l.length:=by rw[List.take_append_drop]
 simp only[List.length_append,List.length_cons] at *
 omega
def Gq (TN:Nat) (c:ai) : Prop:=∀ {M:RM} {base:Nat} {v:AV} {l:List aH} {x:aH} {Q:ak},Ow aF M base TN v l→base≤M.next→l.length≤100000→(∀ v' M',Ow aF M' base TN v' (Ee l x)→ag [] M M'→Q v' M')→c [v,.agg (aF.cells x)] M Q
theorem PV {T:Nat} {cb:ai} (ha:Od cb) : Gq T fun args M Q=>∃ a0 a1,args=[a0,a1]∧DD T cb a0 a1 M Q:=by
 intro M base v l d Q ho hb hl hQ
 refine⟨_,_,rfl, ?_⟩
 unfold DD
 simp only[dP,dz]
 rw[dJ rfl (by rw[aF.len]; decide),aX]
 have h3:(M.push (.row (aF.cells d) false T 0)).heap M.next=some (.row (aF.cells d) false T 0):=RM.aQ _
 have k12:ag [] M (M.push (.row (aF.cells d) false T 0)):=(ag.refl _ _).push _
 have n1:(M.push (.row (aF.cells d) false T 0)).next=M.next + 1:=rfl
 generalize M.push (.row (aF.cells d) false T 0)=M2 at *
 have ho2:=ho.keep k12 (by simp)
 unfold Ee at hQ
 refine aG (fun m ys M3=>∃ (i:Nat),m=l.length - i∧ys=[N .i64 (i:Int)]∧i≤l.length∧ag [] M2 M3∧∀ k (hk:k<l.length),k<i→fO l[k] d=true) _
  ⟨0,rfl,rfl,Nat.zero_le _,ag.refl _ _,fun k hk h=>by omega⟩ ?_
 rintro next m ys M3 hnext ⟨i,rfl,rfl,hi,k3,hah⟩
 dsimp only[aa]
 have k13:=k12.trans k3
 have ho3:=ho2.keep k3 (by simp)
 have s3:Sl aF M3 v l:=ho3.il
 have n3:=k3.next
 have h33:=k3.aK h3 (by omega) (by simp)
 have fin:∀ M3,ag [] M2 M3→UJ d l=i→(dW T 0 [(N .i64 0),(N .u64 0),(St []),(St []),(St [])] [] fun ag4 afy=>sP ag4 afy M3 fun t24 adZ b_25=>gq (bZ 5 v none (some (N .i64 (i:Int))) none) fun t27=>av adZ (.ptr M.next 0) 5 fun t29 =>
   dW T 1 [(N .i64 0),(N .u64 0),(St []),(St []),(St [])] [(0,5,t29)] fun agy agP=>sP agy agP adZ fun t30 agA agz=>gq (bZ 5 v (some (N .i64 (i:Int))) none none) fun t34=>appW T 5 64 [(N .i64 0),(N .u64 0),(St []),(St []),(St [])] false t24 t27 agA fun t28 aal =>
   av aal (.ptr M.next 0) 5 fun adD=>(adD=t29∧dW T 1 [(N .i64 0),(N .u64 0),(St []),(St []),(St [])] [(0,5,t29)] fun agC af1=>(A7 agz aal agC af1 t30∧gq (bZ 5 v (some (N .i64 (i:Int))) none none) fun adq=>(adq=t34∧appW T 5 64 [(N .i64 0),(N .u64 0),(St []),(St []),(St [])] false t28 t30 aal fun t31 ag3 =>
   gq (bZ 5 v (some (N .i64 (i:Int))) none none) fun ad3=>(ad3=t34∧appW T 5 64 [(N .i64 0),(N .u64 0),(St []),(St []),(St [])] false t31 t34 ag3 fun t35 afB=>Q t35 afB))))):=fun M3 k3 hat=>by
  have k13:=k12.trans k3
  have ho3:=ho2.keep k3 (by simp)
  have n3:=k3.next
  have h33:=k3.aK h3 (by omega) (by simp)
  obtain⟨v1,v2,e1,s1,e2,s2,hb1,hb2⟩:=U1 (E:=aF) (k:=i) (by decide) ho3 hi
  have e1:bZ 5 v none (some (N .i64 (i:Int))) none=some v1:=e1
  have e2:bZ 5 v (some (N .i64 (i:Int))) none none=some v2:=e2
  have hvb:=ho3.blk
  rw[ae4,nL,e1,dO]
  have o4:Ow aF (M3.push (.row [] false T 0)) M3.next T (.slc M3.next 0 0 (.ex 0)) []:=Ow.lit aF M3
  have k4:ag [] M3 (M3.push (.row [] false T 0)):=(ag.refl _ _).push _
  have n4:(M3.push (.row [] false T 0)).next=M3.next + 1:=rfl
  generalize M3.push (.row [] false T 0)=M4 at *
  have h4:=k4.aK h33 (by omega) (by simp)
  rw[bS (n:=5) h4 rfl,mE (x:=.agg (aF.cells d)) (size:=5) rfl (nC d) rfl,nL,e2,dO]
  have h5:(M4.push (.row (AV.agg (aF.cells d)).cells false T 0)).heap M4.next=some (.row (aF.cells d) false T 0):=RM.aQ _
  have k5:ag [] M4 (M4.push (.row (AV.agg (aF.cells d)).cells false T 0)):=(ag.refl _ _).push _
  have n5:(M4.push (.row (AV.agg (aF.cells d)).cells false T 0)).next=M4.next + 1:=rfl
  generalize M4.push (.row (AV.agg (aF.cells d)).cells false T 0)=M5 at *
  have k45:=k4.trans k5
  refine zD (E:=aF) (ys:=l.take i) (o4.keep k5 (by simp)) (by omega) (by decide) (aR.keep s1 k45 (by simp)) (by simp; omega) (by simp; omega) ?_
  intro v6 M6 o6 k6 n6 _
  have hk6:∀ c,c<M3.next→c ∉ aI (.slc M3.next 0 0 (.ex 0)):=fun c hc hm=>by simp[aI] at hm; omega
  have h6:=k6.aK (k5.aK h4 (by omega) (by simp)) (by omega) (hk6 _ (by omega))
  have h66:=k6.aK h5 (by omega) (by simp[aI]; omega)
  rw[bS (n:=5) h6 rfl]
  refine⟨rfl, ?_⟩
  rw[mE (x:=.agg (aF.cells d)) (size:=5) rfl (nC d) rfl]
  refine⟨⟨h66,rfl⟩, ?_⟩
  rw[dO]
  refine⟨rfl, ?_⟩
  rw[List.nil_append] at o6
  have sd:Sl aF M6 (.slc M4.next 0 1 (.ex 1)) [d]:=.slc _ _ _ _ _ (by omega) (by rw[RM.dF h66 (by show 0 + 1 * 5≤5; omega)]; rfl)
  refine zD (E:=aF) (ys:=[d]) o6 (by omega) (by decide) sd (by simp; omega) (by simp; omega) ?_
  intro v7 M7 o7 k7 n7 _
  rw[dO]
  refine⟨rfl, ?_⟩
  have hv6:=o6.blk
  have hv7:=o7.blk
  have s27:Sl aF M7 v2 (l.drop i):=by
   refine aR.keep (aR.keep (aR.keep s2 k45 (by simp)) k6 fun c hc=>?_) k7 fun c hc hm=>?_
   ·exact hk6 c (hvb c (hb2 c hc)).2
   ·have:=(hv6 c hm).1
    have:=(hvb c (hb2 c hc)).2
    omega
  refine zD (E:=aF) (ys:=l.drop i) o7 (by omega) (by decide) s27 (by simp; omega) (by simp; omega) ?_
  intro v8 M8 o8 k8 n8 _
  refine hQ v8 M8 ?_ ?_
  ·rw[hat]
   have:=o8.mono (base':=base) (by have:=k13.next; omega)
   have e:l.take i++[d]++l.drop i=l.take i++d :: l.drop i:=by simp
   rw[e] at this
   exact this
  ·have a1:ag [] M M5:=k13.trans k45
   have:=k13.next
   refine((a1.bW k6 fun c hc=>.inl (by simp[aI] at hc; omega)).bW k7 fun c hc=>.inl (by have:=(hv6 c hc).1; omega)).bW k8 fun c hc=>.inl (by have:=(hv7 c hc).1; omega)
 rw[aR.len s3,dD]
 by_cases hlt:i<l.length
 ·rw[show decide ((i:Int)<(l.length:Int))=true by simpa using hlt,cB]
  dsimp only
  rw[pU s3 hlt,bS (n:=5) h33 rfl]
  refine ha fun M4 k4=>?_
  rw[dN]
  refine aD (fun hg=>?_) (fun hg=>?_)
  ·rw[cZ,fZ (by omega)]
   refine hnext _ _ _ (by omega) ⟨i + 1,rfl,rfl,by omega,k3.trans k4,fun k hk hki=>?_⟩
   rcases Nat.lt_or_ge k i with h | h
   ·exact hah k hk h
   ·have:k=i:=by omega
    subst this; exact hg
  ·exact fin M4 (k3.trans k4) (MR hi hah fun _=>hg)
 ·rw[show decide ((i:Int)<(l.length:Int))=false by simp; omega,bI]
  dsimp only
  rw[cz,bz]
  exact fin M3 k3 (MR hi hah fun h=>absurd h hlt)
theorem aeY {M:RM} {c p:Bool} {f:KR→Prop} {P:RM→Prop} {G:AV→RM→Prop} (h0:P M) (hf:c=true→∀ k:KR,(∀ M',P M'→k (Bo p) M' none)→f k) (hG:∀ M',P M'→G (Bo (c && p)) M') :
  ae (Bo c) true f (fun k=>k .undef M none) (fun t M' b=>aL (Bo c) t (Bo false) fun u=>G u M'):=by
 cases c with
 | false=>rw[jd]; dsimp only; rw[cz]; exact hG M h0
 | true=>rw[iK]; exact hf rfl _ fun M' h=>by rw[dN]; exact hG M' h
theorem aeR {M:RM} {c q r:Bool} {f1:KR→Prop} {f2:RM→KR→Prop} {G:AV→RM→Prop} (h1:c=true→∀ k:KR,k (Bo q) M none→f1 k) (h2:c=true→q=true→∀ k:KR,k (Bo r) M none→f2 M k) (hG:G (Bo (c && !(q && r))) M) :
  ae (Bo c) true f1 (fun k=>k .undef M none) (fun t45 M1 b1=>ae t45 true (f2 M1) (fun k=>k .undef M1 none) fun t56 M2 b2=>ae (Bo c) true (fun k'=>aL t45 t56 (Bo false) fun t57=>cK t57 fun t58=>k' t58 M2 none) (fun k=>k .undef M2 none) fun t58 M3 b3=>aL (Bo c) t58 (Bo false) fun t59=>G t59 M3):=by
 cases c with
 | false=>rw[jd]; dsimp only; rw[QB]; dsimp only; rw[jd]; dsimp only; rw[cz]; exact hG
 | true =>
   rw[iK]
   refine h1 rfl _ ?_
   cases q with
   | false=>rw[jd]; dsimp only; rw[iK]; dsimp only; rw[cz,bu]; rw[dN]; exact hG
   | true =>
     rw[iK]
     refine h2 rfl rfl _ ?_
     rw[iK]; dsimp only; rw[dN,bu,dN]; exact hG
def Qg (e:Ev) (i k:Nat) (f:Ev) : Bool:=!decide (e.1.1∈f.2) && !(decide (k<i) && decide (f.1.1=e.1.1))
def wF (l:List Ev) (e:Ev) (i:Nat) : Nat→Bool
 | 0=>e.1.2.1 == 1
 | k + 1=>wF l e i k && (match l[k]? with | some f=>Qg e i k f | none=>true)
def nO (l:List Ev) : Nat→List aH
 | 0=>[]
 | i + 1=>match l[i]? with
   | some e=>if wF l e i l.length then Ee (nO l i) (jk e.1) else nO l i
   | none=>nO l i
theorem Rn (l:List Ev) : ∀ i,(nO l i).length≤i
 | 0=>Nat.le_refl _
 | i + 1=>by
   have:=Rn l i
   rw[nO]
   split
   ·split
    ·rw[aaV]; omega
    ·omega
   ·omega
def Cj (TN:Nat) (c:ai) : Prop:=∀ {M:RM} {v:AV} {l:List Ev} {S:Nat→Prop} {Q:ak},fG oC M v l S→(∀ d,S d→d<M.next)→l.length≤10000→(∀ e∈l,e.2.length≤1000000) →
 (∀ v' M',Ow aF M' M.next TN v' (nO l l.length)→ag [] M M'→Q v' M')→c [v] M Q
theorem K6 {TN:Nat} {ch cp:ai} (hh:GX ch) (hp:Gq TN cp) : Cj TN fun args M Q=>∃ a0,args=[a0]∧Gt TN ch cp a0 M Q:=by
 intro M v l S Q hv hS hlen hks hQ
 refine⟨_,rfl, ?_⟩
 unfold Gt
 simp only[iN,dP,dz,dK,bH]
 refine⟨_,_,_,_,rfl,rfl,by decide,by decide,by decide,by decide, ?_⟩
 dsimp only
 rw[aX]
 have k0:ag [] M (M.push (.row (bU [(N .i64 0),(N .u64 0),(St []),(St []),(St [])] 0) false TN 0)):=(ag.refl _ _).push _
 refine aG (fun z ys M3=>∃ (i:Nat) (dv:AV),z=l.length - i∧ys=[dv,N .i64 (i:Int)]∧i≤l.length∧ag [] M M3∧Ow aF M3 M.next TN dv (nO l i)) _
  ⟨0,_,rfl,rfl,Nat.zero_le _,k0,Own.lit M (Nat.le_refl _)⟩ ?_
 rintro next z ys M3 hnext ⟨i,dv,rfl,rfl,hil,k3,o3⟩
 dsimp only[aa]
 have hv3:=hv.keep k3 (by simp)
 rw[hv3.len,dC]
 refine aD (fun hlt=>?_) (fun hge=>?_)
 ·have hlt:i<l.length:=of_decide_eq_true hlt
  have n3:=k3.next
  have hrl:=Rn l i
  refine aT (fun zs M'=>∃ dv',zs=[dv']∧ag [] M M'∧Ow aF M' M.next TN dv' (nO l (i + 1))) ?_ ?_
  ·rintro zs M' ⟨dv',rfl,k',o'⟩
   dsimp only[aa]
   rw[add1 (by omega)]
   exact hnext _ _ _ (by omega) ⟨i + 1,dv',rfl,rfl,by omega,k',o'⟩
  ·intro J hJ
   obtain⟨b,o,kv,hidx,hld,hkv⟩:=oJ hv3 hlt
   rw[hidx,aP]
   refine tF (j:=2) hld (x:=N .i64 l[i].1.2.1) rfl ?_
   rw[bV,show(l[i].1.2.1 == 1)=wF l l[i] i 0 from rfl]
   refine aG (fun z ys M4=>∃ k:Nat,z=l.length - k∧ys=[Bo (wF l l[i] i k),N .i64 (k:Int)]∧k≤l.length∧ag [] M3 M4) _
    ⟨0,rfl,rfl,Nat.zero_le _,ag.refl _ _⟩ ?_
   rintro fq z ys M4 dx ⟨k,rfl,rfl,hk,k4⟩
   dsimp only[aa]
   have hv4:=hv3.keep k4 (by simp)
   rw[hv4.len,dC]
   refine aD (fun hlt2=>?_) (fun rD=>?_)
   ·have hlt2:k<l.length:=of_decide_eq_true hlt2
    refine aeY (P:=fun M5=>ag [] M3 M5) (p:=!decide (l[i].1.1∈l[k].2)) k4 (fun _ K hK=>?_) fun M5 k5=>?_
    ·obtain⟨b1,o1,kv1,yJ,Jp,adu⟩:=oJ hv4 hlt2
     obtain⟨b2,o2,kv2,r9,xO,acM⟩:=oJ hv4 hlt
     rw[yJ,aP]
     refine tF (j:=6) Jp (x:=kv1) rfl ?_
     rw[r9,aP,Nat.add_zero,dQ,uy xO 2 (by decide)]
     refine⟨_,rfl, ?_⟩
     refine hh adu (hks _ (List.getElem_mem hlt2)) fun M6 k6=>?_
     rw[bu]
     exact hK M6 (k4.trans k6)
    ·have hv5:=hv3.keep k5 (by simp)
     refine aeR (q:=decide (k<i)) (r:=decide (l[k].1.1=l[i].1.1)) (fun _ K hK=>?_) (fun _ _ K hK=>?_) ?_
     ·rw[dC]; exact hK
     ·obtain⟨b1,o1,kv1,yJ,Jp,adu⟩:=oJ hv5 hlt2
      obtain⟨b2,o2,kv2,r9,xO,acM⟩:=oJ hv5 hlt
      rw[yJ,aP,Nat.add_zero,dQ,uy Jp 2 (by decide)]
      refine⟨_,rfl, ?_⟩
      rw[r9,aP,Nat.add_zero,dQ,uy xO 2 (by decide)]
      refine⟨_,rfl, ?_⟩
      rw[kY rfl rfl (show dE [1,1] (List.take 2 (bg l[k].1 kv1)) (List.take 2 (bg l[i].1 kv2))=some (decide (l[k].1.1=l[i].1.1)) from Az _ _),Bool.bne_false]
      exact hK
     ·rw[add1 (by omega)]
      refine dx _ _ _ (by omega) ⟨k + 1,rfl, ?_,by omega,k5⟩
      rw[wF,List.getElem?_eq_getElem hlt2]
      simp only[Qg,Bool.and_assoc]
   ·have hke:k=l.length:=by
     have:¬ k<l.length:=of_decide_eq_false rD
     omega
    subst hke
    obtain⟨b2,o2,kv2,r9,xO,acM⟩:=oJ hv4 hlt
    have n4:=k4.next
    have o4:=o3.keep k4 (by simp)
    refine aD (fun hc=>?_) (fun hc=>?_)
    ·rw[r9,aP,Nat.add_zero,dQ,uy xO 2 (by decide)]
     refine⟨_,rfl, ?_⟩
     rw[r9,aP]
     refine tF (j:=3) xO (x:=St l[i].1.2.2.1) rfl ?_
     rw[r9,aP]
     refine tF (j:=4) xO (x:=St l[i].1.2.2.2.1) rfl ?_
     rw[r9,aP]
     refine tF (j:=5) xO (x:=St l[i].1.2.2.2.2) rfl ?_
     rw[iD]
     refine⟨aF.cells (jk l[i].1),rfl, ?_⟩
     refine hp o4 (by omega) (by omega) fun v' M5 o5 k5=>?_
     refine hJ _ _ ⟨v',rfl,(k3.trans k4).trans k5, ?_⟩
     rw[nO,List.getElem?_eq_getElem hlt]
     simp only[hc,if_true]
     exact o5
    ·refine hJ _ _ ⟨dv,rfl,k3.trans k4, ?_⟩
     rw[nO,List.getElem?_eq_getElem hlt]
     simp only[hc]
     exact o4
 ·have he:i=l.length:=by
   have:¬ i<l.length:=of_decide_eq_false hge
   omega
  subst he
  exact hQ dv M3 o3 k3
def nm (es:List aH) (i:Nat) : List UInt8:=(es.getD i ((0,0),([],[],[]))).2.1
theorem DC {es:List aH} {i:Nat} (h:i<es.length) : nm es i=es[i].2.1:=by rw[nm,zG h]
def iw (es:List aH) : Nat→List (List UInt8)
 | 0=>[]
 | i + 1=>if i=0∨nm es (i - 1)≠nm es i then iw es i++[nm es i] else iw es i
theorem Eu (es:List aH) : ∀ i,(iw es i).length≤i
 | 0=>Nat.le_refl _
 | i + 1=>by
   have:=Eu es i
   rw[iw]
   split
   ·simp; omega
   ·omega
theorem Bu (es:List aH) : ∀ i,(iw es (i + 1)).getLast?=some (nm es i)
 | 0=>by rw[iw,if_pos (.inl rfl)]; simp
 | i + 1=>by
   rw[iw]
   split
   ·simp
   ·rename_i h
    have h:nm es i=nm es (i + 1):=by
     apply Classical.byContradiction; intro hh; exact h (.inr (by simpa using hh))
    rw[Bu es i,h]
theorem aaN (es:List aH) (i:Nat) : (iw es (i + 1))≠[]:=fun h=>by
 have:=Bu es i
 rw[h] at this; cases this
def FK (TS T T9:Nat) (c:ai) : Prop:=∀ {M:RM} {t:Nat} {B:Nat→Prop} {ps:List Pt} {es:List aH} {Q:ak},mZ TS T B M t ps es→es.length≤50000→(∀ v M',Ow ES M' M.next T9 v (iw es es.length)→ag [] M M'→Q v M')→c [.ptr t 0] M Q
theorem PI {TS T TN T9:Nat} : FK TS T T9 fun args M Q=>∃ a0,args=[a0]∧sS TN T9 a0 M Q:=by
 intro M t B ps es Q hst hlen hQ
 refine⟨_,rfl, ?_⟩
 unfold sS
 simp only[iN,dP,dz,dK,bH]
 obtain⟨s0,v,r1,_,r3,_,_⟩:=hst.row
 rw[aU,aP,aA (i:=0 + 1) r1 rfl,aR.len r3]
 refine aG (fun z ys M3=>∃ (i:Nat) (dv:AV),z=es.length - i∧ys=[dv,N .i64 (i:Int)]∧i≤es.length∧ag [] M M3∧Ow ES M3 M.next T9 dv (iw es i)) _
  ⟨0,bB,rfl,rfl,Nat.zero_le _,ag.refl _ _,.nil⟩ ?_
 rintro next z ys M3 hnext ⟨i,dv,rfl,rfl,hil,k3,o3⟩
 dsimp only[aa]
 rw[dC]
 refine aD (fun hlt=>?_) (fun hge=>?_)
 ·have hlt:i<es.length:=of_decide_eq_true hlt
  have n3:=k3.next
  have hcl:=Eu es i
  refine aT (fun zs M'=>∃ dv',zs=[dv']∧ag [] M M'∧Ow ES M' M.next T9 dv' (iw es (i + 1))) ?_ ?_
  ·rintro zs M' ⟨dv',rfl,k',o'⟩
   dsimp only[aa]
   rw[add1 (by omega)]
   exact hnext _ _ _ (by omega) ⟨i + 1,dv',rfl,rfl,by omega,k',o'⟩
  intro J hJ
  rw[pU (aR.keep r3 k3 (by simp)) hlt]
  have hx:=DC hlt
  generalize es[i]=x at *
  rw[aX,dh (n:=5) (x:=.agg (aF.cells x)) (l:=[(N .i64 0),(N .u64 0),(St []),(St []),(St [])]) (RM.aQ _) rfl rfl (nC x)]
  have k4:ag [] M3 ((M3.push (.row [(N .i64 0),(N .u64 0),(St []),(St []),(St [])] false TN 0)).put M3.next (.row (AV.agg (aF.cells x)).cells false TN 0)):=((ag.refl _ _).push _).new _ (Nat.le_refl _)
  have h4:((M3.push (.row [(N .i64 0),(N .u64 0),(St []),(St []),(St [])] false TN 0)).put M3.next (.row (AV.agg (aF.cells x)).cells false TN 0)).heap M3.next=some (.row (aF.cells x) false TN 0):=aN _
  generalize (M3.push (.row [(N .i64 0),(N .u64 0),(St []),(St []),(St [])] false TN 0)).put M3.next (.row (AV.agg (aF.cells x)).cells false TN 0)=M4 at *
  generalize M3.next=b at *
  have o4:=o3.keep k4 (by simp)
  have k04:=k3.trans k4
  rw[aR.len o4.il,bV]
  refine Qr (P:=fun M'=>M'=M4) (p:=decide (nm es (i - 1)≠nm es i)) rfl (fun hc K hK=>?_) fun M5 hM5=>?_
  ·have hi0:i≠0:=fun e=>by
    subst e; simp[iw] at hc
   have hlp:0<(iw es i).length:=by
    simp only[beq_eq_false_iff_ne,ne_eq] at hc; omega
   rw[aR.len o4.il,aZ hlp (by omega)]
   obtain⟨b1,o1,_,_,hidx,hcell⟩:=Sl.Gd (E:=ES) (i:=(iw es i).length - 1) o4.il (((iw es i).length - 1:Nat) : Int) (by omega) rfl rfl
   have hlast:(iw es i)[(iw es i).length - 1]'(by omega)=nm es (i - 1):=by
    have:=Bu es (i - 1)
    rw[show i - 1 + 1=i by omega,List.getLast?_eq_getElem?,List.getElem?_eq_getElem (by omega)] at this
    exact Option.some.inj this
   rw[hidx,gL,hcell (St (nm es (i - 1))) (by rw[hlast]; rfl)]
   simp only[Option.some.injEq,exists_eq_left']
   rw[aP,aA (i:=0 + 2) (x:=St x.2.1) h4 rfl,jF]
   refine hK M4 rfl |> fun h=>?_
   rw[show(nm es (i - 1) != x.2.1)=decide (nm es (i - 1)≠nm es i) by rw[hx]; by_cases h:nm es (i - 1)=x.2.1 <;> simp[h]]
   exact h
  ·subst hM5
   have hc0:((((iw es i).length:Nat) : Int) == 0)=decide (i=0):=by
    cases i with
    | zero=>simp[iw]
    | succ i =>
      have:=List.length_pos_iff.2 (aaN es i)
      rw[decide_eq_false (by omega),beq_eq_false_iff_ne]
      omega
   rw[hc0]
   refine aD (fun hc=>?_) (fun hc=>?_)
   ·simp only[Bool.or_eq_true,decide_eq_true_eq] at hc
    rw[aP,aA (i:=0 + 2) (x:=St x.2.1) h4 rfl,mE (x:=St x.2.1) (size:=1) rfl rfl rfl,aX]
    refine qW (E:=ES) (a:=x.2.1) o4 (by have:=k04.next; omega) (by decide) (by omega) (by omega) fun v2 M7 o7 k7 n7 _=>?_
    refine hJ _ _ ⟨v2,rfl,k04.bW k7 (fun d hd=>.inl (o4.blk d hd).1), ?_⟩
    rw[iw,if_pos hc,hx]
    exact o7
   ·refine hJ _ _ ⟨dv,rfl,k04, ?_⟩
    rw[iw,if_neg (by simpa using hc)]
    exact o4
 ·have he:i=es.length:=by
   have:¬ i<es.length:=of_decide_eq_false hge
   omega
  subst he
  exact hQ dv M3 o3 k3
def Al (T9:Nat) (c:ai) : Prop:=∀ {M:RM} {v:AV} {es:List aH} {Q:ak},Sl aF M v es→es.length≤50000→(∀ v' M',Ow ES M' M.next T9 v' (iw es es.length)→ag [] M M'→Q v' M')→c [v] M Q
theorem JV {T9:Nat} : Al T9 fun args M Q=>∃ a0,args=[a0]∧DY T9 a0 M Q:=by
 intro M v es Q hv hlen hQ
 refine⟨_,rfl, ?_⟩
 unfold DY
 simp only[iN,dP,dz,dK,bH]
 refine⟨_,_,_,_,rfl,rfl,by decide,by decide,by decide,by decide, ?_⟩
 dsimp only
 rw[aX]
 have k0:ag [] M (M.push (.row (bU [(St [])] 0) false T9 0)):=(ag.refl _ _).push _
 refine aG (fun z ys M3=>∃ (i:Nat) (dv:AV),z=es.length - i∧ys=[dv,N .i64 (i:Int)]∧i≤es.length∧ag [] M M3∧Ow ES M3 M.next T9 dv (iw es i)) _
  ⟨0,_,rfl,rfl,Nat.zero_le _,k0,Own.lit M (Nat.le_refl _)⟩ ?_
 rintro next z ys M3 hnext ⟨i,dv,rfl,rfl,hil,k3,o3⟩
 dsimp only[aa]
 have hv3:Sl aF M3 v es:=aR.keep hv k3 (by simp)
 rw[aR.len hv3,dC]
 refine aD (fun hlt=>?_) (fun hge=>?_)
 ·have hlt:i<es.length:=of_decide_eq_true hlt
  have n3:=k3.next
  have hcl:=Eu es i
  have hx:=DC hlt
  refine aT (fun zs M'=>∃ dv',zs=[dv']∧ag [] M M'∧Ow ES M' M.next T9 dv' (iw es (i + 1))) ?_ ?_
  ·rintro zs M' ⟨dv',rfl,k',o'⟩
   dsimp only[aa]
   rw[add1 (by omega)]
   exact hnext _ _ _ (by omega) ⟨i + 1,dv',rfl,rfl,by omega,k',o'⟩
  intro J hJ
  rw[bV]
  refine Qr (P:=fun M'=>M'=M3) (p:=decide (nm es (i - 1)≠nm es i)) rfl (fun hc K hK=>?_) fun M5 hM5=>?_
  ·have hi0:1≤i:=by
    simp only[beq_eq_false_iff_ne,ne_eq] at hc; omega
   obtain⟨b1,o1,_,_,yJ,Jp⟩:=Sl.at (E:=aF) (i:=i) hv3 5 (i:Int) hlt rfl rfl
   obtain⟨b2,o2,_,_,r9,xO⟩:=Sl.at (E:=aF) (i:=i - 1) hv3 5 ((i - 1:Nat) : Int) (by omega) rfl rfl
   rw[yJ,aP]
   refine tF (j:=2) Jp (x:=St es[i].2.1) rfl ?_
   rw[aZ hi0 (by omega),r9,aP]
   refine tF (j:=2) xO (x:=St (es[i - 1]'(by omega)).2.1) rfl ?_
   rw[jF,← DC hlt,← DC (show i - 1<es.length by omega),show(nm es i != nm es (i - 1))=decide (nm es (i - 1)≠nm es i) by by_cases h:nm es (i - 1)=nm es i <;> simp[h]; exact fun e=>h e.symm]
   exact hK M3 rfl
  ·subst hM5
   rw[show((i:Int) == 0)=decide (i=0) by by_cases h:i=0 <;> simp[h]]
   refine aD (fun hc=>?_) (fun hc=>?_)
   ·simp only[Bool.or_eq_true,decide_eq_true_eq] at hc
    obtain⟨b1,o1,_,_,yJ,Jp⟩:=Sl.at (E:=aF) (i:=i) hv3 5 (i:Int) hlt rfl rfl
    rw[yJ,aP]
    refine tF (j:=2) Jp (x:=St es[i].2.1) rfl ?_
    rw[mE (x:=St es[i].2.1) (size:=1) rfl rfl rfl,aX]
    refine qW (E:=ES) (a:=es[i].2.1) o3 (by omega) (by decide) (by omega) (by omega) fun v2 M7 o7 k7 n7 _=>?_
    refine hJ _ _ ⟨v2,rfl,k3.bW k7 (fun d hd=>.inl (o3.blk d hd).1), ?_⟩
    rw[iw,if_pos hc,hx]
    exact o7
   ·refine hJ _ _ ⟨dv,rfl,k3, ?_⟩
    rw[iw,if_neg (by simpa using hc)]
    exact o3
 ·have he:i=es.length:=by
   have:¬ i<es.length:=of_decide_eq_false hge
   omega
  subst he
  exact hQ dv M3 o3 k3
def wJ (x:aH) : Prop:=0≤x.1.1∧x.1.1<16∧x.1.2<2 ^ 64∧x.2.1.length≤600∧x.2.2.1.length≤600∧x.2.2.2.length≤600
theorem Pg (l:List aH) (x:aH) : (Ee l x).Perm (x :: l):=by
 unfold Ee
 refine List.perm_middle.trans ?_
 rw[List.take_append_drop]
theorem acg {α:Type} {p:α→Bool} (l:List α) : l.take (l.takeWhile p).length=l.takeWhile p:=(List.prefix_iff_eq_take.1 (List.takeWhile_prefix p)).symm
theorem drop_tw {α:Type} {p:α→Bool} (l:List α) : l.drop (l.takeWhile p).length=l.dropWhile p:=by
 have h:=List.takeWhile_append_dropWhile (p:=p) (l:=l)
 have:l.drop (l.takeWhile p).length=(l.takeWhile p++l.dropWhile p).drop (l.takeWhile p).length:=by rw[h]
 rw[this,List.drop_left]
theorem SG {x:aH} : ∀ {l:List aH},yB l→∀ y∈l.dropWhile (fun z=>fO z x),fO y x=false
 | [],_,y,hy=>by simp at hy
 | z :: r,h,y,hy=>by
   have h:=List.pairwise_cons.1 h
   by_cases hz:fO z x=true
   ·rw[List.dropWhile_cons_of_pos (p:=fun z=>fO z x) hz] at hy
    exact SG h.2 y hy
   ·rw[List.dropWhile_cons_of_neg (p:=fun z=>fO z x) hz] at hy
    have hz:fO z x=false:=by simpa using hz
    rcases List.mem_cons.1 hy with rfl | hy
    ·exact hz
    ·exact iJ.ntrans _ _ _ (h.1 y hy) hz
theorem Vg {α:Type} {p:α→Bool} : ∀ {l:List α},∀ y∈l.takeWhile p,p y=true
 | [],y,hy=>by simp at hy
 | z :: r,y,hy=>by
   by_cases hz:p z=true
   ·rw[List.takeWhile_cons_of_pos hz] at hy
    rcases List.mem_cons.1 hy with rfl | hy
    ·exact hz
    ·exact Vg y hy
   ·rw[List.takeWhile_cons_of_neg hz] at hy
    simp at hy
theorem aca {l:List aH} (h:yB l) (x:aH) : yB (Ee l x):=by
 unfold Ee UJ yB
 have h':=h
 rw[← List.takeWhile_append_dropWhile (p:=fun y=>fO y x) (l:=l)] at h'
 unfold yB at h'
 rw[List.pairwise_append] at h'
 rw[acg,drop_tw,List.pairwise_append]
 refine⟨h'.1,List.pairwise_cons.2 ⟨SG h,h'.2.1⟩,fun a ha b hb=>?_⟩
 rcases List.mem_cons.1 hb with rfl | hb
 ·have ha:=Vg a ha
  cases hx:fO b a with
  | false=>rfl
  | true =>
    have:=iJ.trans _ _ _ ha hx
    rw[iJ.irrefl] at this; cases this
 ·exact h'.2.2 a ha b hb
theorem FW {l:List Ev} {e:Ev} {i:Nat} : ∀ {n:Nat},wF l e i n=true↔e.1.2.1=1∧∀ k<n,∀ f,l[k]?=some f→e.1.1 ∉ f.2∧¬ (k<i∧f.1.1=e.1.1)
 | 0=>by simp[wF]
 | n + 1=>by
   rw[wF,Bool.and_eq_true,FW (n:=n)]
   constructor
   ·rintro⟨⟨h1,h2⟩,h3⟩
    refine⟨h1,fun k hk f hf=>?_⟩
    rcases Nat.lt_or_ge k n with h | h
    ·exact h2 k h f hf
    ·have:k=n:=by omega
     subst this
     rw[hf] at h3
     simp only[Qg,Bool.and_eq_true,Bool.not_eq_true',decide_eq_false_iff_not,Bool.and_eq_false_iff] at h3
     refine⟨h3.1,fun hh=>?_⟩
     rcases h3.2 with h4 | h4
     ·exact h4 hh.1
     ·exact h4 hh.2
   ·rintro⟨h1,h2⟩
    refine⟨⟨h1,fun k hk f hf=>h2 k (by omega) f hf⟩, ?_⟩
    cases hf:l[n]? with
    | none=>rfl
    | some f =>
      have:=h2 n (by omega) f hf
      simp only[Qg,Bool.and_eq_true,Bool.not_eq_true',decide_eq_false_iff_not,Bool.and_eq_false_iff]
      refine⟨this.1, ?_⟩
      by_cases hh:n<i
      ·exact .inr fun e=>this.2 ⟨hh,e⟩
      ·exact .inl hh
theorem HZ (l:List Ev) : ∀ i,yB (nO l i)
 | 0=>.nil
 | i + 1=>by
   rw[nO]
   split
   ·split
    ·exact aca (HZ l i) _
    ·exact HZ l i
   ·exact HZ l i
theorem Ji {l:List Ev} {x:aH} : ∀ {i:Nat},x∈nO l i↔∃ k,∃ h:k<l.length,k<i∧wF l l[k] k l.length=true∧x=jk l[k].1
 | 0=>by simp[nO]
 | i + 1=>by
   have ih:=Ji (l:=l) (x:=x) (i:=i)
   rw[nO]
   cases hf:l[i]? with
   | none =>
     have hi:l.length≤i:=List.getElem?_eq_none_iff.1 hf
     dsimp only
     rw[ih]
     constructor
     ·rintro⟨k,h,h1,h2⟩; exact⟨k,h,by omega,h2⟩
     ·rintro⟨k,h,h1,h2⟩; exact⟨k,h,by omega,h2⟩
   | some e =>
     obtain⟨hi,he⟩:=List.getElem?_eq_some_iff.1 hf
     subst he
     dsimp only
     by_cases hl:wF l l[i] i l.length=true
     ·rw[if_pos hl,(Pg _ _).mem_iff,List.mem_cons,ih]
      constructor
      ·rintro(h | ⟨k,h,h1,h2⟩)
       ·exact⟨i,hi,by omega,hl,h⟩
       ·exact⟨k,h,by omega,h2⟩
      ·rintro⟨k,h,h1,h2,h3⟩
       rcases Nat.lt_or_ge k i with hk | hk
       ·exact .inr ⟨k,h,hk,h2,h3⟩
       ·have:k=i:=by omega
        subst this; exact .inl h3
     ·rw[if_neg hl,ih]
      constructor
      ·rintro⟨k,h,h1,h2⟩; exact⟨k,h,by omega,h2⟩
      ·rintro⟨k,h,h1,h2⟩
       rcases Nat.lt_or_ge k i with hk | hk
       ·exact⟨k,h,hk,h2⟩
       ·have:k=i:=by omega
        subst this; exact absurd h2.1 hl
theorem SX {l:List Ev} (h1:l.Pairwise fun x y=>x.1.1≠y.1.1) : ∀ i,(nO l i).Pairwise fun x y=>x.1≠y.1
 | 0=>.nil
 | i + 1=>by
   have ih:=SX h1 i
   rw[nO]
   cases hf:l[i]? with
   | none=>exact ih
   | some e =>
     obtain⟨hi,he⟩:=List.getElem?_eq_some_iff.1 hf
     subst he
     dsimp only
     split
     ·refine(Pg _ _).symm.pairwise (List.pairwise_cons.2 ⟨fun y hy=>?_,ih⟩) (fun {a b} hab e=>hab e.symm)
      obtain⟨k,h,hk,_,rfl⟩:=Ji.1 hy
      exact fun e=>List.pairwise_iff_getElem.1 h1 k i h hi hk e.symm
     ·exact ih
theorem aco {l:List Ev} {s:uL} (h:Ch l s) (h1:l.Pairwise fun x y=>x.1.1≠y.1.1) : nO l l.length=s.2 :=
 Jn (HZ _ _) h.up (SX h1 _) h.one fun x=>by
  rw[Ji,h.uo]
  constructor
  ·rintro⟨k,hk,_,hl,rfl⟩
   obtain⟨g1,g2⟩:=FW.1 hl
   refine⟨l[k],List.getElem_mem hk,g1,rfl,fun f hf=>?_⟩
   obtain⟨j,hj,rfl⟩:=List.getElem_of_mem hf
   exact(g2 j hj _ (List.getElem?_eq_getElem hj)).1
  ·rintro⟨e,he,g1,rfl,g3⟩
   obtain⟨k,hk,rfl⟩:=List.getElem_of_mem he
   refine⟨k,hk,hk,FW.2 ⟨g1,fun j hj f hf=>?_⟩,rfl⟩
   obtain⟨hj',rfl⟩:=List.getElem?_eq_some_iff.1 hf
   exact⟨g3 _ (List.getElem_mem hj'),fun⟨hjk,e⟩=>List.pairwise_iff_getElem.1 h1 j k hj' hk hjk e⟩
section
variable {α:Type} {E:Enc α}
end
theorem Rj {e:lh} {ks:List ay} (h:di e ks=true) : wJ (jk e):=by
 have h0:=h
 simp only[di,Bool.and_eq_true,names,decide_eq_true_eq] at h
 obtain⟨⟨⟨⟨h1,⟨⟨h2,h3⟩,h4⟩,h5⟩,_⟩,_⟩,_⟩:=h
 have hd:=JS h1
 refine⟨hd.1,hd.2.1,by show e.1.2<_; omega, ?_, ?_, ?_⟩ <;> (simp only[jk]; omega)
structure Tp (l:List Ev) (ps:List Pt) (es:List aH) : Prop where
 ch:Ch l (ps,es)
 one:l.Pairwise fun x y=>x.1.1≠y.1.1
 good:∀ e∈l,di e.1 e.2=true
 len:l.length≤60
section
variable {l:List Ev} {ps:List Pt} {es:List aH}
theorem Tp.uo (h:Tp l ps es) : nO l l.length=es:=aco h.ch h.one
theorem Tp.few (h:Tp l ps es) : es.length≤60:=Nat.le_trans (h.ch.len (m:=l) fun e he=>he) h.len
theorem Tp.ok (h:Tp l ps es) : ∀ x∈es,wJ x:=fun x hx=>by
 obtain⟨e,he,_,rfl,_⟩:=(h.ch.uo x).1 hx
 exact Rj (h.good e he)
end
end Go.Ab.Crw
namespace Go.Ab.Crw.Viw
open Go Go.Ab Go.Ab.ay Go.Ab.Crw
theorem Xy {α:Type} {P:List α→Prop} (h0:P []) (h1:∀ l x,P l→P (l++[x])) : ∀ l,P l:=fun l=>by
 rw[← List.reverse_reverse l]
 induction l.reverse with
 | nil=>exact h0
 | cons x r ih=>rw[List.reverse_cons]; exact h1 _ _ ih
theorem MG {α:Type} {l:List α} {z:α} (h:l.getLast?=some z) : ∃ i,l=i++[z]:=List.getLast?_eq_some_iff.1 h
def IK (es:List aH) : Prop:=es.Pairwise fun x y=>fO x y=true
theorem Tk {es:List aH} (h:yB es) (h1:es.Pairwise fun x y=>x.1≠y.1) : IK es:=by
 refine(List.pairwise_and_iff.2 ⟨h,h1⟩).imp fun {x y} ⟨a,b⟩=>?_
 cases hc:fO x y with
 | true=>rfl
 | false =>
   have:=U6 hc a
   simp only[keq,decide_eq_true_eq] at this
   exact absurd this.2.2 b
def fH (x y:aH) : Bool:=decide (x.2.1=y.2.1) && decide (x.2.2.1=y.2.2.1)
theorem wZ {x y:aH} : fH x y=true↔x.2.1=y.2.1∧x.2.2.1=y.2.2.1:=by simp[fH]
theorem KE (x:aH) : fH x x=true:=wZ.2 ⟨rfl,rfl⟩
theorem WR (x y:aH) : fH x y=fH y x:=by simp only[fH,eq_comm]
theorem Bt {x y:aH} (h:fH x y=true) : fH x=fH y:=by
 obtain⟨a,b⟩:=wZ.1 h
 funext z; simp only[fH,a,b]
theorem YJ {x y:aH} (h:fO x y=true) : x.2.1<y.2.1∨(x.2.1=y.2.1∧(x.2.2.1<y.2.2.1∨(x.2.2.1=y.2.2.1∧nX x.1 y.1=true))):=by
 by_cases h1:x.2.1=y.2.1
 ·by_cases h2:x.2.2.1=y.2.2.1
  ·rw[abu h1 h2] at h; exact .inr ⟨h1,.inr ⟨h2,h⟩⟩
  ·rw[abG h1 h2,decide_eq_true_eq] at h; exact .inr ⟨h1,.inl h⟩
 ·rw[abD h1,decide_eq_true_eq] at h; exact .inl h
theorem acf {y z x:aH} (h:y=z∨fO y z=true) (h2:fO z x=true) (h3:fH y x=true) : fH z x=true:=by
 rcases h with rfl | h
 ·exact h3
 ·obtain⟨a,b⟩:=wZ.1 h3
  have h4:=YJ h
  have h5:=YJ h2
  rcases h4 with h4 | ⟨h4,h6⟩
  ·rw[a] at h4
   rcases h5 with h5 | ⟨h5,_⟩
   ·exact absurd (List.lt_trans h4 h5) (List.lt_irrefl _)
   ·rw[h5] at h4; exact absurd h4 (List.lt_irrefl _)
  ·have hc:z.2.1=x.2.1:=h4.symm.trans a
   rcases h5 with h5 | ⟨_,h7⟩
   ·rw[hc] at h5; exact absurd h5 (List.lt_irrefl _)
   ·rcases h6 with h6 | ⟨h6,_⟩
    ·rw[b] at h6
     rcases h7 with h7 | ⟨h7,_⟩
     ·exact absurd (List.lt_trans h6 h7) (List.lt_irrefl _)
     ·rw[h7] at h6; exact absurd h6 (List.lt_irrefl _)
    ·exact wZ.2 ⟨hc,h6.symm.trans b⟩
def xR (es:List aH) (x:aH) : Bool:=match es.getLast? with
 | none=>true
 | some y=>!fH y x
def NV (acc:List (List aH)) (n:Bool) (x:aH) : List (List aH):=if n then acc++[[x]] else acc.dropLast++[acc.getLast?.getD []++[x]]
def Wp (p:List aH × List (List aH)) (x:aH) : List aH × List (List aH):=(p.1++[x],NV p.2 (xR p.1 x) x)
def fB (es:List aH) : List (List aH):=(es.foldl Wp ([],[])).2
theorem SN:∀ (es:List aH) (p:List aH × List (List aH)),(es.foldl Wp p).1=p.1++es
 | [],p=>by simp
 | x :: es,p=>by rw[List.foldl_cons,SN es]; simp[Wp]
theorem J7:fB []=[]:=rfl
theorem Bf (es:List aH) (x:aH) : fB (es++[x])=NV (fB es) (xR es x) x:=by
 rw[fB,List.foldl_append,List.foldl_cons,List.foldl_nil,Wp,SN]; rfl
structure GI (es:List aH) : Prop where
 ne:∀ g∈fB es,g≠[]
 flat:(fB es).flatten=es
 all:∀ g∈fB es,∀ x∈g,g=es.filter (fH x)
theorem aaj {l:List aH} {x:aH} (hs:IK (l++[x])) (hn:xR l x=true) : ∀ y∈l,fH y x=false:=by
 obtain⟨hl,_,hx⟩:=List.pairwise_append.1 hs
 intro y hy
 cases hz:l.getLast? with
 | none=>rw[List.getLast?_eq_none_iff] at hz; rw[hz] at hy; cases hy
 | some z =>
   rw[xR,hz] at hn
   have hn:fH z x=false:=by simpa using hn
   cases h:fH y x with
   | false=>rfl
   | true =>
     obtain⟨i,rfl⟩:=MG hz
     have hyz:y=z∨fO y z=true:=by
      rcases List.mem_append.1 hy with hy | hy
      ·exact .inr ((List.pairwise_append.1 hl).2.2 y hy z (by simp))
      ·exact .inl (by simpa using hy)
     rw[acf hyz (hx z (by simp) x (by simp)) h] at hn
     cases hn
theorem abh {es:List aH} (h:GI es) {z:aH} (hz:es.getLast?=some z) : ∃ i g,fB es=i++[g]∧z∈g:=by
 cases hg:(fB es).getLast? with
 | none =>
   rw[List.getLast?_eq_none_iff] at hg
   have:=h.flat
   rw[hg] at this
   rw[← this] at hz; cases hz
 | some g =>
   obtain⟨i,e⟩:=MG hg
   refine⟨i,g,e, ?_⟩
   have hne:=h.ne g (by rw[e]; simp)
   have hf:=h.flat
   rw[e,List.flatten_append] at hf
   have:es.getLast?=g.getLast?:=by
    rw[← hf]
    simp only[List.flatten_cons,List.flatten_nil,List.append_nil]
    rw[List.getLast?_append]
    cases hgl:g.getLast? with
    | none=>rw[List.getLast?_eq_none_iff] at hgl; exact absurd hgl hne
    | some w=>rfl
   rw[hz] at this
   exact List.mem_of_getLast? this.symm
theorem Yq:∀ (es:List aH),IK es→GI es:=by
 refine Xy (fun _=>⟨by simp[J7],rfl,by simp[J7]⟩) fun l x ih hs=>?_
 obtain⟨hl,_,hx⟩:=List.pairwise_append.1 hs
 have h:=ih hl
 have hsub:∀ g∈fB l,∀ y∈g,y∈l:=fun g hg y hy=>by
  rw[← h.flat]; exact List.mem_flatten.2 ⟨g,hg,hy⟩
 cases hn:xR l x with
 | true =>
   have hno:=aaj hs hn
   have e:fB (l++[x])=fB l++[[x]]:=by rw[Bf,hn]; rfl
   refine⟨?_, ?_, ?_⟩
   ·intro g hg
    rw[e] at hg
    rcases List.mem_append.1 hg with hg | hg
    ·exact h.ne g hg
    ·simp at hg; subst hg; simp
   ·rw[e,List.flatten_append,h.flat]; simp
   ·intro g hg y hy
    rw[e] at hg
    rw[List.filter_append]
    rcases List.mem_append.1 hg with hg | hg
    ·rw[← h.all g hg y hy]
     simp[hno y (hsub g hg y hy)]
    ·simp at hg; subst hg
     simp at hy; subst hy
     have:l.filter (fH y)=[]:=List.filter_eq_nil_iff.2 fun z hz=>by rw[WR,hno z hz]; simp
     rw[this]; simp[KE]
 | false =>
   cases hz:l.getLast? with
   | none=>rw[xR,hz] at hn; cases hn
   | some z =>
     have hzx:fH z x=true:=by rw[xR,hz] at hn; simpa using hn
     obtain⟨i,g,e,hzg⟩:=abh h hz
     have hgl:=h.all g (by rw[e]; simp) z hzg
     have e2:fB (l++[x])=i++[g++[x]]:=by
      rw[Bf,hn,e]
      simp[NV]
     refine⟨?_, ?_, ?_⟩
     ·intro k hk
      rw[e2] at hk
      rcases List.mem_append.1 hk with hk | hk
      ·exact h.ne k (by rw[e]; exact List.mem_append_left _ hk)
      ·simp at hk; subst hk; simp
     ·have hf:=h.flat
      rw[e,List.flatten_append] at hf
      rw[e2,List.flatten_append]
      conv=>rhs; rw[← hf]
      simp
     ·intro k hk y hy
      rw[e2] at hk
      rw[List.filter_append]
      rcases List.mem_append.1 hk with hk | hk
      ·have hkl:k∈fB l:=by rw[e]; exact List.mem_append_left _ hk
       have hka:=h.all k hkl y hy
       have hyx:fH y x=false:=by
        cases hc:fH y x with
        | false=>rfl
        | true =>
          exfalso
          have hyz:fH y=fH z:=by rw[Bt hc,← Bt hzx]
          have hf:=h.flat
          rw[e,List.flatten_append] at hf
          have hkg:k=g:=by rw[hka,hgl,hyz]
          have hlen:(l.filter (fH z)).length=g.length:=by rw[← hgl]
          rw[← hf,List.filter_append,List.length_append] at hlen
          have hgg:([g].flatten.filter (fH z)).length=g.length:=by
           simp only[List.flatten_cons,List.flatten_nil,List.append_nil]
           rw[hgl,List.filter_filter]; simp
          have hy2:y∈i.flatten.filter (fH z):=List.mem_filter.2 ⟨List.mem_flatten.2 ⟨k,hk,hy⟩,by rw[← hyz]; exact KE y⟩
          have:=List.length_pos_of_mem hy2
          omega
       rw[← hka]; simp[hyx]
      ·simp at hk; subst hk
       have hyz:fH y=fH z:=by
        rcases List.mem_append.1 hy with hy | hy
        ·rw[hgl] at hy
         exact(Bt (List.mem_filter.1 hy).2).symm
        ·simp at hy; subst hy; exact(Bt hzx).symm
       rw[hyz,← hgl]; simp[hzx]
def oz (b:aH) : List aH→aH
 | []=>b
 | x :: xs=>oz (if nX b.1 x.1 then x else b) xs
def vJ:List aH→aH × Bool
 | []=>(((0,0),([],[],[])),false)
 | x :: xs=>(oz x (x :: xs),true)
theorem Lr (b:aH) : ∀ (xs ys:List aH),oz b (xs++ys)=oz (oz b xs) ys
 | [],ys=>rfl
 | x :: xs,ys=>by simp only[List.cons_append,oz]; exact Lr _ xs ys
theorem Qi (x:ay) : nX x x=false:=by simp[nX]
def WX (acc:List (List UInt8)) (x:aH) : List (List UInt8):=if x.2.2.2∈acc then acc else acc++[x.2.2.2]
def ny (g:List aH) : List (List UInt8):=g.foldl WX []
theorem WL (g:List aH) (x:aH) : ny (g++[x])=WX (ny g) x:=by rw[ny,List.foldl_append]; rfl
abbrev OE:=List UInt8 × (List UInt8 × Nat)
def shown (g:List aH) : OE:=((vJ g).1.2.2.1,((vJ g).1.2.2.2,(ny g).length))
def pg (es:List aH) (c:List UInt8) : List aH:=es.filter fun x=>x.2.1 == c
def bN (es:List aH) (c:List UInt8) : List OE:=(fB (pg es c)).map shown
theorem Y5 {es:List aH} (h:IK es) (c:List UInt8) : IK (pg es c):=h.filter _
theorem Xk (x:aH) : fO x x=false:=iJ.irrefl x
theorem Cz {es:List aH} {c:List UInt8} {x:aH} : x∈pg es c↔x∈es∧x.2.1=c:=by rw[pg,List.mem_filter]; simp
def Sb:List UInt8:=[102,110]
def lastT (c:List UInt8) (fs:List OE) : List UInt8:=fs.foldl (fun t f=>if f.1=Sb then f.2.1 else t) c
def WA (acc:List (List UInt8)) (x:aH) : List (List UInt8):=if acc.getLast?=some x.2.1 then acc else acc++[x.2.1]
def jG (es:List aH) : List (List UInt8):=es.foldl WA []
theorem QF (es:List aH) (x:aH) : jG (es++[x])=WA (jG es) x:=by rw[jG,List.foldl_append]; rfl
theorem U8 (es:List aH) : ∀ {i:Nat},i≤es.length→iw es i=jG (es.take i)
 | 0,_=>by simp[iw,jG]
 | i + 1,h=>by
   have ih:=U8 es (i:=i) (by omega)
   rw[List.take_succ_eq_append_getElem (by omega),QF,← ih,iw,WA,← DC (es:=es) (i:=i) (by omega)]
   cases i with
   | zero=>simp[iw]
   | succ j =>
     rw[Bu]
     simp only[Nat.succ_ne_zero,false_or,Nat.add_sub_cancel,Option.some.injEq]
     by_cases hh:nm es j=nm es (j + 1) <;> simp[hh]
theorem JL (es:List aH) : iw es es.length=jG es:=by rw[U8 es (Nat.le_refl _),List.take_length]
theorem abZ (c:List UInt8) : ∀ es:List aH,c∈jG es↔∃ x∈es,x.2.1=c:=by
 refine Xy (by simp[jG]) fun es x ih=>?_
 rw[QF,WA]
 split
 ·rename_i h
  rw[ih]
  constructor
  ·rintro⟨y,hy,rfl⟩; exact⟨y,List.mem_append_left _ hy,rfl⟩
  ·rintro⟨y,hy,rfl⟩
   rcases List.mem_append.1 hy with hy | hy
   ·exact⟨y,hy,rfl⟩
   ·simp at hy; subst hy; exact ih.1 (List.mem_of_getLast? h)
 ·rw[List.mem_append,ih,List.mem_singleton]
  constructor
  ·rintro(⟨y,hy,rfl⟩ | rfl)
   ·exact⟨y,List.mem_append_left _ hy,rfl⟩
   ·exact⟨x,by simp,rfl⟩
  ·rintro⟨y,hy,rfl⟩
   rcases List.mem_append.1 hy with hy | hy
   ·exact .inl ⟨y,hy,rfl⟩
   ·simp at hy; subst hy; exact .inr rfl
theorem U7 (es:List aH) : (jG es).length≤es.length:=by
 rw[← JL]; exact Eu es _
theorem Yj {es:List aH} (hs:IK es) {c:List UInt8} (h:c∈jG es) : bN es c≠[]:=by
 obtain⟨x,hx,hc⟩:=(abZ c es).1 h
 intro he
 rw[bN,List.map_eq_nil_iff] at he
 have hf:=(Yq _ (Y5 hs c)).flat
 rw[he] at hf
 have:x∈pg es c:=Cz.2 ⟨hx,hc⟩
 rw[← hf] at this; cases this
end Go.Ab.Crw.Viw
namespace Go.Ab.Crw.Viw
open Go Go.Ab Go.Ab.ay Go.Ab.Vw
abbrev GR:q8 (List aH):=q8.slice aF.A8
structure lW (TN TS n0:Nat) (M:RM) (v:AV) (init:List (List aH)) (g:List aH) : Prop where
 ex:∃ (fs:List AV) (w:AV) (S:Nat→Prop),Own M n0 TS 1 v (fs++[w]) (init.length + 1)∧dY GR M S fs init∧Ow aF M n0 TN w g ∧
  (∀ b∈aI w,¬ S b)∧(∀ b∈aI v,¬ S b)∧(∀ b∈aI v,b ∉ aI w)∧(∀ b,S b→n0≤b∧b<M.next)
section
variable {TN TS n0:Nat} {M M' : RM} {v:AV} {init:List (List aH)} {g:List aH}
theorem lW.keep (h:lW TN TS n0 M v init g) (hk:ag [] M M') : lW TN TS n0 M' v init g:=by
 obtain⟨fs,w,S,h1,h2,h3,h4,h5,h6,h7⟩:=h.ex
 exact⟨fs,w,S,h1.keep hk (by simp),h2.keep hk (by simp),h3.keep hk (by simp),h4,h5,h6,fun b hb=>⟨(h7 b hb).1,Nat.lt_of_lt_of_le (h7 b hb).2 hk.next⟩⟩
theorem lW.slD (h:lW TN TS n0 M v init g) : fG GR M v (init++[g]) (fun b=>n0≤b∧b<M.next):=by
 obtain⟨fs,w,S,h1,h2,h3,h4,h5,h6,h7⟩:=h.ex
 refine⟨fs++[w], ?_,h1.blk,(h2.mono h7).append (dY.single ⟨w,rfl,fG.XU h3.il h3.blk⟩)⟩
 have:=h1.il
 rw[List.length_append,List.length_singleton]; exact this
theorem lW.len (h:lW TN TS n0 M v init g) {K:AV→Prop} : bQ v K=K (N .i64 ((init.length + 1:Nat) : Int)):=by
 obtain⟨fs,w,S,h1,_⟩:=h.ex
 exact h1.il.len
theorem lW.blk (h:lW TN TS n0 M v init g) : ∀ b∈aI v,n0≤b∧b<M.next:=by
 obtain⟨fs,w,S,h1,_⟩:=h.ex
 exact h1.blk
theorem lW.more (h:lW TN TS n0 M v init g) (hn:n0≤M.next) (hl:init.length≤50000) {K:ak}
  (hK:∀ v' M',lW TN TS n0 M' v' (init++[g]) []→ag (aI v) M M'→K v' M') :
  appW TS 1 24 [bB] false v (.slc M.next 0 1 (.ex 1)) (M.push (.row [bB] false TS 0)) K:=by
 obtain⟨fs,w,S,h1,h2,h3,h4,h5,h6,h7⟩:=h.ex
 have hk:ag [] M (M.push (.row [bB] false TS 0)):=(ag.refl _ _).push _
 have hnl:nK (M.push (.row [bB] false TS 0)) 1 [bB] false (.slc M.next 0 1 (.ex 1))=some (1,[bB]):=by
  simp only[nK,Nat.one_mul]
  rw[RM.dF (RM.aQ _) (by simp)]; rfl
 refine zJ (h1.keep hk (by simp)) (Nat.le_trans hn hk.next) (by decide) hnl rfl rfl (by omega) (by omega) fun v' M' q1 q2 q3 q4=>?_
 have kk:ag (aI v) M M':=(hk.mono (by simp)).trans q2
 have hvb:=h1.blk
 have hwb:=h3.blk
 have hnew:∀ b∈aI v',b∈aI v∨M.next≤b:=fun b hb=>by
  rcases q4 with rfl | q4
  ·exact .inl hb
  ·exact .inr (Nat.le_trans hk.next (q4 b hb))
 refine hK v' M' ⟨fs++[w],bB,fun b=>S b∨b∈aI w, ?_, ?_,.nil,by simp[aI], ?_,by simp[aI], ?_⟩ kk
 ·rw[List.length_append,List.length_singleton]; exact q1
 ·refine((h2.mono fun b hb=>Or.inl hb).keep kk fun b hb hs=>?_).append (dY.single ⟨w,rfl,fG.XU (aR.keep h3.il kk fun b hb hv=>h6 b hv hb) fun b hb=>.inr hb⟩)
  rcases hs with hs | hs
  ·exact h5 b hb hs
  ·exact h6 b hb hs
 ·rintro b hb (hs | hs)
  ·rcases hnew b hb with h | h
   ·exact h5 b h hs
   ·have:=(h7 b hs).2; omega
  ·rcases hnew b hb with h | h
   ·exact h6 b h hs
   ·have:=(hwb b hs).2; omega
 ·rintro b (hs | hs)
  ·exact⟨(h7 b hs).1,Nat.lt_of_lt_of_le (h7 b hs).2 (Nat.le_trans hk.next q3)⟩
  ·exact⟨(hwb b hs).1,Nat.lt_of_lt_of_le (hwb b hs).2 (Nat.le_trans hk.next q3)⟩
theorem lW.start (hn:n0≤M.next) {K:ak} (hK:∀ v' M',lW TN TS n0 M' v' [] []→ag [] M M'→K v' M') :
  appW TS 1 24 [bB] false bB (.slc M.next 0 1 (.ex 1)) (M.push (.row [bB] false TS 0)) K:=by
 have hk:ag [] M (M.push (.row [bB] false TS 0)):=(ag.refl _ _).push _
 have hnl:nK (M.push (.row [bB] false TS 0)) 1 [bB] false (.slc M.next 0 1 (.ex 1))=some (1,[bB]):=by
  simp only[nK,Nat.one_mul]
  rw[RM.dF (RM.aQ _) (by simp)]; rfl
 refine zJ (base:=n0) (cs:=[]) (n:=0) .nil (Nat.le_trans hn hk.next) (by decide) hnl rfl rfl (by omega) (by omega) fun v' M' q1 q2 q3 q4=>?_
 refine hK v' M' ⟨[],bB,fun _=>False,q1,.nil,.nil,by simp,by simp,by simp[aI],by simp⟩ (hk.trans (q2.mono (by simp[aI])))
theorem lW.put (h:lW TN TS n0 M v init g) (hn:n0≤M.next) (hl:init.length≤50000) (hg:g.length≤50000) {x:aH} {K:RM→Prop}
  (hK:∀ M',lW TN TS n0 M' v init (g++[x])→oD n0 [] M M'→K M') :
  ∃ b w,M.heap b≠none∧(∀ K:AV→Prop,ah v (N .i64 ((init.length:Nat) : Int)) 1 K=K (.ptr b init.length))∧(∀ K:AV→Prop,az M (.ptr b init.length) K=K w) ∧
    appW TN 5 64 [(N .i64 0),(N .u64 0),(St []),(St []),(St [])] false w (.slc M.next 0 1 (.ex 1)) (M.push (.row (aF.cells x) false TN 0)) fun w' M1=>aC M1 (.ptr b init.length) w' 1 K:=by
 obtain⟨fs,w,S,h1,h2,h3,h4,h5,h6,h7⟩:=h.ex
 obtain⟨b,rfl,hb1,hb2,hb3,hb4⟩:=Own.uK h1 (by omega)
 have hfl:fs.length=init.length:=by
  simp only[List.length_append,List.length_singleton] at hb4; omega
 refine⟨b,w,by rw[hb3]; simp,fun K=>?_,fun K=>?_, ?_⟩
 ·rw[nV]
  simp only[Int.toNat_natCast]
  rw[show 0 + init.length * 1=init.length by omega]
  exact propext ⟨fun h=>h.2.2,fun h=>⟨by omega,by omega,h⟩⟩
 ·exact aA hb3 (by rw[← hfl,List.getElem?_append_right (Nat.le_refl _)]; simp)
 ·refine qW (E:=aF) (a:=x) h3 hn (by decide) (by omega) (by omega) fun w' M1 o1 k1 n1 q1=>?_
  have hbw:b ∉ aI w:=h6 b (by simp[aI])
  have hwb:=h3.blk
  have adT:b ∉ aI w':=by
   rcases q1 with rfl | q1
   ·exact hbw
   ·exact fun hm=>by have:=q1 b hm; omega
  have hh:=k1.aK hb3 hb2 hbw
  rw[wW (fs++[w']) hh (by simp; omega) o1.cells o1.one (by rw[← hfl,List.set_append_right _ _ (Nat.le_refl _)]; simp)]
  have kp:ag [b] M1 (M1.put b (.row (fs++[w']) true TS 0)):=(ag.refl _ _).put _ (.inr (by simp))
  have n2:(M1.put b (.row (fs++[w']) true TS 0)).next=M1.next:=rfl
  have hbS:¬ S b:=h5 b (by simp[aI])
  refine hK _ ⟨fs,w',S,.op _ _ _ hb1 (by rw[n2]; omega) (aN _) (by simp; omega),(h2.keep k1 fun c hc hs=>h4 c hc hs).keep kp (by simpa using hbS),o1.keep kp (fun c hc hm=>adT (by simp at hm; subst hm; exact hc)), ?_,h5, ?_, ?_⟩ ?_
  ·intro c hc hs
   rcases q1 with rfl | q1
   ·exact h4 c hc hs
   ·have:=q1 c hc; have:=(h7 c hs).2; omega
  ·intro c hc
   simp[aI] at hc; subst hc; exact adT
  ·exact fun c hs=>⟨(h7 c hs).1,by rw[n2]; have:=(h7 c hs).2; omega⟩
  ·exact(k1.to hn fun c hc=>.inl (hwb c hc).1).trans (oD.mk rfl (Nat.le_refl _) fun c h1 h2=>by
    simp only[RM.put]; rw[if_neg (by omega)])
end
def NM (c:ai) : Prop:=∀ {M:RM} {v:AV} {es:List aH} {Q:ak},Sl aF M v es→es.length≤50000 →
 (∀ v' M',fG GR M' v' (fB es) (fun b=>M.next≤b∧b<M'.next)→ag [] M M'→Q v' M')→c [v] M Q
theorem He:∀ es:List aH,(fB es).length≤es.length∧∀ g∈fB es,g.length≤es.length:=by
 refine Xy (by simp[J7]) fun es x ih=>?_
 rw[Bf,NV]
 obtain⟨h1,h2⟩:=ih
 split
 ·refine⟨by simp; omega,fun g hg=>?_⟩
  rcases List.mem_append.1 hg with hg | hg
  ·have:=h2 g hg; simp; omega
  ·simp at hg; subst hg; simp
 ·cases hz:(fB es).getLast? with
  | none=>rw[List.getLast?_eq_none_iff] at hz; rw[hz]; simp
  | some z =>
    obtain⟨i,e⟩:=MG hz
    rw[e] at h1 h2 ⊢
    simp only[List.dropLast_concat,List.getLast?_concat,Option.getD_some,List.length_append,List.length_singleton] at h1 ⊢
    refine⟨by omega,fun g hg=>?_⟩
    rcases List.mem_append.1 hg with hg | hg
    ·have:=h2 g (List.mem_append_left _ hg); omega
    ·simp at hg; subst hg
     have:=h2 z (by simp); simp; omega
theorem ab8 {es:List aH} {i:Nat} (hi:i<es.length) : xR (es.take i) es[i]=((i == 0) || (decide (nm es (i - 1)≠es[i].2.1) || decide ((es.getD (i - 1) ((0,0),([],[],[]))).2.2.1≠es[i].2.2.1))):=by
 cases i with
 | zero=>simp[xR]
 | succ j =>
   rw[List.take_succ_eq_append_getElem (by omega)]
   simp only[xR,List.getLast?_concat,Nat.add_sub_cancel]
   rw[DC (by omega),zG (by omega),fH]
   simp
theorem Uw {TN TS:Nat} : NM fun args M Q=>∃ a0,args=[a0]∧xP TN TS a0 M Q:=by
 intro M v es Q hv hlen hQ
 refine⟨_,rfl, ?_⟩
 unfold xP
 simp only[iN,dP,dz,dK,bH]
 rw[aR.len hv]
 refine aG (fun z ys M3=>∃ (i:Nat) (dv:AV),z=es.length - i∧ys=[dv,N .i64 (i:Int)]∧i≤es.length∧ag [] M M3∧((i=0∧dv=bB)∨∃ init g,fB (es.take i)=init++[g]∧lW TN TS M.next M3 dv init g)) _
  ⟨0,bB,rfl,rfl,Nat.zero_le _,ag.refl _ _,.inl ⟨rfl,rfl⟩⟩ ?_
 rintro next z ys M3 hnext ⟨i,dv,rfl,rfl,hil,k3,hg⟩
 dsimp only[aa]
 rw[dC]
 refine aD (fun hlt=>?_) (fun hge=>?_)
 ·have hlt:i<es.length:=of_decide_eq_true hlt
  have n3:=k3.next
  refine aT (fun zs M'=>∃ dv' init g,zs=[dv']∧ag [] M M'∧fB (es.take (i + 1))=init++[g]∧lW TN TS M.next M' dv' init g) ?_ ?_
  ·rintro zs M' ⟨dv',init,g,rfl,k',e',o'⟩
   dsimp only[aa]
   rw[add1 (by omega)]
   exact hnext _ _ _ (by omega) ⟨i + 1,dv',rfl,rfl,by omega,k',.inr ⟨init,g,e',o'⟩⟩
  intro J hJ
  rw[pU (aR.keep hv k3 (by simp)) hlt]
  have hnw:=ab8 hlt
  have hgs:fB (es.take (i + 1))=NV (fB (es.take i)) (xR (es.take i) es[i]) es[i]:=by
   rw[List.take_succ_eq_append_getElem hlt,Bf]
  have hgl:=He (es.take i)
  rw[List.length_take] at hgl
  generalize es[i]=x at *
  rw[aX,dh (n:=5) (x:=.agg (aF.cells x)) (l:=[(N .i64 0),(N .u64 0),(St []),(St []),(St [])]) (RM.aQ _) rfl rfl (nC x)]
  have k4:ag [] M3 ((M3.push (.row [(N .i64 0),(N .u64 0),(St []),(St []),(St [])] false TN 0)).put M3.next (.row (AV.agg (aF.cells x)).cells false TN 0)):=((ag.refl _ _).push _).new _ (Nat.le_refl _)
  have h4:((M3.push (.row [(N .i64 0),(N .u64 0),(St []),(St []),(St [])] false TN 0)).put M3.next (.row (AV.agg (aF.cells x)).cells false TN 0)).heap M3.next=some (.row (aF.cells x) false TN 0):=aN _
  have hb4:M3.next<((M3.push (.row [(N .i64 0),(N .u64 0),(St []),(St []),(St [])] false TN 0)).put M3.next (.row (AV.agg (aF.cells x)).cells false TN 0)).next:=by rw[gJ,qy]; omega
  have hdv:∀ c∈aI dv,c<M3.next:=by
   rcases hg with⟨_,rfl⟩ | ⟨a,g,e,o⟩
   ·simp[aI]
   ·exact fun c hc=>(o.blk c hc).2
  generalize (M3.push (.row [(N .i64 0),(N .u64 0),(St []),(St []),(St [])] false TN 0)).put M3.next (.row (AV.agg (aF.cells x)).cells false TN 0)=M4 at *
  generalize M3.next=b at *
  have k04:=k3.trans k4
  have v4:=aR.keep hv k04 (by simp)
  have n4:=k04.next
  have hg4:(i=0∧dv=bB)∨∃ init g,fB (es.take i)=init++[g]∧lW TN TS M.next M4 dv init g:=hg.imp id fun⟨a,g,e,o⟩=>⟨a,g,e,o.keep k4⟩
  clear hg
  refine aT (fun zs M'=>∃ dv' init g,zs=[dv']∧ag [] M M'∧M'.heap b=some (.row (aF.cells x) false TN 0)∧fB (es.take (i + 1))=init++[g++[x]]∧lW TN TS M.next M' dv' init g) ?_ ?_
  ·rintro zs M' ⟨dv',init,g,rfl,k',hx',e',o'⟩
   dsimp only[aa]
   have n':=k'.next
   have ZE:=He (es.take (i + 1))
   rw[e',List.length_take] at ZE
   have hl1:=ZE.1
   have hl2:=ZE.2 (g++[x]) (by simp)
   simp only[List.length_append,List.length_singleton] at hl1 hl2
   rw[o'.len,aZ (by omega) (by omega),o'.len,aZ (by omega) (by omega),Nat.add_sub_cancel]
   obtain⟨bb,w,hne,hidx,hld,happ⟩:=o'.put (x:=x) (K:=fun M5=>J [dv'] M5) n' (by omega) (by omega) fun M5 o5 k5=>hJ _ _ ⟨dv',init,g++[x],rfl,k'.acd k5 (Nat.le_refl _) (by simp),e',o5⟩
   rw[hidx,hld,bS (n:=5) hx' rfl,mE (x:=.agg (aF.cells x)) (size:=5) rfl (nC x) rfl,nL]
   simp only[hidx]
   exact happ
  intro J2 hJ2
  rw[bV]
  refine Qr (P:=fun M'=>M'=M4) (p:=decide (nm es (i - 1)≠x.2.1)) rfl (fun hc K hK=>?_) fun M5 hM5=>?_
  ·have hi0:i≠0:=fun e=>by
    subst e; simp at hc
   rw[aZ (by omega) (by omega),UK v4 (i:=i - 1) (by omega) (x:=St es[i - 1].2.1) rfl,aP,aA (i:=0 + 2) (x:=St x.2.1) h4 rfl,jF]
   refine hK M4 rfl |> fun h=>?_
   rw[show(es[i - 1].2.1 != x.2.1)=decide (nm es (i - 1)≠x.2.1) by rw[DC (by omega)]; by_cases h:es[i - 1].2.1=x.2.1 <;> simp[h]]
   exact h
  subst hM5
  refine Qr (P:=fun M'=>M'=M5) (p:=decide ((es.getD (i - 1) ((0,0),([],[],[]))).2.2.1≠x.2.2.1)) rfl (fun hc K hK=>?_) fun M6 hM6=>?_
  ·have hi0:i≠0:=fun e=>by
    subst e; simp at hc
   rw[aZ (by omega) (by omega),UK v4 (i:=i - 1) (by omega) (x:=St es[i - 1].2.2.1) rfl,aP,aA (i:=0 + 3) (x:=St x.2.2.1) h4 rfl,jF]
   refine hK M5 rfl |> fun h=>?_
   rw[show(es[i - 1].2.2.1 != x.2.2.1)=decide ((es.getD (i - 1) ((0,0),([],[],[]))).2.2.1≠x.2.2.1) by rw[zG (by omega)]; by_cases h:es[i - 1].2.2.1=x.2.2.1 <;> simp[h]]
   exact h
  subst hM6
  rw[show(((((i:Int) == 0)) || decide (nm es (i - 1)≠x.2.1)) || decide ((es.getD (i - 1) ((0,0),([],[],[]))).2.2.1≠x.2.2.1))=xR (es.take i) x by
   rw[hnw,Bool.or_assoc]; congr 1; cases i <;> simp; omega]
  refine aD (fun hc=>?_) (fun hc=>?_)
  ·rw[hc] at hgs
   rw[mE (x:=bB) (size:=1) rfl rfl rfl,aX]
   have hgs:fB (es.take (i + 1))=fB (es.take i)++[[x]]:=hgs
   rcases hg4 with⟨h0,rfl⟩ | ⟨init,g,e,o⟩
   ·subst h0
    refine lW.start (TN:=TN) (n0:=M.next) n4 fun v' M7 o7 k7=>?_
    exact hJ2 _ _ ⟨v',[],[],rfl,k04.trans k7,k7.aK h4 hb4 (by simp),by rw[hgs]; rfl,o7⟩
   ·rw[e] at hgl
    have hl1:=hgl.1
    simp only[List.length_append,List.length_singleton] at hl1
    refine o.more n4 (by omega) fun v' M7 o7 k7=>?_
    exact hJ2 _ _ ⟨v',init++[g],[],rfl,k04.bW k7 (fun c hc=>.inl (o.blk c hc).1),k7.aK h4 hb4 (fun hm=>by have:=hdv _ hm; omega),by rw[hgs,e]; simp,o7⟩
  ·rw[hc] at hgs
   rcases hg4 with⟨h0,rfl⟩ | ⟨init,g,e,o⟩
   ·subst h0
    rw[hnw] at hc; simp at hc
   ·refine hJ2 _ _ ⟨dv,init,g,rfl,k04,h4, ?_,o⟩
    rw[hgs,e]; simp[NV]
 ·have he:i=es.length:=by
   have:¬ i<es.length:=of_decide_eq_false hge
   omega
  subst he
  rw[List.take_length] at hg
  rcases hg with⟨h0,rfl⟩ | ⟨init,g,e,o⟩
  ·have:es=[]:=List.length_eq_zero_iff.1 h0
   subst this
   exact hQ _ M3 ⟨[],.nil,by simp[aI],.nil⟩ k3
  ·refine hQ _ M3 ?_ k3
   rw[e]; exact o.slD
abbrev EE:List AV:=[(N .i64 0),(N .u64 0),(St []),(St []),(St [])]
theorem GZ {M:RM} {TN:Nat} {x:aH} {K:RM→AV→Prop} (hK:∀ M',M'.next=M.next + 1→ag [] M M'→M'.heap M.next=some (.row (aF.cells x) false TN 0)→K M' (.ptr M.next 0)) :
  bP (.row [(N .i64 0),(N .u64 0),(St []),(St []),(St [])] false TN 0) (fun b=>.ptr b 0) M fun t M1=>aC M1 t (.agg (aF.cells x)) 5 fun M2=>K M2 t:=by
 rw[aX,dh (n:=5) (x:=.agg (aF.cells x)) (l:=[(N .i64 0),(N .u64 0),(St []),(St []),(St [])]) (RM.aQ _) rfl rfl (nC x)]
 exact hK _ (by rw[gJ,qy]) (((ag.refl _ _).push _).new _ (Nat.le_refl _)) (aN _)
theorem Ld {M:RM} {b o n e f:Nat} {l:List AV} {p:Bool} (cs:List AV) {K:AV→Prop} (h:M.heap b=some (.row l p e f)) (hl:wX (some l) o n=some cs) : av M (.ptr b o) n K=K (.agg cs):=by
 rw[dQ,RM.RZ h,hl]; simp
def Je (c:ai) : Prop:=∀ {M:RM} {v:AV} {xs:List aH} {Q:ak},Sl aF M v xs→xs.length≤50000→(∀ M',ag [] M M'→Q (.tup [.agg (aF.cells (vJ xs).1),Bo (vJ xs).2]) M')→c [v] M Q
theorem RY {TN:Nat} {cl:ai} (hl:wV cl) : Je fun args M Q=>∃ a0,args=[a0]∧xQ TN cl a0 M Q:=by
 intro M v xs Q hv hlen hQ
 refine⟨_,rfl, ?_⟩
 unfold xQ
 rw[aX]
 simp only[iN,dP,dz,dK,bH]
 rw[aR.len hv,bV]
 have k1:ag [] M (M.push (.row EE false TN 0)):=(ag.refl _ _).push _
 have h1:(M.push (.row EE false TN 0)).heap M.next=some (.row EE false TN 0):=RM.aQ _
 have n1:(M.push (.row EE false TN 0)).next=M.next + 1:=qy _
 refine aD (fun hc=>?_) (fun hc=>?_)
 ·have:xs=[]:=by
   have:(xs.length:Int)=0:=by simpa using hc
   exact List.length_eq_zero_iff.1 (by omega)
  subst this
  rw[iD]
  refine⟨_,rfl, ?_⟩
  rw[dh (n:=5) (x:=.agg EE) (l:=EE) h1 rfl rfl rfl]
  rw[bS (n:=5) (aN _) rfl]
  exact hQ _ (k1.put _ (.inl (Nat.le_refl _)))
 ·have hpos:0<xs.length:=by
   rcases Nat.eq_zero_or_pos xs.length with h | h
   ·rw[h] at hc; simp at hc
   ·exact h
  generalize M.push (.row EE false TN 0)=M1 at *
  rw[show(N .i64 (0:Int))=N .i64 ((0:Nat) : Int) from rfl,pU (aR.keep hv k1 (by simp)) hpos]
  refine GZ fun M2 n2 k2 h2=>?_
  have h1':=k2.aK h1 (by omega) (by simp)
  rw[aR.len (aR.keep hv (k1.trans k2) (by simp))]
  refine aG (fun z ys M3=>∃ (i:Nat),z=xs.length - i∧ys=[N .i64 (i:Int)]∧i≤xs.length∧ag [] M M3∧M.next + 2≤M3.next∧M3.heap M.next=some (.row EE false TN 0)∧M3.heap M1.next=some (.row (aF.cells (oz xs[0] (xs.take i))) false TN 0)) _
   ⟨0,rfl,rfl,Nat.zero_le _,k1.trans k2,by omega,h1',h2⟩ ?_
  rintro next z ys M3 hnext ⟨i,rfl,rfl,hil,k3,n3,h3,h4⟩
  dsimp only[aa]
  rw[dC]
  refine aD (fun hlt=>?_) (fun hge=>?_)
  ·have hlt:i<xs.length:=of_decide_eq_true hlt
   have hb:oz xs[0] (xs.take (i + 1))=if nX (oz xs[0] (xs.take i)).1 xs[i].1 then xs[i] else oz xs[0] (xs.take i):=by
    rw[List.take_succ_eq_append_getElem hlt,Lr]; rfl
   refine aT (fun zs M'=>zs=[]∧ag [] M M'∧M.next + 2≤M'.next∧M'.heap M.next=some (.row EE false TN 0)∧M'.heap M1.next=some (.row (aF.cells (oz xs[0] (xs.take (i + 1)))) false TN 0)) ?_ ?_
   ·rintro zs M' ⟨rfl,a1,a2,a3,a4⟩
    rw[add1 (by omega)]
    exact hnext _ _ _ (by omega) ⟨i + 1,rfl,rfl,by omega,a1,a2,a3,a4⟩
   intro J hJ
   rw[pU (aR.keep hv k3 (by simp)) hlt]
   generalize xs[i]=x at *
   generalize oz xs[0] (xs.take i)=y at *
   refine GZ fun M4 n4 k4 h5=>?_
   have h3':=k4.aK h3 (by omega) (by simp)
   have h4':=k4.aK h4 (by omega) (by simp)
   rw[bJ,Ld (aO y.1) h4' rfl,bJ,Ld (aO x.1) h5 rfl]
   refine hl fun M5 k5=>?_
   have n5:=k5.next
   have ad7:=k5.aK h3' (by omega) (by simp)
   have ac1:=k5.aK h4' (by omega) (by simp)
   have h5':=k5.aK h5 (by omega) (by simp)
   have k35:=(k3.trans k4).trans k5
   refine aD (fun hc=>?_) (fun hc=>?_)
   ·rw[bS (n:=5) h5' rfl,dh (n:=5) (x:=.agg (aF.cells x)) ac1 rfl rfl (nC x)]
    refine hJ _ _ ⟨rfl,k35.put _ (.inl (by omega)),by rw[gJ]; omega,mV ad7 (by omega), ?_⟩
    rw[hb,if_pos hc]; exact aN _
   ·refine hJ _ _ ⟨rfl,k35,by omega,ad7, ?_⟩
    rw[hb,if_neg (by rw[hc]; simp)]; exact ac1
  ·have he:i=xs.length:=by
    have:¬ i<xs.length:=of_decide_eq_false hge
    omega
   subst he
   rw[List.take_length] at h4
   rw[bS (n:=5) h4 rfl,dh (n:=5) (x:=.agg (aF.cells (oz xs[0] xs))) h3 rfl rfl (nC _),bS (n:=5) (aN _) rfl]
   have hw:vJ xs=(oz xs[0] xs,true):=by
    cases xs with
    | nil=>simp at hpos
    | cons a r=>rfl
   rw[hw] at hQ
   exact hQ _ (k3.put _ (.inl (Nat.le_refl _)))
def uS (k:Nat) : List (List UInt8)→List (AV × AV × Nat)
 | []=>[]
 | s :: r=>(St s,Bo true,k) :: uS (k + 1) r
theorem OD (x:List UInt8) : ∀ (r:List (List UInt8)) (k:Nat),uS k (r++[x])=uS k r++[(St x,Bo true,k + r.length)]
 | [],k=>rfl
 | y :: r,k=>by
   simp only[List.cons_append,uS,OD x r (k + 1),List.length_cons]
   rw[show k + 1 + r.length=k + (r.length + 1) by omega]
theorem QI:∀ (r:List (List UInt8)) (k:Nat),(uS k r).length=r.length
 | [],k=>rfl
 | y :: r,k=>by simp[uS,QI r]
theorem OX (s:List UInt8) : ∀ (r:List (List UInt8)) (k i:Nat),∃ o,qJ false [2] [St s] (uS k r) i=some o∧((s∈r∧∃ j,o=some (i + j,Bo true)∧Jm (St s) (Bo true) (uS k r) j=uS k r)∨(s ∉ r∧o=none))
 | [],k,i=>⟨none,rfl,.inr ⟨by simp,rfl⟩⟩
 | x :: r,k,i=>by
   simp only[uS,qJ,gH]
   rw[if_pos (by rfl),yU]
   by_cases h:s=x
   ·rw[if_pos h,yP]
    exact⟨_,rfl,.inl ⟨by simp[h],0,rfl,by rw[h]; rfl⟩⟩
   ·rw[if_neg h]
    obtain⟨o,h1,h2⟩:=OX s r (k + 1) (i + 1)
    refine⟨o,h1, ?_⟩
    rcases h2 with⟨h2,j,e,h3⟩ | ⟨h2,e⟩
    ·exact .inl ⟨List.mem_cons_of_mem _ h2,j + 1,by rw[e]; congr 2; omega,by rw[Jm,h3]⟩
    ·exact .inr ⟨by simp[h,h2],e⟩
theorem abV {M:RM} {b:Nat} {g:List aH} {x:aH} {K:RM→Prop} (h:M.heap b=some (.map (uS 0 (ny g)) (ny g).length)) (hK:K (M.put b (.map (uS 0 (ny (g++[x]))) (ny (g++[x])).length))) :
  GJ false [2] M (.map b) (St x.2.2.2) (Bo true) K:=by
 obtain⟨o,h1,h2⟩:=OX x.2.2.2 (ny g) 0 0
 refine⟨b,_,_,[St x.2.2.2],o,rfl,h,rfl,rfl,h1, ?_⟩
 rw[WL,WX] at hK
 rcases h2 with⟨h2,j,rfl,h3⟩ | ⟨h2,rfl⟩
 ·rw[if_pos h2] at hK
  simp only[aau,Nat.zero_add,h3]
  exact hK
 ·rw[if_neg h2,OD,List.length_append,List.length_singleton] at hK
  simp only[aau]
  rw[Nat.zero_add] at hK
  exact hK
def iB:Enc OE:=⟨3,fun f=>[St f.1,St f.2.1,N .i64 (f.2.2:Int)],fun _=>rfl,fun _=>rfl⟩
def H5 (TS T TF:Nat) (c:ai) : Prop:=∀ {M:RM} {t:Nat} {B:Nat→Prop} {ps:List Pt} {es:List aH} {s:List UInt8} {Q:ak},mZ TS T B M t ps es→es.length≤50000→(∀ v M',Ow iB M' M.next TF v (bN es s)→ag [] M M'→Q v M')→c [.ptr t 0,St s] M Q
theorem UD {TS T TN TF:Nat} {cC cG cW:ai} (hC:Ep TS T TN cC) (hG:NM cG) (hW:Je cW) : H5 TS T TF fun args M Q=>∃ a0 a1,args=[a0,a1]∧xU cC cG cW TN TF a0 a1 M Q:=by
 intro M t B ps es s Q hst hlen hQ
 refine⟨_,_,rfl, ?_⟩
 unfold xU
 refine hC hst hlen fun v1 M1 o1 k1=>?_
 have hfl:(pg es s).length≤es.length:=List.length_filter_le _ _
 refine hG (es:=pg es s) o1.il (by omega) fun v2 M2 d2 k2=>?_
 have n1:=k1.next
 have k02:=k1.trans k2
 have n2:=k02.next
 have hgl:=He (pg es s)
 rw[d2.len]
 refine aG (fun z ys M3=>∃ (i:Nat) (dv:AV),z=(fB (pg es s)).length - i∧ys=[dv,N .i64 (i:Int)]∧i≤(fB (pg es s)).length∧ag [] M2 M3∧Ow iB M3 M2.next TF dv (((fB (pg es s)).take i).map shown)) _
  ⟨0,bB,rfl,rfl,Nat.zero_le _,ag.refl _ _,.nil⟩ ?_
 rintro next z ys M3 hnext ⟨i,dv,rfl,rfl,hil,k3,o3⟩
 dsimp only[aa]
 rw[dC]
 refine aD (fun hlt=>?_) (fun hge=>?_)
 ·have hlt:i<(fB (pg es s)).length:=of_decide_eq_true hlt
  have n3:=k3.next
  obtain⟨b,o,cs,_,_,hidx,hld,w,rfl,hw⟩:=fG.at (R:=GR) (d2.keep k3 (by simp)) 1 (i:Int) hlt rfl rfl
  have hsh:((fB (pg es s)).take (i + 1)).map shown=((fB (pg es s)).take i).map shown++[shown (fB (pg es s))[i]]:=by
   rw[List.take_succ_eq_append_getElem hlt,List.map_append,List.map_singleton]
  have hgi:=hgl.2 _ (List.getElem_mem hlt)
  have hml:(((fB (pg es s)).take i).map shown).length≤i:=by rw[List.length_map,List.length_take]; omega
  generalize (fB (pg es s))[i]=g at *
  have hw:=hw.sl
  rw[hidx,gL,vZ hld rfl]
  simp only[Option.some.injEq,exists_eq_left']
  refine hW hw (by omega) fun M4 k4=>?_
  have n4:=k4.next
  rw[fo,fu]
  refine GZ fun M5 n5 k5 h5=>?_
  rw[aX]
  have k6:ag [] M5 (M5.push (.map [] 0)):=(ag.refl _ _).push _
  have h6:(M5.push (.map [] 0)).heap M5.next=some (.map (uS 0 (ny ([] : List aH))) (ny ([] : List aH)).length):=RM.aQ _
  have n6:(M5.push (.map [] 0)).next=M5.next + 1:=qy _
  have h56:=k6.aK h5 (by omega) (by simp)
  generalize M5.push (.map [] 0)=M6 at *
  have k36:=(k4.trans k5).trans k6
  have w6:=aR.keep hw k36 (by simp)
  rw[aR.len w6]
  refine aG (fun z ys M7=>∃ (j:Nat),z=g.length - j∧ys=[N .i64 (j:Int)]∧j≤g.length∧ag [] M3 M7∧M6.next≤M7.next∧M7.heap M4.next=some (.row (aF.cells (vJ g).1) false TN 0)∧M7.heap M5.next=some (.map (uS 0 (ny (g.take j))) (ny (g.take j)).length)) _
   ⟨0,rfl,rfl,Nat.zero_le _,k36,Nat.le_refl _,h56,h6⟩ ?_
  rintro fq z ys M7 dx ⟨j,rfl,rfl,hjl,k7,n7,h7,h8⟩
  dsimp only[aa]
  rw[dC]
  refine aD (fun hlt2=>?_) (fun rD=>?_)
  ·have hlt2:j<g.length:=of_decide_eq_true hlt2
   have hgs:g.take (j + 1)=g.take j++[g[j]]:=List.take_succ_eq_append_getElem hlt2
   rw[pU (aR.keep hw k7 (by simp)) hlt2]
   generalize g[j]=x at *
   refine GZ fun M8 n8 k8 h9=>?_
   rw[aP,aA (i:=0 + 4) (x:=St x.2.2.2) h9 rfl]
   have k08:=k7.trans k8
   refine abV (k8.aK h8 (by omega) (by simp)) ?_
   rw[add1 (by omega)]
   refine dx _ _ _ (by omega) ⟨j + 1,rfl,rfl,by omega,k08.put _ (.inl (by omega)),by rw[gJ]; omega,mV (k8.aK h7 (by omega) (by simp)) (by omega), ?_⟩
   rw[hgs]
   exact aN _
  ·have he:j=g.length:=by
    have:¬ j<g.length:=of_decide_eq_false rD
    omega
   subst he
   rw[List.take_length] at h8
   rw[aP,aA (i:=0 + 3) (x:=St (vJ g).1.2.2.1) h7 rfl,aP,aA (i:=0 + 4) (x:=St (vJ g).1.2.2.2) h7 rfl]
   refine⟨_,_,_,rfl,h8, ?_⟩
   dsimp only
   rw[QI,iD]
   refine⟨[St (vJ g).1.2.2.1,St (vJ g).1.2.2.2,N .i64 ((ny g).length:Int)],rfl, ?_⟩
   rw[mE (x:=.agg [St (vJ g).1.2.2.1,St (vJ g).1.2.2.2,N .i64 ((ny g).length:Int)]) (size:=3) rfl rfl rfl,aX]
   refine qW (E:=iB) (a:=shown g) (o3.keep k7 (by simp)) (by have:=k7.next; omega) (by decide) (by omega) (by omega) fun v9 M9 o9 k9 n9 _=>?_
   rw[add1 (by omega)]
   refine hnext _ _ _ (by omega) ⟨i + 1,v9,rfl,rfl,by omega,(k3.trans k7).bW k9 (fun d hd=>.inl (o3.blk d hd).1), ?_⟩
   rw[hsh]
   exact o9
 ·have he:i=(fB (pg es s)).length:=by
   have:¬ i<(fB (pg es s)).length:=of_decide_eq_false hge
   omega
  subst he
  rw[List.take_length] at o3
  exact hQ dv M3 (Own.mono o3 n2) (k02.trans k3)
def aah (TS T TF:Nat) (c:ai) : Prop:=∀ {M:RM} {t:Nat} {B:Nat→Prop} {ps:List Pt} {es:List aH} {s:List UInt8} {Q:ak},mZ TS T B M t ps es→es.length≤50000 →
 (bN es s=[]→∀ M',ag [] M M'→Q (.tup [bB,N .i64 4]) M')→(bN es s≠[]→∀ v M',Ow iB M' M.next TF v (bN es s)→ag [] M M'→Q (.tup [v,N .i64 0]) M')→c [.ptr t 0,St s] M Q
theorem ZR {TS T TF:Nat} {cf:ai} (hf:H5 TS T TF cf) : aah TS T TF fun args M Q=>∃ a0 a1,args=[a0,a1]∧EK cf a0 a1 M Q:=by
 intro M t B ps es s Q hst hlen h0 h1
 refine⟨_,_,rfl, ?_⟩
 unfold EK
 refine hf hst hlen fun v M1 o1 k1=>?_
 rw[aR.len o1.il,bV]
 refine aD (fun hc=>?_) (fun hc=>?_)
 ·refine h0 (List.length_eq_zero_iff.1 ?_) M1 k1
  have:((bN es s).length:Int)=0:=by simpa using hc
  omega
 ·refine h1 (fun e=>?_) v M1 o1 k1
  rw[e] at hc; simp at hc
theorem Gu {M:RM} {v:AV} {xs:List (List UInt8)} (h:Sl ES M v xs) {i:Nat} (hi:i<xs.length) {kd:IntKind} {K:AV→Prop} : (ah v (N kd (i:Int)) 1 fun p=>az M p K)=K (St xs[i]):=by
 obtain⟨b,o,_,_,hidx,hcell⟩:=Sl.Gd (E:=ES) (i:=i) h (i:Int) hi rfl rfl
 rw[hidx,gL,hcell _ rfl]
 simp
theorem UT {M:RM} {v:AV} {xs:List OE} (h:Sl iB M v xs) {i:Nat} (hi:i<xs.length) {kd:IntKind} {K:AV→Prop} : (ah v (N kd (i:Int)) 3 fun p=>av M p 3 K)=K (.agg (iB.cells xs[i])):=by
 obtain⟨b,o,_,_,hidx,hld⟩:=Sl.at (E:=iB) (i:=i) h 3 (i:Int) hi rfl rfl
 rw[hidx,dQ,hld]
 simp
theorem U4 {M:RM} {TF:Nat} {x:OE} {K:RM→AV→Prop} (hK:∀ M',M'.next=M.next + 1→ag [] M M'→M'.heap M.next=some (.row (iB.cells x) false TF 0)→K M' (.ptr M.next 0)) :
  bP (.row [(St []),(St []),(N .i64 0)] false TF 0) (fun b=>.ptr b 0) M fun t M1=>aC M1 t (.agg (iB.cells x)) 3 fun M2=>K M2 t:=by
 rw[aX,dh (n:=3) (x:=.agg (iB.cells x)) (l:=[(St []),(St []),(N .i64 0)]) (RM.aQ _) rfl rfl (iB.one x)]
 exact hK _ (by rw[gJ,qy]) (((ag.refl _ _).push _).new _ (Nat.le_refl _)) (aN _)
theorem aeI {M:RM} {c p:Bool} {f:ak→Prop} {P:RM→Prop} {G:AV→RM→Prop} (h0:P M) (hf:c=false→∀ k:ak,(∀ M',P M'→k (Bo p) M')→f k) (hG:∀ M',P M'→G (Bo (c || p)) M') :
  aj (Bo c) false f (fun k=>k .undef M) (fun t M'=>aL (Bo c) (Bo true) t fun u=>G u M'):=by
 cases c with
 | true=>rw[mF]; dsimp only; rw[dN]; exact hG M h0
 | false=>rw[iE]; exact hf rfl _ fun M' h=>by rw[cz]; exact hG M' h
def BdE (es:List aH) : Prop:=∀ x∈es,x.2.1.length≤600∧x.2.2.1.length≤600∧x.2.2.2.length≤600
theorem Iw (es:List aH) (c:List UInt8) : (bN es c).length≤es.length:=by
 rw[bN,List.length_map]
 exact Nat.le_trans (He _).1 (List.length_filter_le _ _)
end Go.Ab.Crw.Viw
namespace Go.Ab.Crw
open Go Go.Ab Go.Ab.ay Go.Ab.Vw
abbrev bY:=List UInt8 × (List UInt8 × Nat)
def bA:Enc bY:=⟨3,fun f=>[St f.1,St f.2.1,N .i64 (f.2.2:Int)],fun _=>rfl,fun _=>rfl⟩
def uZ:bY→bY→Bool:=lex (fun x:bY=>x.2.1) (fun x y=>decide (x<y)) (lex (fun x:bY=>x.1) (fun x y=>decide (x<y)) fun _ _=>false)
theorem Og:Sort.SWO uZ:=tK qz (tK qz JJ)
def f3L (x y:bY) : Int:=EP (c3 (fun x y:List UInt8=>decide (x<y)) x.2.1 y.2.1) (EP (c3 (fun x y:List UInt8=>decide (x<y)) x.1 y.1) 0)
theorem afO:Vn uZ f3L:=tH (k:=fun x:bY=>x.2.1) qz (tH (k:=fun x:bY=>x.1) qz Kh)
def Gy (c:ai) : Prop:=∀ {M:RM} {x y:bY} {Q:ak},(∀ M',ag [] M M'→Q (N .i64 (f3L x y)) M')→c [.agg (bA.cells x),.agg (bA.cells y)] M Q
theorem PH {TL TI:Nat} {cs co:ai} (hs:wD (α:=List UInt8) (fun s=>St s) (fun x y=>decide (x<y)) cs) (ho:Yz co) :
  Gy fun args M Q=>∃ a0 a1,args=[a0,a1]∧xY TL cs TI co a0 a1 M Q:=by
 intro M x y Q hQ
 refine⟨_,_,rfl, ?_⟩
 unfold xY
 rw[dJ rfl (by rw[bA.len]; decide),aX,dJ rfl (by rw[bA.len]; decide),aX]
 have k1:ag [] M (M.push (.row (bA.cells x) false TL 0)):=(ag.refl _ _).push _
 have k2:ag [] M ((M.push (.row (bA.cells x) false TL 0)).push (.row (bA.cells y) false TL 0)):=k1.push _
 have h2:((M.push (.row (bA.cells x) false TL 0)).push (.row (bA.cells y) false TL 0)).heap (M.push (.row (bA.cells x) false TL 0)).next=some (.row (bA.cells y) false TL 0):=RM.aQ _
 have h1:((M.push (.row (bA.cells x) false TL 0)).push (.row (bA.cells y) false TL 0)).heap M.next=some (.row (bA.cells x) false TL 0):=iV (RM.aQ _) (by simp[RM.push])
 generalize (M.push (.row (bA.cells x) false TL 0)).push (.row (bA.cells y) false TL 0)=M2 at *
 generalize (M.push (.row (bA.cells x) false TL 0)).next=s at *
 rw[aP,aA (i:=0 + 1) (x:=St x.2.1) h1 rfl,aP,aA (i:=0 + 1) (x:=St y.2.1) h2 rfl,bJ,aA (x:=St x.1) h1 rfl,bJ,aA (x:=St y.1) h2 rfl]
 refine hs ?_
 rw[aA (x:=St x.1) h1 rfl]
 refine⟨rfl, ?_⟩
 rw[aA (x:=St y.1) h2 rfl]
 refine⟨rfl, ?_⟩
 refine hs ?_
 rw[abP (M:=M2),nL]
 refine ho (xs:=[_,_]) ?_ (by simp) (hQ _ (k2.push _))
 exact Sl.new (E:=INT) [_,_]
theorem ab3 {cv:FuncId→ai} {n:Nat} (h:Gy (cv n)) : iR bA uZ (bD cv (.fn (.func n) [] [])):=by
 intro M x y Q hQ
 exact⟨n,[],[],rfl,h fun M' k=>hQ _ _ (afO x y) k⟩
theorem eX {T:Nat} {fv:AV} {lt:bY→bY→Bool} {cv:FuncId→ai} (hl:iR bA lt (bD cv fv)) : SortG bA T 3 fv (Sort.insertionSort lt) (fun _ _ _=>True) fun args M Q=>∃ a0 a1 a2 a3,args=[a0,a1,a2,a3]∧dX cv a0 a1 a2 a3 M Q:=by
 intro M b a e d Q hat hsz hae he _ hQ
 refine⟨_,_,_,_,rfl, ?_⟩
 unfold dX
 simp only[dP,dz,dK]
 rw[add1 (by omega)]
 rw[Sort.insertionSort] at hQ
 obtain⟨R,hR⟩ : ∃ R,R=Sort.insOuter lt a e (a + 1) d:=⟨_,rfl⟩
 rw[← hR] at hQ
 refine aG (fun m ys M3=>∃ (i:Nat) (d3:Array bY),m=d.size - i∧ys=[N .i64 (i:Int)]∧i≤d.size + 1∧At bA T b d3 M3∧ag [b] M M3∧d3.size=d.size∧R=Sort.insOuter lt a e i d3) _ ⟨a + 1,d,rfl,rfl,by omega,hat,ag.refl _ _,rfl,hR⟩ ?_
 rintro next m ys M3 hnext ⟨i,d3,rfl,rfl,hi,h3,k3,hs3,hm⟩
 dsimp only[aa]
 rw[dC]
 refine aD (fun hlt=>?_) (fun hge=>?_)
 ·have hlt:i<e:=of_decide_eq_true hlt
  rw[Sort.insOuter,if_pos hlt] at hm
  obtain⟨R5,hR5⟩ : ∃ R5,R5=Sort.insInner lt a i d3:=⟨_,rfl⟩
  rw[← hR5] at hm
  refine aG (fun m ys M5=>∃ (j:Nat) (d5:Array bY),m=j + 1∧ys=[N .i64 (j:Int)]∧j≤i∧At bA T b d5 M5∧ag [b] M M5∧d5.size=d.size∧R5=Sort.insInner lt a j d5) _ ⟨i,d3,rfl,rfl,Nat.le_refl _,h3,k3,hs3,hR5⟩ ?_
  rintro fq m ys M5 dx ⟨j,d5,rfl,rfl,hj,h5,k5,hs5,hm5⟩
  dsimp only[aa]
  rw[lX]
  have out:∀ M6,At bA T b d5 M6→ag [b] M M6→Sort.insInner lt a j d5=d5→af .add (N .i64 (i:Int)) (N .i64 1) (fun t14=>next [t14] M6):=fun M6 h6 k6 h=>by
   rw[add1 (by omega)]
   refine hnext _ _ _ (by omega) ⟨i + 1,d5,rfl,rfl,by omega,h6,k6,hs5, ?_⟩
   rw[hm,hm5,h]
  by_cases hg:j > a
  ·obtain⟨k,rfl⟩ : ∃ k,j=k + 1:=⟨j - 1,by omega⟩
   rw[decide_eq_true hg,iK]
   dsimp only
   rw[h5.rd (z:=3) rfl hs5.symm (by omega),aZ (by omega) (by omega),Nat.add_sub_cancel,h5.rd (z:=3) rfl hs5.symm (by omega)]
   refine hl.use fun M6 k6=>?_
   have h6:=h5.keep k6
   have k6':=k5.trans (k6.mono (cs:=[b]) (by simp))
   rw[dN]
   rw[Sort.insInner] at hm5 out
   refine aD (fun h=>?_) (fun h=>?_)
   ·rw[if_pos (by simp[hg,h])] at hm5
    rw[aZ (by omega) (by omega),aZ (by omega) (by omega),Nat.add_sub_cancel,h6.rd (z:=3) rfl hs5.symm (by omega),h6.rd (z:=3) rfl hs5.symm (by omega)]
    refine h6.swap (z:=3) rfl hs5.symm (by omega) (by omega) fun M7 h7 k7=>?_
    rw[aZ (by omega) (by omega),Nat.add_sub_cancel]
    exact dx _ _ _ (by omega) ⟨k,_,rfl,rfl,by omega,h7,k6'.trans k7,by rw[bF]; exact hs5,hm5⟩
   ·exact out M6 h6 k6' (by rw[if_neg (by simp[h])])
  ·rw[decide_eq_false hg,jd]
   dsimp only
   rw[cz,bz]
   refine out M5 h5 k5 ?_
   cases j with
   | zero=>rfl
   | succ k=>rw[Sort.insInner,if_neg (by simp[hg])]
 ·have hge:¬ i<e:=of_decide_eq_false hge
  rw[Sort.insOuter,if_neg hge] at hm
  subst hm
  exact hQ M3 h3 k3
theorem aaF {T:Nat} {fv:AV} : SortG bA T 3 fv Sort.reverseRange (fun _ a e=>a<e) fun args M Q=>∃ a0 a1 a2 a3,args=[a0,a1,a2,a3]∧iO a0 a1 a2 a3 M Q:=by
 intro M b a e d Q hat hsz hae he hP hQ
 refine⟨_,_,_,_,rfl, ?_⟩
 unfold iO
 rw[aZ (by omega) (by omega)]
 rw[Sort.reverseRange] at hQ
 obtain⟨R,hR⟩ : ∃ R,R=Sort.reverseLoop a (e - 1) d:=⟨_,rfl⟩
 rw[← hR] at hQ
 refine aG (fun m ys M3=>∃ (i j:Nat) (d3:Array bY),m=j - i∧ys=[N .i64 (i:Int),N .i64 (j:Int)]∧j<d.size∧i≤d.size∧At bA T b d3 M3∧ag [b] M M3∧d3.size=d.size∧R=Sort.reverseLoop i j d3) _ ⟨a,e - 1,d,rfl,rfl,by omega,by omega,hat,ag.refl _ _,rfl,hR⟩ ?_
 rintro next m ys M3 hnext ⟨i,j,d3,rfl,rfl,hj,hi,h3,k3,hs3,hm⟩
 dsimp only[aa]
 rw[dC]
 rw[Sort.reverseLoop] at hm
 refine aD (fun hlt=>?_) (fun hge=>?_)
 ·have hlt:i<j:=of_decide_eq_true hlt
  rw[if_pos hlt] at hm
  rw[h3.rd (z:=3) rfl hs3.symm (by omega),h3.rd (z:=3) rfl hs3.symm (by omega)]
  refine h3.swap (z:=3) rfl hs3.symm (by omega) (by omega) fun M4 h4 k4=>?_
  rw[add1 (by omega),aZ (by omega) (by omega)]
  exact hnext _ _ _ (by omega) ⟨i + 1,j - 1,_,rfl,rfl,by omega,by omega,h4,k3.trans k4,by rw[bF]; exact hs3,hm⟩
 ·have hge:¬ i<j:=of_decide_eq_false hge
  rw[if_neg hge] at hm
  subst hm
  exact hQ M3 h3 k3
def WV (T:Nat) (fv:AV) (lt:bY→bY→Bool) (c:ai) : Prop:=∀ {M:RM} {b lo hi first:Nat} {d:Array bY} {Q:ak},At bA T b d M→d.size≤60000→first + hi≤d.size→lo≤1000000→(∀ M',At bA T b (Sort.siftDown lt hi first lo d) M'→ag [b] M M'→Q (.tup []) M') →
 c [sv b d.size 3,N .i64 (lo:Int),N .i64 (hi:Int),N .i64 (first:Int),fv] M Q
theorem XQ {T:Nat} {fv:AV} {lt:bY→bY→Bool} {cv:FuncId→ai} (hl:iR bA lt (bD cv fv)) : WV T fv lt fun args M Q=>∃ a0 a1 a2 a3 a4,args=[a0,a1,a2,a3,a4]∧jS cv a0 a1 a2 a3 a4 M Q:=by
 intro M b lo hi first d Q hat hsz hfe hlo hQ
 refine⟨_,_,_,_,_,rfl, ?_⟩
 unfold jS
 simp only[dP,dz,dK,bH]
 obtain⟨R,hR⟩ : ∃ R,R=Sort.siftDown lt hi first lo d:=⟨_,rfl⟩
 rw[← hR] at hQ
 refine aG (fun m ys M3=>∃ (r:Nat) (d3:Array bY),m=1000000 + hi - r∧ys=[N .i64 (r:Int)]∧(r≤1000000)∧At bA T b d3 M3∧ag [b] M M3∧d3.size=d.size∧R=Sort.siftDown lt hi first r d3) _ ⟨lo,d,rfl,rfl,hlo,hat,ag.refl _ _,rfl,hR⟩ ?_
 rintro next m ys M3 hnext ⟨r,d3,rfl,rfl,hr,h3,k3,hs3,hm⟩
 dsimp only[aa]
 rw[XP (by omega),add1 (by omega),eY]
 rw[Sort.siftDown] at hm
 refine aD (fun hg=>?_) (fun hg=>?_)
 ·rw[dif_pos (of_decide_eq_true hg)] at hm
  subst hm
  exact hQ M3 h3 k3
 have hg:¬ 2 * r + 1 ≥ hi:=of_decide_eq_false hg
 rw[dif_neg hg] at hm
 refine aT (fun zs M'=>∃ c:Nat,zs=[N .i64 (c:Int)]∧At bA T b d3 M'∧ag [b] M M'∧r<c∧c<hi∧R=if !lt d3[first + r]! d3[first + c]! then d3 else Sort.siftDown lt hi first c (Sort.swp d3 (first + r) (first + c))) ?_ ?_
 ·rintro zs M' ⟨c,rfl,h4,k4,hrc,ZO,hm2⟩
  dsimp only[aa]
  rw[addN (by omega),h4.rd (z:=3) rfl hs3.symm (by omega),addN (by omega),h4.rd (z:=3) rfl hs3.symm (by omega)]
  refine hl.use fun M5 k5=>?_
  have h5:=h4.keep k5
  have k5':=k4.trans (k5.mono (cs:=[b]) (by simp))
  rw[bu]
  refine aD (fun h=>?_) (fun h=>?_)
  ·rw[if_pos h] at hm2
   subst hm2
   exact hQ M5 h5 k5'
  ·rw[if_neg (by rw[h]; decide)] at hm2
   rw[addN (by omega),addN (by omega),addN (by omega),h5.rd (z:=3) rfl hs3.symm (by omega),addN (by omega),h5.rd (z:=3) rfl hs3.symm (by omega)]
   refine h5.swap (z:=3) rfl hs3.symm (by omega) (by omega) fun M6 h6 k6=>?_
   exact hnext _ _ _ (by omega) ⟨c,_,rfl,rfl,by omega,h6,k5'.trans k6,by rw[bF]; exact hs3,hm2⟩
 intro J hJ
 rw[add1 (by omega),dC]
 refine je (P:=fun M'=>At bA T b d3 M'∧ag [b] M M') (p:=lt d3[first + (2 * r + 1)]! d3[first + (2 * r + 1) + 1]!) ⟨h3,k3⟩ (fun hc k hk=>?_) fun M4 ⟨h4,k4⟩=>?_
 ·have hc:2 * r + 1 + 1<hi:=of_decide_eq_true hc
  rw[addN (by omega),h3.rd (z:=3) rfl hs3.symm (by omega),addN (by omega),add1 (by omega),h3.rd (z:=3) rfl hs3.symm (by omega)]
  exact hl.use fun M5 k5=>hk M5 ⟨h3.keep k5,k3.trans (k5.mono (cs:=[b]) (by simp))⟩
 refine aD (fun h=>?_) (fun h=>?_)
 ·have hc:2 * r + 1 + 1<hi:=by
   rw[Bool.and_eq_true] at h
   exact of_decide_eq_true h.1
  rw[add1 (by omega)]
  refine hJ _ _ ⟨2 * r + 2,rfl,h4,k4,by omega,by omega, ?_⟩
  rw[if_pos h,dif_pos (by omega)] at hm
  exact hm
 ·refine hJ _ _ ⟨2 * r + 1,rfl,h4,k4,by omega,by omega, ?_⟩
  rw[if_neg (by rw[h]; decide)] at hm
  exact hm
theorem Xu {T:Nat} {fv:AV} {lt:bY→bY→Bool} {cs:ai} (hs:WV T fv lt cs) : SortG bA T 3 fv (Sort.heapSort lt) (fun _ a e=>a<e) fun args M Q=>∃ a0 a1 a2 a3,args=[a0,a1,a2,a3]∧jN cs a0 a1 a2 a3 M Q:=by
 intro M b a e d Q hat hsz hae he hP hQ
 refine⟨_,_,_,_,rfl, ?_⟩
 unfold jN
 rw[Sort.heapSort] at hQ
 rw[df hae (by omega),aZ (by omega) (by omega),gK]
 refine⟨by decide, ?_⟩
 rw[show(2:Int)=((2:Nat) : Int) from rfl,jE,aS (by omega) (by omega)]
 obtain⟨R,hR⟩ : ∃ R,R=Sort.heapBuild lt (e - a) a ((e - a - 1) / 2 + 1) d:=⟨_,rfl⟩
 rw[← hR] at hQ
 refine aG (fun m ys M3=>∃ (k:Nat) (d3:Array bY),m=k + 1∧ys=[N .i64 ((k:Int) - 1)]∧k≤(e - a - 1) / 2 + 1∧At bA T b d3 M3∧ag [b] M M3∧d3.size=d.size∧R=Sort.heapBuild lt (e - a) a k d3) _ ⟨(e - a - 1) / 2 + 1,d,rfl,by congr 3; omega,Nat.le_refl _,hat,ag.refl _ _,rfl,hR⟩ ?_
 rintro next m ys M3 hnext ⟨k,d3,rfl,rfl,hk,h3,k3,hs3,hm⟩
 dsimp only[aa]
 rw[fU]
 refine aD (fun hg=>?_) (fun hg=>?_)
 ·have hg:1≤k:=by
   have:(k:Int) - 1 ≥ 0:=of_decide_eq_true hg
   omega
  obtain⟨k',rfl⟩ : ∃ k',k=k' + 1:=⟨k - 1,by omega⟩
  rw[Sort.heapBuild] at hm
  rw[show((k' + 1:Nat) : Int) - 1=(k' : Int) by omega,← hs3]
  refine hs h3 (by omega) (by omega) (by omega) fun M4 h4 k4=>?_
  rw[eT,aS (by omega) (by omega)]
  exact hnext _ _ _ (by omega) ⟨k',_,rfl,rfl,by omega,h4,k3.trans k4,by rw[rQ lt _ _ (e - a) _ _ (by omega)]; exact hs3,hm⟩
 ·have hk0:k=0:=by
   have:¬ (k:Int) - 1 ≥ 0:=of_decide_eq_false hg
   omega
  subst hk0
  rw[Sort.heapBuild] at hm
  rw[hm] at hQ
  rw[aZ (by omega) (by omega)]
  obtain⟨R4,hR4⟩ : ∃ R4,R4=Sort.heapPop lt a (e - a) d3:=⟨_,rfl⟩
  rw[← hR4] at hQ
  refine aG (fun m ys M4=>∃ (k:Nat) (d4:Array bY),m=k + 1∧ys=[N .i64 ((k:Int) - 1)]∧k≤e - a∧At bA T b d4 M4∧ag [b] M M4∧d4.size=d.size∧R4=Sort.heapPop lt a k d4) _ ⟨e - a,d3,rfl,by congr 3; omega,Nat.le_refl _,h3,k3,hs3,hR4⟩ ?_
  rintro fq m ys M4 dx ⟨k,d4,rfl,rfl,hk,h4,k4,hs4,hm4⟩
  dsimp only[aa]
  rw[fU]
  refine aD (fun hg=>?_) (fun hg=>?_)
  ·have hg:1≤k:=by
    have:(k:Int) - 1 ≥ 0:=of_decide_eq_true hg
    omega
   obtain⟨k',rfl⟩ : ∃ k',k=k' + 1:=⟨k - 1,by omega⟩
   rw[Sort.heapPop] at hm4
   rw[show((k' + 1:Nat) : Int) - 1=(k' : Int) by omega,addN (by omega),addN (by omega),h4.rd (z:=3) rfl hs4.symm (by omega),h4.rd (z:=3) rfl hs4.symm (by omega)]
   refine h4.swap (z:=3) rfl hs4.symm (by omega) (by omega) fun M5 h5 k5=>?_
   rw[show d.size=(Sort.swp d4 a (a + k')).size by rw[bF]; exact hs4.symm]
   refine hs (lo:=0) h5 (by rw[bF]; omega) (by rw[bF]; omega) (by decide) fun M6 h6 k6=>?_
   rw[eT,aS (by omega) (by omega)]
   exact dx _ _ _ (by omega) ⟨k',_,rfl,rfl,by omega,h6,(k4.trans k5).trans k6,by rw[rQ lt _ _ k' _ _ (by omega),bF]; exact hs4,hm4⟩
  ·have hk0:k=0:=by
    have:¬ (k:Int) - 1 ≥ 0:=of_decide_eq_false hg
    omega
   subst hk0
   rw[Sort.heapPop] at hm4
   subst hm4
   exact hQ M4 h4 k4
def ML (T:Nat) (fv:AV) (lt:bY→bY→Bool) (c:ai) : Prop:=∀ {M:RM} {b a e pv:Nat} {d:Array bY} {Q:ak},At bA T b d M→d.size≤60000→a≤pv→pv<e→e≤d.size→(∀ M',At bA T b (Sort.partitionEqual lt d a e pv).2 M'→ag [b] M M'→Q (N .i64 (((Sort.partitionEqual lt d a e pv).1:Nat) : Int)) M') →
 c [sv b d.size 3,N .i64 (a:Int),N .i64 (e:Int),N .i64 (pv:Int),fv] M Q
theorem N7 {T:Nat} {fv:AV} {lt:bY→bY→Bool} {cv:FuncId→ai} (hl:iR bA lt (bD cv fv)) : ML T fv lt fun args M Q=>∃ a0 a1 a2 a3 a4,args=[a0,a1,a2,a3,a4]∧ic cv a0 a1 a2 a3 a4 M Q:=by
 intro M b a e pv d Q hat hsz hap hpe he hQ
 refine⟨_,_,_,_,_,rfl, ?_⟩
 unfold ic
 simp only[dP,dz,dK]
 rw[Sort.partitionEqual] at hQ
 rw[hat.rd (z:=3) rfl rfl (by omega),hat.rd (z:=3) rfl rfl (by omega)]
 refine hat.swap (z:=3) rfl rfl (by omega) (by omega) fun M2 h2 k2=>?_
 rw[add1 (by omega),aZ (by omega) (by omega)]
 obtain⟨R,hR⟩ : ∃ R,R=Sort.partEqLoop lt a (a + 1) (e - 1) (Sort.swp d a pv):=⟨_,rfl⟩
 rw[← hR] at hQ
 refine aG (fun m ys M3=>∃ (i j:Nat) (d3:Array bY),m=j + 1 - i∧ys=[N .i64 (i:Int),N .i64 (j:Int)]∧a + 1≤i∧i≤e + 1∧j<e∧At bA T b d3 M3∧ag [b] M M3∧d3.size=d.size∧R=Sort.partEqLoop lt a i j d3) _ ⟨a + 1,e - 1,_,rfl,rfl,Nat.le_refl _,by omega,by omega,h2,k2,bF _ _ _,hR⟩ ?_
 rintro next m ys M3 hnext ⟨i,j,d3,rfl,rfl,hai,hie,hje,h3,k3,hs3,hm⟩
 dsimp only[aa]
 rw[Sort.partEqLoop] at hm
 refine qV (P:=fun M'=>At bA T b d3 M'∧ag [b] M M') (p:=fun x=>!lt d3[a]! x) (d:=d3) (J:=j) ⟨h3,k3⟩ fun fq i2 M4 ⟨h4,k4⟩ h0 h1 hgo hstop=>?_
 dsimp only[aa]
 rw[gU]
 refine je (P:=fun M'=>At bA T b d3 M'∧ag [b] M M') (p:=!lt d3[a]! d3[i2]!) ⟨h4,k4⟩ (fun hc k hk=>?_) fun M5 h5=>?_
 ·have hc:i2≤j:=of_decide_eq_true hc
  rw[h4.rd (z:=3) rfl hs3.symm (by omega),h4.rd (z:=3) rfl hs3.symm (by omega)]
  refine hl.use fun M5 k5=>?_
  rw[bu]
  exact hk M5 ⟨h4.keep k5,k4.trans (k5.mono (cs:=[b]) (by simp))⟩
 refine aD (fun h=>?_) (fun h=>?_)
 ·rw[add1 (by omega)]
  exact hgo h M5 h5
 have hi2:=hstop h
 rw[← hi2] at hm
 refine mG (P:=fun M'=>At bA T b d3 M'∧ag [b] M M') (p:=fun x=>lt d3[a]! x) (d:=d3) (i:=i2) h5 (by omega) fun kW j2 M6 ⟨h6,k6⟩ q0 q1 lH gp=>?_
 dsimp only[aa]
 rw[gU]
 refine je (P:=fun M'=>At bA T b d3 M'∧ag [b] M M') (p:=lt d3[a]! d3[j2]!) ⟨h6,k6⟩ (fun hc k hk=>?_) fun M7 ⟨h7,k7⟩=>?_
 ·have hc:i2≤j2:=of_decide_eq_true hc
  rw[h6.rd (z:=3) rfl hs3.symm (by omega),h6.rd (z:=3) rfl hs3.symm (by omega)]
  exact hl.use fun M5 k5=>hk M5 ⟨h6.keep k5,k6.trans (k5.mono (cs:=[b]) (by simp))⟩
 refine aD (fun h=>?_) (fun h=>?_)
 ·have hc:i2≤j2:=by
   rw[Bool.and_eq_true] at h
   exact of_decide_eq_true h.1
  rw[aZ (by omega) (by omega)]
  exact lH h M7 ⟨h7,k7⟩
 have hj2:=gp h
 simp only[← hj2] at hm
 rw[lX]
 refine aD (fun hg=>?_) (fun hg=>?_)
 ·rw[if_pos (of_decide_eq_true hg)] at hm
  rw[hm] at hQ
  exact hQ M7 h7 k7
 ·have hg:¬ i2 > j2:=of_decide_eq_false hg
  rw[if_neg hg,dif_pos (by omega)] at hm
  rw[h7.rd (z:=3) rfl hs3.symm (by omega),h7.rd (z:=3) rfl hs3.symm (by omega)]
  refine h7.swap (z:=3) rfl hs3.symm (by omega) (by omega) fun M8 h8 k8=>?_
  rw[add1 (by omega),aZ (by omega) (by omega)]
  exact hnext _ _ _ (by omega) ⟨i2 + 1,j2 - 1,_,rfl,rfl,by omega,by omega,by omega,h8,k7.trans k8,by rw[bF,hs3],hm⟩
def Wv (T:Nat) (fv:AV) (lt:bY→bY→Bool) (c:ai) : Prop:=∀ {M:RM} {b a e pv:Nat} {d:Array bY} {Q:ak},At bA T b d M→d.size≤60000→a≤pv→pv<e→e≤d.size→(∀ M',At bA T b (Sort.partition lt d a e pv).2.2 M'→ag [b] M M'→Q (.tup [N .i64 (((Sort.partition lt d a e pv).1:Nat) : Int),Bo (Sort.partition lt d a e pv).2.1]) M') →
 c [sv b d.size 3,N .i64 (a:Int),N .i64 (e:Int),N .i64 (pv:Int),fv] M Q
theorem Ws {T:Nat} {fv:AV} {lt:bY→bY→Bool} {cv:FuncId→ai} (hl:iR bA lt (bD cv fv)) : Wv T fv lt fun args M Q=>∃ a0 a1 a2 a3 a4,args=[a0,a1,a2,a3,a4]∧jD cv a0 a1 a2 a3 a4 M Q:=by
 intro M b a e pv d Q hat hsz hap hpe he hQ
 refine⟨_,_,_,_,_,rfl, ?_⟩
 unfold jD
 simp only[dP,dz,dK]
 have hs2:=bF d a pv
 rw[qI] at hQ
 rw[hat.rd (z:=3) rfl rfl (by omega),hat.rd (z:=3) rfl rfl (by omega)]
 refine hat.swap (z:=3) rfl rfl (by omega) (by omega) fun M2 h2 k2=>?_
 rw[add1 (by omega),aZ (by omega) (by omega)]
 generalize Sort.swp d a pv=d2 at *
 refine qV (P:=fun M'=>At bA T b d2 M'∧ag [b] M M') (p:=fun x=>lt x d2[a]!) (d:=d2) (J:=e - 1) ⟨h2,k2⟩ fun fq i M3 ⟨h3,k3⟩ h0 h1 hgo hstop=>?_
 dsimp only[aa]
 rw[gU]
 refine je (P:=fun M'=>At bA T b d2 M'∧ag [b] M M') (p:=lt d2[i]! d2[a]!) ⟨h3,k3⟩ (fun hc k hk=>?_) fun M4 h4=>?_
 ·have hc:i≤e - 1:=of_decide_eq_true hc
  rw[h3.rd (z:=3) rfl hs2.symm (by omega),h3.rd (z:=3) rfl hs2.symm (by omega)]
  exact hl.use fun M5 k5=>hk M5 ⟨h3.keep k5,k3.trans (k5.mono (cs:=[b]) (by simp))⟩
 refine aD (fun h=>?_) (fun h=>?_)
 ·rw[add1 (by omega)]
  exact hgo h M4 h4
 have hi2:i=pI lt d2 a e:=hstop h
 have uT:pJ lt d2 a e=Sort.scanDown (fun x=>!lt x d2[a]!) d2 (pI lt d2 a e) (e - 1):=rfl
 have uw:pL lt d2 a e=Sort.partLoop lt a (pI lt d2 a e + 1) (pJ lt d2 a e - 1) (Sort.swp d2 (pI lt d2 a e) (pJ lt d2 a e)):=rfl
 rw[← hi2] at uT uw hQ
 refine mG (P:=fun M'=>At bA T b d2 M'∧ag [b] M M') (p:=fun x=>!lt x d2[a]!) (d:=d2) (i:=i) h4 (by omega) fun kW j M5 ⟨h5,k5⟩ q0 q1 lH gp=>?_
 dsimp only[aa]
 rw[gU]
 refine je (P:=fun M'=>At bA T b d2 M'∧ag [b] M M') (p:=!lt d2[j]! d2[a]!) ⟨h5,k5⟩ (fun hc k hk=>?_) fun M6 ⟨h6,k6⟩=>?_
 ·have hc:i≤j:=of_decide_eq_true hc
  rw[h5.rd (z:=3) rfl hs2.symm (by omega),h5.rd (z:=3) rfl hs2.symm (by omega)]
  refine hl.use fun M7 k7=>?_
  rw[bu]
  exact hk M7 ⟨h5.keep k7,k5.trans (k7.mono (cs:=[b]) (by simp))⟩
 refine aD (fun h=>?_) (fun h=>?_)
 ·have hc:i≤j:=by
   rw[Bool.and_eq_true] at h
   exact of_decide_eq_true h.1
  rw[aZ (by omega) (by omega)]
  exact lH h M6 ⟨h6,k6⟩
 have hj2:=gp h
 rw[← hj2] at uT
 rw[uT] at uw hQ
 rw[lX]
 refine aD (fun hg=>?_) (fun hg=>?_)
 ·rw[if_pos (of_decide_eq_true hg)] at hQ
  rw[h6.rd (z:=3) rfl hs2.symm (by omega),h6.rd (z:=3) rfl hs2.symm (by omega)]
  exact h6.swap (z:=3) rfl hs2.symm (by omega) (by omega) fun M7 h7 k7=>hQ M7 h7 (k6.trans k7)
 have hg:¬ i > j:=of_decide_eq_false hg
 rw[if_neg hg] at hQ
 rw[h6.rd (z:=3) rfl hs2.symm (by omega),h6.rd (z:=3) rfl hs2.symm (by omega)]
 refine h6.swap (z:=3) rfl hs2.symm (by omega) (by omega) fun M7 h7 k7=>?_
 rw[add1 (by omega),aZ (by omega) (by omega)]
 generalize pL lt d2 a e=R at *
 refine aG (fun m ys M3=>∃ (i j:Nat) (d3:Array bY),m=j + 1 - i∧ys=[N .i64 (i:Int),N .i64 (j:Int)]∧a + 1≤i∧i≤e + 1∧j<e∧At bA T b d3 M3∧ag [b] M M3∧d3.size=d.size∧R=Sort.partLoop lt a i j d3) _ ⟨i + 1,j - 1,_,rfl,rfl,by omega,by omega,by omega,h7,k6.trans k7,by rw[bF,hs2],uw⟩ ?_
 rintro next m ys M3 hnext ⟨i,j,d3,rfl,rfl,hai,hie,hje,h3,k3,hs3,hm⟩
 dsimp only[aa]
 rw[Sort.partLoop] at hm
 refine qV (P:=fun M'=>At bA T b d3 M'∧ag [b] M M') (p:=fun x=>lt x d3[a]!) (d:=d3) (J:=j) ⟨h3,k3⟩ fun fq i2 M4 ⟨h4,k4⟩ h0 h1 hgo hstop=>?_
 dsimp only[aa]
 rw[gU]
 refine je (P:=fun M'=>At bA T b d3 M'∧ag [b] M M') (p:=lt d3[i2]! d3[a]!) ⟨h4,k4⟩ (fun hc k hk=>?_) fun M5 h5=>?_
 ·have hc:i2≤j:=of_decide_eq_true hc
  rw[h4.rd (z:=3) rfl hs3.symm (by omega),h4.rd (z:=3) rfl hs3.symm (by omega)]
  exact hl.use fun M5 k5=>hk M5 ⟨h4.keep k5,k4.trans (k5.mono (cs:=[b]) (by simp))⟩
 refine aD (fun h=>?_) (fun h=>?_)
 ·rw[add1 (by omega)]
  exact hgo h M5 h5
 have hi2:=hstop h
 rw[← hi2] at hm
 refine mG (P:=fun M'=>At bA T b d3 M'∧ag [b] M M') (p:=fun x=>!lt x d3[a]!) (d:=d3) (i:=i2) h5 (by omega) fun kW j2 M6 ⟨h6,k6⟩ q0 q1 lH gp=>?_
 dsimp only[aa]
 rw[gU]
 refine je (P:=fun M'=>At bA T b d3 M'∧ag [b] M M') (p:=!lt d3[j2]! d3[a]!) ⟨h6,k6⟩ (fun hc k hk=>?_) fun M7 ⟨h7,k7⟩=>?_
 ·have hc:i2≤j2:=of_decide_eq_true hc
  rw[h6.rd (z:=3) rfl hs3.symm (by omega),h6.rd (z:=3) rfl hs3.symm (by omega)]
  refine hl.use fun M8 k8=>?_
  rw[bu]
  exact hk M8 ⟨h6.keep k8,k6.trans (k8.mono (cs:=[b]) (by simp))⟩
 refine aD (fun h=>?_) (fun h=>?_)
 ·have hc:i2≤j2:=by
   rw[Bool.and_eq_true] at h
   exact of_decide_eq_true h.1
  rw[aZ (by omega) (by omega)]
  exact lH h M7 ⟨h7,k7⟩
 have hj2:=gp h
 simp only[← hj2] at hm
 rw[lX]
 refine aD (fun hg=>?_) (fun hg=>?_)
 ·rw[if_pos (of_decide_eq_true hg)] at hm
  rw[hm] at hQ
  rw[h7.rd (z:=3) rfl hs3.symm (by omega),h7.rd (z:=3) rfl hs3.symm (by omega)]
  exact h7.swap (z:=3) rfl hs3.symm (by omega) (by omega) fun M8 h8 k8=>hQ M8 h8 (k7.trans k8)
 ·have hg:¬ i2 > j2:=of_decide_eq_false hg
  rw[if_neg hg,dif_pos (by omega)] at hm
  rw[h7.rd (z:=3) rfl hs3.symm (by omega),h7.rd (z:=3) rfl hs3.symm (by omega)]
  refine h7.swap (z:=3) rfl hs3.symm (by omega) (by omega) fun M8 h8 k8=>?_
  rw[add1 (by omega),aZ (by omega) (by omega)]
  exact hnext _ _ _ (by omega) ⟨i2 + 1,j2 - 1,_,rfl,rfl,by omega,by omega,by omega,h8,k7.trans k8,by rw[bF,hs3],hm⟩
def LW (T TI b s:Nat) (d:Array bY) (k:Nat) (M:RM) : Prop:=At bA T b d M∧M.heap s=some (.row [N .i64 (k:Int)] false TI 0)∧s<M.next
def MF (T TI:Nat) (fv:AV) (lt:bY→bY→Bool) (c:ai) : Prop:=∀ {M:RM} {b s k i j:Nat} {d:Array bY} {Q:ak},LW T TI b s d k M→s≠b→i<d.size→j<d.size→k≤1000 →
 (∀ M',LW T TI b s d (Sort.order2 lt d i j k).2.2 M'→ag [s] M M'→Q (.tup [N .i64 (((Sort.order2 lt d i j k).1:Nat) : Int),N .i64 (((Sort.order2 lt d i j k).2.1:Nat) : Int)]) M')→c [sv b d.size 3,N .i64 (i:Int),N .i64 (j:Int),.ptr s 0,fv] M Q
theorem Nr {T TI:Nat} {fv:AV} {lt:bY→bY→Bool} {cv:FuncId→ai} (hl:iR bA lt (bD cv fv)) : MF T TI fv lt fun args M Q=>∃ a0 a1 a2 a3 a4,args=[a0,a1,a2,a3,a4]∧kQ cv a0 a1 a2 a3 a4 M Q:=by
 intro M b s k i j d Q ⟨hat,hh,hlt⟩ hsb hi hj hk hQ
 refine⟨_,_,_,_,_,rfl, ?_⟩
 unfold kQ
 rw[hat.rd (z:=3) rfl rfl (by omega),hat.rd (z:=3) rfl rfl (by omega)]
 refine hl.use fun M1 k1=>?_
 have h1:=hat.keep k1
 have hh1:=k1.aK hh hlt (by simp)
 have n1:=k1.next
 unfold Sort.order2 at hQ
 refine aD (fun h=>?_) (fun h=>?_)
 ·rw[if_pos h] at hQ
  rw[aU,aA hh1 rfl,add1 (by omega),aU,dV hh1 (by simp) rfl rfl]
  have kk:ag [s] M1 (M1.put s (.row ([N .i64 (k:Int)].set 0 (N .i64 ((k + 1:Nat) : Int))) false TI 0)):=(ag.refl _ _).put _ (.inr (by simp))
  refine hQ _ ⟨h1.keep' kk (by simp; omega),aN _,by rw[gJ]; omega⟩ ((k1.mono (by simp)).trans kk)
 ·rw[if_neg (by rw[h]; decide)] at hQ
  exact hQ M1 ⟨h1,hh1,by omega⟩ (k1.mono (by simp))
def GU (T TI:Nat) (fv:AV) (lt:bY→bY→Bool) (c:ai) : Prop:=∀ {M:RM} {b s k i j h:Nat} {d:Array bY} {Q:ak},LW T TI b s d k M→s≠b→i<d.size→j<d.size→h<d.size→k≤900 →
 (∀ M',LW T TI b s d (Sort.median lt d i j h k).2 M'→ag [s] M M'→Q (N .i64 (((Sort.median lt d i j h k).1:Nat) : Int)) M')→c [sv b d.size 3,N .i64 (i:Int),N .i64 (j:Int),N .i64 (h:Int),.ptr s 0,fv] M Q
theorem GY {T TI:Nat} {fv:AV} {lt:bY→bY→Bool} {c2:ai} (h2:MF T TI fv lt c2) : GU T TI fv lt fun args M Q=>∃ a0 a1 a2 a3 a4 a5,args=[a0,a1,a2,a3,a4,a5]∧kR c2 a0 a1 a2 a3 a4 a5 M Q:=by
 intro M b s k i j h d Q hsw hsb hi hj hh hk hQ
 refine⟨_,_,_,_,_,_,rfl, ?_⟩
 unfold kR
 unfold Sort.median at hQ
 have o1:=om lt d i j k
 refine h2 hsw hsb hi hj (by omega) fun M1 s1 k1=>?_
 rw[fo,fu]
 dsimp only at hQ
 generalize Sort.order2 lt d i j k=r1 at *
 have o2:=om lt d r1.2.1 h r1.2.2
 refine h2 s1 hsb (by omega) hh (by omega) fun M2 s2 k2=>?_
 rw[fo,fu]
 generalize Sort.order2 lt d r1.2.1 h r1.2.2=r2 at *
 refine h2 s2 hsb (by omega) (by omega) (by omega) fun M3 s3 k3=>?_
 rw[fo,fu]
 exact hQ M3 s3 ((k1.trans k2).trans k3)
def Nl (T TI:Nat) (fv:AV) (lt:bY→bY→Bool) (c:ai) : Prop:=∀ {M:RM} {b s k i:Nat} {d:Array bY} {Q:ak},LW T TI b s d k M→s≠b→d.size≤60000→1≤i→i + 1<d.size→k≤900 →
 (∀ M',LW T TI b s d (Sort.medianAdjacent lt d i k).2 M'→ag [s] M M'→Q (N .i64 (((Sort.medianAdjacent lt d i k).1:Nat) : Int)) M')→c [sv b d.size 3,N .i64 (i:Int),.ptr s 0,fv] M Q
theorem NJ {T TI:Nat} {fv:AV} {lt:bY→bY→Bool} {cm:ai} (hm:GU T TI fv lt cm) : Nl T TI fv lt fun args M Q=>∃ a0 a1 a2 a3,args=[a0,a1,a2,a3]∧gQ cm a0 a1 a2 a3 M Q:=by
 intro M b s k i d Q hsw hsb hsz h1 h2 hk hQ
 refine⟨_,_,_,_,rfl, ?_⟩
 unfold gQ
 rw[aZ (by omega) (by omega),add1 (by omega)]
 exact hm hsw hsb (by omega) (by omega) (by omega) hk fun M1 s1 k1=>hQ M1 s1 k1
def DJ (lt:bY→bY→Bool) (d:Array bY) (a e:Nat) : Nat × Nat :=
 if e - a ≥ 8 then(if e - a ≥ 50 then Sort.median lt d (Sort.medianAdjacent lt d (a + (e - a) / 4 * 1) 0).1 (Sort.medianAdjacent lt d (a + (e - a) / 4 * 2) (Sort.medianAdjacent lt d (a + (e - a) / 4 * 1) 0).2).1 (Sort.medianAdjacent lt d (a + (e - a) / 4 * 3) (Sort.medianAdjacent lt d (a + (e - a) / 4 * 2) (Sort.medianAdjacent lt d (a + (e - a) / 4 * 1) 0).2).2).1 (Sort.medianAdjacent lt d (a + (e - a) / 4 * 3) (Sort.medianAdjacent lt d (a + (e - a) / 4 * 2) (Sort.medianAdjacent lt d (a + (e - a) / 4 * 1) 0).2).2).2
  else Sort.median lt d (a + (e - a) / 4 * 1) (a + (e - a) / 4 * 2) (a + (e - a) / 4 * 3) 0) else(a + (e - a) / 4 * 2,0)
theorem ZL (lt:bY→bY→Bool) (d:Array bY) (a e:Nat) : Sort.choosePivot lt d a e=((DJ lt d a e).1,if (DJ lt d a e).2=0 then .increasing else if (DJ lt d a e).2=12 then .decreasing else .unknown):=rfl
def MO (T:Nat) (fv:AV) (lt:bY→bY→Bool) (c:ai) : Prop:=∀ {M:RM} {b a e:Nat} {d:Array bY} {Q:ak},At bA T b d M→d.size≤60000→a<e→e≤d.size →
 (∀ M',At bA T b d M'→ag [] M M'→Q (.tup [N .i64 (((Sort.choosePivot lt d a e).1:Nat) : Int),N .i64 (iL (Sort.choosePivot lt d a e).2)]) M')→c [sv b d.size 3,N .i64 (a:Int),N .i64 (e:Int),fv] M Q
theorem MS {T TI:Nat} {fv:AV} {lt:bY→bY→Bool} {ca cm:ai} (ha:Nl T TI fv lt ca) (hm:GU T TI fv lt cm) : MO T fv lt fun args M Q=>∃ a0 a1 a2 a3,args=[a0,a1,a2,a3]∧jb TI ca cm a0 a1 a2 a3 M Q:=by
 intro M b a e d Q hat hsz hae he hQ
 refine⟨_,_,_,_,rfl, ?_⟩
 unfold jb
 simp only[bH]
 rw[df (by omega) (by omega),aX]
 have kk:ag [] M (M.push (.row [N .i64 0] false TI 0)):=(ag.refl _ _).push _
 have sw0:LW T TI b M.next d 0 (M.push (.row [N .i64 0] false TI 0)):=⟨hat.keep kk,RM.aQ _,by simp[RM.push]⟩
 have hsb:M.next≠b:=by have:=hat.lt; omega
 have back:∀ M',ag [M.next] (M.push (.row [N .i64 0] false TI 0)) M'→ag [] M M':=fun M' k=>kk.bW k fun c hc=>.inl (by simp at hc; omega)
 generalize M.push (.row [N .i64 0] false TI 0)=M1 at *
 generalize M.next=s at *
 have hq:∀ (k:Nat) (c:Int),c=(k:Int)→k≤3→∀ (K:AV→Prop),(af .quo (N .i64 ((e - a:Nat) : Int)) (N .i64 4) fun t18=>af .mul t18 (N .i64 c) fun t19=>af .add (N .i64 (a:Int)) t19 K)=K (N .i64 ((a + (e - a) / 4 * k:Nat) : Int)):=fun k c hc hk K=>by
  subst hc
  have hb:(e - a) / 4 * k≤(e - a) * 3:=Nat.mul_le_mul (Nat.div_le_self _ _) hk
  rw[gK,show(4:Int)=((4:Nat) : Int) from rfl,jE,aS (by omega) (by omega),nZ,← Int.natCast_mul,aS (by omega) (by omega),addN (by omega)]
  exact propext ⟨fun h=>h.2,fun h=>⟨by decide,h⟩⟩
 rw[hq 1 1 rfl (by omega),hq 2 2 rfl (by omega),hq 3 3 rfl (by omega)]
 rw[ZL] at hQ
 have hr:DJ lt d a e=DJ lt d a e:=rfl
 conv at hr=>rhs; unfold DJ
 generalize DJ lt d a e=r at *
 refine aT (fun zs M'=>zs=[N .i64 ((r.1:Nat) : Int)]∧LW T TI b s d r.2 M'∧ag [s] M1 M') ?_ ?_
 ·rintro zs M' ⟨rfl,⟨h3,hh,_⟩,k3⟩
  dsimp only[aa]
  have:=hQ M' h3 (back M' k3)
  rw[aA hh rfl,bV]
  by_cases h0:r.2=0
  ·rw[show((r.2:Int) == 0)=true by rw[h0]; rfl,cO]
   rw[if_pos h0] at this
   exact this
  ·rw[show((r.2:Int) == 0)=false by rw[beq_eq_false_iff_ne]; omega,bz,bV]
   rw[if_neg h0] at this
   by_cases h12:r.2=12
   ·rw[show((r.2:Int) == 12)=true by rw[h12]; rfl,cO]
    rw[if_pos h12] at this
    exact this
   ·rw[show((r.2:Int) == 12)=false by rw[beq_eq_false_iff_ne]; omega,bz]
    rw[if_neg h12] at this
    exact this
 intro J hJ
 rw[show(8:Int)=((8:Nat) : Int) from rfl,eY]
 refine aD (fun h8=>?_) (fun h8=>?_)
 ·have h8:e - a ≥ 8:=of_decide_eq_true h8
  rw[if_pos h8] at hr
  refine aT (fun zs M'=>∃ x y z k:Nat,zs=[N .i64 (x:Int),N .i64 (y:Int),N .i64 (z:Int)]∧LW T TI b s d k M'∧ag [s] M1 M'∧x<d.size∧y<d.size∧z<d.size∧k≤900∧r=Sort.median lt d x y z k) ?_ ?_
  ·rintro zs M' ⟨x,y,z,k,rfl,s3,k3,hx,hy,hz,hk,rfl⟩
   dsimp only[aa]
   exact hm s3 hsb hx hy hz hk fun M4 s4 k4=>hJ _ _ ⟨rfl,s4,k3.trans k4⟩
  intro J0 hJ0
  rw[show(50:Int)=((50:Nat) : Int) from rfl,eY]
  refine aD (fun h50=>?_) (fun h50=>?_)
  ·have h50:e - a ≥ 50:=of_decide_eq_true h50
   rw[if_pos h50] at hr
   have m1:=ol lt d (i:=a + (e - a) / 4 * 1 - 1) (j:=a + (e - a) / 4 * 1) (h:=a + (e - a) / 4 * 1 + 1) (k:=0) (n:=d.size) (by omega) (by omega) (by omega)
   have r1:(Sort.medianAdjacent lt d (a + (e - a) / 4 * 1) 0).1<d.size∧(Sort.medianAdjacent lt d (a + (e - a) / 4 * 1) 0).2≤0 + 3:=m1
   refine ha sw0 hsb hsz (by omega) (by omega) (by omega) fun M2 s2 k2=>?_
   generalize Sort.medianAdjacent lt d (a + (e - a) / 4 * 1) 0=q1 at *
   have m2:=ol lt d (i:=a + (e - a) / 4 * 2 - 1) (j:=a + (e - a) / 4 * 2) (h:=a + (e - a) / 4 * 2 + 1) (k:=q1.2) (n:=d.size) (by omega) (by omega) (by omega)
   have r2:(Sort.medianAdjacent lt d (a + (e - a) / 4 * 2) q1.2).1<d.size∧(Sort.medianAdjacent lt d (a + (e - a) / 4 * 2) q1.2).2≤q1.2 + 3:=m2
   refine ha s2 hsb hsz (by omega) (by omega) (by omega) fun M3 s3 k3=>?_
   generalize Sort.medianAdjacent lt d (a + (e - a) / 4 * 2) q1.2=q2 at *
   have m3:=ol lt d (i:=a + (e - a) / 4 * 3 - 1) (j:=a + (e - a) / 4 * 3) (h:=a + (e - a) / 4 * 3 + 1) (k:=q2.2) (n:=d.size) (by omega) (by omega) (by omega)
   have r3:(Sort.medianAdjacent lt d (a + (e - a) / 4 * 3) q2.2).1<d.size∧(Sort.medianAdjacent lt d (a + (e - a) / 4 * 3) q2.2).2≤q2.2 + 3:=m3
   refine ha s3 hsb hsz (by omega) (by omega) (by omega) fun M4 s4 k4=>?_
   generalize Sort.medianAdjacent lt d (a + (e - a) / 4 * 3) q2.2=q3 at *
   exact hJ0 _ _ ⟨q1.1,q2.1,q3.1,q3.2,rfl,s4,(k2.trans k3).trans k4,r1.1,r2.1,r3.1,by omega,hr⟩
  ·have h50:¬ e - a ≥ 50:=of_decide_eq_false h50
   rw[if_neg h50] at hr
   exact hJ0 _ _ ⟨_,_,_,0,rfl,sw0,ag.refl _ _,by omega,by omega,by omega,by omega,hr⟩
 ·have h8:¬ e - a ≥ 8:=of_decide_eq_false h8
  rw[if_neg h8] at hr
  subst hr
  exact hJ _ _ ⟨rfl,sw0,ag.refl _ _⟩
def Jd (T:Nat) (fv:AV) (lt:bY→bY→Bool) (c:ai) : Prop:=∀ {M:RM} {b a e:Nat} {d:Array bY} {Q:ak},At bA T b d M→d.size≤60000→a<e→e≤d.size→(∀ M',At bA T b (Sort.partialInsertionSort lt d a e).1 M'→ag [b] M M'→Q (Bo (Sort.partialInsertionSort lt d a e).2) M') →
 c [sv b d.size 3,N .i64 (a:Int),N .i64 (e:Int),fv] M Q
theorem JD {T:Nat} {fv:AV} {lt:bY→bY→Bool} {cv:FuncId→ai} (hl:iR bA lt (bD cv fv)) : Jd T fv lt fun args M Q=>∃ a0 a1 a2 a3,args=[a0,a1,a2,a3]∧fF cv a0 a1 a2 a3 M Q:=by
 intro M b a e d Q hat hsz hae he hQ
 refine⟨_,_,_,_,rfl, ?_⟩
 unfold fF
 simp only[dP,dz,dK,bH]
 rw[add1 (by omega)]
 unfold Sort.partialInsertionSort at hQ
 obtain⟨R,hR⟩ : ∃ R,R=Sort.partialIns lt a e 5 (a + 1) d:=⟨_,rfl⟩
 rw[← hR] at hQ
 refine aG (fun m ys M3=>∃ (i s:Nat) (d3:Array bY),m=s∧s≤5∧ys=[N .i64 (i:Int),N .i64 ((5 - s:Nat) : Int)]∧a + 1≤i∧i≤e∧At bA T b d3 M3∧ag [b] M M3∧d3.size=d.size∧R=Sort.partialIns lt a e s i d3) _ ⟨a + 1,5,d,rfl,by omega,rfl,by omega,by omega,hat,ag.refl _ _,rfl,hR⟩ ?_
 rintro next m ys M3 hnext ⟨i,s,d3,hms,hs5,rfl,hai,hie,h3,k3,hs3,hm⟩
 dsimp only[aa]
 rw[show(5:Int)=((5:Nat) : Int) from rfl,dC]
 refine aD (fun hg=>?_) (fun hg=>?_)
 ·have hg:5 - s<5:=of_decide_eq_true hg
  obtain⟨s',rfl⟩ : ∃ s',s=s' + 1:=⟨s - 1,by omega⟩
  rw[pK] at hm
  refine aT (fun zs M'=>∃ (i' : Nat) (d4:Array bY),zs=[N .i64 (i' : Int)]∧a + 1≤i'∧i'≤e∧At bA T b d4 M'∧ag [b] M M'∧d4.size=d.size∧R=Sort.partialIns lt a e s' i' d4) ?_ ?_
  ·rintro zs M' ⟨i',d4,rfl,h1,h2,h4,k4,h5,h6⟩
   dsimp only[aa]
   rw[add1 (by omega)]
   exact hnext _ _ _ (by omega) ⟨i',s',d4,rfl,by omega,by congr 4; omega,h1,h2,h4,k4,h5,h6⟩
  intro J hJ
  obtain⟨R5,hR5⟩ : ∃ R5,R5=Sort.scanSorted lt d3 e i:=⟨_,rfl⟩
  rw[← hR5] at hm
  refine aG (fun m ys M5=>∃ (j:Nat),m=e - j∧ys=[N .i64 (j:Int)]∧i≤j∧j≤e∧At bA T b d3 M5∧ag [b] M M5∧R5=Sort.scanSorted lt d3 e j) _ ⟨i,rfl,rfl,Nat.le_refl _,hie,h3,k3,hR5⟩ ?_
  rintro fq m ys M5 dx ⟨j,rfl,rfl,hij,hje,h5,k5,hm5⟩
  dsimp only[aa]
  rw[Sort.scanSorted] at hm5
  rw[dC]
  refine je (P:=fun M'=>At bA T b d3 M'∧ag [b] M M') (p:=!lt d3[j]! d3[j - 1]!) ⟨h5,k5⟩ (fun hc k hk=>?_) fun M6 ⟨h6,k6⟩=>?_
  ·have hc:j<e:=of_decide_eq_true hc
   rw[h5.rd (z:=3) rfl hs3.symm (by omega),aZ (by omega) (by omega),h5.rd (z:=3) rfl hs3.symm (by omega)]
   refine hl.use fun M7 k7=>?_
   rw[bu]
   exact hk M7 ⟨h5.keep k7,k5.trans (k7.mono (cs:=[b]) (by simp))⟩
  refine aD (fun h=>?_) (fun h=>?_)
  ·have hc:j<e:=by
    rw[Bool.and_eq_true] at h
    exact of_decide_eq_true h.1
   rw[if_pos h] at hm5
   rw[add1 (by omega)]
   exact dx _ _ _ (by omega) ⟨j + 1,rfl,rfl,by omega,by omega,h6,k6,hm5⟩
  rw[if_neg (by rw[h]; decide)] at hm5
  subst hm5
  rw[F8]
  refine aD (fun lK=>?_) (fun lK=>?_)
  ·rw[if_pos (of_decide_eq_true lK)] at hm
   rw[hm] at hQ
   exact hQ M6 h6 k6
  have lK:¬ R5=e:=of_decide_eq_false lK
  rw[if_neg lK] at hm
  rw[df (by omega) (by omega),show(50:Int)=((50:Nat) : Int) from rfl,dC]
  refine aD (fun h50=>?_) (fun h50=>?_)
  ·rw[if_pos (of_decide_eq_true h50)] at hm
   rw[hm] at hQ
   exact hQ M6 h6 k6
  rw[if_neg (of_decide_eq_false h50)] at hm
  rw[aZ (by omega) (by omega),aZ (by omega) (by omega),h6.rd (z:=3) rfl hs3.symm (by omega),h6.rd (z:=3) rfl hs3.symm (by omega)]
  refine h6.swap (z:=3) rfl hs3.symm (by omega) (by omega) fun M7 h7 k7'=>?_
  have k7:=k6.trans k7'
  have hs6:(Sort.swp d3 R5 (R5 - 1)).size=d.size:=by rw[bF,hs3]
  generalize Sort.swp d3 R5 (R5 - 1)=d6 at *
  refine aT (fun zs M'=>zs=[]∧At bA T b (if R5 - a ≥ 2 then Sort.shiftDown lt (R5 - 1) d6 else d6) M'∧ag [b] M M') ?_ ?_
  ·rintro zs M8 ⟨rfl,h8,k8⟩
   have hs7:(if R5 - a ≥ 2 then Sort.shiftDown lt (R5 - 1) d6 else d6).size=d.size:=by
    split
    ·rw[rJ,hs6]
    ·exact hs6
   generalize (if R5 - a ≥ 2 then Sort.shiftDown lt (R5 - 1) d6 else d6)=d7 at *
   rw[df (by omega) (by omega),show(2:Int)=((2:Nat) : Int) from rfl,eY]
   refine aD (fun h2=>?_) (fun h2=>?_)
   ·rw[if_pos (of_decide_eq_true h2)] at hm
    rw[add1 (by omega)]
    obtain⟨R8,hR8⟩ : ∃ R8,R8=Sort.shiftUp lt e (R5 + 1) d7:=⟨_,rfl⟩
    rw[← hR8] at hm
    refine aG (fun m ys M8=>∃ (j:Nat) (d8:Array bY),m=e - j∧ys=[N .i64 (j:Int)]∧R5 + 1≤j∧j≤e∧At bA T b d8 M8∧ag [b] M M8∧d8.size=d.size∧R8=Sort.shiftUp lt e j d8) _ ⟨R5 + 1,d7,rfl,rfl,Nat.le_refl _,by omega,h8,k8,hs7,hR8⟩ ?_
    rintro kW m ys M9 lL ⟨j,d8,rfl,rfl,hj1,hj2,h9,k9,dw,hm8⟩
    dsimp only[aa]
    rw[Sort.shiftUp] at hm8
    rw[dC]
    refine aD (fun hl1=>?_) (fun hl1=>?_)
    ·have hl1:j<e:=of_decide_eq_true hl1
     rw[if_pos hl1] at hm8
     rw[h9.rd (z:=3) rfl dw.symm (by omega),aZ (by omega) (by omega),h9.rd (z:=3) rfl dw.symm (by omega)]
     refine hl.use fun M10 jR=>?_
     have h10:=h9.keep jR
     have k10:=k9.trans (jR.mono (cs:=[b]) (by simp))
     rw[bu]
     refine aD (fun hn=>?_) (fun hn=>?_)
     ·rw[if_pos hn] at hm8
      subst hm8
      exact hJ _ _ ⟨R5,R8,rfl,by omega,by omega,h10,k10,dw,hm⟩
     ·rw[if_neg (by rw[hn]; decide)] at hm8
      rw[aZ (by omega) (by omega),aZ (by omega) (by omega),h10.rd (z:=3) rfl dw.symm (by omega),h10.rd (z:=3) rfl dw.symm (by omega)]
      refine h10.swap (z:=3) rfl dw.symm (by omega) (by omega) fun M11 h11 k11=>?_
      rw[add1 (by omega)]
      exact lL _ _ _ (by omega) ⟨j + 1,_,rfl,rfl,by omega,by omega,h11,k10.trans k11,by rw[bF,dw],hm8⟩
    ·rw[if_neg (of_decide_eq_false hl1)] at hm8
     subst hm8
     exact hJ _ _ ⟨R5,R8,rfl,by omega,by omega,h9,k9,dw,hm⟩
   ·rw[if_neg (of_decide_eq_false h2)] at hm
    exact hJ _ _ ⟨R5,d7,rfl,by omega,by omega,h8,k8,hs7,hm⟩
  intro J2 hJ2
  rw[df (by omega) (by omega),show(2:Int)=((2:Nat) : Int) from rfl,eY]
  refine aD (fun h2=>?_) (fun h2=>?_)
  ·rw[if_pos (of_decide_eq_true h2)] at hJ2
   rw[aZ (by omega) (by omega)]
   obtain⟨R8,hR8⟩ : ∃ R8,R8=Sort.shiftDown lt (R5 - 1) d6:=⟨_,rfl⟩
   rw[← hR8] at hJ2
   refine aG (fun m ys M8=>∃ (j:Nat) (d8:Array bY),m=j + 1∧ys=[N .i64 (j:Int)]∧j<R5∧At bA T b d8 M8∧ag [b] M M8∧d8.size=d.size∧R8=Sort.shiftDown lt j d8) _ ⟨R5 - 1,d6,rfl,rfl,by omega,h7,k7,hs6,hR8⟩ ?_
   rintro kW m ys M8 lL ⟨j,d8,rfl,rfl,hj1,h8,k8,dw,hm8⟩
   dsimp only[aa]
   rw[show(1:Int)=((1:Nat) : Int) from rfl,eY]
   refine aD (fun hl1=>?_) (fun hl1=>?_)
   ·have hl1:j ≥ 1:=of_decide_eq_true hl1
    obtain⟨j',rfl⟩ : ∃ j',j=j' + 1:=⟨j - 1,by omega⟩
    rw[Sort.shiftDown] at hm8
    rw[h8.rd (z:=3) rfl dw.symm (by omega),df (by omega) (by omega),Nat.add_sub_cancel,h8.rd (z:=3) rfl dw.symm (by omega)]
    refine hl.use fun M10 jR=>?_
    have h10:=h8.keep jR
    have k10:=k8.trans (jR.mono (cs:=[b]) (by simp))
    rw[bu]
    refine aD (fun hn=>?_) (fun hn=>?_)
    ·rw[if_pos hn] at hm8
     subst hm8
     exact hJ2 _ _ ⟨rfl,h10,k10⟩
    ·rw[if_neg (by rw[hn]; decide)] at hm8
     rw[df (by omega) (by omega),df (by omega) (by omega),Nat.add_sub_cancel,h10.rd (z:=3) rfl dw.symm (by omega),h10.rd (z:=3) rfl dw.symm (by omega)]
     refine h10.swap (z:=3) rfl dw.symm (by omega) (by omega) fun M11 h11 k11=>?_
     rw[df (by omega) (by omega),Nat.add_sub_cancel]
     exact lL _ _ _ (by omega) ⟨j',_,rfl,rfl,by omega,h11,k10.trans k11,by rw[bF,dw],hm8⟩
   ·have hl1:¬ j ≥ 1:=of_decide_eq_false hl1
    have h0:j=0:=by omega
    subst h0
    rw[Sort.shiftDown] at hm8
    subst hm8
    exact hJ2 _ _ ⟨rfl,h8,k8⟩
  ·rw[if_neg (of_decide_eq_false h2)] at hJ2
   exact hJ2 _ _ ⟨rfl,h7,k7⟩
 ·have hg:¬ 5 - s<5:=of_decide_eq_false hg
  have h0:s=0:=by omega
  subst h0
  rw[Sort.partialIns] at hm
  rw[hm] at hQ
  exact hQ M3 h3 k3
theorem RF {T TX:Nat} {fv:AV} {cp cx:ai} (hp:Nw cp) (hx:Tv TX cx) : SortG bA T 3 fv Sort.breakPatterns (fun _ _ _=>True) fun args M Q=>∃ a0 a1 a2 a3,args=[a0,a1,a2,a3]∧iC TX cp cx a0 a1 a2 a3 M Q:=by
 intro M b a e d Q hat hsz hae he _ hQ
 refine⟨_,_,_,_,rfl, ?_⟩
 unfold iC
 simp only[bH]
 rw[df hae (by omega),show(8:Int)=((8:Nat) : Int) from rfl,eY]
 unfold Sort.breakPatterns at hQ
 refine aD (fun h8=>?_) (fun h8=>?_)
 ·have h8:e - a ≥ 8:=of_decide_eq_true h8
  rw[if_pos h8] at hQ
  have hbl:=qG (x:=e - a) (by omega) (by omega)
  rw[jQ,fJ (by omega) (by omega),aX]
  have kk:ag [] M (M.push (.row [(N .u64 0)] false TX 0)):=(ag.refl _ _).push _
  have hsb:M.next≠b:=by have:=hat.lt; omega
  have hh0:(M.push (.row [(N .u64 0)] false TX 0)).heap M.next=some (.row [N .u64 0] false TX 0):=RM.aQ _
  have JY:(UInt64.ofNat (e - a)).toNat=e - a:=by rw[UInt64.toNat_ofNat']; omega
  have hn0:M.next<(M.push (.row [(N .u64 0)] false TX 0)).next:=by simp[RM.push]
  rw[dV hh0 (by simp) rfl rfl]
  have kS:ag [] M ((M.push (.row [(N .u64 0)] false TX 0)).put M.next (.row (([N .u64 0] : List AV).set 0 (N .u64 ((e - a:Nat) : Int))) false TX 0)):=kk.new _ (Nat.le_refl _)
  have hs1:((M.push (.row [(N .u64 0)] false TX 0)).put M.next (.row (([N .u64 0] : List AV).set 0 (N .u64 ((e - a:Nat) : Int))) false TX 0)).heap M.next=some (.row [N .u64 ((UInt64.ofNat (e - a)).toNat:Int)] false TX 0):=by
   rw[aN,JY]; rfl
  have hn1:M.next<((M.push (.row [(N .u64 0)] false TX 0)).put M.next (.row (([N .u64 0] : List AV).set 0 (N .u64 ((e - a:Nat) : Int))) false TX 0)).next:=hn0
  generalize (M.push (.row [(N .u64 0)] false TX 0)).put M.next (.row (([N .u64 0] : List AV).set 0 (N .u64 ((e - a:Nat) : Int))) false TX 0)=M1 at *
  have Sw:=hat.keep kS
  have back:∀ M',ag [b,M.next] M1 M'→ag [b] M M':=fun M' k=>(kS.mono (cs:=[b]) (by simp)).bW k fun c hc=>by simp at hc; rcases hc with h | h <;> simp[h]
  generalize M.next=s at *
  refine hp (by omega) (by omega) ?_
  have hq:∀ (c:Int),c=((2:Nat) : Int)→∀ (K:AV→Prop),(af .quo (N .i64 ((e - a:Nat) : Int)) (N .i64 4) fun t18=>af .mul t18 (N .i64 c) fun t19=>af .add (N .i64 (a:Int)) t19 K)=K (N .i64 ((a + (e - a) / 4 * 2:Nat) : Int)):=fun c hc K=>by
   subst hc
   rw[gK,show(4:Int)=((4:Nat) : Int) from rfl,jE,aS (by omega) (by omega),nZ,← Int.natCast_mul,aS (by omega) (by omega),addN (by omega)]
   exact propext ⟨fun h=>h.2,fun h=>⟨by decide,h⟩⟩
  rw[hq 2 rfl,aZ (by omega) (by omega)]
  have JZ:(Sort.breakStep a (e - a) (1 <<< Sort.bitsLen (e - a)) (Sort.breakStep a (e - a) (1 <<< Sort.bitsLen (e - a)) (Sort.breakStep a (e - a) (1 <<< Sort.bitsLen (e - a)) (UInt64.ofNat (e - a),d) (a + (e - a) / 4 * 2 - 1)) (a + (e - a) / 4 * 2 - 1 + 1)) (a + (e - a) / 4 * 2 - 1 + 2)).2=(lU a (e - a) (2 ^ Sort.bitsLen (e - a)) (a + (e - a) / 4 * 2 - 1) d 3).2:=by
   rw[Nat.shiftLeft_eq,Nat.one_mul]; rfl
  have hQ:∀ M',At bA T b (lU a (e - a) (2 ^ Sort.bitsLen (e - a)) (a + (e - a) / 4 * 2 - 1) d 3).2 M'→ag [b] M M'→Q (.tup []) M':=fun M' h k=>hQ M' (by rw[JZ]; exact h) k
  generalize hmd:2 ^ Sort.bitsLen (e - a)=md at *
  generalize hi0:a + (e - a) / 4 * 2 - 1=i0 at *
  refine aG (fun m ys M3=>∃ (k:Nat),m=3 - k∧k≤3∧ys=[N .i64 ((i0 + k:Nat) : Int)]∧At bA T b (lU a (e - a) md i0 d k).2 M3∧M3.heap s=some (.row [N .u64 ((lU a (e - a) md i0 d k).1.toNat:Int)] false TX 0)∧s<M3.next∧ag [b,s] M1 M3) _ ⟨0,rfl,by omega,rfl,Sw,hs1,hn1,ag.refl _ _⟩ ?_
  rintro next m ys M3 hnext ⟨k,rfl,hk,rfl,h3,hh3,hn3,k3⟩
  dsimp only[aa]
  have hsk:=K4 a (e - a) md i0 d k
  have JQ:lU a (e - a) md i0 d (k + 1)=Sort.breakStep a (e - a) md (lU a (e - a) md i0 d k) (i0 + k):=rfl
  generalize Ka:lU a (e - a) md i0 d k=st at *
  rw[hq 2 rfl,add1 (by omega),gU]
  refine aD (fun hg=>?_) (fun hg=>?_)
  ·have hg:i0 + k≤a + (e - a) / 4 * 2 + 1:=of_decide_eq_true hg
   refine aT (fun zs M'=>At bA T b (lU a (e - a) md i0 d (k + 1)).2 M'∧M'.heap s=some (.row [N .u64 ((lU a (e - a) md i0 d (k + 1)).1.toNat:Int)] false TX 0)∧s<M'.next∧ag [b,s] M1 M') ?_ ?_
   ·rintro zs M' ⟨c1,c2,c3,c4⟩
    rw[add1 (by omega)]
    exact hnext _ _ _ (by omega) ⟨k + 1,rfl,by omega,rfl,c1,c2,c3,c4⟩
   intro J hJ
   refine hx hh3 hn3 fun M4 hh4 k4 n4=>?_
   have h4:=h3.keep' k4 (by simp; omega)
   rw[JQ] at hJ
   unfold Sort.breakStep at hJ
   dsimp only at hJ
   generalize Sort.xorNext st.1=r at *
   rw[eT,fJ (by omega) (by omega),show(md:Int) - 1=((md - 1:Nat) : Int) by omega,AA,Ea rfl]
   have hlt:r.toNat &&& (md - 1)<md:=by
    rw[← hmd,Nat.and_two_pow_sub_one_eq_mod]
    exact Nat.mod_lt _ (by rw[hmd]; omega)
   rw[Nat.mod_eq_of_lt (show r.toNat &&& (md - 1)<2 ^ wI .u64 by show _<2 ^ 64; omega)]
   generalize r.toNat &&& (md - 1)=o at *
   rw[jQ,aS (by omega) (by omega)]
   refine aT (fun zs M'=>zs=[N .i64 (((if o ≥ e - a then o - (e - a) else o) : Nat) : Int)]∧M'=M4) ?_ ?_
   ·rintro zs M' ⟨rfl,rfl⟩
    dsimp only[aa]
    have ho:(if o ≥ e - a then o - (e - a) else o)<e - a:=by split <;> omega
    generalize (if o ≥ e - a then o - (e - a) else o)=o2 at *
    rw[addN (by omega),addN (by omega),h4.rd (z:=3) rfl hsk.symm (by omega),h4.rd (z:=3) rfl hsk.symm (by omega)]
    refine h4.swap (z:=3) rfl hsk.symm (by omega) (by omega) fun M5 h5 k5=>?_
    exact hJ _ _ ⟨h5,k5.aK hh4 (by omega) (by simp; omega),by have:=k5.next; omega,(k3.trans (k4.mono (cs:=[b,s]) (by simp))).trans (k5.mono (cs:=[b,s]) (by simp))⟩
   intro J4 hJ4
   rw[eY]
   refine aD (fun hg2=>?_) (fun hg2=>?_)
   ·have hg2:o ≥ e - a:=of_decide_eq_true hg2
    rw[df (by omega) (by omega)]
    exact hJ4 _ _ ⟨by rw[if_pos hg2],rfl⟩
   ·exact hJ4 _ _ ⟨by rw[if_neg (of_decide_eq_false hg2)],rfl⟩
  ·have hg:¬ i0 + k≤a + (e - a) / 4 * 2 + 1:=of_decide_eq_false hg
   have hk3:k=3:=by omega
   subst hk3
   rw[Ka] at hQ
   exact hQ M3 h3 (back M3 k3)
 ·rw[if_neg (of_decide_eq_false h8)] at hQ
  exact hQ M hat (ag.refl _ _)
def XH (T m:Nat) (fv:AV) (lt:bY→bY→Bool) (c:ai) : Prop:=∀ {M:RM} {b a e limit:Nat} {d:Array bY} {Q:ak},At bA T b d M→d.size≤60000→a≤e→e≤d.size→e - a<m→limit≤1000000→(∀ M',At bA T b (Sort.pdq lt d a e limit true true) M'→ag [b] M M'→Q (.tup []) M') →
 c [sv b d.size 3,N .i64 (a:Int),N .i64 (e:Int),N .i64 (limit:Int),fv] M Q
theorem WO {T m:Nat} {fv:AV} {lt:bY→bY→Bool} {cv:FuncId→ai} {ci ch cb cc cr cp ce ct cq:ai} (hlt:Sort.SWO lt) (hi:SortG bA T 3 fv (Sort.insertionSort lt) (fun _ _ _=>True) ci) (hh:SortG bA T 3 fv (Sort.heapSort lt) (fun _ a e=>a<e) ch) (hb:SortG bA T 3 fv Sort.breakPatterns (fun _ _ _=>True) cb) (hc:MO T fv lt cc) (hr:SortG bA T 3 fv Sort.reverseRange (fun _ a e=>a<e) cr)
  (hp:Jd T fv lt cp) (hl:iR bA lt (bD cv fv)) (he:ML T fv lt ce) (ht:Wv T fv lt ct) (hq:XH T m fv lt cq) : XH T (m + 1) fv lt fun args M Q=>∃ a0 a1 a2 a3 a4,args=[a0,a1,a2,a3,a4]∧fw ci ch cb cc cr cp cv ce ct cq a0 a1 a2 a3 a4 M Q:=by
 intro M b a e limit d Q hat hsz hae hed hm hlim hQ
 refine⟨_,_,_,_,_,rfl, ?_⟩
 unfold fw
 simp only[dP,dz,dK,bH]
 obtain⟨R,hR⟩ : ∃ R,R=Sort.pdq lt d a e limit true true:=⟨_,rfl⟩
 rw[← hR] at hQ
 refine aG (fun m' ys M3=>∃ (a e limit:Nat) (wb wp:Bool) (d3:Array bY),m'=e - a∧ys=[N .i64 (a:Int),N .i64 (e:Int),N .i64 (limit:Int),Bo wb,Bo wp]∧a≤e∧e≤d.size∧e - a<m + 1∧limit≤1000000∧At bA T b d3 M3∧ag [b] M M3∧d3.size=d.size∧R=Sort.pdq lt d3 a e limit wb wp) _
  ⟨a,e,limit,true,true,d,rfl,rfl,hae,hed,hm,hlim,hat,ag.refl _ _,rfl,hR⟩ ?_
 clear hR hae hed hm hlim
 rintro next m' ys M4 hnext ⟨a,e,limit,wb,wp,d3,rfl,rfl,hae,hed,hm,hlim,h4,k4,hs3,hR⟩
 dsimp only[aa]
 rw[sD] at hR
 rw[df hae (by omega),show(12:Int)=((12:Nat) : Int) from rfl,gU]
 refine aD (fun hg=>?_) (fun hg=>?_)
 ·rw[if_pos (of_decide_eq_true hg)] at hR
  rw[← hs3]
  refine hi h4 (by omega) hae (by omega) trivial fun M5 h5 k5=>?_
  rw[← hR] at h5
  exact hQ M5 h5 (k4.trans k5)
 have hg:¬ e - a≤12:=of_decide_eq_false hg
 rw[if_neg hg] at hR
 rw[show(0:Int)=((0:Nat) : Int) from rfl,F8]
 refine aD (fun hg0=>?_) (fun hg0=>?_)
 ·rw[if_pos (of_decide_eq_true hg0)] at hR
  rw[← hs3]
  refine hh h4 (by omega) hae (by omega) (by omega) fun M5 h5 k5=>?_
  rw[← hR] at h5
  exact hQ M5 h5 (k4.trans k5)
 have hg0:¬ limit=0:=of_decide_eq_false hg0
 rw[if_neg hg0] at hR
 refine aT (fun zs M'=>zs=[N .i64 (((if !wb then limit - 1 else limit) : Nat) : Int)]∧At bA T b (if !wb then Sort.breakPatterns d3 a e else d3) M'∧ag [b] M M') ?_ ?_
 ·rintro zs M5 ⟨rfl,h5,k5⟩
  dsimp only[aa]
  have hs5:(if !wb then Sort.breakPatterns d3 a e else d3).size=d.size:=by
   split
   ·rw[Hm,hs3]
   ·exact hs3
  have hl5:(if !wb then limit - 1 else limit)≤1000000:=by split <;> omega
  generalize (if !wb then Sort.breakPatterns d3 a e else d3)=d5 at *
  generalize (if !wb then limit - 1 else limit)=lim at *
  rw[← hs5]
  refine hc h5 (by omega) (by omega) (by omega) fun M6 h6 k6=>?_
  rw[hs5]
  have hcr:=Sort.choosePivot_holds lt d5 a e (by omega)
  unfold gA at hR
  generalize Sort.choosePivot lt d5 a e=cpv at *
  have k6':=k5.trans (k6.mono (cs:=[b]) (by simp))
  rw[fo,fu]
  refine aT (fun zs M'=>zs=[N .i64 (((if cpv.2=.decreasing then(e - 1) - (cpv.1 - a) else cpv.1) : Nat) : Int),N .i64 (iL (if cpv.2=.decreasing then .increasing else cpv.2))]∧At bA T b (if cpv.2=.decreasing then Sort.reverseRange d5 a e else d5) M'∧ag [b] M M') ?_ ?_
  ·rintro zs M7 ⟨rfl,h7,k7⟩
   dsimp only[aa]
   have hs7:(if cpv.2=.decreasing then Sort.reverseRange d5 a e else d5).size=d.size:=by
    split
    ·rw[P9,hs5]
    ·exact hs5
   have hpv:a≤(if cpv.2=.decreasing then(e - 1) - (cpv.1 - a) else cpv.1)∧(if cpv.2=.decreasing then(e - 1) - (cpv.1 - a) else cpv.1)<e:=by
    split <;> omega
   generalize (if cpv.2=.decreasing then Sort.reverseRange d5 a e else d5)=d7 at *
   generalize (if cpv.2=.decreasing then(e - 1) - (cpv.1 - a) else cpv.1)=pv at *
   generalize (if cpv.2=.decreasing then Sort.Hint.increasing else cpv.2)=hint at *
   unfold gB gP at hR
   refine aT (fun zs M'=>∃ d8:Array bY,At bA T b d8 M'∧ag [b] M M'∧d8.size=d.size∧R=gC lt d8 a e pv lim wb wp) ?_ ?_
   ·rintro zs M8 ⟨d8,h8,k8,hs8,hR8⟩
    unfold gC at hR8
    rw[lX]
    refine je (P:=fun M'=>At bA T b d8 M'∧ag [b] M M') (p:=!lt d8[a - 1]! d8[pv]!) ⟨h8,k8⟩ (fun hc k hk=>?_) fun M9 ⟨h9,k9⟩=>?_
    ·have hc:a > 0:=of_decide_eq_true hc
     rw[aZ (by omega) (by omega),h8.rd (z:=3) rfl hs8.symm (by omega),h8.rd (z:=3) rfl hs8.symm (by omega)]
     refine hl.use fun M10 k10=>?_
     rw[bu]
     exact hk M10 ⟨h8.keep k10,k8.trans (k10.mono (cs:=[b]) (by simp))⟩
    refine aD (fun h=>?_) (fun h=>?_)
    ·rw[if_pos h] at hR8
     rw[← hs8]
     have hE:=Hw lt d8 a e pv (by omega)
     refine he h9 (by omega) hpv.1 hpv.2 (by omega) fun M10 h10 k10=>?_
     generalize Sort.partitionEqual lt d8 a e pv=pe at *
     dsimp only at hR8
     rw[dif_pos ⟨hE.2.1,hE.2.2⟩] at hR8
     exact hnext _ _ _ (by omega) ⟨pe.1,e,lim,wb,wp,pe.2,rfl,rfl,hE.2.2,hed,by omega,hl5,h10,k9.trans k10,by rw[hE.1,hs8],hR8⟩
    ·rw[if_neg (by rw[h]; decide)] at hR8
     rw[← hs8]
     have hT:=Sort.partition_holds lt hlt d8 a e pv hpv.1 hpv.2 (by omega)
     have hTs:=KD lt d8 a e pv
     refine ht h9 (by omega) hpv.1 hpv.2 (by omega) fun M10 h10 k10=>?_
     have jR:=k9.trans k10
     generalize Sort.partition lt d8 a e pv=pp at *
     obtain⟨mid,ap,d9⟩:=pp
     dsimp only at hR8 hT hTs h10 ⊢
     rw[dif_pos ⟨hT.1,hT.2.1⟩] at hR8
     have hT1:=hT.1
     have hT2:=hT.2.1
     rw[fo,fu,df hT1 (by omega),df (by omega) (by omega),gK]
     refine⟨by decide, ?_⟩
     rw[show(8:Int)=((8:Nat) : Int) from rfl,jE,aS (by omega) (by omega),dC]
     refine aD (fun hc1=>?_) (fun hc1=>?_)
     ·have hc1:mid - a<e - mid:=of_decide_eq_true hc1
      rw[if_pos hc1] at hR8
      rw[eY,← hTs]
      refine hq h10 (by omega) hT1 (by omega) (by omega) hl5 fun M11 h11 k11=>?_
      rw[add1 (by omega)]
      exact hnext _ _ _ (by omega) ⟨mid + 1,e,lim,_,ap,_,rfl,rfl,by omega,hed,by omega,hl5,h11,jR.trans k11,by rw[ul lt _ _ _ _ _ _ _ (Nat.le_refl _),hTs,hs8],hR8⟩
     ·have hc1:¬ mid - a<e - mid:=of_decide_eq_false hc1
      rw[if_neg hc1] at hR8
      rw[eY,add1 (by omega),← hTs]
      refine hq h10 (by omega) (by omega) (by omega) (by omega) hl5 fun M11 h11 k11=>?_
      exact hnext _ _ _ (by omega) ⟨a,mid,lim,_,ap,_,rfl,rfl,hT1,by omega,by omega,hl5,h11,jR.trans k11,by rw[ul lt _ _ _ _ _ _ _ (Nat.le_refl _),hTs,hs8],hR8⟩
   intro J10 Ac
   have no:¬ (wb && wp && decide (hint=.increasing))=true→J10 [] M7:=fun hn=>by
    have hpi:(if (wb && wp && decide (hint=.increasing))=true then Sort.partialInsertionSort lt d7 a e else(d7,false))=(d7,false):=if_neg hn
    rw[hpi] at hR
    exact Ac _ _ ⟨d7,h7,k7,hs7,hR⟩
   cases wb with
   | false =>
     rw[bI]
     dsimp only
     rw[cz,bI]
     dsimp only
     rw[bI]
     dsimp only
     rw[cz,bz]
     exact no (by simp)
   | true =>
     rw[cB]
     dsimp only
     rw[dN]
     cases wp with
     | false =>
       rw[bI]
       dsimp only
       rw[bI]
       dsimp only
       rw[cz,bz]
       exact no (by simp)
     | true =>
       rw[cB]
       dsimp only
       rw[cB]
       dsimp only
       rw[bV,dN]
       by_cases hin:hint=.increasing
       ·rw[show(iL hint == 1)=true by rw[hin]; rfl,cO]
        have hpi:(if (true && true && decide (hint=.increasing))=true then Sort.partialInsertionSort lt d7 a e else(d7,false))=Sort.partialInsertionSort lt d7 a e:=if_pos (by simp[hin])
        rw[hpi] at hR
        rw[← hs7]
        have hs8:(Sort.partialInsertionSort lt d7 a e).1.size=d.size:=by
         rw[Sort.partialInsertionSort,wT,hs7]
        refine hp h7 (by omega) (by omega) (by omega) fun M8 h8 k8=>?_
        generalize Sort.partialInsertionSort lt d7 a e=pi at *
        refine aD (fun h=>?_) (fun h=>?_)
        ·rw[if_pos h] at hR
         rw[← hR] at h8
         exact hQ M8 h8 (k7.trans k8)
        ·rw[if_neg (by rw[h]; decide)] at hR
         exact Ac _ _ ⟨pi.1,h8,k7.trans k8,hs8,hR⟩
       ·rw[show(iL hint == 1)=false by cases hint <;> first | rfl | exact absurd rfl hin,bz]
        exact no (by simp[hin])
  intro J6 hJ6
  rw[bV]
  by_cases hdec:cpv.2=.decreasing
  ·rw[show(iL cpv.2 == 2)=true by rw[hdec]; rfl,cO,← hs5]
   refine hr h6 (by omega) hae (by omega) (by omega) fun M7 h7 k7=>?_
   rw[aZ (by omega) (by omega),df (by omega) (by omega),df (by omega) (by omega)]
   exact hJ6 _ _ ⟨by rw[if_pos hdec,if_pos hdec]; rfl,by rw[if_pos hdec]; exact h7,k6'.trans k7⟩
  ·rw[show(iL cpv.2 == 2)=false by cases h:cpv.2 <;> first | rfl | exact absurd h hdec,bz]
   exact hJ6 _ _ ⟨by rw[if_neg hdec,if_neg hdec],by rw[if_neg hdec]; exact h6,k6'⟩
 intro J hJ
 rw[bu]
 cases wb with
 | true =>
   rw[Bool.not_true,bz]
   exact hJ _ _ ⟨rfl,h4,k4⟩
 | false =>
   rw[Bool.not_false,cO,← hs3]
   refine hb h4 (by omega) hae (by omega) trivial fun M5 h5 k5=>?_
   rw[aZ (by omega) (by omega)]
   exact hJ _ _ ⟨rfl,h5,k4.trans k5⟩
def MX (c:ai) : Prop:=∀ {M:RM} {v fv:AV} {Q:ak},Q (.tup []) M→c [v,N .i64 0,N .i64 ((0:Nat) : Int),fv] M Q
theorem Nt {cv:FuncId→ai} : MX fun args M Q=>∃ a0 a1 a2 a3,args=[a0,a1,a2,a3]∧dX cv a0 a1 a2 a3 M Q:=by
 intro M v fv Q hQ
 refine⟨_,_,_,_,rfl, ?_⟩
 unfold dX
 rw[cZ,show IntKind.i64.wrap ((0:Int) + 1)=1 from rfl]
 refine aG (fun m ys M3=>m=0∧ys=[N .i64 1]∧M3=M) 0 ⟨rfl,rfl,rfl⟩ ?_
 rintro next m ys M3 hnext ⟨rfl,rfl,rfl⟩
 dsimp only[aa]
 rw[dD,show decide ((1:Int)<((0:Nat) : Int))=false from rfl,bz]
 exact hQ
def Nu (c:ai) : Prop:=∀ {M:RM} {v fv:AV} {Q:ak},Q (.tup []) M→c [v,N .i64 0,N .i64 ((0:Nat) : Int),N .i64 ((0:Nat) : Int),fv] M Q
theorem NK {cv:FuncId→ai} {ci c2 c3 cc c4 cp c6 c7 c8:ai} (hi:MX ci) : Nu fun args M Q=>∃ a0 a1 a2 a3 a4,args=[a0,a1,a2,a3,a4]∧fw ci c2 c3 cc c4 cp cv c6 c7 c8 a0 a1 a2 a3 a4 M Q:=by
 intro M v fv Q hQ
 refine⟨_,_,_,_,_,rfl, ?_⟩
 unfold fw
 refine aG (fun m ys M3=>m=0∧ys=[N .i64 0,N .i64 ((0:Nat) : Int),N .i64 ((0:Nat) : Int),Bo true,Bo true]∧M3=M) 0 ⟨rfl,rfl,rfl⟩ ?_
 rintro next m ys M3 hnext ⟨rfl,rfl,rfl⟩
 dsimp only[aa]
 rw[eT,show IntKind.i64.wrap (((0:Nat) : Int) - 0)=0 from rfl,kH,show decide ((0:Int)≤12)=true from rfl,cO]
 exact hi hQ
def yR (lt:bY→bY→Bool) (xs:List bY) : List bY:=(Sort.sort lt xs.toArray).toList
theorem YB (lt:bY→bY→Bool) : yR lt []=[]:=by
 unfold yR Sort.sort
 rw[sD,if_pos (by simp),Sort.insertionSort,Sort.insOuter,if_neg (by simp)]
theorem Lp {lt:bY→bY→Bool} (hlt:Sort.SWO lt) (xs:List bY) : (yR lt xs).Perm xs:=by
 have h:=(Sort.sort_sorts lt hlt xs.toArray).1
 have h2:=h.2.2
 rw[Array.extract_eq_self_of_le (by rw[h.1]; exact Nat.le_refl _),Array.extract_eq_self_of_le (Nat.le_refl _)] at h2
 exact h2
def MC (fv:AV) (lt:bY→bY→Bool) (T:Nat) (c:ai) : Prop:=∀ {M:RM} {base:Nat} {v:AV} {xs:List bY} {Q:ak},Ow bA M base T v xs→xs.length≤60000→(∀ M',Ow bA M' base T v (yR lt xs)→ag (aI v) M M'→Q (.tup []) M')→c [v,fv] M Q
theorem Np {T:Nat} {fv:AV} {lt:bY→bY→Bool} {cl cp:ai} (hlt:Sort.SWO lt) (hl:BB cl) (hp:∀ m,XH T m fv lt cp) (h0:Nu cp) : MC fv lt T fun args M Q=>∃ a0 a1,args=[a0,a1]∧iX cl cp a0 a1 M Q:=by
 intro M base v xs Q ho hx hQ
 have hs:Sl bA M v xs:=ho.il
 refine⟨_,_,rfl, ?_⟩
 unfold iX
 rw[aR.len hs,jQ,fJ (by omega) (by omega)]
 refine hl (by omega) ?_
 rcases Nat.eq_zero_or_pos xs.length with hn | hn
 ·rw[hn,show Sort.bitsLen 0=0 from rfl]
  refine h0 ?_
  have:=List.length_eq_zero_iff.1 hn
  subst this
  exact hQ M (by rw[YB]; exact ho) (ag.refl _ _)
 ·obtain⟨b,rfl,h1,h2,h3,h4⟩:=Own.uK ho hn
  have hb:=qG hn (by omega)
  have hsz:xs.toArray.size=xs.length:=by simp
  have hat:At bA T b xs.toArray M:=⟨by rw[h3],h2⟩
  have hsl:(yR lt xs).length=xs.length:=(Lp hlt xs).length_eq
  have:=hp (xs.length + 1) (M:=M) (b:=b) (a:=0) (e:=xs.toArray.size) (limit:=Sort.bitsLen xs.length) (d:=xs.toArray) (Q:=fun Py M_0=>Q (.tup []) M_0) hat (by omega) (by omega) (Nat.le_refl _) (by omega) (by omega) fun M' h' k'=>?_
  ·have e5:bA.size=3:=rfl
   rw[e5]
   simpa using this
  ·have e:(Sort.pdq lt xs.toArray 0 xs.toArray.size (Sort.bitsLen xs.length) true true)=Sort.sort lt xs.toArray:=by rw[Sort.sort]; simp
   rw[e] at h'
   refine hQ _ ?_ (by simpa [aI] using k')
   have hlast:Own M' base T 3 (.slc b 0 xs.length (.op 3)) (bA.row (yR lt xs)) xs.length:=.op _ _ _ h1 h'.lt h'.heap (by rw[Enc.eu,hsl]; rfl)
   show Own M' base T 3 (.slc b 0 xs.length (.op 3)) (bA.row (yR lt xs)) (yR lt xs).length
   rw[hsl]; exact hlast
end Go.Ab.Crw
namespace Go.Ab.Crw.Viw
open Go Go.Ab Go.Ab.ay Go.Ab.Vw
def yH (es:List aH) (c:List UInt8) : bY:=(c,(lastT c (bN es c),(bN es c).length))
def AZ (es:List aH) : List bY:=yR uZ ((jG es).map (yH es))
def Xx (TS T TL:Nat) (c:ai) : Prop:=∀ {M:RM} {t:Nat} {C:Nat→Prop} {ps:List Pt} {es:List aH} {Q:ak},mZ TS T C M t ps es→es.length≤50000→(∀ v M',Ow bA M' M.next TL v (AZ es)→ag [] M M'→Q v M')→c [.ptr t 0] M Q
theorem WB (c:List UInt8) (fs:List OE) (f:OE) : lastT c (fs++[f])=if f.1=Sb then f.2.1 else lastT c fs:=by
 rw[lastT,List.foldl_append]; rfl
theorem YY {TS T TF T9 TL n:Nat} {cc cf cs:ai} (hc:FK TS T T9 cc) (hf:H5 TS T TF cf) (hs:MC (.fn (.func n) [] []) uZ TL cs) : Xx TS T TL fun args M Q=>∃ a0,args=[a0]∧BD cc TL cf TF cs n a0 M Q:=by
 intro M t C ps es Q hst hlen hQ
 refine⟨_,rfl, ?_⟩
 unfold BD
 simp only[iN,dP,dz,dK,bH]
 refine hc hst hlen fun v2 M2 o2 k2=>?_
 have n2:=k2.next
 rw[JL] at o2
 have hcl:=U7 es
 rw[aR.len o2.il]
 refine aG (fun z ys M3=>∃ (i:Nat) (dv:AV),z=(jG es).length - i∧ys=[dv,N .i64 (i:Int)]∧i≤(jG es).length∧ag [] M2 M3∧Ow bA M3 M2.next TL dv (((jG es).take i).map (yH es))) _
  ⟨0,bB,rfl,rfl,Nat.zero_le _,ag.refl _ _,.nil⟩ ?_
 rintro next z ys M3 hnext ⟨i,dv,rfl,rfl,hil,k3,o3⟩
 dsimp only[aa]
 rw[dC]
 refine aD (fun hlt=>?_) (fun hge=>?_)
 ·have hlt:i<(jG es).length:=of_decide_eq_true hlt
  have n3:=k3.next
  have hml:(((jG es).take i).map (yH es)).length≤i:=by rw[List.length_map,List.length_take]; omega
  have hts:((jG es).take (i + 1)).map (yH es)=((jG es).take i).map (yH es)++[yH es (jG es)[i]]:=by
   rw[List.take_succ_eq_append_getElem hlt,List.map_append,List.map_singleton]
  rw[Gu (aR.keep o2.il k3 (by simp)) hlt]
  generalize (jG es)[i]=c at *
  rw[iD]
  refine⟨iB.cells (c,(c,0)),rfl, ?_⟩
  refine U4 fun M4 n4 k4 h4=>?_
  have k04:=(k2.trans k3).trans k4
  refine hf (hst.keep k04 (by simp) (by simp)) hlen fun v5 M5 o5 k5=>?_
  have n5:=k5.next
  rw[aR.len o5.il]
  have agU:=Iw es c
  have h5:=k5.aK h4 (by omega) (by simp)
  refine aG (fun z ys M6=>∃ (j:Nat),z=(bN es c).length - j∧ys=[N .i64 (j:Int)]∧j≤(bN es c).length∧ag [] M3 M6∧M5.next≤M6.next∧Sl iB M6 v5 (bN es c)∧M6.heap M3.next=some (.row (iB.cells (c,(lastT c ((bN es c).take j),j))) false TL 0)) _
   ⟨0,rfl,rfl,Nat.zero_le _,k4.trans k5,Nat.le_refl _,o5.il,h5⟩ ?_
  rintro fq z ys M6 dx ⟨j,rfl,rfl,hjl,k6,n6,s6,h6⟩
  dsimp only[aa]
  rw[dC]
  refine aD (fun hlt2=>?_) (fun rD=>?_)
  ·have hlt2:j<(bN es c).length:=of_decide_eq_true hlt2
   have hls:lastT c ((bN es c).take (j + 1))=if (bN es c)[j].1=Sb then(bN es c)[j].2.1 else lastT c ((bN es c).take j):=by
    rw[List.take_succ_eq_append_getElem hlt2,WB]
   refine aT (fun zs M'=>zs=[]∧ag [] M3 M'∧M5.next≤M'.next∧Sl iB M' v5 (bN es c)∧M'.heap M3.next=some (.row (iB.cells (c,(lastT c ((bN es c).take (j + 1)),j + 1))) false TL 0)) ?_ ?_
   ·rintro zs M' ⟨rfl,a1,a2,a3,a4⟩
    rw[add1 (by omega)]
    exact dx _ _ _ (by omega) ⟨j + 1,rfl,rfl,by omega,a1,a2,a3,a4⟩
   intro J hJ
   rw[UT s6 hlt2]
   generalize (bN es c)[j]=f at *
   generalize lastT c ((bN es c).take j)=tt at *
   refine U4 fun M7 n7 k7 h7=>?_
   have h67:=k7.aK h6 (by omega) (by simp)
   have k37:=k6.trans k7
   have s7:=aR.keep s6 k7 (by simp)
   have hob:M3.next ∉ aI v5:=fun hm=>by have:=(o5.blk _ hm).1; omega
   rw[aP,aA (i:=0 + 2) (x:=N .i64 (j:Int)) h67 rfl,add1 (by omega),aP,
    wW (iB.cells (c,(tt,j + 1))) h67 (by simp[iB]) rfl rfl rfl]
   have kp:ag [M3.next] M7 (M7.put M3.next (.row (iB.cells (c,(tt,j + 1))) false TL 0)):=(ag.refl _ _).put _ (.inr (by simp))
   have h8:(M7.put M3.next (.row (iB.cells (c,(tt,j + 1))) false TL 0)).heap M3.next=some (.row (iB.cells (c,(tt,j + 1))) false TL 0):=aN _
   have h78:=mV (z:=.row (iB.cells (c,(tt,j + 1))) false TL 0) (c:=M3.next) h7 (by omega)
   have n8:(M7.put M3.next (.row (iB.cells (c,(tt,j + 1))) false TL 0)).next=M7.next:=rfl
   have k38:=k37.put (.row (iB.cells (c,(tt,j + 1))) false TL 0) (b:=M3.next) (.inl (Nat.le_refl _))
   have s8:=aR.keep s7 kp (fun b hb hm=>hob (by simp at hm; subst hm; exact hb))
   generalize M7.put M3.next (.row (iB.cells (c,(tt,j + 1))) false TL 0)=M8 at *
   rw[bJ,aA (x:=St f.1) h78 rfl,Ah]
   refine aD (fun hc=>?_) (fun hc=>?_)
   ·have hc:f.1=Sb:=by simpa [Sb] using hc
    rw[aP,aA (i:=0 + 1) (x:=St f.2.1) h78 rfl,aP,wW (iB.cells (c,(f.2.1,j + 1))) h8 (by simp[iB]) rfl rfl rfl]
    refine hJ _ _ ⟨rfl,k38.put _ (.inl (Nat.le_refl _)),by rw[gJ]; omega,aR.keep s8 ((ag.refl [M3.next] _).put _ (.inr (by simp))) (fun b hb hm=>hob (by simp at hm; subst hm; exact hb)), ?_⟩
    rw[hls,if_pos hc]; exact aN _
   ·have hc:¬ f.1=Sb:=by simpa [Sb] using hc
    refine hJ _ _ ⟨rfl,k38,by omega,s8, ?_⟩
    rw[hls,if_neg hc]; exact h8
  ·have he:j=(bN es c).length:=by
    have:¬ j<(bN es c).length:=of_decide_eq_false rD
    omega
   subst he
   rw[List.take_length] at h6
   rw[bS (n:=3) h6 rfl,mE (x:=.agg (iB.cells (c,(lastT c (bN es c),(bN es c).length)))) (size:=3) rfl rfl rfl,aX]
   refine qW (E:=bA) (a:=yH es c) (o3.keep k6 (by simp)) (by have:=k6.next; omega) (by decide) (by omega) (by omega) fun v9 M9 o9 k9 n9 _=>?_
   rw[add1 (by omega)]
   refine hnext _ _ _ (by omega) ⟨i + 1,v9,rfl,rfl,by omega,(k3.trans k6).bW k9 (fun d hd=>.inl (o3.blk d hd).1), ?_⟩
   rw[hts]; exact o9
 ·have he:i=(jG es).length:=by
   have:¬ i<(jG es).length:=of_decide_eq_false hge
   omega
  subst he
  rw[List.take_length] at o3
  have hml:((jG es).map (yH es)).length≤60000:=by rw[List.length_map]; omega
  refine hs o3 hml fun M9 o9 k9=>?_
  exact hQ dv M9 (Own.mono o9 n2) ((k2.trans k3).bW k9 (fun d hd=>.inl (by have:=(o3.blk d hd).1; omega)))
end Go.Ab.Crw.Viw
namespace Go.Ab.Crw
open Go Go.Ab Go.Ab.ay
theorem aa4 {n m i j:Nat} {back:Bool} (hi:i<n) (hj:j<n) (h:sV n m back i=sV n m back j) : i=j:=by
 have key:(i + m) % n=(j + m) % n:=by
  unfold sV at h
  split at h
  ·have:=Nat.mod_lt (i + m) (show 0<n by omega)
   have:=Nat.mod_lt (j + m) (show 0<n by omega)
   omega
  ·exact h
 have e1:=Nat.div_add_mod (i + m) n
 have e2:=Nat.div_add_mod (j + m) n
 rw[key] at e1
 rcases Nat.lt_trichotomy ((i + m) / n) ((j + m) / n) with hq | hq | hq
 ·have:n * ((i + m) / n + 1)≤n * ((j + m) / n):=Nat.mul_le_mul_left _ hq
  rw[Nat.mul_succ] at this; omega
 ·rw[hq] at e1; omega
 ·have:n * ((j + m) / n + 1)≤n * ((i + m) / n):=Nat.mul_le_mul_left _ hq
  rw[Nat.mul_succ] at this; omega
theorem ZP {n m k:Nat} {back:Bool} (hk:k<n) : ∃ i,i<n∧sV n m back i=k:=by
 have key:∀ k,k<n→∃ i,i<n∧(i + m) % n=k:=fun k hk=>by
  refine⟨(k + (n - m % n)) % n,Nat.mod_lt _ (by omega), ?_⟩
  have hm:=Nat.mod_lt m (show 0<n by omega)
  rw[Nat.add_mod,Nat.mod_mod,← Nat.add_mod]
  have e:=Nat.div_add_mod m n
  have:k + (n - m % n) + m=k + n * (m / n + 1):=by rw[Nat.mul_succ]; omega
  rw[this,Nat.add_mul_mod_self_left,Nat.mod_eq_of_lt hk]
 unfold sV
 cases back with
 | false=>simpa using key k hk
 | true =>
   obtain⟨i,hi,h⟩:=key (n - 1 - k) (by omega)
   exact⟨i,hi,by simp only[if_true]; omega⟩
theorem Rq {l:List Ev} {m:Nat} {back:Bool} {e:Ev} : e∈mX l m back↔e∈l:=by
 constructor
 ·intro h
  obtain⟨i,hi,rfl⟩:=List.getElem_of_mem h
  rw[qc] at hi
  rw[CO hi]
  exact List.getElem_mem _
 ·intro h
  obtain⟨k,hk,rfl⟩:=List.getElem_of_mem h
  obtain⟨i,hi,e⟩:=ZP (m:=m) (back:=back) hk
  have h2:=CO (m:=m) (back:=back) hi
  have:l[k]=(mX l m back)[i]'(by rw[qc]; exact hi):=by
   rw[h2]; congr 1; exact e.symm
  rw[this]
  exact List.getElem_mem _
theorem ZB {l:List Ev} {m:Nat} {back:Bool} (h:l.Pairwise fun x y=>x.1.1≠y.1.1) : (mX l m back).Pairwise fun x y=>x.1.1≠y.1.1:=by
 rw[List.pairwise_iff_getElem]
 intro i j hi hj hij
 rw[qc] at hi hj
 rw[CO hi,CO hj]
 have hne:sV l.length m back i≠sV l.length m back j:=fun e=>by have:=aa4 hi hj e; omega
 rcases Nat.lt_or_gt_of_ne hne with h1 | h1
 ·exact List.pairwise_iff_getElem.1 h _ _ (tJ hi) (tJ hj) h1
 ·exact fun e=>List.pairwise_iff_getElem.1 h _ _ (tJ hj) (tJ hi) h1 e.symm
theorem Ch.abY {l:List Ev} {m:Nat} {back:Bool} (hg:∀ x∈l,di x.1 x.2=true) (hd:l.Pairwise fun x y=>x.1.1≠y.1.1) (hl:l.length≤60) : Ch l (fP (mX l m back)) :=
 (Ch.run (fun x hx=>hg x (Rq.1 hx)) (ZB hd) (by rw[qc]; exact hl)).mem fun e=>Rq
theorem PT (l:List Ev) : ∀ x∈uQ l,di x.1 x.2=true:=Pm l [] (by simp)
end Go.Ab.Crw
namespace Go.Ab.Crw.Viw
open Go Go.Ab Go.Ab.ay Go.Ab.Vw
def WN (TS T:Nat) (c:ai) : Prop:=∀ {M:RM} {v:AV} {l:List Ev} {Q:ak},fG oC M v l (fun d=>d<M.next)→l.length≤60 →
 (∀ t M',M.next≤t→mZ TS T (fun d=>M.next≤d∧d<M'.next∧d≠t) M' t (fP l).1 (fP l).2→ag [] M M'→Q (.ptr t 0) M')→c [v] M Q
theorem Va {TS T:Nat} {cn cA:ai} (hn:LA TS T cn) (hA:Ky TS T cA) : WN TS T fun args M Q=>∃ a0,args=[a0]∧DX cn cA a0 M Q:=by
 intro M v l Q hv hl hQ
 refine⟨_,rfl, ?_⟩
 unfold DX
 simp only[iN,dP,dz,dK,bH]
 refine hn fun t M1 ht st1 k1=>?_
 refine aG (fun z ys M3=>∃ i:Nat,z=l.length - i∧ys=[N .i64 (i:Int)]∧i≤l.length∧ag [] M M3∧mZ TS T (fun d=>M.next≤d∧d<M3.next∧d≠t) M3 t (fP (l.take i)).1 (fP (l.take i)).2) _
  ⟨0,rfl,rfl,Nat.zero_le _,k1,(st1.mono (B':=fun d=>M.next≤d∧d≠t) (fun d hd=>⟨hd.1,by omega⟩) (fun h=>h.2 rfl)).below.mono (fun d hd=>⟨hd.1.1,hd.2,hd.1.2⟩) (fun h=>h.2.2 rfl)⟩ ?_
 rintro next z ys M3 hnext ⟨i,rfl,rfl,hi,k3,st3⟩
 dsimp only[aa]
 have hv3:fG oC M3 v l (fun d=>d<M.next):=hv.keep k3 (by simp)
 rw[NI,cB]
 try dsimp only
 rw[hv3.len,dC]
 try dsimp only
 rw[dN]
 refine aD (fun hlt=>?_) (fun hge=>?_)
 ·have hlt:i<l.length:=of_decide_eq_true hlt
  have n3:=k3.next
  have hI:Gn i (fP (l.take i)):=by
   have:=Rm (l.take i)
   rwa [List.length_take,Nat.min_eq_left hi] at this
  have htk:fP (l.take (i + 1))=lQ (fP (l.take i)) l[i]:=by rw[List.take_succ_eq_append_getElem hlt,Gs]
  have fin:∀ M',ag [] M M'→mZ TS T (fun d=>M.next≤d∧d<M'.next∧d≠t) M' t (fP (l.take (i + 1))).1 (fP (l.take (i + 1))).2→next [N .i64 ((i + 1:Nat) : Int)] M':=fun M' k' st' =>
   hnext _ _ _ (by omega) ⟨i + 1,rfl,rfl,by omega,k',st'⟩
  rw[htk] at fin
  generalize fP (l.take i)=s at *
  obtain⟨b,o,kv,hidx,hl7,_,hkv,hkb⟩:=LB hv3 hlt
  rw[hidx,hl7]
  generalize l[i]=x at *
  have hne:t ∉ aI kv:=fun h=>by have:=hkb t h; omega
  refine hA st3 hI.si (by omega) (by have:=hI.few; omega) hkv hne (fun hb M4 k4=>?_) (fun hg M4 st4 k4=>?_)
  ·rw[add1 (by omega)]
   refine fin M4 (k3.trans k4) ?_
   unfold lQ
   rw[if_neg (by rw[hb]; decide)]
   have n4:=k4.next
   exact(st3.keep k4 (by simp) (by simp)).mono (fun d hd=>⟨hd.1,by omega,hd.2.2⟩) (fun h=>h.2.2 rfl)
  ·rw[add1 (by omega)]
   refine fin M4 (k3.bW k4 (fun d hd=>by simp at hd; omega)) ?_
   unfold lQ
   rw[if_pos hg]
   have lt3:=st3.lt
   have n4:=k4.next
   refine(st4.below.mono (B':=fun d=>M.next≤d∧d<M4.next∧d≠t) (fun d hd=>?_) (fun h=>h.2.2 rfl))
   obtain⟨h | h,h'⟩:=hd
   ·exact⟨h.1,h',h.2.2⟩
   ·exact⟨by omega,h',by omega⟩
 ·have he:i=l.length:=by
   have:¬ i<l.length:=of_decide_eq_false hge
   omega
  subst he
  rw[List.take_length] at st3
  exact hQ t M3 ht st3 k3
def NeE (es:List aH) : Prop:=∀ x∈es,x.2.2.1≠[]
structure VI (es:List aH) : Prop where
 st:IK es
 bd:BdE es
 ne:NeE es
 len:es.length≤60
theorem aeC {w:List Ev} (hg:∀ x∈w,di x.1 x.2=true) (h1:w.Pairwise fun x y=>x.1.1≠y.1.1) (hl:w.length≤60) : VI (fP w).2∧nO w w.length=(fP w).2:=by
 have hch:=Ch.run hg h1 hl
 have hI:Tp w (fP w).1 (fP w).2:=⟨hch,h1,hg,hl⟩
 refine⟨⟨Tk hch.up hch.one,fun x hx=>?_,fun x hx=>?_,hI.few⟩,hI.uo⟩
 ·have:=hI.ok x hx
  exact⟨this.2.2.2.1,this.2.2.2.2.1,this.2.2.2.2.2⟩
 ·obtain⟨e,he,ho,rfl,_⟩:=(hch.uo x).1 hx
  have:=hg e he
  simp only[di,Bool.and_eq_true] at this
  have h2:=this.2
  simp only[BR,Bool.or_eq_true,Bool.and_eq_true,decide_eq_true_eq] at h2
  rcases h2 with h2 | h2
  ·exact h2.2
  ·rw[ho] at h2; exact absurd h2.1 (by decide)
theorem WK (es:List aH) : (AZ es).Perm ((jG es).map (yH es)):=Lp Og _
theorem YD (es:List aH) : (AZ es).length=(jG es).length:=by rw[(WK es).length_eq,List.length_map]
structure aeS (es es' : List aH) (c f a:List UInt8) : Prop where
 st:IK es'
 len:es'.length≤60
 seen:(f,(a,1))∈bN es' c
 aeX:∀ d,d≠c→bN es' d=bN es d
theorem ab6 {es:List aH} (h:es.Pairwise fun x y=>x.1≠y.1) : ∀ z∈es,∀ y∈es,z.1=y.1→z=y:=by
 induction h with
 | nil=>intro z hz; cases hz
 | cons h1 _ ih =>
   intro z hz y hy e
   rcases List.mem_cons.1 hz with rfl | hz' <;> rcases List.mem_cons.1 hy with rfl | hy'
   ·rfl
   ·exact absurd e (h1 y hy')
   ·exact absurd e.symm (h1 z hz')
   ·exact ih z hz' y hy' e
theorem U2 {f:List UInt8} (hf:f≠[]) (x:aH) : (!AQ f x)=(x.2.2.1 == f):=by
 have h1:(f != [])=true:=by simpa using hf
 rw[AQ,h1,Bool.true_and]
 simp[bne]
theorem X9 {w:List Ev} {ps:List Pt} {es:List aH} {d:ay} {c f a:List UInt8} (hch:Ch w (ps,es)) (hw:∀ e∈w,di e.1 e.2=true) (hl:w.length≤50) (hd:d ∉ jc w) (hf:f≠[])
  (hg:di (setOf d c f a) (fI es c f)=true) : aeS es (gT ps es (setOf d c f a) (fI es c f)) c f a:=by
 have hdl:(jc w).length≤3250:=by have:=Kc hw; omega
 have hsi:SI (jc w).length ps:=hch.siD (fun d hd=>hd)
 have hnew:∀ e∈w,e.1.1≠d:=fun e he h=>hd (sU.2 ⟨e,he,.inl h.symm⟩)
 have BF:Ch (w++[(setOf d c f a,fI es c f)]) (lQ (ps,es) (setOf d c f a,fI es c f)):=hch.step hsi (by omega) hg hnew
 have hstep:lQ (ps,es) (setOf d c f a,fI es c f)=(xJ ps (setOf d c f a) (fI es c f),gT ps es (setOf d c f a) (fI es c f)):=by
  unfold lQ; rw[if_pos hg]
 rw[hstep] at BF
 have hse:IK es:=Tk hch.up hch.one
 have ad5:=Tk BF.up BF.one
 have hno:eD ps d=false:=by
  cases h:eD ps d with
  | false=>rfl
  | true=>exact absurd ((hch.sets d).1 h) hd
 have af7:∀ y∈es,y.1≠d:=fun y hy h=>by
  obtain⟨e,he,_,rfl,_⟩:=(hch.uo y).1 hy
  exact hnew e he h
 have hkm:∀ k,k∈fI es c f↔∃ y∈es,y.2.1=c∧y.2.2.1=f∧y.1=k:=fun k=>by
  unfold fI
  rw[(EF Hd _).mem_iff,List.mem_map]
  constructor
  ·rintro⟨y,hy,rfl⟩
   unfold CP at hy
   rw[List.mem_filter,List.mem_filter,U2 hf] at hy
   exact⟨y,hy.1.1,by simpa using hy.1.2,by simpa using hy.2,rfl⟩
  ·rintro⟨y,hy,h1,h2,rfl⟩
   refine⟨y, ?_,rfl⟩
   unfold CP
   rw[List.mem_filter,List.mem_filter,U2 hf]
   exact⟨⟨hy,by simpa using h1⟩,by simpa using h2⟩
 have hdk:d ∉ fI es c f:=fun h=>by
  obtain⟨y,hy,_,_,e⟩:=(hkm d).1 h
  exact af7 y hy e
 have hmem:∀ y,y∈gT ps es (setOf d c f a) (fI es c f)↔y.1 ∉ fI es c f∧(y∈es∨y=(d,(c,(f,a)))):=fun y=>by
  rw[Kz]
  constructor
  ·rintro⟨h1,h2 | ⟨_,_,h2⟩⟩
   ·exact⟨h1,.inl h2⟩
   ·exact⟨h1,.inr h2⟩
  ·rintro⟨h1,h2 | h2⟩
   ·exact⟨h1,.inl h2⟩
   ·exact⟨h1,.inr ⟨rfl,hno,h2⟩⟩
 have pq:=BF.len (m:=w++[(setOf d c f a,fI es c f)]) fun e he=>he
 rw[List.length_append,List.length_singleton] at pq
 generalize gT ps es (setOf d c f a) (fI es c f)=es' at *
 have hx:((d,(c,(f,a))) : aH)∈es':=(hmem _).2 ⟨hdk,.inr rfl⟩
 have aeB:∀ y∈es',fH (d,(c,(f,a))) y=true→y=(d,(c,(f,a))):=fun y hy hs=>by
  obtain⟨h1,h2 | h2⟩:=(hmem y).1 hy
  ·obtain⟨e1,e2⟩:=wZ.1 hs
   exact absurd ((hkm y.1).2 ⟨y,h2,e1.symm,e2.symm,rfl⟩) h1
  ·exact h2
 refine⟨ad5,by show es'.length≤60; have:es'.length≤w.length + 1:=pq; omega, ?_,fun k hk=>?_⟩
 ·have hof:=Y5 ad5 c
  have hgi:=Yq _ hof
  have hxo:((d,(c,(f,a))) : aH)∈pg es' c:=Cz.2 ⟨hx,rfl⟩
  have hxf:=hxo
  rw[← hgi.flat] at hxf
  obtain⟨g,hg1,hg2⟩:=List.mem_flatten.1 hxf
  have hge:=hgi.all g hg1 _ hg2
  have hall:∀ y∈g,y=(d,(c,(f,a))):=fun y hy=>by
   rw[hge,List.mem_filter] at hy
   exact aeB y (Cz.1 hy.1).1 hy.2
  have hgp:IK g:=by rw[hge]; exact hof.filter _
  have hg1' : g=[(d,(c,(f,a)))]:=by
   match g,hg2,hall,hgp with
   | [y],_,hall,_=>rw[hall y (by simp)]
   | y :: z :: r,_,hall,hgp =>
     have:=(List.pairwise_cons.1 hgp).1 z (by simp)
     rw[hall y (by simp),hall z (by simp),Xk] at this; cases this
  refine List.mem_map.2 ⟨g,hg1, ?_⟩
  rw[hg1']
  simp[shown,vJ,oz,Qi,ny,WX]
 ·have:pg es' k=pg es k:=by
   refine Jn (BF.up.filter _) (hch.up.filter _) (BF.one.filter _) (hch.one.filter _) fun y=>?_
   show y∈pg es' k↔y∈pg es k
   rw[Cz,Cz,hmem]
   constructor
   ·rintro⟨⟨_,h | h⟩,hc⟩
    ·exact⟨h,hc⟩
    ·subst h; exact absurd hc.symm hk
   ·rintro⟨h,hc⟩
    refine⟨⟨fun hkk=>?_,.inl h⟩,hc⟩
    obtain⟨z,hz,h1,_,h2⟩:=(hkm y.1).1 hkk
    have:z=y:=ab6 hch.one z hz y h h2
    subst this
    exact hk (hc.symm.trans h1)
  rw[bN,this,bN]
theorem aeU {M:RM} {c p:Bool} {f:ak→Prop} {P:RM→Prop} {G:AV→RM→Prop} (h0:P M) (hf:c=false→∀ k:ak,(∀ M',P M'→k (Bo p) M')→f k) (hG:∀ M',P M'→G (Bo (c || p)) M') :
  aj (Bo c) false f (fun k=>k .undef M) (fun t M'=>aL (Bo c) (Bo true) t fun u=>G u M'):=aeI h0 hf hG
theorem UO {M:RM} {v:AV} {xs:List bY} (h:Sl bA M v xs) {i:Nat} (hi:i<xs.length) {kd:IntKind} {K:AV→Prop} : (ah v (N kd (i:Int)) 3 fun p=>av M p 3 K)=K (.agg (bA.cells xs[i])):=by
 obtain⟨b,o,_,_,hidx,hld⟩:=Sl.at (E:=bA) (i:=i) h 3 (i:Int) hi rfl rfl
 rw[hidx,dQ,hld]
 simp
theorem Y7 (a b:bY) : dE [2,2,1] (bA.cells a) (bA.cells b)=some (decide (a=b)):=by
 obtain⟨a1,a2,a3⟩:=a
 obtain⟨b1,b2,b3⟩:=b
 show dE [2,2,1] [St a1,St a2,N .i64 (a3:Int)] [St b1,St b2,N .i64 (b3:Int)]=_
 rw[yU,yU,De,yP]
 by_cases h1:a1=b1 <;> by_cases h2:a2=b2 <;> by_cases h3:a3=b3 <;> simp[h1,h2,h3]
 omega
theorem ac4 {M:RM} {v:AV} {l:List Ev} {S:Nat→Prop} (h:fG oC M v l S) {i:Nat} (hi:i<l.length) :
  ∃ b o kv,(∀ (kd:IntKind) (K:AV→Prop),ah v (N kd (i:Int)) 7 K=K (.ptr b o))∧M.loads b o 7=some (bg l[i].1 kv)∧Sl aV M kv l[i].2∧∀ d∈aI kv,S d:=by
 obtain⟨b,o,cs,_,_,hidx,hld,ds,hcs,kv,hds,hkv⟩:=h.at (i:=i) 7 (i:Int) hi rfl rfl
 subst hds
 subst hcs
 exact⟨b,o,kv,hidx,hld,hkv.sl,fun d hd=>by obtain⟨_,_,h2,_⟩:=hkv; exact h2 d hd⟩
abbrev iY:ay:=(15,549755813888)
def ac2 (B:Base) (c:ai) : Prop:=∀ {M:RM} {v:AV} {l:List Ev} {n:Int} {ct f a:List UInt8} {Q:ak},M.base=B→fG oC M v l (fun d=>d<M.next)→(∀ M',Q (Bo true) M')→c [v,N .i64 n,St ct,St f,St a] M Q
theorem PQ {B:Base} {TS T TE TD TL TF TN T9 TV:Nat} {ca co ch cof cn cA cl cm cg ce cc:ai} (ha:YM B ca) (ho:aaX TE co) (hh:GX ch) (hof:WN TS T cof) (hn:LA TS T cn) (hA:Ky TS T cA) (hl:Xx TS T TL cl) (hm:JX TS T cm) (hg:aah TS T TF cg) (he:Cj TN ce) (hc:Al T9 cc) :
  ac2 B fun args M Q=>∃ a0 a1 a2 a3 a4,args=[a0,a1,a2,a3,a4]∧sO ca co TD ch cof cn cA cl cm TV cg ce cc a0 a1 a2 a3 a4 M Q:=by
 intro M v l n cnt f a Q hB hv hQ
 refine⟨_,_,_,_,_,rfl, ?_⟩
 unfold sO
 simp only[iN,dP,dz,dK,bH]
 refine ha hB ?_
 rw[bu,Bool.not_true,bz,hv.len,iQ,show decide (((l.length:Nat) : Int) > 50)=decide (l.length > 50) by simp; omega]
 refine aD (fun _=>hQ _) (fun hcc=>?_)
 have hl50:l.length≤50:=by
  have:¬ l.length > 50:=of_decide_eq_false hcc
  omega
 obtain⟨m,hm1,hm2⟩:=aan n
 refine ho hv (by omega) fun v1 M1 d1 k1=>?_
 have hwl:(uQ l).length≤50:=Nat.le_trans (Ub l) (by omega)
 have hwg:=PT l
 have hw1:=aak l
 generalize uQ l=w at *
 rw[iD]
 refine⟨aO iY,rfl, ?_⟩
 rw[aX,dh (n:=2) (x:=.agg (aO iY)) (l:=[(N .i64 0),(N .u64 0)]) (RM.aQ _) rfl rfl rfl]
 have k12:ag [] M1 ((M1.push (.row [(N .i64 0),(N .u64 0)] false TD 0)).put M1.next (.row (AV.agg (aO iY)).cells false TD 0)):=((ag.refl _ _).push _).new _ (Nat.le_refl _)
 have h2:((M1.push (.row [(N .i64 0),(N .u64 0)] false TD 0)).put M1.next (.row (AV.agg (aO iY)).cells false TD 0)).heap M1.next=some (.row (aO iY) false TD 0):=aN _
 have n2:((M1.push (.row [(N .i64 0),(N .u64 0)] false TD 0)).put M1.next (.row (AV.agg (aO iY)).cells false TD 0)).next=M1.next + 1:=by rw[gJ,qy]
 generalize (M1.push (.row [(N .i64 0),(N .u64 0)] false TD 0)).put M1.next (.row (AV.agg (aO iY)).cells false TD 0)=M2 at *
 have d2:fG oC M2 v1 w (fun d=>d<M1.next):=d1.keep k12 (by simp)
 -- is the dot new?
 refine aG (fun z ys M3=>∃ i:Nat,z=w.length - i∧ys=[N .i64 (i:Int)]∧i≤w.length∧ag [] M2 M3∧∀ e∈w.take i,e.1.1≠iY∧iY ∉ e.2) _
  ⟨0,rfl,rfl,Nat.zero_le _,ag.refl _ _,by simp⟩ ?_
 rintro next z ys M3 hnext ⟨i,rfl,rfl,hi,k3,hno⟩
 dsimp only[aa]
 have d3:fG oC M3 v1 w (fun d=>d<M1.next):=d2.keep k3 (by simp)
 have h3:=k3.aK h2 (by omega) (by simp)
 have n3:=k3.next
 rw[d3.len,dC]
 refine aD (fun hlt=>?_) (fun hge=>?_)
 ·have hlt:i<w.length:=of_decide_eq_true hlt
  obtain⟨b,o,kv,hidx,hld,hkv,hkb⟩:=ac4 d3 hlt
  have hks:w[i].2.length≤1000000:=by have:=(lD (hwg w[i] (List.getElem_mem hlt))).2.1; omega
  have hts:w.take (i + 1)=w.take i++[w[i]]:=List.take_succ_eq_append_getElem hlt
  generalize w[i]=x at *
  rw[hidx,aP,dQ,VE hld 0 2 (by omega)]
  simp only[Option.some.injEq,exists_eq_left']
  rw[bS (n:=2) h3 rfl,kY rfl rfl (show dE [1,1] (List.take 2 (List.drop 0 (bg x.1 kv))) (aO iY)=some (decide (x.1.1=iY)) from Az _ _),Bool.bne_false]
  refine aeU (P:=fun M'=>ag [] M2 M') (p:=decide (iY∈x.2)) k3 (fun _ k hk=>?_) fun M9 k9=>?_
  ·rw[hidx,aP,gL,rZ hld (j:=6) (x:=kv) rfl]
   simp only[Option.some.injEq,exists_eq_left']
   rw[bS (n:=2) h3 rfl]
   exact hh hkv hks fun M8 k8=>hk M8 (k3.trans k8)
  ·refine aD (fun _=>hQ _) (fun hcd=>?_)
   simp only[Bool.or_eq_false_iff,decide_eq_false_iff_not] at hcd
   rw[add1 (by omega)]
   refine hnext _ _ _ (by omega) ⟨i + 1,rfl,rfl,by omega,k9,fun e hee=>?_⟩
   rw[hts] at hee
   rcases List.mem_append.1 hee with hee | hee
   ·exact hno e hee
   ·simp at hee; subst hee; exact hcd
 have hie:i=w.length:=by
  have:¬ i<w.length:=of_decide_eq_false hge
  omega
 subst hie
 rw[List.take_length] at hno
 clear hnext hge hi
 have hfr:iY ∉ jc w:=fun h=>by
  obtain⟨e,hee,h1 | h1⟩:=sU.1 h
  ·exact(hno e hee).1 h1.symm
  ·exact(hno e hee).2 h1
 -- both states
 refine hof (d3.mono fun d hd=>by omega) (by omega) fun t M4 ht4 st4 k4=>?_
 refine hn fun u M5 hu5 su5 k5=>?_
 have k35:=k4.trans k5
 have n4:=k4.next
 have n5:=k5.next
 obtain⟨hvi,hre⟩:=aeC hwg hw1 (by omega)
 have hch:=Ch.run hwg hw1 (by omega)
 have BF:=Ch.abY (m:=m) (back:=false) hwg hw1 (by omega)
 have heq:(fP (mX w m false)).2=(fP w).2:=(BF.eq hch).1
 have hlt4:=st4.lt
 refine aG (fun z ys M6=>∃ i:Nat,z=w.length - i∧ys=[N .i64 (i:Int)]∧i≤w.length∧ag [] M4 M6∧mZ TS T (fun d=>M4.next≤d∧d<M6.next∧d≠u) M6 u (fP ((mX w m false).take i)).1 (fP ((mX w m false).take i)).2) _
  ⟨0,rfl,rfl,Nat.zero_le _,k5,(su5.mono (B':=fun d=>M4.next≤d∧d≠u) (fun d hd=>⟨hd.1,by omega⟩) (fun h=>h.2 rfl)).below.mono (fun d hd=>⟨hd.1.1,hd.2,hd.1.2⟩) (fun h=>h.2.2 rfl)⟩ ?_
 rintro next z ys M6 hnext ⟨i,rfl,rfl,hi,k6,st6⟩
 dsimp only[aa]
 have d6:fG oC M6 v1 w (fun d=>d<M1.next):=(d3.keep k4 (by simp)).keep k6 (by simp)
 have n6:=k6.next
 rw[d6.len,dC]
 refine aD (fun hlt=>?_) (fun hge=>?_)
 ·have hlt:i<w.length:=of_decide_eq_true hlt
  rw[AA,hm2,addN (by omega),d6.len,aaY]
  refine⟨by omega, ?_⟩
  rw[show(((i + m:Nat) : Int)).tmod (w.length:Int)=(((i + m) % w.length:Nat) : Int) by rw[Int.tmod_eq_emod_of_nonneg (by omega)]; rfl]
  have hI:Gn i (fP ((mX w m false).take i)):=by
   have:=Rm ((mX w m false).take i)
   rwa [List.length_take,qc,Nat.min_eq_left hi] at this
  have htk:=Zo (m:=m) (back:=false) hlt
  have hil:=tJ (n:=w.length) (m:=m) (i:=i) (back:=false) hlt
  have fin:∀ M',ag [] M4 M'→mZ TS T (fun d=>M4.next≤d∧d<M'.next∧d≠u) M' u (fP ((mX w m false).take (i + 1))).1 (fP ((mX w m false).take (i + 1))).2→next [N .i64 ((i + 1:Nat) : Int)] M':=fun M' k' st' =>
   hnext _ _ _ (by omega) ⟨i + 1,rfl,rfl,by omega,k',st'⟩
  rw[htk] at fin
  clear htk
  generalize fP ((mX w m false).take i)=s at *
  have hoi:sV w.length m false i=(i + m) % w.length:=rfl
  rw[show(((i + m) % w.length:Nat) : Int)=((sV w.length m false i:Nat) : Int) from rfl]
  obtain⟨b,o,kv,hidx,hl7,_,hkv,hkb⟩:=LB d6 hil
  rw[hidx,hl7]
  generalize w[sV w.length m false i]'hil=x at *
  have hne:u ∉ aI kv:=fun h=>by have:=hkb u h; omega
  refine hA st6 hI.si (by omega) (by have:=hI.few; omega) hkv hne (fun hb M7 k7=>?_) (fun hgd M7 st7 k7=>?_)
  ·rw[add1 (by omega)]
   refine fin M7 (k6.trans k7) ?_
   unfold lQ
   rw[if_neg (by rw[hb]; decide)]
   have n7:=k7.next
   exact(st6.keep k7 (by simp) (by simp)).mono (fun d hd=>⟨hd.1,by omega,hd.2.2⟩) (fun h=>h.2.2 rfl)
  ·rw[add1 (by omega)]
   refine fin M7 (k6.bW k7 (fun d hd=>by simp at hd; omega)) ?_
   unfold lQ
   rw[if_pos hgd]
   have lt6:=st6.lt
   have n7:=k7.next
   refine(st7.below.mono (B':=fun d=>M4.next≤d∧d<M7.next∧d≠u) (fun d hd=>?_) (fun h=>h.2.2 rfl))
   obtain⟨h | h,h'⟩:=hd
   ·exact⟨h.1,h',h.2.2⟩
   ·exact⟨by omega,h',by omega⟩
 have hie:i=w.length:=by
  have:¬ i<w.length:=of_decide_eq_false hge
  omega
 subst hie
 rw[List.take_of_length_le (by rw[qc]; exact Nat.le_refl _),heq] at st6
 clear hnext hge hi
 have adz:Ch w ((fP (mX w m false)).1,(fP w).2):=by rw[← heq]; exact BF
 have hsi:SI (jc w).length (fP (mX w m false)).1:=adz.siD (fun d hd=>hd)
 have hdl:(jc w).length≤3250:=by have:=Kc hwg; omega
 generalize hps:(fP (mX w m false)).1=qs at *
 clear BF heq hps hch
 generalize hes0:(fP w).2=es at *
 generalize (fP w).1=ps at *
 have hes:=hvi.len
 have adU:=st4.keep k6 (by simp) (by simp)
 have hLl:=YD es
 have hcl:=U7 es
 refine hl adU (by omega) fun v7 M7 o7 k7=>?_
 refine hl (st6.keep k7 (by simp) (by simp)) (by omega) fun v8 M8 o8 k8=>?_
 have k68:=k7.trans k8
 have o78:=o7.keep k8 (by simp)
 rw[aR.len o78.il,aR.len o8.il,iT,show((((AZ es).length:Nat) : Int) != (((AZ es).length:Nat) : Int))=false by simp,bz]
 refine aG (fun z ys M9=>∃ i:Nat,z=(AZ es).length - i∧ys=[N .i64 (i:Int)]∧i≤(AZ es).length∧M9=M8) _
  ⟨0,rfl,rfl,Nat.zero_le _,rfl⟩ ?_
 rintro next z ys M9 hnext ⟨i,rfl,rfl,hi,rfl⟩
 dsimp only[aa]
 rw[aR.len o78.il,dC]
 refine aD (fun hlt=>?_) (fun _=>?_)
 ·have hlt:i<(AZ es).length:=of_decide_eq_true hlt
  rw[UO o78.il hlt,UO o8.il hlt,kY rfl rfl (Y7 _ _),decide_eq_true rfl,show(true != true)=false from rfl,bz,add1 (by omega)]
  exact hnext _ _ _ (by omega) ⟨i + 1,rfl,rfl,by omega,rfl⟩
 clear hnext hi
 -- the aeK more
 have k28:ag [] M2 M9:=((k3.trans k4).trans k6).trans k68
 rw[bS (n:=2) (k28.aK h2 (by omega) (by simp)) rfl]
 have st9:=st6.keep k68 (by simp) (by simp)
 refine hm st9 (by omega) (fun kv Ma hf hgd hkv hkb ka=>?_) (fun e Ma _ hne ka=>?_)
 rotate_left
 ·rw[fo,fu,aX,dh (n:=7) (x:=.agg (bg jq bB)) (l:=[(N .i64 0),(N .u64 0),(N .i64 0),(St []),(St []),(St []),(.sc (.slice none 0 0))]) (RM.aQ _) rfl rfl rfl,iT,show(e != (0:Int))=true by simpa using hne,cO]
  exact hQ _
 have hS:=X9 adz hwg hwl hfr hf hgd
 have hkl:(fI es cnt f).length≤64:=(lD hgd).2.1
 rw[fo,fu,aX,dh (n:=7) (x:=.agg (bg (setOf iY cnt f a) kv)) (l:=[(N .i64 0),(N .u64 0),(N .i64 0),(St []),(St []),(St []),(.sc (.slice none 0 0))]) (RM.aQ _) rfl rfl (xH hkv)]
 have kb:ag [] Ma ((Ma.push (.row [(N .i64 0),(N .u64 0),(N .i64 0),(St []),(St []),(St []),(.sc (.slice none 0 0))] false TV 0)).put Ma.next (.row (AV.agg (bg (setOf iY cnt f a) kv)).cells false TV 0)):=((ag.refl _ _).push _).new _ (Nat.le_refl _)
 have hhb:((Ma.push (.row [(N .i64 0),(N .u64 0),(N .i64 0),(St []),(St []),(St []),(.sc (.slice none 0 0))] false TV 0)).put Ma.next (.row (AV.agg (bg (setOf iY cnt f a) kv)).cells false TV 0)).heap Ma.next=some (.row (bg (setOf iY cnt f a) kv) false TV 0):=aN _
 generalize (Ma.push (.row [(N .i64 0),(N .u64 0),(N .i64 0),(St []),(St []),(St []),(.sc (.slice none 0 0))] false TV 0)).put Ma.next (.row (AV.agg (bg (setOf iY cnt f a) kv)).cells false TV 0)=Mb at *
 rw[iT,show((0:Int) != 0)=false from rfl,bz,bS (n:=7) hhb rfl]
 have k9b:=ka.trans kb
 have stb:=st9.keep k9b (by simp) (by simp)
 have hltu:=st9.lt
 have n9:=k28.next
 have n68:=k68.next
 have hue:u ∉ aI kv:=fun h=>by have:=hkb u h; omega
 refine hA stb hsi (by omega) (by omega) (aR.keep hkv kb (by simp)) hue (fun hb _ _=>by rw[hgd] at hb; cases hb) (fun _ Mc stc kc=>?_)
 generalize gT qs es (setOf iY cnt f a) (fI es cnt f)=es' at *
 have hes':=hS.len
 have sst:mZ TS T _ Mc t ps es:=(((adU.keep k68 (by simp) (by simp)).keep k9b (by simp) (by simp)).keep kc (by simp; omega) (fun d hd h=>by simp at hd; subst hd; omega))
 refine hg stc (by omega) (fun h0 _ _=>by have:=hS.seen; rw[h0] at this; cases this) (fun _ vd Md od kd=>?_)
 rw[fo,fu,iT,show((0:Int) != 0)=false from rfl,bz]
 have agU:=Iw es' cnt
 refine aG (fun z ys Me=>∃ j:Nat,z=(bN es' cnt).length - j∧ys=[Bo (((bN es' cnt).take j).any fun g=>decide (g=(f,(a,1)))),N .i64 (j:Int)]∧j≤(bN es' cnt).length∧Me=Md) _
  ⟨0,rfl,rfl,Nat.zero_le _,rfl⟩ ?_
 rintro next z ys Me hnext ⟨j,rfl,rfl,hj,rfl⟩
 dsimp only[aa]
 rw[aR.len od.il,dC]
 refine aD (fun hlt=>?_) (fun hge=>?_)
 ·have hlt:j<(bN es' cnt).length:=of_decide_eq_true hlt
  have hts:(bN es' cnt).take (j + 1)=(bN es' cnt).take j++[(bN es' cnt)[j]]:=List.take_succ_eq_append_getElem hlt
  refine Dt (p:=decide ((bN es' cnt)[j]=(f,(a,1)))) (fun _ k hk=>?_) ?_
  ·rw[UT od.il hlt,iD]
   refine⟨iB.cells (f,(a,1)),rfl, ?_⟩
   rw[kY rfl rfl (show dE [2,2,1] (iB.cells (bN es' cnt)[j]) (iB.cells (f,(a,1)))=some (decide ((bN es' cnt)[j]=(f,(a,1)))) from Y7 _ _),Bool.bne_false]
   exact hk
  rw[add1 (by omega)]
  refine hnext _ _ _ (by omega) ⟨j + 1,rfl, ?_,by omega,rfl⟩
  rw[hts,List.any_append]
  simp
 have hje:j=(bN es' cnt).length:=by
  have:¬ j<(bN es' cnt).length:=of_decide_eq_false hge
  omega
 subst hje
 have abt:((bN es' cnt).take (bN es' cnt).length).any (fun g=>decide (g=(f,(a,1))))=true:=by
  rw[List.take_length]
  exact List.any_eq_true.2 ⟨_,hS.seen,by simp⟩
 rw[abt]
 clear hnext hge hj abt
 have sdt:mZ TS T _ Me t ps es:=sst.keep kd (by simp) (by simp)
 have k4e:ag [u] M4 Me:=((((k6.trans k68).trans k9b).mono (by simp)).trans kc).trans (kd.mono (by simp))
 have d4:=d3.keep k4 (by simp)
 have n1:M1.next≤M4.next:=by omega
 have dee:fG oC Me v1 w (fun d=>d<Me.next):=by
  have:fG oC Me v1 w (fun d=>d<M1.next):=d4.keep k4e (fun b hb h=>by simp at hb; subst hb; omega)
  exact this.mono fun d hd=>by have:=k4e.next; omega
 have hks:∀ e∈w,e.2.length≤1000000:=fun e hee=>by have:=(lD (hwg e hee)).2.1; omega
 refine he dee (fun d hd=>hd) (by omega) hks fun vf Mf of_ kf=>?_
 rw[hre] at of_
 refine hc of_.il (by omega) fun vg Mg og kg=>?_
 rw[JL] at og
 have keg:=kf.trans kg
 have stg:=sdt.keep keg (by simp) (by simp)
 have sug:=(stc.keep kd (by simp) (by simp)).keep keg (by simp) (by simp)
 refine aG (fun z ys Mh=>∃ i:Nat,z=(jG es).length - i∧ys=[N .i64 (i:Int)]∧i≤(jG es).length∧ag [] Mg Mh) _
  ⟨0,rfl,rfl,Nat.zero_le _,ag.refl _ _⟩ ?_
 rintro next z ys Mh hnext ⟨i,rfl,rfl,hi,kh⟩
 dsimp only[aa]
 have scs:∀ {M' : RM},ag [] Mg M'→Sl ES M' vg (jG es):=fun k=>aR.keep og.il k (by simp)
 rw[aR.len (scs kh),dC]
 refine aD (fun hlt=>?_) (fun _=>hQ _)
 have hlt:i<(jG es).length:=of_decide_eq_true hlt
 have hne:=Yj hvi.st (List.getElem_mem hlt)
 have abA:=hS.aeX (jG es)[i]
 have fin:∀ M',ag [] Mg M'→af .add (N .i64 (i:Int)) (N .i64 1) fun t=>next [t] M':=fun M' k'=>by
  rw[add1 (by omega)]
  exact hnext _ _ _ (by omega) ⟨i + 1,rfl,rfl,by omega,k'⟩
 rw[Gu (scs kh) hlt]
 refine hg (stg.keep kh (by simp) (by simp)) (by omega) (fun h _ _=>absurd h hne) fun _ vi Mi oi ki=>?_
 have kgi:=kh.trans ki
 rw[fo,fu,Gu (scs kgi) hlt]
 refine hg (sug.keep kgi (by simp) (by simp)) (by omega) (fun h0 Mj kj=>?_) (fun h1 vj Mj oj kj=>?_)
 ·have kgj:=kgi.trans kj
  rw[fo,fu,Gu (scs kgj) hlt,jF]
  cases hcq:((jG es)[i] != cnt) with
  | true =>
    have hcq:(jG es)[i]≠cnt:=by simpa using hcq
    exact absurd ((abA hcq).symm.trans h0) hne
  | false =>
    simp only[bI,cz,bz]
    exact fin _ kgj
 ·have kgj:=kgi.trans kj
  rw[fo,fu,Gu (scs kgj) hlt,jF]
  cases hcq:((jG es)[i] != cnt) with
  | true =>
    have hcq:(jG es)[i]≠cnt:=by simpa using hcq
    simp only[cB,dN]
    rw[aR.len (aR.keep oi.il kj (by simp)),aR.len oj.il,abA hcq,iT,show(((((bN es (jG es)[i])).length:Nat) : Int) != ((((bN es (jG es)[i])).length:Nat) : Int))=false by simp,bz]
    exact fin _ kgj
  | false =>
    simp only[bI,cz,bz]
    exact fin _ kgj
end Go.Ab.Crw.Viw
namespace Go.Ab
open Go Go.RowKit Go.ChangeShapes
section
variable {H:Type} {enc:TypeId × Value→H} {P:Program} {w:World} {base:Nat} {spare:Nat→Bool} {held:Bool}
theorem Rb {t0 t1 t2 t3 t4:TypeId} {args:Array Value} {ds:List (DataW H)} {ps:List MemPlace} (h:DataW.TrodAll enc P w base spare held [t0,t1,t2,t3,t4] args.toList ds ps) :
  ∃ v0 v1 v2 v3 v4 d0 d1 d2 d3 d4 p0 p1 p2 p3 p4,args = #[v0,v1,v2,v3,v4]∧ds=[d0,d1,d2,d3,d4]∧ps=p0++p1++p2++p3++p4∧DataW.Trod enc P w base spare held t0 v0 d0 p0∧DataW.Trod enc P w base spare held t1 v1 d1 p1∧DataW.Trod enc P w base spare held t2 v2 d2 p2∧DataW.Trod enc P w base spare held t3 v3 d3 p3∧DataW.Trod enc P w base spare held t4 v4 d4 p4:=by
 obtain⟨v0,vs0,d0,ds0,p0,q0,hargs,rfl,rfl,h0,r0⟩:=trodAll_cons h
 obtain⟨v1,vs1,d1,ds1,p1,q1,rfl,rfl,rfl,h1,r1⟩:=trodAll_cons r0
 obtain⟨v2,vs2,d2,ds2,p2,q2,rfl,rfl,rfl,h2,r2⟩:=trodAll_cons r1
 obtain⟨v3,vs3,d3,ds3,p3,q3,rfl,rfl,rfl,h3,r3⟩:=trodAll_cons r2
 obtain⟨v4,vs4,d4,ds4,p4,q4,rfl,rfl,rfl,h4,r4⟩:=trodAll_cons r3
 obtain⟨rfl,rfl,rfl⟩:=trodAll_nil r4
 exact⟨v0,v1,v2,v3,v4,d0,d1,d2,d3,d4,p0,p1,p2,p3,p4,by cases args; simp_all,rfl,by simp,h0,h1,h2,h3,h4⟩
end
end Go.Ab
