/- Part 6 of the ground of the proofs of this seat (texts F3 to J7). By an AI agent. -/
import Derived.Test.YtlhlnchhaminjaaGreatByt5
set_option maxRecDepth 10000
set_option linter.unusedVariables false
set_option linter.unusedSimpArgs false
namespace Go.Ab.ay
open Go Go.Ab
theorem VG:∀ (a b:Nat),cZ [N .u64 0] (a + b)=cZ [N .u64 0] a++cZ [N .u64 0] b
 | 0,b=>by simp[cZ]
 | a + 1,b=>by rw[show a + 1 + b=(a + b) + 1 by omega,cZ,cZ,VG a b]; simp
theorem Ue {M:RM} {b T k:Nat} {ps ys:List Nat} {u:AV} {zs:List AV} {K:ak} (hb:M.heap b=some (.row (aX.row ps++cZ [N .u64 0] k) true T 0)) (hu:Sl aX M u ys) (hk:ys.length≤k) (hl:ys.length≤1000000)
  (hK:∀ M',M'.heap b=some (.row (aX.row (ps++ys)++cZ [N .u64 0] (k - ys.length)) true T 0)→ag [b] M M'→M'.next=M.next→K (.slc b 0 (ps++ys).length (.op 1)) M') :
  appW T 1 8 zs false (.slc b 0 ps.length (.op 1)) u M K:=by
 have hn:=aL.nZ hu zs
 have hrl:(aX.row ys).length=ys.length:=by rw[Enc.fq]; simp[aX]
 have hpl:(aX.row ps).length=ps.length:=by rw[Enc.fq]; simp[aX]
 refine⟨ys.length,aX.row ys,hn,by omega,by omega, ?_⟩
 by_cases h0:ys.length=0
 ·have:ys=[]:=List.length_eq_zero_iff.1 h0
  subst this
  refine⟨.slc b 0 ps.length (.op 1),M,by simp[pV], ?_⟩
  have:=hK M (by simpa using hb) (ag.refl _ _) rfl
  simpa using this
 ·have hfit:0 + (ps.length + ys.length) * 1≤(aX.row ps++cZ [N .u64 0] k).length:=by
   rw[List.length_append,hpl,(qZ k).1]; omega
  refine⟨.slc b 0 (ps.length + ys.length) (.op 1),M.put b (.row (aX.row (ps++ys)++cZ [N .u64 0] (k - ys.length)) true T 0), ?_, ?_⟩
  ·simp only[pV,if_neg h0,hb]
   rw[if_pos (by simp),if_pos hfit,RM.u6 hb,pE (by rw[hrl,List.length_append,hpl,(qZ k).1]; omega) (by omega) (aX.qB ys)]
   simp only[Option.map_some]
   congr 4
   rw[Enc.wG]
   have e1:(aX.row ps++cZ [N .u64 0] k).take (0 + ps.length * 1)=aX.row ps:=by rw[List.take_left' (by omega)]
   have e2:(aX.row ps++cZ [N .u64 0] k).drop (0 + ps.length * 1 + (aX.row ys).length)=cZ [N .u64 0] (k - ys.length):=by
    have:k=ys.length + (k - ys.length):=by omega
    rw[show cZ [N .u64 0] k=cZ [N .u64 0] ys.length++cZ [N .u64 0] (k - ys.length) by rw[← VG]; congr 1,← List.append_assoc,List.drop_left' (by rw[List.length_append,hpl,(qZ _).1,hrl]; omega)]
   rw[e1,e2]
  ·have:=hK _ (aN _) ((ag.refl _ _).put _ (.inr (by simp))) rfl
   rw[List.length_append] at this
   exact this
def QR (T:Nat) (c:au) : Prop:=∀ {M:RM} {bb TS:Nat} {v w:AV} {xs ys:List Nat} {Q:ak},M.heap bb=some (.row [v,w] false TS 0)→bb<M.next→Sl aX M v xs→Sl aX M w ys→xs.length≤1000000→ys.length≤1000000 →
 (∀ r M',Ow aX M' M.next T r (xs++ys)→ag [] M M'→Q r M')→c [.slc bb 0 2 (.ex 2)] M Q
theorem XX {TS T:Nat} {cg:au} (hg:abd T cg) : QR T fun args M Q=>∃ a0,args=[a0]∧vP TS cg T a0 M Q:=by
 intro M bb TB v w xs ys Q hb hbl hv hw hx hy hQ
 refine⟨_,rfl, ?_⟩
 unfold vP
 simp only[ul]
 have at0:∀ K:AV→Prop,aA (.slc bb 0 2 (.ex 2)) (N .i64 ((0:Nat) : Int)) 1 K=K (.ptr bb 0):=fun K=>by
  rw[qo]; exact propext ⟨fun h=>h.2.2,fun h=>⟨by decide,by decide,h⟩⟩
 have Bu:∀ K:AV→Prop,aA (.slc bb 0 2 (.ex 2)) (N .i64 ((1:Nat) : Int)) 1 K=K (.ptr bb 1):=fun K=>by
  rw[qo]; exact propext ⟨fun h=>h.2.2,fun h=>⟨by decide,by decide,h⟩⟩
 rw[oC]
 have len3:∀ (p0:Nat),p0=0∨p0=xs.length∨p0=xs.length + ys.length→True:=fun _ _=>trivial
 refine aQ (fun m zs M3=>∃ i:Nat,m=2 - i∧i≤2∧zs=[N .i64 ((if i=0 then 0 else if i=1 then xs.length else xs.length + ys.length:Nat) : Int),N .i64 (i:Int)]∧M3=M) _ ⟨0,rfl,by omega,rfl,rfl⟩ ?_
 rintro next m zs M3 hnext ⟨i,rfl,hi,rfl,rfl⟩
 dsimp only[aa]
 rw[bZ]
 obtain rfl | rfl | rfl:i=0∨i=1∨i=2:=by omega
 ·rw[show decide (((0:Nat) : Int)<((2:Nat) : Int))=true from rfl,cO,at0,aj hb rfl,aL.len hv]
  simp only[if_true]
  rw[bS,show((0:Nat) : Int) + (xs.length:Int)=(xs.length:Int) by omega,bB (by omega) (by omega),bZ,show decide ((xs.length:Int)<0)=false by simp,bJ,bS,eB (by omega)]
  exact hnext _ _ _ (by omega) ⟨1,rfl,by omega,rfl,rfl⟩
 ·rw[show decide (((1:Nat) : Int)<((2:Nat) : Int))=true from rfl,cO,Bu,aj hb rfl,aL.len hw]
  simp only[if_true,show ¬ (1:Nat)=0 by omega,if_false]
  rw[bS,show(xs.length:Int) + (ys.length:Int)=((xs.length + ys.length:Nat) : Int) by omega,bB (by omega) (by omega),bZ,show decide (((xs.length + ys.length:Nat) : Int)<0)=false by simp; omega,bJ,bS,eB (by omega)]
  exact hnext _ _ _ (by omega) ⟨2,rfl,by omega,rfl,rfl⟩
 ·rw[show decide (((2:Nat) : Int)<((2:Nat) : Int))=false from rfl,bJ]
  simp only[show ¬ (2:Nat)=0 by omega,show ¬ (2:Nat)=1 by omega,if_false]
  refine hg (by omega) (fun h0=>?_) (fun hpos b M4 hb0 hb1 hrow k4=>?_)
  ·
   have e1:xs=[]:=List.length_eq_zero_iff.1 (by omega)
   have e2:ys=[]:=List.length_eq_zero_iff.1 (by omega)
   subst e1 e2
   rw[oC]
   refine aQ (fun m zs M5=>∃ i:Nat,m=2 - i∧i≤2∧zs=[aZ,N .i64 (i:Int)]∧M5=M3) _ ⟨0,rfl,by omega,rfl,rfl⟩ ?_
   rintro lD m zs M5 fI ⟨i,rfl,hi,rfl,rfl⟩
   dsimp only[aa]
   rw[bZ]
   have app:∀ (u:AV) (K:ak),Sl aX M5 u []→K aZ M5→appW T 1 8 [N .u64 0] false aZ u M5 K:=fun u K hu hK=>by
    refine⟨0,[], ?_,by omega,by omega,aZ,M5,by simp[pV],hK⟩
    exact aL.nZ hu _
   obtain rfl | rfl | rfl:i=0∨i=1∨i=2:=by omega
   ·rw[show decide (((0:Nat) : Int)<((2:Nat) : Int))=true from rfl,cO,at0,aj hb rfl]
    refine app _ _ hv ?_
    rw[bS,eB (by omega)]
    exact fI _ _ _ (by omega) ⟨1,rfl,by omega,rfl,rfl⟩
   ·rw[show decide (((1:Nat) : Int)<((2:Nat) : Int))=true from rfl,cO,Bu,aj hb rfl]
    refine app _ _ hw ?_
    rw[bS,eB (by omega)]
    exact fI _ _ _ (by omega) ⟨2,rfl,by omega,rfl,rfl⟩
   ·rw[show decide (((2:Nat) : Int)<((2:Nat) : Int))=false from rfl,bJ]
    exact hQ aZ M5 .nil (ag.refl _ _)
  ·rw[oC]
   have hbb:bb≠b:=by omega
   refine aQ (fun m zs M5=>∃ i:Nat,m=2 - i∧i≤2∧zs=[.slc b 0 (if i=0 then([] : List Nat) else if i=1 then xs else xs++ys).length (.op 1),N .i64 (i:Int)]∧ag [b] M4 M5∧M5.next=M4.next ∧
     M5.heap b=some (.row (aX.row (if i=0 then[] else if i=1 then xs else xs++ys)++cZ [N .u64 0] (xs.length + ys.length - (if i=0 then([] : List Nat) else if i=1 then xs else xs++ys).length)) true T 0)) _
    ⟨0,rfl,by omega,rfl,ag.refl _ _,rfl,by simpa [Enc.row] using hrow⟩ ?_
   rintro lD m zs M5 fI ⟨i,rfl,hi,rfl,k5,n5,J9⟩
   dsimp only[aa]
   rw[bZ]
   have hb4:=k4.aD hb hbl (by simp)
   have hb5:=k5.aD hb4 (by omega) (by simp; exact hbb)
   have hv5:Sl aX M5 v xs:=aL.keep (aL.keep hv k4 (by simp)) k5 (fun d hd hm=>by have:=aL.lt hv d hd; simp at hm; omega)
   have hw5:Sl aX M5 w ys:=aL.keep (aL.keep hw k4 (by simp)) k5 (fun d hd hm=>by have:=aL.lt hw d hd; simp at hm; omega)
   obtain rfl | rfl | rfl:i=0∨i=1∨i=2:=by omega
   ·rw[show decide (((0:Nat) : Int)<((2:Nat) : Int))=true from rfl,cO,at0,aj hb5 rfl]
    simp only[if_true] at J9 ⊢
    refine Ue J9 hv5 (by simp) hx fun M6 Ny k6 n6=>?_
    rw[bS,eB (by omega)]
    refine fI _ _ _ (by omega) ⟨1,rfl,by omega,by simp,k5.trans k6,n6.trans n5, ?_⟩
    simp at Ny ⊢
    exact Ny
   ·rw[show decide (((1:Nat) : Int)<((2:Nat) : Int))=true from rfl,cO,Bu,aj hb5 rfl]
    simp only[if_true,show ¬ (1:Nat)=0 by omega,if_false] at J9 ⊢
    refine Ue J9 hw5 (by omega) hy fun M6 Ny k6 n6=>?_
    rw[bS,eB (by omega)]
    refine fI _ _ _ (by omega) ⟨2,rfl,by omega,by simp,k5.trans k6,n6.trans n5, ?_⟩
    simp at Ny ⊢
    exact Ny
   ·rw[show decide (((2:Nat) : Int)<((2:Nat) : Int))=false from rfl,bJ]
    simp only[show ¬ (2:Nat)=0 by omega,show ¬ (2:Nat)=1 by omega,if_false,List.length_append,Nat.sub_self,cZ,List.append_nil] at J9 ⊢
    refine hQ _ M5 ?_ (k4.bG k5 (by simp; omega))
    rw[Ow,List.length_append]
    exact .op b _ _ (by omega) (by omega) J9 (by rw[Enc.fq,List.length_append])
theorem iy.put {T i u a:Nat} {S S' : Nat→Prop} {M M' : RM} {ps:List Pt} {l:List AV} {v' : AV} {xs:List Nat} {ks:List Nat} (h:iy T S M a ps) (hl:M.heap a=some (.row l false T 0)) (hi:i<16)
  (hb:M'.heap a=some (.row ((l.set (2 * i) (N .u64 (u:Int))).set (2 * i + 1) v') false T 0)) (hk:ag ks M M') (hks:∀ d∈ks,d=a∨¬ S d) (hs:Sl aX M' v' xs) (hc:eZ v') (hv:∀ d∈aG v',S' d) (hS:∀ d,S d→S' d) (ha:¬ S' a) : iy T S' M' a (ps.set i (u,xs)):=by
 obtain⟨l0,h1,h2,h3⟩:=h.row
 rw[hl] at h1
 obtain rfl:l=l0:=by simpa using h1
 refine⟨Nat.lt_of_lt_of_le h.lt hk.next,by rw[List.length_set]; exact h.len,⟨_,hb,by simp[h2],fun j hj=>?_⟩,ha⟩
 have hj' : j<ps.length:=by rw[List.length_set] at hj; exact hj
 have afs:j<16:=by rw[← h.len]; exact hj'
 by_cases hji:j=i
 ·subst hji
  refine⟨v', ?_, ?_, ?_,hc,hv⟩
  ·rw[List.getElem?_set_ne (by omega),List.getElem?_set_self (by omega),List.getElem_set_self]
  ·rw[List.getElem?_set_self (by simp; omega)]
  ·rw[List.getElem_set_self]; exact hs
 ·obtain⟨w,b1,b2,b3,b4,b5⟩:=h3 j hj'
  refine⟨w, ?_, ?_, ?_,b4,fun d hd=>hS d (b5 d hd)⟩
  ·rw[List.getElem?_set_ne (by omega),List.getElem?_set_ne (by omega),List.getElem_set_ne (Ne.symm hji)]; exact b1
  ·rw[List.getElem?_set_ne (by omega),List.getElem?_set_ne (by omega)]; exact b2
  ·rw[List.getElem_set_ne (Ne.symm hji)]
   refine aL.keep b3 hk fun d hd hm=>?_
   rcases hks d hm with rfl | h'
   ·exact h.nb (b5 d hd)
   ·exact h' (b5 d hd)
def sW (f g:List Nat→List Nat) (p q:Pt) : Pt:=settle (max p.1 q.1) (g (f (p.2++q.2)))
def sG (f g:List Nat→List Nat) (ps qs:List Pt) : Nat→List Pt
 | 0=>ps
 | i + 1=>(sG f g ps qs i).set i (sW f g (ps.getD i (0,[])) (qs.getD i (0,[])))
theorem L6 {f g:List Nat→List Nat} {ps qs:List Pt} : ∀ {i j:Nat},i≤j→(sG f g ps qs i).getD j (0,[])=ps.getD j (0,[])
 | 0,j,_=>rfl
 | i + 1,j,h=>by rw[sG,getD_set_ne (by omega),L6 (by omega)]
def aat (P:List Nat→Prop) (P2:List Nat→Prop) (f g:List Nat→List Nat) (T:Nat) (c:au) : Prop:=∀ {M:RM} {a b:Nat} {ps qs:List Pt} {S S' : Nat→Prop} {Q:ak},iy T S M a ps→iy T S' M b qs→(a=b→ps=qs)→¬ S' a →
 (∀ i,i<16→P ((ps.getD i (0,[])).2++(qs.getD i (0,[])).2)∧P2 (f ((ps.getD i (0,[])).2++(qs.getD i (0,[])).2)))→(∀ p∈ps,p.1≤4398046511104∧p.2.length≤100000)→(∀ p∈qs,p.1≤4398046511104∧p.2.length≤100000) →
 (∀ i,i<16→(g (f ((ps.getD i (0,[])).2++(qs.getD i (0,[])).2))).length≤1000000∧∀ x∈g (f ((ps.getD i (0,[])).2++(qs.getD i (0,[])).2)),x≤4398046511104) →
 (∀ M',iy T (fun e=>S e∨M.next≤e) M' a (sG f g ps qs 16)→ag [a] M M'→Q (.tup []) M')→c [.ptr a 0,.ptr b 0] M Q
theorem xK {ps:List Pt} {R:Pt→Prop} (h:∀ p∈ps,R p) (h0:R (0,[])) (i:Nat) : R (ps.getD i (0,[])):=by
 rw[List.getD_eq_getElem?_getD]
 by_cases hj:i<ps.length
 ·rw[List.getElem?_eq_getElem hj]; exact h _ (List.getElem_mem hj)
 ·rw[List.getElem?_eq_none (by omega)]; exact h0
theorem acT {TS TP TL TU:Nat} {P P2:List Nat→Prop} {f g:List Nat→List Nat} {cc cs ck ct:au} (hc:QR TU cc) (hs:aci P f TU cs) (hk:MF P2 g TU ck) (ht:Gj ct) :
  aat P P2 f g TS fun args M Q=>∃ a0 a1,args=[a0,a1]∧GL TP TL cc cs ck ct a0 a1 M Q:=by
 intro M a b ps qs S S' Q hA hB hab hSa hP hbp hbq hres hQ
 refine⟨_,_,rfl, ?_⟩
 unfold GL
 have hal:=hA.lt
 have hbl:=hB.lt
 refine aQ (fun m ys M3=>∃ (i:Nat),m=16 - i∧ys=[N .i64 (i:Int)]∧i≤16∧ag [a] M M3∧iy TS (fun e=>S e∨M.next≤e) M3 a (sG f g ps qs i)) _
  ⟨0,rfl,rfl,Nat.zero_le _,ag.refl _ _,hA.mono (fun e h=>.inl h) (fun h=>by rcases h with h | h; exact hA.nb h; omega)⟩ ?_
 rintro next m ys M3 hnext ⟨i,rfl,rfl,hi,k3,hA3⟩
 dsimp only[aa]
 rw[bZ]
 refine aJ (fun hlt=>?_) (fun hge=>?_)
 ·have hlt:i<16:=by
   have:(i:Int)<16:=of_decide_eq_true hlt
   omega
  have n3:=k3.next
  -- the second set's part
  have hB3:∃ l w,M3.heap b=some (.row l false TS 0)∧l.length=32∧l[2 * i]?=some (N .u64 ((qs.getD i (0,[])).1:Int))∧l[2 * i + 1]?=some w∧Sl aX M3 w (qs.getD i (0,[])).2∧a ∉ aG w:=by
   by_cases e:a=b
   ·subst e
    have e2:=hab rfl
    obtain⟨l,h1,h2,h3⟩:=hA3.row
    have hil:i<(sG f g ps qs i).length:=by rw[hA3.len]; exact hlt
    obtain⟨w,b1,b2,b3,b4,b5⟩:=h3 i hil
    have hD:=L6 (f:=f) (g:=g) (ps:=ps) (qs:=qs) (Nat.le_refl i)
    rw[List.getD_eq_getElem?_getD,List.getElem?_eq_getElem hil,Option.getD_some] at hD
    rw[hD,e2] at b1
    rw[hD,e2] at b3
    exact⟨l,w,h1,h2,b1,b2,b3,fun hm=>hA3.nb (b5 a hm)⟩
   ·obtain⟨l,h1,h2,h3⟩:=hB.row
    have hil:i<qs.length:=by rw[hB.len]; exact hlt
    obtain⟨w,b1,b2,b3,b4,b5⟩:=h3 i hil
    have hD:qs.getD i (0,[])=qs[i]:=by rw[List.getD_eq_getElem?_getD,List.getElem?_eq_getElem hil]; rfl
    rw[hD]
    exact⟨l,w,k3.aD h1 hbl (by simp; exact fun h=>e h.symm),h2,b1,b2,aL.keep b3 k3 (fun d hd hm=>by simp at hm; subst hm; exact hSa (b5 d hd)),fun hm=>hSa (b5 a hm)⟩
  obtain⟨lb,qw,hb3,hlb32,q1,q2,q3,q4⟩:=hB3
  obtain⟨la,ha3,hla32,hrow⟩:=hA3.row
  have hil:i<(sG f g ps qs i).length:=by rw[hA3.len]; exact hlt
  obtain⟨pw,p1,p2,p3,p4,p5⟩:=hrow i hil
  have hD:=L6 (f:=f) (g:=g) (ps:=ps) (qs:=qs) (Nat.le_refl i)
  rw[List.getD_eq_getElem?_getD,List.getElem?_eq_getElem hil,Option.getD_some] at hD
  rw[hD] at p1 p3
  have bp:=xK hbp ⟨by decide,by decide⟩ i
  have bq:=xK hbq ⟨by decide,by decide⟩ i
  obtain⟨hPi,avd⟩:=hP i hlt
  obtain⟨hr1,hr2⟩:=hres i hlt
  have amE:∀ M',ag [a] M M'→iy TS (fun e=>S e∨M.next≤e) M' a ((sG f g ps qs i).set i (sW f g (ps.getD i (0,[])) (qs.getD i (0,[]))))→next [N .i64 ((i + 1:Nat) : Int)] M':=fun M' k h=>hnext _ _ _ (by omega) ⟨i + 1,rfl,rfl,by omega,k,h⟩
  generalize ps.getD i (0,[])=p at *
  generalize qs.getD i (0,[])=q at *
  obtain⟨pu,px⟩:=p
  obtain⟨qu,qx⟩:=q
  simp only[sW] at *
  rw[aI,aU,xg]
  refine⟨by omega,by omega, ?_⟩
  rw[aI,aU,xg]
  refine⟨by omega,by omega, ?_⟩
  rw[Int.toNat_natCast,Nat.zero_add,Nat.mul_comm i 2,kV]
  have hcut:M3.loads b (2 * i) 2=some [N .u64 (qu:Int),qw]:=by
   rw[RM.dO hb3 (by omega)]
   obtain⟨r1,r2⟩:=List.getElem?_eq_some_iff.1 q1
   obtain⟨r3,r4⟩:=List.getElem?_eq_some_iff.1 q2
   rw[List.drop_eq_getElem_cons r1,List.drop_eq_getElem_cons r3,r2,r4]; rfl
  refine⟨_,hcut, ?_⟩
  have hq1:=aL.one q3
  rw[pF,dB (n:=2) (x:=.agg [N .u64 (qu:Int),qw]) (l:=[N .u64 0,.sc (.slice none 0 0)]) (RM.aT _) rfl rfl (by simp[AV.cells,hq1]; rfl)]
  have k4:ag [] M3 ((M3.push (.row [N .u64 0,.sc (.slice none 0 0)] false TP 0)).put M3.next (.row (AV.agg [N .u64 (qu:Int),qw]).cells false TP 0)):=((ag.refl _ _).push _).new _ (Nat.le_refl _)
  have h4:((M3.push (.row [N .u64 0,.sc (.slice none 0 0)] false TP 0)).put M3.next (.row (AV.agg [N .u64 (qu:Int),qw]).cells false TP 0)).heap M3.next=some (.row [N .u64 (qu:Int),qw] false TP 0):=aN _
  have n4:((M3.push (.row [N .u64 0,.sc (.slice none 0 0)] false TP 0)).put M3.next (.row (AV.agg [N .u64 (qu:Int),qw]).cells false TP 0)).next=M3.next + 1:=rfl
  generalize (M3.push (.row [N .u64 0,.sc (.slice none 0 0)] false TP 0)).put M3.next (.row (AV.agg [N .u64 (qu:Int),qw]).cells false TP 0)=M4 at *
  have aw6:=hA3.lt
  have ha4:=k4.aD ha3 aw6 (by simp)
  rw[aI,aO,Nat.add_zero,aj ha4 p1,aU,aj h4 rfl,V4,if_pos rfl,UD,aI,aO,Nat.add_zero,gV ha4 (by omega) rfl rfl]
  have k5:ag [a] M4 (M4.put a (.row (la.set (2 * i) (N .u64 ((max pu qu:Nat) : Int))) false TS 0)):=(ag.refl _ _).put _ (.inr (by simp))
  have ha5:(M4.put a (.row (la.set (2 * i) (N .u64 ((max pu qu:Nat) : Int))) false TS 0)).heap a=some (.row (la.set (2 * i) (N .u64 ((max pu qu:Nat) : Int))) false TS 0):=aN _
  have n5:(M4.put a (.row (la.set (2 * i) (N .u64 ((max pu qu:Nat) : Int))) false TS 0)).next=M4.next:=rfl
  generalize M4.put a (.row (la.set (2 * i) (N .u64 ((max pu qu:Nat) : Int))) false TS 0)=M5 at *
  have h5:=k5.aD h4 (by omega) (by simp; omega)
  have p2' : (la.set (2 * i) (N .u64 ((max pu qu:Nat) : Int)))[2 * i + 1]?=some pw:=by rw[List.getElem?_set_ne (by omega)]; exact p2
  rw[aI,aO,aj ha5 p2',aU,aj h5 rfl]
  have axt:a ∉ aG pw:=fun hm=>hA3.nb (p5 a hm)
  have k35:ag [a] M3 M5:=(k4.mono (by simp)).trans k5
  have sp5:Sl aX M5 pw px:=aL.keep p3 k35 (fun d hd hm=>by simp at hm; subst hm; exact axt hd)
  have sq5:Sl aX M5 qw qx:=aL.keep q3 k35 (fun d hd hm=>by simp at hm; subst hm; exact q4 hd)
  have hw1:=aL.one sp5
  have hwc:=aL.cells sp5
  have hqc:=aL.cells sq5
  refine⟨[pw,qw],by simp[zD,cZ,hwc,hqc,hw1,hq1], ?_⟩
  dsimp only
  rw[pF]
  have k6:ag [] M5 (M5.push (.row [pw,qw] false TL 0)):=(ag.refl _ _).push _
  have h6:(M5.push (.row [pw,qw] false TL 0)).heap M5.next=some (.row [pw,qw] false TL 0):=RM.aT _
  have n6:(M5.push (.row [pw,qw] false TL 0)).next=M5.next + 1:=rfl
  generalize M5.push (.row [pw,qw] false TL 0)=M6 at *
  refine hc h6 (by omega) (aL.keep sp5 k6 (by simp)) (aL.keep sq5 k6 (by simp)) (by have:=bp.2; omega) (by have:=bq.2; omega) fun r M7 ho7 k7=>?_
  have n7:=k7.next
  have k57:=k6.trans k7
  have ha7:=k57.aD ha5 (by omega) (by simp)
  rw[aI,aO,gV ha7 (by simp; omega) ho7.cells ho7.one]
  have k8:ag [a] M7 (M7.put a (.row ((la.set (2 * i) (N .u64 ((max pu qu:Nat) : Int))).set (2 * i + 1) r) false TS 0)):=(ag.refl _ _).put _ (.inr (by simp))
  have ha8:(M7.put a (.row ((la.set (2 * i) (N .u64 ((max pu qu:Nat) : Int))).set (2 * i + 1) r) false TS 0)).heap a=some (.row ((la.set (2 * i) (N .u64 ((max pu qu:Nat) : Int))).set (2 * i + 1) r) false TS 0):=aN _
  have n8:(M7.put a (.row ((la.set (2 * i) (N .u64 ((max pu qu:Nat) : Int))).set (2 * i + 1) r) false TS 0)).next=M7.next:=rfl
  generalize M7.put a (.row ((la.set (2 * i) (N .u64 ((max pu qu:Nat) : Int))).set (2 * i + 1) r) false TS 0)=M8 at *
  have har:a ∉ aG r:=fun hm=>by have:=(ho7.blk a hm).1; omega
  have ho8:=ho7.keep k8 (fun d hd hm=>by simp at hm; subst hm; exact har hd)
  have g1:((la.set (2 * i) (N .u64 ((max pu qu:Nat) : Int))).set (2 * i + 1) r)[2 * i + 1]?=some r:=by rw[List.getElem?_set_self (by simp; omega)]
  have g0:((la.set (2 * i) (N .u64 ((max pu qu:Nat) : Int))).set (2 * i + 1) r)[2 * i]?=some (N .u64 ((max pu qu:Nat) : Int)):=by rw[List.getElem?_set_ne (by omega),List.getElem?_set_self (by omega)]
  rw[aI,aO,aj ha8 g1]
  refine hs ho8 hPi fun M9 ho9 k9=>?_
  have ha9:=k9.aD ha8 (by omega) har
  have n9:=k9.next
  rw[aI,aO,aj ha9 g1]
  refine hk ho9 avd fun r' M10 s10 c10 b10 k10=>?_
  have n10:=k10.next
  have avW:=k10.aD ha9 (by omega) har
  have har' : a ∉ aG r':=fun hm=>har (b10 a hm)
  rw[aI,aO,jy ((la.set (2 * i) (N .u64 ((max pu qu:Nat) : Int))).set (2 * i + 1) r') avW (by simp; omega) (aL.cells s10) (aL.one s10) (by rw[List.set_set])]
  have k11:ag [a] M10 (M10.put a (.row ((la.set (2 * i) (N .u64 ((max pu qu:Nat) : Int))).set (2 * i + 1) r') false TS 0)):=(ag.refl _ _).put _ (.inr (by simp))
  have awG:(M10.put a (.row ((la.set (2 * i) (N .u64 ((max pu qu:Nat) : Int))).set (2 * i + 1) r') false TS 0)).heap a=some (.row ((la.set (2 * i) (N .u64 ((max pu qu:Nat) : Int))).set (2 * i + 1) r') false TS 0):=aN _
  have n11:(M10.put a (.row ((la.set (2 * i) (N .u64 ((max pu qu:Nat) : Int))).set (2 * i + 1) r') false TS 0)).next=M10.next:=rfl
  generalize M10.put a (.row ((la.set (2 * i) (N .u64 ((max pu qu:Nat) : Int))).set (2 * i + 1) r') false TS 0)=M11 at *
  have s11:Sl aX M11 r' (g (f (px++qx))):=aL.keep s10 k11 (fun d hd hm=>by simp at hm; subst hm; exact har' hd)
  have g0' : ((la.set (2 * i) (N .u64 ((max pu qu:Nat) : Int))).set (2 * i + 1) r')[2 * i]?=some (N .u64 ((max pu qu:Nat) : Int)):=by rw[List.getElem?_set_ne (by omega),List.getElem?_set_self (by omega)]
  have g1' : ((la.set (2 * i) (N .u64 ((max pu qu:Nat) : Int))).set (2 * i + 1) r')[2 * i + 1]?=some r':=by rw[List.getElem?_set_self (by simp; omega)]
  refine ht awG g0' g1' s11 har' c10 hr1 (by have:=bp.1; have:=bq.1; omega) hr2 fun v' M12 awQ s12 c12 b12 k12 n12=>?_
  rw[bS,eB (by omega)]
  have kr:∀ d∈aG r,M.next≤d∧M3.next≤d:=fun d hd=>by have:=(ho7.blk d hd).1; omega
  -- all that was changed: the set's block,and new ones
  have aoK:ag [a] M3 M12:=by
   have w7:ag [a] M3 M7:=k35.trans (k57.mono (by simp))
   have w8:=w7.trans k8
   have w9:=w8.bG k9 fun d hd=>.inl (kr d hd).2
   have w10:=w9.bG k10 fun d hd=>.inl (kr d hd).2
   exact(w10.trans k11).trans k12
  refine amE M12 (k3.trans aoK) (hA3.put ha3 hlt ?_ aoK (fun d hd=>.inl (by simpa using hd)) s12 c12 (fun d hd=>.inr (kr d (b10 d (b12 d hd))).1) (fun d h=>h) (fun h=>by rcases h with h | h; exact hA.nb h; omega))
  rw[awQ]
  rw[List.set_comm (i:=2 * i + 1) (j:=2 * i) _ _ (by omega),List.set_set,List.set_set]
  rfl
 ·have he:i=16:=by
   have:¬ (i:Int)<16:=of_decide_eq_false hge
   omega
  subst he
  exact hQ M3 hA3 k3
theorem JL {f g:List Nat→List Nat} {ps qs:List Pt} : ∀ i,(sG f g ps qs i).length=ps.length
 | 0=>rfl
 | i + 1=>by rw[sG,List.length_set,JL i]
theorem UM {f g:List Nat→List Nat} {ps qs:List Pt} (hl:ps.length=16) : ∀ {i j:Nat},i≤16→j<i→(sG f g ps qs i).getD j (0,[])=sW f g (ps.getD j (0,[])) (qs.getD j (0,[]))
 | i + 1,j,hi,h=>by
   rw[sG]
   by_cases e:i=j
   ·subst e
    rw[ze (by rw[JL]; omega)]
   ·rw[getD_set_ne e,UM hl (by omega) (by omega)]
theorem qf {p:Pt} {x:Nat} : lc p x=true↔(1≤x∧x≤p.1)∨x∈p.2:=by
 unfold lc
 simp only[Bool.or_eq_true,Bool.and_eq_true,decide_eq_true_eq]
theorem GI:∀ (xs:List Nat) (u x:Nat),(∀ y∈xs,1≤y)→(lc (settle u xs) x=true↔(1≤x∧x≤u)∨x∈xs)
 | [],u,x,_=>by rw[qf]; simp[settle,eT]
 | y :: xs,u,x,h=>by
   by_cases hy:y≤u + 1
   ·have e:settle u (y :: xs)=settle (max u y) xs:=by
     unfold settle
     rw[eT,if_pos hy]; rfl
    have h1:=h y (by simp)
    rw[e,GI xs (max u y) x (fun z hz=>h z (by simp[hz])),List.mem_cons]
    constructor
    ·rintro(⟨a,b⟩ | c)
     ·by_cases hx:x≤u
      ·exact .inl ⟨a,hx⟩
      ·exact .inr (.inl (by omega))
     ·exact .inr (.inr c)
    ·rintro(⟨a,b⟩ | c | c)
     ·exact .inl ⟨a,by omega⟩
     ·exact .inl ⟨by omega,by omega⟩
     ·exact .inr c
   ·have e:settle u (y :: xs)=(u,y :: xs):=by
     unfold settle
     rw[eT,if_neg hy]; rfl
    rw[e,qf]
theorem Vy {k n:Nat} {xs:List Nat} {x:Nat} : x∈iw k n xs↔x=n∨x∈xs:=by
 refine⟨EZ,fun h=>?_⟩
 unfold iw
 rcases h with h | h
 ·simp[h]
 ·rw[← List.take_append_drop k xs,List.mem_append] at h
  rw[List.mem_append,List.mem_cons]
  rcases h with h | h
  ·exact .inl h
  ·exact .inr (.inr h)
theorem aeu {p:Pt} {n x:Nat} (hp:pG p) (hn:1≤n) (hok:(iA p n).1=true) : lc (iA p n).2 x=true↔lc p x=true∨x=n:=by
 unfold iA at hok ⊢
 by_cases h:n∈p.2∨n≤p.1
 ·rw[if_pos h]
  constructor
  ·exact .inl
  ·rintro(h1 | rfl)
   ·exact h1
   ·rw[qf]
    rcases h with h | h
    ·exact .inr h
    ·exact .inl ⟨hn,h⟩
 ·rw[if_neg h] at hok ⊢
  by_cases h2:(settle p.1 (iw (below n p.2) n p.2)).2.length≤4096
  ·rw[if_pos h2]
   simp only
   rw[GI _ _ _ (fun y hy=>by rcases Vy.1 hy with rfl | hy; exact hn; have:=hp.2.1 y hy; omega),Vy,qf]
   constructor
   ·rintro(a | b | c)
    ·exact .inl (.inl a)
    ·exact .inr b
    ·exact .inl (.inr c)
   ·rintro((a | b) | c)
    ·exact .inl a
    ·exact .inr (.inr b)
    ·exact .inr (.inl c)
  ·rw[if_neg h2] at hok; cases hok
theorem agu {p:Pt} {n:Nat} : (iA p n).2.2.length≤p.2.length + 1:=by
 unfold iA
 split
 ·exact Nat.le_succ _
 ·split
  ·have h1:=Gc p.1 (iw (below n p.2) n p.2)
   have h2:=Fs (x:=n) (below_le n p.2)
   simp only; omega
  ·exact Nat.le_succ _
theorem YU {p:Pt} {n:Nat} (h:p.2.length<4096) : (iA p n).1=true:=by
 unfold iA
 split
 ·rfl
 ·have h1:=Gc p.1 (iw (below n p.2) n p.2)
  have h2:=Fs (x:=n) (below_le n p.2)
  rw[if_pos (by omega)]
theorem Sb {ps:List Pt} {d:ay} (hl:∀ p∈ps,p.2.length<4096) (hg:good d=true) : ny ps d=(0,ps.set d.1.toNat (iA (ps.getD d.1.toNat (0,[])) d.2).2):=by
 unfold ny
 rw[if_pos hg,YU (xK (R:=fun p=>p.2.length<4096) hl (by decide) _),if_pos rfl]
theorem acE {ps:List Pt} {d:ay} {k:Nat} (hl:∀ p∈ps,p.2.length≤k) : ∀ p∈(ny ps d).2,p.2.length≤k + 1:=by
 unfold ny
 split
 ·split
  ·intro p hp
   rcases List.mem_or_eq_of_mem_set hp with hp | rfl
   ·have:=hl p hp; omega
   ·have h1:=agu (p:=ps.getD d.1.toNat (0,[])) (n:=d.2)
    have h2:=xK (R:=fun p=>p.2.length≤k) hl (Nat.zero_le _) d.1.toNat
    omega
  ·intro p hp; have:=hl p hp; omega
 ·intro p hp; have:=hl p hp; omega
section
variable {ps:List Pt} {d:ay}
theorem ahD (hg:good d=true) : 1≤d.2∧d.2≤1099511627776∧d.1.toNat<16:=by
 simp only[good,Bool.and_eq_true,decide_eq_true_eq] at hg
 omega
theorem agT (h16:ps.length=16) (hw:∀ p∈ps,pG p) (hl:∀ p∈ps,p.2.length<4096) (hg:good d=true) (j x:Nat) :
  lc ((ny ps d).2.getD j (0,[])) x=true↔lc (ps.getD j (0,[])) x=true∨(j=d.1.toNat∧x=d.2):=by
 obtain⟨h1,h2,h3⟩:=ahD hg
 rw[Sb hl hg]
 simp only
 by_cases e:d.1.toNat=j
 ·subst e
  rw[ze (by omega),aeu (zN hw _) h1 (YU (xK (R:=fun p=>p.2.length<4096) hl (by decide) _))]
  simp
 ·rw[getD_set_ne e]
  simp[Ne.symm e]
end
def qK (T:Nat) (M:RM) (base:Nat) (v:AV) (L:List UInt8) : Prop :=
 Own M base T 1 v (dL L) L.length∨∃ b,v=.slc b 0 L.length (.ex L.length)∧base≤b∧b<M.next∧M.heap b=some (.row (dL L) false T 0)
theorem qK.sl {T base:Nat} {M:RM} {v:AV} {L:List UInt8} (h:qK T M base v L) : Sl BY M v L:=by
 rcases h with h | ⟨b,rfl,h1,h2,h3⟩
 ·exact Own.sl h
 ·show aL M 1 _ (BY.row L) L.length
  rw[yC]
  refine .slc _ _ _ _ _ h2 ?_
  rw[RM.dO h3 (by simp),Nat.mul_one,List.drop_zero,List.take_of_length_le (by simp)]
theorem qK.keep {T base:Nat} {M M' : RM} {v:AV} {L:List UInt8} (h:qK T M base v L) (hk:ag [] M M') : qK T M' base v L:=by
 rcases h with h | ⟨b,rfl,h1,h2,h3⟩
 ·exact .inl (h.keep hk (by simp))
 ·exact .inr ⟨b,rfl,h1,Nat.lt_of_lt_of_le h2 hk.next,hk.aD h3 h2 (by simp)⟩
theorem qK.app {T base:Nat} {M:RM} {v u:AV} {L L' : List UInt8} {zs:List AV} {K:ak} (h:qK T M base v L) (hb:base≤M.next) (hu:Sl BY M u L') (hl:L.length + L'.length≤1000000000)
  (hK:∀ v' M',qK T M' base v' (L++L')→ag (aG v) M M'→(∀ d∈aG v,base≤d)→K v' M') : appW T 1 1 zs false v u M K:=by
 have hcs:BY.row L'=dL L':=yC L'
 have hu' : aL M 1 u (dL L') L'.length:=by rw[← hcs]; exact hu
 rcases h with h | ⟨b,rfl,h1,h2,h3⟩
 ·refine vg h hb (Nat.le_refl _) (hu'.nZ _) (by simp) (lW _) (by omega) (by omega) ?_
  intro v' M' o k _ _
  refine hK v' M' (.inl ?_) k (fun d hd=>(h.blk d hd).1)
  rw[lJ,List.length_append]; exact o
 ·refine⟨L'.length,dL L',hu'.nZ _,by omega,by omega, ?_⟩
  by_cases h0:L'.length=0
  ·have:L'=[]:=List.length_eq_zero_iff.1 h0
   subst this
   refine⟨.slc b 0 L.length (.ex L.length),M,by simp[pV],hK _ _ (.inr ⟨b,by simp,h1,h2,by simpa using h3⟩) (ag.refl _ _) (by simp[aG]; exact h1)⟩
  ·have hld:M.loads b 0 (L.length * 1)=some (dL L):=by
    rw[RM.dO h3 (by simp),Nat.mul_one,List.drop_zero,List.take_of_length_le (by simp)]
   refine⟨.slc M.next 0 (L.length + L'.length) (.op 1),M.push (.row (dL L++dL L') true T 0), ?_,hK _ _ (.inl ?_) ((ag.refl _ _).push _) (by simp[aG]; exact h1)⟩
   ·have hone:(dL L++dL L').all oneCell=true:=by rw[List.all_append,lW,lW]; rfl
    simp only[pV,if_neg h0,if_neg (show ¬ L.length + L'.length≤L.length by omega),hld]
    rw[if_pos ⟨by omega,by omega,hone⟩]
   ·rw[List.length_append,lJ]
    exact .op _ _ _ hb (by simp[RM.push]) (RM.aT _) (by simp)
def FT (T v:Nat) (c:au) : Prop:=∀ {M:RM} {Q:ak},(∀ r M',qK T M' M.next r (bE v)→ag [] M M'→Q r M')→c [N .u64 (v:Int)] M Q
theorem Xi {T v:Nat} {c:au} (hv:v<2 ^ 64) (ih:∀ w,w<v→FT T w c) : FT T v fun args M Q=>∃ a0,args=[a0]∧Dj T c a0 M Q:=by
 intro M Q hQ
 refine⟨_,rfl, ?_⟩
 unfold Dj
 have lit:∀ (x:UInt8),qK T (M.push (.row [By x] false T 0)) M.next (.slc M.next 0 1 (.ex 1)) [x]:=fun x=>.inr ⟨M.next,rfl,Nat.le_refl _,by simp[RM.push],RM.aT _⟩
 rw[bZ]
 refine aJ (fun h=>?_) (fun h=>?_)
 ·have h:v<128:=by
   have:(v:Int)<128:=of_decide_eq_true h
   omega
  rw[dY,Zb h,sI (x:=By (UInt8.ofNat v)) (size:=1) rfl rfl rfl,bn]
  refine hQ _ _ ?_ ((ag.refl _ _).push _)
  rw[Gw h]; exact lit _
 ·have h:¬ v<128:=by
   have:¬ (v:Int)<128:=of_decide_eq_false h
   omega
  rw[Nq]
  refine⟨by decide, ?_⟩
  have e1:(v:Int).tmod 128=((v % 128:Nat) : Int):=by rw[Int.tmod_eq_emod_of_nonneg (by omega)]; rfl
  rw[e1,dY,GY (by omega) (by omega),bS,show((v % 128:Nat) : Int) + 128=((v % 128 + 128:Nat) : Int) by omega,GY (by omega) (by omega)]
  have e2:N .u8 ((v % 128 + 128:Nat) : Int)=By (UInt8.ofNat (v % 128 + 128)):=by rw[By,OC]; congr 2; omega
  rw[e2,sI (x:=By (UInt8.ofNat (v % 128 + 128))) (size:=1) rfl rfl rfl,bn,ql]
  refine⟨by decide, ?_⟩
  rw[show(128:Int)=((128:Nat) : Int) from rfl,uV,dw (by omega) (by omega)]
  have k1:ag [] M (M.push (.row [By (UInt8.ofNat (v % 128 + 128))] false T 0)):=(ag.refl _ _).push _
  have l1:=lit (UInt8.ofNat (v % 128 + 128))
  have n1:(M.push (.row [By (UInt8.ofNat (v % 128 + 128))] false T 0)).next=M.next + 1:=rfl
  show c _ (M.push (.row [By (UInt8.ofNat (v % 128 + 128))] false T 0)) _
  generalize M.push (.row [By (UInt8.ofNat (v % 128 + 128))] false T 0)=M1 at *
  refine ih (v / 128) (by omega) fun r M2 h2 k2=>?_
  have hlen:=bW (v:=v / 128) (by omega)
  have n2:=k2.next
  refine(l1.keep k2).app (by omega) h2.sl (by simp; omega) fun v' M3 h3 k3 hb3=>?_
  refine hQ v' M3 ?_ ((k1.trans k2).bG k3 fun d hd=>.inl (hb3 d hd))
  rw[Gx h]
  exact h3
structure PO (TP TU base:Nat) (M:RM) (v:AV) (out:List gL) (cs:List AV) (ws:Nat→AV) : Prop where
 own:Own M base TP 3 v cs out.length
 row:∀ (k:Nat) (hk:k<out.length),cs[3 * k]?=some (N .i64 (out[k].1.1:Int))∧cs[3 * k + 1]?=some (N .u64 (out[k].1.2:Int))∧cs[3 * k + 2]?=some (ws k)∧Ow aX M base TU (ws k) out[k].2
 apart:∀ i j,i<out.length→j<out.length→i≠j→∀ d∈aG (ws i),d ∉ aG (ws j)
 off:∀ i,i<out.length→∀ d∈aG (ws i),d ∉ aG v
section
variable {TP TU base:Nat} {M M' : RM} {v:AV} {out:List gL} {cs:List AV} {ws:Nat→AV}
theorem PO.empty (h:Own M base TP 3 v [] 0) : PO TP TU base M v [] [] (fun _=>aZ) :=
 ⟨h,fun k hk=>absurd hk (Nat.not_lt_zero _),fun i j hi=>absurd hi (Nat.not_lt_zero _),fun i hi=>absurd hi (Nat.not_lt_zero _)⟩
theorem PO.keep {ks:List Nat} (h:PO TP TU base M v out cs ws) (hk:ag ks M M') (hs:∀ d∈ks,d<base∨M.next≤d) : PO TP TU base M' v out cs ws:=by
 refine⟨h.own.keep hk (fun d hd hm=>by have:=h.own.blk d hd; have:=hs d hm; omega),fun k hk'=>?_,h.apart,h.off⟩
 obtain⟨a1,a2,a3,a4⟩:=h.row k hk'
 exact⟨a1,a2,a3,a4.keep hk fun d hd hm=>by have:=a4.blk d hd; have:=hs d hm; omega⟩
theorem PO.at (h:PO TP TU base M v out cs ws) {i:Nat} (hi:i<out.length) :
  ∃ b,v=.slc b 0 out.length (.op 3)∧base≤b∧b<M.next∧M.heap b=some (.row cs true TP 0)∧cs.length=out.length * 3∧∀ (kd:IntKind) (K:AV→Prop),aA v (N kd (i:Int)) 3 K=K (.ptr b (3 * i)):=by
 obtain⟨b,h1,h2,h3,h4,h5⟩:=Own.En h.own (by omega)
 refine⟨b,h1,h2,h3,h4,h5,fun kd K=>?_⟩
 rw[h1,qo]
 simp only[Int.toNat_natCast]
 rw[show 0 + i * 3=3 * i by omega]
 exact propext ⟨fun h=>h.2.2,fun h=>⟨by omega,by omega,h⟩⟩
theorem PO.set (h:PO TP TU base M v out cs ws) {i b u:Nat} {w:AV} {xs:List Nat} {M1 M2:RM} {ks:List Nat} (hi:i<out.length) (hv:v=.slc b 0 out.length (.op 3)) (k1:ag ks M M1) (hks:∀ d∈ks,d∈aG (ws i))
  (hw:Ow aX M1 base TU w xs) (hw2:w=ws i∨∀ d∈aG w,M.next≤d) (hb:M2=M1.put b (.row ((cs.set (3 * i + 1) (N .u64 (u:Int))).set (3 * i + 2) w) true TP 0)) :
  PO TP TU base M2 v (out.set i ((out[i].1.1,u),xs)) ((cs.set (3 * i + 1) (N .u64 (u:Int))).set (3 * i + 2) w) (fun j=>if j=i then w else ws j)∧ag (b :: ks) M M2:=by
 obtain⟨b',e,hb1,hb2,hb3,hb4,_⟩:=h.at hi
 obtain rfl:b=b':=by rw[hv] at e; injection e
 have n1:=k1.next
 have kk:ag [b] M1 M2:=by subst hb; exact(ag.refl _ _).put _ (.inr (by simp))
 have hh:M2.heap b=some (.row ((cs.set (3 * i + 1) (N .u64 (u:Int))).set (3 * i + 2) w) true TP 0):=by subst hb; exact aN _
 have hbv:∀ j,j<out.length→b ∉ aG (ws j):=fun j hj hm=>h.off j hj b hm (by rw[hv]; simp[aG])
 have hbw:b ∉ aG w:=by
  rcases hw2 with rfl | hw2
  ·exact hbv i hi
  ·exact fun hm=>by have:=hw2 b hm; omega
 refine⟨⟨?_,fun j hj=>?_,fun j1 j2 q1 q2 hne d (hd:d∈aG (if j1=i then w else ws j1))=>show d ∉ aG (if j2=i then w else ws j2) from ?_,fun j hj d hd=>?_⟩,(k1.mono (fun d hd=>List.mem_cons_of_mem _ hd)).trans (kk.mono (by simp))⟩
 ·rw[List.length_set,hv]
  exact .op _ _ _ hb1 (Nat.lt_of_lt_of_le hb2 (Nat.le_trans n1 kk.next)) hh (by simp; omega)
 ·have hj' : j<out.length:=by rw[List.length_set] at hj; exact hj
  obtain⟨a1,a2,a3,a4⟩:=h.row j hj'
  by_cases hji:j=i
  ·subst hji
   rw[List.getElem_set_self]
   simp only[if_true]
   refine⟨?_, ?_, ?_,hw.keep kk fun d hd hm=>?_⟩
   ·rw[List.getElem?_set_ne (by omega),List.getElem?_set_ne (by omega)]; exact a1
   ·rw[List.getElem?_set_ne (by omega),List.getElem?_set_self (by omega)]
   ·rw[List.getElem?_set_self (by rw[List.length_set]; omega)]
   ·simp at hm; subst hm; exact hbw hd
  ·rw[List.getElem_set_ne (Ne.symm hji)]
   simp only[if_neg hji]
   refine⟨?_, ?_, ?_,(a4.keep k1 fun d hd hm=>?_).keep kk fun d hd hm=>?_⟩
   ·rw[List.getElem?_set_ne (by omega),List.getElem?_set_ne (by omega)]; exact a1
   ·rw[List.getElem?_set_ne (by omega),List.getElem?_set_ne (by omega)]; exact a2
   ·rw[List.getElem?_set_ne (by omega),List.getElem?_set_ne (by omega)]; exact a3
   ·exact h.apart j i hj' hi hji d hd (hks d hm)
   ·simp at hm; subst hm; exact hbv j hj' hd
 ·rw[List.length_set] at q1 q2
  by_cases e1:j1=i
  ·rw[if_pos e1] at hd
   rw[if_neg (fun e=>hne (e1.trans e.symm))]
   rcases hw2 with rfl | hw2
   ·exact h.apart i j2 hi q2 (fun e=>hne (e1.trans e)) d hd
   ·intro hm
    have:=hw2 d hd
    have:=((h.row j2 q2).2.2.2.blk d hm).2
    omega
  ·rw[if_neg e1] at hd
   by_cases e2:j2=i
   ·rw[if_pos e2]
    rcases hw2 with rfl | hw2
    ·exact h.apart j1 i q1 hi e1 d hd
    ·intro hm
     have:=hw2 d hm
     have:=((h.row j1 q1).2.2.2.blk d hd).2
     omega
   ·rw[if_neg e2]
    exact h.apart j1 j2 q1 q2 hne d hd
 ·rw[List.length_set] at hj
  have hd:d∈aG (if j=i then w else ws j):=hd
  by_cases e1:j=i
  ·rw[if_pos e1] at hd
   intro hm
   rw[hv] at hm
   simp[aG] at hm
   subst hm; exact hbw hd
  ·rw[if_neg e1] at hd
   exact h.off j hj d hd
end
def DJ (l:List ay) (i:Nat) (o:List gL) : List gL:=if i=0∨(l.getD i (0,0)).1≠(l.getD (i - 1) (0,0)).1 then o++[(((l.getD i (0,0)).1.toNat,0),[])] else o
def bump (p:gL) (n:Nat) : gL:=if p.2=[]∧n=p.1.2 + 1 then((p.1.1,n),[]) else(p.1,p.2++[n])
def Ke (o:List gL) (n:Nat) : List gL:=o.set (o.length - 1) (bump (o.getD (o.length - 1) ((0,0),[])) n)
def lm (l:List ay) : Nat→List gL
 | 0=>[]
 | i + 1=>Ke (DJ l i (lm l i)) (l.getD i (0,0)).2
def NT (l:List ay) : List gL:=lm l l.length
def YX (i:Nat) (p:gL) : Prop:=p.1.1<16∧p.1.2≤1099511627776∧p.2.length≤i∧∀ x∈p.2,x≤1099511627776
theorem Xj (l:List ay) (i:Nat) (o:List gL) : o.length≤(DJ l i o).length∧(DJ l i o).length≤o.length + 1:=by
 unfold DJ; split <;> simp
theorem Le (l:List ay) : ∀ i,(lm l i).length≤i∧(0<i→0<(lm l i).length)
 | 0=>⟨Nat.le_refl _,fun h=>absurd h (by omega)⟩
 | i + 1=>by
   have h1:=Le l i
   have h2:=Xj l i (lm l i)
   rw[lm,Ke,List.length_set]
   refine⟨by omega,fun _=>?_⟩
   by_cases h:i=0
   ·subst h; simp[DJ]
   ·omega
theorem aeh (l:List ay) (i:Nat) : 0<(DJ l i (lm l i)).length:=by
 have h1:=Le l i
 have h2:=Xj l i (lm l i)
 by_cases h:i=0
 ·subst h; simp[DJ]
 ·omega
theorem zQ {α:Type} {l:List α} {i:Nat} {d:α} (h:i<l.length) : l.getD i d=l[i]:=by
 rw[List.getD_eq_getElem?_getD,List.getElem?_eq_getElem h]; rfl
theorem uH {d:ay} (h:good d=true) : 0≤d.1∧d.1<16∧d.2≤1099511627776∧1≤d.2:=by
 simp only[good,Bool.and_eq_true,decide_eq_true_eq] at h
 omega
theorem ai9 {i n:Nat} {p:gL} (h:YX i p) (hn:n≤1099511627776) : YX (i + 1) (bump p n):=by
 obtain⟨h1,h2,h3,h4⟩:=h
 unfold bump
 split
 ·exact⟨h1,hn,by simp,by simp⟩
 ·refine⟨h1,h2,by simp; omega,fun x hx=>?_⟩
  rcases List.mem_append.1 hx with hx | hx
  ·exact h4 x hx
  ·simp at hx; omega
theorem ajP {l:List ay} {i:Nat} {o:List gL} (hi:i<l.length) (hg:∀ d∈l,good d=true) (h:∀ p∈o,YX i p) : ∀ p∈DJ l i o,YX i p:=by
 intro p hp
 have hd:=uH (hg _ (List.getElem_mem hi))
 unfold DJ at hp
 split at hp
 ·rcases List.mem_append.1 hp with hp | hp
  ·exact h p hp
  ·simp only[List.mem_singleton] at hp
   subst hp
   rw[zQ hi]
   exact⟨by show l[i].1.toNat<16; omega,Nat.zero_le _,Nat.zero_le _,by simp⟩
 ·exact h p hp
theorem OL {l:List ay} (hg:∀ d∈l,good d=true) : ∀ i,i≤l.length→∀ p∈lm l i,YX i p
 | 0,_,p,hp=>by simp[lm] at hp
 | i + 1,hi,p,hp=>by
   have h1:=ajP (by omega) hg (OL hg i (by omega))
   have hpos:=aeh l i
   rw[lm,Ke] at hp
   rcases List.mem_or_eq_of_mem_set hp with hp | rfl
   ·obtain⟨q1,q2,q3,q4⟩:=h1 p hp
    exact⟨q1,q2,by omega,q4⟩
   ·have hd:=uH (hg _ (List.getElem_mem (show i<l.length by omega)))
    refine ai9 (h1 _ ?_) (by rw[zQ (by omega)]; omega)
    rw[zQ (by omega)]
    exact List.getElem_mem _
def Nh (T:Nat) (c:au) : Prop:=∀ v,v<2 ^ 64→FT T v c
theorem xY {T x:Nat} {c:au} (hc:Nh T c) {M0 M:RM} {b:AV} {L:List UInt8} {zs:List AV} {K:ak} (k0:ag [] M0 M) (h:qK T M M0.next b L) (hx:x<2 ^ 64) (hl:L.length≤900000000)
  (hK:∀ v' M',qK T M' M0.next v' (L++bE x)→ag [] M0 M'→ag [] M M'∨True→K v' M') : c [N .u64 (x:Int)] M fun t M'=>appW T 1 1 zs false b t M' K:=by
 refine hc x hx fun r M1 h1 k1=>?_
 have n0:=k0.next
 have n1:=k1.next
 have u10:=bW hx
 refine(h.keep k1).app (by omega) h1.sl (by omega) fun v' M2 h2 k2 hb=>?_
 exact hK v' M2 h2 ((k0.trans k1).bG k2 fun d hd=>.inl (hb d hd)) (.inr trivial)
theorem aht {o:List gL} {k:Nat} (h:∀ p∈o,(nu p).length≤k) : (o.flatMap nu).length≤o.length * k:=by
 induction o with
 | nil=>simp
 | cons p o ih =>
   rw[List.flatMap_cons,List.length_append,List.length_cons,Nat.succ_mul]
   have h1:=h p (by simp)
   have h2:=ih fun q hq=>h q (by simp[hq])
   omega
theorem acv {n:Nat} {p:gL} (hn:n≤5000) (h:YX n p) : (nu p).length≤30 + 10 * n:=by
 obtain⟨h1,h2,h3,h4⟩:=h
 simp only[nu,List.length_append]
 have a1:=bW (v:=p.1.1) (by omega)
 have a2:=bW (v:=p.1.2) (by omega)
 have a3:=Cy p.2 p.1.2
 have a4:=bW (v:=p.2.length) (by omega)
 omega
theorem mo {f g:Prop→Prop} {k:Prop} : BG (Bo false) false f g k=f k:=rfl
theorem nW {f g:Prop→Prop} {k:Prop} : BG (Bo true) false f g k=g k:=rfl
section
variable {TP TU base:Nat} {M:RM} {v:AV} {out:List gL} {cs:List AV} {ws:Nat→AV}
end
theorem agz {ps:List Pt} {d:ay} : (ny ps d).2.length=ps.length:=by
 unfold ny
 split
 ·split
  ·simp only; rw[List.length_set]
  ·rfl
 ·rfl
structure ayf (l:List ay) (i:Nat) (ps:List Pt) : Prop where
 len:ps.length=16
 wf:∀ p∈ps,pG p
 few:∀ p∈ps,p.2.length≤i
 has:∀ k (hk:k<l.length),k<i→good l[k]=true→gz ps l[k]=true
theorem vD {a b:ay} : pq a b=true↔a.1<b.1∨(a.1=b.1∧a.2<b.2):=by
 simp[pq]
theorem SA {a:ay} : ¬ pq a a=true:=by rw[vD]; omega
theorem Zy {a b:ay} (h:pq a b=true) : ¬ pq b a=true:=by rw[vD] at *; omega
theorem Dv {a b c:ay} (h:pq a b=true) (k:pq b c=true) : pq a c=true:=by rw[vD] at *; omega
theorem acX {a b:ay} (h:¬ pq a b=true) (hne:a≠b) : pq b a=true:=by
 rw[vD] at *
 have:¬ (a.1=b.1∧a.2=b.2):=fun⟨h1,h2⟩=>hne (Prod.ext h1 h2)
 omega
def Es (l:List ay) : Prop:=l.Pairwise fun a b=>pq a b=true
theorem YW:∀ {xs ys:List ay},Es xs→Es ys→(∀ x,x∈xs↔x∈ys)→xs=ys
 | [],[],_,_,_=>rfl
 | [],y :: ys,_,_,h=>by have:=(h y).2 (by simp); simp at this
 | x :: xs,[],_,_,h=>by have:=(h x).1 (by simp); simp at this
 | x :: xs,y :: ys,h1,h2,h=>by
   have a1:=List.pairwise_cons.1 h1
   have a2:=List.pairwise_cons.1 h2
   have hxy:x=y:=by
    rcases List.mem_cons.1 ((h x).1 (by simp)) with e | e
    ·exact e
    ·rcases List.mem_cons.1 ((h y).2 (by simp)) with e' | e'
     ·exact e'.symm
     ·exact absurd (a1.1 y e') (Zy (a2.1 x e))
   subst hxy
   rw[YW a1.2 a2.2 fun z=>⟨fun hz=>?_,fun hz=>?_⟩]
   ·rcases List.mem_cons.1 ((h z).1 (by simp[hz])) with rfl | e
    ·exact absurd (a1.1 z hz) SA
    ·exact e
   ·rcases List.mem_cons.1 ((h z).2 (by simp[hz])) with rfl | e
    ·exact absurd (a2.1 z hz) SA
    ·exact e
theorem ag3 {l:List ay} {d x:ay} : x∈yZ l d↔x=d∨x∈l:=by
 unfold yZ
 split
 ·rename_i h
  exact⟨.inr,fun h'=>by rcases h' with rfl | h'; exact h; exact h'⟩
 ·rw[List.mem_append,List.mem_cons]
  conv=>rhs; rw[← List.take_append_drop (Jd d l) l,List.mem_append]
  constructor
  ·rintro(h | h | h)
   ·exact .inr (.inl h)
   ·exact .inl h
   ·exact .inr (.inr h)
  ·rintro(h | h | h)
   ·exact .inr (.inl h)
   ·exact .inl h
   ·exact .inr (.inr h)
theorem UN {d:ay} : ∀ {l:List ay},Es l→d ∉ l→Es (l.take (Jd d l)++d :: l.drop (Jd d l))
 | [],_,_=>by simp[Es,Jd]
 | x :: l,h,hd=>by
   have a:=List.pairwise_cons.1 h
   simp only[List.mem_cons,not_or] at hd
   by_cases hx:pq x d=true
   ·have e:Jd d (x :: l)=Jd d l + 1:=by simp[Jd,hx]
    rw[e,List.take_succ_cons,List.drop_succ_cons,List.cons_append]
    refine List.pairwise_cons.2 ⟨fun y hy=>?_,UN a.2 hd.2⟩
    rcases List.mem_append.1 hy with hy | hy
    ·exact a.1 y (List.mem_of_mem_take hy)
    ·rcases List.mem_cons.1 hy with rfl | hy
     ·exact hx
     ·exact a.1 y (List.mem_of_mem_drop hy)
   ·have e:Jd d (x :: l)=0:=by simp[Jd,hx]
    rw[e,List.take_zero,List.drop_zero,List.nil_append]
    have hdx:=acX hx (fun e=>hd.1 e.symm)
    refine List.pairwise_cons.2 ⟨fun y hy=>?_,h⟩
    rcases List.mem_cons.1 hy with rfl | hy
    ·exact hdx
    ·exact Dv hdx (a.1 y hy)
theorem X6 {l:List ay} {d:ay} (h:Es l) : Es (yZ l d):=by
 unfold yZ
 split
 ·exact h
 ·rename_i hd; exact UN h hd
def nums (p:Pt) : List Nat:=List.range' 1 p.1++p.2
def We (i:Nat) (p:Pt) : List ay:=(nums p).map fun n=>((i:Int),n)
def nU (ps:List Pt) : Nat→List ay
 | 0=>[]
 | i + 1=>nU ps i++We i (ps.getD i (0,[]))
theorem Vr {p:Pt} {n:Nat} : n∈nums p↔lc p n=true:=by
 rw[qf,nums,List.mem_append,List.mem_range'_1]
 constructor
 ·rintro(h | h)
  ·exact .inl (by omega)
  ·exact .inr h
 ·rintro(h | h)
  ·exact .inl (by omega)
  ·exact .inr h
theorem GM {ps:List Pt} {d:ay} : ∀ {i:Nat},d∈nU ps i↔0≤d.1∧d.1<i∧lc (ps.getD d.1.toNat (0,[])) d.2=true
 | 0=>by simp[nU]; omega
 | i + 1=>by
   rw[nU,List.mem_append,GM,We,List.mem_map]
   constructor
   ·rintro(⟨h1,h2,h3⟩ | ⟨n,h,rfl⟩)
    ·exact⟨h1,by omega,h3⟩
    ·exact⟨by simp,by simp; omega,by simpa using Vr.1 h⟩
   ·rintro⟨h1,h2,h3⟩
    by_cases h:d.1<i
    ·exact .inl ⟨h1,h,h3⟩
    ·have e:d.1.toNat=i:=by omega
     rw[e] at h3
     exact .inr ⟨d.2,Vr.2 h3,Prod.ext (by simp; omega) rfl⟩
theorem aeR {p:Pt} (h:pG p) : Asc (nums p):=by
 unfold nums Asc
 rw[List.pairwise_append]
 refine⟨List.pairwise_lt_range',h.1,fun a ha b hb=>?_⟩
 have:=List.mem_range'_1.1 ha
 have:=h.2.1 b hb
 omega
theorem PH {ps:List Pt} (h:∀ p∈ps,pG p) : ∀ i,Es (nU ps i)
 | 0=>.nil
 | i + 1=>by
   unfold Es
   rw[nU,List.pairwise_append]
   refine⟨PH h i, ?_,fun a ha b hb=>?_⟩
   ·rw[We,List.pairwise_map]
    exact List.Pairwise.imp (fun {a b} (hab:a<b)=>by rw[vD]; exact .inr ⟨rfl,hab⟩) (aeR (zN h i))
   ·have h1:=(GM.1 ha).2.1
    rw[We,List.mem_map] at hb
    obtain⟨n,_,rfl⟩:=hb
    exact vD.2 (.inl h1)
theorem ac4 {ps:List Pt} (h:∀ p∈ps,pG p) (d:ay) : d∈nU ps 16↔gz ps d=true:=by
 rw[GM,gz,Bool.and_eq_true]
 constructor
 ·rintro⟨h1,h2,h3⟩
  refine⟨?_,h3⟩
  have hw:=zN h d.1.toNat
  have:1≤d.2∧d.2≤1099511627776:=by
   rcases qf.1 h3 with h | h
   ·have:=hw.2.2.1; omega
   ·have:=hw.2.1 _ h; have:=hw.2.2.2.1 _ h; omega
  simp[good]; omega
 ·rintro⟨h1,h3⟩
  simp[good] at h1
  exact⟨by omega,by omega,h3⟩
def xZ:List gL→Option Int→List ay→List gL
 | o,_,[]=>o
 | o,p,d :: ds=>xZ (Ke (if p=some d.1 then o else o++[((d.1.toNat,0),[])]) d.2) (some d.1) ds
theorem Ih {l:List ay} : ∀ (k i:Nat),i + k=l.length→xZ (lm l i) (if i=0 then none else some (l.getD (i - 1) (0,0)).1) (l.drop i)=NT l
 | 0,i,h=>by
   rw[List.drop_of_length_le (by omega),xZ,NT]
   congr 1
 | k + 1,i,h=>by
   have hi:i<l.length:=by omega
   have hD:l.getD i (0,0)=l[i]:=zQ hi
   have ih:=Ih (l:=l) k (i + 1) (by omega)
   rw[if_neg (show ¬ i + 1=0 by omega),Nat.add_sub_cancel,lm,hD] at ih
   rw[List.drop_eq_getElem_cons hi,xZ,← ih]
   congr 2
   unfold DJ
   rw[hD]
   by_cases h0:i=0
   ·subst h0; simp
   ·rw[if_neg h0]
    by_cases he:l[i].1=(l.getD (i - 1) (0,0)).1
    ·rw[if_pos (by rw[he]),if_neg (by rintro(h | h); exact h0 h; exact h he)]
    ·rw[if_neg (fun h=>he (Option.some.inj h).symm),if_pos (.inr he)]
theorem OH (o:List gL) (p:gL) (n:Nat) : Ke (o++[p]) n=o++[bump p n]:=by
 have e:(o++[p]).length - 1=o.length:=by simp
 unfold Ke
 rw[e,List.getD_eq_getElem?_getD,List.getElem?_append_right (Nat.le_refl _),List.set_append_right _ _ (Nat.le_refl _)]
 simp
theorem Sv (i:Int) : ∀ (xs:List Nat) (o:List gL) (p:gL) (rest:List ay),xZ (o++[p]) (some i) (xs.map (fun n=>(i,n))++rest)=xZ (o++[xs.foldl bump p]) (some i) rest
 | [],_,_,_=>rfl
 | x :: xs,o,p,rest=>by
   rw[List.map_cons,List.cons_append,xZ,if_pos rfl,OH,Sv i xs,List.foldl_cons]
theorem OM (i:Nat) : ∀ (k a:Nat),(List.range' (a + 1) k).foldl bump ((i,a),[])=((i,a + k),[])
 | 0,a=>rfl
 | k + 1,a=>by
   rw[List.range'_succ,List.foldl_cons,bump,if_pos ⟨rfl,rfl⟩,OM i k (a + 1)]
   congr 2; omega
theorem RP (q:Nat × Nat) : ∀ (xs ys:List Nat),ys≠[]→xs.foldl bump (q,ys)=(q,ys++xs)
 | [],ys,_=>by simp
 | x :: xs,ys,h=>by
   rw[List.foldl_cons,bump,if_neg (fun h'=>h h'.1),RP q xs _ (by simp),List.append_assoc]; rfl
theorem ad2 {i:Nat} {p:Pt} (h:pG p) : (nums p).foldl bump ((i,0),[])=((i,p.1),p.2):=by
 obtain⟨u,xs⟩:=p
 rw[nums,List.foldl_append,show(1:Nat)=0 + 1 from rfl,OM i u 0,Nat.zero_add]
 cases xs with
 | nil=>rfl
 | cons x xs =>
   have:=h.2.1 x (by simp)
   rw[List.foldl_cons,bump,if_neg (fun h'=>by simp only at h' this; omega),RP _ _ _ (by simp)]
   rfl
theorem Lb {ps:List Pt} (h:∀ p∈ps,pG p) : ∀ i:Nat,∃ p:Option Int,(∀ j,p=some j→j<i)∧∀ rest,xZ [] none (nU ps i++rest)=xZ (nO ps i) p rest
 | 0=>⟨none,by simp,fun rest=>rfl⟩
 | i + 1=>by
   obtain⟨p,hp,hr⟩:=Lb h i
   have hw:=zN h i
   by_cases he:0<(ps.getD i (0,[])).1∨0<(ps.getD i (0,[])).2.length
   ·refine⟨some (i:Int),fun j hj=>by have:=Option.some.inj hj; omega,fun rest=>?_⟩
    rw[nU,List.append_assoc,hr,nO,if_pos he,We]
    have hne:nums (ps.getD i (0,[]))≠[]:=by
     unfold nums
     intro h0
     obtain⟨q1,q2⟩:=List.append_eq_nil_iff.1 h0
     have q1:=congrArg List.length q1
     have q2:=congrArg List.length q2
     rw[List.length_range'] at q1
     simp only[List.length_nil] at q1 q2
     omega
    have hb:=ad2 (i:=i) hw
    generalize nums (ps.getD i (0,[]))=ns at *
    cases ns with
    | nil=>exact absurd rfl hne
    | cons n ns =>
      rw[List.map_cons,List.cons_append,xZ,if_neg (fun h'=>by have:=hp _ h'; omega),OH,Sv,← hb,List.foldl_cons,Int.toNat_natCast]
   ·refine⟨p,fun j hj=>by have:=hp j hj; omega,fun rest=>?_⟩
    rw[nU,List.append_assoc,hr,nO,if_neg he,List.append_nil]
    have e:We i (ps.getD i (0,[]))=[]:=by
     unfold We nums
     have h1:(ps.getD i (0,[])).1=0:=by omega
     have h2:(ps.getD i (0,[])).2=[]:=List.length_eq_zero_iff.1 (by omega)
     rw[h1,h2]; rfl
    rw[e,List.nil_append]
theorem WQ {ps:List Pt} (h:∀ p∈ps,pG p) : NT (nU ps 16)=parts ps:=by
 rw[← Ih (l:=nU ps 16) (nU ps 16).length 0 (by omega)]
 obtain⟨p,_,hr⟩:=Lb h 16
 have:=hr []
 rw[List.append_nil] at this
 simp only[lm,if_true,List.drop_zero]
 rw[this]; rfl
structure yV (ps:List Pt) (w:List ay) : Prop where
 len:ps.length=16
 wf:∀ p∈ps,pG p
 srt:Es w
 mem:∀ d,d∈w↔gz ps d=true
theorem yV.eq {ps:List Pt} {w:List ay} (h:yV ps w) : w=nU ps 16:=YW h.srt (PH h.wf 16) fun d=>by rw[h.mem,ac4 h.wf]
theorem yV.parts {ps:List Pt} {w:List ay} (h:yV ps w) : parts ps=NT w:=by rw[h.eq,WQ h.wf]
theorem yV.good {ps:List Pt} {w:List ay} (h:yV ps w) : ∀ d∈w,good d=true:=fun d hd=>by
 have:=(h.mem d).1 hd
 rw[gz,Bool.and_eq_true] at this
 exact this.1
theorem yV.empty:yV ik []:=by
 refine⟨rfl,UG,.nil,fun d=>?_⟩
 rw[gz,FB]
 simp[lc]
 intro _ h; omega
theorem acW {M:RM} {base T:Nat} {v:AV} {xs:List Nat} (h:Ow aX M base T v xs) (hn:0<xs.length) : ∃ b,v=vv b xs.length∧base≤b∧b<M.next∧M=PM M b T xs.toArray:=by
 obtain⟨b,h1,h2,h3,h4,h5⟩:=Own.En h hn
 refine⟨b,h1,h2,h3, ?_⟩
 unfold PM RM.put
 obtain⟨n,hp,lo⟩:=M
 simp only at h4 ⊢
 congr 1
 funext c
 by_cases hc:c=b
 ·subst hc; rw[if_pos rfl,h4]
 ·rw[if_neg hc]
theorem alq {M:RM} {b T base:Nat} {d:Array Nat} (h1:base≤b) (h2:b<M.next) : Ow aX (PM M b T d) base T (vv b d.size) d.toList:=by
 have:Own (PM M b T d) base T 1 (.slc b 0 d.size (.op 1)) (aX.row d.toList) d.size:=.op _ _ _ h1 h2 PM.heap (by rw[PM.ME]; omega)
 show Own (PM M b T d) base T 1 (.slc b 0 d.size (.op 1)) (aX.row d.toList) d.toList.length
 rw[Array.length_toList]; exact this
theorem Zc {M M' : RM} {b T:Nat} {d:Array Nat} (k:ag [] M M') : ag [b] M (PM M' b T d):=(k.mono (by simp)).put _ (.inr (by simp))
def kR (xs:List Nat) : List Nat:=(Sort.sort lN xs.toArray).toList
theorem acJ:kR []=[]:=by
 unfold kR Sort.sort
 rw[pdq_eq,if_pos (by simp),Sort.insertionSort,Sort.insOuter,if_neg (by simp)]
theorem OY (xs:List Nat) : (kR xs).Perm xs:=by
 have h:=(Sort.sort_sorts lN Vw xs.toArray).1
 have h2:=h.2.2
 rw[Array.extract_eq_self_of_le (by rw[h.1]; exact Nat.le_refl _),Array.extract_eq_self_of_le (Nat.le_refl _)] at h2
 exact h2
theorem Jg (xs:List Nat) : (kR xs).length=xs.length:=(OY xs).length_eq
theorem ae6 (xs:List Nat) : Up (kR xs):=by
 intro i j hi hj hij
 have h:=(Sort.sort_sorts lN Vw xs.toArray)
 have hs:(Sort.sort lN xs.toArray).size=xs.toArray.size:=h.1.1
 unfold kR at hi hj ⊢
 rw[Array.length_toList] at hi hj
 rcases Nat.lt_or_ge i j with h1 | h1
 ·have:=h.2 i j (Nat.zero_le _) h1 (by omega)
  rw[wW hj,wW hi] at this
  rw[Array.getElem_toList,Array.getElem_toList]
  have:=of_decide_eq_false this
  omega
 ·have:i=j:=by omega
  subst this; exact Nat.le_refl _
def Ua (c:au) : Prop:=∀ {M:RM} {v:AV} {Q:ak},Q (.tup []) M→c [v,N .i64 0,N .i64 ((0:Nat) : Int),N .i64 ((0:Nat) : Int)] M Q
def Uo (c:au) : Prop:=∀ {M:RM} {v:AV} {Q:ak},Q (.tup []) M→c [v,N .i64 0,N .i64 ((0:Nat) : Int)] M Q
theorem Yv {cl:au} : Uo fun args M Q=>∃ a0 a1 a2,args=[a0,a1,a2]∧fP cl a0 a1 a2 M Q:=by
 intro M v Q hQ
 refine⟨_,_,_,rfl, ?_⟩
 unfold fP
 rw[bS,show IntKind.i64.wrap ((0:Int) + 1)=1 from rfl]
 refine aQ (fun m ys M3=>m=0∧ys=[N .i64 1]∧M3=M) 0 ⟨rfl,rfl,rfl⟩ ?_
 rintro next m ys M3 hnext ⟨rfl,rfl,rfl⟩
 dsimp only[aa]
 rw[bZ,show decide ((1:Int)<((0:Nat) : Int))=false from rfl,bJ]
 exact hQ
theorem Yc {ci c2 c3 cc c4 cp c5 c6 c7 c8:au} (hi:Uo ci) : Ua fun args M Q=>∃ a0 a1 a2 a3,args=[a0,a1,a2,a3]∧iN ci c2 c3 cc c4 cp c5 c6 c7 c8 a0 a1 a2 a3 M Q:=by
 intro M v Q hQ
 refine⟨_,_,_,_,rfl, ?_⟩
 unfold iN
 refine aQ (fun m ys M3=>m=0∧ys=[N .i64 0,N .i64 ((0:Nat) : Int),N .i64 ((0:Nat) : Int),Bo true,Bo true]∧M3=M) 0 ⟨rfl,rfl,rfl⟩ ?_
 rintro next m ys M3 hnext ⟨rfl,rfl,rfl⟩
 dsimp only[aa]
 rw[jG,show IntKind.i64.wrap (((0:Nat) : Int) - 0)=0 from rfl,lF,show decide ((0:Int)≤12)=true from rfl,cO]
 exact hi hQ
theorem Z6 {T:Nat} {cl cp:au} (hl:IL cl) (hp:∀ m,ZO T m cp) (h0:Ua cp) : aci (fun xs=>xs.length≤60000) kR T fun args M Q=>∃ a0,args=[a0]∧yU cl cp a0 M Q:=by
 intro M base v xs Q ho hx hQ
 have hs:Sl aX M v xs:=ho.jm
 refine⟨_,rfl, ?_⟩
 unfold yU
 have hx:xs.length≤60000:=hx
 rw[aL.len hs,dY,dw (by omega) (by omega)]
 refine hl (by omega) ?_
 rcases Nat.eq_zero_or_pos xs.length with hn | hn
 ·rw[hn,show Sort.bitsLen 0=0 from rfl]
  refine h0 ?_
  have:=List.length_eq_zero_iff.1 hn
  subst this
  exact hQ M (by rw[acJ]; exact ho) (ag.refl _ _)
 ·obtain⟨b,rfl,h1,h2,h3⟩:=acW ho hn
  have hb:=EH hn (by omega)
  have hsz:xs.toArray.size=xs.length:=by simp
  have:=hp (xs.length + 1) (M:=M) (b:=b) (a:=0) (e:=xs.toArray.size) (limit:=Sort.bitsLen xs.length) (d:=xs.toArray) (Q:=fun bN M_0=>Q (.tup []) M_0) h2 (by omega) (by omega) (Nat.le_refl _) (by omega) (by omega) fun M' k=>?_
  ·rw[← h3] at this
   simpa using this
  ·have e:(Sort.pdq lN xs.toArray 0 xs.toArray.size (Sort.bitsLen xs.length) true true)=Sort.sort lN xs.toArray:=by rw[Sort.sort]; simp
   rw[e]
   refine hQ _ ?_ (Zc k)
   have hsz2:(Sort.sort lN xs.toArray).size=xs.length:=by
    have:=Jg xs
    unfold kR at this
    rw[Array.length_toList] at this; exact this
   have:=alq (M:=M') (T:=T) (d:=Sort.sort lN xs.toArray) h1 (Nat.lt_of_lt_of_le h2 k.next)
   rw[hsz2] at this
   exact this
def zg:Nat→List Nat→List Nat
 | _,[]=>[]
 | p,x :: xs=>if x=p then zg x xs else x :: zg x xs
def dd:List Nat→List Nat
 | []=>[]
 | x :: xs=>x :: zg x xs
theorem Ve:∀ (ys:List Nat) (p x:Nat),zg p (ys++[x])=if x=ys.getLastD p then zg p ys else zg p ys++[x]
 | [],p,x=>rfl
 | y :: ys,p,x=>by
   rw[List.cons_append,zg,zg,Ve ys y x,List.getLastD_cons]
   by_cases hy:y=p
   ·rw[if_pos hy,if_pos hy]
   ·rw[if_neg hy,if_neg hy]
    split
    ·rfl
    ·rfl
theorem RD:∀ (k:Nat) (ys:List Nat) (y:Nat) (h:k<(y :: ys).length),(ys.take k).getLastD y=(y :: ys)[k]
 | 0,ys,y,h=>rfl
 | k + 1,[],y,h=>by simp at h
 | k + 1,z :: zs,y,h=>by
   rw[List.take_succ_cons,List.getLastD_cons,RD k zs z (by simpa using h)]
   rfl
theorem YF {xs:List Nat} {m:Nat} (h1:1≤m) (h:m<xs.length) : dd (xs.take (m + 1))=if xs[m]=xs[m - 1] then dd (xs.take m) else dd (xs.take m)++[xs[m]]:=by
 rw[List.take_succ_eq_append_getElem h]
 cases xs with
 | nil=>simp at h
 | cons y ys =>
   obtain⟨k,rfl⟩ : ∃ k,m=k + 1:=⟨m - 1,by omega⟩
   have hk:k<(y :: ys).length:=by omega
   rw[List.take_succ_cons,List.cons_append,dd,dd,Ve,RD k ys y hk]
   simp only[Nat.add_sub_cancel]
   split <;> simp
theorem akZ:∀ (xs:List Nat),(dd xs).length≤xs.length
 | []=>Nat.le_refl _
 | x :: xs=>by
   have:∀ (p:Nat) (l:List Nat),(zg p l).length≤l.length:=by
    intro p l
    induction l generalizing p with
    | nil=>exact Nat.le_refl _
    | cons y l ih=>rw[zg]; split <;> simp <;> have:=ih y <;> omega
   rw[dd]; simp; exact this x xs
theorem aa2 {b o n k:Nat} (h:k≤n) (h0:0<n) : bY 1 (.slc b o n (.op 1)) none (some (N .i64 (k:Int))) none=some (.slc b o k (.op 1)):=by
 simp only[bY,bnd]
 simp[h]
 omega
theorem Te {T:Nat} : MF (fun xs=>xs.length≤60000) dd T fun args M Q=>∃ a0,args=[a0]∧uQ a0 M Q:=by
 intro M base v xs Q ho hx hQ
 have hx:xs.length≤60000:=hx
 have hs:Sl aX M v xs:=ho.jm
 refine⟨_,rfl, ?_⟩
 unfold uQ
 have hself:dd xs=xs→Q v M:=fun e=>hQ v M (by rw[e]; exact hs) (Own.eZ ho) (fun d hd=>hd) (ag.refl _ _)
 rw[aL.len hs,bZ]
 refine aJ (fun hg=>?_) (fun hg=>?_)
 ·have hg:xs.length<2:=by
   have:(xs.length:Int)<2:=of_decide_eq_true hg
   omega
  refine hself ?_
  match xs,hg with
  | [],_=>rfl
  | [x],_=>rfl
 have hg:2≤xs.length:=by
  have:¬ (xs.length:Int)<2:=of_decide_eq_false hg
  omega
 obtain⟨b,rfl,h1,h2,h3⟩:=acW ho (by omega)
 have hsz:xs.toArray.size=xs.length:=by simp
 have hat:∀ i (h:i<xs.length),xs.toArray[i]! = xs[i]:=fun i h=>by rw[wW (by simpa using h)]; simp
 clear hs
 have hself:=hself
 simp only[fo]
 refine aQ (fun m ys M3=>∃ i:Nat,m=xs.length - i∧ys=[N .i64 (i:Int)]∧1≤i∧i≤xs.length∧M3=PM M b T xs.toArray∧dd (xs.take i)=xs.take i) _ ⟨1,rfl,rfl,Nat.le_refl _,by omega,h3,by
  match xs,hg with
  | x :: y :: l,_=>rfl⟩ ?_
 rintro next m ys M3 hnext ⟨i,rfl,rfl,hi1,hi,rfl,hdd⟩
 dsimp only[aa]
 have aeT:∀ K:AV→Prop,dh (vv b xs.length) K=K (N .i64 (xs.length:Int)):=fun K=>by simp[oC]
 rw[aeT,iD]
 refine aJ (fun hlt=>?_) (fun hge=>?_)
 rotate_left
 ·have he:i=xs.length:=by
   have:¬ i<xs.length:=of_decide_eq_false hge
   omega
  subst he
  rw[List.take_length] at hdd
  rw[← h3]
  exact hself hdd
 have hlt:i<xs.length:=of_decide_eq_true hlt
 rw[PM.rd hsz.symm (by omega),dM (by omega) (by omega),PM.rd hsz.symm (by omega),hat i hlt,hat (i - 1) (by omega),bT]
 have hstep:=YF hi1 hlt
 by_cases heq:xs[i]=xs[i - 1]
 rotate_left
 ·rw[show(((xs[i] : Nat) : Int) == ((xs[i - 1]'(by omega) : Nat) : Int))=false by rw[beq_eq_false_iff_ne]; omega,bJ,add1 (by omega)]
  rw[if_neg heq,hdd] at hstep
  exact hnext _ _ _ (by omega) ⟨i + 1,rfl,rfl,by omega,hlt,rfl,by rw[hstep,← List.take_succ_eq_append_getElem hlt]⟩
 rw[show(((xs[i] : Nat) : Int) == ((xs[i - 1]'(by omega) : Nat) : Int))=true by rw[beq_iff_eq]; omega,cO]
 rw[if_pos heq,hdd] at hstep
 rw[rf hlt,dN]
 have as3:∀ K:AV→Prop,dh (.slc b (0 + i * 1) (xs.length - i) (.op 1)) K=K (N .i64 ((xs.length - i:Nat) : Int)):=fun K=>by simp[oC]
 have agA:∀ (j:Nat),j<xs.length - i→∀ (K:AV→Prop),aA (.slc b (0 + i * 1) (xs.length - i) (.op 1)) (N .i64 (j:Int)) 1 K=K (.ptr b (i + j)):=fun j hj K=>by
  rw[qo]
  simp only[Int.toNat_natCast]
  rw[show 0 + i * 1 + j * 1=i + j by omega]
  exact propext ⟨fun h=>h.2.2,fun h=>⟨by omega,by omega,h⟩⟩
 -- the rest: moved down
 refine aQ (fun m ys M5=>∃ (k j:Nat) (d:Array Nat),m=xs.length - j∧ys=[N .i64 (k:Int),N .i64 (j:Int)]∧1≤j∧i + j≤xs.length∧1≤k∧k + 1≤i + j∧M5=PM M b T d∧d.size=xs.length∧d.toList.take k=dd (xs.take (i + j))∧(∀ q (h:q<xs.length),i + j≤q + 1→d[q]! = xs[q])) _
  ⟨i,1,xs.toArray,rfl,rfl,by omega,by omega,by omega,by omega,rfl,hsz,by rw[hstep],fun q h _=>hat q h⟩ ?_
 rintro lD m ys M5 fI ⟨k,j,d,rfl,rfl,hj1,hij,hk1,hk,rfl,hds,hpre,hold⟩
 dsimp only[aa]
 rw[as3,iD]
 refine aJ (fun hlt2=>?_) (fun vZ=>?_)
 ·have hlt2:j<xs.length - i:=of_decide_eq_true hlt2
  have hij' : i + j<xs.length:=by omega
  refine di (fun zs M'=>∃ (k' : Nat) (d' : Array Nat),zs=[N .i64 (k' : Int)]∧1≤k'∧k'≤i + j∧M'=PM M b T d'∧d'.size=xs.length∧d'.toList.take k'=dd (xs.take (i + j + 1))∧(∀ q (h:q<xs.length),i + j≤q→d'[q]! = xs[q])) ?_ ?_
  ·rintro zs M' ⟨k',d',rfl,c1,c2,rfl,c3,c4,c5⟩
   dsimp only[aa]
   rw[add1 (by omega)]
   exact fI _ _ _ (by omega) ⟨k',j + 1,d',rfl,rfl,by omega,by omega,c1,by omega,rfl,c3,c4,fun q h hq=>c5 q h (by omega)⟩
  intro J hJ
  have ab3:=YF (xs:=xs) (m:=i + j) (by omega) hij'
  have ld:∀ q (h:q<xs.length) (K:AV→Prop),ai (PM M b T d) (.ptr b q) K=K (N .u64 ((d[q]! : Nat) : Int)):=fun q h K=>aj PM.heap (PM.cellAt (by omega))
  rw[agA j hlt2,ld _ hij',dM (by omega) (by omega),agA (j - 1) (by omega),ld _ (by omega),hold (i + j) hij' (by omega),hold (i + (j - 1)) (by omega) (by omega),fM]
  have hpe:xs[i + (j - 1)]'(by omega)=xs[i + j - 1]'(by omega):=by congr 1; omega
  rw[hpe]
  by_cases hne:xs[i + j]=xs[i + j - 1]'(by omega)
  ·rw[show(((xs[i + j] : Nat) : Int) != ((xs[i + j - 1]'(by omega) : Nat) : Int))=false by rw[hne]; simp,bJ]
   rw[if_pos hne] at ab3
   exact hJ _ _ ⟨k,d,rfl,hk1,by omega,rfl,hds,by rw[ab3]; exact hpre,fun q h hq=>hold q h (by omega)⟩
  ·rw[show(((xs[i + j] : Nat) : Int) != ((xs[i + j - 1]'(by omega) : Nat) : Int))=true by simp only[bne_iff_ne,ne_eq]; omega,cO]
   rw[if_neg hne] at ab3
   rw[agA j hlt2,ld _ hij',hold (i + j) hij' (by omega),PM.idx (by omega),PM.put (by omega),add1 (by omega)]
   refine hJ _ _ ⟨k + 1,_,rfl,by omega,by omega,rfl,by simpa using hds, ?_,fun q h hq=>?_⟩
   ·have hkl:k<d.toList.length:=by rw[Array.length_toList]; omega
    rw[ab3,← hpre,Array.toList_setIfInBounds,List.take_succ_eq_append_getElem (by rw[List.length_set]; exact hkl),List.getElem_set_self,List.take_set_of_le (Nat.le_refl _)]
   ·rw[← hold q h (by omega)]
    rw[wW (by rw[Array.size_setIfInBounds]; omega),wW (by omega),Array.getElem_setIfInBounds_ne (by omega) (by omega)]
 ·have hij' : i + j=xs.length:=by
   have:¬ j<xs.length - i:=of_decide_eq_false vZ
   omega
  rw[hij',List.take_length] at hpre
  have hst:(PM M b T d).stores b (0 + k * 1) (cZ [N .u64 0] (xs.length - k))=some ((PM M b T d).put b (.row ((aX.row d.toList).take (0 + k * 1)++cZ [N .u64 0] (xs.length - k)++(aX.row d.toList).drop (0 + k * 1 + (cZ [N .u64 0] (xs.length - k)).length)) true T 0)):=by
   refine RM.Gb PM.heap ?_ (Nat.zero_le _) (qZ _).2
   rw[(qZ _).1,PM.ME]; omega
  rw[rf (by omega),dN]
  refine .inl ⟨_,_,_,_,_,rfl,hst, ?_⟩
  dsimp only
  rw[aa2 (by omega) (by omega),dN]
  have hlk:(dd xs).length=k:=by rw[← hpre,List.length_take,Array.length_toList]; omega
  refine hQ _ _ ?_ (show(1:Nat)=1 from rfl) (fun e he=>by simpa [aG] using he) ?_
  ·have hrow:((aX.row d.toList).take (0 + k * 1))=aX.row (dd xs):=by
    rw[← hpre,show 0 + k * 1=k * aX.size by simp[aX],Enc.uA]
   show aL _ 1 (.slc b 0 k (.op 1)) (aX.row (dd xs)) (dd xs).length
   rw[hlk]
   refine .slc _ _ _ _ _ h2 ?_
   have hl:(aX.row (dd xs)).length=k:=by rw[Enc.fq,hlk]; simp[aX]
   rw[RM.dO (aN _) (by rw[hrow]; simp[hl]),List.drop_zero,hrow,Nat.mul_one,List.append_assoc,List.take_left' hl]
  ·refine ag.put ?_ _ (.inr (by simp[aG]))
   exact Zc (ag.refl _ _)
theorem ar7 {xs:List Nat} (h:Up xs) : xs.Pairwise (· ≤ ·):=List.pairwise_iff_getElem.2 fun i j hi hj hij=>h i j hi hj (Nat.le_of_lt hij)
theorem Sm:∀ (ys:List Nat) (p:Nat),(p :: ys).Pairwise (· ≤ ·)→Asc (zg p ys)∧(∀ x∈zg p ys,p<x)∧∀ x,x∈zg p ys↔x∈ys∧x≠p
 | [],p,_=>⟨.nil,by simp[zg],by simp[zg]⟩
 | y :: ys,p,h=>by
   have a1:=List.pairwise_cons.1 h
   have a2:=List.pairwise_cons.1 a1.2
   obtain⟨i1,i2,i3⟩:=Sm ys y a1.2
   have hpy:p≤y:=a1.1 y (by simp)
   rw[zg]
   by_cases hy:y=p
   ·rw[if_pos hy]
    subst hy
    refine⟨i1,i2,fun x=>?_⟩
    rw[i3,List.mem_cons]
    constructor
    ·rintro⟨h1,h2⟩; exact⟨.inr h1,h2⟩
    ·rintro⟨h1 | h1,h2⟩
     ·exact absurd h1 h2
     ·exact⟨h1,h2⟩
   ·rw[if_neg hy]
    refine⟨List.pairwise_cons.2 ⟨i2,i1⟩,fun x hx=>?_,fun x=>?_⟩
    ·rcases List.mem_cons.1 hx with rfl | hx
     ·omega
     ·have:=i2 x hx; omega
    ·rw[List.mem_cons,i3,List.mem_cons]
     constructor
     ·rintro(rfl | ⟨h1,h2⟩)
      ·exact⟨.inl rfl,hy⟩
      ·have:=a2.1 x h1
       exact⟨.inr h1,by omega⟩
     ·rintro⟨h1 | h1,h2⟩
      ·exact .inl h1
      ·by_cases hxy:x=y
       ·exact .inl hxy
       ·exact .inr ⟨h1,hxy⟩
theorem aey {ys:List Nat} (h:Up ys) : Asc (dd ys)∧∀ x,x∈dd ys↔x∈ys:=by
 have hp:=ar7 h
 cases ys with
 | nil=>exact⟨.nil,fun x=>Iff.rfl⟩
 | cons y ys =>
   obtain⟨i1,i2,i3⟩:=Sm ys y hp
   refine⟨List.pairwise_cons.2 ⟨i2,i1⟩,fun x=>?_⟩
   rw[dd,List.mem_cons,i3,List.mem_cons]
   constructor
   ·rintro(h | ⟨h,_⟩)
    ·exact .inl h
    ·exact .inr h
   ·rintro(h | h)
    ·exact .inl h
    ·by_cases hxy:x=y
     ·exact .inl hxy
     ·exact .inr ⟨h,hxy⟩
def jl (p q:Pt) : List Nat:=dd (kR (p.2++q.2))
theorem EY (p q:Pt) : Asc (jl p q)∧(∀ x,x∈jl p q↔x∈p.2∨x∈q.2)∧(jl p q).length≤p.2.length + q.2.length:=by
 obtain⟨h1,h2⟩:=aey (ae6 (p.2++q.2))
 refine⟨h1,fun x=>?_, ?_⟩
 ·unfold jl
  rw[h2,(OY _).mem_iff,List.mem_append]
 ·have:=akZ (kR (p.2++q.2))
  rw[Jg,List.length_append] at this
  exact this
theorem WN {p q:Pt} (hp:pG p) (hq:pG q) (hl:p.2.length + q.2.length≤4096) :
  pG (sW kR dd p q)∧(∀ x,lc (sW kR dd p q) x=true↔lc p x=true∨lc q x=true)∧(sW kR dd p q).2.length≤p.2.length + q.2.length:=by
 obtain⟨h1,h2,h3⟩:=EY p q
 have he:sW kR dd p q=settle (max p.1 q.1) (jl p q):=rfl
 rw[he]
 have hpos:∀ y∈jl p q,1≤y:=fun y hy=>by
  rcases(h2 y).1 hy with h | h
  ·have:=hp.2.1 y h; omega
  ·have:=hq.2.1 y h; omega
 have hle:∀ y∈jl p q,y≤1099511627776:=fun y hy=>by
  rcases(h2 y).1 hy with h | h
  ·exact hp.2.2.2.1 y h
  ·exact hq.2.2.2.1 y h
 have hm:max p.1 q.1≤1099511627776:=by have:=hp.2.2.1; have:=hq.2.2.1; omega
 obtain⟨s1,s2,s3,s4⟩:=Av (jl p q) (max p.1 q.1) 1099511627776 h1 hm hle
 have hsl:=Gc (max p.1 q.1) (jl p q)
 refine⟨⟨s1,s2,s3,fun x hx=>hle x (Pf hx),by omega⟩,fun x=>?_,by omega⟩
 rw[GI _ _ _ hpos,h2,qf,qf]
 constructor
 ·rintro(h | h | h)
  ·by_cases hx:x≤p.1
   ·exact .inl (.inl ⟨h.1,hx⟩)
   ·exact .inr (.inl ⟨h.1,by omega⟩)
  ·exact .inl (.inr h)
  ·exact .inr (.inr h)
 ·rintro((h | h) | (h | h))
  ·exact .inl ⟨h.1,by omega⟩
  ·exact .inr (.inl h)
  ·exact .inl ⟨h.1,by omega⟩
  ·exact .inr (.inr h)
def Gm (ps qs:List Pt) : List Pt:=sG kR dd ps qs 16
structure SI (k:Nat) (ps:List Pt) : Prop where
 len:ps.length=16
 wf:∀ p∈ps,pG p
 few:∀ p∈ps,p.2.length≤k
theorem SI.at {k:Nat} {ps:List Pt} (h:SI k ps) (i:Nat) : pG (ps.getD i (0,[]))∧(ps.getD i (0,[])).2.length≤k :=
 ⟨zN h.wf i,xK (R:=fun p=>p.2.length≤k) h.few (Nat.zero_le _) i⟩
theorem UC {ps qs:List Pt} {a c:Nat} (h1:SI a ps) (h2:SI c qs) {j:Nat} (hj:j<16) : (Gm ps qs).getD j (0,[])=sW kR dd (ps.getD j (0,[])) (qs.getD j (0,[])):=UM h1.len (Nat.le_refl _) hj
theorem afZ {ps qs:List Pt} {a c:Nat} (h1:SI a ps) (h2:SI c qs) (hk:a + c≤4096) : SI (a + c) (Gm ps qs):=by
 have hlen:(Gm ps qs).length=16:=by rw[Gm,JL,h1.len]
 have all:∀ p∈Gm ps qs,pG p∧p.2.length≤a + c:=fun p hp=>by
  obtain⟨i,hi,rfl⟩:=List.getElem_of_mem hp
  rw[hlen] at hi
  have e:=UC h1 h2 hi
  rw[zQ (by omega)] at e
  rw[e]
  obtain⟨w1,l1⟩:=h1.at i
  obtain⟨w2,l2⟩:=h2.at i
  obtain⟨r1,_,r3⟩:=WN w1 w2 (by omega)
  exact⟨r1,by omega⟩
 exact⟨hlen,fun p hp=>(all p hp).1,fun p hp=>(all p hp).2⟩
def EO (u v:List ay) : List ay:=v.foldl yZ u
theorem Y7 {x:ay} : ∀ {v u:List ay},x∈EO u v↔x∈u∨x∈v
 | [],u=>by simp[EO]
 | d :: v,u=>by
   have:EO u (d :: v)=EO (yZ u d) v:=rfl
   rw[this,Y7,ag3,List.mem_cons]
   constructor
   ·rintro((h | h) | h)
    ·exact .inr (.inl h)
    ·exact .inl h
    ·exact .inr (.inr h)
   ·rintro(h | h | h)
    ·exact .inl (.inr h)
    ·exact .inl (.inl h)
    ·exact .inr h
theorem YP:∀ {v u:List ay},Es u→Es (EO u v)
 | [],u,h=>h
 | d :: v,u,h=>by
   have:EO u (d :: v)=EO (yZ u d) v:=rfl
   rw[this]
   exact YP (X6 h)
theorem Zr:∀ {v u:List ay},(EO u v).length≤u.length + v.length
 | [],u=>by simp[EO]
 | d :: v,u=>by
   have:EO u (d :: v)=EO (yZ u d) v:=rfl
   rw[this,List.length_cons]
   have h1:=Zr (v:=v) (u:=yZ u d)
   have h2:=aeE u d
   omega
theorem yV.of {k:Nat} {ps:List Pt} {w:List ay} (h:SI k ps) (hs:Es w) (hm:∀ d,d∈w↔gz ps d=true) : yV ps w:=⟨h.len,h.wf,hs,hm⟩
def UT (T:Nat) (c:au) : Prop:=aat (fun xs=>xs.length≤60000) (fun xs=>xs.length≤60000) kR dd T c
theorem UT.use {T:Nat} {c:au} (h:UT T c) {M:RM} {a b:Nat} {ps qs:List Pt} {S S' : Nat→Prop} {k l:Nat} {Q:ak} (h1:iy T S M a ps) (h2:iy T S' M b qs) (he:a=b→ps=qs) (hn:¬ S' a) (i1:SI k ps) (i2:SI l qs) (hkl:k + l≤60000)
  (hQ:∀ M',iy T (fun e=>S e∨M.next≤e) M' a (Gm ps qs)→ag [a] M M'→Q (.tup []) M') : c [.ptr a 0,.ptr b 0] M Q:=by
 refine h h1 h2 he hn (fun i hi=>?_) (fun p hp=>?_) (fun p hp=>?_) (fun i hi=>?_) hQ
 ·have a1:=(i1.at i).2
  have a2:=(i2.at i).2
  show((ps.getD i (0,[])).2++(qs.getD i (0,[])).2).length≤60000∧(kR ((ps.getD i (0,[])).2++(qs.getD i (0,[])).2)).length≤60000
  rw[Jg,List.length_append]
  omega
 ·have:=(i1.wf p hp).2.2.1
  have:=i1.few p hp
  omega
 ·have:=(i2.wf p hp).2.2.1
  have:=i2.few p hp
  omega
 ·have a1:=i1.at i
  have a2:=i2.at i
  obtain⟨_,j2,j3⟩:=EY (ps.getD i (0,[])) (qs.getD i (0,[]))
  refine⟨by have:=j3; unfold jl at this; omega,fun x hx=>?_⟩
  rcases(j2 x).1 hx with h | h
  ·have:=a1.1.2.2.2.1 x h; omega
  ·have:=a2.1.2.2.2.1 x h; omega
end Go.Ab.ay
namespace Go.Ab.Crw
open Go Go.Ab Go.Ab.ay
def WJ (T:Nat) (c:au) : Prop:=∀ {M:RM} {b:Nat} {qs:List Pt} {S' : Nat→Prop} {k:Nat} {Q:ak},iy T S' M b qs→SI k qs→k≤4096 →
 (∀ a M',M.next≤a→iy T (fun e=>a<e) M' a qs→ag [] M M'→Q (.ptr a 0) M')→c [.ptr b 0] M Q
theorem Ya {q:Pt} (h:pG q) : sW kR dd (0,[]) q=q:=by
 have e:jl (0,[]) q=q.2:=Y6 (EY _ _).1 h.1 fun x=>by rw[(EY _ _).2.1]; simp
 show Go.Ab.ay.settle (max 0 q.1) (jl (0,[]) q)=q
 rw[e,Nat.zero_max]
 exact X5 h.2.1
theorem Ae:SI 0 ik:=⟨rfl,UG,fun p hp=>by
 rw[ik,List.mem_replicate] at hp
 rw[hp.2]; exact Nat.le_refl _⟩
theorem aab {T:Nat} {cn cj:au} (hn:aao T cn) (hj:UT T cj) : WJ T fun args M Q=>∃ a0,args=[a0]∧ay.Fu cn cj a0 M Q:=by
 intro M b qs S' k Q hB hi hk hQ
 refine⟨_,rfl, ?_⟩
 unfold ay.Fu
 have hB0:=hB.below
 refine hn fun M1 hA1 k1 n1=>?_
 have hB1:=hB0.keep k1 (by simp) (by simp)
 have hbl:=hB.lt
 refine hj.use hA1 hB1 (fun e=>by omega) (fun h=>by omega) Ae hi (by omega) fun M2 hA2 k2=>?_
 have e:Gm ik qs=qs:=atO (afZ Ae hi (by omega)).len hB.len fun j hj=>by
  rw[UC Ae hi hj,FB,Ya (hi.at j).1]
 rw[e] at hA2
 refine hQ M.next M2 (Nat.le_refl _) (hA2.mono (fun e h=>?_) (by omega)) (k1.bG k2 (by simp))
 rcases h with h | h
 ·exact h.elim
 ·omega
section
variable {α:Type} {E:Enc α}
theorem af9 {M:RM} {b T bytes:Nat} {zs:List AV} {u:AV} {xs ys:List α} {K:ak} (hb:b<M.next) (hh:M.heap b=some (.row (E.row xs) false T 0)) (hu:Sl E M u ys) (hx:1≤xs.length) (hs:1≤E.size)
  (hn:(xs.length + ys.length) * bytes≤140737488355328) (hn2:xs.length + ys.length≤140737488355328)
  (hK:∀ v' M',Sl E M' v' (xs++ys)→(∀ d∈aG v',d=b∨M.next≤d)→ag [] M M'→K v' M') : appW T E.size bytes zs false (.slc b 0 xs.length (.ex xs.length)) u M K:=by
 refine⟨ys.length,E.row ys,aL.nZ hu _, ?_,by omega, ?_⟩
 ·exact Nat.le_trans (Nat.mul_le_mul_right _ (Nat.le_add_left _ _)) hn
 have hlen:(E.row xs).length=xs.length * E.size:=E.fq xs
 have hld:M.loads b 0 (xs.length * E.size)=some (E.row xs):=by
  rw[RM.dO hh (by omega),List.drop_zero,← hlen,List.take_length]
 by_cases h0:ys.length=0
 ·have:ys=[]:=List.length_eq_zero_iff.1 h0
  subst this
  refine⟨.slc b 0 xs.length (.ex xs.length),M,by simp[pV],hK _ _ ?_ (by simp[aG]) (ag.refl _ _)⟩
  rw[List.append_nil]
  exact .slc _ _ _ _ _ hb hld
 ·refine⟨.slc M.next 0 (xs.length + ys.length) (.op E.size),M.push (.row (E.row xs++E.row ys) true T 0), ?_,hK _ _ ?_ (by simp[aG]) ((ag.refl _ _).push _)⟩
  ·have hone:(E.row xs++E.row ys).all oneCell=true:=by rw[List.all_append,E.qB,E.qB]; rfl
   simp only[pV,if_neg h0,if_neg (show ¬ xs.length + ys.length≤xs.length by omega),hld]
   rw[if_pos ⟨hn,by omega,hone⟩]
  ·have hl2:(E.row (xs++ys)).length=(xs.length + ys.length) * E.size:=by rw[E.fq,List.length_append]
   show aL _ E.size _ (E.row (xs++ys)) (xs++ys).length
   rw[List.length_append]
   refine .slc _ _ _ _ _ (by simp[RM.push]) ?_
   rw[← E.wG,RM.dO (RM.aT _) (by omega),List.drop_zero,← hl2,List.take_length]
end
structure tL (TS T:Nat) (B:Nat→Prop) (M:RM) (t:Nat) (ps:List Pt) (es:List aS) : Prop where
 lt:t<M.next
 row:∃ s v,M.heap t=some (.row [.ptr s 0,v] false TS 0)∧(∃ S:Nat→Prop,iy T S M s ps∧∀ d,S d→B d)∧Sl aK M v es∧B s∧∀ d∈aG v,B d
 nb:¬ B t
theorem tL.keep {TS T t:Nat} {B:Nat→Prop} {M M' : RM} {ps:List Pt} {es:List aS} {bs:List Nat} (h:tL TS T B M t ps es) (k:ag bs M M') (ht:t ∉ bs) (hb:∀ d∈bs,¬ B d) : tL TS T B M' t ps es:=by
 obtain⟨s,v,h1,⟨S,h2,h2'⟩,h3,h4,h5⟩:=h.row
 exact⟨Nat.lt_of_lt_of_le h.lt k.next,⟨s,v,k.aD h1 h.lt ht,⟨S,h2.keep k (fun hs=>hb s hs h4) (fun d hd hS=>hb d hd (h2' d hS)),h2'⟩,aL.keep h3 k (fun d hd hm=>hb d hm (h5 d hd)),h4,h5⟩,h.nb⟩
theorem tL.mono {TS T t:Nat} {B B' : Nat→Prop} {M:RM} {ps:List Pt} {es:List aS} (h:tL TS T B M t ps es) (hB:∀ d,B d→B' d) (hn:¬ B' t) : tL TS T B' M t ps es:=by
 obtain⟨s,v,h1,⟨S,h2,h2'⟩,h3,h4,h5⟩:=h.row
 exact⟨h.lt,⟨s,v,h1,⟨S,h2,fun d hd=>hB d (h2' d hd)⟩,h3,hB s h4,fun d hd=>hB d (h5 d hd)⟩,hn⟩
theorem tL.below {TS T t:Nat} {B:Nat→Prop} {M:RM} {ps:List Pt} {es:List aS} (h:tL TS T B M t ps es) : tL TS T (fun d=>B d∧d<M.next) M t ps es:=by
 obtain⟨s,v,h1,⟨S,h2,h2'⟩,h3,h4,h5⟩:=h.row
 exact⟨h.lt,⟨s,v,h1,⟨_,h2.below,fun d hd=>⟨h2' d hd.1,hd.2⟩⟩,h3,⟨h4,h2.lt⟩,fun d hd=>⟨h5 d hd,aL.lt h3 d hd⟩⟩,fun hh=>h.nb hh.1⟩
def VT (TS T:Nat) (c:au) : Prop:=∀ {M:RM} {Q:ak},(∀ t M',M.next≤t→tL TS T (fun d=>M.next≤d∧d<t) M' t ik []→ag [] M M'→Q (.ptr t 0) M')→c [] M Q
theorem abJ {TS T:Nat} {cn:au} (hn:aao T cn) : VT TS T fun args M Q=>args=[]∧aaa cn TS M Q:=by
 intro M Q hQ
 refine⟨rfl, ?_⟩
 unfold aaa
 refine hn fun M1 h1 k1 n1=>?_
 rw[eY]
 refine⟨[.ptr M.next 0,aZ],rfl, ?_⟩
 rw[dU rfl (by simp),bn]
 have k2:ag [] M1 (M1.push (.row [.ptr M.next 0,aZ] false TS 0)):=(ag.refl _ _).push _
 refine hQ _ _ (by omega) ⟨by simp[RM.push],⟨M.next,aZ,RM.aT _,⟨fun _=>False,h1.keep k2 (by simp) (by simp),fun d hd=>hd.elim⟩,.nil,⟨Nat.le_refl _,by omega⟩,by simp[aG]⟩,fun h=>by omega⟩ (k1.trans k2)
def nX (ps:List Pt) (ds:List ay) : List Pt:=ds.foldl (fun u d=>(ny u d).2) ps
theorem Yd {ps:List Pt} {ds:List ay} {i:Nat} (h:i<ds.length) : nX ps (ds.take (i + 1))=(ny (nX ps (ds.take i)) ds[i]).2:=by
 rw[List.take_succ_eq_append_getElem h,nX,List.foldl_append]; rfl
theorem YQ {k:Nat} {ps:List Pt} {d:ay} (h:SI k ps) : SI (k + 1) (ny ps d).2:=⟨by rw[agz,h.len],ajU h.wf,acE h.few⟩
theorem _root_.Go.Ab.ay.SI.mono {k l:Nat} {ps:List Pt} (h:SI k ps) (hl:k≤l) : SI l ps:=⟨h.len,h.wf,fun p hp=>Nat.le_trans (h.few p hp) hl⟩
theorem BZ {k:Nat} : ∀ {ds:List ay} {ps:List Pt},SI k ps→SI (k + ds.length) (nX ps ds)
 | [],ps,h=>h
 | d :: ds,ps,h=>by
   have:=BZ (ds:=ds) (YQ (d:=d) h)
   exact this.mono (by simp; omega)
def jW (e:gp) : aS:=(e.1,(e.2.2.1,(e.2.2.2.1,e.2.2.2.2)))
def lK (ps:List Pt) (es:List aS) (e:gp) (ks:List ay) : List aS :=
 (if decide (e.2.1=1) && !gz ps e.1 then rH qR (es++[jW e]) else es).filter fun x=>!decide (x.1∈ks)
def AJ (ps:List Pt) (e:gp) (ks:List ay) : List Pt:=nX ps (e.1 :: ks)
theorem Oy:∀ {ks:List ay} {d:ay} {p:Option ay},gJ d p ks=true→∀ k∈ks,good k=true
 | [],_,_,_,k,hk=>by simp at hk
 | x :: ks,d,p,h,k,hk=>by
   simp only[gJ,Bool.and_eq_true] at h
   rcases List.mem_cons.1 hk with rfl | hk
   ·exact h.1.1.1
   ·exact Oy h.2 k hk
theorem qY {e:gp} {ks:List ay} (h:bz e ks=true) : good e.1=true∧ks.length≤64∧(∀ k∈ks,good k=true)∧gJ e.1 none ks=true∧Bw e=true:=by
 simp only[bz,Bool.and_eq_true,decide_eq_true_eq] at h
 exact⟨h.1.1.1.1,h.1.1.2,Oy h.1.2,h.1.2,h.2⟩
theorem ad1 (e:gp) : wN [(N .i64 0),(N .u64 0),(St []),(St []),(St [])] [(0,2,.agg (aM e.1)),(2,1,St e.2.2.1),(3,1,St e.2.2.2.1),(4,1,St e.2.2.2.2)]=some (aK.cells (jW e)):=rfl
def XC (TS T:Nat) (c:au) : Prop:=∀ {M:RM} {t k:Nat} {B:Nat→Prop} {ps:List Pt} {es:List aS} {e:gp} {kv:AV} {ks:List ay} {Q:ak},tL TS T B M t ps es→SI k ps→k + 65≤4000→es.length≤50000→Sl dV M kv ks→t ∉ aG kv →
 (bz e ks=false→∀ M',ag [] M M'→Q (.tup [Bo false,N .i64 1]) M') →
 (bz e ks=true→∀ M',tL TS T (fun d=>B d∨M.next≤d) M' t (AJ ps e ks) (lK ps es e ks)→ag [t] M M'→Q (.tup [Bo (!zS (AJ ps e ks) ps || !decide (lK ps es e ks=es)),N .i64 0]) M')→c [.ptr t 0,.agg (aP e kv)] M Q
theorem aa9 {TS T TE TD TN nc nd:Nat} {cG cC cA cH cL cS cD cW cQ:au} {cv:FuncId→au} (hG:qy cG) (hC:WJ T cC) (hA:abV T cA) (hH:Tx T cH) (hL:QM TN cL) (hS:QC (.fn (.func nc) [] []) qR TN cS)
  (hD:∀ b e kv ks,ks.length≤1000000→LM TN (Ik TE b e kv ks) (fun x=>decide (x.1∈ks)) (.fn (.func nd) [] [.ptr b 0]) cD) (hW:Rm T cW) (hQ' : QX cQ) :
  XC TS T fun args M Q=>∃ a0 a1,args=[a0,a1]∧yY TE cG cC TD cA cH TN cL cS nc nd cD cW cQ a0 a1 M Q:=by
 intro M0 t k B ps es e kv ks Q hst hsi hk hes Wz htk hbad hok
 refine⟨_,_,rfl, ?_⟩
 unfold yY
 simp only[gQ,ig,fQ,gG,fo]
 rw[dU (oI Wz) (by simp),bn]
 have k0:ag [] M0 (M0.push (.row (aP e kv) false TE 0)):=(ag.refl _ _).push _
 have h0:(M0.push (.row (aP e kv) false TE 0)).heap M0.next=some (.row (aP e kv) false TE 0):=RM.aT _
 have hlt:M0.next<(M0.push (.row (aP e kv) false TE 0)).next:=by simp[RM.push]
 have hs:Sl dV (M0.push (.row (aP e kv) false TE 0)) kv ks:=aL.keep Wz k0 (by simp)
 have hkl:∀ d∈aG kv,d<M0.next:=aL.lt Wz
 have n0:=k0.next
 generalize M0.push (.row (aP e kv) false TE 0)=M at *
 generalize hb0:M0.next=b at *
 rw[bI (n:=7) h0 (by simp[EvE.len]; rfl)]
 refine hG hs fun M1 k1=>?_
 have k01:=k0.trans k1
 rw[aY]
 refine aJ (fun hg=>?_) (fun hg=>?_)
 ·exact hbad (by simpa using hg) M1 k01
 have hge:bz e ks=true:=by simpa using hg
 obtain⟨hgd,hkl64,hkg,_,_⟩:=qY hge
 have hok:=hok hge
 have n1:=k1.next
 obtain⟨s,v,r1,⟨S,r2,r2'⟩,r3,r4,r5⟩:=hst.row
 have htl:=hst.lt
 have e1:=k1.aD h0 hlt (by simp)
 have t1:=k01.aD r1 htl (by simp)
 have set1:=(r2.below).keep k01 (by simp) (by simp)
 have slt:=r2.lt
 rw[aI,aU,aj t1 rfl]
 -- the set is copied
 refine hC set1 hsi (by omega) fun s' M2 hs' set2 k2=>?_
 have n2:=k2.next
 have hs'lt:=set2.lt
 have e2:=k2.aD e1 (by omega) (by simp)
 have k02:=k01.trans k2
 rw[aU,xW e2,sI (x:=.agg (aM e.1)) (size:=2) rfl rfl rfl,bn]
 have k3:ag [] M2 (M2.push (.row (AV.agg (aM e.1)).cells false TD 0)):=(ag.refl _ _).push _
 have l3:(M2.push (.row (AV.agg (aM e.1)).cells false TD 0)).heap M2.next=some (.row (dV.row [e.1]) false TD 0):=by
  rw[RM.aT]; rfl
 have n3:M2.next<(M2.push (.row (AV.agg (aM e.1)).cells false TD 0)).next:=by simp[RM.push]
 have e3:=k3.aD e2 (by omega) (by simp)
 have U4:=set2.keep k3 (by simp) (by simp)
 have kv3:Sl dV (M2.push (.row (AV.agg (aM e.1)).cells false TD 0)) kv ks:=aL.keep Wz (k02.trans k3) (by simp)
 have k03:=k02.trans k3
 generalize M2.push (.row (AV.agg (aM e.1)).cells false TD 0)=M3 at *
 generalize hb2:M2.next=b2 at *
 rw[aU,aj e3 rfl]
 refine af9 (E:=dV) (xs:=[e.1]) (by omega) l3 kv3 (by simp) (by decide) (by simp; omega) (by simp; omega) fun dv M4 hdv hdb k4=>?_
 have hds:(e.1 :: ks).length≤65:=by simp; omega
 have k34:ag [] M3 M4:=k4
 have n4:=k4.next
 have e4:=k4.aD e3 (by omega) (by simp)
 have awd:=U4.keep k4 (by simp) (by simp)
 have k04:=k03.trans k4
 have hdv:Sl dV M4 dv (e.1 :: ks):=hdv
 have hdl:=aL.lt hdv
 have hdg:∀ d∈e.1 :: ks,good d=true:=fun d hd=>by
  rcases List.mem_cons.1 hd with rfl | hd
  ·exact hgd
  ·exact hkg d hd
 have aw9:s' ∉ aG dv:=fun hm=>by
  rcases hdb s' hm with h | h <;> omega
 generalize hds' : e.1 :: ks=ds at *
 rw[aL.len hdv]
 refine aQ (fun m ys M6=>∃ i:Nat,m=ds.length - i∧ys=[N .i64 (i:Int)]∧i≤ds.length∧ag [s'] M4 M6∧iy T (fun e=>s'<e) M6 s' (nX ps (ds.take i))) _ ⟨0,rfl,rfl,Nat.zero_le _,ag.refl _ _,awd⟩ ?_
 rintro next m ys M6 hnext ⟨i,rfl,rfl,hi,k6,UZ⟩
 dsimp only[aa]
 have awU:Sl dV M6 dv ds:=aL.keep hdv k6 (fun b hb hm=>by simp at hm; subst hm; exact aw9 hb)
 have si6:SI (k + (ds.take i).length) (nX ps (ds.take i)):=BZ hsi
 have hti:(ds.take i).length≤65:=by rw[List.length_take]; omega
 rw[iD]
 refine aJ (fun TY=>?_) (fun vZ=>?_)
 ·have TY:i<ds.length:=of_decide_eq_true TY
  rw[oW awU TY,bn,dB (n:=2) (x:=.agg (aM ds[i])) (l:=[N .i64 0,N .u64 0]) (RM.aT _) rfl rfl rfl]
  have k7:ag [] M6 ((M6.push (.row [N .i64 0,N .u64 0] false TD 0)).put M6.next (.row (AV.agg (aM ds[i])).cells false TD 0)):=((ag.refl _ _).push _).new _ (Nat.le_refl _)
  have hk7:((M6.push (.row [N .i64 0,N .u64 0] false TD 0)).put M6.next (.row (AV.agg (aM ds[i])).cells false TD 0)).heap M6.next=some (.row (aM ds[i]) false TD 0):=aN _
  generalize (M6.push (.row [N .i64 0,N .u64 0] false TD 0)).put M6.next (.row (AV.agg (aM ds[i])).cells false TD 0)=M7 at *
  rw[bI (n:=2) hk7 rfl]
  have avq:=UZ.keep k7 (by simp) (by simp)
  have n7:=k7.next
  have s6:=UZ.lt
  refine hA avq si6.wf fun M8 avA k8=>?_
  have hgood:=Sb (ps:=nX ps (ds.take i)) (d:=ds[i]) (fun p hp=>by have:=si6.few p hp; omega) (hdg _ (List.getElem_mem TY))
  have h10:(ny (nX ps (ds.take i)) ds[i]).1=0:=by rw[hgood]
  rw[h10,fM,show((0:Int) != 0)=false from rfl,bJ,add1 (by omega)]
  refine hnext _ _ _ (by omega) ⟨i + 1,rfl,rfl,by omega,(k6.trans (k7.mono (cs:=[s']) (by simp))).trans k8, ?_⟩
  rw[Yd TY]
  exact avA.mono (fun d hd=>by rcases hd with hd | hd <;> omega) (by omega)
 have hie:i=ds.length:=by
  have:¬ i<ds.length:=of_decide_eq_false vZ
  omega
 subst hie
 rw[List.take_length] at UZ si6
 clear hnext vZ
 have ave:nX ps ds=AJ ps e ks:=by rw[← hds']; rfl
 rw[ave] at UZ si6
 have si6:=si6.mono (l:=k + 65) (by omega)
 have n6:=k6.next
 have k06:ag [] M0 M6:=k04.bG k6 (fun d hd=>by simp at hd; omega)
 have e6:=k6.aD e4 (by omega) (by simp; omega)
 have t6:=k06.aD r1 htl (by simp)
 have v6:Sl aK M6 v es:=aL.keep r3 k06 (by simp)
 have aov:=(r2.below).keep k06 (by simp) (by simp)
 have kv6:Sl dV M6 kv ks:=aL.keep Wz k06 (by simp)
 rw[aI,aO,aj (i:=0 + 1) t6 rfl]
 have asx:=UZ.below
 refine di (fun zs M'=>∃ (w:AV) (es1:List aS),zs=[w]∧Sl aK M' w es1∧es1.length≤50001∧es1=(if decide (e.2.1=1) && !gz ps e.1 then rH qR (es++[jW e]) else es)∧ag [] M6 M') ?_ ?_
 ·rintro zs M9 ⟨w,es1,rfl,hw,hwl,avR,k9⟩
  dsimp only[aa]
  have n9:=k9.next
  refine hL hw (by omega) fun c M10 oc k10=>?_
  have n10:=k10.next
  have Rb:=k9.trans k10
  have k010:=k06.trans Rb
  have avX:Ik TE b e kv ks M10:=⟨by omega,Rb.aD e6 (by omega) (by simp),aL.keep kv6 Rb (by simp)⟩
  refine hD b e kv ks (by omega) avX (fun Ma Mb ks' hP kk hsub=>hP.keep kk (fun hm=>by have:=(oc.blk b (hsub b hm)).1; omega) (fun d hd hm=>by have:=hkl d hd; have:=(oc.blk d (hsub d hm)).1; omega)) oc (by omega) fun x M11 hx hxb k11=>?_
  have Fq:ag [] M6 M11:=Rb.bG k11 (fun d hd=>.inl (by have:=(oc.blk d hd).1; omega))
  have aw3:=k06.trans Fq
  have cB:=Fq.aD t6 (by omega) (by simp)
  have ail:=asx.keep Fq (by simp) (by simp)
  have asq:=aov.keep Fq (by simp) (by simp)
  have v11:Sl aK M11 v es:=aL.keep v6 Fq (by simp)
  rw[aI,aU,aj cB rfl]
  refine hW ail asq (fun p hp=>by have:=si6.few p hp; omega) (fun q hq=>⟨(hsi.wf q hq).1,by have:=hsi.few q hq; omega⟩) fun M12 k12=>?_
  have hxl:(es1.filter fun x=>!decide (x.1∈ks)).length≤es1.length:=List.length_filter_le _ _
  have t12:=k12.aD cB (by have:=Fq.next; omega) (by simp)
  have hfin:es1.filter (fun x=>!decide (x.1∈ks))=lK ps es e ks:=by rw[avR]; rfl
  rw[hfin] at hx hxl
  rw[aY]
  refine mE (p:=!decide (lK ps es e ks=es)) (fun _ k hk=>?_) ?_
  ·rw[aI,aO,aj (i:=0 + 1) t12 rfl]
   refine hQ' (aL.keep hx k12 (by simp)) (aL.keep v11 k12 (by simp)) (by omega) ?_
   rw[aY]
   exact hk
  have x12:Sl aK M12 x (lK ps es e ks):=aL.keep hx k12 (by simp)
  rw[aI,aU,gV t12 (by simp) rfl rfl,aI,aO]
  rw[gV (aN _) (by simp) (aL.cells x12) (aL.one x12)]
  have kk:ag [t] M12 ((M12.put t (.row ([AV.ptr s 0,v].set 0 (.ptr s' 0)) false TS 0)).put t (.row (([AV.ptr s 0,v].set 0 (.ptr s' 0)).set (0 + 1) x) false TS 0)):=((ag.refl _ _).put _ (.inr (by simp))).put _ (.inr (by simp))
  have hh:((M12.put t (.row ([AV.ptr s 0,v].set 0 (.ptr s' 0)) false TS 0)).put t (.row (([AV.ptr s 0,v].set 0 (.ptr s' 0)).set (0 + 1) x) false TS 0)).heap t=some (.row [.ptr s' 0,x] false TS 0):=aN _
  have hnx:((M12.put t (.row ([AV.ptr s 0,v].set 0 (.ptr s' 0)) false TS 0)).put t (.row (([AV.ptr s 0,v].set 0 (.ptr s' 0)).set (0 + 1) x) false TS 0)).next=M12.next:=rfl
  generalize (M12.put t (.row ([AV.ptr s 0,v].set 0 (.ptr s' 0)) false TS 0)).put t (.row (([AV.ptr s 0,v].set 0 (.ptr s' 0)).set (0 + 1) x) false TS 0)=M13 at *
  have n12:=k12.next
  have n611:=Fq.next
  refine hok M13 ⟨by omega,⟨s',x,hh,⟨fun d=>s'<d∧d<M6.next,(ail.keep k12 (by simp) (by simp)).keep kk (by simp; omega) (fun d hd h=>by simp at hd; omega),fun d hd=>.inr (by omega)⟩,aL.keep x12 kk (fun d hd hm=>?_),.inr (by omega),fun d hd=>.inr (by have:=(oc.blk d (hxb d hd)).1; omega)⟩,fun hB=>?_⟩ ((aw3.trans k12).mono (by simp) |>.trans kk)
  ·simp at hm
   subst hm
   have:=(oc.blk d (hxb d hd)).1
   omega
  ·rcases hB with hB | hB
   ·exact hst.nb hB
   ·omega
 intro J hJ
 have e2v:∀ {M' : RM},ag [] M6 M'→M'.heap b=some (.row (aP e kv) false TE 0):=fun k=>k.aD e6 (by omega) (by simp)
 have op1:((e.2.1:Int) == 1)=decide (e.2.1=1):=by by_cases h:e.2.1=1 <;> simp[h]
 rw[aU,aj e6 rfl,bT,op1]
 refine Dk (P:=fun M'=>ag [] M6 M') (p:=!gz ps e.1) (ag.refl _ _) (fun _ k hk=>?_) fun M7 k7=>?_
 ·rw[aI,aU,aj t6 rfl,aU,xW e6]
  refine hH aov (fun q hq=>⟨(hsi.wf q hq).1,by have:=hsi.few q hq; omega⟩) fun M7 k7=>?_
  rw[aY]
  exact hk M7 k7
 refine aJ (fun hc=>?_) (fun hc=>?_)
 ·have e7:=e2v k7
  rw[aU,xW e7,aU,aj e7 rfl,aU,aj e7 rfl,aU,aj e7 rfl,eY]
  refine⟨_,ad1 e, ?_⟩
  rw[sI (x:=.agg (aK.cells (jW e))) (size:=5) rfl rfl rfl,pF]
  have k8:ag [] M7 (M7.push (.row (AV.agg (aK.cells (jW e))).cells false TN 0)):=(ag.refl _ _).push _
  have h8:(M7.push (.row (AV.agg (aK.cells (jW e))).cells false TN 0)).heap M7.next=some (.row (aK.cells (jW e)) false TN 0):=RM.aT _
  have n8:M7.next<(M7.push (.row (AV.agg (aK.cells (jW e))).cells false TN 0)).next:=by simp[RM.push]
  generalize M7.push (.row (AV.agg (aK.cells (jW e))).cells false TN 0)=M8 at *
  generalize hb7:M7.next=b7 at *
  have k68:=k7.trans k8
  refine hL (aL.keep v6 k68 (by simp)) (by omega) fun c M9 oc k9=>?_
  have k69:=k68.trans k9
  have e9:=e2v k69
  have n9:=k9.next
  rw[xW e9]
  refine⟨rfl, ?_⟩
  rw[aj e9 rfl]
  refine⟨rfl, ?_⟩
  rw[aj e9 rfl]
  refine⟨rfl, ?_⟩
  rw[aj e9 rfl]
  refine⟨rfl, ?_⟩
  rw[sI (x:=.agg (aK.cells (jW e))) (size:=5) rfl rfl rfl,abz]
  have h9:=k9.aD h8 n8 (by simp)
  refine⟨⟨h9,rfl⟩, ?_⟩
  have slx:Sl aK M9 (.slc b7 0 1 (.ex 1)) [jW e]:=by
   refine .slc _ _ _ _ _ (by omega) ?_
   rw[RM.dO h9 (by rw[aK.len]; decide),List.drop_zero,Enc.row_one]
   have:(aK.cells (jW e)).length=1 * aK.size:=by rw[aK.len,Nat.one_mul]
   rw[← this,List.take_length]
  refine Qw (E:=aK) oc n9 (by decide) slx (by simp; omega) (by simp; omega) fun c2 M10 oc2 k10 n10 _=>?_
  have Rb:ag [] M6 M10:=k69.bG k10 (fun d hd=>.inl (by have:=(oc.blk d hd).1; have:=k68.next; omega))
  refine hS oc2 (by simp; omega) fun M11 oc3 k11=>?_
  have Fq:ag [] M6 M11:=Rb.bG k11 (fun d hd=>.inl (by have:=(oc2.blk d hd).1; have:=k68.next; omega))
  have hsl:(rH qR (es++[jW e])).length=(es++[jW e]).length:=(su rT _).length_eq
  exact hJ _ _ ⟨c2,_,rfl,oc3.jm,by rw[hsl]; simp; omega,by rw[if_pos hc],Fq⟩
 ·exact hJ _ _ ⟨v,es,rfl,aL.keep v6 k7 (by simp),by omega,by rw[if_neg (by rw[hc]; decide)],k7⟩
abbrev Ev:=gp × List ay
def vo:qP Ev:=qP.pre EvE (dV.Bg.slice)
theorem TQ {M:RM} {v:AV} {l:List Ev} {S:Nat→Prop} (h:iZ vo M v l S) {i:Nat} (hi:i<l.length) :
  ∃ b o kv,(∀ (kd:IntKind) (K:AV→Prop),aA v (N kd (i:Int)) 7 K=K (.ptr b o))∧(∀ K:AV→Prop,aF M (.ptr b o) 7 K=K (.agg (aP l[i].1 kv)))∧(∀ K:AV→Prop,aF M (.ptr b o) 2 K=K (.agg (aM l[i].1.1)))∧Sl dV M kv l[i].2∧∀ d∈aG kv,S d:=by
 obtain⟨b,o,cs,_,_,hidx,hld,ds,hcs,kv,hds,hkv⟩:=h.at (i:=i) 7 (i:Int) hi rfl rfl
 subst hds
 subst hcs
 refine⟨b,o,kv,hidx,fun K=>?_,fun K=>?_,iZ.sl hkv, ?_⟩
 ·rw[kV,hld]
  simp
 ·have e2:(aP l[i].1 kv).take 2=aM l[i].1.1:=rfl
  rw[kV,aaI hld 2 (by decide),e2]
  simp
 ·obtain⟨_,_,h2,_⟩:=hkv
  exact h2
theorem acB {M:RM} {e:gp} {kv:AV} {ks:List ay} {S:Nat→Prop} (h:Sl dV M kv ks) (hS:∀ d∈aG kv,S d) : vo.rel M (aP e kv) (e,ks) S:=⟨[kv],rfl,kv,rfl,iZ.aib h hS⟩
def oL (out:List Ev) (x:Ev) : List Ev:=if !(!bz x.1 x.2 || out.any fun y=>decide (y.1.1=x.1.1)) then out++[x] else out
def j5 (l:List Ev) : List Ev:=l.foldl oL []
theorem Si {l:List Ev} {i:Nat} (h:i<l.length) : j5 (l.take (i + 1))=oL (j5 (l.take i)) l[i]:=by
 rw[List.take_succ_eq_append_getElem h,j5,List.foldl_append]; rfl
theorem XO (out:List Ev) (x:Ev) : (oL out x).length≤out.length + 1:=by
 unfold oL; split <;> simp
theorem Fv (l:List Ev) : ∀ i,(j5 (l.take i)).length≤i
 | 0=>Nat.le_refl _
 | i + 1=>by
   by_cases h:i<l.length
   ·rw[Si h]
    have:=Fv l i
    have:=XO (j5 (l.take i)) l[i]
    omega
   ·rw[List.take_of_length_le (by omega)]
    have:=Fv l i
    rw[List.take_of_length_le (by omega)] at this
    omega
theorem RY:∀ (l:List Ev) (out:List Ev),(∀ x∈out,bz x.1 x.2=true)→∀ x∈l.foldl oL out,bz x.1 x.2=true
 | [],out,h=>h
 | y :: l,out,h=>RY l (oL out y) fun x hx=>by
   unfold oL at hx
   split at hx
   ·rename_i hc
    rcases List.mem_append.1 hx with hx | hx
    ·exact h x hx
    ·simp only[List.mem_singleton] at hx
     subst hx
     simp only[Bool.not_eq_true',Bool.or_eq_false_iff,Bool.not_eq_false'] at hc
     exact hc.1
   ·exact h x hx
def afR (TE:Nat) (c:au) : Prop:=∀ {M:RM} {v:AV} {l:List Ev} {Q:ak},iZ vo M v l (fun d=>d<M.next)→l.length≤10000 →
 (∀ v' M',iZ vo M' v' (j5 l) (fun d=>d<M'.next)→ag [] M M'→Q v' M')→c [v] M Q
theorem aew {TE:Nat} {cG:au} (hG:qy cG) : afR TE fun args M Q=>∃ a0,args=[a0]∧abo TE cG a0 M Q:=by
 intro M v l Q hv hl hQ
 refine⟨_,rfl, ?_⟩
 unfold abo
 simp only[gQ,ig,fQ,fo]
 refine⟨_,_,_,_,rfl,rfl,by decide,by decide,by decide,by decide, ?_⟩
 dsimp only
 rw[bn]
 have kM:ag [] M (M.push (.row (cZ [(N .i64 0),(N .u64 0),(N .i64 0),(St []),(St []),(St []),(.sc (.slice none 0 0))] 0) false TE 0)):=(ag.refl _ _).push _
 have oM:lM vo (M.push (.row (cZ [(N .i64 0),(N .u64 0),(N .i64 0),(St []),(St []),(St []),(.sc (.slice none 0 0))] 0) false TE 0)) M.next TE (.slc M.next 0 0 (.ex 0)) [] (fun d=>d<M.next):=⟨[],Own.lit M (Nat.le_refl _),.nil⟩
 refine aQ (fun m ys M3=>∃ (i:Nat) (w:AV),m=l.length - i∧ys=[w,N .i64 (i:Int)]∧i≤l.length∧ag [] M M3∧lM vo M3 M.next TE w (j5 (l.take i)) (fun d=>d<M.next)) _ ⟨0,_,rfl,rfl,Nat.zero_le _,kM,oM⟩ ?_
 rintro next m ys M3 hnext ⟨i,w,rfl,rfl,hi,k3,ow⟩
 dsimp only[aa]
 have hv3:iZ vo M3 v l (fun d=>d<M.next):=hv.keep k3 (by simp)
 have n3:=k3.next
 rw[hv3.len,iD]
 refine aJ (fun hlt=>?_) (fun hge=>?_)
 ·have hlt:i<l.length:=of_decide_eq_true hlt
  refine di (fun zs M'=>∃ w',zs=[w']∧ag [] M M'∧lM vo M' M.next TE w' (j5 (l.take (i + 1))) (fun d=>d<M.next)) ?_ ?_
  ·rintro zs M' ⟨w',rfl,k',o'⟩
   dsimp only[aa]
   rw[add1 (by omega)]
   exact hnext _ _ _ (by omega) ⟨i + 1,w',rfl,rfl,by omega,k',o'⟩
  intro J hJ
  rw[Si hlt] at hJ
  have hol:=Fv l i
  obtain⟨b,o,kv,hidx,hl7,hl2,hkv,hkb⟩:=TQ hv3 hlt
  rw[hidx,hl7]
  refine hG hkv fun M4 k4=>?_
  rw[aY]
  have ow4:=ow.keep k4 (by simp) (by simp)
  generalize j5 (l.take i)=out at *
  have k34:=k3.trans k4
  have n4:=k34.next
  have hv4:iZ vo M4 v l (fun d=>d<M.next):=hv.keep k34 (by simp)
  have owS:iZ vo M4 w out (fun d=>d<M4.next):=(ow4.mono (fun d hd=>by omega)).slD (fun d _ h=>h)
  obtain⟨b4,o4,kv4,aiD,auY,aws,apy,awx⟩:=TQ hv4 hlt
  refine aQ (fun m ys M5=>∃ j:Nat,m=out.length - j∧ys=[Bo (!bz l[i].1 l[i].2 || (out.take j).any fun y=>decide (y.1.1=l[i].1.1)),N .i64 (j:Int)]∧j≤out.length∧M5=M4) _ ⟨0,rfl,by simp,Nat.zero_le _,rfl⟩ ?_
  rintro lD m ys M5 fI ⟨j,rfl,rfl,hj,rfl⟩
  dsimp only[aa]
  rw[owS.len,iD]
  refine aJ (fun hlt2=>?_) (fun vZ=>?_)
  ·have hlt2:j<out.length:=of_decide_eq_true hlt2
   obtain⟨b5,o5,kv5,arY,hl75,avZ,_,_⟩:=TQ owS hlt2
   refine orP (P:=fun M'=>M'=M5) (p:=decide (out[j].1.1=l[i].1.1)) rfl (fun _ k hk=>?_) fun M' hM'=>?_
   ·rw[arY,aO,Nat.add_zero,avZ,aiD,aO,Nat.add_zero,aws,qX rfl rfl (Bl _ _),Bool.bne_false]
    exact hk M5 rfl
   subst hM'
   rw[add1 (by omega)]
   refine fI _ _ _ (by omega) ⟨j + 1,rfl, ?_,by omega,rfl⟩
   rw[List.take_succ_eq_append_getElem hlt2,List.any_append,List.any_cons,List.any_nil,Bool.or_false,Bool.or_assoc]
  ·have hje:j=out.length:=by
    have:¬ j<out.length:=of_decide_eq_false vZ
    omega
   subst hje
   rw[List.take_length,aY]
   refine aJ (fun hc=>?_) (fun hc=>?_)
   ·rw[aiD,auY,sI (x:=.agg (aP l[i].1 kv4)) (size:=7) rfl (oI apy) rfl,bn]
    have hd:=ow4.blk
    refine lM.app (R:=vo) ow4 (acB apy awx) (by omega) (by decide) (fun d hd' h=>by have:=(hd d hd').1; omega) (fun d h=>by omega) (by omega) (by omega) ?_
    intro w' M6 o6 k6 n6 _ _
    refine hJ _ _ ⟨w',rfl,k34.bG k6 (fun d hd'=>.inl (hd d hd').1), ?_⟩
    rw[oL,if_pos hc]
    exact o6
   ·refine hJ _ _ ⟨w,rfl,k34, ?_⟩
    rw[oL,if_neg (by rw[hc]; decide)]
    exact ow4
 ·have he:i=l.length:=by
   have:¬ i<l.length:=of_decide_eq_false hge
   omega
  subst he
  rw[List.take_length] at ow
  exact hQ w M3 ((ow.mono (fun d hd=>by omega)).slD (fun d _ h=>h)) k3
theorem acH {k:Nat} {ps:List Pt} {d e:ay} (h:SI k ps) (hk:k<4096) (hg:good d=true) : gz (ny ps d).2 e=true↔gz ps e=true∨e=d:=by
 have hl:∀ p∈ps,p.2.length<4096:=fun p hp=>by have:=h.few p hp; omega
 rw[gz,gz,Bool.and_eq_true,Bool.and_eq_true,agT h.len h.wf hl hg]
 constructor
 ·rintro⟨h1,h2 | ⟨h2,h3⟩⟩
  ·exact .inl ⟨h1,h2⟩
  ·refine .inr (Prod.ext ?_ h3)
   have:=(uH h1).1
   have:=(uH hg).1
   omega
 ·rintro(⟨h1,h2⟩ | rfl)
  ·exact⟨h1,.inl h2⟩
  ·exact⟨hg,.inr ⟨rfl,rfl⟩⟩
theorem Lf {e:ay} : ∀ {ds:List ay} {ps:List Pt} {k:Nat},SI k ps→k + ds.length<4096→(∀ d∈ds,good d=true)→(gz (nX ps ds) e=true↔gz ps e=true∨e∈ds)
 | [],ps,k,h,hk,hg=>by simp[nX]
 | d :: ds,ps,k,h,hk,hg=>by
   have:nX ps (d :: ds)=nX (ny ps d).2 ds:=rfl
   rw[this,Lf (YQ h) (by simp at hk; omega) (fun x hx=>hg x (by simp[hx])),acH h (by simp at hk; omega) (hg d (by simp)),List.mem_cons]
   constructor
   ·rintro((h | h) | h)
    ·exact .inl h
    ·exact .inr (.inl h)
    ·exact .inr (.inr h)
   ·rintro(h | h | h)
    ·exact .inl (.inl h)
    ·exact .inl (.inr h)
    ·exact .inr h
theorem ab5 (ps:List Pt) (es:List aS) (e:gp) (ks:List ay) : (lK ps es e ks).length≤es.length + 1:=by
 unfold lK
 refine Nat.le_trans (List.length_filter_le _ _) ?_
 split
 ·rw[(su rT _).length_eq]; simp
 ·omega
structure ayg (i:Nat) (ps:List Pt) (es:List aS) (dead:List ay) : Prop where
 si:SI (65 * i) ps
 few:es.length≤i
 dl:dead.length≤64 * i
 seen:∀ d∈dead,gz ps d=true
 gone:∀ x∈es,x.1 ∉ dead
def YK (xs:List aS) : Prop:=xs.Pairwise fun x y=>qR y x=false
theorem YK.at {xs:List aS} (h:YK xs) {i j:Nat} (hij:i≤j) (hj:j<xs.length) : qR xs[j] (xs[i]'(by omega))=false:=by
 rcases Nat.lt_or_ge i j with h1 | h1
 ·exact(List.pairwise_iff_getElem.1 h) i j (by omega) hj h1
 ·have:i=j:=by omega
  subst this
  exact rT.irrefl _
theorem Tu {M:RM} {c p:Bool} {f:ak→Prop} {P:RM→Prop} {G:AV→RM→Prop} (h0:P M) (hf:c=true→∀ k:ak,(∀ M',P M'→k (Bo p) M')→f k) (hG:∀ M',P M'→G (Bo (c && p)) M') :
  af (Bo c) true f (fun k=>k .undef M) (fun t M'=>aH (Bo c) t (Bo false) fun u=>G u M'):=by
 cases c with
 | false=>rw[bC]; dsimp only; rw[bK]; exact hG M h0
 | true=>rw[bU]; exact hf rfl _ fun M' h=>by rw[cK]; exact hG M' h
abbrev pR:=List Pt × List aS
def tT (s:pR) (x:Ev) : pR:=if bz x.1 x.2 then(AJ s.1 x.1 x.2,lK s.1 s.2 x.1 x.2) else s
def jP (l:List Ev) : pR:=l.foldl tT (ik,[])
theorem Sg (l:List Ev) (x:Ev) : jP (l++[x])=tT (jP l) x:=by rw[jP,List.foldl_append]; rfl
structure Lh (i:Nat) (s:pR) : Prop where
 si:SI (65 * i) s.1
 few:s.2.length≤i
 up:YK s.2
theorem RA {ps:List Pt} {es:List aS} {e:gp} {ks:List ay} (h:YK es) : YK (lK ps es e ks):=by
 unfold lK
 refine List.Pairwise.filter _ ?_
 split
 ·exact afV rT _
 ·exact h
theorem Lh.step {i:Nat} {s:pR} (h:Lh i s) (x:Ev) : Lh (i + 1) (tT s x):=by
 unfold tT
 split
 ·rename_i hg
  obtain⟨_,g2,_,_,_⟩:=qY hg
  refine⟨(BZ h.si).mono (by simp; omega), ?_,RA h.up⟩
  have:=ab5 s.1 s.2 x.1 x.2
  have:=h.few
  show(lK s.1 s.2 x.1 x.2).length≤i + 1
  omega
 ·exact⟨h.si.mono (by omega),by have:=h.few; omega,h.up⟩
theorem Lh.empty:Lh 0 (ik,[]):=⟨Ae,Nat.le_refl _,.nil⟩
theorem adN:∀ (l:List Ev),Lh l.length (jP l):=fun l=>by
 suffices h:∀ (l:List Ev) (i:Nat) (s:pR),Lh i s→Lh (i + l.length) (l.foldl tT s) by
  have:=h l 0 _ Lh.empty
  rwa [Nat.zero_add] at this
 intro l
 induction l with
 | nil=>intro i s h; exact h
 | cons x l ih =>
   intro i s h
   have:=ih (i + 1) (tT s x) (h.step x)
   rwa [show i + 1 + l.length=i + (x :: l).length by simp; omega] at this
def wJ (n m:Nat) (back:Bool) (i:Nat) : Nat:=if back then n - 1 - (i + m) % n else(i + m) % n
theorem vC {n m i:Nat} {back:Bool} (h:i<n) : wJ n m back i<n:=by
 have:=Nat.mod_lt (i + m) (show 0<n by omega)
 unfold wJ; split <;> omega
def ja (l:List Ev) (m:Nat) (back:Bool) : List Ev:=(List.range l.length).map fun i=>l.getD (wJ l.length m back i) (((0,0),(0,([],([],[])))),[])
theorem q8 (l:List Ev) (m:Nat) (back:Bool) : (ja l m back).length=l.length:=by simp[ja]
theorem Ep {l:List Ev} {m:Nat} {back:Bool} {i:Nat} (h:i<l.length) : (ja l m back)[i]'(by rw[q8]; exact h)=l[wJ l.length m back i]'(vC h):=by
 simp only[ja,List.getElem_map,List.getElem_range]
 rw[List.getD_eq_getElem?_getD,List.getElem?_eq_getElem (vC h)]; rfl
theorem acR {l:List Ev} {m:Nat} {back:Bool} {i:Nat} (h:i<l.length) : jP ((ja l m back).take (i + 1))=tT (jP ((ja l m back).take i)) (l[wJ l.length m back i]'(vC h)):=by
 rw[List.take_succ_eq_append_getElem (by rw[q8]; exact h),Sg,Ep h]
def NV (TS T:Nat) (c:au) : Prop:=∀ {M:RM} {v:AV} {l:List Ev} {n:Int} {m:Nat} {back:Bool} {Q:ak},iZ vo M v l (fun d=>d<M.next)→l.length≤60→QE .i64 n 1023=(m:Int)→m≤1023 →
 (∀ t M',M.next≤t→tL TS T (fun d=>M.next≤d∧d<M'.next∧d≠t) M' t (jP (ja l m back)).1 (jP (ja l m back)).2→ag [] M M'→Q (.ptr t 0) M')→c [v,N .i64 n,Bo back] M Q
theorem Z8 {TS T:Nat} {cn cA:au} (hn:VT TS T cn) (hA:XC TS T cA) : NV TS T fun args M Q=>∃ a0 a1 a2,args=[a0,a1,a2]∧QO cn cA a0 a1 a2 M Q:=by
 intro M v l n m back Q hv hl hm hm2 hQ
 refine⟨_,_,_,rfl, ?_⟩
 unfold QO
 simp only[gQ,ig,fQ,gG,fo]
 refine hn fun t M1 ht st1 k1=>?_
 refine aQ (fun z ys M3=>∃ i:Nat,z=l.length - i∧ys=[N .i64 (i:Int)]∧i≤l.length∧ag [] M M3∧tL TS T (fun d=>M.next≤d∧d<M3.next∧d≠t) M3 t (jP ((ja l m back).take i)).1 (jP ((ja l m back).take i)).2) _
  ⟨0,rfl,rfl,Nat.zero_le _,k1,(st1.mono (B':=fun d=>M.next≤d∧d≠t) (fun d hd=>⟨hd.1,by omega⟩) (fun h=>h.2 rfl)).below.mono (fun d hd=>⟨hd.1.1,hd.2,hd.1.2⟩) (fun h=>h.2.2 rfl)⟩ ?_
 rintro next z ys M3 hnext ⟨i,rfl,rfl,hi,k3,st3⟩
 dsimp only[aa]
 have hv3:iZ vo M3 v l (fun d=>d<M.next):=hv.keep k3 (by simp)
 rw[hv3.len,iD]
 refine aJ (fun hlt=>?_) (fun hge=>?_)
 ·have hlt:i<l.length:=of_decide_eq_true hlt
  have n3:=k3.next
  refine di (fun zs M'=>zs=[]∧ag [] M M'∧tL TS T (fun d=>M.next≤d∧d<M'.next∧d≠t) M' t (jP ((ja l m back).take (i + 1))).1 (jP ((ja l m back).take (i + 1))).2) ?_ ?_
  ·rintro zs M' ⟨rfl,k',st'⟩
   rw[add1 (by omega)]
   exact hnext _ _ _ (by omega) ⟨i + 1,rfl,rfl,by omega,k',st'⟩
  intro J hJ
  rw[E8,hm,addN (by omega),hv3.len,Nq]
  refine⟨by omega, ?_⟩
  rw[show(((i + m:Nat) : Int)).tmod (l.length:Int)=(((i + m) % l.length:Nat) : Int) by rw[Int.tmod_eq_emod_of_nonneg (by omega)]; rfl]
  have hj:(i + m) % l.length<l.length:=Nat.mod_lt _ (by omega)
  have hI:Lh i (jP ((ja l m back).take i)):=by
   have:=adN ((ja l m back).take i)
   rwa [List.length_take,q8,Nat.min_eq_left hi] at this
  have htk:=acR (m:=m) (back:=back) hlt
  have hil:=vC (n:=l.length) (m:=m) (i:=i) (back:=back) hlt
  refine di (fun zs M'=>zs=[N .i64 ((wJ l.length m back i:Nat) : Int)]∧M'=M3) ?_ ?_
  ·rintro zs M' ⟨rfl,rfl⟩
   dsimp only[aa]
   rw[htk] at hJ
   clear htk
   generalize jP ((ja l m back).take i)=s at *
   obtain⟨b,o,kv,hidx,hl7,_,hkv,hkb⟩:=TQ hv3 hil
   rw[hidx,hl7]
   generalize l[wJ l.length m back i]'hil=x at *
   have hne:t ∉ aG kv:=fun h=>by have:=hkb t h; omega
   refine hA st3 hI.si (by omega) (by have:=hI.few; omega) hkv hne (fun hb M4 k4=>?_) (fun hg M4 st4 k4=>?_)
   ·refine hJ [] M4 ⟨rfl,k3.trans k4, ?_⟩
    unfold tT
    rw[if_neg (by rw[hb]; decide)]
    have n4:=k4.next
    exact(st3.keep k4 (by simp) (by simp)).mono (fun d hd=>⟨hd.1,by omega,hd.2.2⟩) (fun h=>h.2.2 rfl)
   ·refine hJ [] M4 ⟨rfl,k3.bG k4 (fun d hd=>by simp at hd; omega), ?_⟩
    unfold tT
    rw[if_pos hg]
    have lt3:=st3.lt
    have n4:=k4.next
    refine(st4.below.mono (B':=fun d=>M.next≤d∧d<M4.next∧d≠t) (fun d hd=>?_) (fun h=>h.2.2 rfl))
    obtain⟨h | h,h'⟩:=hd
    ·exact⟨h.1,h',h.2.2⟩
    ·exact⟨by omega,h',by omega⟩
  ·intro J2 hJ2
   cases back with
   | true =>
     rw[cO,hv3.len,dM (by omega) (by omega),iJ (by omega) (by omega)]
     exact hJ2 _ _ ⟨rfl,rfl⟩
   | false =>
     rw[bJ]
     exact hJ2 _ _ ⟨rfl,rfl⟩
 ·have he:i=l.length:=by
   have:¬ i<l.length:=of_decide_eq_false hge
   omega
  subst he
  rw[List.take_of_length_le (by rw[q8]; exact Nat.le_refl _)] at st3
  exact hQ t M3 ht st3 k3
theorem Qd (x:aS) : (aK.cells x).all oneCell=true:=rfl
theorem yK {α:Type} [DecidableEq α] : ∀ {xs ys:List α},xs.Nodup→(∀ x∈xs,x∈ys)→xs.length≤ys.length
 | [],_,_,_=>Nat.zero_le _
 | x :: xs,ys,hn,hs=>by
   have hx:x∈ys:=hs x (by simp)
   rw[List.nodup_cons] at hn
   have:=yK (xs:=xs) (ys:=ys.erase x) hn.2 fun y hy=>(List.mem_erase_of_ne (by rintro rfl; exact hn.1 hy)).2 (hs y (by simp[hy]))
   rw[List.length_erase_of_mem hx] at this
   have h0:0<ys.length:=List.length_pos_of_mem hx
   simp
   omega
theorem agQ {k:Nat} {ps:List Pt} (h:SI k ps) {j x:Nat} (hj:j<16) (hx:x∈(ps.getD j (0,[])).2) : gz ps ((j:Int),x)=true:=by
 have w:=(h.at j).1
 have h1:=w.2.1 x hx
 have h2:=w.2.2.2.1 x hx
 rw[gz,Bool.and_eq_true]
 refine⟨?_, ?_⟩
 ·simp only[good,Bool.and_eq_true,decide_eq_true_eq]
  omega
 ·rw[qf]
  exact .inr (by simpa using hx)
def jR (l:List Ev) : List ay:=l.flatMap fun x=>x.1.1 :: x.2
theorem abm {k:Nat} {ps:List Pt} {e:gp} {ks:List ay} (h:SI k ps) (hk:k + 65<4096) (hg:bz e ks=true) (d:ay) : gz (AJ ps e ks) d=true↔gz ps d=true∨d∈e.1 :: ks:=by
 obtain⟨g1,g2,g3,_,_⟩:=qY hg
 refine Lf h (by simp; omega) fun d hd=>?_
 rcases List.mem_cons.1 hd with rfl | hd
 ·exact g1
 ·exact g3 d hd
structure StU (s:pR) : Prop where
 seen:∀ x∈s.2,gz s.1 x.1=true
 one:s.2.Pairwise fun x y=>x.1≠y.1
structure StB (a t:pR) : Prop where
 ER:∀ x∈t.2,gz a.1 x.1=true→x∈a.2
 sets:∀ d,gz a.1 d=true→gz t.1 d=true
theorem StU.empty:StU (ik,[]):=⟨by simp,.nil⟩
theorem adk (d:ay) : gz ik d=false:=by
 rw[gz,FB]
 cases good d with
 | false=>rfl
 | true =>
   simp only[Bool.true_and]
   unfold lc
   simp
   omega
theorem Yx (l:List Ev) : (j5 l).length≤l.length:=by
 have:=Fv l l.length
 rwa [List.take_length] at this
theorem Vs:∀ {l:List Ev},(∀ x∈l,bz x.1 x.2=true)→(jR l).length≤65 * l.length
 | [],_=>by simp[jR]
 | x :: l,h=>by
   have e:jR (x :: l)=(x.1.1 :: x.2)++jR l:=by simp[jR]
   have:=Vs (l:=l) fun y hy=>h y (by simp[hy])
   obtain⟨_,g2,_,_,_⟩:=qY (h x (by simp))
   rw[e,List.length_append,List.length_cons,List.length_cons]
   omega
def Live (l:List Ev) (x:aS) : Prop:=∃ e∈l,e.1.2.1=1∧jW e.1=x∧∀ f∈l,e.1.1 ∉ f.2
def NA (l:List Ev) : Prop:=∀ x∈l,∀ y∈l,x.1.1=y.1.1→x=y
structure Ch (l:List Ev) (s:pR) : Prop where
 ER:∀ x,x∈s.2↔Live l x
 sets:∀ d,gz s.1 d=true↔d∈jR l
 up:YK s.2
 one:s.2.Pairwise fun x y=>x.1≠y.1
 si:∃ k,SI k s.1
theorem z8 {l:List Ev} {d:ay} : d∈jR l↔∃ e∈l,d=e.1.1∨d∈e.2:=by
 unfold jR
 rw[List.mem_flatMap]
 constructor
 ·rintro⟨e,he,h⟩
  exact⟨e,he,List.mem_cons.1 h⟩
 ·rintro⟨e,he,h⟩
  exact⟨e,he,List.mem_cons.2 h⟩
theorem Live.mem {l m:List Ev} {x:aS} (h:Live l x) (hm:∀ e,e∈l↔e∈m) : Live m x:=by
 obtain⟨e,he,h1,h2,h3⟩:=h
 exact⟨e,(hm e).1 he,h1,h2,fun f hf=>h3 f ((hm f).2 hf)⟩
theorem Ch.mem {l m:List Ev} {s:pR} (h:Ch l s) (hm:∀ e,e∈l↔e∈m) : Ch m s where
 ER x:=(h.ER x).trans ⟨fun h=>h.mem hm,fun h=>h.mem fun e=>(hm e).symm⟩
 sets d:=by
  rw[h.sets,z8,z8]
  exact⟨fun⟨e,he,h⟩=>⟨e,(hm e).1 he,h⟩,fun⟨e,he,h⟩=>⟨e,(hm e).2 he,h⟩⟩
 up:=h.up
 one:=h.one
 si:=h.si
theorem Ch.stU {l:List Ev} {s:pR} (h:Ch l s) : StU s:=⟨fun x hx=>by
 obtain⟨e,he,_,rfl,_⟩:=(h.ER x).1 hx
 exact(h.sets _).2 (z8.2 ⟨e,he,.inl rfl⟩),h.one⟩
theorem _root_.Go.Ab.ay.SI.tight {k:Nat} {ps:List Pt} {D:List ay} (h:SI k ps) (hd:∀ d,gz ps d=true→d∈D) : SI D.length ps:=by
 refine⟨h.len,h.wf,fun p hp=>?_⟩
 obtain⟨i,hi,rfl⟩:=List.getElem_of_mem hp
 have Wd:i<16:=by rw[← h.len]; exact hi
 have hw:=(h.wf _ hp).1
 have hn:((ps[i].2).map fun x=>(((i:Int),x) : ay)).Nodup:=by
  rw[List.Nodup,List.pairwise_map]
  exact List.Pairwise.imp (fun {a b} (h:a<b) e=>by cases e; omega) hw
 have:=yK hn (ys:=D) fun d hd'=>by
  obtain⟨x,hx,rfl⟩:=List.mem_map.1 hd'
  refine hd _ (agQ h Wd ?_)
  rw[zQ hi]
  exact hx
 rwa [List.length_map] at this
theorem Ch.siD {l:List Ev} {s:pR} {D:List ay} (h:Ch l s) (hD:∀ d∈jR l,d∈D) : SI D.length s.1:=by
 obtain⟨k,hk⟩:=h.si
 exact hk.tight fun d hd=>hD d ((h.sets d).1 hd)
theorem Ch.len {l m:List Ev} {s:pR} (h:Ch l s) (hm:∀ e∈l,e∈m) : s.2.length≤m.length:=by
 have hn:(s.2.map fun x=>x.1).Nodup:=by
  rw[List.Nodup,List.pairwise_map]
  exact h.one
 have:=yK hn (ys:=m.map fun e=>e.1.1) fun d hd=>by
  obtain⟨x,hx,rfl⟩:=List.mem_map.1 hd
  obtain⟨e,he,_,rfl,_⟩:=(h.ER x).1 hx
  exact List.mem_map.2 ⟨e,hm e he,rfl⟩
 rwa [List.length_map,List.length_map] at this
theorem abN {ps:List Pt} {es:List aS} {e:gp} {ks:List ay} {x:aS} : x∈lK ps es e ks↔x.1 ∉ ks∧(x∈es∨(e.2.1=1∧gz ps e.1=false∧x=jW e)):=by
 unfold lK
 rw[List.mem_filter]
 constructor
 ·rintro⟨h1,h2⟩
  refine⟨by simpa using h2, ?_⟩
  split at h1
  ·rename_i hc
   simp only[Bool.and_eq_true,Bool.not_eq_true',decide_eq_true_eq] at hc
   rw[(su rT _).mem_iff,List.mem_append,List.mem_singleton] at h1
   rcases h1 with h1 | h1
   ·exact .inl h1
   ·exact .inr ⟨hc.1,hc.2,h1⟩
  ·exact .inl h1
 ·rintro⟨h1,h2⟩
  refine⟨?_,by simpa using h1⟩
  split
  ·rw[(su rT _).mem_iff,List.mem_append,List.mem_singleton]
   rcases h2 with h2 | ⟨_,_,h2⟩
   ·exact .inl h2
   ·exact .inr h2
  ·rename_i hc
   rcases h2 with h2 | ⟨h3,h4,_⟩
   ·exact h2
   ·exact absurd (by rw[h3,h4]; rfl) hc
theorem Ch.step {l:List Ev} {s:pR} {x:Ev} {k:Nat} (h:Ch l s) (hk:SI k s.1) (hk2:k + 65<4096) (hg:bz x.1 x.2=true) (hf:∀ e∈l,e.1.1≠x.1.1) : Ch (l++[x]) (tT s x):=by
 have hU:=h.stU
 have e1:tT s x=(AJ s.1 x.1 x.2,lK s.1 s.2 x.1 x.2):=by unfold tT; rw[if_pos hg]
 have hm:=abm hk hk2 hg
 rw[e1]
 refine⟨fun y=>?_,fun d=>?_,RA h.up, ?_,⟨_,BZ hk⟩⟩
 ·rw[abN,h.ER]
  constructor
  ·rintro⟨hy,⟨e,he,h1,rfl,h3⟩ | ⟨h1,h2,rfl⟩⟩
   ·refine⟨e,by simp[he],h1,rfl,fun f hf'=>?_⟩
    rcases List.mem_append.1 hf' with hf' | hf'
    ·exact h3 f hf'
    ·rw[List.mem_singleton] at hf'
     subst hf'
     exact hy
   ·refine⟨x,by simp,h1,rfl,fun f hf'=>?_⟩
    rcases List.mem_append.1 hf' with hf' | hf'
    ·intro hk'
     rw[(h.sets x.1.1).2 (z8.2 ⟨f,hf',.inr hk'⟩)] at h2
     cases h2
    ·rw[List.mem_singleton] at hf'
     subst hf'
     exact hy
  ·rintro⟨e,he,h1,rfl,h3⟩
   refine⟨h3 x (by simp), ?_⟩
   rcases List.mem_append.1 he with he | he
   ·exact .inl ⟨e,he,h1,rfl,fun f hf'=>h3 f (by simp[hf'])⟩
   ·rw[List.mem_singleton] at he
    subst he
    refine .inr ⟨h1, ?_,rfl⟩
    cases hs:gz s.1 e.1.1 with
    | false=>rfl
    | true =>
      obtain⟨f,hf',hd⟩:=z8.1 ((h.sets _).1 hs)
      rcases hd with hd | hd
      ·exact absurd hd.symm (hf f hf')
      ·exact absurd hd (h3 f (by simp[hf']))
 ·show gz (AJ s.1 x.1 x.2) d=true↔_
  rw[hm,h.sets]
  have:jR (l++[x])=jR l++(x.1.1 :: x.2):=by simp[jR]
  rw[this,List.mem_append]
 ·show(lK s.1 s.2 x.1 x.2).Pairwise _
  unfold lK
  refine List.Pairwise.filter _ ?_
  split
  ·rename_i hc
   simp only[Bool.and_eq_true,Bool.not_eq_true',decide_eq_true_eq] at hc
   refine(su rT _).symm.pairwise ?_ (fun {a b} hab e=>hab e.symm)
   rw[List.pairwise_append]
   refine⟨h.one,by simp,fun a ha b hb e=>?_⟩
   simp only[List.mem_singleton] at hb
   subst hb
   have:=hU.seen a ha
   rw[e,show(jW x.1).1=x.1.1 from rfl,hc.2] at this
   cases this
  ·exact h.one
theorem Ch.empty:Ch [] (ik,[]):=⟨fun x=>by simp[Live],fun d=>by rw[adk]; simp[jR],.nil,.nil,⟨0,Ae⟩⟩
theorem Ch.run {l:List Ev} (hg:∀ x∈l,bz x.1 x.2=true) (hd:l.Pairwise fun x y=>x.1.1≠y.1.1) (hl:l.length≤60) : Ch l (jP l):=by
 suffices h:∀ n,n≤l.length→Ch (l.take n) (jP (l.take n)) by
  have:=h l.length (Nat.le_refl _)
  rwa [List.take_length] at this
 intro n
 induction n with
 | zero=>intro _; exact Ch.empty
 | succ n ih =>
   intro hn
   have h0:=ih (by omega)
   have e:l.take (n + 1)=l.take n++[l[n]]:=List.take_succ_eq_append_getElem (by omega)
   rw[e,Sg]
   have hI:=adN (l.take n)
   rw[List.length_take,Nat.min_eq_left (by omega)] at hI
   refine h0.step hI.si (by omega) (hg _ (List.getElem_mem _)) fun y hy=>?_
   obtain⟨i,hi,rfl⟩:=List.getElem_of_mem hy
   rw[List.length_take] at hi
   rw[List.getElem_take]
   exact(List.pairwise_iff_getElem.1 hd) i n (by omega) (by omega) (by omega)
theorem afS (l:List Ev) : (j5 l).Pairwise fun x y=>x.1.1≠y.1.1:=by
 suffices h:∀ (l out:List Ev),(out.Pairwise fun x y=>x.1.1≠y.1.1)→(l.foldl oL out).Pairwise fun x y=>x.1.1≠y.1.1 from h l [] .nil
 intro l
 induction l with
 | nil=>intro out h; exact h
 | cons x l ih =>
   intro out h
   refine ih _ ?_
   unfold oL
   split
   ·rename_i hc
    simp only[Bool.not_eq_true',Bool.or_eq_false_iff,Bool.not_eq_false'] at hc
    rw[List.pairwise_append]
    refine⟨h,by simp,fun a ha b hb e=>?_⟩
    simp only[List.mem_singleton] at hb
    subst hb
    have:=List.any_eq_false.1 hc.2 a ha
    exact this (decide_eq_true e)
   ·exact h
theorem Ye {l:List Ev} (h:l.Pairwise fun x y=>x.1.1≠y.1.1) : NA l:=fun x hx y hy e=>by
 obtain⟨i,hi,rfl⟩:=List.getElem_of_mem hx
 obtain⟨j,hj,rfl⟩:=List.getElem_of_mem hy
 have hp:=List.pairwise_iff_getElem.1 h
 rcases Nat.lt_trichotomy i j with h | h | h
 ·exact absurd e (hp i j hi hj h)
 ·subst h; rfl
 ·exact absurd e.symm (hp j i hj hi h)
theorem NA.sub {l m:List Ev} (h:NA m) (hs:∀ e∈l,e∈m) : NA l:=fun x hx y hy e=>h x (hs x hx) y (hs y hy) e
def ofP (s:List UInt8) (x:aS) : Bool:=(s != []) && (x.2.2.1 != s)
abbrev ic:gp:=((0,0),(0,([],([],[]))))
def setOf (d:ay) (c f a:List UInt8) : gp:=(d,(1,(c,(f,a))))
def QV (es:List aS) (c f:List UInt8) : List aS:=(es.filter fun x=>x.2.1 == c).filter fun x=>!ofP f x
def xH (es:List aS) (c f:List UInt8) : List ay:=ahH ltD ((QV es c f).map fun x=>x.1)
theorem Lj {es:List aS} {c f:List UInt8} (hf:f≠[]) {x:aS} : x∈QV es c f↔x∈es∧x.2.1=c∧x.2.2.1=f:=by
 unfold QV ofP
 rw[List.mem_filter,List.mem_filter]
 have h1:(f != [])=true:=by simpa using hf
 rw[h1,Bool.true_and]
 constructor
 ·rintro⟨⟨h,h2⟩,h3⟩
  exact⟨h,by simpa using h2,by simpa using h3⟩
 ·rintro⟨h,h2,h3⟩
  exact⟨⟨h,by simpa using h2⟩,by simpa using h3⟩
theorem Li {es:List aS} {c f:List UInt8} (hf:f≠[]) {d:ay} : d∈xH es c f↔∃ x∈es,x.2.1=c∧x.2.2.1=f∧x.1=d:=by
 unfold xH
 rw[(abq aj5 _).mem_iff,List.mem_map]
 constructor
 ·rintro⟨x,hx,rfl⟩
  obtain⟨h1,h2,h3⟩:=(Lj hf).1 hx
  exact⟨x,h1,h2,h3,rfl⟩
 ·rintro⟨x,h1,h2,h3,rfl⟩
  exact⟨x,(Lj hf).2 ⟨h1,h2,h3⟩,rfl⟩
theorem ajO {w:List Ev} {s:pR} (h:Ch w s) {x:aS} (hx:x∈s.2) : ∃ e∈w,e.1.1=x.1:=by
 obtain⟨e,he,_,rfl,_⟩:=(h.ER x).1 hx
 exact⟨e,he,rfl⟩
structure Apart (w:List Ev) (s:pR) (c f a b cc:List UInt8) : Prop where
 ch:Ch w s
 good:∀ e∈w,bz e.1 e.2=true
 one:w.Pairwise fun x y=>x.1.1≠y.1.1
 len:w.length≤30
 dev:∀ e∈w,e.1.1.1<12∧∀ k∈e.2,k.1<12
 hf:f≠[]
 gx:bz (setOf (12,1) c f a) (xH s.2 c f)=true
 gy:bz (setOf (13,1) c f b) (xH s.2 c f)=true
 hc:cc.length≤512
section
variable {w:List Ev} {s:pR} {c f a b cc:List UInt8}
def Zw (s:pR) (c f a:List UInt8) : Ev:=(setOf (12,1) c f a,xH s.2 c f)
def evY (s:pR) (c f b:List UInt8) : Ev:=(setOf (13,1) c f b,xH s.2 c f)
def evZ (c f cc:List UInt8) : Ev:=(setOf (14,1) c f cc,[(12,1),(13,1)])
def agx (w:List Ev) (s:pR) (c f a b cc:List UInt8) : List Ev:=w++[Zw s c f a,evY s c f b,evZ c f cc]
theorem Apart.ne (h:Apart w s c f a b cc) : ∀ e∈w,e.1.1≠((12,1) : ay)∧e.1.1≠((13,1) : ay)∧e.1.1≠((14,1) : ay):=fun e he=>by
 have:=(h.dev e he).1
 refine⟨fun h=>?_,fun h=>?_,fun h=>?_⟩ <;> rw[h] at this <;> simp at this
theorem Apart.ap3 (h:Apart w s c f a b cc) : (agx w s c f a b cc).Pairwise fun x y=>x.1.1≠y.1.1:=by
 unfold agx
 rw[List.pairwise_append]
 refine⟨h.one, ?_,fun e he y hy=>?_⟩
 ·simp[Zw,evY,evZ,setOf]
 ·have:=h.ne e he
  simp only[List.mem_cons,List.not_mem_nil,or_false] at hy
  rcases hy with rfl | rfl | rfl
  ·exact this.1
  ·exact this.2.1
  ·exact this.2.2
theorem Apart.cons (h:Apart w s c f a b cc) {l:List Ev} (hs:∀ e∈l,e∈agx w s c f a b cc) : NA l:=(Ye h.ap3).sub hs
theorem Apart.avT (h:Apart w s c f a b cc) : ∀ d∈xH s.2 c f,d.1<12:=fun d hd=>by
 obtain⟨x,hx,_,_,rfl⟩:=(Li h.hf).1 hd
 obtain⟨e,he,hd⟩:=ajO h.ch hx
 rw[← hd]
 exact(h.dev e he).1
theorem Apart.two (h:Apart w s c f a b cc) {l:List Ev} (hm:∀ e,e∈l↔e∈w∨e=Zw s c f a∨e=evY s c f b) (t:aS) : (Live l t∧t.2.1=c∧t.2.2.1=f)↔t=jW (Zw s c f a).1∨t=jW (evY s c f b).1:=by
 have hk:=h.avT
 have nk:∀ e,e∈l→∀ n:Int,12≤n→((n,1) : ay) ∉ e.2:=fun e he n hn hd=>by
  rcases(hm e).1 he with he | rfl | rfl
  ·have:=(h.dev e he).2 _ hd
   simp at this; omega
  ·have:=hk _ hd
   simp at this; omega
  ·have:=hk _ hd
   simp at this; omega
 constructor
 ·rintro⟨⟨e,he,h1,rfl,h3⟩,h4,h5⟩
  rcases(hm e).1 he with he' | rfl | rfl
  ·have hmem:jW e.1∈s.2:=(h.ch.ER _).2 ⟨e,he',h1,rfl,fun g hg=>h3 g ((hm g).2 (.inl hg))⟩
   exact absurd ((Li h.hf).2 ⟨_,hmem,h4,h5,rfl⟩) (h3 (Zw s c f a) ((hm _).2 (.inr (.inl rfl))))
  ·exact .inl rfl
  ·exact .inr rfl
 ·rintro(rfl | rfl)
  ·exact⟨⟨Zw s c f a,(hm _).2 (.inr (.inl rfl)),rfl,rfl,fun g hg=>nk g hg 12 (by decide)⟩,rfl,rfl⟩
  ·exact⟨⟨evY s c f b,(hm _).2 (.inr (.inr rfl)),rfl,rfl,fun g hg=>nk g hg 13 (by decide)⟩,rfl,rfl⟩
end
structure SH (TS T:Nat) (M:RM) (t:Nat) (B:Nat→Prop) (s:pR) : Prop where
 st:tL TS T B M t s.1 s.2
 lo:∀ d,B d→d<M.next
def Off (t:Nat) (B:Nat→Prop) (x:Nat) : Prop:=x≠t∧¬ B x
def Sep (t:Nat) (B:Nat→Prop) (u:Nat) (C:Nat→Prop) : Prop:=Off t B u∧Off u C t∧∀ d,B d→¬ C d
theorem SH.of {TS T t:Nat} {M:RM} {B:Nat→Prop} {ps:List Pt} {es:List aS} (h:tL TS T B M t ps es) : SH TS T M t (fun d=>B d∧d<M.next) (ps,es):=⟨h.below,fun d hd=>hd.2⟩
theorem SH.keep {TS T t u r:Nat} {M M' : RM} {B C:Nat→Prop} {s:pR} (h:SH TS T M u C s) (k:ag [t,r] M M') (hs:Sep t B u C) (hr:r=t∨B r) : SH TS T M' u C s:=by
 refine⟨h.st.keep k ?_ ?_,fun d hd=>Nat.lt_of_lt_of_le (h.lo d hd) k.next⟩
 ·intro hm
  simp only[List.mem_cons,List.not_mem_nil,or_false] at hm
  rcases hm with e | e
  ·exact hs.1.1 e
  ·rcases hr with hr | hr
   ·exact hs.1.1 (e.trans hr)
   ·exact hs.1.2 (e▸hr)
 ·intro d hd hc
  simp only[List.mem_cons,List.not_mem_nil,or_false] at hd
  rcases hd with rfl | rfl
  ·exact hs.2.1.2 hc
  ·rcases hr with hr | hr
   ·exact hs.2.1.2 (hr▸hc)
   ·exact hs.2.2 _ hr hc
theorem SH.TG {TS T u:Nat} {M M' : RM} {C:Nat→Prop} {s:pR} (h:SH TS T M u C s) (k:ag [] M M') : SH TS T M' u C s:=⟨h.st.keep k (by simp) (by simp),fun d hd=>Nat.lt_of_lt_of_le (h.lo d hd) k.next⟩
structure Qc (TE:Nat) (M:RM) (b:Nat) (e:gp) (kv:AV) (ks:List ay) : Prop where
 lt:b<M.next
 row:M.heap b=some (.row (aP e kv) false TE 0)
 kills:Sl dV M kv ks
def au3 (t:Nat) (B:Nat→Prop) (b:Nat) (kv:AV) : Prop:=Off t B b∧∀ d∈aG kv,Off t B d
theorem Qc.keep {TE t b r:Nat} {M M' : RM} {B:Nat→Prop} {e:gp} {kv:AV} {ks:List ay} (h:Qc TE M b e kv ks) (k:ag [t,r] M M') (ho:au3 t B b kv) (hr:r=t∨B r) : Qc TE M' b e kv ks:=by
 have key:∀ x,Off t B x→x ∉ [t,r]:=fun x hx hm=>by
  simp only[List.mem_cons,List.not_mem_nil,or_false] at hm
  rcases hm with e | e
  ·exact hx.1 e
  ·rcases hr with hr | hr
   ·exact hx.1 (e.trans hr)
   ·exact hx.2 (e▸hr)
 exact⟨Nat.lt_of_lt_of_le h.lt k.next,k.aD h.row h.lt (key b ho.1),aL.keep h.kills k fun d hd=>key d (ho.2 d hd)⟩
theorem Qc.TG {TE b:Nat} {M M' : RM} {e:gp} {kv:AV} {ks:List ay} (h:Qc TE M b e kv ks) (k:ag [] M M') : Qc TE M' b e kv ks:=⟨Nat.lt_of_lt_of_le h.lt k.next,k.aD h.row h.lt (by simp),aL.keep h.kills k (by simp)⟩
section
variable {TS T:Nat}
end
theorem aj0 {M:RM} {b o k j:Nat} {cs:List AV} {x:AV} (h:M.loads b o k=some cs) (hj:cs[j]?=some x) {K:AV→Prop} (hK:K x) : ai M (.ptr b (o + j)) K:=by
 rw[gI]
 exact⟨x,He h hj,hK⟩
theorem ati {M:RM} {c p:Bool} {f:KR→Prop} {P:RM→Prop} {G:AV→RM→Prop} (h0:P M) (hf:c=true→∀ k:KR,(∀ M',P M'→k (Bo p) M' none)→f k) (hG:∀ M',P M'→G (Bo (c && p)) M') :
  ah (Bo c) true f (fun k=>k .undef M none) (fun t M' b=>aH (Bo c) t (Bo false) fun u=>G u M'):=by
 cases c with
 | false=>rw[gW]; dsimp only; rw[bK]; exact hG M h0
 | true=>rw[gY]; exact hf rfl _ fun M' h=>by rw[cK]; exact hG M' h
def nm (es:List aS) (i:Nat) : List UInt8:=(es.getD i ((0,0),([],[],[]))).2.1
def eU (s:List UInt8) : List UInt8:=bE s.length++s
def qj (x:aS) : List UInt8:=bE x.1.1.toNat++bE x.1.2++eU x.2.1++eU x.2.2.1++eU x.2.2.2
def Jl (ps:List Pt) (es:List aS) : List UInt8:=eU (encS ps)++bE es.length++es.flatMap qj
def rR (x:aS) : Prop:=0≤x.1.1∧x.1.1<16∧x.1.2<2 ^ 64∧x.2.1.length≤600∧x.2.2.1.length≤600∧x.2.2.2.length≤600
theorem gX {s:List UInt8} (h:s.length<2 ^ 64) : (eU s).length≤s.length + 10:=by
 have:=bW h
 rw[eU,List.length_append]; omega
theorem agj {x:aS} (h:rR x) : (qj x).length≤2000:=by
 obtain⟨h1,h2,h3,h4,h5,h6⟩:=h
 have a1:=bW (v:=x.1.1.toNat) (by omega)
 have a2:=bW h3
 have a3:=gX (s:=x.2.1) (by omega)
 have a4:=gX (s:=x.2.2.1) (by omega)
 have a5:=gX (s:=x.2.2.2) (by omega)
 simp only[qj,List.length_append]
 omega
theorem Jb {es:List aS} (h:∀ x∈es,rR x) : ∀ i,((es.take i).flatMap qj).length≤2000 * i
 | 0=>by simp
 | i + 1=>by
   have ih:=Jb h i
   by_cases hi:i<es.length
   ·rw[List.take_succ_eq_append_getElem hi,List.flatMap_append,List.length_append,List.flatMap_singleton]
    have:=agj (h _ (List.getElem_mem hi))
    omega
   ·rw[List.take_of_length_le (by omega)] at ih ⊢
    omega
theorem adR {es:List aS} {i:Nat} (h:i<es.length) (p:List UInt8) : p++(es.take (i + 1)).flatMap qj=(p++(es.take i).flatMap qj)++qj es[i]:=by
 rw[List.take_succ_eq_append_getElem h,List.flatMap_append,List.flatMap_singleton,List.append_assoc]
theorem LD {M:RM} {zs:List AV} (s:List UInt8) : nZ M 1 zs false (St s)=some (s.length,dL s):=by
 simp only[nZ,if_true]
def EP (T:Nat) (c:au) : Prop:=∀ {M:RM} {v:AV} {L s:List UInt8} {Q:ak},Sl BY M v L→L.length + s.length≤1000000000 →
 (∀ r M',Own M' M.next T 1 r (dL (L++eU s)) (L++eU s).length→ag [] M M'→Q r M')→c [v,St s] M Q
theorem Ul {T:Nat} {cu:au} (hu:BV T cu) : EP T fun args M Q=>∃ a0 a1,args=[a0,a1]∧Xo cu T a0 a1 M Q:=by
 intro M v L s Q hv hl hQ
 refine⟨_,_,rfl, ?_⟩
 unfold Xo
 have hv:aL M 1 v (BY.row L) L.length:=hv
 rw[yC] at hv
 rw[mh,dY,dw (by omega) (by omega)]
 refine hu (v:=s.length) hv (lW _) (by omega) (by omega) fun r M1 o1 k1=>?_
 have n1:=k1.next
 have u10:=bW (v:=s.length) (by omega)
 refine vg o1 n1 (Nat.le_refl _) (LD s) (by simp) (lW _) (by omega) (by omega) fun v' M' o2 k2 _ _=>?_
 refine hQ v' M' ?_ (k1.bG k2 fun d hd=>.inl (o1.blk d hd).1)
 rw[show dL (L++eU s)=List.map By L++dL (bE s.length)++dL s by rw[eU,lJ,lJ,List.append_assoc],show(L++eU s).length=L.length + (bE s.length).length + s.length by simp[eU]; omega]
 exact o2
theorem qK.aw4 {T base:Nat} {M:RM} {v:AV} {L L' : List UInt8} {zs:List AV} {K:ak} (h:qK T M base v L) (hb:base≤M.next) (hl:L.length + L'.length≤1000000000)
  (hK:∀ v' M',qK T M' base v' (L++L')→ag (aG v) M M'→(∀ d∈aG v,base≤d)→K v' M') : appW T 1 1 zs false v (St L') M K:=by
 rcases h with h | ⟨b,rfl,h1,h2,h3⟩
 ·refine vg h hb (Nat.le_refl _) (LD L') (by simp) (lW _) (by omega) (by omega) ?_
  intro v' M' o k _ _
  refine hK v' M' (.inl ?_) k (fun d hd=>(h.blk d hd).1)
  rw[lJ,List.length_append]; exact o
 ·refine⟨L'.length,dL L',LD L',by omega,by omega, ?_⟩
  by_cases h0:L'.length=0
  ·have:L'=[]:=List.length_eq_zero_iff.1 h0
   subst this
   refine⟨.slc b 0 L.length (.ex L.length),M,by simp[pV],hK _ _ (.inr ⟨b,by simp,h1,h2,by simpa using h3⟩) (ag.refl _ _) (by simp[aG]; exact h1)⟩
  ·have hld:M.loads b 0 (L.length * 1)=some (dL L):=by
    rw[RM.dO h3 (by simp),Nat.mul_one,List.drop_zero,List.take_of_length_le (by simp)]
   refine⟨.slc M.next 0 (L.length + L'.length) (.op 1),M.push (.row (dL L++dL L') true T 0), ?_,hK _ _ (.inl ?_) ((ag.refl _ _).push _) (by simp[aG]; exact h1)⟩
   ·have hone:(dL L++dL L').all oneCell=true:=by rw[List.all_append,lW,lW]; rfl
    simp only[pV,if_neg h0,if_neg (show ¬ L.length + L'.length≤L.length by omega),hld]
    rw[if_pos ⟨by omega,by omega,hone⟩]
   ·rw[List.length_append,lJ]
    exact .op _ _ _ hb (by simp[RM.push]) (RM.aT _) (by simp)
def Mt (T:Nat) (c:au) : Prop:=∀ {M:RM} {s:List UInt8} {Q:ak},s.length≤900000000→(∀ r M',qK T M' M.next r (eU s)→ag [] M M'→Q r M')→c [St s] M Q
theorem Wh {T:Nat} {cu:au} (hu:Nh T cu) : Mt T fun args M Q=>∃ a0,args=[a0]∧CR cu T a0 M Q:=by
 intro M s Q hl hQ
 refine⟨_,rfl, ?_⟩
 unfold CR
 rw[mh,dY,dw (by omega) (by omega)]
 refine hu s.length (by omega) fun r M1 o1 k1=>?_
 have n1:=k1.next
 have u10:=bW (v:=s.length) (by omega)
 refine qK.aw4 o1 n1 (by omega) fun v' M2 o2 k2 hb=>?_
 exact hQ v' M2 o2 (k1.bG k2 fun d hd=>.inl (hb d hd))
def yG (TS T TB:Nat) (c:au) : Prop:=∀ {M:RM} {t:Nat} {B:Nat→Prop} {ps:List Pt} {es:List aS} {Q:ak},tL TS T B M t ps es→(∀ p∈ps,Bd p)→(∀ x∈es,rR x)→es.length≤340000 →
 (∀ r M',Own M' M.next TB 1 r (dL (Jl ps es)) (Jl ps es).length→(encS ps).length≤200000000→ag [] M M'→Q r M')→c [.ptr t 0] M Q
theorem SS {TS T TB TN:Nat} {ce ct cu:au} (he:KN T TB ce) (ht:EP TB ct) (hu:BV TB cu) : yG TS T TB fun args M Q=>∃ a0,args=[a0]∧xc ce ct cu TN a0 M Q:=by
 intro M t B ps es Q hst hbd hok hlen hQ
 refine⟨_,rfl, ?_⟩
 unfold xc
 obtain⟨s0,v,r1,⟨S,r2,_⟩,r3,_,_⟩:=hst.row
 have htl:=hst.lt
 rw[aI,aU,aj (i:=0) r1 rfl,aI,aO,aj (i:=0 + 1) r1 rfl,aL.len r3,dY,dw (by omega) (by omega)]
 refine he r2 hbd fun b1 M1 o1 hel k1=>?_
 have n1:=k1.next
 have r11:=k1.aD r1 htl (by simp)
 rw[aj (i:=0 + 1) r11 rfl]
 refine⟨rfl, ?_⟩
 rw[Sl.str (Own.sl o1)]
 refine ht (L:=[]) (s:=encS ps) .nil (by simp; omega) fun b2 M2 o2 k2=>?_
 have n2:=k2.next
 have r12:=k2.aD r11 (by omega) (by simp)
 rw[aj (i:=0 + 1) r12 rfl]
 refine⟨rfl, ?_⟩
 rw[List.nil_append] at o2
 have tl:=gX (s:=encS ps) (by omega)
 have o2':=o2.mono (base':=M.next) n1
 refine hu.app o2' (by omega) (by omega) (by omega) fun b3 M3 o3 k3=>?_
 have n3:=k3.next
 have k03:=(k1.trans k2).trans k3
 have r13:=k3.aD r12 (by omega) (by simp)
 rw[aI,aO,aj (i:=0 + 1) r13 rfl,aL.len r3]
 have u10:=bW (v:=es.length) (by omega)
 have hpl:(eU (encS ps)++bE es.length).length≤200000020:=by rw[List.length_append]; omega
 unfold Jl at hQ
 generalize eU (encS ps)++bE es.length=p at *
 refine aQ (fun z ys M4=>∃ (i:Nat) (dv:AV),z=es.length - i∧ys=[dv,N .i64 (i:Int)]∧i≤es.length∧ag [] M M4∧Own M4 M.next TB 1 dv (dL (p++(es.take i).flatMap qj)) (p++(es.take i).flatMap qj).length) _
  ⟨0,b3,rfl,rfl,Nat.zero_le _,k03,by simpa using o3⟩ ?_
 rintro next z ys M4 hnext ⟨i,dv,rfl,rfl,hil,k4,o4⟩
 dsimp only[aa]
 rw[iD]
 refine aJ (fun hlt=>?_) (fun hge=>?_)
 ·have hlt:i<es.length:=of_decide_eq_true hlt
  have n4:=k4.next
  have hfl:=Jb hok i
  have hLl:(p++(es.take i).flatMap qj).length≤200000020 + 2000 * 340000:=by rw[List.length_append]; omega
  have hstep:∀ w M',ag [] M M'→Own M' M.next TB 1 w (dL ((p++(es.take i).flatMap qj)++qj es[i])) ((p++(es.take i).flatMap qj)++qj es[i]).length→next [w,N .i64 ((i + 1:Nat) : Int)] M':=fun w M' k o=>by
   refine hnext _ _ _ (by omega) ⟨i + 1,w,rfl,rfl,by omega,k, ?_⟩
   rw[adR hlt]; exact o
  rw[IG (aL.keep r3 k4 (by simp)) hlt]
  generalize p++(es.take i).flatMap qj=L at *
  obtain⟨e1,e2,e3,e4,e5,e6⟩:=hok _ (List.getElem_mem hlt)
  generalize es[i]=x at *
  rw[bn,dB (n:=5) (x:=.agg (aK.cells x)) (l:=[(N .i64 0),(N .u64 0),(St []),(St []),(St [])]) (RM.aT _) rfl rfl (Qd x)]
  have k5:ag [] M4 ((M4.push (.row [(N .i64 0),(N .u64 0),(St []),(St []),(St [])] false TN 0)).put M4.next (.row (AV.agg (aK.cells x)).cells false TN 0)):=((ag.refl _ _).push _).new _ (Nat.le_refl _)
  have h5:((M4.push (.row [(N .i64 0),(N .u64 0),(St []),(St []),(St [])] false TN 0)).put M4.next (.row (AV.agg (aK.cells x)).cells false TN 0)).heap M4.next=some (.row (aK.cells x) false TN 0):=aN _
  have l5:M4.next<((M4.push (.row [(N .i64 0),(N .u64 0),(St []),(St []),(St [])] false TN 0)).put M4.next (.row (AV.agg (aK.cells x)).cells false TN 0)).next:=by rw[jk]; simp[RM.push]
  have o5:=o4.keep k5 (by simp)
  have k05:=k4.trans k5
  generalize (M4.push (.row [(N .i64 0),(N .u64 0),(St []),(St []),(St [])] false TN 0)).put M4.next (.row (AV.agg (aK.cells x)).cells false TN 0)=M5 at *
  generalize M4.next=b at *
  obtain⟨dn,hdn⟩:=Int.eq_ofNat_of_zero_le e1
  have n5:=k05.next
  rw[aU,aU,aj (i:=0) (x:=N .i64 x.1.1) h5 rfl,dY,dw (by omega) (by omega),aU,aO,aj (i:=0 + 1) (x:=N .u64 (x.1.2:Int)) h5 rfl]
  rw[show x.1.1=((x.1.1.toNat:Nat) : Int) by omega]
  refine hu.app o5 n5 (by omega) (by omega) fun b6 M6 o6 k6=>?_
  have a1:=bW (v:=x.1.1.toNat) (by omega)
  have h6:=k6.aD h5 l5 (by simp)
  have n6:=k6.next
  rw[aj (i:=0 + 1) (x:=N .u64 (x.1.2:Int)) h6 rfl]
  refine⟨rfl, ?_⟩
  refine hu.app o6 (by omega) (by rw[List.length_append]; omega) e3 fun b7 M7 o7 k7=>?_
  have a2:=bW e3
  have h7:=k7.aD h6 (by omega) (by simp)
  have n7:=k7.next
  rw[aO,aj (i:=0 + 2) (x:=St x.2.1) h7 rfl,aO,aj (i:=0 + 3) (x:=St x.2.2.1) h7 rfl,aO,aj (i:=0 + 4) (x:=St x.2.2.2) h7 rfl]
  refine ht (Own.sl o7) (by simp only[List.length_append]; omega) fun b8 M8 o8 k8=>?_
  have a3:=gX (s:=x.2.1) (by omega)
  have h8:=k8.aD h7 (by omega) (by simp)
  have n8:=k8.next
  rw[aj (i:=0 + 3) (x:=St x.2.2.1) h8 rfl]
  refine⟨rfl, ?_⟩
  rw[aj (i:=0 + 4) (x:=St x.2.2.2) h8 rfl]
  refine⟨rfl, ?_⟩
  refine ht (Own.sl o8) (by simp only[List.length_append]; omega) fun b9 M9 o9 k9=>?_
  have a4:=gX (s:=x.2.2.1) (by omega)
  have h9:=k9.aD h8 (by omega) (by simp)
  have n9:=k9.next
  rw[aj (i:=0 + 4) (x:=St x.2.2.2) h9 rfl]
  refine⟨rfl, ?_⟩
  refine ht (Own.sl o9) (by simp only[List.length_append]; omega) fun b10 M10 o10 k10=>?_
  rw[add1 (by omega)]
  refine hstep b10 M10 ((((((k05.trans k6).trans k7).trans k8).trans k9).trans k10)) ?_
  rw[show L++qj x=L++bE x.1.1.toNat++bE x.1.2++eU x.2.1++eU x.2.2.1++eU x.2.2.2 by simp[qj]]
  exact o10.mono (by omega)
 ·have he:i=es.length:=by
   have:¬ i<es.length:=of_decide_eq_false hge
   omega
  subst he
  rw[List.take_length] at o4
  exact hQ dv M4 o4 hel k4
section
variable {α:Type} {E:Enc α}
theorem YV {x:AV} {y:α} {j:Nat} (hj:j<E.size) : ∀ {xs:List α} {i:Nat} (hi:i<xs.length),E.cells y=(E.cells xs[i]).set j x→(E.row xs).set (i * E.size + j) x=E.row (xs.set i y)
 | [],i,hi,_=>by simp at hi
 | a :: r,0,_,h=>by
   rw[Nat.zero_mul,Nat.zero_add,Enc.jb,List.set_cons_zero,Enc.jb,List.set_append_left _ _ (by rw[E.len]; exact hj),h]; rfl
 | a :: r,i + 1,hi,h=>by
   rw[Enc.jb,List.set_cons_succ,Enc.jb,List.set_append_right _ _ (by rw[E.len,Nat.succ_mul]; omega),E.len,
    show(i + 1) * E.size + j - E.size=i * E.size + j by rw[Nat.succ_mul]; omega,YV hj (by simpa using hi) (by simpa using h)]
theorem ac9 {M:RM} {base T:Nat} {v:AV} {xs:List α} (ho:Ow E M base T v xs) {i j:Nat} (hi:i<xs.length) (hj:j<E.size) {x:AV} {y:α} (hc:x.cells=[x]) (h1:oneCell x=true) (hy:E.cells y=(E.cells xs[i]).set j x) :
  ∃ b o,base≤b∧b<M.next∧(∀ (kd:IntKind) (K:AV→Prop),aA v (N kd (i:Int)) E.size K=K (.ptr b o))∧∀ K:RM→Prop,(∀ M',Ow E M' base T v (xs.set i y)→ag [b] M M'→K M')→aC M (.ptr b (o + j)) x 1 K:=by
 have hl:=E.fq xs
 have hp:=YV hj hi hy
 have ho' : Own M base T E.size v (E.row xs) xs.length:=ho
 clear hy ho
 generalize hcs:E.row xs=cs at *
 generalize hn:xs.length=n at *
 cases ho' with
 | nil=>omega
 | ex0=>omega
 | op b n cs hb hlt hh hln =>
   have hlt2:i * E.size + j<cs.length:=by
    rw[hln]
    have:(i + 1) * E.size≤n * E.size:=Nat.mul_le_mul_right _ hi
    rw[Nat.succ_mul] at this; omega
   refine⟨b,i * E.size,hb,hlt,fun kd K=>?_,fun K hK=>?_⟩
   ·rw[qo]
    apply propext
    constructor
    ·rintro⟨_,_,h⟩; simpa using h
    ·intro h; exact⟨by omega,by omega,by simpa using h⟩
   ·rw[gV hh hlt2 hc h1,hp]
    refine hK _ ?_ ((ag.refl [b] M).put _ (.inr (by simp)))
    show Own _ base T E.size _ (E.row (xs.set i y)) (xs.set i y).length
    rw[List.length_set,hn]
    exact .op b n _ hb (by rw[jk]; exact hlt) (aN _) (by rw[Enc.fq,List.length_set,hn])
end
theorem Vb {e:gp} {ks:List ay} (h:bz e ks=true) : rR (jW e):=by
 have h0:=h
 simp only[bz,Bool.and_eq_true,names,decide_eq_true_eq] at h
 obtain⟨⟨⟨⟨h1,⟨⟨h2,h3⟩,h4⟩,h5⟩,_⟩,_⟩,_⟩:=h
 have hd:=uH h1
 refine⟨hd.1,hd.2.1,by show e.1.2<_; omega, ?_, ?_, ?_⟩ <;> (simp only[jW]; omega)
structure JA (l:List Ev) (ps:List Pt) (es:List aS) : Prop where
 ch:Ch l (ps,es)
 one:l.Pairwise fun x y=>x.1.1≠y.1.1
 good:∀ e∈l,bz e.1 e.2=true
 len:l.length≤60
section
variable {l:List Ev} {ps:List Pt} {es:List aS}
theorem JA.axa (h:JA l ps es) : (jR l).length≤3900:=by
 have:=Vs h.good
 have:=h.len
 omega
theorem JA.si (h:JA l ps es) : SI (jR l).length ps:=h.ch.siD (fun d hd=>hd)
theorem JA.ok (h:JA l ps es) : ∀ x∈es,rR x:=fun x hx=>by
 obtain⟨e,he,_,rfl,_⟩:=(h.ch.ER x).1 hx
 exact Vb (h.good e he)
theorem JA.doc (h:JA l ps es) : yV ps (EO [] (jR l)):=yV.of h.si (YP (u:=[]) .nil) fun d=>by
 rw[Y7]
 have:=h.ch.sets d
 constructor
 ·rintro(h | h)
  ·cases h
  ·exact this.2 h
 ·exact fun h=>.inr (this.1 h)
end
theorem aep {n m i j:Nat} {back:Bool} (hi:i<n) (hj:j<n) (h:wJ n m back i=wJ n m back j) : i=j:=by
 have key:(i + m) % n=(j + m) % n:=by
  unfold wJ at h
  split at h
  ·have:=Nat.mod_lt (i + m) (show 0<n by omega)
   have:=Nat.mod_lt (j + m) (show 0<n by omega)
   omega
  ·exact h
 have e1:=Nat.div_add_mod (i + m) n
 have e2:=Nat.div_add_mod (j + m) n
 rw[key] at e1
 rcases Nat.lt_trichotomy ((i + m) / n) ((j + m) / n) with hq | hq | hq
 ·have:n * ((i + m) / n + 1)≤n * ((j + m) / n):=Nat.mul_le_mul_left _ hq
  rw[Nat.mul_succ] at this; omega
 ·rw[hq] at e1; omega
 ·have:n * ((j + m) / n + 1)≤n * ((i + m) / n):=Nat.mul_le_mul_left _ hq
  rw[Nat.mul_succ] at this; omega
theorem aex {n m k:Nat} {back:Bool} (hk:k<n) : ∃ i,i<n∧wJ n m back i=k:=by
 have key:∀ k,k<n→∃ i,i<n∧(i + m) % n=k:=fun k hk=>by
  refine⟨(k + (n - m % n)) % n,Nat.mod_lt _ (by omega), ?_⟩
  have hm:=Nat.mod_lt m (show 0<n by omega)
  rw[Nat.add_mod,Nat.mod_mod,← Nat.add_mod]
  have e:=Nat.div_add_mod m n
  have:k + (n - m % n) + m=k + n * (m / n + 1):=by rw[Nat.mul_succ]; omega
  rw[this,Nat.add_mul_mod_self_left,Nat.mod_eq_of_lt hk]
 unfold wJ
 cases back with
 | false=>simpa using key k hk
 | true =>
   obtain⟨i,hi,h⟩:=key (n - 1 - k) (by omega)
   exact⟨i,hi,by simp only[if_true]; omega⟩
theorem VX {l:List Ev} {m:Nat} {back:Bool} {e:Ev} : e∈ja l m back↔e∈l:=by
 constructor
 ·intro h
  obtain⟨i,hi,rfl⟩:=List.getElem_of_mem h
  rw[q8] at hi
  rw[Ep hi]
  exact List.getElem_mem _
 ·intro h
  obtain⟨k,hk,rfl⟩:=List.getElem_of_mem h
  obtain⟨i,hi,e⟩:=aex (m:=m) (back:=back) hk
  have h2:=Ep (m:=m) (back:=back) hi
  have:l[k]=(ja l m back)[i]'(by rw[q8]; exact hi):=by
   rw[h2]; congr 1; exact e.symm
  rw[this]
  exact List.getElem_mem _
theorem ahl {l:List Ev} {m:Nat} {back:Bool} (h:l.Pairwise fun x y=>x.1.1≠y.1.1) : (ja l m back).Pairwise fun x y=>x.1.1≠y.1.1:=by
 rw[List.pairwise_iff_getElem]
 intro i j hi hj hij
 rw[q8] at hi hj
 rw[Ep hi,Ep hj]
 have hne:wJ l.length m back i≠wJ l.length m back j:=fun e=>by have:=aep hi hj e; omega
 rcases Nat.lt_or_gt_of_ne hne with h1 | h1
 ·exact List.pairwise_iff_getElem.1 h _ _ (vC hi) (vC hj) h1
 ·exact fun e=>List.pairwise_iff_getElem.1 h _ _ (vC hj) (vC hi) h1 e.symm
theorem Ch.ajV {l:List Ev} {m:Nat} {back:Bool} (hg:∀ x∈l,bz x.1 x.2=true) (hd:l.Pairwise fun x y=>x.1.1≠y.1.1) (hl:l.length≤60) : Ch l (jP (ja l m back)) :=
 (Ch.run (fun x hx=>hg x (VX.1 hx)) (ahl hd) (by rw[q8]; exact hl)).mem fun e=>VX
theorem SX (l:List Ev) : ∀ x∈j5 l,bz x.1 x.2=true:=RY l [] (by simp)
section
variable {α:Type} {R:qP α} {M:RM} {S:Nat→Prop} {v u:AV} {xs ys:List α}
end
structure P3 (T TE n0:Nat) (M:RM) (vs:Nat→AV) (qs:Nat→List Ev) : Prop where
 lt:n0 + 1≤M.next
 row:M.heap n0=some (.row [vs 0,vs 1,vs 2] false T 0)
 ow:∀ j<3,lM vo M (n0 + 1) TE (vs j) (qs j) (fun d=>d<n0)
 dis:∀ j<3,∀ k<3,j≠k→∀ d∈aG (vs j),d ∉ aG (vs k)
theorem Sep.fresh {n t u:Nat} {B C:Nat→Prop} (ht:n≤t) (hB:∀ d,B d→n≤d) (hu:u<n) (hC:∀ d,C d→d<n) : Sep t B u C :=
 ⟨⟨by omega,fun h=>by have:=hB _ h; omega⟩,⟨by omega,fun h=>by have:=hC _ h; omega⟩,fun d hd hc=>by have:=hB _ hd; have:=hC _ hc; omega⟩
abbrev Obj:=Nat × (Nat→Prop) × pR
structure Im (TS T:Nat) (M0 M:RM) (os:List Obj) : Prop where
 k:ag [] M0 M
 sh:∀ o∈os,SH TS T M o.1 o.2.1 o.2.2
 sep:os.Pairwise fun a b=>Sep a.1 a.2.1 b.1 b.2.1
 low:∀ o∈os,M0.next≤o.1∧∀ d,o.2.1 d→M0.next≤d
section
variable {TS T:Nat} {M0 M M' : RM} {os:List Obj} {t:Nat} {B B' : Nat→Prop} {s s' : pR}
theorem Im.nil (M0:RM) : Im TS T M0 M0 []:=⟨ag.refl _ _,by simp,.nil,by simp⟩
theorem Im.TG (F:Im TS T M0 M os) (k:ag [] M M') : Im TS T M0 M' os:=⟨F.k.trans k,fun o ho=>(F.sh o ho).TG k,F.sep,F.low⟩
theorem Im.cons (F:Im TS T M0 M os) (k:ag [] M M') (h:SH TS T M' t B s) (ht:M.next≤t) (hB:∀ d,B d→M.next≤d) : Im TS T M0 M' ((t,B,s) :: os):=by
 have n0:=F.k.next
 refine⟨F.k.trans k,fun o ho=>?_,List.pairwise_cons.2 ⟨fun o ho=>?_,F.sep⟩,fun o ho=>?_⟩
 ·rcases List.mem_cons.1 ho with rfl | ho
  ·exact h
  ·exact(F.sh o ho).TG k
 ·exact Sep.fresh ht hB (F.sh o ho).st.lt (F.sh o ho).lo
 ·rcases List.mem_cons.1 ho with rfl | ho
  ·exact⟨by show _≤t; omega,fun d hd=>by have:=hB d hd; omega⟩
  ·exact F.low o ho
theorem Im.state {c:au} (hs:NV TS T c) (F:Im TS T M0 M os) {v:AV} {l:List Ev} {n:Int} {m:Nat} {back:Bool} (hv:iZ vo M v l (fun d=>d<M.next)) (hl:l.length≤60) (hn:QE .i64 n 1023=(m:Int)) (hm:m≤1023) {Q:ak}
  (hQ:∀ t M' B',Im TS T M0 M' ((t,B',jP (ja l m back)) :: os)→Q (.ptr t 0) M') : c [v,N .i64 n,Bo back] M Q :=
 hs hv hl hn hm fun t M' ht h k=>hQ t M' _ (F.cons k ⟨h,fun d hd=>hd.2.1⟩ ht fun d hd=>hd.1)
end
end Go.Ab.Crw
set_option maxRecDepth 100000
namespace Go.Ab.Crw
open Go Go.Ab
def MK (p1 p2:au) (p3:Nat) (p4:au) (p5:Nat) (p6 p7:au) (p8 p9:Nat) (p10 p11 p12 p13 p14 p15:au) (a0:AV) (M0:RM) (Q:ak) : Prop :=
 p1 [a0] M0 fun bO M =>
 dh a0 fun t17 =>
 p2 [bO,t17] M fun t18 M_0 =>
 Px p3 t18 fun r f =>
 dx r f M_0 fun t19 M_1 =>
 p4 [t19] M_1 fun t20 M_2 =>
 bV t20 0 fun t21 =>
 bV t20 1 fun t22 =>
 ae .neq t22 (N .i64 0) fun t24 =>
 az t24 (
 Q (.tup [(.sc (.pointer none)),(N .i64 14)]) M_2) (
 iM [(.sc (.pointer none)),(.sc (.slice none 0 0))] [(0,1,t21)] fun t26 =>
 ji p5 t26 fun r_3 f_4 =>
 dx r_3 f_4 M_2 fun t27 M_5 =>
 dx (.map [] 0) (fun b=>.map b) M_5 fun t28 M_6 =>
 dh a0 fun t31 =>
 p6 [bO,t31] M_6 fun t32 M_7 =>
 bu (fun next xs M_8 =>
 ae .lss (aa xs 0) t32 fun t34 =>
 az t34 (
 p6 [bO,(N .i64 15)] M_8 fun t36 M_9 =>
 p7 [bO] M_9 fun t38 dH =>
 iM [(N .i64 0),(N .u64 0)] [(0,1,t36),(1,1,t38)] fun t39 =>
 dx (.row [(N .i64 0),(N .u64 0)] false p8 0) (fun b=>.ptr b 0) dH fun t9 dJ =>
 aC dJ t9 t39 2 fun fe =>
 aF fe t9 2 fun t40 =>
 wB (.row [(N .i64 0),(N .u64 0),(St []),(St []),(St [])] false p9 0) (fun b=>.ptr b 0) fe fun bN dC b =>
 p2 [bO,(N .i64 64)] dC fun t42 eO =>
 aF eO t9 2 fun ajf =>
 (ajf=t40∧(zm b eO (.row [(N .i64 0),(N .u64 0),(St []),(St []),(St [])] false p9 0) (fun b=>.ptr b 0) bN∧p2 [bO,(N .i64 64)] eO fun t44 fF =>
 aF fF t9 2 fun ajk =>
 (ajk=t40∧(zm b fF (.row [(N .i64 0),(N .u64 0),(St []),(St []),(St [])] false p9 0) (fun b=>.ptr b 0) bN∧p2 [bO,(N .i64 512)] fF fun t46 dK =>
 aF dK t9 2 fun ajJ =>
 (ajJ=t40∧(zm b dK (.row [(N .i64 0),(N .u64 0),(St []),(St []),(St [])] false p9 0) (fun b=>.ptr b 0) bN∧iM [(N .i64 0),(N .u64 0),(St []),(St []),(St [])] [(0,2,t40),(2,1,t42),(3,1,t44),(4,1,t46)] fun t47 =>
 aC dK bN t47 5 fun jE =>
 p10 [bO] jE fun t49 dE =>
 ae .neq t49 (N .i64 0) fun t50 =>
 af t50 false (fun k=>k t21 dE) (fun k=>k .undef dE) fun t52 dI =>
 af t50 false (fun jQ=>aF dI t9 2 fun t53 =>
 jQ t53 dI) (fun k=>k .undef dI) fun amu gm =>
 af t50 false (fun qh=>p11 [t52,amu] gm fun t54 kT =>
 qh t54 kT) (fun k=>k .undef gm) fun aq0 kW =>
 af t50 false (fun uy=>dG aq0 fun t55 =>
 uy t55 kW) (fun k=>k .undef kW) fun ak8 iV =>
 aH t50 (Bo true) ak8 fun t56 =>
 af t56 false (fun Ba=>Ba t28 iV) (fun k=>k .undef iV) fun t58 jL =>
 af t56 false (fun uL=>aF jL t9 2 fun t59 =>
 uL t59 jL) (fun k=>k .undef jL) fun aod eP =>
 af t56 false (fun mF=>Qf true [1,1] (Bo false) false eP t58 aod fun t60 =>
 mF t60 eP) (fun k=>k .undef eP) fun aqY dZ =>
 aH t56 (Bo true) aqY fun t61 =>
 af t61 false (fun xL=>aB bN 2 fun t63 =>
 xL t63 dZ) (fun k=>k .undef dZ) fun arh lU =>
 af t61 false (fun xy=>ai lU arh fun t64 =>
 xy t64 lU) (fun k=>k .undef lU) fun aqx jf =>
 af t61 false (fun wY=>kg .eql aqx (St []) fun t65 =>
 wY t65 jf) (fun k=>k .undef jf) fun ap7 gD =>
 aH t61 (Bo true) ap7 fun t66 =>
 af t66 false (fun xm=>aB bN 3 fun t68 =>
 xm t68 gD) (fun k=>k .undef gD) fun anz iG =>
 af t66 false (fun Gs=>ai iG anz fun t69 =>
 Gs t69 iG) (fun k=>k .undef iG) fun anC q9 =>
 af t66 false (fun WE=>kg .eql anC (St []) fun t70 =>
 WE t70 q9) (fun k=>k .undef q9) fun aqt jN =>
 aH t66 (Bo true) aqt fun t71 =>
 az t71 (
 Q (.tup [(.sc (.pointer none)),(N .i64 14)]) jN) (
 bF t27 fun t73 =>
 aB t73 1 fun t74 =>
 ai jN t74 fun t75 =>
 dh t75 fun t76 =>
 ae .gtr t76 (N .i64 0) fun t78 =>
 ah t78 true (fun AB=>AB t27 jN none) (fun k=>k .undef jN none) fun t80 iL QH =>
 ah t78 true (fun qW=>bF t80 fun t81 =>
 qW t81 iL none) (fun k=>k .undef iL none) fun apz mf aoI =>
 ah t78 true (fun WZ=>aB apz 1 fun t82 =>
 WZ t82 mf none) (fun k=>k .undef mf none) fun ali agK b_66 =>
 ah t78 true (fun LJ=>ai agK ali fun t83 =>
 LJ t83 agK none) (fun k=>k .undef agK none) fun anL uw aw5 =>
 ah t78 true (fun WK=>WK t76 uw none) (fun k=>k .undef uw none) fun t84 Dt aw7 =>
 ah t78 true (fun EU=>ae .sub t84 (N .i64 1) fun t85 =>
 EU t85 Dt none) (fun k=>k .undef Dt none) fun aq5 uI b_77 =>
 ah t78 true (fun au1=>aA anL aq5 5 fun t86 =>
 au1 t86 uI none) (fun k=>k .undef uI none) fun apj IQ b_81 =>
 ah t78 true (fun auX=>aF IQ apj 5 fun t87 =>
 auX t87 IQ none) (fun k=>k .undef IQ none) fun apH QP b_85 =>
 ah t78 true (fun af8=>aF QP bN 5 fun t88 =>
 af8 t88 QP none) (fun k=>k .undef QP none) fun ara F8 b_89 =>
 af t78 true (fun agH=>p12 [apH,ara] F8 fun t89 FI =>
 agH t89 FI) (fun k=>k .undef F8) fun amG Me =>
 ah t78 true (fun avw=>ae .geq amG (N .i64 0) fun t90 =>
 avw t90 Me none) (fun k=>k .undef Me none) fun aks vS anc =>
 aH t78 aks (Bo false) fun t91 =>
 az t91 (
 Q (.tup [(.sc (.pointer none)),(N .i64 14)]) vS) (
 aF vS t9 2 fun t93 =>
 Kk true [1,1] vS t28 t93 (Bo true) fun afJ =>
 bF t27 fun t96 =>
 aB t96 1 fun t97 =>
 ai afJ t97 fun t98 =>
 aF afJ bN 5 fun t99 =>
 fO p9 1 [(N .i64 0),(N .u64 0),(St []),(St []),(St [])] [(0,5,t99)] fun avP aul =>
 wB avP aul afJ fun lI arQ b_102 =>
 appW p9 5 64 [(N .i64 0),(N .u64 0),(St []),(St []),(St [])] false t98 lI arQ fun ni BJ =>
 bF t27 fun GV =>
 aB GV 1 fun xJ =>
 aC BJ xJ ni 1 fun asR =>
 ae .add (aa xs 0) (N .i64 1) fun Fe =>
 next [Fe] asR))))))))) (
 p13 [bO] M_8 fun Fa O8 =>
 ae .neq Fa (N .i64 0) fun t107 =>
 af t107 false (fun O9=>O9 t27 O8) (fun k=>k .undef O8) fun t109 x8 =>
 af t107 false (fun aaU=>p14 [t109] x8 fun wy Tq =>
 aaU wy Tq) (fun k=>k .undef x8) fun afc OJ =>
 af t107 false (fun ach=>ach a0 OJ) (fun k=>k .undef OJ) fun xR qc =>
 af t107 false (fun Oj=>p15 [afc,xR] qc fun wH ar8 =>
 Oj wH ar8) (fun k=>k .undef qc) fun ae4 ug =>
 af t107 false (fun auj=>dG ae4 fun yS =>
 auj yS ug) (fun k=>k .undef ug) fun ahb N7 =>
 aH t107 (Bo true) ahb fun CW =>
 az CW (
 Q (.tup [(.sc (.pointer none)),(N .i64 14)]) N7) (
 Q (.tup [t27,(N .i64 0)]) N7))) [(N .i64 0)] M_7)
end Go.Ab.Crw
set_option maxRecDepth 10000
namespace Go.Ab.Crw
open Go Go.Ab Go.Ab.ay
def df (most:Nat) (bs:List UInt8) (f:Bool) : List UInt8 × List UInt8 × Bool :=
 if (aR most bs f).2.2 || decide ((aR most bs f).2.1.length<(aR most bs f).1) then([],(aR most bs f).2.1,true)
 else((aR most bs f).2.1.take (aR most bs f).1,(aR most bs f).2.1.drop (aR most bs f).1,false)
theorem wD {most:Nat} {bs:List UInt8} {f:Bool} : (df most bs f).1.length≤most∧(df most bs f).2.1.length≤bs.length:=by
 have h:=kN (most:=most) (bs:=bs) (f:=f)
 unfold df
 split
 ·exact⟨by simp,h.2⟩
 ·exact⟨by rw[List.length_take]; omega,by rw[List.length_drop]; omega⟩
theorem BC {most:Nat} {bs:List UInt8} {f:Bool} (h:(aR most bs f).2.2=false) : (aR most bs f).2.1.length + 1≤bs.length∧f=false:=by
 unfold aR at h ⊢
 split at h
 ·cases h
 ·rename_i v n hn
  split at h
  ·cases h
  ·rename_i hc
   rw[if_neg hc]
   have:=Ew hn
   refine⟨by show(List.drop n bs).length + 1≤_; rw[List.length_drop]; omega, ?_⟩
   cases f with
   | true=>exact absurd rfl hc
   | false=>rfl
theorem aaX {bs:List UInt8} {f:Bool} (h:(eu bs f).2.2=false) : (eu bs f).2.1.length + 1≤bs.length∧f=false:=by
 unfold eu at h ⊢
 exact BC h
theorem yL {most:Nat} {bs:List UInt8} {f:Bool} (h:(df most bs f).2.2=false) : (df most bs f).2.1.length + 1≤bs.length∧f=false:=by
 unfold df at h ⊢
 split at h
 ·cases h
 ·rename_i hc
  rw[if_neg hc]
  have hf:(aR most bs f).2.2=false:=by
   cases hh:(aR most bs f).2.2 with
   | true=>rw[hh] at hc; exact absurd rfl hc
   | false=>rfl
  have:=BC hf
  exact⟨by show(List.drop _ _).length + 1≤_; rw[List.length_drop]; omega,this.2⟩
def Tm (T:Nat) (c:au) : Prop:=∀ {M:RM} {r most:Nat} {S:Nat→Prop} {bs:List UInt8} {f:Bool} {Q:ak},sJ T S M r bs f→most<4294967296 →
 (∀ M',sJ T S M' r (df most bs f).2.1 (df most bs f).2.2→ag [r] M M'→M'.next=M.next→Q (St (df most bs f).1) M')→c [.ptr r 0,N .i64 (most:Int)] M Q
theorem acI {T:Nat} {ci:au} (hi:Qi T ci) : Tm T fun args M Q=>∃ a0 a1,args=[a0,a1]∧y7 ci a0 a1 M Q:=by
 intro M r most S bs f Q h hm hQ
 refine⟨_,_,rfl, ?_⟩
 unfold y7
 simp only[gQ,ig,fQ,gG]
 refine hi h hm fun M1 h1 k1 n1=>?_
 have hle:=kN (most:=most) (bs:=bs) (f:=f)
 unfold df at hQ
 generalize (aR most bs f).1=n at *
 generalize (aR most bs f).2.1=bs1 at *
 generalize (aR most bs f).2.2=f1 at *
 obtain⟨v,hr,hs,hc,hS⟩:=h1.row
 have hrl:=h1.lt
 rw[aI,aU,aj (i:=0 + 1) hr rfl]
 refine mE (p:=decide (bs1.length<n)) (fun _ K hK=>?_) ?_
 ·rw[aI,aO,aj (i:=0 + 0) hr rfl,aL.len hs,dF,show decide ((n:Int) > (bs1.length:Int))=decide (bs1.length<n) by simp]
  exact hK
 generalize hg:(f1 || decide (bs1.length<n))=g at *
 rw[aI,aU,jy [v,Bo g] hr (by simp) rfl rfl rfl,aI,aU,aj (aN _) rfl]
 have kk:ag [r] M1 (M1.put r (.row [v,Bo g] false T 0)):=(ag.refl _ _).put _ (.inr (by simp))
 have hh:(M1.put r (.row [v,Bo g] false T 0)).heap r=some (.row [v,Bo g] false T 0):=aN _
 have nn:(M1.put r (.row [v,Bo g] false T 0)).next=M1.next:=rfl
 generalize M1.put r (.row [v,Bo g] false T 0)=M2 at *
 have s2:Sl BY M2 v bs1:=aL.keep hs kk (fun d hd hm=>by simp at hm; subst hm; exact h1.nb (hS d hd))
 refine aJ (fun hgt=>?_) (fun hgf=>?_)
 ·subst hgt
  rw[if_pos rfl] at hQ
  exact hQ M2 ⟨by omega,⟨v,hh,s2,hc,hS⟩,h1.nb⟩ (k1.trans kk) (by omega)
 ·subst hgf
  rw[if_neg (by simp)] at hQ
  have hn:n≤bs1.length:=by
   simp only[Bool.or_eq_false_iff,decide_eq_false_iff_not] at hg; omega
  rw[aI,aU,aj hh rfl]
  obtain⟨v1,e1,e2⟩:=Vz rfl s2 hc hn
  rw[e1,dN,Sl.str e2,aI,aU,aj hh rfl]
  obtain⟨v',g1,g2,g3,g4⟩:=GR rfl s2 hc hn
  rw[g1,dN,aI,aU,jy [v',Bo false] hh (by simp) (aL.cells g2) (aL.one g2) rfl]
  have k2:ag [r] M2 (M2.put r (.row [v',Bo false] false T 0)):=(ag.refl _ _).put _ (.inr (by simp))
  exact hQ _ ⟨by rw[jk]; omega,⟨v',aN _,aL.keep g2 k2 (fun d hd hm=>by simp at hm; subst hm; exact h1.nb (hS d (g4 d hd))),g3,fun d hd=>hS d (g4 d hd)⟩,h1.nb⟩ ((k1.trans kk).trans k2) (by rw[jk]; omega)
def mapD (k:Nat) : List aS→List (AV × AV × Nat)
 | []=>[]
 | x :: es=>(.agg (aM x.1),Bo true,k) :: mapD (k + 1) es
theorem RO (x:aS) : ∀ (es:List aS) (k:Nat),mapD k (es++[x])=mapD k es++[(.agg (aM x.1),Bo true,k + es.length)]
 | [],k=>rfl
 | y :: es,k=>by
   simp only[List.cons_append,mapD,RO x es (k + 1),List.length_cons]
   rw[show k + 1 + es.length=k + (es.length + 1) by omega]
def met (es:List aS) (d:ay) : Bool:=es.any fun x=>decide (x.1=d)
theorem JS (d:ay) : ∀ (es:List aS) (k i:Nat),∃ r,rV true [1,1] (aM d) (mapD k es) i=some r∧((met es d=true∧∃ j,r=some (j,Bo true))∨(met es d=false∧r=none))
 | [],k,i=>⟨none,rfl,.inr ⟨rfl,rfl⟩⟩
 | x :: es,k,i=>by
   simp only[mapD,rV,iP]
   rw[if_pos (by rfl),Bl]
   by_cases h:d=x.1
   ·rw[decide_eq_true h]
    exact⟨_,rfl,.inl ⟨by simp[met,h],i,rfl⟩⟩
   ·rw[decide_eq_false h]
    obtain⟨r,h1,h2⟩:=JS d es (k + 1) (i + 1)
    refine⟨r,h1, ?_⟩
    have:met (x :: es) d=met es d:=by
     have:¬ x.1=d:=fun e=>h e.symm
     simp[met,this]
    rw[this]; exact h2
theorem ajn {M:RM} {b:Nat} {es:List aS} {d:ay} {c:Nat} {K:AV→Prop} (h:M.heap b=some (.map (mapD 0 es) c)) (hK:K (Bo (met es d))) : Qf true [1,1] (Bo false) false M (.map b) (.agg (aM d)) K:=by
 obtain⟨r,h1,h2⟩:=JS d es 0 0
 refine⟨b,_,c,aM d,r,rfl,h,rfl,rfl,h1, ?_⟩
 rcases h2 with⟨h2,j,rfl⟩ | ⟨h2,rfl⟩
 ·rw[h2] at hK; exact hK
 ·rw[h2] at hK; exact hK
theorem aj7 {M:RM} {b:Nat} {es:List aS} {x:aS} {K:RM→Prop} (h:M.heap b=some (.map (mapD 0 es) es.length)) (hn:met es x.1=false) (hK:K (M.put b (.map (mapD 0 (es++[x])) (es++[x]).length))) : Kk true [1,1] M (.map b) (.agg (aM x.1)) (Bo true) K:=by
 obtain⟨r,h1,h2⟩:=JS x.1 es 0 0
 refine⟨b,_,_,aM x.1,r,rfl,h,rfl,rfl,h1, ?_⟩
 rcases h2 with⟨h2,j,rfl⟩ | ⟨h2,rfl⟩
 ·rw[h2] at hn; cases hn
 ·rw[RO,Nat.zero_add,List.length_append,List.length_singleton] at hK
  exact hK
def Ee (es:List aS) (x:aS) : Bool:=match es.getLast? with
 | some y=>!qR y x
 | none=>false
def QG (ps:List Pt) : Nat→List UInt8→Bool→List aS→Option (List UInt8 × Bool × List aS)
 | 0,bs,f,es=>some (bs,f,es)
 | k + 1,bs,f,es =>
   let d:=aR 15 bs f
   let u:=eu d.2.1 d.2.2
   let c:=df 64 u.2.1 u.2.2
   let g:=df 64 c.2.1 c.2.2
   let v:=df 512 g.2.1 g.2.2
   if v.2.2 || !gz ps ((d.1:Int),u.1) || met es ((d.1:Int),u.1) || c.1 == [] || g.1 == [] then none
   else if Ee es ((((d.1:Int),u.1),(c.1,(g.1,v.1))) : aS) then none
   else QG ps k v.2.1 v.2.2 (es++[((((d.1:Int),u.1),(c.1,(g.1,v.1))) : aS)])
def tQ (b:List UInt8) : Option (List Pt × List aS) :=
 match decode (df b.length b false).1 with
 | none=>none
 | some ps =>
   match QG ps (aR b.length (df b.length b false).2.1 (df b.length b false).2.2).1 (aR b.length (df b.length b false).2.1 (df b.length b false).2.2).2.1 (aR b.length (df b.length b false).2.1 (df b.length b false).2.2).2.2 [] with
   | none=>none
   | some (bs,f,es)=>if f || !bs.isEmpty || !(Jl ps es == b) then none else some (ps,es)
theorem Sz:∀ (xs:List Nat) (a:Nat),chain a xs=true→Asc xs∧∀ x∈xs,a<x
 | [],a,_=>⟨.nil,by simp⟩
 | x :: xs,a,h=>by
   simp only[chain,Bool.and_eq_true,decide_eq_true_eq] at h
   obtain⟨h1,h2⟩:=Sz xs x h.2
   refine⟨List.pairwise_cons.2 ⟨h2,h1⟩,fun y hy=>?_⟩
   rcases List.mem_cons.1 hy with rfl | hy
   ·exact h.1
   ·have:=h2 y hy; omega
theorem Yr {bs:List UInt8} {ps:List Pt} (h:decode bs=some ps) : ps.all wL=true:=by
 unfold decode at h
 split at h <;> first | (cases h; done) | skip
 split at h <;> first | (cases h; done) | skip
 rename_i hc
 cases h
 cases hf:List.all ps wL with
 | true=>rfl
 | false=>exact absurd (.inr (.inr (.inl hf))) hc
theorem UI {M:RM} {c p:Bool} {f:ak→Prop} {P:RM→Prop} {G:AV→RM→Prop} (h0:P M) (hf:c=false→∀ k:ak,(∀ M',P M'→k (Bo p) M')→f k) (hG:∀ M',P M'→G (Bo (c || p)) M') :
  af (Bo c) false f (fun k=>k .undef M) (fun t M'=>aH (Bo c) (Bo true) t fun u=>G u M'):=by
 cases c with
 | true=>rw[bM]; dsimp only; rw[cK]; exact hG M h0
 | false=>rw[bg]; exact hf rfl _ fun M' h=>by rw[bK]; exact hG M' h
def IU (TS T:Nat) (c:au) : Prop:=∀ {M:RM} {v:AV} {bs:List UInt8} {Q:ak},Sl BY M v bs→bs.length≤1600000 →
 (tQ bs=none→∀ M',ag [] M M'→Q (.tup [.sc (.pointer none),N .i64 14]) M') →
 (∀ ps es,tQ bs=some (ps,es)→(∀ x∈es,rR x)→(∀ p∈ps,Bd p)→∀ t M',M.next≤t→tL TS T (fun d=>M.next≤d∧d≠t) M' t ps es→ag [] M M'→Q (.tup [.ptr t 0,N .i64 0]) M')→c [v] M Q
theorem aad {TR TS T TU TD TN TB:Nat} {crd ct cdd ci cu cE cH cC cN cS cq:au} (hrd:Nt TR crd) (ht:Tm TR ct) (hdd:Rf T TU cdd) (hi:Qi TR ci) (hu:RU TR cu) (hE:ZE TR cE) (hH:Tx T cH) (hC:GX cC) (hend:VW TR cN) (hen:yG TS T TB cS) (heq:OX cq) :
  IU TS T fun args M Q=>∃ a0,args=[a0]∧MK crd ct TB cdd TS ci cu TD TN cE cH cC cN cS cq a0 M Q:=by
 intro M v b Q hv hlen hNo hSo
 refine⟨_,rfl, ?_⟩
 unfold MK
 simp only[gQ,ig,fQ,gG,fo]
 refine hrd hv (by omega) fun r M1 hr1 hrr k1=>?_
 have s1:Sl BY M1 v b:=aL.keep hv k1 (by simp)
 rw[aL.len s1]
 refine ht hr1 (by omega) fun M2 hr2 k2 n2=>?_
 have tl:=wD (most:=b.length) (bs:=b) (f:=false)
 unfold tQ at hNo hSo
 generalize (df b.length b false).1=t at *
 generalize (df b.length b false).2.1=bs2 at *
 generalize (df b.length b false).2.2=f2 at *
 have rlt:=hr1.lt
 have nn1:=k1.next
 have k02:ag [] M M2:=k1.bG k2 (fun d hd=>.inl (by simp at hd; omega))
 refine⟨t,rfl, ?_⟩
 dsimp only
 rw[bn]
 have k3:ag [] M2 (M2.push (.row (t.map fun b=>N .u8 b.toNat) true TB 0)):=(ag.refl _ _).push _
 have s3:Sl BY (M2.push (.row (t.map fun b=>N .u8 b.toNat) true TB 0)) (.slc M2.next 0 t.length (.op 1)) t:=by
  show aL _ 1 _ (BY.row t) t.length
  rw[yC]
  refine .slc _ _ _ _ _ (by simp[RM.push]) ?_
  rw[RM.dO (RM.aT _) (by simp),Nat.mul_one,List.drop_zero,List.take_of_length_le (by simp)]
 generalize M2.push (.row (t.map fun b=>N .u8 b.toNat) true TB 0)=M3 at *
 have k03:=k02.trans k3
 have nn3:=k3.next
 refine hdd s3 (by omega) (fun hd M4 k4=>?_) (fun ps hd hbi s M4 hs4 hso k4=>?_)
 ·rw[eD,eF,fM,show((14:Int) != 0)=true from rfl,cO]
  exact hNo (by rw[hd]) M4 (k03.trans k4)
 simp only[hd] at hNo hSo
 rw[eD,eF,fM,show((0:Int) != 0)=false from rfl,bJ,eY]
 refine⟨[.ptr s 0,aZ],rfl, ?_⟩
 rw[dU rfl (by simp),bn,bn]
 have nn4:=k4.next
 have hset:iy T (fun d=>s + 1≤d∧d<M4.next) M4 s ps:=hso.setH.below
 have slt:=hset.lt
 have hbd:∀ p∈ps,Bd p:=fun p hp=>by
  obtain⟨b1,b2,b3⟩:=hbi p hp
  exact⟨by omega,by omega,fun x hx=>by have:=b3 x hx; omega⟩
 have hasc:∀ q∈ps,Asc q.2∧q.2.length≤1000000:=fun q hq=>⟨(Sz _ _ (List.all_eq_true.1 (Yr hd) q hq)).1,(hbd q hq).2.1⟩
 have k6:ag [] M4 ((M4.push (.row [AV.ptr s 0,aZ] false TS 0)).push (.map [] 0)):=((ag.refl _ _).push _).push _
 have amw:((M4.push (.row [AV.ptr s 0,aZ] false TS 0)).push (.map [] 0)).heap M4.next=some (.row [.ptr s 0,aZ] false TS 0):=mR (RM.aT _) (by simp[RM.push])
 have afG:((M4.push (.row [AV.ptr s 0,aZ] false TS 0)).push (.map [] 0)).heap (M4.push (.row [AV.ptr s 0,aZ] false TS 0)).next=some (.map (mapD 0 []) 0):=RM.aT _
 have nm:(M4.push (.row [AV.ptr s 0,aZ] false TS 0)).next=M4.next + 1:=rfl
 have nn6:((M4.push (.row [AV.ptr s 0,aZ] false TS 0)).push (.map [] 0)).next=M4.next + 2:=rfl
 rw[nm] at afG
 rw[show(M4.push (.row [AV.ptr s 0,aZ] false TS 0)).next=M4.next + 1 from rfl]
 generalize (M4.push (.row [AV.ptr s 0,aZ] false TS 0)).push (.map [] 0)=M6 at *
 clear nm
 have k36:=k4.trans k6
 have k06:=k03.trans k36
 have s6:Sl BY M6 v b:=aL.keep hv k06 (by simp)
 rw[aL.len s6]
 have hr6:=(hr2.keep k3 (by simp) (by simp)).keep k36 (by simp) (by simp)
 refine hi hr6 (by omega) fun M7 hr7 k7 n7=>?_
 have hnl:=(kN (most:=b.length) (bs:=bs2) (f:=f2)).1
 have hbl3:=(kN (most:=b.length) (bs:=bs2) (f:=f2)).2
 generalize (aR b.length bs2 f2).1=n at *
 generalize (aR b.length bs2 f2).2.1=bs3 at *
 generalize (aR b.length bs2 f2).2.2=f3 at *
 have k07:ag [] M M7:=k06.bG k7 (fun d hd=>.inl (by simp at hd; omega))
 have k47:ag [r,M4.next,M4.next + 1] M4 M7:=(k6.mono (by simp)).trans (k7.mono (by simp))
 have awR:=k7.aD amw (by omega) (by simp; omega)
 have avs:=k7.aD afG (by omega) (by simp; omega)
 clear k7 k6 k36 k06 s6 hr6 amw afG hr2 k3 s3 k02 s1 hr1
 refine aQ (fun z ys M8=>∃ (i:Nat) (bs:List UInt8) (f:Bool) (es:List aS) (dv:AV),z=n - i∧ys=[N .i64 (i:Int)]∧i≤n∧bs.length + 5 * i≤bs3.length∧es.length=i∧sJ TR (fun d=>M.next≤d∧d<r) M8 r bs f∧QG ps n bs3 f3 []=QG ps (n - i) bs f es ∧
   M8.heap M4.next=some (.row [.ptr s 0,dv] false TS 0)∧Ow aK M8 (M4.next + 2) TN dv es∧M8.heap (M4.next + 1)=some (.map (mapD 0 es) es.length)∧(∀ x∈es,rR x)∧ag [] M M8∧ag [r,M4.next,M4.next + 1] M4 M8∧M4.next + 2≤M8.next) _
  ⟨0,bs3,f3,[],aZ,rfl,rfl,Nat.zero_le _,by omega,rfl,hr7,rfl,awR,.nil,avs,by simp,k07,k47,by omega⟩ ?_
 rintro next z ys M8 hnext ⟨i,bs,f,es,dv,rfl,rfl,hin,hbl,hel,hR,hdec,hts,hov,htm,hok,k08,k48,n8⟩
 dsimp only[aa]
 rw[iD]
 refine aJ (fun hlt=>?_) (fun hge=>?_)
 ·have hlt:i<n:=of_decide_eq_true hlt
  rw[show n - i=(n - (i + 1)) + 1 by omega,QG] at hdec
  refine hi (most:=15) hR (by decide) fun M9 hR9 k9 n9=>?_
  have ld:=BC (most:=15) (bs:=bs) (f:=f)
  have d15:=(kN (most:=15) (bs:=bs) (f:=f)).1
  refine hu hR9 fun M10 aev k10 n10=>?_
  have lu:=aaX (bs:=(aR 15 bs f).2.1) (f:=(aR 15 bs f).2.2)
  have u64:=ML (bs:=(aR 15 bs f).2.1) (f:=(aR 15 bs f).2.2)
  generalize (aR 15 bs f).1=dn at *
  generalize eu (aR 15 bs f).2.1 (aR 15 bs f).2.2=uu at *
  obtain⟨un,bs5,f5⟩:=uu
  try dsimp only at u64 hdec aev lu
  have agU:ag [r] M8 M10:=k9.trans k10
  rw[eY]
  refine⟨aM ((dn:Int),un),rfl, ?_⟩
  rw[bn,dB (n:=2) (x:=.agg (aM ((dn:Int),un))) (l:=[(N .i64 0),(N .u64 0)]) (RM.aT _) rfl rfl rfl]
  have k12:ag [] M10 ((M10.push (.row [(N .i64 0),(N .u64 0)] false TD 0)).put M10.next (.row (AV.agg (aM ((dn:Int),un))).cells false TD 0)):=((ag.refl _ _).push _).new _ (Nat.le_refl _)
  have h9:((M10.push (.row [(N .i64 0),(N .u64 0)] false TD 0)).put M10.next (.row (AV.agg (aM ((dn:Int),un))).cells false TD 0)).heap M10.next=some (.row (aM ((dn:Int),un)) false TD 0):=aN _
  have n12:((M10.push (.row [(N .i64 0),(N .u64 0)] false TD 0)).put M10.next (.row (AV.agg (aM ((dn:Int),un))).cells false TD 0)).next=M10.next + 1:=rfl
  generalize (M10.push (.row [(N .i64 0),(N .u64 0)] false TD 0)).put M10.next (.row (AV.agg (aM ((dn:Int),un))).cells false TD 0)=M12 at *
  rw[bI (n:=2) h9 rfl,pF]
  have k13:ag [] M12 (M12.push (.row [(N .i64 0),(N .u64 0),(St []),(St []),(St [])] false TN 0)):=(ag.refl _ _).push _
  have h10:(M12.push (.row [(N .i64 0),(N .u64 0),(St []),(St []),(St [])] false TN 0)).heap M12.next=some (.row [(N .i64 0),(N .u64 0),(St []),(St []),(St [])] false TN 0):=RM.aT _
  have n13:(M12.push (.row [(N .i64 0),(N .u64 0),(St []),(St []),(St [])] false TN 0)).next=M12.next + 1:=rfl
  have h9':=k13.aD h9 (by omega) (by simp)
  generalize M12.push (.row [(N .i64 0),(N .u64 0),(St []),(St []),(St [])] false TN 0)=M13 at *
  have aa0:=(aev.keep k12 (by simp) (by simp)).keep k13 (by simp) (by simp)
  refine ht (most:=64) aa0 (by decide) fun M14 af0 k14 n14=>?_
  have ls1:=yL (most:=64) (bs:=bs5) (f:=f5)
  have c64:=(wD (most:=64) (bs:=bs5) (f:=f5)).1
  generalize df 64 bs5 f5=cc at *
  obtain⟨cn,bs6,f6⟩:=cc
  try dsimp only at c64 hdec af0 ls1 ⊢
  have agm:=k14.aD h9' (by omega) (by simp; omega)
  have abX:=k14.aD h10 (by omega) (by simp; omega)
  rw[bI (n:=2) agm rfl]
  refine⟨rfl,⟨abX,rfl⟩, ?_⟩
  refine ht (most:=64) af0 (by decide) fun M15 agZ k15 n15=>?_
  have ls2:=yL (most:=64) (bs:=bs6) (f:=f6)
  have g64:=(wD (most:=64) (bs:=bs6) (f:=f6)).1
  generalize df 64 bs6 f6=gg at *
  obtain⟨gn,bs7,f7⟩:=gg
  try dsimp only at g64 hdec agZ ls2 ⊢
  have afm:=k15.aD agm (by omega) (by simp; omega)
  have aak:=k15.aD abX (by omega) (by simp; omega)
  rw[bI (n:=2) afm rfl]
  refine⟨rfl,⟨aak,rfl⟩, ?_⟩
  refine ht (most:=512) agZ (by decide) fun M16 ae7 k16 n16=>?_
  have ls3:=yL (most:=512) (bs:=bs7) (f:=f7)
  have axI:=(wD (most:=512) (bs:=bs7) (f:=f7)).1
  generalize df 512 bs7 f7=vv at *
  obtain⟨vn,bs8,f8⟩:=vv
  try dsimp only at axI hdec ae7 ls3 ⊢
  have ad7:=k16.aD afm (by omega) (by simp; omega)
  have aaQ:=k16.aD aak (by omega) (by simp; omega)
  rw[bI (n:=2) ad7 rfl]
  refine⟨rfl,⟨aaQ,rfl⟩, ?_⟩
  rw[eY]
  refine⟨aK.cells ((((dn:Int),un),(cn,(gn,vn))) : aS),rfl, ?_⟩
  rw[dB (n:=5) (x:=.agg (aK.cells ((((dn:Int),un),(cn,(gn,vn))) : aS))) aaQ rfl rfl (Qd _)]
  have k17:ag [M12.next] M16 (M16.put M12.next (.row (AV.agg (aK.cells ((((dn:Int),un),(cn,(gn,vn))) : aS))).cells false TN 0)):=(ag.refl _ _).put _ (.inr (by simp))
  have aiq:(M16.put M12.next (.row (AV.agg (aK.cells ((((dn:Int),un),(cn,(gn,vn))) : aS))).cells false TN 0)).heap M12.next=some (.row (aK.cells ((((dn:Int),un),(cn,(gn,vn))) : aS)) false TN 0):=aN _
  have n17:(M16.put M12.next (.row (AV.agg (aK.cells ((((dn:Int),un),(cn,(gn,vn))) : aS))).cells false TN 0)).next=M16.next:=rfl
  have ab6:=k17.aD ad7 (by omega) (by simp; omega)
  generalize M16.put M12.next (.row (AV.agg (aK.cells ((((dn:Int),un),(cn,(gn,vn))) : aS))).cells false TN 0)=M17 at *
  have avk:rR ((((dn:Int),un),(cn,(gn,vn))) : aS):=⟨by simp,by show(dn:Int)<16; omega,u64,by show cn.length≤_; omega,by show gn.length≤_; omega,by show vn.length≤_; omega⟩
  have hdx:(((((dn:Int),un),(cn,(gn,vn))) : aS)).1=((dn:Int),un):=rfl
  generalize hx:((((dn:Int),un),(cn,(gn,vn))) : aS)=x at *
  have hxc:x.2.1=cn:=by rw[← hx]
  have hxg:x.2.2.1=gn:=by rw[← hx]
  rw[← hdx] at hdec ab6
  have n8':=agU.next
  have ahM:ag [r] M12 M16:=(k13.mono (by simp)).trans ((k14.trans k15).trans k16)
  have aiC:ag [r] M8 M16:=agU.trans ((k12.mono (by simp)).trans ahM)
  have PL:ag [r] M8 M17:=aiC.bG k17 (fun d hd=>.inl (by simp at hd; omega))
  have ahR:=PL.aD hts (by omega) (by simp; omega)
  have aiK:=PL.aD htm (by omega) (by simp; omega)
  have aio:=hov.keep PL (fun d hd hm=>by simp at hm; have:=(hov.blk d hd).1; omega)
  have ahw:ag [] M M17:=k08.bG PL (fun d hd=>.inl (by simp at hd; omega))
  have ak5:ag [r,M4.next,M4.next + 1] M4 M17:=k48.trans (PL.mono (by simp))
  have am6:=ae7.keep k17 (by simp; omega) (fun d hd h=>by simp at hd; omega)
  have n817:=PL.next
  clear hR hR9 aev aa0 af0 agZ ae7 k9 k10 k12 k13 k14 k15 k16 k17 agU ahM aiC h9 h9' agm afm ad7 h10 abX aak aaQ hts htm hov
  refine hE am6 ?_
  rw[fM,show((if f8 then(14:Int) else 0) != 0)=f8 by cases f8 <;> rfl]
  refine UI (P:=fun M'=>ag [] M17 M') (p:=!gz ps x.1) (ag.refl _ _) (fun _ K hK=>?_) fun M18 k18=>?_
  ·rw[bI (n:=2) ab6 rfl]
   refine hH (hset.keep ak5 (by simp; omega) (fun d hd h=>by simp at hd; omega)) hasc fun M' k'=>?_
   rw[aY]
   exact hK M' k'
  have axC:=k18.aD ab6 (by omega) (by simp)
  have Zz:=k18.aD aiq (by omega) (by simp)
  have arW:=k18.aD aiK (by omega) (by simp)
  have ah4:=k18.aD ahR (by omega) (by simp)
  refine mE (p:=met es x.1) (fun _ K hK=>?_) ?_
  ·rw[bI (n:=2) axC rfl]
   exact ajn arW hK
  refine mE (p:=cn == []) (fun _ K hK=>?_) ?_
  ·rw[aO,aj (i:=0 + 2) (x:=St x.2.1) Zz rfl,qV,hxc]
   exact hK
  refine mE (p:=gn == []) (fun _ K hK=>?_) ?_
  ·rw[aO,aj (i:=0 + 3) (x:=St x.2.2.1) Zz rfl,qV,hxg]
   exact hK
  refine aJ (fun hc=>?_) (fun hc=>?_)
  ·rw[if_pos hc] at hdec
   exact hNo (by rw[hdec]) M18 (ahw.trans k18)
  rw[if_neg (by rw[hc]; decide)] at hdec
  have ahK:=aio.keep k18 (by simp)
  rw[aI,aO,aj (i:=0 + 1) ah4 rfl,aL.len ahK.jm,dF]
  refine ati (P:=fun M'=>ag [] M18 M') (p:=Ee es x) (ag.refl _ _) (fun hpos K hK=>?_) fun M19 k19=>?_
  ·have hpos:0<es.length:=by
    have:(es.length:Int) > 0:=of_decide_eq_true hpos
    omega
   rw[aI,aO,aj (i:=0 + 1) ah4 rfl,dM hpos (by omega),IG ahK.jm (i:=es.length - 1) (by omega),bI (n:=5) Zz rfl]
   refine hC fun M' k'=>?_
   rw[iR]
   have e:decide (f3E (es[es.length - 1]'(by omega)) x ≥ 0)=Ee es x:=by
    unfold Ee
    rw[List.getLast?_eq_getElem?,List.getElem?_eq_getElem (by omega)]
    dsimp only
    rw[← am9,← decide_not]
    congr 1
    exact propext ⟨fun h=>by omega,fun h=>by omega⟩
   rw[e]
   exact hK M' k'
  have hlast:(decide ((es.length:Int) > 0) && Ee es x)=Ee es x:=by
   cases es with
   | nil=>rfl
   | cons y es=>rw[decide_eq_true (by simp),Bool.true_and]
  rw[hlast]
  refine aJ (fun hc2=>?_) (fun hc2=>?_)
  ·rw[if_pos hc2] at hdec
   exact hNo (by rw[hdec]) M19 ((ahw.trans k18).trans k19)
  rw[if_neg (by rw[hc2]; decide)] at hdec
  have E9:=k18.trans k19
  have avg:=E9.aD ab6 (by omega) (by simp)
  have ary:=E9.aD aiq (by omega) (by simp)
  have atS:=E9.aD aiK (by omega) (by simp)
  have asE:=E9.aD ahR (by omega) (by simp)
  have ahO:=aio.keep E9 (by simp)
  have n19:=E9.next
  have aw8:bs8.length + 5 * (i + 1)≤bs3.length:=by
   simp only[Bool.or_eq_false_iff] at hc
   obtain⟨a1,rfl⟩:=ls3 hc.1.1.1.1
   obtain⟨a2,rfl⟩:=ls2 rfl
   obtain⟨a3,rfl⟩:=ls1 rfl
   obtain⟨a4,hf5⟩:=lu rfl
   obtain⟨a5,_⟩:=ld hf5
   omega
  have hmet:met es x.1=false:=by
   simp only[Bool.or_eq_false_iff] at hc
   exact hc.1.1.2
  rw[bI (n:=2) avg rfl]
  refine aj7 atS hmet ?_
  have k20:ag [M4.next + 1] M19 (M19.put (M4.next + 1) (.map (mapD 0 (es++[x])) (es++[x]).length)):=(ag.refl _ _).put _ (.inr (by simp))
  have ar3:(M19.put (M4.next + 1) (.map (mapD 0 (es++[x])) (es++[x]).length)).heap (M4.next + 1)=some (.map (mapD 0 (es++[x])) (es++[x]).length):=aN _
  have n20:(M19.put (M4.next + 1) (.map (mapD 0 (es++[x])) (es++[x]).length)).next=M19.next:=rfl
  have aie:=k20.aD asE (by omega) (by simp)
  have atb:=k20.aD ary (by omega) (by simp; omega)
  have Tj:=ahO.keep k20 (fun d hd hm=>by simp at hm; have:=(ahO.blk d hd).1; omega)
  generalize M19.put (M4.next + 1) (.map (mapD 0 (es++[x])) (es++[x]).length)=M20 at *
  rw[aI,aO,aj (i:=0 + 1) aie rfl,bI (n:=5) atb rfl,sI (x:=.agg (aK.cells x)) (size:=5) rfl (Qd x) rfl,pF]
  refine KH (E:=aK) (a:=x) Tj (by omega) (by decide) (by omega) (by omega) fun v2 M21 o21 k21 n21 _=>?_
  have arT:=k21.aD aie (by omega) (fun hm=>by have:=(Tj.blk _ hm).1; omega)
  have atH:=k21.aD ar3 (by omega) (fun hm=>by have:=(Tj.blk _ hm).1; omega)
  rw[aI,aO,jy [.ptr s 0,v2] arT (by simp) (aL.cells o21.jm) (aL.one o21.jm) rfl]
  have k22:ag [M4.next] M21 (M21.put M4.next (.row [.ptr s 0,v2] false TS 0)):=(ag.refl _ _).put _ (.inr (by simp))
  rw[add1 (by omega)]
  have aco:ag [M4.next + 1] M17 M20:=(E9.mono (by simp)).trans k20
  have aca:∀ d∈aG dv,M4.next + 2≤d:=fun d hd=>(Tj.blk d hd).1
  have awO:ag [] M M20:=ahw.bG aco (fun d hd=>.inl (by simp at hd; omega))
  have av8:ag [] M M21:=awO.bG k21 (fun d hd=>.inl (by have:=aca d hd; omega))
  have awe:=av8.bG k22 (fun d hd=>.inl (by simp at hd; omega))
  have q20:ag [r,M4.next,M4.next + 1] M4 M20:=ak5.trans (aco.mono (by simp))
  have q21:ag [r,M4.next,M4.next + 1] M4 M21:=q20.bG k21 (fun d hd=>.inl (by have:=aca d hd; omega))
  have q22:ag [r,M4.next,M4.next + 1] M4 (M21.put M4.next (.row [.ptr s 0,v2] false TS 0)):=q21.trans (k22.mono (by simp))
  refine hnext _ _ _ (by omega) ⟨i + 1,bs8,f8,es++[x],v2,rfl,rfl,by omega,aw8,by simp[hel], ?_,hdec,aN _, ?_,k22.aD atH (by omega) (by simp),fun y hy=>?_,awe,q22,by rw[jk]; omega⟩
  ·exact((am6.keep aco (by simp; omega) (fun d hd h=>by simp at hd; omega)).keep k21 (fun hm=>by have:=aca _ hm; omega) (fun d hd h=>by have:=aca d hd; omega)).keep k22 (by simp; omega) (fun d hd h=>by simp at hd; omega)
  ·exact o21.keep k22 (fun d hd hm=>by simp at hm; have:=(o21.blk d hd).1; omega)
  ·rcases List.mem_append.1 hy with hy | hy
   ·exact hok y hy
   ·rw[List.mem_singleton] at hy; subst hy; exact avk
 -- the end
 have hie:i=n:=by
  have:¬ i<n:=of_decide_eq_false hge
  omega
 subst hie
 rw[Nat.sub_self,QG] at hdec
 rw[hdec] at hNo hSo
 dsimp only at hNo hSo
 refine hend hR ?_
 rw[fM,show((if f || !bs.isEmpty then(14:Int) else 0) != 0)=(f || !bs.isEmpty) by cases(f || !bs.isEmpty) <;> rfl]
 have hst:tL TS T (fun d=>M.next≤d∧d≠M4.next) M8 M4.next ps es:=by
  refine⟨by omega,⟨s,dv,hts,⟨_,hset.keep k48 (by simp; omega) (fun d hd h=>by simp at hd; omega),fun d hd=>?_⟩,hov.jm, ?_,fun d hd=>?_⟩,fun h=>h.2 rfl⟩
  ·exact⟨by omega,by omega⟩
  ·exact⟨by omega,by omega⟩
  ·have:=(hov.blk d hd).1
   exact⟨by omega,by omega⟩
 refine UI (P:=fun M'=>ag [] M8 M') (p:=!(Jl ps es == b)) (ag.refl _ _) (fun _ K hK=>?_) fun M9 k9=>?_
 ·refine hen hst hbd hok (by omega) fun r1 M' o1 _ k'=>?_
  have sv:Sl BY M' v b:=aL.keep hv (k08.trans k') (by simp)
  refine heq (Own.sl o1) sv ?_
  rw[aY]
  exact hK M' k'
 refine aJ (fun hc=>?_) (fun hc=>?_)
 ·rw[if_pos hc] at hNo
  exact hNo rfl M9 (k08.trans k9)
 ·rw[if_neg (by rw[hc]; decide)] at hSo
  exact hSo ps es rfl hok hbd M4.next M9 (by omega) (hst.keep k9 (by simp) (by simp)) (k08.trans k9)
structure ayi (ps:List Pt) (x:aS) : Prop where
 d0:0≤x.1.1
 d1:x.1.1<16
 n:x.1.2<2 ^ 64
 c:x.2.1.length≤64
 f:x.2.2.1.length≤64
 v:x.2.2.2.length≤512
 c0:x.2.1≠[]
 f0:x.2.2.1≠[]
 has:gz ps x.1=true
theorem yH (v:Nat) : 1≤(bE v).length:=by
 rw[bE]
 split <;> simp
theorem nT {f g:Prop→Prop} {k:Prop} : BG (Bo false) true f g k=g k:=rfl
section
variable {TS T:Nat} {M0 M M' : RM} {os:List Obj} {t:Nat} {B B' : Nat→Prop} {s s' : pR}
end
theorem JA.axw {l:List Ev} {ps:List Pt} {es:List aS} (h:JA l ps es) : (encS ps).length≤650000:=by
 have hd:=h.doc
 have hl:=h.axa
 have hu:=Zr (u:=[]) (v:=jR l)
 have hpl:(parts ps).length≤16:=vM ps 16
 have hb:∀ p∈parts ps,(nu p).length≤30 + 10 * 3900:=fun p hp=>by
  rw[hd.parts] at hp
  have:=OL hd.good _ (Nat.le_refl _) p hp
  have:=acv (n:=(EO [] (jR l)).length) (by simp at hu; omega) this
  simp at hu
  omega
 have:=aht hb
 have u10:=bW (v:=(parts ps).length) (by omega)
 have:(parts ps).length * (30 + 10 * 3900)≤16 * (30 + 10 * 3900):=Nat.mul_le_mul_right _ hpl
 rw[encS,agv,List.length_append]
 omega
def kY (d:ay) : List UInt8:=bE d.1.toNat++bE d.2
def Jp (e:gp) (ks:List ay) : List UInt8:=bE e.1.1.toNat++bE e.1.2++bE e.2.1.toNat++eU e.2.2.1++eU e.2.2.2.1++eU e.2.2.2.2++bE ks.length++ks.flatMap kY
structure avB (e:gp) (ks:List ay) : Prop where
 d0:0≤e.1.1
 d1:e.1.1<16
 n:e.1.2<2 ^ 64
 op:e.2.1=1∨e.2.1=2
 c:e.2.2.1.length≤64
 f:e.2.2.2.1.length≤64
 v:e.2.2.2.2.length≤512
 k:ks.length≤64
 kd:∀ d∈ks,0≤d.1∧d.1<16∧d.2<2 ^ 64
theorem Ry {e:gp} {ks:List ay} (h:bz e ks=true) : avB e ks:=by
 have h0:=qY h
 simp only[bz,Bool.and_eq_true,names,decide_eq_true_eq] at h
 obtain⟨⟨⟨⟨h1,⟨⟨h2,h3⟩,h4⟩,h5⟩,_⟩,_⟩,h6⟩:=h
 have hd:=uH h1
 simp only[Bw,Bool.or_eq_true,Bool.and_eq_true,decide_eq_true_eq] at h6
 refine⟨hd.1,hd.2.1,by omega, ?_,h3,h4,h5,h0.2.1,fun d hk=>?_⟩
 ·rcases h6 with h | h
  ·exact .inl h.1
  ·exact .inr h.1
 ·have:=uH (h0.2.2.1 d hk)
  exact⟨this.1,this.2.1,by omega⟩
theorem afF {d:ay} (h:0≤d.1∧d.1<16∧d.2<2 ^ 64) : (kY d).length≤20:=by
 have a1:=bW (v:=d.1.toNat) (by omega)
 have a2:=bW h.2.2
 rw[kY,List.length_append]; omega
theorem IM {ks:List ay} (h:∀ d∈ks,0≤d.1∧d.1<16∧d.2<2 ^ 64) : ∀ i,((ks.take i).flatMap kY).length≤20 * i
 | 0=>by simp
 | i + 1=>by
   have ih:=IM h i
   by_cases hi:i<ks.length
   ·rw[List.take_succ_eq_append_getElem hi,List.flatMap_append,List.length_append,List.flatMap_singleton]
    have:=afF (h _ (List.getElem_mem hi))
    omega
   ·rw[List.take_of_length_le (by omega)] at ih ⊢
    omega
theorem Oh {ks:List ay} {i:Nat} (h:i<ks.length) (p:List UInt8) : p++(ks.take (i + 1)).flatMap kY=(p++(ks.take i).flatMap kY)++kY ks[i]:=by
 rw[List.take_succ_eq_append_getElem h,List.flatMap_append,List.flatMap_singleton,List.append_assoc]
def Il (T:Nat) (c:au) : Prop:=∀ {M:RM} {e:gp} {kv:AV} {ks:List ay} {Q:ak},Sl dV M kv ks →
 (bz e ks=false→∀ M',ag [] M M'→Q (.tup [aZ,N .i64 1]) M') →
 (bz e ks=true→∀ r M',Own M' M.next T 1 r (dL (Jp e ks)) (Jp e ks).length→ag [] M M'→Q (.tup [r,N .i64 0]) M')→c [.agg (aP e kv)] M Q
theorem aaJ {TE TD TB:Nat} {cG cu ct:au} (hG:qy cG) (hu:BV TB cu) (ht:EP TB ct) : Il TB fun args M Q=>∃ a0,args=[a0]∧yP TE cG cu ct TD a0 M Q:=by
 intro M e kv ks Q hkv hbad hok
 refine⟨_,rfl, ?_⟩
 unfold yP
 rw[dU (oI hkv) (by simp),bn]
 have k0:ag [] M (M.push (.row (aP e kv) false TE 0)):=(ag.refl _ _).push _
 have h0:(M.push (.row (aP e kv) false TE 0)).heap M.next=some (.row (aP e kv) false TE 0):=RM.aT _
 have n0:(M.push (.row (aP e kv) false TE 0)).next=M.next + 1:=rfl
 generalize M.push (.row (aP e kv) false TE 0)=M1 at *
 have s1:Sl dV M1 kv ks:=aL.keep hkv k0 (by simp)
 rw[bI (n:=7) h0 rfl]
 refine hG s1 fun M2 k2=>?_
 rw[aY]
 have k02:=k0.trans k2
 refine aJ (fun hg=>?_) (fun hg=>?_)
 ·exact hbad (by simpa using hg) M2 k02
 have hg:bz e ks=true:=by simpa using hg
 obtain⟨e1,e2,e3,e4,e5,e6,e7,e8,e9⟩:=Ry hg
 have hg0:0≤e.2.1:=by rcases e4 with h | h <;> omega
 have hg1:e.2.1<3:=by rcases e4 with h | h <;> omega
 have h2:=k2.aD h0 (by omega) (by simp)
 have n2:=k2.next
 have a1:=bW (v:=e.1.1.toNat) (by omega)
 have a2:=bW e3
 have a3:=bW (v:=e.2.1.toNat) (by omega)
 have a4:=gX (s:=e.2.2.1) (by omega)
 have a5:=gX (s:=e.2.2.2.1) (by omega)
 have a6:=gX (s:=e.2.2.2.2) (by omega)
 have a7:=bW (v:=ks.length) (by omega)
 rw[aU,aU,aj (i:=0) (x:=N .i64 e.1.1) h2 rfl,dY,dw (by omega) (by omega),aU,aO,aj (i:=0 + 1) (x:=N .u64 (e.1.2:Int)) h2 rfl,aO,aj (i:=0 + 2) (x:=N .i64 e.2.1) h2 rfl,dY,dw (by omega) (by omega)]
 rw[show e.1.1=((e.1.1.toNat:Nat) : Int) by omega]
 refine hu.app (L:=[]) (base:=M.next) .nil (by omega) (by simp) (by omega) fun b3 M3 o3 k3=>?_
 rw[List.nil_append] at o3
 have h3:=k3.aD h2 (by omega) (by simp)
 have n3:=k3.next
 rw[aj (i:=0 + 1) (x:=N .u64 (e.1.2:Int)) h3 rfl]
 refine⟨rfl, ?_⟩
 rw[aj (i:=0 + 2) (x:=N .i64 e.2.1) h3 rfl]
 refine⟨rfl, ?_⟩
 refine hu.app o3 (by omega) (by omega) e3 fun b4 M4 o4 k4=>?_
 have h4:=k4.aD h3 (by omega) (by simp)
 have n4:=k4.next
 rw[aj (i:=0 + 2) (x:=N .i64 e.2.1) h4 rfl]
 refine⟨rfl, ?_⟩
 rw[show e.2.1=((e.2.1.toNat:Nat) : Int) by omega]
 refine hu.app o4 (by omega) (by rw[List.length_append]; omega) (by omega) fun b5 M5 o5 k5=>?_
 have h5:=k5.aD h4 (by omega) (by simp)
 have n5:=k5.next
 rw[aO,aj (i:=0 + 3) (x:=St e.2.2.1) h5 rfl,aO,aj (i:=0 + 4) (x:=St e.2.2.2.1) h5 rfl,aO,aj (i:=0 + 5) (x:=St e.2.2.2.2) h5 rfl]
 refine ht (Own.sl o5) (by simp only[List.length_append]; omega) fun b6 M6 o6 k6=>?_
 have h6:=k6.aD h5 (by omega) (by simp)
 have n6:=k6.next
 rw[aj (i:=0 + 4) (x:=St e.2.2.2.1) h6 rfl]
 refine⟨rfl, ?_⟩
 rw[aj (i:=0 + 5) (x:=St e.2.2.2.2) h6 rfl]
 refine⟨rfl, ?_⟩
 refine ht (Own.sl o6) (by simp only[List.length_append]; omega) fun b7 M7 o7 k7=>?_
 have h7:=k7.aD h6 (by omega) (by simp)
 have n7:=k7.next
 rw[aj (i:=0 + 5) (x:=St e.2.2.2.2) h7 rfl]
 refine⟨rfl, ?_⟩
 refine ht (Own.sl o7) (by simp only[List.length_append]; omega) fun b8 M8 o8 k8=>?_
 have h8:=k8.aD h7 (by omega) (by simp)
 have n8:=k8.next
 have k18:ag [] M1 M8:=k2.trans (k3.trans (k4.trans (k5.trans (k6.trans (k7.trans k8)))))
 have s8:Sl dV M8 kv ks:=aL.keep s1 k18 (by simp)
 rw[aO,aj (i:=0 + 6) (x:=kv) h8 rfl,aL.len s8,dY,dw (by omega) (by omega)]
 refine hu.app (o8.mono (base':=M.next) (by omega)) (by omega) (by simp only[List.length_append]; omega) (by omega) fun b9 M9 o9 k9=>?_
 have h9:=k9.aD h8 (by omega) (by simp)
 have n9:=k9.next
 have s9:Sl dV M9 kv ks:=aL.keep s8 k9 (by simp)
 rw[aO,aj (i:=0 + 6) (x:=kv) h9 rfl,aL.len s9]
 have hpl:(bE e.1.1.toNat++bE e.1.2++bE e.2.1.toNat++eU e.2.2.1++eU e.2.2.2.1++eU e.2.2.2.2++bE ks.length).length≤1000:=by simp only[List.length_append]; omega
 unfold Jp at hok
 generalize bE e.1.1.toNat++bE e.1.2++bE e.2.1.toNat++eU e.2.2.1++eU e.2.2.2.1++eU e.2.2.2.2++bE ks.length=p at *
 have k09:ag [] M M9:=k0.trans (k18.trans k9)
 refine aQ (fun z ys M10=>∃ (i:Nat) (dv:AV),z=ks.length - i∧ys=[dv,N .i64 (i:Int)]∧i≤ks.length∧ag [] M9 M10∧Own M10 M.next TB 1 dv (dL (p++(ks.take i).flatMap kY)) (p++(ks.take i).flatMap kY).length) _
  ⟨0,b9,rfl,rfl,Nat.zero_le _,ag.refl _ _,by simpa using o9⟩ ?_
 rintro next z ys M10 hnext ⟨i,dv,rfl,rfl,hil,k10,o10⟩
 dsimp only[aa]
 rw[iD]
 refine aJ (fun hlt=>?_) (fun hge=>?_)
 ·have hlt:i<ks.length:=of_decide_eq_true hlt
  have n10:=k10.next
  have hfl:=IM e9 i
  have hLl:(p++(ks.take i).flatMap kY).length≤1000 + 20 * 64:=by rw[List.length_append]; omega
  have hstep:∀ w M',ag [] M9 M'→Own M' M.next TB 1 w (dL ((p++(ks.take i).flatMap kY)++kY ks[i])) ((p++(ks.take i).flatMap kY)++kY ks[i]).length→next [w,N .i64 ((i + 1:Nat) : Int)] M':=fun w M' k o=>by
   refine hnext _ _ _ (by omega) ⟨i + 1,w,rfl,rfl,by omega,k, ?_⟩
   rw[Oh hlt]; exact o
  obtain⟨d0,d1,d2⟩:=e9 _ (List.getElem_mem hlt)
  rw[oW (aL.keep s9 k10 (by simp)) hlt]
  generalize p++(ks.take i).flatMap kY=L at *
  generalize ks[i]=d at *
  rw[bn,dB (n:=2) (x:=.agg (aM d)) (l:=[(N .i64 0),(N .u64 0)]) (RM.aT _) rfl rfl rfl]
  have k11:ag [] M10 ((M10.push (.row [(N .i64 0),(N .u64 0)] false TD 0)).put M10.next (.row (AV.agg (aM d)).cells false TD 0)):=((ag.refl _ _).push _).new _ (Nat.le_refl _)
  have h11:((M10.push (.row [(N .i64 0),(N .u64 0)] false TD 0)).put M10.next (.row (AV.agg (aM d)).cells false TD 0)).heap M10.next=some (.row (aM d) false TD 0):=aN _
  have n11:((M10.push (.row [(N .i64 0),(N .u64 0)] false TD 0)).put M10.next (.row (AV.agg (aM d)).cells false TD 0)).next=M10.next + 1:=rfl
  have o11:=o10.keep k11 (by simp)
  generalize (M10.push (.row [(N .i64 0),(N .u64 0)] false TD 0)).put M10.next (.row (AV.agg (aM d)).cells false TD 0)=M11 at *
  rw[aU,aj (i:=0) (x:=N .i64 d.1) h11 rfl,dY,dw (by omega) (by omega),aO,aj (i:=0 + 1) (x:=N .u64 (d.2:Int)) h11 rfl]
  rw[show d.1=((d.1.toNat:Nat) : Int) by omega]
  refine hu.app o11 (by omega) (by omega) (by omega) fun b12 M12 o12 k12=>?_
  have c1:=bW (v:=d.1.toNat) (by omega)
  rw[aj (i:=0 + 1) (x:=N .u64 (d.2:Int)) (k12.aD h11 (by omega) (by simp)) rfl]
  refine⟨rfl, ?_⟩
  have n12:=k12.next
  refine hu.app o12 (by omega) (by rw[List.length_append]; omega) d2 fun b13 M13 o13 k13=>?_
  rw[add1 (by omega)]
  refine hstep b13 M13 (((k10.trans k11).trans k12).trans k13) ?_
  rw[show L++kY d=L++bE d.1.toNat++bE d.2 by simp[kY]]
  exact o13
 ·have he:i=ks.length:=by
   have:¬ i<ks.length:=of_decide_eq_false hge
   omega
  subst he
  rw[List.take_length] at o10
  exact hok hg dv M10 o10 (k09.trans k10)
def Qr (c:au) : Prop:=∀ {M:RM} {e f:gp} {kv lv:AV} {ks ls:List ay} {Q:ak},Sl dV M kv ks→Sl dV M lv ls→ks.length≤100000 →
 (∀ M',ag [] M M'→Q (Bo (decide (e=f) && decide (ks=ls))) M')→c [.agg (aP e kv),.agg (aP f lv)] M Q
theorem Yy {TE:Nat} : Qr fun args M Q=>∃ a0 a1,args=[a0,a1]∧Du TE a0 a1 M Q:=by
 intro M e f kv lv ks ls Q hk hl hlen hQ
 refine⟨_,_,rfl, ?_⟩
 unfold Du
 simp only[gQ,ig,fQ,gG]
 rw[dU (oI hk) (by simp),bn,dU (oI hl) (by simp),bn]
 have k0:ag [] M ((M.push (.row (aP e kv) false TE 0)).push (.row (aP f lv) false TE 0)):=((ag.refl _ _).push _).push _
 have h1:((M.push (.row (aP e kv) false TE 0)).push (.row (aP f lv) false TE 0)).heap M.next=some (.row (aP e kv) false TE 0):=mR (RM.aT _) (by simp[RM.push])
 have h2:((M.push (.row (aP e kv) false TE 0)).push (.row (aP f lv) false TE 0)).heap (M.push (.row (aP e kv) false TE 0)).next=some (.row (aP f lv) false TE 0):=RM.aT _
 generalize (M.push (.row (aP e kv) false TE 0)).push (.row (aP f lv) false TE 0)=M1 at *
 generalize (M.push (.row (aP e kv) false TE 0)).next=b2 at *
 have sk:Sl dV M1 kv ks:=aL.keep hk k0 (by simp)
 have sl:Sl dV M1 lv ls:=aL.keep hl k0 (by simp)
 rw[aU,xW h1,aU,xW h2,qX rfl rfl (Bl _ _)]
 refine mE (p:=e.2.1 != f.2.1) (fun _ K hK=>?_) ?_
 ·rw[aO,aj (i:=0 + 2) (x:=N .i64 e.2.1) h1 rfl,aO,aj (i:=0 + 2) (x:=N .i64 f.2.1) h2 rfl,fM]; exact hK
 refine mE (p:=e.2.2.1 != f.2.2.1) (fun _ K hK=>?_) ?_
 ·rw[aO,aj (i:=0 + 3) (x:=St e.2.2.1) h1 rfl,aO,aj (i:=0 + 3) (x:=St f.2.2.1) h2 rfl,uN]; exact hK
 refine mE (p:=e.2.2.2.1 != f.2.2.2.1) (fun _ K hK=>?_) ?_
 ·rw[aO,aj (i:=0 + 4) (x:=St e.2.2.2.1) h1 rfl,aO,aj (i:=0 + 4) (x:=St f.2.2.2.1) h2 rfl,uN]; exact hK
 refine mE (p:=e.2.2.2.2 != f.2.2.2.2) (fun _ K hK=>?_) ?_
 ·rw[aO,aj (i:=0 + 5) (x:=St e.2.2.2.2) h1 rfl,aO,aj (i:=0 + 5) (x:=St f.2.2.2.2) h2 rfl,uN]; exact hK
 refine mE (p:=(ks.length:Int) != (ls.length:Int)) (fun _ K hK=>?_) ?_
 ·rw[aO,aj (i:=0 + 6) (x:=kv) h1 rfl,aL.len sk,aO,aj (i:=0 + 6) (x:=lv) h2 rfl,aL.len sl,fM]; exact hK
 refine aJ (fun hc=>?_) (fun hc=>?_)
 ·have:(decide (e=f) && decide (ks=ls))=false:=by
   rw[Bool.and_eq_false_iff]
   by_cases he:e=f
   ·right
    subst he
    simp at hc
    exact decide_eq_false fun h=>by subst h; simp at hc
   ·exact .inl (decide_eq_false he)
  rw[this] at hQ
  exact hQ M1 k0
 have hef:e=f∧ks.length=ls.length:=by
  simp only[Bool.or_eq_false_iff,bne_eq_false_iff_eq,Bool.bne_true,Bool.not_eq_false',decide_eq_true_eq] at hc
  obtain⟨⟨⟨⟨⟨c1,c2⟩,c3⟩,c4⟩,c5⟩,c6⟩:=hc
  obtain⟨d,op,c,fl,v⟩:=e
  obtain⟨d',op',c',fl',v'⟩:=f
  simp only at c1 c2 c3 c4 c5
  subst c1 c2 c3 c4 c5
  exact⟨rfl,by omega⟩
 obtain⟨rfl,sj⟩:=hef
 rw[decide_eq_true (rfl:e=e),Bool.true_and] at hQ
 refine aQ (fun z ys M3=>∃ i:Nat,z=ks.length - i∧ys=[N .i64 (i:Int)]∧i≤ks.length∧M3=M1∧(ks=ls↔ks.drop i=ls.drop i)) _ ⟨0,rfl,rfl,Nat.zero_le _,rfl,Iff.rfl⟩ ?_
 rintro next z ys M3 hnext ⟨i,rfl,rfl,hi,rfl,hm⟩
 dsimp only[aa]
 rw[aO,aj (i:=0 + 6) (x:=kv) h1 rfl,aL.len sk,iD]
 refine aJ (fun hlt=>?_) (fun hge=>?_)
 ·have hlt:i<ks.length:=of_decide_eq_true hlt
  rw[List.drop_eq_getElem_cons hlt,List.drop_eq_getElem_cons (show i<ls.length by omega),List.cons.injEq] at hm
  rw[aO,aj (i:=0 + 6) (x:=kv) h1 rfl,oW sk hlt,aO,aj (i:=0 + 6) (x:=lv) h2 rfl,oW sl (by omega),qX rfl rfl (Bl _ _)]
  refine aJ (fun he=>?_) (fun he=>?_)
  ·have he:¬ ks[i]=ls[i]'(by omega):=by simpa using he
   rw[decide_eq_false (fun e0=>he (hm.1 e0).1)] at hQ
   exact hQ _ k0
  ·have he:ks[i]=ls[i]'(by omega):=by simpa using he
   rw[add1 (by omega)]
   exact hnext _ _ _ (by omega) ⟨i + 1,rfl,rfl,by omega,rfl,hm.trans ⟨fun h=>h.2,fun h=>⟨he,h⟩⟩⟩
 ·have he:i=ks.length:=by
   have:¬ i<ks.length:=of_decide_eq_false hge
   omega
  subst he
  rw[List.drop_length,sj,List.drop_length] at hm
  rw[decide_eq_true (hm.2 rfl)] at hQ
  exact hQ _ k0
def qi:Nat→List UInt8→Bool→List ay→List UInt8 × Bool × List ay
 | 0,bs,f,ks=>(bs,f,ks)
 | k + 1,bs,f,ks=>qi k (eu (aR 15 bs f).2.1 (aR 15 bs f).2.2).2.1 (eu (aR 15 bs f).2.1 (aR 15 bs f).2.2).2.2 (ks++[(((aR 15 bs f).1:Int),(eu (aR 15 bs f).2.1 (aR 15 bs f).2.2).1)])
abbrev vw:=Nat × List UInt8 × Bool
abbrev Nw:=List UInt8 × List UInt8 × Bool
abbrev ND:=gp × List ay × List UInt8 × Bool
def Zu (e:gp) (n:vw) : ND:=(e,(qi n.1 n.2.1 n.2.2 []).2.2,(qi n.1 n.2.1 n.2.2 []).1,(qi n.1 n.2.1 n.2.2 []).2.1)
def Zh (d u o:vw) (c g v:Nw) : ND:=Zu (((d.1:Int),u.1),((o.1:Int),(c.1,(g.1,v.1)))) (aR 64 v.2.1 v.2.2)
def YY (d u o:vw) (c g:Nw) : ND:=Zh d u o c g (df 512 g.2.1 g.2.2)
def Za (d u o:vw) (c:Nw) : ND:=YY d u o c (df 64 c.2.1 c.2.2)
def YH (d u o:vw) : ND:=Za d u o (df 64 o.2.1 o.2.2)
def WV (d u:vw) : ND:=YH d u (aR 2 u.2.1 u.2.2)
def ev1 (d:vw) : ND:=WV d (eu d.2.1 d.2.2)
def TT (b:List UInt8) : ND:=ev1 (aR 15 b false)
def mZ (r:ND) : Option Ev :=
 if r.2.2.2 || !r.2.2.1.isEmpty || !bz r.1 r.2.1 then none else some (r.1,r.2.1)
def vV (b:List UInt8) : Option Ev:=mZ (TT b)
def Uy (c:au) : Prop:=∀ {M:RM} {v:AV} {b:List UInt8} {Q:ak},Sl BY M v b→b.length≤140737488355328 →
 (vV b=none→∀ M',ag [] M M'→Q (.tup [.agg (aP ic aZ),N .i64 14]) M') →
 (∀ x,vV b=some x→∀ kv M',Sl dV M' kv x.2→(∀ d∈aG kv,M.next≤d)→ag [] M M'→Q (.tup [.agg (aP x.1 kv),N .i64 0]) M')→c [v] M Q
theorem aaB {TR TE TD:Nat} {crd ci cu ct cN cG:au} (hrd:Nt TR crd) (hi:Qi TR ci) (hu:RU TR cu) (ht:Tm TR ct) (hend:VW TR cN) (hG:qy cG) :
  Uy fun args M Q=>∃ a0,args=[a0]∧y5 TE crd ci cu ct TD cN cG a0 M Q:=by
 intro M v b Q hv hlen hNo hSo
 refine⟨_,rfl, ?_⟩
 unfold y5
 simp only[gQ,ig,fQ,gG]
 rw[bn]
 have k0:ag [] M (M.push (.row [(N .i64 0),(N .u64 0),(N .i64 0),(St []),(St []),(St []),(.sc (.slice none 0 0))] false TE 0)):=(ag.refl _ _).push _
 have h0:(M.push (.row [(N .i64 0),(N .u64 0),(N .i64 0),(St []),(St []),(St []),(.sc (.slice none 0 0))] false TE 0)).heap M.next=some (.row (aP ic aZ) false TE 0):=RM.aT _
 have n0:(M.push (.row [(N .i64 0),(N .u64 0),(N .i64 0),(St []),(St []),(St []),(.sc (.slice none 0 0))] false TE 0)).next=M.next + 1:=rfl
 generalize M.push (.row [(N .i64 0),(N .u64 0),(N .i64 0),(St []),(St []),(St []),(.sc (.slice none 0 0))] false TE 0)=M1 at *
 refine hrd (aL.keep hv k0 (by simp)) hlen fun r M2 hr2 hrr k2=>?_
 have n2:=k2.next
 have rlt:=hr2.lt
 have h2:=k2.aD h0 (by omega) (by simp)
 unfold vV TT at hNo hSo
 refine hi (most:=15) hr2 (by decide) fun M3 hr3 k3 n3=>?_
 generalize aR 15 b false=d at *
 unfold ev1 at hNo hSo
 refine hu hr3 fun M4 hr4 k4 n4=>?_
 generalize eu d.2.1 d.2.2=u at *
 unfold WV at hNo hSo
 rw[eY]
 refine⟨aM ((d.1:Int),u.1),rfl, ?_⟩
 refine hi (most:=2) hr4 (by decide) fun M5 hr5 k5 n5=>?_
 generalize aR 2 u.2.1 u.2.2=o at *
 unfold YH at hNo hSo
 refine ht (most:=64) hr5 (by decide) fun M6 hr6 k6 n6=>?_
 generalize df 64 o.2.1 o.2.2=c at *
 unfold Za at hNo hSo
 refine ht (most:=64) hr6 (by decide) fun M7 hr7 k7 n7=>?_
 generalize df 64 c.2.1 c.2.2=g at *
 unfold YY at hNo hSo
 refine ht (most:=512) hr7 (by decide) fun M8 hr8 k8 n8=>?_
 generalize df 512 g.2.1 g.2.2=w at *
 unfold Zh at hNo hSo
 rw[eY]
 refine⟨aP (((d.1:Int),u.1),((o.1:Int),(c.1,(g.1,w.1)))) aZ,rfl, ?_⟩
 generalize (((d.1:Int),u.1),((o.1:Int),(c.1,(g.1,w.1))))=e at *
 have k28:ag [r] M2 M8:=k3.trans (k4.trans (k5.trans (k6.trans (k7.trans k8))))
 rw[bn,dB (n:=7) (x:=.agg (aP e aZ)) (l:=[(N .i64 0),(N .u64 0),(N .i64 0),(St []),(St []),(St []),(.sc (.slice none 0 0))]) (RM.aT _) rfl rfl rfl]
 have k9:ag [] M8 ((M8.push (.row [(N .i64 0),(N .u64 0),(N .i64 0),(St []),(St []),(St []),(.sc (.slice none 0 0))] false TE 0)).put M8.next (.row (AV.agg (aP e aZ)).cells false TE 0)):=((ag.refl _ _).push _).new _ (Nat.le_refl _)
 have h9:((M8.push (.row [(N .i64 0),(N .u64 0),(N .i64 0),(St []),(St []),(St []),(.sc (.slice none 0 0))] false TE 0)).put M8.next (.row (AV.agg (aP e aZ)).cells false TE 0)).heap M8.next=some (.row (aP e aZ) false TE 0):=aN _
 have n9:((M8.push (.row [(N .i64 0),(N .u64 0),(N .i64 0),(St []),(St []),(St []),(.sc (.slice none 0 0))] false TE 0)).put M8.next (.row (AV.agg (aP e aZ)).cells false TE 0)).next=M8.next + 1:=rfl
 generalize (M8.push (.row [(N .i64 0),(N .u64 0),(N .i64 0),(St []),(St []),(St []),(.sc (.slice none 0 0))] false TE 0)).put M8.next (.row (AV.agg (aP e aZ)).cells false TE 0)=M9 at *
 have hr9:=hr8.keep k9 (by simp) (by simp)
 refine hi (most:=64) hr9 (by decide) fun M10 aac k10 n10=>?_
 have ava:=(kN (most:=64) (bs:=w.2.1) (f:=w.2.2)).1
 generalize aR 64 w.2.1 w.2.2=n at *
 unfold Zu at hNo hSo
 have h10:=k10.aD h9 (by omega) (by simp; omega)
 have axo:ag [r] M2 M10:=k28.trans ((k9.mono (by simp)).trans k10)
 clear hr2 hr3 hr4 hr5 hr6 hr7 hr8 hr9 k3 k4 k5 k6 k7 k8 k9 k10
 refine aQ (fun z ys M11=>∃ (i:Nat) (bs:List UInt8) (f:Bool) (ks:List ay) (dv:AV),z=n.1 - i∧ys=[N .i64 (i:Int)]∧i≤n.1∧ks.length=i∧sJ TR (fun d=>M1.next≤d∧d<r) M11 r bs f∧qi n.1 n.2.1 n.2.2 []=qi (n.1 - i) bs f ks ∧
   M11.heap M8.next=some (.row (aP e dv) false TE 0)∧Ow dV M11 (M8.next + 1) TD dv ks∧ag [r] M2 M11∧M8.next + 1≤M11.next) _
  ⟨0,_,_,[],aZ,rfl,rfl,Nat.zero_le _,rfl,aac,rfl,h10,.nil,axo,by omega⟩ ?_
 rintro next z ys M11 hnext ⟨i,bs,f,ks,dv,rfl,rfl,hin,hkl,hR,hdec,ht5,hov,k11,n11⟩
 dsimp only[aa]
 rw[iD]
 refine aJ (fun hlt=>?_) (fun hge=>?_)
 ·have hlt:i<n.1:=of_decide_eq_true hlt
  rw[show n.1 - i=(n.1 - (i + 1)) + 1 by omega,qi] at hdec
  rw[aO,aj (i:=0 + 6) (x:=dv) ht5 rfl]
  refine hi (most:=15) hR (by decide) fun M12 auV k12 n12=>?_
  have h12:=k12.aD ht5 (by omega) (by simp; omega)
  rw[aj (i:=0 + 6) (x:=dv) h12 rfl]
  refine⟨rfl, ?_⟩
  generalize aR 15 bs f=d2 at *
  refine hu auV fun M13 aa0 k13 n13=>?_
  generalize eu d2.2.1 d2.2.2=u2 at *
  have h13:=k13.aD h12 (by omega) (by simp; omega)
  rw[aj (i:=0 + 6) (x:=dv) h13 rfl]
  refine⟨rfl, ?_⟩
  have ah3:ag [r] M11 M13:=k12.trans k13
  have ais:=hov.keep ah3 (fun d hd hm=>by simp at hm; have:=(hov.blk d hd).1; omega)
  rw[eY]
  refine⟨aM ((d2.1:Int),u2.1),rfl, ?_⟩
  rw[sI (x:=.agg (aM ((d2.1:Int),u2.1))) (size:=2) rfl rfl rfl,pF]
  refine KH (E:=dV) (a:=((d2.1:Int),u2.1)) ais (by omega) (by decide) (by omega) (by omega) fun v2 M14 o14 k14 n14 _=>?_
  have nb:∀ d∈aG dv,M8.next + 1≤d:=fun d hd=>(ais.blk d hd).1
  have h14:=k14.aD h13 (by omega) (fun hm=>by have:=nb _ hm; omega)
  have awg:(aP e dv).set (0 + 6) v2=aP e v2:=rfl
  rw[aO,jy (aP e v2) h14 (by show 0 + 6<7; decide) (aL.cells o14.jm) (aL.one o14.jm) awg]
  have k15:ag [M8.next] M14 (M14.put M8.next (.row (aP e v2) false TE 0)):=(ag.refl _ _).put _ (.inr (by simp))
  rw[add1 (by omega)]
  have awl:=k11.trans ah3
  have ahE:ag [r] M2 M14:=awl.bG k14 (fun d hd=>.inl (by have:=nb d hd; omega))
  have agy:=ahE.bG k15 (fun d hd=>.inl (by simp at hd; omega))
  refine hnext _ _ _ (by omega) ⟨i + 1,u2.2.1,u2.2.2,ks++[((d2.1:Int),u2.1)],v2,rfl,rfl,by omega,by simp[hkl], ?_,hdec,aN _, ?_,agy,by rw[jk]; omega⟩
  ·exact(aa0.keep k14 (fun hm=>by have:=nb _ hm; omega) (fun d hd h=>by have:=nb d hd; omega)).keep k15 (by simp; omega) (fun d hd h=>by simp at hd; omega)
  ·exact o14.keep k15 (fun d hd hm=>by simp at hm; have:=(o14.blk d hd).1; omega)
 have hie:i=n.1:=by
  have:¬ i<n.1:=of_decide_eq_false hge
  omega
 subst hie
 rw[Nat.sub_self,qi] at hdec
 unfold mZ at hNo hSo
 simp only[hdec] at hNo hSo
 refine hend hR ?_
 rw[fM,show((if f || !bs.isEmpty then(14:Int) else 0) != 0)=(f || !bs.isEmpty) by cases(f || !bs.isEmpty) <;> rfl]
 have asQ:ag [] M1 M11:=k2.bG k11 (fun d hd=>.inl (by simp at hd; omega))
 have arZ:=k11.aD h2 (by omega) (by simp; omega)
 refine UI (P:=fun M'=>ag [] M11 M') (p:=!bz e ks) (ag.refl _ _) (fun _ K hK=>?_) fun M12 k12=>?_
 ·rw[bI (n:=7) ht5 rfl]
  refine hG hov.jm fun M' k'=>?_
  rw[aY]
  exact hK M' k'
 have apK:=k12.aD arZ (by omega) (by simp)
 have axE:=k12.aD ht5 (by omega) (by simp)
 have kM:ag [] M M12:=k0.trans (asQ.trans k12)
 refine aJ (fun hc=>?_) (fun hc=>?_)
 ·rw[if_pos hc] at hNo
  rw[eY]
  refine⟨aP ic aZ,rfl, ?_⟩
  rw[dB (n:=7) (x:=.agg (aP ic aZ)) apK rfl rfl rfl,bI (n:=7) (aN _) rfl]
  exact hNo rfl _ (kM.new _ (Nat.le_refl _))
 ·rw[if_neg (by rw[hc]; decide)] at hSo
  have s12:=hov.keep k12 (by simp)
  rw[bI (n:=7) axE rfl,dB (n:=7) (x:=.agg (aP e dv)) apK rfl rfl (oI s12.jm),bI (n:=7) (aN _) rfl]
  have kp:ag [M.next] M12 (M12.put M.next (.row (AV.agg (aP e dv)).cells false TE 0)):=(ag.refl _ _).put _ (.inr (by simp))
  have nb:∀ d∈aG dv,M8.next + 1≤d:=fun d hd=>(s12.blk d hd).1
  have nn8:=k28.next
  exact hSo _ rfl dv _ (aL.keep s12.jm kp (fun d hd hm=>by simp at hm; have:=nb d hd; omega)) (fun d hd=>by have:=nb d hd; omega) (kM.new _ (Nat.le_refl _))
def tq (most:Nat) (bs:List UInt8) : Option (Nat × List UInt8):=match ui bs with
 | some (w,n)=>if most<w then none else some (w,bs.drop n)
 | none=>none
def yw (most:Nat) (bs:List UInt8) : Option (List UInt8 × List UInt8):=match tq most bs with
 | some (n,r)=>if r.length<n then none else some (r.take n,r.drop n)
 | none=>none
def Jq (bs:List UInt8) : Option (ay × List UInt8):=match tq 16 bs with
 | some (d,r)=>match ui r with
   | some (w,n)=>some (((d:Int),w),r.drop n)
   | none=>none
 | none=>none
structure Rest (M:RM) (v v' : AV) (r:List UInt8) : Prop where
 sl:Sl BY M v' r
 cap:eZ v'
 sub:∀ d∈aG v',d∈aG v
theorem Rest.trans {M:RM} {v v' v'' : AV} {r r' : List UInt8} (h:Rest M v v' r) (h' : Rest M v' v'' r') : Rest M v v'' r':=⟨h'.sl,h'.cap,fun d hd=>h.sub d (h'.sub d hd)⟩
theorem Rest.keep {M M' : RM} {v v' : AV} {r:List UInt8} {ks:List Nat} (h:Rest M v v' r) (k:ag ks M M') (hk:∀ d∈aG v,d ∉ ks) : Rest M' v v' r:=⟨aL.keep h.sl k (fun d hd hm=>hk d (h.sub d hd) hm),h.cap,h.sub⟩
theorem orK {c p:Bool} {f:KR→Prop} {M:RM} {G:AV→RM→Prop} (hf:c=false→∀ k:KR,k (Bo p) M none→f k) (hG:G (Bo (c || p)) M) :
  ah (Bo c) false f (fun k=>k .undef M none) (fun t M' b=>aH (Bo c) (Bo true) t fun u=>G u M'):=by
 cases c with
 | true=>rw[jo]; dsimp only; rw[cK]; exact hG
 | false=>rw[gF]; refine hf rfl _ ?_; rw[bK]; exact hG
theorem anp {v d i:Nat} (h:v<2 ^ (7 * i)) : v + d * 2 ^ (7 * i)=v ||| d * 2 ^ (7 * i):=by
 rw[Nat.or_comm,Nat.mul_comm,← Nat.two_pow_add_eq_or_of_lt h,Nat.add_comm]
theorem aoM {u d i:Nat} (hu:u<2 ^ (7 * i)) (hd:d<128) (hi:i<10) (h9:¬ (i=9∧d > 1)) : u + d * 2 ^ (7 * i)<2 ^ 64∧u + d * 2 ^ (7 * i)<2 ^ (7 * (i + 1)):=by
 have h1:u + d * 2 ^ (7 * i)<2 ^ (7 * (i + 1)):=by
  rw[show 7 * (i + 1)=7 * i + 7 by omega,Nat.pow_add]
  have:d * 2 ^ (7 * i)≤127 * 2 ^ (7 * i):=Nat.mul_le_mul_right _ (by omega)
  omega
 refine⟨?_,h1⟩
 by_cases h:i=9
 ·subst h
  have:d≤1:=by omega
  have:=Nat.mul_le_mul_right (2 ^ 63) this
  simp only[Nat.reduceMul,Nat.reducePow] at *
  omega
 ·exact Nat.lt_of_lt_of_le h1 (Nat.pow_le_pow_right (by decide) (by omega))
def Z5 (c:au) : Prop:=∀ {M:RM} {v:AV} {bs:List UInt8} {Q:ak},Sl BY M v bs→eZ v →
 (ui bs=none→∀ (x:Nat) v',Q (.tup [N .u64 (x:Int),v',Bo false]) M) →
 (∀ w n v',ui bs=some (w,n)→Rest M v v' (bs.drop n)→Q (.tup [N .u64 (w:Int),v',Bo true]) M)→c [v] M Q
theorem ad6:Z5 fun args M Q=>∃ a0,args=[a0]∧Fh a0 M Q:=by
 intro M v bs Q hs hc hN hS
 refine⟨_,rfl, ?_⟩
 unfold Fh
 simp only[gQ,ig,fQ,gG]
 refine aQ (fun m ys M3=>∃ (i u:Nat),m=10 - i∧ys=[N .u64 (u:Int),N .i64 (i:Int)]∧i≤bs.length∧i≤10∧u<2 ^ (7 * i)∧M3=M∧ui bs=xE i u ((bs.take 10).drop i)) _
  ⟨0,0,rfl,rfl,Nat.zero_le _,Nat.zero_le _,by decide,rfl,rfl⟩ ?_
 rintro next m ys M3 hnext ⟨i,u,rfl,rfl,hi,hi10,hu,rfl,hset⟩
 dsimp only[aa]
 rw[aL.len hs,bZ]
 refine andM (p:=decide (i<10)) (fun _ K hK=>?_) ?_
 ·rw[bZ,show decide ((i:Int)<10)=decide (i<10) by simp; omega]
  exact hK
 refine aJ (fun hlt=>?_) (fun hge=>?_)
 ·have hlt:i<bs.length∧i<10:=by simpa using hlt
  obtain⟨b1,o1,_,_,hidx,hcell⟩:=Sl.Bu (E:=BY) hs (i:Int) hlt.1
  have hx1:i<(bs.take 10).length:=by rw[List.length_take]; omega
  rw[List.drop_eq_getElem_cons hx1,xE,List.getElem_take] at hset
  rw[hidx,gI]
  refine⟨_,hcell _ rfl, ?_⟩
  generalize hx:bs[i]=x at *
  have hx256:=Ou x
  rw[Nq]
  refine⟨by decide, ?_⟩
  rw[show((x.toNat:Int)).tmod 128=((x.toNat % 128:Nat) : Int) from rfl,dY,wrap_u64,Nat.mod_eq_of_lt (by omega:x.toNat % 128<18446744073709551616),bT]
  refine andM (p:=decide (x.toNat % 128 > 1)) (fun _ K hK=>?_) ?_
  ·rw[dF,show decide (((x.toNat % 128:Nat) : Int) > 1)=decide (x.toNat % 128 > 1) by simp; omega]
   exact hK
  refine aJ (fun hbad=>?_) (fun hgood=>?_)
  ·have hbad:i=9∧x.toNat % 128 > 1:=by
    simp only[Bool.and_eq_true,beq_iff_eq,decide_eq_true_eq] at hbad
    omega
   refine hN ?_ 0 _
   rw[hset]
   split
   ·rw[List.drop_eq_nil_of_le (by rw[List.length_take]; omega),xE]
   ·rw[if_pos (.inr ⟨hbad.1,by omega⟩)]
  ·have hgood:¬ (i=9∧x.toNat % 128 > 1):=by
    simp only[Bool.and_eq_false_iff,beq_eq_false_iff_ne,decide_eq_false_iff_not] at hgood
    omega
   obtain⟨b64,bnx⟩:=aoM hu (by omega:x.toNat % 128<128) hlt.2 hgood
   rw[Nat.mod_eq_of_lt (by omega:x.toNat % 128 * 2 ^ (7 * i)<2 ^ 64),← anp hu,Nat.mod_eq_of_lt b64] at hset
   rw[uE,show(7:Int) * (i:Int)=((7 * i:Nat) : Int) by omega,bB (by omega) (by omega),dY,wrap_u64,Nat.mod_eq_of_lt (by omega:7 * i<18446744073709551616),xn]
   refine⟨by omega, ?_⟩
   rw[GK rfl _ _ (by show 7 * i≤64; omega)]
   simp only[qI]
   rw[Nat.mod_eq_of_lt (by omega:x.toNat % 128 * 2 ^ (7 * i)<2 ^ 64),bS,show(u:Int) + ((x.toNat % 128 * 2 ^ (7 * i) : Nat) : Int)=((u + x.toNat % 128 * 2 ^ (7 * i) : Nat) : Int) by omega,wrap_u64,Nat.mod_eq_of_lt (by omega:u + x.toNat % 128 * 2 ^ (7 * i)<18446744073709551616)]
   generalize u + x.toNat % 128 * 2 ^ (7 * i)=w at *
   rw[hidx,gI]
   refine⟨_,hcell _ rfl, ?_⟩
   rw[bZ]
   refine aJ (fun hsm=>?_) (fun hbig=>?_)
   ·have hsm:x.toNat<128:=by
     have:(x.toNat:Int)<128:=of_decide_eq_true hsm
     omega
    rw[if_neg (by omega)] at hset
    rw[bS,eB (by omega)]
    obtain⟨v',g1,g2,g3,g4⟩:=GR (k:=i + 1) rfl hs hc (by omega)
    rw[g1,dN,hidx,gI]
    refine⟨_,hcell _ rfl, ?_⟩
    rw[dF]
    refine orK (p:=decide (i=0)) (fun _ K hK=>?_) ?_
    ·rw[bT,show((i:Int) == 0)=decide (i=0) by rw[Bool.eq_iff_iff]; simp]
     exact hK
    by_cases hz:x.toNat=0∧i > 0
    ·rw[show(decide ((x.toNat:Int) > 0) || decide (i=0))=false by simp; omega]
     refine hN ?_ _ _
     rw[hset,if_pos (.inl hz)]
    ·rw[show(decide ((x.toNat:Int) > 0) || decide (i=0))=true by simp; omega]
     exact hS w (i + 1) v' (by rw[hset,if_neg (by omega)]) ⟨g2,g3,g4⟩
   ·have hbig:x.toNat ≥ 128:=by
     have:¬ (x.toNat:Int)<128:=of_decide_eq_false hbig
     omega
    rw[if_pos hbig] at hset
    rw[bS,eB (by omega)]
    exact hnext _ _ _ (by omega) ⟨i + 1,w,rfl,rfl,by omega,by omega,bnx,rfl,hset⟩
 ·refine hN ?_ 0 _
  have hge:¬ (i<bs.length∧i<10):=by
   intro h
   simp[h.1,h.2] at hge
  rw[hset,List.drop_eq_nil_of_le (by rw[List.length_take]; omega),xE]
def xI (c:au) : Prop:=∀ {M:RM} {v:AV} {bs:List UInt8} {most:Nat} {Q:ak},Sl BY M v bs→eZ v→most<4294967296 →
 (tq most bs=none→Q (.tup [N .i64 0,aZ,Bo false]) M) →
 (∀ w r v',tq most bs=some (w,r)→Rest M v v' r→Q (.tup [N .i64 (w:Int),v',Bo true]) M)→c [v,N .i64 (most:Int)] M Q
theorem YC {cg:au} (hg:Z5 cg) : xI fun args M Q=>∃ a0 a1,args=[a0,a1]∧Aj cg a0 a1 M Q:=by
 intro M v bs most Q hs hc hm hN hS
 refine⟨_,_,rfl, ?_⟩
 unfold Aj
 simp only[gQ,ig,fQ,gG]
 unfold tq at hN hS
 refine hg hs hc (fun h0 x v'=>?_) (fun w n v' h1 h2=>?_)
 ·rw[h0] at hN
  rw[eD,eF,ma,aY,Bool.not_false]
  simp only[bM,bC,bU,bg,cK,bK,cO]
  exact hN rfl
 ·rw[h1] at hN hS
  dsimp only at hN hS
  rw[eD,eF,ma,aY,Bool.not_true]
  refine mE (p:=false) (fun _ K hK=>?_) ?_
  ·rw[bZ,show decide ((most:Int)<0)=false by simp]
   exact hK
  refine mE (p:=decide (most<w)) (fun _ K hK=>?_) ?_
  ·rw[dY,wrap_u64,Nat.mod_eq_of_lt (by omega:most<18446744073709551616),dF,show decide ((w:Int) > (most:Int))=decide (most<w) by simp]
   exact hK
  rw[Bool.or_false,Bool.false_or]
  refine aJ (fun hgt=>?_) (fun hle=>?_)
  ·rw[if_pos (of_decide_eq_true hgt)] at hN
   exact hN rfl
  ·have hle:¬ most<w:=of_decide_eq_false hle
   rw[if_neg hle] at hS
   rw[dY,bB (by omega) (by omega)]
   exact hS w _ v' rfl h2
def Am (c:au) : Prop:=∀ {M:RM} {v:AV} {bs:List UInt8} {most:Nat} {Q:ak},Sl BY M v bs→eZ v→most<4294967296 →
 (yw most bs=none→Q (.tup [St [],aZ,Bo false]) M) →
 (∀ w r v',yw most bs=some (w,r)→Rest M v v' r→Q (.tup [St w,v',Bo true]) M)→c [v,N .i64 (most:Int)] M Q
theorem UQ {cg:au} (hg:xI cg) : Am fun args M Q=>∃ a0 a1,args=[a0,a1]∧zf cg a0 a1 M Q:=by
 intro M v bs most Q hs hc hm hN hS
 refine⟨_,_,rfl, ?_⟩
 unfold zf
 simp only[gQ,ig,fQ,gG]
 unfold yw at hN hS
 refine hg hs hc hm (fun h0=>?_) (fun n r v' h1 h2=>?_)
 ·rw[h0] at hN
  rw[eD,eF,ma,aY,Bool.not_false]
  simp only[bM,bC,bU,bg,cK,bK,cO]
  exact hN rfl
 ·rw[h1] at hN hS
  dsimp only at hN hS
  rw[eD,eF,ma,aY,Bool.not_true]
  refine mE (p:=decide (r.length<n)) (fun _ K hK=>?_) ?_
  ·rw[aL.len h2.sl,dF,show decide ((n:Int) > (r.length:Int))=decide (r.length<n) by simp]
   exact hK
  rw[Bool.false_or]
  refine aJ (fun hgt=>?_) (fun hle=>?_)
  ·rw[if_pos (of_decide_eq_true hgt)] at hN
   exact hN rfl
  ·have hle:¬ r.length<n:=of_decide_eq_false hle
   rw[if_neg hle] at hS
   obtain⟨v1,e1,e2⟩:=Vz rfl h2.sl h2.cap (by omega:n≤r.length)
   obtain⟨v2,g1,g2,g3,g4⟩:=GR rfl h2.sl h2.cap (by omega:n≤r.length)
   rw[e1,dN,Sl.str e2,g1,dN]
   exact hS _ _ v2 rfl ⟨g2,g3,fun d hd=>h2.sub d (g4 d hd)⟩
theorem XY {M:RM} {b i n e:Nat} {p:Bool} {l:List AV} {x:AV} {K:RM→Prop} (l' : List AV) (h:M.heap b=some (.row l p e 0)) (hn:x.cells.length=n) (hi:i + n≤l.length) (h1:x.cells.all oneCell=true) (hl:l.take i++x.cells++l.drop (i + n)=l') :
  aC M (.ptr b i) x n K=K (M.put b (.row l' p e 0)):=by
 rw[vW,RM.u6 h,pE (by omega) (Nat.zero_le _) h1]
 subst hn
 simp[← hl]
def ZX (c:au) : Prop:=∀ {M:RM} {v:AV} {bs:List UInt8} {Q:ak},Sl BY M v bs→eZ v →
 (∀ ok d v' M',(ok=false→Jq bs=none)→(ok=true→∃ r,Jq bs=some (d,r)∧Rest M' v v' r)→ag [] M M'→Q (.tup [.agg (aM d),v',Bo ok]) M')→c [v] M Q
theorem ac5 {TD:Nat} {cs cg:au} (hs:xI cs) (hg:Z5 cg) : ZX fun args M Q=>∃ a0,args=[a0]∧acr TD cs cg a0 M Q:=by
 intro M v bs Q h hc hQ
 refine⟨_,rfl, ?_⟩
 unfold acr
 rw[bn]
 have k0:ag [] M (M.push (.row [(N .i64 0),(N .u64 0)] false TD 0)):=(ag.refl _ _).push _
 have h0:(M.push (.row [(N .i64 0),(N .u64 0)] false TD 0)).heap M.next=some (.row [(N .i64 0),(N .u64 0)] false TD 0):=RM.aT _
 generalize M.push (.row [(N .i64 0),(N .u64 0)] false TD 0)=M1 at *
 have s1:=aL.keep h k0 (by simp)
 unfold Jq at hQ
 refine hs (most:=16) s1 hc (by decide) (fun e=>?_) (fun w r v' e hr=>?_)
 ·rw[eD,eF,ma,aY,Bool.not_false,cO,eY]
  refine⟨aM (0,0),rfl, ?_⟩
  rw[dB (n:=2) (x:=.agg (aM (0,0))) h0 rfl rfl rfl,bI (n:=2) (aN _) rfl]
  exact hQ false (0,0) _ _ (fun _=>by rw[e]) (fun h=>by cases h) (k0.new _ (Nat.le_refl _))
 ·rw[eD,eF,ma,aY,Bool.not_true,bJ]
  rw[e] at hQ
  dsimp only at hQ
  refine hg hr.sl hr.cap (fun e2 x v2=>?_) (fun w2 n2 v2 e2 hr2=>?_)
  ·rw[eD,eF,ma,eY]
   refine⟨aM ((w:Int),x),rfl, ?_⟩
   rw[dB (n:=2) (x:=.agg (aM ((w:Int),x))) h0 rfl rfl rfl,bI (n:=2) (aN _) rfl]
   exact hQ false ((w:Int),x) _ _ (fun _=>by rw[e2]) (fun h=>by cases h) (k0.new _ (Nat.le_refl _))
  ·rw[eD,eF,ma,eY]
   refine⟨aM ((w:Int),w2),rfl, ?_⟩
   rw[dB (n:=2) (x:=.agg (aM ((w:Int),w2))) h0 rfl rfl rfl,bI (n:=2) (aN _) rfl]
   have kp:ag [M.next] M1 (M1.put M.next (.row (AV.agg (aM ((w:Int),w2))).cells false TD 0)):=(ag.refl _ _).put _ (.inr (by simp))
   exact hQ true ((w:Int),w2) _ _ (fun h=>by cases h) (fun _=>⟨_,by rw[e2],(hr.trans hr2).keep kp (fun d hd hm=>by
    simp at hm
    have:=aL.lt h d hd
    omega)⟩) (k0.new _ (Nat.le_refl _))
def wQ:Nat→List UInt8→List ay→Option (List ay × List UInt8)
 | 0,r,ks=>some (ks,r)
 | k + 1,r,ks=>match Jq r with
   | some (d,r')=>wQ k r' (ks++[d])
   | none=>none
def re8 (e:gp) (ks:List ay) (r:List UInt8) : Option Ev:=if decide (0<r.length) || !bz e ks then none else some (e,ks)
def NZ (e:gp) (x:Option (List ay × List UInt8)) : Option Ev:=match x with
 | none=>none
 | some (ks,r)=>re8 e ks r
def Ij (e:gp) (r:List UInt8) : Option Ev:=match tq 64 r with
 | none=>none
 | some (n,r1)=>NZ e (wQ n r1 [])
def UO (d:ay) (o:Int) (c g r:List UInt8) : Option Ev:=match yw 512 r with
 | none=>none
 | some (v,r1)=>Ij (d,(o,(c,(g,v)))) r1
def Uc (d:ay) (o:Int) (c r:List UInt8) : Option Ev:=match yw 512 r with
 | none=>none
 | some (g,r1)=>UO d o c g r1
def Xc (d:ay) (o:Int) (r:List UInt8) : Option Ev:=match yw 512 r with
 | none=>none
 | some (c,r1)=>Uc d o c r1
def Sc (d:ay) (r:List UInt8) : Option Ev:=match tq 2 r with
 | none=>none
 | some (o,r1)=>Xc d (o:Int) r1
def kH (b:List UInt8) : Option Ev:=match Jq b with
 | none=>none
 | some (d,r)=>Sc d r
theorem xI.both {c:au} (h:xI c) {M:RM} {v:AV} {bs:List UInt8} {most:Nat} {Q:ak} (hs:Sl BY M v bs) (hc:eZ v) (hm:most<4294967296)
  (hQ:∀ ok w v',(ok=false→tq most bs=none∧w=0)→(ok=true→∃ r,tq most bs=some (w,r)∧Rest M v v' r)→Q (.tup [N .i64 ((w:Nat) : Int),v',Bo ok]) M) : c [v,N .i64 (most:Int)] M Q :=
 h hs hc hm (fun e=>hQ false 0 _ (fun _=>⟨e,rfl⟩) (fun h=>by cases h)) (fun w r v' e hr=>hQ true w v' (fun h=>by cases h) (fun _=>⟨r,e,hr⟩))
theorem Am.both {c:au} (h:Am c) {M:RM} {v:AV} {bs:List UInt8} {most:Nat} {Q:ak} (hs:Sl BY M v bs) (hc:eZ v) (hm:most<4294967296)
  (hQ:∀ ok w v',(ok=false→yw most bs=none)→(ok=true→∃ r,yw most bs=some (w,r)∧Rest M v v' r)→Q (.tup [St w,v',Bo ok]) M) : c [v,N .i64 (most:Int)] M Q :=
 h hs hc hm (fun e=>hQ false [] _ (fun _=>e) (fun h=>by cases h)) (fun w r v' e hr=>hQ true w v' (fun h=>by cases h) (fun _=>⟨r,e,hr⟩))
def Ii (c:au) : Prop:=∀ {M:RM} {v:AV} {b:List UInt8} {Q:ak},Sl BY M v b→eZ v →
 (kH b=none→∀ e M',ag [] M M'→Q (.tup [.agg (aP e aZ),Bo false]) M') →
 (∀ x,kH b=some x→∀ kv M',Sl dV M' kv x.2→ag [] M M'→Q (.tup [.agg (aP x.1 kv),Bo true]) M')→c [v] M Q
theorem SQ {TE TD:Nat} {cd cs ct cG:au} (hd:ZX cd) (hs:xI cs) (ht:Am ct) (hG:qy cG) :
  Ii fun args M Q=>∃ a0,args=[a0]∧vT TE cd TD cs ct cG a0 M Q:=by
 intro M v b Q hv hc hNo hSo
 refine⟨_,rfl, ?_⟩
 unfold vT
 simp only[gQ,ig,fQ,gG]
 rw[bn]
 have k0:ag [] M (M.push (.row [(N .i64 0),(N .u64 0),(N .i64 0),(St []),(St []),(St []),(.sc (.slice none 0 0))] false TE 0)):=(ag.refl _ _).push _
 have h0:(M.push (.row [(N .i64 0),(N .u64 0),(N .i64 0),(St []),(St []),(St []),(.sc (.slice none 0 0))] false TE 0)).heap M.next=some (.row (aP ic aZ) false TE 0):=RM.aT _
 have n0:(M.push (.row [(N .i64 0),(N .u64 0),(N .i64 0),(St []),(St []),(St []),(.sc (.slice none 0 0))] false TE 0)).next=M.next + 1:=rfl
 generalize M.push (.row [(N .i64 0),(N .u64 0),(N .i64 0),(St []),(St []),(St []),(.sc (.slice none 0 0))] false TE 0)=M1 at *
 rw[eY]
 refine⟨aP ic aZ,rfl, ?_⟩
 rw[bn,dB (n:=7) (x:=.agg (aP ic aZ)) (l:=[(N .i64 0),(N .u64 0),(N .i64 0),(St []),(St []),(St []),(.sc (.slice none 0 0))]) (RM.aT _) rfl rfl rfl,n0]
 have k1:ag [] M1 ((M1.push (.row [(N .i64 0),(N .u64 0),(N .i64 0),(St []),(St []),(St []),(.sc (.slice none 0 0))] false TE 0)).put (M.next + 1) (.row (AV.agg (aP ic aZ)).cells false TE 0)):=((ag.refl _ _).push _).new _ (by omega)
 have h1:((M1.push (.row [(N .i64 0),(N .u64 0),(N .i64 0),(St []),(St []),(St []),(.sc (.slice none 0 0))] false TE 0)).put (M.next + 1) (.row (AV.agg (aP ic aZ)).cells false TE 0)).heap (M.next + 1)=some (.row (aP ic aZ) false TE 0):=aN _
 have n1:((M1.push (.row [(N .i64 0),(N .u64 0),(N .i64 0),(St []),(St []),(St []),(.sc (.slice none 0 0))] false TE 0)).put (M.next + 1) (.row (AV.agg (aP ic aZ)).cells false TE 0)).next=M.next + 2:=by rw[jk,I6,n0]
 generalize (M1.push (.row [(N .i64 0),(N .u64 0),(N .i64 0),(St []),(St []),(St []),(.sc (.slice none 0 0))] false TE 0)).put (M.next + 1) (.row (AV.agg (aP ic aZ)).cells false TE 0)=M2 at *
 have h02:=k1.aD h0 (by omega) (by simp)
 have k02:=k0.trans k1
 have blv:∀ d∈aG v,d<M.next:=aL.lt hv
 -- what a return without an acn answers
 have ret:∀ (e:gp) (M' : RM),M'.heap (M.next + 1)=some (.row (aP e aZ) false TE 0)→M'.heap M.next=some (.row (aP ic aZ) false TE 0)→ag [] M M'→kH b=none →
   aF M' (.ptr (M.next + 1) 0) 7 fun t20=>aC M' (.ptr M.next 0) t20 7 fun M5=>aF M5 (.ptr M.next 0) 7 fun res=>Q (.tup [res,Bo false]) M5:=fun e M' g1 g2 k hno=>by
  rw[bI (n:=7) g1 rfl,dB (n:=7) (x:=.agg (aP e aZ)) g2 rfl rfl rfl,bI (n:=7) (aN _) rfl]
  exact hNo hno e _ (k.new _ (Nat.le_refl _))
 -- a field of the acn,stored
 have stp:∀ {M3:RM} {e:gp} (e' : gp),M3.heap (M.next + 1)=some (.row (aP e aZ) false TE 0)→M3.heap M.next=some (.row (aP ic aZ) false TE 0)→ag [] M M3→M.next + 2≤M3.next →
   (M3.put (M.next + 1) (.row (aP e' aZ) false TE 0)).heap (M.next + 1)=some (.row (aP e' aZ) false TE 0)∧(M3.put (M.next + 1) (.row (aP e' aZ) false TE 0)).heap M.next=some (.row (aP ic aZ) false TE 0)∧ag [] M (M3.put (M.next + 1) (.row (aP e' aZ) false TE 0))∧M.next + 2≤(M3.put (M.next + 1) (.row (aP e' aZ) false TE 0)).next∧ag [M.next + 1] M3 (M3.put (M.next + 1) (.row (aP e' aZ) false TE 0)):=fun {M3} {e} e' g1 g2 k n=>by
  have kp:ag [M.next + 1] M3 (M3.put (M.next + 1) (.row (aP e' aZ) false TE 0)):=(ag.refl _ _).put _ (.inr (by simp))
  exact⟨aN _,kp.aD g2 (by omega) (by simp),k.new _ (by omega),by rw[jk]; exact n,kp⟩
 unfold kH at ret hSo
 refine hd (aL.keep hv k02 (by simp)) hc fun ok d v3 M3 a1 a2 k3=>?_
 rw[eD,eF,ma,bn,dB (n:=2) (x:=.agg (aM d)) (l:=[(N .i64 0),(N .u64 0)]) (RM.aT _) rfl rfl rfl,aY]
 have nn3:=k3.next
 have k4:ag [] M3 ((M3.push (.row [(N .i64 0),(N .u64 0)] false TD 0)).put M3.next (.row (AV.agg (aM d)).cells false TD 0)):=((ag.refl _ _).push _).new _ (Nat.le_refl _)
 have h4:((M3.push (.row [(N .i64 0),(N .u64 0)] false TD 0)).put M3.next (.row (AV.agg (aM d)).cells false TD 0)).heap M3.next=some (.row (aM d) false TD 0):=aN _
 have n4:((M3.push (.row [(N .i64 0),(N .u64 0)] false TD 0)).put M3.next (.row (AV.agg (aM d)).cells false TD 0)).next=M3.next + 1:=rfl
 generalize (M3.push (.row [(N .i64 0),(N .u64 0)] false TD 0)).put M3.next (.row (AV.agg (aM d)).cells false TD 0)=M4 at *
 have k34:=k3.trans k4
 have g1:=k34.aD h1 (by omega) (by simp)
 have g2:=k34.aD h02 (by omega) (by simp)
 have kM:=k02.trans k34
 cases ok with
 | false =>
   rw[Bool.not_false,cO]
   rw[a1 rfl] at ret
   exact ret _ _ g1 g2 kM rfl
 | true =>
 rw[Bool.not_true,bJ]
 obtain⟨r3,e3,hr3⟩:=a2 rfl
 rw[e3] at ret hSo
 dsimp only at ret hSo
 have hr4:=hr3.keep k4 (by simp)
 rw[bI (n:=2) h4 rfl,aO,XY (i:=0 + 0) (n:=2) (x:=.agg (aM d)) (aP (d,(0,([],([],[])))) aZ) g1 rfl (by show 0 + 0 + 2≤7; decide) rfl rfl]
 obtain⟨g1,g2,kM,n5,k5⟩:=stp (d,(0,([],([],[])))) g1 g2 kM (by omega)
 generalize M4.put (M.next + 1) (.row (aP (d,(0,([],([],[])))) aZ) false TE 0)=M5 at *
 have hr5:=hr4.keep k5 (fun d hd=>by have:=blv d hd; simp; omega)
 unfold Sc at ret hSo
 refine hs.both (most:=2) hr5.sl hr5.cap (by decide) fun ok o v6 a1 a2=>?_
 rw[eD,eF,ma,aO,jy (i:=0 + 2) (aP (d,((o:Int),([],([],[])))) aZ) g1 (by show 0 + 2<7; decide) rfl rfl rfl,aY]
 obtain⟨g1,g2,kM,n6,k6⟩:=stp (d,((o:Int),([],([],[])))) g1 g2 kM (by omega)
 generalize M5.put (M.next + 1) (.row (aP (d,((o:Int),([],([],[])))) aZ) false TE 0)=M6 at *
 cases ok with
 | false =>
   rw[Bool.not_false,cO]
   rw[(a1 rfl).1] at ret
   exact ret _ _ g1 g2 kM rfl
 | true =>
 rw[Bool.not_true,bJ]
 obtain⟨r6,e6,hr6⟩:=a2 rfl
 rw[e6] at ret hSo
 dsimp only at ret hSo
 have hr6:=(hr5.trans hr6).keep k6 (fun d hd=>by have:=blv d hd; simp; omega)
 unfold Xc at ret hSo
 refine ht.both (most:=512) hr6.sl hr6.cap (by decide) fun ok c v7 a1 a2=>?_
 rw[eD,eF,ma,aO,jy (i:=0 + 3) (aP (d,((o:Int),(c,([],[])))) aZ) g1 (by show 0 + 3<7; decide) rfl rfl rfl,aY]
 obtain⟨g1,g2,kM,n7,k7⟩:=stp (d,((o:Int),(c,([],[])))) g1 g2 kM (by omega)
 generalize M6.put (M.next + 1) (.row (aP (d,((o:Int),(c,([],[])))) aZ) false TE 0)=M7 at *
 cases ok with
 | false =>
   rw[Bool.not_false,cO]
   rw[a1 rfl] at ret
   exact ret _ _ g1 g2 kM rfl
 | true =>
 rw[Bool.not_true,bJ]
 obtain⟨r7,e7,hr7⟩:=a2 rfl
 rw[e7] at ret hSo
 dsimp only at ret hSo
 have hr7:=(hr6.trans hr7).keep k7 (fun d hd=>by have:=blv d hd; simp; omega)
 unfold Uc at ret hSo
 refine ht.both (most:=512) hr7.sl hr7.cap (by decide) fun ok g v8 a1 a2=>?_
 rw[eD,eF,ma,aO,jy (i:=0 + 4) (aP (d,((o:Int),(c,(g,[])))) aZ) g1 (by show 0 + 4<7; decide) rfl rfl rfl,aY]
 obtain⟨g1,g2,kM,n8,k8⟩:=stp (d,((o:Int),(c,(g,[])))) g1 g2 kM (by omega)
 generalize M7.put (M.next + 1) (.row (aP (d,((o:Int),(c,(g,[])))) aZ) false TE 0)=M8 at *
 cases ok with
 | false =>
   rw[Bool.not_false,cO]
   rw[a1 rfl] at ret
   exact ret _ _ g1 g2 kM rfl
 | true =>
 rw[Bool.not_true,bJ]
 obtain⟨r8,e8,hr8⟩:=a2 rfl
 rw[e8] at ret hSo
 dsimp only at ret hSo
 have hr8:=(hr7.trans hr8).keep k8 (fun d hd=>by have:=blv d hd; simp; omega)
 unfold UO at ret hSo
 refine ht.both (most:=512) hr8.sl hr8.cap (by decide) fun ok w v9 a1 a2=>?_
 rw[eD,eF,ma,aO,jy (i:=0 + 5) (aP (d,((o:Int),(c,(g,w)))) aZ) g1 (by show 0 + 5<7; decide) rfl rfl rfl,aY]
 obtain⟨g1,g2,kM,n9,k9⟩:=stp (d,((o:Int),(c,(g,w)))) g1 g2 kM (by omega)
 generalize M8.put (M.next + 1) (.row (aP (d,((o:Int),(c,(g,w)))) aZ) false TE 0)=M9 at *
 cases ok with
 | false =>
   rw[Bool.not_false,cO]
   rw[a1 rfl] at ret
   exact ret _ _ g1 g2 kM rfl
 | true =>
 rw[Bool.not_true,bJ]
 obtain⟨r9,e9,hr9⟩:=a2 rfl
 rw[e9] at ret hSo
 dsimp only at ret hSo
 have hr9:=(hr8.trans hr9).keep k9 (fun d hd=>by have:=blv d hd; simp; omega)
 have abu:Ij (d,((o:Int),(c,(g,w)))) r9=none→∀ e M',ag [] M M'→Q (.tup [.agg (aP e aZ),Bo false]) M':=fun h=>hNo (by
  unfold kH Sc Xc Uc UO
  rw[e3]; dsimp only; rw[e6]; dsimp only; rw[e7]; dsimp only; rw[e8]; dsimp only; rw[e9]; exact h)
 generalize (d,((o:Int),(c,(g,w))))=e at *
 clear ret hNo a1 a2 e3 e6 e7 e8 e9 hr3 hr4 hr5 hr6 hr7 hr8 k3 k4 k34 h4 k5 k6 k7 k8 k9 n5 n6 n7 n8 stp
 refine hs.both (most:=64) hr9.sl hr9.cap (by decide) fun ok n v10 a1 a2=>?_
 rw[eD,eF,ma]
 have hX1:ok=false→Ij e r9=none:=fun h=>by unfold Ij; rw[(a1 h).1]
 have hX2:ok=true→∃ r,Rest M9 v v10 r∧Ij e r9=NZ e (wQ n r []):=fun h=>by
  obtain⟨r,e1,h1⟩:=a2 h
  exact⟨r,hr9.trans h1,by unfold Ij; rw[e1]⟩
 have ava:n≤64:=by
  cases ok with
  | false=>rw[(a1 rfl).2]; omega
  | true =>
    obtain⟨r,e1,_⟩:=a2 rfl
    unfold tq at e1
    split at e1
    ·split at e1
     ·cases e1
     ·cases e1; omega
    ·cases e1
 generalize Ij e r9=X at *
 clear a1 a2 hr9
 refine aQ (fun z ys M11=>∃ (ok:Bool) (i:Nat) (v' : AV) (ks:List ay) (dv:AV),z=(if ok then n - i + 1 else 0)∧ys=[v',Bo ok,N .i64 (i:Int)] ∧
   (ok=false→X=none)∧(ok=true→i≤n∧ks.length=i∧∃ r,Rest M11 v v' r∧X=NZ e (wQ (n - i) r ks)) ∧
   M11.heap (M.next + 1)=some (.row (aP e dv) false TE 0)∧M11.heap M.next=some (.row (aP ic aZ) false TE 0)∧Ow dV M11 (M.next + 2) TD dv ks∧ag [] M M11∧M.next + 2≤M11.next) _
  ⟨ok,0,v10,[],aZ,rfl,rfl,hX1,fun h=>⟨Nat.zero_le _,rfl,hX2 h⟩,g1,g2,.nil,kM,n9⟩ ?_
 rintro next z ys M11 hnext ⟨ok,i,v',ks,dv,rfl,rfl,b1,b2,t1,t2,hov,k11,n11⟩
 dsimp only[aa]
 have nb:∀ d∈aG dv,M.next + 2≤d:=fun d hd=>(hov.blk d hd).1
 refine andM (p:=decide (i<n)) (fun _ K hK=>?_) ?_
 ·rw[iD]; exact hK
 refine aJ (fun hlt=>?_) (fun hge=>?_)
 ·obtain⟨rfl,hlt⟩ : ok=true∧i<n:=by simpa using hlt
  obtain⟨_,hkl,r,hr,hX⟩:=b2 rfl
  rw[bn]
  have k12:ag [] M11 (M11.push (.row [(N .i64 0),(N .u64 0)] false TD 0)):=(ag.refl _ _).push _
  have h12:(M11.push (.row [(N .i64 0),(N .u64 0)] false TD 0)).heap M11.next=some (.row [(N .i64 0),(N .u64 0)] false TD 0):=RM.aT _
  have n12:(M11.push (.row [(N .i64 0),(N .u64 0)] false TD 0)).next=M11.next + 1:=rfl
  generalize M11.push (.row [(N .i64 0),(N .u64 0)] false TD 0)=M12 at *
  refine hd (hr.keep k12 (by simp)).sl hr.cap fun ok2 d v2 M13 c1 c2 k13=>?_
  have n13:=k13.next
  have h13:=k13.aD h12 (by omega) (by simp)
  rw[eD,eF,ma,dB (n:=2) (x:=.agg (aM d)) h13 rfl rfl rfl]
  have k14:ag [M11.next] M13 (M13.put M11.next (.row (AV.agg (aM d)).cells false TD 0)):=(ag.refl _ _).put _ (.inr (by simp))
  have h14:(M13.put M11.next (.row (AV.agg (aM d)).cells false TD 0)).heap M11.next=some (.row (aM d) false TD 0):=aN _
  have n14:(M13.put M11.next (.row (AV.agg (aM d)).cells false TD 0)).next=M13.next:=rfl
  generalize M13.put M11.next (.row (AV.agg (aM d)).cells false TD 0)=M14 at *
  have kk:ag [] M11 M14:=(k12.trans k13).bG k14 (fun d hd=>.inl (by simp at hd; omega))
  have t1':=kk.aD t1 (by omega) (by simp)
  have t2':=kk.aD t2 (by omega) (by simp)
  have au8:=hov.keep kk (by simp)
  rw[aO,aj (i:=0 + 6) (x:=dv) t1' rfl,bI (n:=2) h14 rfl,sI (x:=.agg (aM d)) (size:=2) rfl rfl rfl,bn]
  refine KH (E:=dV) (a:=d) au8 (by omega) (by decide) (by omega) (by omega) fun v3 M15 o15 k15 n15 _=>?_
  have avj:=k15.aD t1' (by omega) (fun hm=>by have:=nb _ hm; omega)
  have avQ:=k15.aD t2' (by omega) (fun hm=>by have:=nb _ hm; omega)
  rw[aO,jy (i:=0 + 6) (aP e v3) avj (by show 0 + 6<7; decide) (aL.cells o15.jm) (aL.one o15.jm) rfl,add1 (by omega)]
  have k16:ag [M.next + 1] M15 (M15.put (M.next + 1) (.row (aP e v3) false TE 0)):=(ag.refl _ _).put _ (.inr (by simp))
  have ahE:=k11.trans kk
  have agy:=ahE.bG k15 (fun d hd=>.inl (by have:=nb d hd; omega))
  have avz:=agy.bG k16 (fun d hd=>.inl (by simp at hd; omega))
  refine hnext (if ok2 then n - (i + 1) + 1 else 0) _ _ (by split <;> simp <;> omega) ⟨ok2,i + 1,v2,ks++[d],v3,rfl,rfl,fun h=>?_,fun h=>⟨by omega,by simp[hkl], ?_⟩,aN _,k16.aD avQ (by omega) (by simp),o15.keep k16 (fun d hd hm=>by simp at hm; have:=(o15.blk d hd).1; omega),avz,by rw[jk]; omega⟩
  ·rw[hX,show n - i=(n - (i + 1)) + 1 by omega,wQ,c1 h,NZ]
  ·obtain⟨r2,e2,hr2⟩:=c2 h
   refine⟨r2, ?_,by rw[hX,show n - i=(n - (i + 1)) + 1 by omega,wQ,e2]⟩
   have hr2:=hr2.keep k14 (fun d hd=>by
    have:=blv d (hr.sub d hd)
    simp; omega)
   have hr2:=hr2.keep k15 (fun x hx hm=>by have:=blv x (hr.sub x hx); have:=nb x hm; omega)
   have hr2:=hr2.keep k16 (fun x hx=>by
    have:=blv x (hr.sub x hx)
    simp; omega)
   exact⟨hr2.sl,hr2.cap,fun d hd=>hr.sub d (hr2.sub d hd)⟩
 ·cases ok with
  | false =>
    rw[aY,Bool.not_false]
    simp only[bM,cK,cO]
    rw[eY]
    refine⟨aP ic aZ,rfl, ?_⟩
    rw[dB (n:=7) (x:=.agg (aP ic aZ)) t2 rfl rfl rfl,bI (n:=7) (aN _) rfl]
    exact abu (b1 rfl) ic _ (k11.new _ (Nat.le_refl _))
  | true =>
    obtain⟨hin,hkl,r,hr,hX⟩:=b2 rfl
    have hie:i=n:=by
     simp at hge; omega
    subst hie
    rw[Nat.sub_self,wQ,NZ] at hX
    subst hX
    unfold re8 at abu hSo
    rw[aY,Bool.not_true]
    refine mE (p:=decide (0<r.length)) (fun _ K hK=>?_) ?_
    ·rw[aL.len hr.sl,dF,show decide ((r.length:Int) > 0)=decide (0<r.length) by simp]
     exact hK
    rw[Bool.false_or]
    refine UI (P:=fun M'=>ag [] M11 M') (p:=!bz e ks) (ag.refl _ _) (fun _ K hK=>?_) fun M12 k12=>?_
    ·rw[bI (n:=7) t1 rfl]
     refine hG hov.jm fun M' k'=>?_
     rw[aY]
     exact hK M' k'
    have t2':=k12.aD t2 (by omega) (by simp)
    have t1':=k12.aD t1 (by omega) (by simp)
    have kM2:=k11.trans k12
    refine aJ (fun hc=>?_) (fun hc=>?_)
    ·rw[if_pos hc] at abu
     rw[eY]
     refine⟨aP ic aZ,rfl, ?_⟩
     rw[dB (n:=7) (x:=.agg (aP ic aZ)) t2' rfl rfl rfl,bI (n:=7) (aN _) rfl]
     exact abu rfl ic _ (kM2.new _ (Nat.le_refl _))
    ·rw[if_neg (by rw[hc]; decide)] at hSo
     have s12:=hov.keep k12 (by simp)
     rw[bI (n:=7) t1' rfl,dB (n:=7) (x:=.agg (aP e dv)) t2' rfl rfl (oI s12.jm),bI (n:=7) (aN _) rfl]
     have kp:ag [M.next] M12 (M12.put M.next (.row (AV.agg (aP e dv)).cells false TE 0)):=(ag.refl _ _).put _ (.inr (by simp))
     exact hSo _ rfl dv _ (aL.keep s12.jm kp (fun d hd hm=>by simp at hm; have:=nb d hd; omega)) (kM2.new _ (Nat.le_refl _))
theorem wF {most:Nat} {bs:List UInt8} {f:Bool} (h:(aR most bs f).2.2=false) : f=false∧tq most bs=some ((aR most bs f).1,(aR most bs f).2.1):=by
 unfold aR at h ⊢
 unfold tq
 cases hb:ui bs with
 | none=>rw[hb] at h; cases h
 | some x =>
   obtain⟨w,n⟩:=x
   rw[hb] at h
   dsimp only at h ⊢
   split at h
   ·cases h
   ·rename_i hc
    have hc:f=false∧¬ most<w:=by simpa using hc
    rw[if_neg (show ¬(f || decide (most<w))=true by simp[hc.1]; omega)]
    exact⟨hc.1,by first | exact if_neg hc.2 | rfl⟩
theorem Bq {most:Nat} {bs r:List UInt8} {w:Nat} (h:tq most bs=some (w,r)) : aR most bs false=(w,r,false):=by
 unfold tq at h
 unfold aR
 split at h
 ·rename_i x n hb
  rw[hb]
  dsimp only
  split at h
  ·cases h
  ·rename_i hc
   cases h
   rw[if_neg (by simp; omega)]
 ·cases h
theorem EW {most k:Nat} {bs r:List UInt8} {w:Nat} (h:tq most bs=some (w,r)) (hk:w≤k) : tq k bs=some (w,r):=by
 unfold tq at h ⊢
 split at h
 ·split at h
  ·cases h
  ·cases h
   rw[if_neg (by omega)]
 ·cases h
theorem ac0 {most:Nat} {bs r:List UInt8} {w:Nat} (h:tq most bs=some (w,r)) : w≤most:=by
 unfold tq at h
 split at h
 ·split at h
  ·cases h
  ·cases h; omega
 ·cases h
theorem De {most:Nat} {bs:List UInt8} {f:Bool} (h:(df most bs f).2.2=false) : f=false∧yw most bs=some ((df most bs f).1,(df most bs f).2.1):=by
 unfold df at h ⊢
 split at h
 ·cases h
 ·rename_i hc
  have hc:(aR most bs f).2.2=false∧¬ (aR most bs f).2.1.length<(aR most bs f).1:=by simpa using hc
  obtain⟨h1,h2⟩:=wF hc.1
  rw[if_neg (by simp[hc.1]; omega)]
  refine⟨h1, ?_⟩
  unfold yw
  rw[h2]
  dsimp only
  rw[if_neg hc.2]
theorem Y5 {most:Nat} {bs r s:List UInt8} (h:yw most bs=some (s,r)) : s.length≤most:=by
 unfold yw at h
 split at h
 ·rename_i n r1 hb
  split at h
  ·cases h
  ·cases h
   have:=ac0 hb
   rw[List.length_take]; omega
 ·cases h
theorem F6 {most k:Nat} {bs r s:List UInt8} (h:yw most bs=some (s,r)) (hk:s.length≤k) : yw k bs=some (s,r):=by
 unfold yw at h ⊢
 split at h
 ·rename_i n r1 hb
  split at h
  ·cases h
  ·cases h
   rw[List.length_take] at hk
   rw[EW hb (by omega)]
   dsimp only
   rw[if_neg (by omega)]
 ·cases h
theorem LX {most:Nat} {bs r s:List UInt8} (h:yw most bs=some (s,r)) : df most bs false=(s,r,false):=by
 unfold yw at h
 unfold df
 split at h
 ·rename_i n r1 hb
  rw[Bq hb]
  split at h
  ·cases h
  ·rename_i hc
   cases h
   rw[if_neg (by simp; omega)]
 ·cases h
theorem ahd {bs:List UInt8} {f:Bool} (h:(eu bs f).2.2=false) : f=false∧∃ n,ui bs=some ((eu bs f).1,n)∧(eu bs f).2.1=bs.drop n:=by
 unfold eu at h ⊢
 obtain⟨h1,h2⟩:=wF h
 refine⟨h1, ?_⟩
 unfold tq at h2
 split at h2
 ·rename_i w n hb
  split at h2
  ·cases h2
  ·injection h2 with h2
   have e1:=congrArg Prod.fst h2
   have e2:=congrArg Prod.snd h2
   dsimp only at e1 e2
   exact⟨n,by rw[hb,← e1],e2.symm⟩
 ·cases h2
theorem RX {bs:List UInt8} {w n:Nat} (h:ui bs=some (w,n)) : eu bs false=(w,bs.drop n,false):=by
 unfold eu aR
 rw[h]
 dsimp only
 have:=(Ew h).1
 rw[if_neg (by simp; omega)]
theorem VA {bs:List UInt8} {f:Bool} (h:(eu (aR 15 bs f).2.1 (aR 15 bs f).2.2).2.2=false) :
  f=false∧Jq bs=some ((((aR 15 bs f).1:Int),(eu (aR 15 bs f).2.1 (aR 15 bs f).2.2).1),(eu (aR 15 bs f).2.1 (aR 15 bs f).2.2).2.1):=by
 obtain⟨h1,n,h2,h3⟩:=ahd h
 obtain⟨h4,h5⟩:=wF h1
 refine⟨h4, ?_⟩
 unfold Jq
 rw[EW h5 (by have:=ac0 h5; omega)]
 dsimp only
 rw[h2]
 dsimp only
 rw[h3]
theorem agD {bs r:List UInt8} {d:ay} (h:Jq bs=some (d,r)) (hd:d.1≤15) : ∃ k:Nat,aR 15 bs false=(k,(aR 15 bs false).2.1,false)∧d.1=(k:Int)∧eu (aR 15 bs false).2.1 false=(d.2,r,false):=by
 unfold Jq at h
 split at h
 ·rename_i k r1 hb
  split at h
  ·rename_i w n hw
   cases h
   have:=Bq (EW hb (by simp at hd; omega:k≤15))
   refine⟨k,by rw[this],rfl, ?_⟩
   rw[this]
   exact RX hw
  ·cases h
 ·cases h
theorem JP:∀ (k:Nat) (bs:List UInt8) (f:Bool) (ks:List ay),(qi k bs f ks).2.1=false→f=false
 | 0,_,_,_,h=>h
 | k + 1,bs,f,ks,h=>by
   rw[qi] at h
   exact(VA (JP k _ _ _ h)).1
theorem Y0:∀ (k:Nat) (bs:List UInt8) (ks:List ay),(qi k bs false ks).2.1=false→wQ k bs ks=some ((qi k bs false ks).2.2,(qi k bs false ks).1)
 | 0,_,_,_=>rfl
 | k + 1,bs,ks,h=>by
   rw[qi] at h ⊢
   have hf:=JP k _ _ _ h
   obtain⟨_,hd⟩:=VA hf
   rw[wQ,hd]
   dsimp only
   rw[hf] at h ⊢
   exact Y0 k _ _ h
theorem YL:∀ (k:Nat) (bs:List UInt8) (ks:List ay) {ls:List ay} {r:List UInt8},wQ k bs ks=some (ls,r)→∀ d∈ks,d∈ls
 | 0,bs,ks,ls,r,h,d,hd=>by rw[wQ] at h; cases h; exact hd
 | k + 1,bs,ks,ls,r,h,d,hd=>by
   rw[wQ] at h
   split at h
   ·exact YL k _ _ h d (List.mem_append_left _ hd)
   ·cases h
theorem Xq:∀ (k:Nat) (bs:List UInt8) (ks:List ay) {ls:List ay} {r:List UInt8},wQ k bs ks=some (ls,r)→(∀ d∈ls,d.1≤15)→qi k bs false ks=(r,false,ls)
 | 0,bs,ks,ls,r,h,_=>by rw[wQ] at h; cases h; rfl
 | k + 1,bs,ks,ls,r,h,hl=>by
   rw[wQ] at h
   split at h
   ·rename_i d r1 hb
    have hd:=hl d (YL k _ _ h d (by simp))
    obtain⟨n,e1,e2,e3⟩:=agD hb hd
    rw[qi]
    have e4:(aR 15 bs false).2.2=false:=by rw[e1]
    have e5:(aR 15 bs false).1=n:=by rw[e1]
    rw[e4,e3,e5,← e2]
    exact Xq k _ _ h hl
   ·cases h
end Go.Ab.Crw
