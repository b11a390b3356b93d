/- Part 5 of the ground of the proofs of this seat (texts D10 to C3). By an AI agent. -/
import Derived.Test.YtlhlnchhaminjaaGreatByt4
import Derived.Sort.AssemblyPlain
import Derived.KernelRfl
set_option maxRecDepth 10000
set_option linter.unusedVariables false
set_option linter.unusedSimpArgs false
namespace Go.Ab.ay
open Go Go.Ab
def pq (a b:ay) : Bool:=decide (a.1<b.1) || (decide (a.1=b.1) && decide (a.2<b.2))
theorem Bl (a b:ay) : dX [1,1] (aM a) (aM b)=some (decide (a=b)):=by
 obtain⟨d,n⟩:=a
 obtain⟨e,k⟩:=b
 simp only[NL,Pq]
 by_cases h1:d=e
 ·by_cases h2:n=k
  ·simp[h1,h2]
  ·have:¬ (n:Int)=(k:Int):=by omega
   simp[h1,h2,this]
 ·simp[h1]
section
variable {α:Type} {E:Enc α}
theorem ajy {M:RM} {base T k:Nat} {v:AV} {xs:List α} (hE:1≤E.size) (ho:Ow E M base T v xs) (hk:k≤xs.length) :
  ∃ v1 v2,bY E.size v none (some (N .i64 (k:Int))) none=some v1∧Sl E M v1 (xs.take k)∧bY E.size v (some (N .i64 (k:Int))) none none=some v2∧Sl E M v2 (xs.drop k)∧(∀ d∈aG v1,d∈aG v)∧∀ d∈aG v2,d∈aG v:=by
 have hs:=ho.jm
 generalize hcs:E.row xs=cs at *
 have ho' : Own M base T E.size v cs xs.length:=by rw[← hcs]; exact ho
 have hl:cs.length=xs.length * E.size:=by rw[← hcs,Enc.fq]
 have hd:E.row (xs.drop k)=cs.drop (k * E.size):=by rw[← hcs,← E.uo]
 have ht:E.row (xs.take k)=cs.take (k * E.size):=by rw[← hcs,← E.uA]
 have g1:∀ v',Sl E M v' (xs.take k)↔aL M E.size v' (cs.take (k * E.size)) k:=fun v'=>by simp only[Sl]; rw[ht,List.length_take,Nat.min_eq_left hk]
 have g2:∀ v',Sl E M v' (xs.drop k)↔aL M E.size v' (cs.drop (k * E.size)) (xs.length - k):=fun v'=>by simp only[Sl]; rw[hd,List.length_drop]
 generalize hn:xs.length=n at *
 cases ho' with
 | nil =>
   have:k=0:=by omega
   subst this
   exact⟨aZ,aZ,by simp[bY,bnd],(g1 _).2 (by simp; exact .nil),by simp[bY,bnd],(g2 _).2 (by simp; exact .nil),by simp,by simp⟩
 | ex0 b o h1 h2 h3 =>
   have:k=0:=by omega
   subst this
   have e0:aL M E.size (.slc b o 0 (.ex 0)) [] 0:=hs
   exact⟨.slc b o 0 (.ex 0),.slc b o 0 (.ex 0),by simp[bY,bnd],(g1 _).2 (by simpa using e0),by simp[bY,bnd],(g2 _).2 (by simpa using e0),by simp[aG],by simp[aG]⟩
 | op b n cs h1 h2 h3 h4 =>
   have hload:∀ o m,o + m≤cs.length→M.loads b o m=some ((cs.drop o).take m):=fun o m h=>RM.dO h3 h
   have hmul:k * E.size≤n * E.size:=Nat.mul_le_mul_right _ hk
   by_cases hn0:n=0
   ·have hk0:k=0:=by omega
    subst hk0 hn0
    have hc0:cs=[]:=List.length_eq_zero_iff.1 (by simpa using h4)
    subst hc0
    exact⟨.emp b,.emp b,by simp[bY,bnd],(g1 _).2 (by simp; exact .emp b),by simp[bY,bnd],(g2 _).2 (by simp; exact .emp b),by simp[aG],by simp[aG]⟩
   ·have p1:aL M E.size (.slc b (0 + 0 * E.size) (k - 0) (.op E.size)) (cs.take (k * E.size)) k:=by
     rw[Nat.sub_zero,Nat.zero_mul]
     refine .slc _ _ _ _ _ h2 ?_
     have:=hload 0 (k * E.size) (by omega)
     simpa using this
    by_cases hkn:n≤k
    ·refine⟨.slc b (0 + 0 * E.size) (k - 0) (.op E.size),.emp b,by simp only[bY,bnd]; simp[hk,hn0],(g1 _).2 p1,by simp only[bY,bnd]; simp[hk,hkn],(g2 _).2 ?_,by simp[aG],by simp[aG]⟩
     have:k=n:=by omega
     subst this
     rw[Nat.sub_self,List.drop_of_length_le (by omega)]
     exact .emp b
    ·refine⟨.slc b (0 + 0 * E.size) (k - 0) (.op E.size),.slc b (0 + k * E.size) (n - k) (.op E.size),by simp only[bY,bnd]; simp[hk,hn0],(g1 _).2 p1,by simp only[bY,bnd]; simp[hk,hkn],(g2 _).2 ?_,by simp[aG],by simp[aG]⟩
     refine .slc _ _ _ _ _ h2 ?_
     have hs2:k * E.size + (n - k) * E.size=n * E.size:=by rw[← Nat.add_mul]; congr 1; omega
     rw[Nat.zero_add,hload (k * E.size) ((n - k) * E.size) (by omega),List.take_of_length_le (by simp; omega)]
end
def Jd (d:ay) (l:List ay) : Nat:=(l.takeWhile (fun x=>pq x d)).length
def yZ (l:List ay) (d:ay) : List ay:=if d∈l then l else l.take (Jd d l)++d :: l.drop (Jd d l)
theorem aeE (l:List ay) (d:ay) : (yZ l d).length≤l.length + 1:=by
 unfold yZ
 split
 ·omega
 ·simp; omega
def apB (p:List Pt × List ay) (d:ay) : List Pt × List ay:=((ny p.1 d).2,if (ny p.1 d).1=0 then yZ p.2 d else p.2)
def ofP (l:List ay) : List Pt × List ay:=l.foldl apB (ik,[])
theorem UG:∀ p∈ik,pG p:=fun p hp=>by
 simp only[ik,List.mem_replicate] at hp
 rw[hp.2]
 exact⟨.nil,fun x hx=>by simp at hx,Nat.zero_le _,fun x hx=>by simp at hx,Nat.zero_le _⟩
theorem zN {ps:List Pt} (h:∀ p∈ps,pG p) (i:Nat) : pG (ps.getD i (0,[])):=by
 rw[List.getD_eq_getElem?_getD]
 by_cases hj:i<ps.length
 ·rw[List.getElem?_eq_getElem hj]
  exact h _ (List.getElem_mem hj)
 ·rw[List.getElem?_eq_none (by omega)]
  exact⟨.nil,fun x hx=>by simp at hx,Nat.zero_le _,fun x hx=>by simp at hx,Nat.zero_le _⟩
theorem ajU {ps:List Pt} {d:ay} (h:∀ p∈ps,pG p) : ∀ p∈(ny ps d).2,pG p:=by
 unfold ny
 split
 ·rename_i hg
  split
  ·intro p hp
   rcases List.mem_or_eq_of_mem_set hp with hp | rfl
   ·exact h p hp
   ·refine aj4 (zN h _) ?_
    simp only[good,Bool.and_eq_true,decide_eq_true_eq] at hg
    exact hg.2
  ·exact h
 ·exact h
theorem nV {f g:Prop→Prop} {k:Prop} : BG (Bo true) true f g k=f k:=rfl
theorem Own.En {M:RM} {base el size n:Nat} {v:AV} {cs:List AV} (h:Own M base el size v cs n) (hn:0<n) : ∃ b,v=.slc b 0 n (.op size)∧base≤b∧b<M.next∧M.heap b=some (.row cs true el 0)∧cs.length=n * size:=by
 cases h with
 | nil=>omega
 | ex0=>omega
 | op b n cs h1 h2 h3 h4=>exact⟨b,rfl,h1,h2,h3,h4⟩
theorem afA (x:Nat) (xs:List Nat) : iw xs.length x xs=xs++[x]:=by simp[iw]
theorem ack {M:RM} {v:AV} {bx n0 T x ex:Nat} {xs:List Nat} {co cr:au} {Q:ak} (ho:Ow aX M n0 T v xs) (hn:n0≤M.next) (hl:xs.length≤100000) (hx:M.heap bx=some (.row [N .u64 (x:Int)] false ex 0)) (hxl:bx<M.next)
  (hQ:∀ v' M',Sl aX M' v' (iw xs.length x xs)→eZ v'→(∀ c∈aG v',n0≤c)→ag (aG v) M M'→Q v' M') : nN T co cr v (N .i64 (xs.length:Int)) (.slc bx 0 1 (.ex 1)) M Q:=by
 unfold nN
 obtain⟨v1,v2,e1,s1,e2,s2,hb1,hb2⟩:=ajy (E:=aX) (k:=xs.length) (by decide) ho (Nat.le_refl _)
 have e2:bY 1 v (some (N .i64 (xs.length:Int))) none none=some v2:=e2
 have hs:Sl aX M v xs:=ho.jm
 rw[e2,dN,oC,bT,show((((1:Nat) : Int)) == 0)=false from rfl,bJ,aL.len hs,bT,show((xs.length:Int) == (xs.length:Int))=true by simp,cO]
 have sx:Sl aX M (.slc bx 0 1 (.ex 1)) [x]:=.slc _ _ _ _ _ hxl (by rw[RM.dO hx (by show 0 + 1 * 1≤1; omega)]; rfl)
 refine Qw (E:=aX) (ys:=[x]) ho hn (Nat.le_refl _) sx (by simp; omega) (by simp; omega) ?_
 intro v' M' o k _ _
 refine hQ v' M' ?_ (Own.eZ o) (fun c hc=>(o.blk c hc).1) k
 rw[afA]
 exact o.jm
def xD (p q:Pt) : Bool:=decide (p.1≤q.1) && p.2.all (lc q)
def zS (ps qs:List Pt) : Bool:=(List.range 16).all fun i=>xD (ps.getD i (0,[])) (qs.getD i (0,[]))
theorem Lt {ps qs:List Pt} : zS ps qs=true↔∀ i,i<16→xD (ps.getD i (0,[])) (qs.getD i (0,[]))=true:=by
 unfold zS
 rw[List.all_eq_true]
 exact⟨fun h i hi=>h i (List.mem_range.2 hi),fun h i hi=>h i (List.mem_range.1 hi)⟩
def Rm (T:Nat) (c:au) : Prop:=∀ {M:RM} {a b:Nat} {ps qs:List Pt} {S S' : Nat→Prop} {Q:ak},iy T S M a ps→iy T S' M b qs→(∀ p∈ps,p.2.length≤1000000)→(∀ q∈qs,Asc q.2∧q.2.length≤1000000) →
 (∀ M',ag [] M M'→Q (Bo (zS ps qs)) M')→c [.ptr a 0,.ptr b 0] M Q
theorem Yj {TS T:Nat} {ch:au} (hh:TJ ch) : Rm TS fun args M Q=>∃ a0 a1,args=[a0,a1]∧AY T ch a0 a1 M Q:=by
 intro M a b ps qs S S' Q h h' hpl hql hQ
 refine⟨_,_,rfl, ?_⟩
 unfold AY
 obtain⟨l,ha,IE,hrow⟩:=h.row
 obtain⟨l',hb,hl32',hrow'⟩:=h'.row
 rw[aI,aU,bI (n:=32) ha IE]
 refine aQ (fun m ys M3=>∃ (i:Nat),m=16 - i∧ys=[N .i64 (i:Int)]∧i≤16∧ag [] M M3∧∀ j,j<i→xD (ps.getD j (0,[])) (qs.getD j (0,[]))=true) _
  ⟨0,rfl,rfl,Nat.zero_le _,ag.refl _ _,fun j hj=>by omega⟩ ?_
 rintro next m ys M3 hnext ⟨i,rfl,rfl,hi,hK,hset⟩
 dsimp only[aa]
 rw[bZ]
 refine aJ (fun hlt=>?_) (fun hge=>?_)
 ·have hlt:i<16:=by
   have:(i:Int)<16:=of_decide_eq_true hlt
   omega
  have hil:i<ps.length:=by rw[h.len]; exact hlt
  have agh:i<qs.length:=by rw[h'.len]; exact hlt
  obtain⟨w,a1,a2,a3,a4,a5⟩:=hrow i hil
  obtain⟨w',b1,b2,b3,b4,b5⟩:=hrow' i agh
  have hpD:ps.getD i (0,[])=ps[i]:=by rw[List.getD_eq_getElem?_getD,List.getElem?_eq_getElem hil]; rfl
  have hqD:qs.getD i (0,[])=qs[i]:=by rw[List.getD_eq_getElem?_getD,List.getElem?_eq_getElem agh]; rfl
  have hcut:(l.drop (2 * i)).take 2=[N .u64 (ps[i].1:Int),w]:=by
   obtain⟨q1,q2⟩:=List.getElem?_eq_some_iff.1 a1
   obtain⟨r1,r2⟩:=List.getElem?_eq_some_iff.1 a2
   rw[List.drop_eq_getElem_cons q1,List.drop_eq_getElem_cons r1,q2,r2]; rfl
  rw[I7]
  refine⟨by omega,by omega,by simp only[Int.toNat_natCast]; omega, ?_⟩
  rw[Int.toNat_natCast,Nat.mul_comm i 2,hcut,bn]
  have hw1:=aL.one a3
  rw[dB (n:=2) (x:=.agg [N .u64 (ps[i].1:Int),w]) (l:=[N .u64 0,.sc (.slice none 0 0)]) (RM.aT _) rfl rfl (by simp[AV.cells,hw1]; rfl)]
  have kk:ag [] M3 ((M3.push (.row [N .u64 0,.sc (.slice none 0 0)] false T 0)).put M3.next (.row (AV.agg [N .u64 (ps[i].1:Int),w]).cells false T 0)):=((ag.refl _ _).push _).new _ (Nat.le_refl _)
  have hh' : ((M3.push (.row [N .u64 0,.sc (.slice none 0 0)] false T 0)).put M3.next (.row (AV.agg [N .u64 (ps[i].1:Int),w]).cells false T 0)).heap M3.next=some (.row [N .u64 (ps[i].1:Int),w] false T 0):=aN _
  generalize (M3.push (.row [N .u64 0,.sc (.slice none 0 0)] false T 0)).put M3.next (.row (AV.agg [N .u64 (ps[i].1:Int),w]).cells false T 0)=M4 at *
  have k4:=hK.trans kk
  have s4:Sl aX M4 w ps[i].2:=aL.keep a3 k4 (by simp)
  have t4:Sl aX M4 w' qs[i].2:=aL.keep b3 k4 (by simp)
  have hb4:=k4.aD hb h'.lt (by simp)
  have hxl:=hpl _ (List.getElem_mem hil)
  obtain⟨hqa,hqn⟩:=hql _ (List.getElem_mem agh)
  rw[aI,aU,xg]
  refine⟨by omega,by omega, ?_⟩
  rw[Int.toNat_natCast,Nat.zero_add,Nat.mul_comm i 2,aU,aj hh' rfl,aI,aO,Nat.add_zero,aj hb4 b1,dF]
  have fail:∀ M5,ag [] M4 M5→xD ps[i] qs[i]=false→Q (Bo false) M5:=fun M5 k5 hf=>by
   have:zS ps qs=false:=by
    rw[Bool.eq_false_iff]
    intro hall
    have:=Lt.1 hall i hlt
    rw[hpD,hqD,hf] at this
    cases this
   rw[← this]
   exact hQ M5 (k4.trans k5)
  refine aJ (fun hg=>fail M4 (ag.refl _ _) ?_) (fun hg=>?_)
  ·have:((ps[i].1:Nat) : Int) > ((qs[i].1:Nat) : Int):=of_decide_eq_true hg
   unfold xD
   rw[show decide (ps[i].1≤qs[i].1)=false by simp; omega,Bool.false_and]
  ·have hle:ps[i].1≤qs[i].1:=by
    have:¬ ((ps[i].1:Nat) : Int) > ((qs[i].1:Nat) : Int):=of_decide_eq_false hg
    omega
   rw[aU,aj hh' rfl,aL.len s4]
   refine aQ (fun m ys M5=>∃ (j:Nat),m=ps[i].2.length - j∧ys=[N .i64 (j:Int)]∧j≤ps[i].2.length∧M5=M4∧ps[i].2.all (lc qs[i])=(ps[i].2.drop j).all (lc qs[i])) _
    ⟨0,rfl,rfl,Nat.zero_le _,rfl,rfl⟩ ?_
   rintro lD m ys M5 fI ⟨j,rfl,rfl,hj,rfl,hall⟩
   dsimp only[aa]
   rw[bZ]
   refine aJ (fun hlt2=>?_) (fun vZ=>?_)
   ·have hlt2:j<ps[i].2.length:=by simpa using hlt2
    obtain⟨b9,o9,_,_,hidx,hc⟩:=Sl.Bu (E:=aX) s4 (j:Int) hlt2
    rw[List.drop_eq_getElem_cons hlt2,List.all_cons] at hall
    rw[hidx,gI]
    refine⟨_,hc _ rfl, ?_⟩
    refine hh hb4 b1 b2 t4 hqa hqn ?_
    rw[aY]
    cases hhas:lc (qs[i].1,qs[i].2) ps[i].2[j] with
    | false =>
      have hhas:lc qs[i] ps[i].2[j]=false:=hhas
      rw[Bool.not_false,cO]
      refine fail M5 (ag.refl _ _) ?_
      unfold xD
      rw[hall,hhas,Bool.false_and,Bool.and_false]
    | true =>
      have hhas:lc qs[i] ps[i].2[j]=true:=hhas
      rw[Bool.not_true,bJ,bS,eB (by omega)]
      refine fI _ _ _ (by omega) ⟨j + 1,rfl,rfl,by omega,rfl, ?_⟩
      rw[hall,hhas,Bool.true_and]
   ·have he:j=ps[i].2.length:=by simp at vZ; omega
    subst he
    rw[List.drop_length,List.all_nil] at hall
    rw[bS,eB (by omega)]
    refine hnext _ _ _ (by omega) ⟨i + 1,rfl,rfl,by omega,k4,fun j hj=>?_⟩
    rcases Nat.lt_or_ge j i with h | h
    ·exact hset j h
    ·have:j=i:=by omega
     subst this
     rw[hpD,hqD]
     unfold xD
     rw[hall,Bool.and_true]
     simpa using hle
 ·have he:i=16:=by
   have:¬ (i:Int)<16:=of_decide_eq_false hge
   omega
  subst he
  have:zS ps qs=true:=Lt.2 hset
  rw[← this]
  exact hQ M3 hK
def gz (ps:List Pt) (d:ay) : Bool:=good d && lc (ps.getD d.1.toNat (0,[])) d.2
def Tx (T:Nat) (c:au) : Prop:=∀ {M:RM} {b:Nat} {ps:List Pt} {d:ay} {S:Nat→Prop} {Q:ak},iy T S M b ps→(∀ q∈ps,Asc q.2∧q.2.length≤1000000) →
 (∀ M',ag [] M M'→Q (Bo (gz ps d)) M')→c [.ptr b 0,.agg (aM d)] M Q
theorem adD {TS T:Nat} {cg ch:au} (hg:Cb cg) (hh:TJ ch) : Tx TS fun args M Q=>∃ a0 a1,args=[a0,a1]∧JE T cg ch a0 a1 M Q:=by
 intro M b ps d S Q h hql hQ
 refine⟨_,_,rfl, ?_⟩
 unfold JE
 simp only[ig,fQ]
 rw[dU rfl (by simp),bn,bI (n:=2) (RM.aT _) rfl]
 have k1:ag [] M (M.push (.row (aM d) false T 0)):=(ag.refl _ _).push _
 have h3:(M.push (.row (aM d) false T 0)).heap M.next=some (.row (aM d) false T 0):=RM.aT _
 have n1:(M.push (.row (aM d) false T 0)).next=M.next + 1:=rfl
 generalize M.push (.row (aM d) false T 0)=M1 at *
 refine hg fun M2 k2=>?_
 have kk:=k1.trans k2
 have h3:=k2.aD h3 (by omega) (by simp)
 have hQ:=hQ M2 kk
 unfold gz at hQ
 cases hgd:good d with
 | false =>
   rw[bC]
   dsimp only
   rw[bK]
   rw[hgd,Bool.false_and] at hQ
   exact hQ
 | true =>
   rw[hgd,Bool.true_and] at hQ
   simp[good] at hgd
   obtain⟨i,hi⟩ : ∃ i:Nat,d.1=(i:Int):=⟨d.1.toNat,by omega⟩
   have Wd:i<16:=by omega
   have s2:=h.keep kk (by simp) (by simp)
   have hil:i<ps.length:=by rw[h.len]; exact Wd
   have hpD:ps.getD d.1.toNat (0,[])=ps[i]:=by rw[hi,Int.toNat_natCast,List.getD_eq_getElem?_getD,List.getElem?_eq_getElem hil]; rfl
   rw[hpD] at hQ
   obtain⟨l,hb,IE,hrow⟩:=s2.row
   obtain⟨v,a1,a2,a3,a4,a5⟩:=hrow i hil
   obtain⟨hqa,hqn⟩:=hql _ (List.getElem_mem hil)
   rw[bU]
   dsimp only
   rw[aU,aj h3 rfl,aI,aU,hi,xg]
   refine⟨by omega,by omega, ?_⟩
   rw[aU,aj h3 rfl,Int.toNat_natCast,Nat.zero_add,Nat.mul_comm i 2]
   refine hh hb a1 a2 a3 hqa hqn ?_
   rw[cK]
   exact hQ
abbrev lN:Nat→Nat→Bool:=fun x y=>decide (x<y)
def PM (M:RM) (b T:Nat) (d:Array Nat) : RM:=M.put b (.row (aX.row d.toList) true T 0)
abbrev vv (b n:Nat) : AV:=.slc b 0 n (.op 1)
section
variable {M:RM} {b T n i j:Nat} {d:Array Nat} {K:AV→Prop}
theorem PM.heap:(PM M b T d).heap b=some (.row (aX.row d.toList) true T 0):=RM.xB _ _
theorem PM.ME:(aX.row d.toList).length=d.size:=by rw[Enc.fq]; simp[aX]
theorem wW (hi:i<d.size) : d[i]! = d[i]:=getElem!_pos d i hi
theorem PM.cellAt (hi:i<d.size) : (aX.row d.toList)[i]?=some (N .u64 ((d[i]! : Nat) : Int)):=by
 rw[Qx,List.getElem?_map,Array.getElem?_toList,wW hi,Array.getElem?_eq_getElem hi]; rfl
theorem PM.idx {kd:IntKind} (hi:i<n) : aA (vv b n) (N kd (i:Int)) 1 K=K (.ptr b i):=by
 rw[qo]
 simp only[Int.toNat_natCast]
 rw[show 0 + i * 1=i by omega]
 exact propext ⟨fun h=>h.2.2,fun h=>⟨by omega,by omega,h⟩⟩
theorem PM.rd {kd:IntKind} (hn:n=d.size) (hi:i<d.size) : (aA (vv b n) (N kd (i:Int)) 1 fun p=>ai (PM M b T d) p K)=K (N .u64 ((d[i]! : Nat) : Int)):=by
 rw[PM.idx (by omega),aj PM.heap (PM.cellAt hi)]
theorem PM.put {x:Nat} (hi:i<d.size) {K:RM→Prop} : aC (PM M b T d) (.ptr b i) (N .u64 (x:Int)) 1 K=K (PM M b T (d.setIfInBounds i x)):=by
 rw[gV PM.heap (by rw[PM.ME]; exact hi) rfl rfl]
 congr 1
 have e:(aX.row d.toList).set i (N .u64 (x:Int))=aX.row (d.setIfInBounds i x).toList:=by rw[Qx,Qx,Array.toList_setIfInBounds,List.map_set]
 rw[e,PM,PM]
 unfold RM.put
 congr 1
 funext c
 by_cases h:c=b <;> simp[h]
theorem PM.swap {k1 k2:IntKind} (hn:n=d.size) (hi:i<d.size) (hj:j<d.size) {K:RM→Prop} :
  (aA (vv b n) (N k1 (i:Int)) 1 fun p=>aC (PM M b T d) p (N .u64 ((d[j]! : Nat) : Int)) 1 fun M1=>aA (vv b n) (N k2 (j:Int)) 1 fun q=>aC M1 q (N .u64 ((d[i]! : Nat) : Int)) 1 K)=K (PM M b T (Sort.swp d i j)):=by
 rw[PM.idx (by omega),PM.put hi,PM.idx (by omega),PM.put (by simpa using hj)]
 rfl
theorem fK (d:Array Nat) (i j:Nat) : (Sort.swp d i j).size=d.size:=by simp[Sort.swp]
theorem PM.push {x:RB} (h:b<M.next) : (PM M b T d).push x=PM (M.push x) b T d:=by
 unfold PM RM.push RM.put
 congr 1
 funext c
 simp only
 by_cases h1:c=M.next <;> by_cases h2:c=b <;> simp[h1,h2] <;> omega
theorem PM.aa3 {x:RB} {c:Nat} (h:c≠b) : (PM M b T d).put c x=PM (M.put c x) b T d:=by
 unfold PM RM.put
 congr 1
 funext e
 simp only
 by_cases h1:e=c <;> by_cases h2:e=b <;> simp[h1,h2] <;> omega
theorem PM.PD {c:Nat} (h:c≠b) : (PM M b T d).heap c=M.heap c:=by
 unfold PM RM.put; simp[h]
theorem addN (h:i + j<4611686018427387904) : ae .add (N .i64 (i:Int)) (N .i64 (j:Int)) K=K (N .i64 ((i + j:Nat) : Int)):=by
 rw[bS,bB (by omega) (by omega),Int.natCast_add]
theorem add1 (h:i<4611686018427387904) : ae .add (N .i64 (i:Int)) (N .i64 1) K=K (N .i64 ((i + 1:Nat) : Int)):=by
 rw[bS,eB (by omega)]
theorem iJ (h:j≤i) (hb:i<4611686018427387904) : ae .sub (N .i64 (i:Int)) (N .i64 (j:Int)) K=K (N .i64 ((i - j:Nat) : Int)):=by
 rw[jG,bB (by omega) (by omega),show(i:Int) - (j:Int)=((i - j:Nat) : Int) by omega]
theorem dM (h:1≤i) (hb:i<4611686018427387904) : ae .sub (N .i64 (i:Int)) (N .i64 1) K=K (N .i64 ((i - 1:Nat) : Int)):=iJ h hb
theorem ap9 (hb:i<1152921504606846976) : ae .mul (N .i64 2) (N .i64 (i:Int)) K=K (N .i64 ((2 * i:Nat) : Int)):=by
 rw[uE,bB (by omega) (by omega),show(2:Int) * (i:Int)=((2 * i:Nat) : Int) by omega]
theorem iD:ae .lss (N .i64 (i:Int)) (N .i64 (j:Int)) K=K (Bo (decide (i<j))):=by rw[bZ,show decide ((i:Int)<(j:Int))=decide (i<j) by simp]
theorem yM:ae .gtr (N .i64 (i:Int)) (N .i64 (j:Int)) K=K (Bo (decide (i > j))):=by rw[dF,show decide ((i:Int) > (j:Int))=decide (i > j) by simp]
theorem sS:ae .leq (N .i64 (i:Int)) (N .i64 (j:Int)) K=K (Bo (decide (i≤j))):=by rw[lF,show decide ((i:Int)≤(j:Int))=decide (i≤j) by simp]
theorem oV:ae .geq (N .i64 (i:Int)) (N .i64 (j:Int)) K=K (Bo (decide (i ≥ j))):=by rw[iR,show decide ((i:Int) ≥ (j:Int))=decide (i ≥ j) by simp]
theorem ZJ:ae .eql (N .i64 (i:Int)) (N .i64 (j:Int)) K=K (Bo (decide (i=j))):=by
 rw[bT,show((i:Int) == (j:Int))=decide (i=j) by by_cases h:i=j <;> simp[h]; omega]
end
def zC (T:Nat) (f:Array Nat→Nat→Nat→Array Nat) (P:Array Nat→Nat→Nat→Prop) (c:au) : Prop:=∀ {M:RM} {b a e:Nat} {d:Array Nat} {Q:ak},b<M.next→d.size≤1000000→a≤e→e≤d.size→P d a e→Q (.tup []) (PM M b T (f d a e)) →
 c [vv b d.size,N .i64 (a:Int),N .i64 (e:Int)] (PM M b T d) Q
theorem K6 (a:Nat) : ∀ (j:Nat) (d:Array Nat),(Sort.insInner lN a j d).size=d.size
 | 0,d=>rfl
 | j + 1,d=>by
   rw[Sort.insInner]
   split
   ·rw[K6 a j,fK]
   ·rfl
theorem adT {T:Nat} {cl:au} (hl:ym cl) : zC T (Sort.insertionSort lN) (fun _ _ _=>True) fun args M Q=>∃ a0 a1 a2,args=[a0,a1,a2]∧fP cl a0 a1 a2 M Q:=by
 intro M b a e d Q hb hsz hae he _ hQ
 refine⟨_,_,_,rfl, ?_⟩
 unfold fP
 simp only[ig,fQ,gG]
 rw[add1 (by omega)]
 rw[Sort.insertionSort] at hQ
 obtain⟨R,hR⟩ : ∃ R,R=Sort.insOuter lN a e (a + 1) d:=⟨_,rfl⟩
 rw[← hR] at hQ
 refine aQ (fun m ys M3=>∃ (i:Nat) (d3:Array Nat),m=d.size - i∧ys=[N .i64 (i:Int)]∧i≤d.size + 1∧M3=PM M b T d3∧d3.size=d.size∧R=Sort.insOuter lN a e i d3) _ ⟨a + 1,d,rfl,rfl,by omega,rfl,rfl,hR⟩ ?_
 rintro next m ys M3 hnext ⟨i,d3,rfl,rfl,hi,rfl,hs3,hm⟩
 dsimp only[aa]
 rw[iD]
 refine aJ (fun hlt=>?_) (fun hge=>?_)
 ·have hlt:i<e:=of_decide_eq_true hlt
  rw[Sort.insOuter,if_pos hlt] at hm
  obtain⟨R5,hR5⟩ : ∃ R5,R5=Sort.insInner lN a i d3:=⟨_,rfl⟩
  rw[← hR5] at hm
  refine aQ (fun m ys M5=>∃ (j:Nat) (d5:Array Nat),m=j + 1∧ys=[N .i64 (j:Int)]∧j≤i∧M5=PM M b T d5∧d5.size=d.size∧R5=Sort.insInner lN a j d5) _ ⟨i,d3,rfl,rfl,Nat.le_refl _,rfl,hs3,hR5⟩ ?_
  rintro lD m ys M5 fI ⟨j,d5,rfl,rfl,hj,rfl,hs5,hm5⟩
  dsimp only[aa]
  rw[yM]
  have out:Sort.insInner lN a j d5=d5→ae .add (N .i64 (i:Int)) (N .i64 1) (fun t14=>next [t14] (PM M b T d5)):=fun h=>by
   rw[add1 (by omega)]
   refine hnext _ _ _ (by omega) ⟨i + 1,d5,rfl,rfl,by omega,rfl,hs5, ?_⟩
   rw[hm,hm5,h]
  by_cases hg:j > a
  ·obtain⟨k,rfl⟩ : ∃ k,j=k + 1:=⟨j - 1,by omega⟩
   rw[decide_eq_true hg,bU]
   dsimp only
   rw[PM.rd hs5.symm (by omega),dM (by omega) (by omega),Nat.add_sub_cancel,PM.rd hs5.symm (by omega)]
   refine hl ?_
   rw[cK]
   rw[Sort.insInner] at hm5 out
   refine aJ (fun h=>?_) (fun h=>?_)
   ·rw[if_pos (by simp[hg,h])] at hm5
    rw[dM (by omega) (by omega),dM (by omega) (by omega),Nat.add_sub_cancel,PM.rd hs5.symm (by omega),PM.rd hs5.symm (by omega),PM.swap hs5.symm (by omega) (by omega),dM (by omega) (by omega),Nat.add_sub_cancel]
    exact fI _ _ _ (by omega) ⟨k,_,rfl,rfl,by omega,rfl,by rw[fK]; exact hs5,hm5⟩
   ·exact out (by rw[if_neg (by simp[h])])
  ·rw[decide_eq_false hg,bC]
   dsimp only
   rw[bK,bJ]
   refine out ?_
   cases j with
   | zero=>rfl
   | succ k=>rw[Sort.insInner,if_neg (by simp[hg])]
 ·have hge:¬ i<e:=of_decide_eq_false hge
  rw[Sort.insOuter,if_neg hge] at hm
  rw[hm] at hQ
  exact hQ
theorem XG {T:Nat} : zC T Sort.reverseRange (fun _ a e=>a<e) fun args M Q=>∃ a0 a1 a2,args=[a0,a1,a2]∧ko a0 a1 a2 M Q:=by
 intro M b a e d Q hb hsz hae he hP hQ
 refine⟨_,_,_,rfl, ?_⟩
 unfold ko
 rw[dM (by omega) (by omega)]
 rw[Sort.reverseRange] at hQ
 obtain⟨R,hR⟩ : ∃ R,R=Sort.reverseLoop a (e - 1) d:=⟨_,rfl⟩
 rw[← hR] at hQ
 refine aQ (fun m ys M3=>∃ (i j:Nat) (d3:Array Nat),m=j - i∧ys=[N .i64 (i:Int),N .i64 (j:Int)]∧j<d.size∧i≤d.size∧M3=PM M b T d3∧d3.size=d.size∧R=Sort.reverseLoop i j d3) _ ⟨a,e - 1,d,rfl,rfl,by omega,by omega,rfl,rfl,hR⟩ ?_
 rintro next m ys M3 hnext ⟨i,j,d3,rfl,rfl,hj,hi,rfl,hs3,hm⟩
 dsimp only[aa]
 rw[iD]
 rw[Sort.reverseLoop] at hm
 refine aJ (fun hlt=>?_) (fun hge=>?_)
 ·have hlt:i<j:=of_decide_eq_true hlt
  rw[if_pos hlt] at hm
  rw[PM.rd hs3.symm (by omega),PM.rd hs3.symm (by omega),PM.swap hs3.symm (by omega) (by omega),add1 (by omega),dM (by omega) (by omega)]
  exact hnext _ _ _ (by omega) ⟨i + 1,j - 1,_,rfl,rfl,by omega,by omega,rfl,by rw[fK]; exact hs3,hm⟩
 ·have hge:¬ i<j:=of_decide_eq_false hge
  rw[if_neg hge] at hm
  rw[hm] at hQ
  exact hQ
def abx (T:Nat) (c:au) : Prop:=∀ {M:RM} {b lo hi first:Nat} {d:Array Nat} {Q:ak},b<M.next→d.size≤1000000→first + hi≤d.size→lo≤1000000→Q (.tup []) (PM M b T (Sort.siftDown lN hi first lo d)) →
 c [vv b d.size,N .i64 (lo:Int),N .i64 (hi:Int),N .i64 (first:Int)] (PM M b T d) Q
theorem zP (hi first:Nat) : ∀ (k lo:Nat) (d:Array Nat),hi - lo≤k→(Sort.siftDown lN hi first lo d).size=d.size
 | 0,lo,d,h=>by rw[Sort.siftDown,dif_pos (by omega)]
 | k + 1,lo,d,h=>by
   rw[Sort.siftDown]
   split
   ·rfl
   ·split
    ·split
     ·rfl
     ·split
      ·rw[zP hi first k _ _ (by omega),fK]
      ·rfl
    ·split
     ·rfl
     ·rw[zP hi first k _ _ (by omega),fK]
theorem acy {T:Nat} {cl:au} (hl:ym cl) : abx T fun args M Q=>∃ a0 a1 a2 a3,args=[a0,a1,a2,a3]∧mG cl a0 a1 a2 a3 M Q:=by
 intro M b lo hi first d Q hb hsz hfe hlo hQ
 refine⟨_,_,_,_,rfl, ?_⟩
 unfold mG
 simp only[ig,fQ,gG,fo]
 obtain⟨R,hR⟩ : ∃ R,R=Sort.siftDown lN hi first lo d:=⟨_,rfl⟩
 rw[← hR] at hQ
 refine aQ (fun m ys M3=>∃ (r:Nat) (d3:Array Nat),m=1000000 + hi - r∧ys=[N .i64 (r:Int)]∧(r≤1000000)∧M3=PM M b T d3∧d3.size=d.size∧R=Sort.siftDown lN hi first r d3) _ ⟨lo,d,rfl,rfl,hlo,rfl,rfl,hR⟩ ?_
 rintro next m ys M3 hnext ⟨r,d3,rfl,rfl,hr,rfl,hs3,hm⟩
 dsimp only[aa]
 rw[ap9 (by omega),add1 (by omega),oV]
 rw[Sort.siftDown] at hm
 refine aJ (fun hg=>?_) (fun hg=>?_)
 ·rw[dif_pos (of_decide_eq_true hg)] at hm
  rw[hm] at hQ
  exact hQ
 have hg:¬ 2 * r + 1 ≥ hi:=of_decide_eq_false hg
 rw[dif_neg hg] at hm
 -- the child that is taken
 refine di (fun zs M'=>∃ c:Nat,zs=[N .i64 (c:Int)]∧M'=PM M b T d3∧r<c∧c<hi∧R=if !lN d3[first + r]! d3[first + c]! then d3 else Sort.siftDown lN hi first c (Sort.swp d3 (first + r) (first + c))) ?_ ?_
 ·rintro zs M' ⟨c,rfl,rfl,hrc,awy,hm2⟩
  dsimp only[aa]
  rw[addN (by omega),PM.rd hs3.symm (by omega),addN (by omega),PM.rd hs3.symm (by omega)]
  refine hl ?_
  rw[aY]
  refine aJ (fun h=>?_) (fun h=>?_)
  ·rw[if_pos h] at hm2
   rw[hm2] at hQ
   exact hQ
  ·rw[if_neg (by simp only[lN,h]; decide)] at hm2
   rw[addN (by omega),addN (by omega),addN (by omega),PM.rd hs3.symm (by omega),addN (by omega),PM.rd hs3.symm (by omega),PM.swap hs3.symm (by omega) (by omega)]
   exact hnext _ _ _ (by omega) ⟨c,_,rfl,rfl,by omega,rfl,by rw[fK]; exact hs3,hm2⟩
 intro J hJ
 rw[add1 (by omega),iD]
 have one:¬ (2 * r + 1 + 1<hi∧lN d3[first + (2 * r + 1)]! d3[first + (2 * r + 1) + 1]! = true)→J [N .i64 ((2 * r + 1:Nat) : Int)] (PM M b T d3):=fun h=>by
  refine hJ _ _ ⟨2 * r + 1,rfl,rfl,by omega,by omega, ?_⟩
  rw[if_neg (by simpa using h)] at hm
  exact hm
 by_cases h1:2 * r + 1 + 1<hi
 ·rw[decide_eq_true h1,bU]
  dsimp only
  rw[addN (by omega),PM.rd hs3.symm (by omega),addN (by omega),add1 (by omega),PM.rd hs3.symm (by omega)]
  refine hl ?_
  rw[cK]
  refine aJ (fun h=>?_) (fun h=>?_)
  ·rw[add1 (by omega)]
   refine hJ _ _ ⟨2 * r + 2,rfl,rfl,by omega,by omega, ?_⟩
   rw[if_pos (by simp only[lN,h,decide_eq_true h1,Bool.and_self]),dif_pos (by omega)] at hm
   exact hm
  ·exact one (fun h'=>by have:=h'.2; rw[show lN d3[first + (2 * r + 1)]! d3[first + (2 * r + 1) + 1]! = false from h] at this; cases this)
 ·rw[decide_eq_false h1,bC]
  dsimp only
  rw[bK,bJ]
  exact one (fun h=>h1 h.1)
theorem VN (hi first:Nat) : ∀ (k:Nat) (d:Array Nat),(Sort.heapBuild lN hi first k d).size=d.size
 | 0,d=>rfl
 | k + 1,d=>by rw[Sort.heapBuild,VN hi first k,zP hi first hi _ _ (by omega)]
theorem acQ {T:Nat} {cs:au} (hs:abx T cs) : zC T (Sort.heapSort lN) (fun _ a e=>a<e) fun args M Q=>∃ a0 a1 a2,args=[a0,a1,a2]∧mQ cs a0 a1 a2 M Q:=by
 intro M b a e d Q hb hsz hae he hP hQ
 refine⟨_,_,_,rfl, ?_⟩
 unfold mQ
 rw[Sort.heapSort] at hQ
 rw[iJ hae (by omega),dM (by omega) (by omega),ql]
 refine⟨by decide, ?_⟩
 rw[show(2:Int)=((2:Nat) : Int) from rfl,show((e - a - 1:Nat) : Int).tdiv ((2:Nat) : Int)=(((e - a - 1) / 2:Nat) : Int) by rw[Int.tdiv_eq_ediv_of_nonneg (by omega)]; rfl,bB (by omega) (by omega)]
 obtain⟨R,hR⟩ : ∃ R,R=Sort.heapBuild lN (e - a) a ((e - a - 1) / 2 + 1) d:=⟨_,rfl⟩
 rw[← hR] at hQ
 refine aQ (fun m ys M3=>∃ (k:Nat) (d3:Array Nat),m=k + 1∧ys=[N .i64 ((k:Int) - 1)]∧k≤(e - a - 1) / 2 + 1∧M3=PM M b T d3∧d3.size=d.size∧R=Sort.heapBuild lN (e - a) a k d3) _ ⟨(e - a - 1) / 2 + 1,d,rfl,by congr 3; omega,Nat.le_refl _,rfl,rfl,hR⟩ ?_
 rintro next m ys M3 hnext ⟨k,d3,rfl,rfl,hk,rfl,hs3,hm⟩
 dsimp only[aa]
 rw[iR]
 refine aJ (fun hg=>?_) (fun hg=>?_)
 ·have hg:1≤k:=by
   have:(k:Int) - 1 ≥ 0:=of_decide_eq_true hg
   omega
  obtain⟨k',rfl⟩ : ∃ k',k=k' + 1:=⟨k - 1,by omega⟩
  rw[Sort.heapBuild] at hm
  rw[show((k' + 1:Nat) : Int) - 1=(k' : Int) by omega,← hs3]
  refine hs hb (by omega) (by omega) (by omega) ?_
  rw[jG,bB (by omega) (by omega)]
  exact hnext _ _ _ (by omega) ⟨k',_,rfl,rfl,by omega,rfl,by rw[zP _ _ (e - a) _ _ (by omega)]; exact hs3,hm⟩
 ·have hk0:k=0:=by
   have:¬ (k:Int) - 1 ≥ 0:=of_decide_eq_false hg
   omega
  subst hk0
  rw[Sort.heapBuild] at hm
  rw[hm] at hQ
  rw[dM (by omega) (by omega)]
  obtain⟨R4,hR4⟩ : ∃ R4,R4=Sort.heapPop lN a (e - a) d3:=⟨_,rfl⟩
  rw[← hR4] at hQ
  refine aQ (fun m ys M4=>∃ (k:Nat) (d4:Array Nat),m=k + 1∧ys=[N .i64 ((k:Int) - 1)]∧k≤e - a∧M4=PM M b T d4∧d4.size=d.size∧R4=Sort.heapPop lN a k d4) _ ⟨e - a,d3,rfl,by congr 3; omega,Nat.le_refl _,rfl,hs3,hR4⟩ ?_
  rintro lD m ys M4 fI ⟨k,d4,rfl,rfl,hk,rfl,hs4,hm4⟩
  dsimp only[aa]
  rw[iR]
  refine aJ (fun hg=>?_) (fun hg=>?_)
  ·have hg:1≤k:=by
    have:(k:Int) - 1 ≥ 0:=of_decide_eq_true hg
    omega
   obtain⟨k',rfl⟩ : ∃ k',k=k' + 1:=⟨k - 1,by omega⟩
   rw[Sort.heapPop] at hm4
   rw[show((k' + 1:Nat) : Int) - 1=(k' : Int) by omega,addN (by omega),addN (by omega),PM.rd hs4.symm (by omega),PM.rd hs4.symm (by omega),PM.swap hs4.symm (by omega) (by omega),show d.size=(Sort.swp d4 a (a + k')).size by rw[fK]; exact hs4.symm]
   refine hs (lo:=0) hb (by rw[fK]; omega) (by rw[fK]; omega) (by decide) ?_
   rw[jG,bB (by omega) (by omega)]
   exact fI _ _ _ (by omega) ⟨k',_,rfl,rfl,by omega,rfl,by rw[zP _ _ k' _ _ (by omega),fK]; exact hs4,hm4⟩
  ·have hk0:k=0:=by
    have:¬ (k:Int) - 1 ≥ 0:=of_decide_eq_false hg
    omega
   subst hk0
   rw[Sort.heapPop] at hm4
   rw[hm4] at hQ
   exact hQ
section
variable {body:(List AV→RM→Prop)→List AV→RM→Prop} {p:Nat→Bool} {d:Array Nat} {M:RM}
theorem Qz {J i0:Nat} (h:∀ (next:List AV→RM→Prop) (i:Nat),i0≤i→i≤max (J + 1) i0→((decide (i≤J) && p d[i]!)=true→next [N .i64 ((i + 1:Nat) : Int)] M)→((decide (i≤J) && p d[i]!)=false→i=Sort.scanUp p d J i0)→body next [N .i64 (i:Int)] M) :
  bu body [N .i64 (i0:Int)] M:=by
 obtain⟨R,hR⟩ : ∃ R,R=Sort.scanUp p d J i0:=⟨_,rfl⟩
 refine aQ (fun m ys M3=>∃ (i:Nat),m=J + 1 - i∧ys=[N .i64 (i:Int)]∧i0≤i∧i≤max (J + 1) i0∧M3=M∧R=Sort.scanUp p d J i) _ ⟨i0,rfl,rfl,Nat.le_refl _,by omega,rfl,hR⟩ ?_
 rintro next m ys M3 hnext ⟨i,rfl,rfl,h0,hi,rfl,hm⟩
 rw[Sort.scanUp] at hm
 refine h next i h0 hi (fun hc=>?_) (fun hc=>?_)
 ·rw[if_pos hc] at hm
  have hij:i≤J:=by
   rw[Bool.and_eq_true] at hc
   exact of_decide_eq_true hc.1
  exact hnext _ _ _ (by omega) ⟨i + 1,rfl,rfl,by omega,by omega,rfl,hm⟩
 ·rw[if_neg (by rw[hc]; decide)] at hm
  rw[← hR]; exact hm.symm
theorem II {i j0:Nat} (h1:1≤i) (h:∀ (next:List AV→RM→Prop) (j:Nat),j≤j0→(j=j0∨i≤j + 1)→((decide (i≤j) && p d[j]!)=true→next [N .i64 ((j - 1:Nat) : Int)] M)→((decide (i≤j) && p d[j]!)=false→j=Sort.scanDown p d i j0)→body next [N .i64 (j:Int)] M) :
  bu body [N .i64 (j0:Int)] M:=by
 obtain⟨R,hR⟩ : ∃ R,R=Sort.scanDown p d i j0:=⟨_,rfl⟩
 refine aQ (fun m ys M3=>∃ (j:Nat),m=j + 1∧ys=[N .i64 (j:Int)]∧j≤j0∧(j=j0∨i≤j + 1)∧M3=M∧R=Sort.scanDown p d i j) _ ⟨j0,rfl,rfl,Nat.le_refl _,.inl rfl,rfl,hR⟩ ?_
 rintro next m ys M3 hnext ⟨j,rfl,rfl,h0,hi,rfl,hm⟩
 refine h next j h0 hi (fun hc=>?_) (fun hc=>?_)
 ·have hij:i≤j:=by
   rw[Bool.and_eq_true] at hc
   exact of_decide_eq_true hc.1
  obtain⟨k,rfl⟩ : ∃ k,j=k + 1:=⟨j - 1,by omega⟩
  rw[Sort.scanDown,if_pos hc] at hm
  exact hnext _ _ _ (by omega) ⟨k,rfl,rfl,by omega,by omega,rfl,hm⟩
 ·rw[← hR]
  cases j with
  | zero=>exact hm.symm
  | succ k=>rw[Sort.scanDown,if_neg (by rw[hc]; decide)] at hm; exact hm.symm
end
theorem zM {d d' : Array Nat} {i j:Nat} (h:d'.size=d.size) : (Sort.swp d' i j).size=d.size:=by rw[fK,h]
def Q0 (T:Nat) (c:au) : Prop:=∀ {M:RM} {b a e pv:Nat} {d:Array Nat} {Q:ak},b<M.next→d.size≤1000000→a≤pv→pv<e→e≤d.size→Q (N .i64 (((Sort.partitionEqual lN d a e pv).1:Nat) : Int)) (PM M b T (Sort.partitionEqual lN d a e pv).2) →
 c [vv b d.size,N .i64 (a:Int),N .i64 (e:Int),N .i64 (pv:Int)] (PM M b T d) Q
theorem andM {c p:Bool} {f:ak→Prop} {M:RM} {G:AV→RM→Prop} (hf:c=true→∀ k:ak,k (Bo p) M→f k) (hG:G (Bo (c && p)) M) :
  af (Bo c) true f (fun k=>k .undef M) (fun t M'=>aH (Bo c) t (Bo false) fun u=>G u M'):=by
 cases c with
 | false=>rw[bC]; dsimp only; rw[bK]; exact hG
 | true=>rw[bU]; exact hf rfl _ (by rw[cK]; exact hG)
theorem WS {c p:Bool} {f:KR→Prop} {M:RM} {G:AV→RM→Prop} (hf:c=true→∀ k:KR,k (Bo p) M none→f k) (hG:G (Bo (c && p)) M) :
  ah (Bo c) true f (fun k=>k .undef M none) (fun t M' b=>aH (Bo c) t (Bo false) fun u=>G u M'):=by
 cases c with
 | false=>rw[gW]; dsimp only; rw[bK]; exact hG
 | true=>rw[gY]; exact hf rfl _ (by rw[cK]; exact hG)
theorem X4 {T:Nat} {cl:au} (hl:ym cl) : Q0 T fun args M Q=>∃ a0 a1 a2 a3,args=[a0,a1,a2,a3]∧jM cl a0 a1 a2 a3 M Q:=by
 intro M b a e pv d Q hb hsz hap hpe he hQ
 refine⟨_,_,_,_,rfl, ?_⟩
 unfold jM
 simp only[ig,fQ,gG]
 rw[Sort.partitionEqual] at hQ
 rw[PM.rd rfl (by omega),PM.rd rfl (by omega),PM.swap rfl (by omega) (by omega),add1 (by omega),dM (by omega) (by omega)]
 obtain⟨R,hR⟩ : ∃ R,R=Sort.partEqLoop lN a (a + 1) (e - 1) (Sort.swp d a pv):=⟨_,rfl⟩
 rw[← hR] at hQ
 refine aQ (fun m ys M3=>∃ (i j:Nat) (d3:Array Nat),m=j + 1 - i∧ys=[N .i64 (i:Int),N .i64 (j:Int)]∧a + 1≤i∧i≤e + 1∧j<e∧M3=PM M b T d3∧d3.size=d.size∧R=Sort.partEqLoop lN a i j d3) _ ⟨a + 1,e - 1,_,rfl,rfl,Nat.le_refl _,by omega,by omega,rfl,fK _ _ _,hR⟩ ?_
 rintro next m ys M3 hnext ⟨i,j,d3,rfl,rfl,hai,hie,hje,rfl,hs3,hm⟩
 dsimp only[aa]
 rw[Sort.partEqLoop] at hm
 refine Qz (p:=fun x=>!lN d3[a]! x) (d:=d3) (J:=j) fun lD i2 h0 h1 hgo hstop=>?_
 dsimp only[aa]
 rw[sS]
 refine WS (p:=!lN d3[a]! d3[i2]!) (fun hc k hk=>?_) ?_
 ·have hc:i2≤j:=of_decide_eq_true hc
  rw[PM.rd hs3.symm (by omega),PM.rd hs3.symm (by omega)]
  refine hl ?_
  rw[aY]
  exact hk
 refine aJ (fun h=>?_) (fun h=>?_)
 ·rw[add1 (by omega)]
  exact hgo h
 have hi2:=hstop h
 rw[← hi2] at hm
 refine II (p:=fun x=>lN d3[a]! x) (d:=d3) (i:=i2) (by omega) fun zK j2 q0 q1 Bc qU=>?_
 dsimp only[aa]
 rw[sS]
 refine andM (p:=lN d3[a]! d3[j2]!) (fun hc k hk=>?_) ?_
 ·have hc:i2≤j2:=of_decide_eq_true hc
  rw[PM.rd hs3.symm (by omega),PM.rd hs3.symm (by omega)]
  exact hl hk
 refine aJ (fun h=>?_) (fun h=>?_)
 ·have hc:i2≤j2:=by
   rw[Bool.and_eq_true] at h
   exact of_decide_eq_true h.1
  rw[dM (by omega) (by omega)]
  exact Bc h
 have hj2:=qU h
 simp only[← hj2] at hm
 rw[yM]
 refine aJ (fun hg=>?_) (fun hg=>?_)
 ·rw[if_pos (of_decide_eq_true hg)] at hm
  rw[hm] at hQ
  exact hQ
 ·have hg:¬ i2 > j2:=of_decide_eq_false hg
  rw[if_neg hg,dif_pos (by omega)] at hm
  rw[PM.rd hs3.symm (by omega),PM.rd hs3.symm (by omega),PM.swap hs3.symm (by omega) (by omega),add1 (by omega),dM (by omega) (by omega)]
  exact hnext _ _ _ (by omega) ⟨i2 + 1,j2 - 1,_,rfl,rfl,by omega,by omega,by omega,rfl,zM hs3,hm⟩
def aaN (T:Nat) (c:au) : Prop:=∀ {M:RM} {b a e pv:Nat} {d:Array Nat} {Q:ak},b<M.next→d.size≤1000000→a≤pv→pv<e→e≤d.size→Q (.tup [N .i64 (((Sort.partition lN d a e pv).1:Nat) : Int),Bo (Sort.partition lN d a e pv).2.1]) (PM M b T (Sort.partition lN d a e pv).2.2) →
 c [vv b d.size,N .i64 (a:Int),N .i64 (e:Int),N .i64 (pv:Int)] (PM M b T d) Q
theorem Iw (d:Array Nat) (a e pv:Nat) : Sort.partition lN d a e pv =
  if Sort.scanUp (fun x=>lN x (Sort.swp d a pv)[a]!) (Sort.swp d a pv) (e - 1) (a + 1) > Sort.scanDown (fun x=>!lN x (Sort.swp d a pv)[a]!) (Sort.swp d a pv) (Sort.scanUp (fun x=>lN x (Sort.swp d a pv)[a]!) (Sort.swp d a pv) (e - 1) (a + 1)) (e - 1) then
   (Sort.scanDown (fun x=>!lN x (Sort.swp d a pv)[a]!) (Sort.swp d a pv) (Sort.scanUp (fun x=>lN x (Sort.swp d a pv)[a]!) (Sort.swp d a pv) (e - 1) (a + 1)) (e - 1),true,Sort.swp (Sort.swp d a pv) (Sort.scanDown (fun x=>!lN x (Sort.swp d a pv)[a]!) (Sort.swp d a pv) (Sort.scanUp (fun x=>lN x (Sort.swp d a pv)[a]!) (Sort.swp d a pv) (e - 1) (a + 1)) (e - 1)) a)
  else((Sort.partLoop lN a (Sort.scanUp (fun x=>lN x (Sort.swp d a pv)[a]!) (Sort.swp d a pv) (e - 1) (a + 1) + 1) (Sort.scanDown (fun x=>!lN x (Sort.swp d a pv)[a]!) (Sort.swp d a pv) (Sort.scanUp (fun x=>lN x (Sort.swp d a pv)[a]!) (Sort.swp d a pv) (e - 1) (a + 1)) (e - 1) - 1) (Sort.swp (Sort.swp d a pv) (Sort.scanUp (fun x=>lN x (Sort.swp d a pv)[a]!) (Sort.swp d a pv) (e - 1) (a + 1)) (Sort.scanDown (fun x=>!lN x (Sort.swp d a pv)[a]!) (Sort.swp d a pv) (Sort.scanUp (fun x=>lN x (Sort.swp d a pv)[a]!) (Sort.swp d a pv) (e - 1) (a + 1)) (e - 1)))).1,false,
   Sort.swp (Sort.partLoop lN a (Sort.scanUp (fun x=>lN x (Sort.swp d a pv)[a]!) (Sort.swp d a pv) (e - 1) (a + 1) + 1) (Sort.scanDown (fun x=>!lN x (Sort.swp d a pv)[a]!) (Sort.swp d a pv) (Sort.scanUp (fun x=>lN x (Sort.swp d a pv)[a]!) (Sort.swp d a pv) (e - 1) (a + 1)) (e - 1) - 1) (Sort.swp (Sort.swp d a pv) (Sort.scanUp (fun x=>lN x (Sort.swp d a pv)[a]!) (Sort.swp d a pv) (e - 1) (a + 1)) (Sort.scanDown (fun x=>!lN x (Sort.swp d a pv)[a]!) (Sort.swp d a pv) (Sort.scanUp (fun x=>lN x (Sort.swp d a pv)[a]!) (Sort.swp d a pv) (e - 1) (a + 1)) (e - 1)))).2
    (Sort.partLoop lN a (Sort.scanUp (fun x=>lN x (Sort.swp d a pv)[a]!) (Sort.swp d a pv) (e - 1) (a + 1) + 1) (Sort.scanDown (fun x=>!lN x (Sort.swp d a pv)[a]!) (Sort.swp d a pv) (Sort.scanUp (fun x=>lN x (Sort.swp d a pv)[a]!) (Sort.swp d a pv) (e - 1) (a + 1)) (e - 1) - 1) (Sort.swp (Sort.swp d a pv) (Sort.scanUp (fun x=>lN x (Sort.swp d a pv)[a]!) (Sort.swp d a pv) (e - 1) (a + 1)) (Sort.scanDown (fun x=>!lN x (Sort.swp d a pv)[a]!) (Sort.swp d a pv) (Sort.scanUp (fun x=>lN x (Sort.swp d a pv)[a]!) (Sort.swp d a pv) (e - 1) (a + 1)) (e - 1)))).1 a):=rfl
theorem adf {T:Nat} {cl:au} (hl:ym cl) : aaN T fun args M Q=>∃ a0 a1 a2 a3,args=[a0,a1,a2,a3]∧lX cl a0 a1 a2 a3 M Q:=by
 intro M b a e pv d Q hb hsz hap hpe he hQ
 refine⟨_,_,_,_,rfl, ?_⟩
 unfold lX
 simp only[ig,fQ,gG]
 have hs2:=fK d a pv
 rw[Iw] at hQ
 rw[PM.rd rfl (by omega),PM.rd rfl (by omega),PM.swap rfl (by omega) (by omega),add1 (by omega),dM (by omega) (by omega)]
 generalize Sort.swp d a pv=d2 at *
 refine Qz (p:=fun x=>lN x d2[a]!) (d:=d2) (J:=e - 1) fun lD i h0 h1 hgo hstop=>?_
 dsimp only[aa]
 rw[sS]
 refine andM (p:=lN d2[i]! d2[a]!) (fun hc k hk=>?_) ?_
 ·have hc:i≤e - 1:=of_decide_eq_true hc
  rw[PM.rd hs2.symm (by omega),PM.rd hs2.symm (by omega)]
  exact hl hk
 refine aJ (fun h=>?_) (fun h=>?_)
 ·rw[add1 (by omega)]
  exact hgo h
 have hi2:=hstop h
 simp only[← hi2] at hQ
 refine II (p:=fun x=>!lN x d2[a]!) (d:=d2) (i:=i) (by omega) fun zK j q0 q1 Bc qU=>?_
 dsimp only[aa]
 rw[sS]
 refine WS (p:=!lN d2[j]! d2[a]!) (fun hc k hk=>?_) ?_
 ·have hc:i≤j:=of_decide_eq_true hc
  rw[PM.rd hs2.symm (by omega),PM.rd hs2.symm (by omega)]
  refine hl ?_
  rw[aY]
  exact hk
 refine aJ (fun h=>?_) (fun h=>?_)
 ·have hc:i≤j:=by
   rw[Bool.and_eq_true] at h
   exact of_decide_eq_true h.1
  rw[dM (by omega) (by omega)]
  exact Bc h
 have hj2:=qU h
 simp only[← hj2] at hQ
 rw[yM]
 refine aJ (fun hg=>?_) (fun hg=>?_)
 ·rw[if_pos (of_decide_eq_true hg)] at hQ
  rw[PM.rd hs2.symm (by omega),PM.rd hs2.symm (by omega),PM.swap hs2.symm (by omega) (by omega)]
  exact hQ
 have hg:¬ i > j:=of_decide_eq_false hg
 rw[if_neg hg] at hQ
 rw[PM.rd hs2.symm (by omega),PM.rd hs2.symm (by omega),PM.swap hs2.symm (by omega) (by omega),add1 (by omega),dM (by omega) (by omega)]
 obtain⟨R,hR⟩ : ∃ R,R=Sort.partLoop lN a (i + 1) (j - 1) (Sort.swp d2 i j):=⟨_,rfl⟩
 simp only[← hR] at hQ
 refine aQ (fun m ys M3=>∃ (i j:Nat) (d3:Array Nat),m=j + 1 - i∧ys=[N .i64 (i:Int),N .i64 (j:Int)]∧a + 1≤i∧i≤e + 1∧j<e∧M3=PM M b T d3∧d3.size=d.size∧R=Sort.partLoop lN a i j d3) _ ⟨i + 1,j - 1,_,rfl,rfl,by omega,by omega,by omega,rfl,zM hs2,hR⟩ ?_
 rintro next m ys M3 hnext ⟨i,j,d3,rfl,rfl,hai,hie,hje,rfl,hs3,hm⟩
 dsimp only[aa]
 rw[Sort.partLoop] at hm
 refine Qz (p:=fun x=>lN x d3[a]!) (d:=d3) (J:=j) fun lD i2 h0 h1 hgo hstop=>?_
 dsimp only[aa]
 rw[sS]
 refine andM (p:=lN d3[i2]! d3[a]!) (fun hc k hk=>?_) ?_
 ·have hc:i2≤j:=of_decide_eq_true hc
  rw[PM.rd hs3.symm (by omega),PM.rd hs3.symm (by omega)]
  exact hl hk
 refine aJ (fun h=>?_) (fun h=>?_)
 ·rw[add1 (by omega)]
  exact hgo h
 have hi2:=hstop h
 rw[← hi2] at hm
 refine II (p:=fun x=>!lN x d3[a]!) (d:=d3) (i:=i2) (by omega) fun zK j2 q0 q1 Bc qU=>?_
 dsimp only[aa]
 rw[sS]
 refine WS (p:=!lN d3[j2]! d3[a]!) (fun hc k hk=>?_) ?_
 ·have hc:i2≤j2:=of_decide_eq_true hc
  rw[PM.rd hs3.symm (by omega),PM.rd hs3.symm (by omega)]
  refine hl ?_
  rw[aY]
  exact hk
 refine aJ (fun h=>?_) (fun h=>?_)
 ·have hc:i2≤j2:=by
   rw[Bool.and_eq_true] at h
   exact of_decide_eq_true h.1
  rw[dM (by omega) (by omega)]
  exact Bc h
 have hj2:=qU h
 simp only[← hj2] at hm
 rw[yM]
 refine aJ (fun hg=>?_) (fun hg=>?_)
 ·rw[if_pos (of_decide_eq_true hg)] at hm
  rw[hm] at hQ
  rw[PM.rd hs3.symm (by omega),PM.rd hs3.symm (by omega),PM.swap hs3.symm (by omega) (by omega)]
  exact hQ
 ·have hg:¬ i2 > j2:=of_decide_eq_false hg
  rw[if_neg hg,dif_pos (by omega)] at hm
  rw[PM.rd hs3.symm (by omega),PM.rd hs3.symm (by omega),PM.swap hs3.symm (by omega) (by omega),add1 (by omega),dM (by omega) (by omega)]
  exact hnext _ _ _ (by omega) ⟨i2 + 1,j2 - 1,_,rfl,rfl,by omega,by omega,by omega,rfl,zM hs3,hm⟩
def Up (xs:List Nat) : Prop:=∀ i j (hi:i<xs.length) (hj:j<xs.length),i≤j→xs[i]≤xs[j]
theorem Asc.up {xs:List Nat} (h:Asc xs) : Up xs:=fun i j hi hj hij=>by
 rcases Nat.lt_or_ge i j with h1 | h1
 ·exact Nat.le_of_lt (h.lt h1 hj)
 ·have:i=j:=by omega
  subst this; exact Nat.le_refl _
theorem Own.u64 {M:RM} {base T:Nat} {v:AV} {xs:List Nat} (h:Ow aX M base T v xs) : Sl aX M v xs:=h.jm
theorem uV (a b:Nat) : (a:Int).tdiv (b:Int)=((a / b:Nat) : Int):=by
 rw[Int.tdiv_eq_ediv_of_nonneg (by omega)]; rfl
def SM (M:RM) (s T k:Nat) : RM:=M.put s (.row [N .i64 (k:Int)] false T 0)
theorem SM.put {M:RM} {s T k k' : Nat} : (SM M s T k).put s (.row [N .i64 (k' : Int)] false T 0)=SM M s T k':=by
 unfold SM RM.put
 congr 1
 funext c
 simp only
 by_cases h:c=s <;> simp[h]
theorem SM.new {M:RM} {T:Nat} : M.push (.row [N .i64 0] false T 0)=SM (M.push (.row [N .i64 0] false T 0)) M.next T 0:=by
 unfold SM RM.put RM.push
 congr 1
 funext c
 simp only
 by_cases h:c=M.next <;> simp[h]
def Rh (T TI:Nat) (c:au) : Prop:=∀ {M:RM} {b s k i j:Nat} {d:Array Nat} {Q:ak},s≠b→i<d.size→j<d.size→k≤1000 →
 Q (.tup [N .i64 (((Sort.order2 lN d i j k).1:Nat) : Int),N .i64 (((Sort.order2 lN d i j k).2.1:Nat) : Int)]) (PM (SM M s TI (Sort.order2 lN d i j k).2.2) b T d)→c [vv b d.size,N .i64 (i:Int),N .i64 (j:Int),.ptr s 0] (PM (SM M s TI k) b T d) Q
theorem UW {T TI:Nat} {cl:au} (hl:ym cl) : Rh T TI fun args M Q=>∃ a0 a1 a2 a3,args=[a0,a1,a2,a3]∧oo cl a0 a1 a2 a3 M Q:=by
 intro M b s k i j d Q hsb hi hj hk hQ
 refine⟨_,_,_,_,rfl, ?_⟩
 unfold oo
 rw[PM.rd rfl (by omega),PM.rd rfl (by omega)]
 refine hl ?_
 unfold Sort.order2 at hQ
 refine aJ (fun h=>?_) (fun h=>?_)
 ·rw[if_pos (by exact h)] at hQ
  have hh:(PM (SM M s TI k) b T d).heap s=some (.row [N .i64 (k:Int)] false TI 0):=by
   rw[PM.PD hsb]; exact RM.xB _ _
  rw[aI,aj hh rfl,add1 (by omega),aI,gV hh (by simp) rfl rfl]
  rw[PM.aa3 hsb]
  rw[show([N .i64 (k:Int)] : List AV).set 0 (N .i64 ((k + 1:Nat) : Int))=[N .i64 ((k + 1:Nat) : Int)] from rfl,SM.put]
  exact hQ
 ·rw[if_neg (by rw[show lN d[j]! d[i]! = false from h]; decide)] at hQ
  exact hQ
theorem yn (d:Array Nat) (i j k:Nat) : (((Sort.order2 lN d i j k).1=i∧(Sort.order2 lN d i j k).2.1=j)∨((Sort.order2 lN d i j k).1=j∧(Sort.order2 lN d i j k).2.1=i))∧k≤(Sort.order2 lN d i j k).2.2∧(Sort.order2 lN d i j k).2.2≤k + 1:=by
 unfold Sort.order2
 split <;> simp
def Kj (T TI:Nat) (c:au) : Prop:=∀ {M:RM} {b s k i j h:Nat} {d:Array Nat} {Q:ak},s≠b→i<d.size→j<d.size→h<d.size→k≤900 →
 Q (N .i64 (((Sort.median lN d i j h k).1:Nat) : Int)) (PM (SM M s TI (Sort.median lN d i j h k).2) b T d)→c [vv b d.size,N .i64 (i:Int),N .i64 (j:Int),N .i64 (h:Int),.ptr s 0] (PM (SM M s TI k) b T d) Q
theorem VP {T TI:Nat} {c2:au} (h2:Rh T TI c2) : Kj T TI fun args M Q=>∃ a0 a1 a2 a3 a4,args=[a0,a1,a2,a3,a4]∧ol c2 a0 a1 a2 a3 a4 M Q:=by
 intro M b s k i j h d Q hsb hi hj hh hk hQ
 refine⟨_,_,_,_,_,rfl, ?_⟩
 unfold ol
 unfold Sort.median at hQ
 have o1:=yn d i j k
 refine h2 hsb hi hj (by omega) ?_
 rw[eD,eF]
 dsimp only at hQ
 generalize Sort.order2 lN d i j k=r1 at *
 have o2:=yn d r1.2.1 h r1.2.2
 refine h2 hsb (by omega) hh (by omega) ?_
 rw[eD,eF]
 generalize Sort.order2 lN d r1.2.1 h r1.2.2=r2 at *
 refine h2 hsb (by omega) (by omega) (by omega) ?_
 rw[eD,eF]
 exact hQ
theorem Jo (d:Array Nat) {i j h k n:Nat} (hi:i<n) (hj:j<n) (hh:h<n) : (Sort.median lN d i j h k).1<n∧(Sort.median lN d i j h k).2≤k + 3:=by
 unfold Sort.median
 dsimp only
 have o1:=yn d i j k
 generalize Sort.order2 lN d i j k=r1 at *
 have o2:=yn d r1.2.1 h r1.2.2
 generalize Sort.order2 lN d r1.2.1 h r1.2.2=r2 at *
 have o3:=yn d r1.1 r2.1 r2.2.2
 omega
def Rj (T TI:Nat) (c:au) : Prop:=∀ {M:RM} {b s k i:Nat} {d:Array Nat} {Q:ak},s≠b→d.size≤1000000→1≤i→i + 1<d.size→k≤900 →
 Q (N .i64 (((Sort.medianAdjacent lN d i k).1:Nat) : Int)) (PM (SM M s TI (Sort.medianAdjacent lN d i k).2) b T d)→c [vv b d.size,N .i64 (i:Int),.ptr s 0] (PM (SM M s TI k) b T d) Q
theorem VL {T TI:Nat} {cm:au} (hm:Kj T TI cm) : Rj T TI fun args M Q=>∃ a0 a1 a2,args=[a0,a1,a2]∧jK cm a0 a1 a2 M Q:=by
 intro M b s k i d Q hsb hsz h1 h2 hk hQ
 refine⟨_,_,_,rfl, ?_⟩
 unfold jK
 rw[dM (by omega) (by omega),add1 (by omega)]
 exact hm hsb (by omega) (by omega) (by omega) hk hQ
def tZ:Sort.Hint→Int
 | .unknown=>0
 | .increasing=>1
 | .decreasing=>2
def PQ (T:Nat) (c:au) : Prop:=∀ {M:RM} {b a e:Nat} {d:Array Nat} {Q:ak},b<M.next→d.size≤1000000→a<e→e≤d.size →
 (∀ M',ag [] M M'→Q (.tup [N .i64 (((Sort.choosePivot lN d a e).1:Nat) : Int),N .i64 (tZ (Sort.choosePivot lN d a e).2)]) (PM M' b T d))→c [vv b d.size,N .i64 (a:Int),N .i64 (e:Int)] (PM M b T d) Q
theorem Uw {T TI:Nat} {ca cm:au} (ha:Rj T TI ca) (hm:Kj T TI cm) : PQ T fun args M Q=>∃ a0 a1 a2,args=[a0,a1,a2]∧kZ TI ca cm a0 a1 a2 M Q:=by
 intro M b a e d Q hb hsz hae he hQ
 refine⟨_,_,_,rfl, ?_⟩
 unfold kZ
 simp only[fo]
 rw[iJ (by omega) (by omega),bn,PM.push hb]
 have hnx:(PM M b T d).next=M.next:=rfl
 rw[hnx]
 have kk:ag [] M (M.push (.row [N .i64 0] false TI 0)):=(ag.refl _ _).push _
 have kS:∀ k,ag [] M (SM (M.push (.row [N .i64 0] false TI 0)) M.next TI k):=fun k=>kk.new _ (Nat.le_refl _)
 rw[show PM (M.push (.row [N .i64 0] false TI 0)) b T d=PM (SM (M.push (.row [N .i64 0] false TI 0)) M.next TI 0) b T d by rw[← SM.new]]
 generalize M.push (.row [N .i64 0] false TI 0)=M1 at *
 have hsb:M.next≠b:=by omega
 generalize M.next=s at *
 have hq:∀ (k:Nat) (c:Int),c=(k:Int)→k≤3→∀ (K:AV→Prop),(ae .quo (N .i64 ((e - a:Nat) : Int)) (N .i64 4) fun t18=>ae .mul t18 (N .i64 c) fun t19=>ae .add (N .i64 (a:Int)) t19 K)=K (N .i64 ((a + (e - a) / 4 * k:Nat) : Int)):=fun k c hc hk K=>by
  subst hc
  have hb:(e - a) / 4 * k≤(e - a) * 3:=Nat.mul_le_mul (Nat.div_le_self _ _) hk
  rw[ql,show(4:Int)=((4:Nat) : Int) from rfl,uV,bB (by omega) (by omega),uE,← Int.natCast_mul,bB (by omega) (by omega),addN (by omega)]
  exact propext ⟨fun h=>h.2,fun h=>⟨by decide,h⟩⟩
 rw[hq 1 1 rfl (by omega),hq 2 2 rfl (by omega),hq 3 3 rfl (by omega)]
 have hcp:Sort.choosePivot lN d a e=((if e - a ≥ 8 then(if e - a ≥ 50 then Sort.median lN d (Sort.medianAdjacent lN d (a + (e - a) / 4 * 1) 0).1 (Sort.medianAdjacent lN d (a + (e - a) / 4 * 2) (Sort.medianAdjacent lN d (a + (e - a) / 4 * 1) 0).2).1 (Sort.medianAdjacent lN d (a + (e - a) / 4 * 3) (Sort.medianAdjacent lN d (a + (e - a) / 4 * 2) (Sort.medianAdjacent lN d (a + (e - a) / 4 * 1) 0).2).2).1 (Sort.medianAdjacent lN d (a + (e - a) / 4 * 3) (Sort.medianAdjacent lN d (a + (e - a) / 4 * 2) (Sort.medianAdjacent lN d (a + (e - a) / 4 * 1) 0).2).2).2
   else Sort.median lN d (a + (e - a) / 4 * 1) (a + (e - a) / 4 * 2) (a + (e - a) / 4 * 3) 0) else(a + (e - a) / 4 * 2,0) : Nat × Nat).1,
   if (if e - a ≥ 8 then(if e - a ≥ 50 then Sort.median lN d (Sort.medianAdjacent lN d (a + (e - a) / 4 * 1) 0).1 (Sort.medianAdjacent lN d (a + (e - a) / 4 * 2) (Sort.medianAdjacent lN d (a + (e - a) / 4 * 1) 0).2).1 (Sort.medianAdjacent lN d (a + (e - a) / 4 * 3) (Sort.medianAdjacent lN d (a + (e - a) / 4 * 2) (Sort.medianAdjacent lN d (a + (e - a) / 4 * 1) 0).2).2).1 (Sort.medianAdjacent lN d (a + (e - a) / 4 * 3) (Sort.medianAdjacent lN d (a + (e - a) / 4 * 2) (Sort.medianAdjacent lN d (a + (e - a) / 4 * 1) 0).2).2).2
   else Sort.median lN d (a + (e - a) / 4 * 1) (a + (e - a) / 4 * 2) (a + (e - a) / 4 * 3) 0) else(a + (e - a) / 4 * 2,0) : Nat × Nat).2=0 then .increasing else if (if e - a ≥ 8 then(if e - a ≥ 50 then Sort.median lN d (Sort.medianAdjacent lN d (a + (e - a) / 4 * 1) 0).1 (Sort.medianAdjacent lN d (a + (e - a) / 4 * 2) (Sort.medianAdjacent lN d (a + (e - a) / 4 * 1) 0).2).1 (Sort.medianAdjacent lN d (a + (e - a) / 4 * 3) (Sort.medianAdjacent lN d (a + (e - a) / 4 * 2) (Sort.medianAdjacent lN d (a + (e - a) / 4 * 1) 0).2).2).1 (Sort.medianAdjacent lN d (a + (e - a) / 4 * 3) (Sort.medianAdjacent lN d (a + (e - a) / 4 * 2) (Sort.medianAdjacent lN d (a + (e - a) / 4 * 1) 0).2).2).2
   else Sort.median lN d (a + (e - a) / 4 * 1) (a + (e - a) / 4 * 2) (a + (e - a) / 4 * 3) 0) else(a + (e - a) / 4 * 2,0) : Nat × Nat).2=12 then .decreasing else .unknown):=rfl
 rw[hcp] at hQ
 generalize hr:(if e - a ≥ 8 then(if e - a ≥ 50 then Sort.median lN d (Sort.medianAdjacent lN d (a + (e - a) / 4 * 1) 0).1 (Sort.medianAdjacent lN d (a + (e - a) / 4 * 2) (Sort.medianAdjacent lN d (a + (e - a) / 4 * 1) 0).2).1 (Sort.medianAdjacent lN d (a + (e - a) / 4 * 3) (Sort.medianAdjacent lN d (a + (e - a) / 4 * 2) (Sort.medianAdjacent lN d (a + (e - a) / 4 * 1) 0).2).2).1 (Sort.medianAdjacent lN d (a + (e - a) / 4 * 3) (Sort.medianAdjacent lN d (a + (e - a) / 4 * 2) (Sort.medianAdjacent lN d (a + (e - a) / 4 * 1) 0).2).2).2
   else Sort.median lN d (a + (e - a) / 4 * 1) (a + (e - a) / 4 * 2) (a + (e - a) / 4 * 3) 0) else(a + (e - a) / 4 * 2,0) : Nat × Nat)=r at hQ
 refine di (fun zs M'=>zs=[N .i64 ((r.1:Nat) : Int)]∧M'=PM (SM M1 s TI r.2) b T d) ?_ ?_
 ·rintro zs M' ⟨rfl,rfl⟩
  dsimp only[aa]
  have hh:(PM (SM M1 s TI r.2) b T d).heap s=some (.row [N .i64 (r.2:Int)] false TI 0):=by
   rw[PM.PD hsb]; exact RM.xB _ _
  have:=hQ _ (kS r.2)
  rw[aj hh rfl,bT]
  by_cases h0:r.2=0
  ·rw[show((r.2:Int) == 0)=true by rw[h0]; rfl,cO]
   rw[if_pos h0] at this
   exact this
  ·rw[show((r.2:Int) == 0)=false by rw[beq_eq_false_iff_ne]; omega,bJ,bT]
   rw[if_neg h0] at this
   by_cases h12:r.2=12
   ·rw[show((r.2:Int) == 12)=true by rw[h12]; rfl,cO]
    rw[if_pos h12] at this
    exact this
   ·rw[show((r.2:Int) == 12)=false by rw[beq_eq_false_iff_ne]; omega,bJ]
    rw[if_neg h12] at this
    exact this
 intro J hJ
 rw[show(8:Int)=((8:Nat) : Int) from rfl,oV]
 refine aJ (fun h8=>?_) (fun h8=>?_)
 ·have h8:e - a ≥ 8:=of_decide_eq_true h8
  rw[if_pos h8] at hr
  refine di (fun zs M'=>∃ x y z k:Nat,zs=[N .i64 (x:Int),N .i64 (y:Int),N .i64 (z:Int)]∧M'=PM (SM M1 s TI k) b T d∧x<d.size∧y<d.size∧z<d.size∧k≤900∧Sort.median lN d x y z k=r) ?_ ?_
  ·rintro zs M' ⟨x,y,z,k,rfl,rfl,hx,hy,hz,hk,he⟩
   dsimp only[aa]
   refine hm hsb hx hy hz hk ?_
   rw[he]
   exact hJ _ _ ⟨rfl,rfl⟩
  intro J0 hJ0
  rw[show(50:Int)=((50:Nat) : Int) from rfl,oV]
  refine aJ (fun h50=>?_) (fun h50=>?_)
  ·have h50:e - a ≥ 50:=of_decide_eq_true h50
   rw[if_pos h50] at hr
   have m1:=Jo d (i:=a + (e - a) / 4 * 1 - 1) (j:=a + (e - a) / 4 * 1) (h:=a + (e - a) / 4 * 1 + 1) (k:=0) (n:=d.size) (by omega) (by omega) (by omega)
   have r1:(Sort.medianAdjacent lN d (a + (e - a) / 4 * 1) 0).1<d.size∧(Sort.medianAdjacent lN d (a + (e - a) / 4 * 1) 0).2≤0 + 3:=m1
   refine ha hsb hsz (by omega) (by omega) (by omega) ?_
   generalize Sort.medianAdjacent lN d (a + (e - a) / 4 * 1) 0=q1 at *
   have m2:=Jo d (i:=a + (e - a) / 4 * 2 - 1) (j:=a + (e - a) / 4 * 2) (h:=a + (e - a) / 4 * 2 + 1) (k:=q1.2) (n:=d.size) (by omega) (by omega) (by omega)
   have r2:(Sort.medianAdjacent lN d (a + (e - a) / 4 * 2) q1.2).1<d.size∧(Sort.medianAdjacent lN d (a + (e - a) / 4 * 2) q1.2).2≤q1.2 + 3:=m2
   refine ha hsb hsz (by omega) (by omega) (by omega) ?_
   generalize Sort.medianAdjacent lN d (a + (e - a) / 4 * 2) q1.2=q2 at *
   have m3:=Jo d (i:=a + (e - a) / 4 * 3 - 1) (j:=a + (e - a) / 4 * 3) (h:=a + (e - a) / 4 * 3 + 1) (k:=q2.2) (n:=d.size) (by omega) (by omega) (by omega)
   have r3:(Sort.medianAdjacent lN d (a + (e - a) / 4 * 3) q2.2).1<d.size∧(Sort.medianAdjacent lN d (a + (e - a) / 4 * 3) q2.2).2≤q2.2 + 3:=m3
   refine ha hsb hsz (by omega) (by omega) (by omega) ?_
   generalize Sort.medianAdjacent lN d (a + (e - a) / 4 * 3) q2.2=q3 at *
   exact hJ0 _ _ ⟨q1.1,q2.1,q3.1,q3.2,rfl,rfl,r1.1,r2.1,r3.1,by omega,hr⟩
  ·have h50:¬ e - a ≥ 50:=of_decide_eq_false h50
   rw[if_neg h50] at hr
   exact hJ0 _ _ ⟨_,_,_,0,rfl,rfl,by omega,by omega,by omega,by omega,hr⟩
 ·have h8:¬ e - a ≥ 8:=of_decide_eq_false h8
  rw[if_neg h8] at hr
  subst hr
  exact hJ _ _ ⟨rfl,rfl⟩
theorem Bn:∀ (j:Nat) (d:Array Nat),(Sort.shiftDown lN j d).size=d.size
 | 0,d=>rfl
 | j + 1,d=>by
   rw[Sort.shiftDown]
   split
   ·rfl
   ·rw[Bn j,fK]
theorem GA (e:Nat) : ∀ (k j:Nat) (d:Array Nat),e - j≤k→(Sort.shiftUp lN e j d).size=d.size
 | 0,j,d,h=>by rw[Sort.shiftUp,if_neg (by omega)]
 | k + 1,j,d,h=>by
   rw[Sort.shiftUp]
   split
   ·split
    ·rfl
    ·rw[GA e k _ _ (by omega),fK]
   ·rfl
def MG (T:Nat) (c:au) : Prop:=∀ {M:RM} {b a e:Nat} {d:Array Nat} {Q:ak},b<M.next→d.size≤1000000→a<e→e≤d.size→Q (Bo (Sort.partialInsertionSort lN d a e).2) (PM M b T (Sort.partialInsertionSort lN d a e).1) →
 c [vv b d.size,N .i64 (a:Int),N .i64 (e:Int)] (PM M b T d) Q
theorem GZ (a b s i:Nat) (d:Array Nat) : Sort.partialIns lN a b (s + 1) i d =
  if Sort.scanSorted lN d b i=b then(d,true) else if b - a<50 then(d,false) else
   Sort.partialIns lN a b s (Sort.scanSorted lN d b i) (if b - Sort.scanSorted lN d b i ≥ 2 then Sort.shiftUp lN b (Sort.scanSorted lN d b i + 1) (if Sort.scanSorted lN d b i - a ≥ 2 then Sort.shiftDown lN (Sort.scanSorted lN d b i - 1) (Sort.swp d (Sort.scanSorted lN d b i) (Sort.scanSorted lN d b i - 1)) else Sort.swp d (Sort.scanSorted lN d b i) (Sort.scanSorted lN d b i - 1))
    else(if Sort.scanSorted lN d b i - a ≥ 2 then Sort.shiftDown lN (Sort.scanSorted lN d b i - 1) (Sort.swp d (Sort.scanSorted lN d b i) (Sort.scanSorted lN d b i - 1)) else Sort.swp d (Sort.scanSorted lN d b i) (Sort.scanSorted lN d b i - 1))):=rfl
theorem SK {T:Nat} {cl:au} (hl:ym cl) : MG T fun args M Q=>∃ a0 a1 a2,args=[a0,a1,a2]∧iC cl a0 a1 a2 M Q:=by
 intro M b a e d Q hb hsz hae he hQ
 refine⟨_,_,_,rfl, ?_⟩
 unfold iC
 simp only[ig,fQ,gG,fo]
 rw[add1 (by omega)]
 unfold Sort.partialInsertionSort at hQ
 obtain⟨R,hR⟩ : ∃ R,R=Sort.partialIns lN a e 5 (a + 1) d:=⟨_,rfl⟩
 rw[← hR] at hQ
 refine aQ (fun m ys M3=>∃ (i s:Nat) (d3:Array Nat),m=s∧s≤5∧ys=[N .i64 (i:Int),N .i64 ((5 - s:Nat) : Int)]∧a + 1≤i∧i≤e∧M3=PM M b T d3∧d3.size=d.size∧R=Sort.partialIns lN a e s i d3) _ ⟨a + 1,5,d,rfl,by omega,rfl,by omega,by omega,rfl,rfl,hR⟩ ?_
 rintro next m ys M3 hnext ⟨i,s,d3,hms,hs5,rfl,hai,hie,rfl,hs3,hm⟩
 dsimp only[aa]
 rw[show(5:Int)=((5:Nat) : Int) from rfl,iD]
 refine aJ (fun hg=>?_) (fun hg=>?_)
 ·have hg:5 - s<5:=of_decide_eq_true hg
  obtain⟨s',rfl⟩ : ∃ s',s=s' + 1:=⟨s - 1,by omega⟩
  rw[GZ] at hm
  refine di (fun zs M'=>∃ (i' : Nat) (d4:Array Nat),zs=[N .i64 (i' : Int)]∧a + 1≤i'∧i'≤e∧M'=PM M b T d4∧d4.size=d.size∧R=Sort.partialIns lN a e s' i' d4) ?_ ?_
  ·rintro zs M' ⟨i',d4,rfl,h1,h2,rfl,h3,h4⟩
   dsimp only[aa]
   rw[add1 (by omega)]
   exact hnext _ _ _ (by omega) ⟨i',s',d4,rfl,by omega,by congr 4; omega,h1,h2,rfl,h3,h4⟩
  intro J hJ
  obtain⟨R5,hR5⟩ : ∃ R5,R5=Sort.scanSorted lN d3 e i:=⟨_,rfl⟩
  rw[← hR5] at hm
  refine aQ (fun m ys M5=>∃ (j:Nat),m=e - j∧ys=[N .i64 (j:Int)]∧i≤j∧j≤e∧M5=PM M b T d3∧R5=Sort.scanSorted lN d3 e j) _ ⟨i,rfl,rfl,Nat.le_refl _,hie,rfl,hR5⟩ ?_
  rintro lD m ys M5 fI ⟨j,rfl,rfl,hij,hje,rfl,hm5⟩
  dsimp only[aa]
  rw[Sort.scanSorted] at hm5
  rw[iD]
  refine WS (p:=!lN d3[j]! d3[j - 1]!) (fun hc k hk=>?_) ?_
  ·have hc:j<e:=of_decide_eq_true hc
   rw[PM.rd hs3.symm (by omega),dM (by omega) (by omega),PM.rd hs3.symm (by omega)]
   refine hl ?_
   rw[aY]
   exact hk
  refine aJ (fun h=>?_) (fun h=>?_)
  ·have hc:j<e:=by
    rw[Bool.and_eq_true] at h
    exact of_decide_eq_true h.1
   rw[if_pos h] at hm5
   rw[add1 (by omega)]
   exact fI _ _ _ (by omega) ⟨j + 1,rfl,rfl,by omega,by omega,rfl,hm5⟩
  rw[if_neg (by rw[h]; decide)] at hm5
  subst hm5
  rw[ZJ]
  refine aJ (fun Bp=>?_) (fun Bp=>?_)
  ·rw[if_pos (of_decide_eq_true Bp)] at hm
   rw[hm] at hQ
   exact hQ
  have Bp:¬ R5=e:=of_decide_eq_false Bp
  rw[if_neg Bp] at hm
  rw[iJ (by omega) (by omega),show(50:Int)=((50:Nat) : Int) from rfl,iD]
  refine aJ (fun h50=>?_) (fun h50=>?_)
  ·rw[if_pos (of_decide_eq_true h50)] at hm
   rw[hm] at hQ
   exact hQ
  rw[if_neg (of_decide_eq_false h50)] at hm
  rw[dM (by omega) (by omega),dM (by omega) (by omega),PM.rd hs3.symm (by omega),PM.rd hs3.symm (by omega),PM.swap hs3.symm (by omega) (by omega)]
  have hs6:=zM (i:=R5) (j:=R5 - 1) hs3
  generalize Sort.swp d3 R5 (R5 - 1)=d6 at *
  refine di (fun zs M'=>zs=[]∧M'=PM M b T (if R5 - a ≥ 2 then Sort.shiftDown lN (R5 - 1) d6 else d6)) ?_ ?_
  ·rintro zs M' ⟨rfl,rfl⟩
   have hs7:(if R5 - a ≥ 2 then Sort.shiftDown lN (R5 - 1) d6 else d6).size=d.size:=by
    split
    ·rw[Bn,hs6]
    ·exact hs6
   generalize (if R5 - a ≥ 2 then Sort.shiftDown lN (R5 - 1) d6 else d6)=d7 at *
   rw[iJ (by omega) (by omega),show(2:Int)=((2:Nat) : Int) from rfl,oV]
   refine aJ (fun h2=>?_) (fun h2=>?_)
   ·rw[if_pos (of_decide_eq_true h2)] at hm
    rw[add1 (by omega)]
    have hs8:=GA e e (R5 + 1) d7 (by omega)
    obtain⟨R8,hR8⟩ : ∃ R8,R8=Sort.shiftUp lN e (R5 + 1) d7:=⟨_,rfl⟩
    rw[← hR8] at hm hs8
    refine aQ (fun m ys M8=>∃ (j:Nat) (d8:Array Nat),m=e - j∧ys=[N .i64 (j:Int)]∧R5 + 1≤j∧j≤e∧M8=PM M b T d8∧d8.size=d.size∧R8=Sort.shiftUp lN e j d8) _ ⟨R5 + 1,d7,rfl,rfl,Nat.le_refl _,by omega,rfl,hs7,hR8⟩ ?_
    rintro zK m ys M8 AP ⟨j,d8,rfl,rfl,hj1,hj2,rfl,jg,hm8⟩
    dsimp only[aa]
    rw[Sort.shiftUp] at hm8
    rw[iD]
    refine aJ (fun hl1=>?_) (fun hl1=>?_)
    ·have hl1:j<e:=of_decide_eq_true hl1
     rw[if_pos hl1] at hm8
     rw[PM.rd jg.symm (by omega),dM (by omega) (by omega),PM.rd jg.symm (by omega)]
     refine hl ?_
     rw[aY]
     refine aJ (fun hn=>?_) (fun hn=>?_)
     ·rw[if_pos hn] at hm8
      subst hm8
      exact hJ _ _ ⟨R5,R8,rfl,by omega,by omega,rfl,jg,hm⟩
     ·rw[if_neg (by rw[show(!lN d8[j]! d8[j - 1]!)=false from hn]; decide)] at hm8
      rw[dM (by omega) (by omega),dM (by omega) (by omega),PM.rd jg.symm (by omega),PM.rd jg.symm (by omega),PM.swap jg.symm (by omega) (by omega),add1 (by omega)]
      exact AP _ _ _ (by omega) ⟨j + 1,_,rfl,rfl,by omega,by omega,rfl,zM jg,hm8⟩
    ·rw[if_neg (of_decide_eq_false hl1)] at hm8
     subst hm8
     exact hJ _ _ ⟨R5,R8,rfl,by omega,by omega,rfl,jg,hm⟩
   ·rw[if_neg (of_decide_eq_false h2)] at hm
    exact hJ _ _ ⟨R5,d7,rfl,by omega,by omega,rfl,hs7,hm⟩
  intro J2 hJ2
  rw[iJ (by omega) (by omega),show(2:Int)=((2:Nat) : Int) from rfl,oV]
  refine aJ (fun h2=>?_) (fun h2=>?_)
  ·rw[if_pos (of_decide_eq_true h2)] at hJ2
   rw[dM (by omega) (by omega)]
   obtain⟨R8,hR8⟩ : ∃ R8,R8=Sort.shiftDown lN (R5 - 1) d6:=⟨_,rfl⟩
   rw[← hR8] at hJ2
   refine aQ (fun m ys M8=>∃ (j:Nat) (d8:Array Nat),m=j + 1∧ys=[N .i64 (j:Int)]∧j<R5∧M8=PM M b T d8∧d8.size=d.size∧R8=Sort.shiftDown lN j d8) _ ⟨R5 - 1,d6,rfl,rfl,by omega,rfl,hs6,hR8⟩ ?_
   rintro zK m ys M8 AP ⟨j,d8,rfl,rfl,hj1,rfl,jg,hm8⟩
   dsimp only[aa]
   rw[show(1:Int)=((1:Nat) : Int) from rfl,oV]
   refine aJ (fun hl1=>?_) (fun hl1=>?_)
   ·have hl1:j ≥ 1:=of_decide_eq_true hl1
    obtain⟨j',rfl⟩ : ∃ j',j=j' + 1:=⟨j - 1,by omega⟩
    rw[Sort.shiftDown] at hm8
    rw[PM.rd jg.symm (by omega),iJ (by omega) (by omega),Nat.add_sub_cancel,PM.rd jg.symm (by omega)]
    refine hl ?_
    rw[aY]
    refine aJ (fun hn=>?_) (fun hn=>?_)
    ·rw[if_pos hn] at hm8
     subst hm8
     exact hJ2 _ _ ⟨rfl,rfl⟩
    ·rw[if_neg (by rw[show(!lN d8[j' + 1]! d8[j']!)=false from hn]; decide)] at hm8
     rw[iJ (by omega) (by omega),iJ (by omega) (by omega),Nat.add_sub_cancel,PM.rd jg.symm (by omega),PM.rd jg.symm (by omega),PM.swap jg.symm (by omega) (by omega),iJ (by omega) (by omega),Nat.add_sub_cancel]
     exact AP _ _ _ (by omega) ⟨j',_,rfl,rfl,by omega,rfl,zM jg,hm8⟩
   ·have hl1:¬ j ≥ 1:=of_decide_eq_false hl1
    have h0:j=0:=by omega
    subst h0
    rw[Sort.shiftDown] at hm8
    subst hm8
    exact hJ2 _ _ ⟨rfl,rfl⟩
  ·rw[if_neg (of_decide_eq_false h2)] at hJ2
   exact hJ2 _ _ ⟨rfl,rfl⟩
 ·have hg:¬ 5 - s<5:=of_decide_eq_false hg
  have h0:s=0:=by omega
  subst h0
  rw[Sort.partialIns] at hm
  rw[hm] at hQ
  exact hQ
def aci (P:List Nat→Prop) (f:List Nat→List Nat) (T:Nat) (c:au) : Prop:=∀ {M:RM} {base:Nat} {v:AV} {xs:List Nat} {Q:ak},Ow aX M base T v xs→P xs→(∀ M',Ow aX M' base T v (f xs)→ag (aG v) M M'→Q (.tup []) M')→c [v] M Q
def MF (P:List Nat→Prop) (f:List Nat→List Nat) (T:Nat) (c:au) : Prop:=∀ {M:RM} {base:Nat} {v:AV} {xs:List Nat} {Q:ak},Ow aX M base T v xs→P xs→(∀ v' M',Sl aX M' v' (f xs)→eZ v'→(∀ d∈aG v',d∈aG v)→ag (aG v) M M'→Q v' M')→c [v] M Q
def abd (T:Nat) (c:au) : Prop:=∀ {M:RM} {n:Nat} {Q:ak},n≤10000000→(n=0→Q aZ M) →
 (0<n→∀ b M',M.next≤b→b<M'.next→M'.heap b=some (.row (cZ [N .u64 0] n) true T 0)→ag [] M M'→Q (.slc b 0 0 (.op 1)) M')→c [aZ,N .i64 (n:Int)] M Q
theorem adS {TS T:Nat} : abd T fun args M Q=>∃ a0 a1,args=[a0,a1]∧yJ TS T a0 a1 M Q:=by
 intro M n Q hn h0 h1
 refine⟨_,_,rfl, ?_⟩
 unfold yJ
 rw[ul,bZ,show decide ((n:Int)<0)=false by simp,bJ]
 dsimp only
 rw[ul]
 have hcap:∀ K:AV→Prop,Db aZ K=K (N .i64 0):=fun K=>by
  unfold Db
  exact propext ⟨fun⟨m,h,k⟩=>by cases h; exact k,fun k=>⟨0,rfl,k⟩⟩
 rw[hcap,MI,jG,show IntKind.wrap .i64 ((0:Int) - 0)=0 from by rw[bB] <;> decide,jG,Int.sub_zero,bB (by omega) (by omega),dF]
 dsimp only[aa]
 by_cases hz:n=0
 ·rw[show decide ((n:Int) > 0)=false by simp; omega,bJ]
  exact h0 hz
 ·rw[show decide ((n:Int) > 0)=true by simp; omega,cO,hcap,show bY 1 aZ none (some (N .i64 0)) none=some aZ by simp[bY,bnd],dN]
  have hr:=qZ n
  refine vg (base:=M.next) (m:=n) (ds:=cZ [N .u64 0] n) .nil (Nat.le_refl _) (Nat.le_refl _) (by simp[nZ]) (by rw[hr.1,Nat.mul_one]) hr.2 (by omega) (by omega) ?_
  intro v' M' o k _ _
  rw[Nat.zero_add] at o
  obtain⟨b,rfl,q1,q2,q3,q4⟩:=Own.En o (by omega)
  rw[MI,show bY 1 (.slc b 0 n (.op 1)) none (some (N .i64 0)) none=some (.slc b 0 0 (.op 1)) by simp[bY,bnd]; omega,dN]
  exact h1 (by omega) b M' q1 q2 (by simpa using q3) (by simpa [aG] using k)
theorem Gy (p:Nat→Bool) (d:Array Nat) (J:Nat) : ∀ (n i:Nat),J + 1 - i≤n→i≤Sort.scanUp p d J i∧Sort.scanUp p d J i≤max (J + 1) i
 | 0,i,h=>by
   rw[Sort.scanUp,if_neg (by simp; omega)]; omega
 | n + 1,i,h=>by
   rw[Sort.scanUp]
   split
   ·rename_i hc
    rw[Bool.and_eq_true] at hc
    have:=of_decide_eq_true hc.1
    have:=Gy p d J n (i + 1) (by omega)
    omega
   ·omega
theorem BB (p:Nat→Bool) (d:Array Nat) (i:Nat) : ∀ j,Sort.scanDown p d i j≤j
 | 0=>Nat.le_refl _
 | j + 1=>by
   rw[Sort.scanDown]
   split
   ·have:=BB p d i j; omega
   ·omega
theorem EM (a:Nat) : ∀ (n i j:Nat) (d:Array Nat),j + 1 - i≤n→i≤(Sort.partEqLoop lN a i j d).1∧(Sort.partEqLoop lN a i j d).1≤max (j + 1) i∧(Sort.partEqLoop lN a i j d).2.size=d.size
 | n,i,j,d,h=>by
   have h1:=Gy (fun x=>!lN d[a]! x) d j _ i (Nat.le_refl _)
   have h2:=BB (fun x=>lN d[a]! x) d (Sort.scanUp (fun x=>!lN d[a]! x) d j i) j
   rw[Sort.partEqLoop]
   generalize Sort.scanUp (fun x=>!lN d[a]! x) d j i=i2 at *
   generalize Sort.scanDown (fun x=>lN d[a]! x) d i2 j=j2 at *
   split
   ·exact⟨h1.1,h1.2,rfl⟩
   ·split
    ·cases n with
     | zero=>omega
     | succ n =>
       have h3:=EM a n (i2 + 1) (j2 - 1) (Sort.swp d i2 j2) (by omega)
       rw[fK] at h3
       omega
    ·exact⟨h1.1,h1.2,rfl⟩
theorem Lv (a:Nat) : ∀ (n i j:Nat) (d:Array Nat),j + 1 - i≤n→(Sort.partLoop lN a i j d).1≤j∧(Sort.partLoop lN a i j d).2.size=d.size
 | n,i,j,d,h=>by
   have h1:=Gy (fun x=>lN x d[a]!) d j _ i (Nat.le_refl _)
   have h2:=BB (fun x=>!lN x d[a]!) d (Sort.scanUp (fun x=>lN x d[a]!) d j i) j
   rw[Sort.partLoop]
   generalize Sort.scanUp (fun x=>lN x d[a]!) d j i=i2 at *
   generalize Sort.scanDown (fun x=>!lN x d[a]!) d i2 j=j2 at *
   split
   ·exact⟨h2,rfl⟩
   ·split
    ·cases n with
     | zero=>omega
     | succ n =>
       have h3:=Lv a n (i2 + 1) (j2 - 1) (Sort.swp d i2 j2) (by omega)
       rw[fK] at h3
       exact⟨by omega,h3.2⟩
    ·exact⟨h2,rfl⟩
theorem Fj (a e:Nat) : ∀ (s i:Nat) (d:Array Nat),(Sort.partialIns lN a e s i d).1.size=d.size
 | 0,i,d=>rfl
 | s + 1,i,d=>by
   rw[GZ]
   split
   ·rfl
   ·split
    ·rfl
    ·rw[Fj a e s]
     have h1:∀ x,(if x - a ≥ 2 then Sort.shiftDown lN (x - 1) (Sort.swp d x (x - 1)) else Sort.swp d x (x - 1)).size=d.size:=fun x=>by
      split
      ·rw[Bn,fK]
      ·rw[fK]
     split
     ·rw[GA e e _ _ (by omega),h1]
     ·rw[h1]
theorem afw {x:Nat} (h:256≤x) : Sort.bitsLen x=Sort.bitsLen (x / 256) + 8:=by
 have h0:x / 256≠0:=by omega
 unfold Sort.bitsLen
 rw[if_neg (by omega),if_neg h0]
 have h1:=(Nat.log2_eq_iff h0 (k:=(x / 256).log2)).1 rfl
 have h2:x.log2=(x / 256).log2 + 8:=by
  rw[Nat.log2_eq_iff (by omega)]
  rw[show(x / 256).log2 + 8 + 1=((x / 256).log2 + 1) + 8 by omega,Nat.pow_add,Nat.pow_add _ ((x / 256).log2 + 1)]
  generalize 2 ^ (x / 256).log2=u at *
  generalize 2 ^ ((x / 256).log2 + 1)=v at *
  omega
 omega
theorem adF {tab:List UInt8} {x:Nat} (h:(List.range 256).all (fun i=>tab[i]? == some (UInt8.ofNat (Sort.bitsLen i)))=true) (hx:x<256) : tab[x]?=some (UInt8.ofNat (Sort.bitsLen x)):=by
 have:=List.all_eq_true.1 h x (List.mem_range.2 hx)
 exact eq_of_beq this
theorem aiS {x:Nat} (h:x<256) : Sort.bitsLen x≤8:=by
 unfold Sort.bitsLen
 split
 ·omega
 ·rename_i h0
  have:=(Nat.log2_lt h0 (k:=8)).2 (by omega)
  omega
def IL (c:au) : Prop:=∀ {M:RM} {x:Nat} {Q:ak},x<65536→Q (N .i64 (Sort.bitsLen x:Nat)) M→c [N .u64 (x:Int)] M Q
theorem X7:IL fun args M Q=>∃ a0,args=[a0]∧sU a0 M Q:=by
 intro M x Q hx hQ
 refine⟨_,rfl, ?_⟩
 unfold sU
 rw[ul,iR,show decide ((x:Int) ≥ 4294967296)=false by simp; omega,bJ]
 dsimp only[aa]
 rw[ul,iR,show decide ((x:Int) ≥ 65536)=false by simp; omega,bJ]
 dsimp only[aa]
 rw[ul,iR]
 have fin:∀ (y z:Nat),y<256→z≤8→Sort.bitsLen x=z + Sort.bitsLen y→fG .u8 (N .u64 (y:Int)) fun t21=>WR (St [0,1,2,2,3,3,3,3,4,4,4,4,4,4,4,4,5,5,5,5,5,5,5,5,5,5,5,5,5,5,5,5,6,6,6,6,6,6,6,6,6,6,6,6,6,6,6,6,6,6,6,6,6,6,6,6,6,6,6,6,6,6,6,6,7,7,7,7,7,7,7,7,7,7,7,7,7,7,7,7,7,7,7,7,7,7,7,7,7,7,7,7,7,7,7,7,7,7,7,7,7,7,7,7,7,7,7,7,7,7,7,7,7,7,7,7,7,7,7,7,7,7,7,7,7,7,7,7,8,8,8,8,8,8,8,8,8,8,8,8,8,8,8,8,8,8,8,8,8,8,8,8,8,8,8,8,8,8,8,8,8,8,8,8,8,8,8,8,8,8,8,8,8,8,8,8,8,8,8,8,8,8,8,8,8,8,8,8,8,8,8,8,8,8,8,8,8,8,8,8,8,8,8,8,8,8,8,8,8,8,8,8,8,8,8,8,8,8,8,8,8,8,8,8,8,8,8,8,8,8,8,8,8,8,8,8,8,8,8,8,8,8,8,8,8,8,8,8,8,8,8,8,8,8,8,8]) t21 fun t22 =>
   fG .i64 t22 fun t23=>ae .add (N .i64 (z:Int)) t23 fun t24=>Q t24 M:=fun y z hy hz e=>by
  rw[dY,GY (by omega) (by omega),aje]
  refine⟨by omega, ?_⟩
  rw[Int.toNat_natCast]
  refine⟨_,adF (by kernel_rfl) hy, ?_⟩
  have hb:=aiS hy
  have hu:(UInt8.ofNat (Sort.bitsLen y)).toNat=Sort.bitsLen y:=by rw[UInt8.toNat_ofNat']; omega
  rw[hu,dY,bB (by omega) (by omega),addN (by omega),← e]
  exact hQ
 by_cases h:x ≥ 256
 ·rw[show decide ((x:Int) ≥ 256)=true by simp; omega,cO]
  dsimp only[aa]
  rw[Ko]
  refine⟨by decide, ?_⟩
  rw[show(8:Int)=((8:Nat) : Int) from rfl,Gi _ _ _ (by decide),bS,Int.zero_add,bB (by omega) (by omega)]
  exact fin (x / 256) 8 (by omega) (by omega) (by rw[afw h]; omega)
 ·rw[show decide ((x:Int) ≥ 256)=false by simp; omega,bJ]
  dsimp only[aa]
  exact fin x 0 (by omega) (by omega) (by omega)
theorem adv {c3 c6:au} (h6:IL c6) : IL fun args M Q=>∃ a0,args=[a0]∧wz c3 c6 a0 M Q:=by
 intro M x Q hx hQ
 refine⟨_,rfl, ?_⟩
 unfold wz
 rw[bJ]
 exact h6 hx hQ
def XM (M:RM) (s T:Nat) (r:UInt64) : RM:=M.put s (.row [N .u64 (r.toNat:Int)] false T 0)
theorem XM.put {M:RM} {s T:Nat} {r r' : UInt64} : (XM M s T r).put s (.row [N .u64 (r'.toNat:Int)] false T 0)=XM M s T r':=by
 unfold XM RM.put
 congr 1
 funext c
 simp only
 by_cases h:c=s <;> simp[h]
theorem XM.new {M:RM} {T:Nat} {x:RB} {r:UInt64} : (M.push x).put M.next (.row [N .u64 (r.toNat:Int)] false T 0)=XM (M.push x) M.next T r:=rfl
theorem Kw {r k:UInt64} {n:Nat} (hk:k.toNat=n) (h:n<64) : ab2 .u64 (r.toNat:Int) (n:Int)=((r <<< k).toNat:Int):=by
 rw[GK rfl _ _ (by show n≤64; omega),UInt64.toNat_shiftLeft,hk,Nat.mod_eq_of_lt h,Nat.shiftLeft_eq]; rfl
theorem Zl {r k:UInt64} {n:Nat} (hk:k.toNat=n) (h:n<64) : P5 .u64 (r.toNat:Int) (n:Int)=((r >>> k).toNat:Int):=by
 rw[Gi _ _ _ (by show n≤64; omega),UInt64.toNat_shiftRight,hk,Nat.mod_eq_of_lt h,Nat.shiftRight_eq_div_pow]
theorem u64_xor (a b:UInt64) : Xg .u64 (a.toNat:Int) (b.toNat:Int)=((a ^^^ b).toNat:Int):=by
 rw[Xh rfl,← UInt64.toNat_xor]
 have:=(a ^^^ b).toNat_lt
 rw[Nat.mod_eq_of_lt (by show _<2 ^ 64; omega)]
def aga (T TX:Nat) (c:au) : Prop:=∀ {M:RM} {b s:Nat} {r:UInt64} {d:Array Nat} {Q:ak},s≠b→Q (N .u64 ((Sort.xorNext r).toNat:Int)) (PM (XM M s TX (Sort.xorNext r)) b T d)→c [.ptr s 0] (PM (XM M s TX r) b T d) Q
theorem afq {T TX:Nat} : aga T TX fun args M Q=>∃ a0,args=[a0]∧nQ a0 M Q:=by
 intro M b s r d Q hsb hQ
 refine⟨_,rfl, ?_⟩
 unfold nQ
 have hh:∀ r,(PM (XM M s TX r) b T d).heap s=some (.row [N .u64 (r.toNat:Int)] false TX 0):=fun r=>by rw[PM.PD hsb]; exact RM.xB _ _
 have st:∀ (r r' : UInt64) (K:RM→Prop),aC (PM (XM M s TX r) b T d) (.ptr s 0) (N .u64 (r'.toNat:Int)) 1 K=K (PM (XM M s TX r') b T d):=fun r r' K=>by
  rw[gV (hh r) (by simp) rfl rfl,PM.aa3 hsb]
  rw[show([N .u64 (r.toNat:Int)] : List AV).set 0 (N .u64 (r'.toNat:Int))=[N .u64 (r'.toNat:Int)] from rfl,XM.put]
 rw[aI,aj (hh r) rfl,aI,aj (hh r) rfl,xn]
 refine⟨by decide, ?_⟩
 rw[show(13:Int)=((13:Nat) : Int) from rfl,Kw (k:=13) (n:=13) rfl (by decide),uM,u64_xor,aI,st]
 rw[aI,aj (hh _) rfl,aI,aj (hh _) rfl,Ko]
 refine⟨by decide, ?_⟩
 rw[show(7:Int)=((7:Nat) : Int) from rfl,Zl (k:=7) (n:=7) rfl (by decide),uM,u64_xor,aI,st]
 rw[aI,aj (hh _) rfl,aI,aj (hh _) rfl,xn]
 refine⟨by decide, ?_⟩
 rw[show(17:Int)=((17:Nat) : Int) from rfl,Kw (k:=17) (n:=17) rfl (by decide),uM,u64_xor,aI,st]
 rw[aI,aj (hh _) rfl]
 exact hQ
def abw (c:au) : Prop:=∀ {M:RM} {x:Nat} {Q:ak},0<x→x<65536→Q (N .u64 ((2 ^ Sort.bitsLen x:Nat) : Int)) M→c [N .i64 (x:Int)] M Q
theorem EH {x:Nat} (h0:0<x) (h:x<65536) : Sort.bitsLen x≤16∧2 ^ Sort.bitsLen x≤2 * x∧x<2 ^ Sort.bitsLen x:=by
 unfold Sort.bitsLen
 rw[if_neg (by omega)]
 have h1:=(Nat.log2_eq_iff (show x≠0 by omega) (k:=x.log2)).1 rfl
 have h2:=(Nat.log2_lt (show x≠0 by omega) (k:=16)).2 (by omega)
 rw[Nat.pow_succ] at *
 omega
theorem agf {cl:au} (hl:IL cl) : abw fun args M Q=>∃ a0,args=[a0]∧uj cl a0 M Q:=by
 intro M x Q h0 hx hQ
 refine⟨_,rfl, ?_⟩
 unfold uj
 have hb:=EH h0 hx
 rw[dY,dw (by omega) (by omega)]
 refine hl hx ?_
 rw[xn]
 refine⟨by omega, ?_⟩
 rw[show(1:Int)=((1:Nat) : Int) from rfl,GK rfl _ _ (by show Sort.bitsLen x≤64; omega),Nat.one_mul]
 have:2 ^ Sort.bitsLen x<2 ^ 64:=Nat.pow_lt_pow_right (by decide) (by omega)
 rw[Nat.mod_eq_of_lt (by exact this)]
 exact hQ
def G9 (a l m i0:Nat) (d:Array Nat) : Nat→UInt64 × Array Nat
 | 0=>(UInt64.ofNat l,d)
 | k + 1=>Sort.breakStep a l m (G9 a l m i0 d k) (i0 + k)
theorem adw (a l m i0:Nat) (d:Array Nat) : ∀ k,(G9 a l m i0 d k).2.size=d.size
 | 0=>rfl
 | k + 1=>by
   rw[G9,Sort.breakStep]
   show(Sort.swp _ _ _).size=_
   rw[fK,adw a l m i0 d k]
def U8 (T:Nat) (c:au) : Prop:=∀ {M:RM} {b a e:Nat} {d:Array Nat} {Q:ak},b<M.next→d.size≤60000→a≤e→e≤d.size→(∀ M',ag [] M M'→Q (.tup []) (PM M' b T (Sort.breakPatterns d a e))) →
 c [vv b d.size,N .i64 (a:Int),N .i64 (e:Int)] (PM M b T d) Q
theorem abA {T TX:Nat} {cp cx:au} (hp:abw cp) (hx:aga T TX cx) : U8 T fun args M Q=>∃ a0 a1 a2,args=[a0,a1,a2]∧jU TX cp cx a0 a1 a2 M Q:=by
 intro M b a e d Q hb hsz hae he hQ
 refine⟨_,_,_,rfl, ?_⟩
 unfold jU
 simp only[fo]
 rw[iJ hae (by omega),show(8:Int)=((8:Nat) : Int) from rfl,oV]
 unfold Sort.breakPatterns at hQ
 refine aJ (fun h8=>?_) (fun h8=>?_)
 ·have h8:e - a ≥ 8:=of_decide_eq_true h8
  rw[if_pos h8] at hQ
  have hbl:=EH (x:=e - a) (by omega) (by omega)
  rw[dY,dw (by omega) (by omega),bn,PM.push hb]
  have hnx:(PM M b T d).next=M.next:=rfl
  rw[hnx]
  have hsb:M.next≠b:=by omega
  have kk:ag [] M (M.push (.row [(N .u64 0)] false TX 0)):=(ag.refl _ _).push _
  have kS:∀ r,ag [] M (XM (M.push (.row [(N .u64 0)] false TX 0)) M.next TX r):=fun r=>kk.new _ (Nat.le_refl _)
  have hh0:(PM (M.push (.row [(N .u64 0)] false TX 0)) b T d).heap M.next=some (.row [N .u64 0] false TX 0):=by rw[PM.PD hsb]; exact RM.aT _
  have afa:(UInt64.ofNat (e - a)).toNat=e - a:=by rw[UInt64.toNat_ofNat']; omega
  rw[gV hh0 (by simp) rfl rfl,PM.aa3 hsb]
  rw[show([N .u64 0] : List AV).set 0 (N .u64 ((e - a:Nat) : Int))=[N .u64 ((UInt64.ofNat (e - a)).toNat:Int)] by rw[afa]; rfl,XM.new]
  generalize M.push (.row [(N .u64 0)] false TX 0)=M1 at *
  generalize M.next=s at *
  refine hp (by omega) (by omega) ?_
  have hq:∀ (c:Int),c=((2:Nat) : Int)→∀ (K:AV→Prop),(ae .quo (N .i64 ((e - a:Nat) : Int)) (N .i64 4) fun t18=>ae .mul t18 (N .i64 c) fun t19=>ae .add (N .i64 (a:Int)) t19 K)=K (N .i64 ((a + (e - a) / 4 * 2:Nat) : Int)):=fun c hc K=>by
   subst hc
   rw[ql,show(4:Int)=((4:Nat) : Int) from rfl,uV,bB (by omega) (by omega),uE,← Int.natCast_mul,bB (by omega) (by omega),addN (by omega)]
   exact propext ⟨fun h=>h.2,fun h=>⟨by decide,h⟩⟩
  rw[hq 2 rfl,dM (by omega) (by omega)]
  have afd:(Sort.breakStep a (e - a) (1 <<< Sort.bitsLen (e - a)) (Sort.breakStep a (e - a) (1 <<< Sort.bitsLen (e - a)) (Sort.breakStep a (e - a) (1 <<< Sort.bitsLen (e - a)) (UInt64.ofNat (e - a),d) (a + (e - a) / 4 * 2 - 1)) (a + (e - a) / 4 * 2 - 1 + 1)) (a + (e - a) / 4 * 2 - 1 + 2)).2=(G9 a (e - a) (2 ^ Sort.bitsLen (e - a)) (a + (e - a) / 4 * 2 - 1) d 3).2:=by
   rw[Nat.shiftLeft_eq,Nat.one_mul]; rfl
  have hQ:∀ M',ag [] M M'→Q (.tup []) (PM M' b T (G9 a (e - a) (2 ^ Sort.bitsLen (e - a)) (a + (e - a) / 4 * 2 - 1) d 3).2):=fun M' k=>by
   have:=hQ M' k
   rw[← afd]; exact this
  generalize hmd:2 ^ Sort.bitsLen (e - a)=md at *
  generalize hi0:a + (e - a) / 4 * 2 - 1=i0 at *
  refine aQ (fun m ys M3=>∃ (k:Nat),m=3 - k∧k≤3∧ys=[N .i64 ((i0 + k:Nat) : Int)]∧M3=PM (XM M1 s TX (G9 a (e - a) md i0 d k).1) b T (G9 a (e - a) md i0 d k).2) _ ⟨0,rfl,by omega,rfl,rfl⟩ ?_
  rintro next m ys M3 hnext ⟨k,rfl,hk,rfl,rfl⟩
  dsimp only[aa]
  have hsk:=adw a (e - a) md i0 d k
  have agF:G9 a (e - a) md i0 d (k + 1)=Sort.breakStep a (e - a) md (G9 a (e - a) md i0 d k) (i0 + k):=rfl
  generalize agk:G9 a (e - a) md i0 d k=st at *
  rw[hq 2 rfl,add1 (by omega),sS]
  refine aJ (fun hg=>?_) (fun hg=>?_)
  ·have hg:i0 + k≤a + (e - a) / 4 * 2 + 1:=of_decide_eq_true hg
   refine di (fun zs M'=>M'=PM (XM M1 s TX (G9 a (e - a) md i0 d (k + 1)).1) b T (G9 a (e - a) md i0 d (k + 1)).2) ?_ ?_
   ·rintro zs M' rfl
    rw[add1 (by omega)]
    exact hnext _ _ _ (by omega) ⟨k + 1,rfl,by omega,rfl,rfl⟩
   intro J hJ
   refine hx hsb ?_
   rw[agF] at hJ
   unfold Sort.breakStep at hJ
   dsimp only at hJ
   generalize Sort.xorNext st.1=r at *
   rw[jG,dw (by omega) (by omega),show(md:Int) - 1=((md - 1:Nat) : Int) by omega,E8,Mw rfl]
   have hlt:r.toNat &&& (md - 1)<md:=by
    rw[← hmd,Nat.and_two_pow_sub_one_eq_mod]
    exact Nat.mod_lt _ (by rw[hmd]; omega)
   rw[Nat.mod_eq_of_lt (show r.toNat &&& (md - 1)<2 ^ qI .u64 by show _<2 ^ 64; omega)]
   generalize r.toNat &&& (md - 1)=o at *
   rw[dY,bB (by omega) (by omega)]
   refine di (fun zs M'=>zs=[N .i64 (((if o ≥ e - a then o - (e - a) else o) : Nat) : Int)]∧M'=PM (XM M1 s TX r) b T st.2) ?_ ?_
   ·rintro zs M' ⟨rfl,rfl⟩
    dsimp only[aa]
    have ho:(if o ≥ e - a then o - (e - a) else o)<e - a:=by split <;> omega
    generalize (if o ≥ e - a then o - (e - a) else o)=o2 at *
    rw[addN (by omega),addN (by omega),PM.rd hsk.symm (by omega),PM.rd hsk.symm (by omega),PM.swap hsk.symm (by omega) (by omega)]
    exact hJ _ _ rfl
   intro J4 hJ4
   rw[oV]
   refine aJ (fun hg2=>?_) (fun hg2=>?_)
   ·have hg2:o ≥ e - a:=of_decide_eq_true hg2
    rw[iJ (by omega) (by omega)]
    exact hJ4 _ _ ⟨by rw[if_pos hg2],rfl⟩
   ·exact hJ4 _ _ ⟨by rw[if_neg (of_decide_eq_false hg2)],rfl⟩
  ·have hg:¬ i0 + k≤a + (e - a) / 4 * 2 + 1:=of_decide_eq_false hg
   have h3:k=3:=by omega
   subst h3
   rw[agk] at hQ
   exact hQ _ (kS _)
 ·rw[if_neg (of_decide_eq_false h8)] at hQ
  exact hQ M (ag.refl _ _)
theorem Vw:Sort.SWO lN where
 irrefl x:=by simp[lN]
 trans x y z:=by simp[lN]; omega
 ntrans x y z:=by simp[lN]; omega
def UR (d3:Array Nat) (a e pv limit:Nat) (wb wp:Bool) : Array Nat :=
 if a > 0 && !lN d3[a - 1]! d3[pv]! then
  match Sort.partitionEqual lN d3 a e pv with
  | (mid,d4)=>if _h:a<mid∧mid≤e then Sort.pdq lN d4 mid e limit wb wp else d4
 else
  match Sort.partition lN d3 a e pv with
  | (mid,ap,d4) =>
    if _h:a≤mid∧mid<e then
     if mid - a<e - mid then Sort.pdq lN (Sort.pdq lN d4 a mid limit true true) (mid + 1) e limit (decide (mid - a ≥ (e - a) / 8)) ap
     else Sort.pdq lN (Sort.pdq lN d4 (mid + 1) e limit true true) a mid limit (decide (e - mid ≥ (e - a) / 8)) ap
    else d4
def ahp (pi:Array Nat × Bool) (a e pv limit:Nat) (wb wp:Bool) : Array Nat:=if pi.2 then pi.1 else UR pi.1 a e pv limit wb wp
def afI (d2:Array Nat) (a e pv:Nat) (hint:Sort.Hint) (limit:Nat) (wb wp:Bool) : Array Nat :=
 ahp (if wb && wp && hint=.increasing then Sort.partialInsertionSort lN d2 a e else(d2,false)) a e pv limit wb wp
def afU (d1:Array Nat) (a e limit:Nat) (wb wp:Bool) : Array Nat :=
 afI (if (Sort.choosePivot lN d1 a e).2=.decreasing then Sort.reverseRange d1 a e else d1) a e (if (Sort.choosePivot lN d1 a e).2=.decreasing then(e - 1) - ((Sort.choosePivot lN d1 a e).1 - a) else(Sort.choosePivot lN d1 a e).1)
  (if (Sort.choosePivot lN d1 a e).2=.decreasing then .increasing else(Sort.choosePivot lN d1 a e).2) limit wb wp
theorem pdq_eq (d:Array Nat) (a e limit:Nat) (wb wp:Bool) : Sort.pdq lN d a e limit wb wp =
  if e - a≤12 then Sort.insertionSort lN d a e else if limit=0 then Sort.heapSort lN d a e else afU (if !wb then Sort.breakPatterns d a e else d) a e (if !wb then limit - 1 else limit) wb wp:=by
 rw[Sort.pdq]; rfl
theorem Lu (a e:Nat) : ∀ (k i:Nat) (d:Array Nat),e - i≤k→(Sort.insOuter lN a e i d).size=d.size
 | 0,i,d,h=>by rw[Sort.insOuter,if_neg (by omega)]
 | k + 1,i,d,h=>by
   rw[Sort.insOuter]
   split
   ·rw[Lu a e k _ _ (by omega),K6]
   ·rfl
theorem al8 (d:Array Nat) (a e:Nat) : (Sort.insertionSort lN d a e).size=d.size:=Lu a e _ _ _ (Nat.le_refl _)
theorem adn (first:Nat) : ∀ (k:Nat) (d:Array Nat),(Sort.heapPop lN first k d).size=d.size
 | 0,d=>rfl
 | k + 1,d=>by rw[Sort.heapPop,adn first k,zP _ _ k _ _ (by omega),fK]
theorem agY (d:Array Nat) (a e:Nat) : (Sort.heapSort lN d a e).size=d.size:=by rw[Sort.heapSort,adn,VN]
theorem OB:∀ (k i j:Nat) (d:Array Nat),j - i≤k→(Sort.reverseLoop i j d).size=d.size
 | 0,i,j,d,h=>by rw[Sort.reverseLoop,if_neg (by omega)]
 | k + 1,i,j,d,h=>by
   rw[Sort.reverseLoop]
   split
   ·rw[OB k _ _ _ (by omega),fK]
   ·rfl
theorem ac2 (d:Array Nat) (a e:Nat) : (Sort.reverseRange d a e).size=d.size:=OB _ _ _ _ (Nat.le_refl _)
theorem AR (a l m:Nat) (st:UInt64 × Array Nat) (i:Nat) : (Sort.breakStep a l m st i).2.size=st.2.size:=fK _ _ _
theorem UH (d:Array Nat) (a e:Nat) : (Sort.breakPatterns d a e).size=d.size:=by
 unfold Sort.breakPatterns
 dsimp only
 split
 ·rw[AR,AR,AR]
 ·rfl
theorem Xp (d:Array Nat) (a e pv:Nat) (h:a<e) : (Sort.partitionEqual lN d a e pv).2.size=d.size∧a<(Sort.partitionEqual lN d a e pv).1∧(Sort.partitionEqual lN d a e pv).1≤e:=by
 unfold Sort.partitionEqual
 have:=EM a _ (a + 1) (e - 1) (Sort.swp d a pv) (Nat.le_refl _)
 rw[fK] at this
 omega
theorem Y1 (d:Array Nat) (a e pv:Nat) : (Sort.partition lN d a e pv).2.2.size=d.size:=by
 rw[Iw]
 split
 ·show(Sort.swp _ _ _).size=_
  rw[fK,fK]
 ·show(Sort.swp _ _ _).size=_
  rw[fK,(Lv a _ _ _ _ (Nat.le_refl _)).2,fK,fK]
theorem A7:∀ (n:Nat) (d:Array Nat) (a e limit:Nat) (wb wp:Bool),e - a≤n→(Sort.pdq lN d a e limit wb wp).size=d.size
 | n,d,a,e,limit,wb,wp,hn=>by
   rw[pdq_eq]
   split
   ·exact al8 d a e
   split
   ·exact agY d a e
   have h1:(if !wb then Sort.breakPatterns d a e else d).size=d.size:=by split; exact UH d a e; rfl
   rw[← h1]
   generalize (if !wb then Sort.breakPatterns d a e else d)=d1
   unfold afU
   have h2:(if (Sort.choosePivot lN d1 a e).2=.decreasing then Sort.reverseRange d1 a e else d1).size=d1.size:=by split; exact ac2 d1 a e; rfl
   rw[← h2]
   generalize (if (Sort.choosePivot lN d1 a e).2=.decreasing then Sort.reverseRange d1 a e else d1)=d2
   generalize (if (Sort.choosePivot lN d1 a e).2=.decreasing then(e - 1) - ((Sort.choosePivot lN d1 a e).1 - a) else(Sort.choosePivot lN d1 a e).1)=pv
   generalize (if (Sort.choosePivot lN d1 a e).2=.decreasing then Sort.Hint.increasing else(Sort.choosePivot lN d1 a e).2)=hint
   unfold afI
   have h3:(if wb && wp && hint=.increasing then Sort.partialInsertionSort lN d2 a e else(d2,false)).1.size=d2.size:=by
    split
    ·exact Fj a e _ _ _
    ·rfl
   rw[← h3]
   generalize (if wb && wp && hint=.increasing then Sort.partialInsertionSort lN d2 a e else(d2,false))=pi
   unfold ahp
   split
   ·rfl
   unfold UR
   have hE:=Xp pi.1 a e pv
   have hP:=Y1 pi.1 a e pv
   generalize Sort.partitionEqual lN pi.1 a e pv=pe at *
   generalize Sort.partition lN pi.1 a e pv=pp at *
   obtain⟨mid,d4⟩:=pe
   obtain⟨aw1,ap,d5⟩:=pp
   cases n with
   | zero=>omega
   | succ n =>
     split
     ·dsimp only
      split
      ·rw[A7 n _ _ _ _ _ _ (by omega)]
       exact(hE (by omega)).1
      ·exact(hE (by omega)).1
     ·dsimp only at hP ⊢
      split
      ·split
       ·rw[A7 n _ _ _ _ _ _ (by omega),A7 n _ _ _ _ _ _ (by omega)]; exact hP
       ·rw[A7 n _ _ _ _ _ _ (by omega),A7 n _ _ _ _ _ _ (by omega)]; exact hP
      ·exact hP
def ZO (T m:Nat) (c:au) : Prop:=∀ {M:RM} {b a e limit:Nat} {d:Array Nat} {Q:ak},b<M.next→d.size≤60000→a≤e→e≤d.size→e - a<m→limit≤1000000→(∀ M',ag [] M M'→Q (.tup []) (PM M' b T (Sort.pdq lN d a e limit true true))) →
 c [vv b d.size,N .i64 (a:Int),N .i64 (e:Int),N .i64 (limit:Int)] (PM M b T d) Q
theorem ad4 {T m:Nat} {ci ch cb cc cr cp cl ce ct cq:au} (hi:zC T (Sort.insertionSort lN) (fun _ _ _=>True) ci) (hh:zC T (Sort.heapSort lN) (fun _ a e=>a<e) ch) (hb:U8 T cb) (hc:PQ T cc) (hr:zC T Sort.reverseRange (fun _ a e=>a<e) cr)
  (hp:MG T cp) (hl:ym cl) (he:Q0 T ce) (ht:aaN T ct) (hq:ZO T m cq) : ZO T (m + 1) fun args M Q=>∃ a0 a1 a2 a3,args=[a0,a1,a2,a3]∧iN ci ch cb cc cr cp cl ce ct cq a0 a1 a2 a3 M Q:=by
 intro M b a e limit d Q hbn hsz hae hed hm hlim hQ
 refine⟨_,_,_,_,rfl, ?_⟩
 unfold iN
 simp only[ig,fQ,gG,fo]
 obtain⟨R,hR⟩ : ∃ R,R=Sort.pdq lN d a e limit true true:=⟨_,rfl⟩
 rw[← hR] at hQ
 refine aQ (fun m' ys M3=>∃ (a e limit:Nat) (wb wp:Bool) (d3:Array Nat) (M4:RM),m'=e - a∧ys=[N .i64 (a:Int),N .i64 (e:Int),N .i64 (limit:Int),Bo wb,Bo wp]∧a≤e∧e≤d.size∧e - a<m + 1∧limit≤1000000∧M3=PM M4 b T d3∧ag [] M M4∧d3.size=d.size∧R=Sort.pdq lN d3 a e limit wb wp) _
  ⟨a,e,limit,true,true,d,M,rfl,rfl,hae,hed,hm,hlim,rfl,ag.refl _ _,rfl,hR⟩ ?_
 clear hR hae hed hm hlim
 rintro next m' ys M3 hnext ⟨a,e,limit,wb,wp,d3,M4,rfl,rfl,hae,hed,hm,hlim,rfl,k4,hs3,hR⟩
 dsimp only[aa]
 have hb4:b<M4.next:=Nat.lt_of_lt_of_le hbn k4.next
 rw[pdq_eq] at hR
 rw[iJ hae (by omega),show(12:Int)=((12:Nat) : Int) from rfl,sS]
 refine aJ (fun hg=>?_) (fun hg=>?_)
 ·rw[if_pos (of_decide_eq_true hg)] at hR
  rw[← hs3]
  refine hi hb4 (by omega) hae (by omega) trivial ?_
  rw[← hR]
  exact hQ M4 k4
 have hg:¬ e - a≤12:=of_decide_eq_false hg
 rw[if_neg hg] at hR
 rw[show(0:Int)=((0:Nat) : Int) from rfl,ZJ]
 refine aJ (fun hg0=>?_) (fun hg0=>?_)
 ·rw[if_pos (of_decide_eq_true hg0)] at hR
  rw[← hs3]
  refine hh hb4 (by omega) hae (by omega) (by omega) ?_
  rw[← hR]
  exact hQ M4 k4
 have hg0:¬ limit=0:=of_decide_eq_false hg0
 rw[if_neg hg0] at hR
 refine di (fun zs M'=>∃ (M5:RM),zs=[N .i64 (((if !wb then limit - 1 else limit) : Nat) : Int)]∧M'=PM M5 b T (if !wb then Sort.breakPatterns d3 a e else d3)∧ag [] M M5) ?_ ?_
 ·rintro zs M' ⟨M5,rfl,rfl,k5⟩
  dsimp only[aa]
  have hs5:(if !wb then Sort.breakPatterns d3 a e else d3).size=d.size:=by
   split
   ·rw[UH,hs3]
   ·exact hs3
  have hl5:(if !wb then limit - 1 else limit)≤1000000:=by split <;> omega
  generalize (if !wb then Sort.breakPatterns d3 a e else d3)=d5 at *
  generalize (if !wb then limit - 1 else limit)=lim at *
  have hb5:b<M5.next:=Nat.lt_of_lt_of_le hbn k5.next
  rw[← hs5]
  refine hc hb5 (by omega) (by omega) (by omega) fun M6 k6=>?_
  rw[hs5]
  have hcr:=Sort.choosePivot_holds lN d5 a e (by omega)
  unfold afU at hR
  generalize Sort.choosePivot lN d5 a e=cpv at *
  have k6':=k5.trans k6
  have hb6:b<M6.next:=Nat.lt_of_lt_of_le hbn k6'.next
  rw[eD,eF]
  refine di (fun zs M'=>zs=[N .i64 (((if cpv.2=.decreasing then(e - 1) - (cpv.1 - a) else cpv.1) : Nat) : Int),N .i64 (tZ (if cpv.2=.decreasing then .increasing else cpv.2))]∧M'=PM M6 b T (if cpv.2=.decreasing then Sort.reverseRange d5 a e else d5)) ?_ ?_
  ·rintro zs M' ⟨rfl,rfl⟩
   dsimp only[aa]
   have hs7:(if cpv.2=.decreasing then Sort.reverseRange d5 a e else d5).size=d.size:=by
    split
    ·rw[ac2,hs5]
    ·exact hs5
   have hpv:a≤(if cpv.2=.decreasing then(e - 1) - (cpv.1 - a) else cpv.1)∧(if cpv.2=.decreasing then(e - 1) - (cpv.1 - a) else cpv.1)<e:=by
    split <;> omega
   generalize (if cpv.2=.decreasing then Sort.reverseRange d5 a e else d5)=d7 at *
   generalize (if cpv.2=.decreasing then(e - 1) - (cpv.1 - a) else cpv.1)=pv at *
   generalize (if cpv.2=.decreasing then Sort.Hint.increasing else cpv.2)=hint at *
   unfold afI ahp at hR
   -- behind the short insertion sort
   have rest:∀ d8:Array Nat,d8.size=d.size→R=UR d8 a e pv lim wb wp→∀ (J:ak),True→ae .gtr (N .i64 (a:Int)) (N .i64 ((0:Nat) : Int)) fun t74 =>
     ah t74 true (fun k'=>ae .sub (N .i64 (a:Int)) (N .i64 1) fun t78=>aA (vv b d.size) t78 1 fun t79=>ai (PM M6 b T d8) t79 fun t80=>aA (vv b d.size) (N .i64 (pv:Int)) 1 fun t83=>ai (PM M6 b T d8) t83 fun t84=>cl [t80,t84] (PM M6 b T d8) fun t85 q9=>dG t85 fun t86=>k' t86 q9 none) (fun k=>k .undef (PM M6 b T d8) none) fun XI iL QH =>
     aH t74 XI (Bo false) fun t87=>az t87 (
      ce [vv b d.size,N .i64 (a:Int),N .i64 (e:Int),N .i64 (pv:Int)] iL fun t92 Nc=>next [t92,N .i64 (e:Int),N .i64 (lim:Int),Bo wb,Bo wp] Nc) (
      ct [vv b d.size,N .i64 (a:Int),N .i64 (e:Int),N .i64 (pv:Int)] iL fun t99 mg=>bV t99 0 fun lI=>bV t99 1 fun ni=>ae .sub lI (N .i64 (a:Int)) fun t105=>ae .sub (N .i64 (e:Int)) lI fun zZ =>
      ae .quo (N .i64 ((e - a:Nat) : Int)) (N .i64 8) fun wy=>ae .lss t105 zZ fun yS=>az yS (ae .geq t105 wy fun t116=>cq [vv b d.size,N .i64 (a:Int),lI,N .i64 (lim:Int)] mg fun GQ mf=>ae .add lI (N .i64 1) fun CU=>next [CU,N .i64 (e:Int),N .i64 (lim:Int),t116,ni] mf) (
      ae .geq zZ wy fun xN=>ae .add lI (N .i64 1) fun wZ=>cq [vv b d.size,wZ,N .i64 (e:Int),N .i64 (lim:Int)] mg fun FR Js=>next [N .i64 (a:Int),lI,N .i64 (lim:Int),xN,ni] Js)):=fun d8 hs8 hR8 _ _=>by
    unfold UR at hR8
    rw[yM]
    refine WS (p:=!lN d8[a - 1]! d8[pv]!) (fun hc k hk=>?_) ?_
    ·have hc:a > 0:=of_decide_eq_true hc
     rw[dM (by omega) (by omega),PM.rd hs8.symm (by omega),PM.rd hs8.symm (by omega)]
     refine hl ?_
     rw[aY]
     exact hk
    refine aJ (fun h=>?_) (fun h=>?_)
    ·rw[if_pos h] at hR8
     rw[← hs8]
     refine he hb6 (by omega) hpv.1 hpv.2 (by omega) ?_
     have hE:=Xp d8 a e pv (by omega)
     generalize Sort.partitionEqual lN d8 a e pv=pe at *
     dsimp only at hR8
     rw[dif_pos ⟨hE.2.1,hE.2.2⟩] at hR8
     exact hnext _ _ _ (by omega) ⟨pe.1,e,lim,wb,wp,pe.2,M6,rfl,rfl,hE.2.2,hed,by omega,hl5,rfl,k6',by rw[hE.1,hs8],hR8⟩
    ·rw[if_neg (by rw[h]; decide)] at hR8
     rw[← hs8]
     refine ht hb6 (by omega) hpv.1 hpv.2 (by omega) ?_
     have hT:=Sort.partition_holds lN Vw d8 a e pv hpv.1 hpv.2 (by omega)
     have hTs:=Y1 d8 a e pv
     generalize Sort.partition lN d8 a e pv=pp at *
     obtain⟨mid,ap,d9⟩:=pp
     dsimp only at hR8 hT hTs ⊢
     rw[dif_pos ⟨hT.1,hT.2.1⟩] at hR8
     have hT1:=hT.1
     have hT2:=hT.2.1
     rw[eD,eF,iJ hT1 (by omega),iJ (by omega) (by omega),ql]
     refine⟨by decide, ?_⟩
     rw[show(8:Int)=((8:Nat) : Int) from rfl,uV,bB (by omega) (by omega),iD]
     refine aJ (fun hc1=>?_) (fun hc1=>?_)
     ·have hc1:mid - a<e - mid:=of_decide_eq_true hc1
      rw[if_pos hc1] at hR8
      rw[oV,← hTs]
      refine hq hb6 (by omega) hT1 (by omega) (by omega) hl5 fun M7 k7=>?_
      rw[add1 (by omega)]
      exact hnext _ _ _ (by omega) ⟨mid + 1,e,lim,_,ap,_,M7,rfl,rfl,by omega,hed,by omega,hl5,rfl,k6'.trans k7,by rw[A7 _ _ _ _ _ _ _ (Nat.le_refl _),hTs,hs8],hR8⟩
     ·have hc1:¬ mid - a<e - mid:=of_decide_eq_false hc1
      rw[if_neg hc1] at hR8
      rw[oV,add1 (by omega),← hTs]
      refine hq hb6 (by omega) (by omega) (by omega) (by omega) hl5 fun M7 k7=>?_
      exact hnext _ _ _ (by omega) ⟨a,mid,lim,_,ap,_,M7,rfl,rfl,hT1,by omega,by omega,hl5,rfl,k6'.trans k7,by rw[A7 _ _ _ _ _ _ _ (Nat.le_refl _),hTs,hs8],hR8⟩
   refine di (fun zs M'=>∃ d8:Array Nat,M'=PM M6 b T d8∧d8.size=d.size∧R=UR d8 a e pv lim wb wp) ?_ ?_
   ·rintro zs M' ⟨d8,rfl,hs8,hR8⟩
    exact rest d8 hs8 hR8 (fun _ _=>True) trivial
   intro J10 Xn
   have no:¬ (wb && wp && decide (hint=.increasing))=true→J10 [] (PM M6 b T d7):=fun hn=>by
    have hpi:(if (wb && wp && decide (hint=.increasing))=true then Sort.partialInsertionSort lN d7 a e else(d7,false))=(d7,false):=if_neg hn
    rw[hpi] at hR
    exact Xn _ _ ⟨d7,rfl,hs7,hR⟩
   cases wb with
   | false =>
     rw[bC]
     dsimp only
     rw[bK,bC]
     dsimp only
     rw[bC]
     dsimp only
     rw[bK,bJ]
     exact no (by simp)
   | true =>
     rw[bU]
     dsimp only
     rw[cK]
     cases wp with
     | false =>
       rw[bC]
       dsimp only
       rw[bC]
       dsimp only
       rw[bK,bJ]
       exact no (by simp)
     | true =>
       rw[bU]
       dsimp only
       rw[bU]
       dsimp only
       rw[bT,cK]
       by_cases hin:hint=.increasing
       ·rw[show(tZ hint == 1)=true by rw[hin]; rfl,cO]
        have hpi:(if (true && true && decide (hint=.increasing))=true then Sort.partialInsertionSort lN d7 a e else(d7,false))=Sort.partialInsertionSort lN d7 a e:=if_pos (by simp[hin])
        rw[hpi] at hR
        rw[← hs7]
        refine hp hb6 (by omega) (by omega) (by omega) ?_
        have hs8:(Sort.partialInsertionSort lN d7 a e).1.size=d.size:=by
         rw[Sort.partialInsertionSort,Fj,hs7]
        generalize Sort.partialInsertionSort lN d7 a e=pi at *
        refine aJ (fun h=>?_) (fun h=>?_)
        ·rw[if_pos h] at hR
         rw[← hR]
         exact hQ M6 k6'
        ·rw[if_neg (by rw[h]; decide)] at hR
         exact Xn _ _ ⟨pi.1,rfl,hs8,hR⟩
       ·rw[show(tZ hint == 1)=false by cases hint <;> first | rfl | exact absurd rfl hin,bJ]
        exact no (by simp[hin])
  intro J6 hJ6
  rw[bT]
  by_cases hdec:cpv.2=.decreasing
  ·rw[show(tZ cpv.2 == 2)=true by rw[hdec]; rfl,cO,← hs5]
   refine hr hb6 (by omega) hae (by omega) (by omega) ?_
   rw[dM (by omega) (by omega),iJ (by omega) (by omega),iJ (by omega) (by omega)]
   exact hJ6 _ _ ⟨by rw[if_pos hdec,if_pos hdec]; rfl,by rw[if_pos hdec]⟩
  ·rw[show(tZ cpv.2 == 2)=false by cases h:cpv.2 <;> first | rfl | exact absurd h hdec,bJ]
   exact hJ6 _ _ ⟨by rw[if_neg hdec,if_neg hdec],by rw[if_neg hdec]⟩
 intro J hJ
 rw[aY]
 cases wb with
 | true =>
   rw[Bool.not_true,bJ]
   exact hJ _ _ ⟨M4,rfl,rfl,k4⟩
 | false =>
   rw[Bool.not_false,cO,← hs3]
   refine hb hb4 (by omega) hae (by omega) fun M5 k5=>?_
   rw[dM (by omega) (by omega)]
   exact hJ _ _ ⟨M5,rfl,rfl,k4.trans k5⟩
end Go.Ab.ay
namespace Go.Ab.Crw
open Go Go.Ab Go.Ab.ay
section
variable {α:Type} [Inhabited α] {E:Enc α} {M M' : RM} {T b z n i j:Nat} {d:Array α}
structure At (E:Enc α) (T b:Nat) (d:Array α) (M:RM) : Prop where
 heap:M.heap b=some (.row (E.row d.toList) true T 0)
 lt:b<M.next
abbrev sv (b n z:Nat) : AV:=.slc b 0 n (.op z)
theorem At.keep {α:Type} {E:Enc α} {d:Array α} (h:At E T b d M) (k:ag [] M M') : At E T b d M':=⟨k.aD h.heap h.lt (by simp),Nat.lt_of_lt_of_le h.lt k.next⟩
theorem QD (hi:i<d.size) : d[i]! = d[i]:=getElem!_pos d i hi
theorem At.idx {kd:IntKind} {K:AV→Prop} (hi:i<n) : aA (sv b n z) (N kd (i:Int)) z K=K (.ptr b (i * z)):=by
 rw[qo]
 simp only[Int.toNat_natCast]
 rw[Nat.zero_add]
 exact propext ⟨fun h=>h.2.2,fun h=>⟨by omega,by omega,h⟩⟩
theorem At.ld (h:At E T b d M) (hz:E.size=z) (hi:i<d.size) {K:AV→Prop} : aF M (.ptr b (i * z)) z K=K (.agg (E.cells d[i]!)):=by
 subst hz
 have hl:M.loads b (i * E.size) E.size=some (E.cells d[i]!):=by
  have hlen:(E.row d.toList).length=d.size * E.size:=by rw[Enc.fq,Array.length_toList]
  have hsum:i * E.size + E.size≤d.size * E.size:=by rw[← Nat.succ_mul]; exact Nat.mul_le_mul_right _ hi
  rw[RM.dO h.heap (by omega),E.Y3 (by rw[Array.length_toList]; exact hi),QD hi]
  simp
 rw[kV,hl]
 simp
theorem At.rd (h:At E T b d M) (hz:E.size=z) (hn:n=d.size) (hi:i<d.size) {kd:IntKind} {K:AV→Prop} : (aA (sv b n z) (N kd (i:Int)) z fun p=>aF M p z K)=K (.agg (E.cells d[i]!)):=by
 rw[At.idx (by omega),h.ld hz hi]
theorem akf {α:Type} {E:Enc α} {l:List α} {i:Nat} {x:α} (hi:i<l.length) : (E.row l).take (i * E.size)++E.cells x++(E.row l).drop (i * E.size + E.size)=E.row (l.set i x):=by
 rw[List.set_eq_take_append_cons_drop,if_pos hi,E.wG,E.jb,E.uA,← Nat.succ_mul,E.uo,List.append_assoc]
theorem At.st {α:Type} {E:Enc α} {d:Array α} (h:At E T b d M) (hz:E.size=z) (hi:i<d.size) {x:α} {K:RM→Prop} (hK:∀ M',At E T b (d.setIfInBounds i x) M'→ag [b] M M'→M'.next=M.next→K M') : aC M (.ptr b (i * z)) (.agg (E.cells x)) z K:=by
 subst hz
 have hlen:(E.row d.toList).length=d.size * E.size:=by rw[Enc.fq,Array.length_toList]
 have hsum:i * E.size + E.size≤d.size * E.size:=by rw[← Nat.succ_mul]; exact Nat.mul_le_mul_right _ hi
 rw[vW]
 refine⟨E.len x,_,RM.Gb h.heap (by show i * E.size + (E.cells x).length≤_; rw[E.len]; omega) (Nat.zero_le _) (E.one x), ?_⟩
 refine hK _ ⟨?_,h.lt⟩ ((ag.refl _ _).put _ (.inr (by simp))) rfl
 rw[aN]
 have hi' : i<d.toList.length:=by rw[Array.length_toList]; exact hi
 have:=akf (E:=E) (x:=x) hi'
 rw[Array.toList_setIfInBounds,← this]
 show some (RB.row ((E.row d.toList).take (i * E.size)++E.cells x++(E.row d.toList).drop (i * E.size + (E.cells x).length)) true T 0)=_
 rw[E.len]
theorem eH (d:Array α) (i j:Nat) : (Sort.swp d i j).size=d.size:=by simp[Sort.swp]
theorem At.swap (h:At E T b d M) (hz:E.size=z) (hn:n=d.size) (hi:i<d.size) (hj:j<d.size) {k1 k2:IntKind} {K:RM→Prop} (hK:∀ M',At E T b (Sort.swp d i j) M'→ag [b] M M'→K M') :
  aA (sv b n z) (N k1 (i:Int)) z fun p=>aC M p (.agg (E.cells d[j]!)) z fun M1=>aA (sv b n z) (N k2 (j:Int)) z fun q=>aC M1 q (.agg (E.cells d[i]!)) z K:=by
 rw[At.idx (by omega)]
 refine h.st hz hi fun M1 h1 k1 _=>?_
 rw[At.idx (by omega)]
 refine h1.st hz (by simpa using hj) fun M2 h2 k2 _=>?_
 exact hK M2 h2 (k1.trans k2)
def Ah (E:Enc α) (lt:α→α→Bool) (c:List AV→RM→ak→Prop) : Prop:=∀ {M:RM} {x y:α} {Q:ak},(∀ (n:Int) M',decide (n<0)=lt x y→ag [] M M'→Q (N .i64 n) M')→c [.agg (E.cells x),.agg (E.cells y)] M Q
theorem Ah.use {α:Type} {E:Enc α} {lt:α→α→Bool} {c:List AV→RM→ak→Prop} (h:Ah E lt c) {M:RM} {x y:α} {K:AV→RM→Prop} (hK:∀ M',ag [] M M'→K (Bo (lt x y)) M') :
  c [.agg (E.cells x),.agg (E.cells y)] M fun t M'=>ae .lss t (N .i64 0) fun u=>K u M':=by
 refine h fun n M' hn k=>?_
 rw[bZ,hn]
 exact hK M' k
def SortG (E:Enc α) (T z:Nat) (fv:AV) (f:Array α→Nat→Nat→Array α) (P:Array α→Nat→Nat→Prop) (c:au) : Prop:=∀ {M:RM} {b a e:Nat} {d:Array α} {Q:ak},At E T b d M→d.size≤60000→a≤e→e≤d.size→P d a e→(∀ M',At E T b (f d a e) M'→ag [b] M M'→Q (.tup []) M') →
 c [sv b d.size z,N .i64 (a:Int),N .i64 (e:Int),fv] M Q
end
section
variable {α:Type} [Inhabited α] (lt:α→α→Bool)
theorem Pk (a:Nat) : ∀ (j:Nat) (d:Array α),(Sort.insInner lt a j d).size=d.size
 | 0,d=>rfl
 | j + 1,d=>by
   rw[Sort.insInner]
   split
   ·rw[Pk a j,eH]
   ·rfl
theorem OU (a e:Nat) : ∀ (k i:Nat) (d:Array α),e - i≤k→(Sort.insOuter lt a e i d).size=d.size
 | 0,i,d,h=>by rw[Sort.insOuter,if_neg (by omega)]
 | k + 1,i,d,h=>by
   rw[Sort.insOuter]
   split
   ·rw[OU a e k _ _ (by omega),Pk]
   ·rfl
theorem at5 (d:Array α) (a e:Nat) : (Sort.insertionSort lt d a e).size=d.size:=OU lt a e _ _ _ (Nat.le_refl _)
theorem EI (hi first:Nat) : ∀ (k lo:Nat) (d:Array α),hi - lo≤k→(Sort.siftDown lt hi first lo d).size=d.size
 | 0,lo,d,h=>by rw[Sort.siftDown,dif_pos (by omega)]
 | k + 1,lo,d,h=>by
   rw[Sort.siftDown]
   split
   ·rfl
   ·split
    ·split
     ·rfl
     ·split
      ·rw[EI hi first k _ _ (by omega),eH]
      ·rfl
    ·split
     ·rfl
     ·rw[EI hi first k _ _ (by omega),eH]
theorem Zk (hi first:Nat) : ∀ (k:Nat) (d:Array α),(Sort.heapBuild lt hi first k d).size=d.size
 | 0,d=>rfl
 | k + 1,d=>by rw[Sort.heapBuild,Zk hi first k,EI lt hi first hi _ _ (by omega)]
theorem ah6 (first:Nat) : ∀ (k:Nat) (d:Array α),(Sort.heapPop lt first k d).size=d.size
 | 0,d=>rfl
 | k + 1,d=>by rw[Sort.heapPop,ah6 first k,EI lt _ _ k _ _ (by omega),eH]
theorem ap1 (d:Array α) (a e:Nat) : (Sort.heapSort lt d a e).size=d.size:=by rw[Sort.heapSort,ah6,Zk]
theorem RH:∀ (k i j:Nat) (d:Array α),j - i≤k→(Sort.reverseLoop i j d).size=d.size
 | 0,i,j,d,h=>by rw[Sort.reverseLoop,if_neg (by omega)]
 | k + 1,i,j,d,h=>by
   rw[Sort.reverseLoop]
   split
   ·rw[RH k _ _ _ (by omega),eH]
   ·rfl
theorem aix (d:Array α) (a e:Nat) : (Sort.reverseRange d a e).size=d.size:=RH _ _ _ _ (Nat.le_refl _)
theorem yl (a l m:Nat) (st:UInt64 × Array α) (i:Nat) : (Sort.breakStep a l m st i).2.size=st.2.size:=eH _ _ _
theorem Zg (d:Array α) (a e:Nat) : (Sort.breakPatterns d a e).size=d.size:=by
 unfold Sort.breakPatterns
 dsimp only
 split
 ·rw[yl,yl,yl]
 ·rfl
theorem DK:∀ (j:Nat) (d:Array α),(Sort.shiftDown lt j d).size=d.size
 | 0,d=>rfl
 | j + 1,d=>by
   rw[Sort.shiftDown]
   split
   ·rfl
   ·rw[DK j,eH]
theorem Rz (e:Nat) : ∀ (k j:Nat) (d:Array α),e - j≤k→(Sort.shiftUp lt e j d).size=d.size
 | 0,j,d,h=>by rw[Sort.shiftUp,if_neg (by omega)]
 | k + 1,j,d,h=>by
   rw[Sort.shiftUp]
   split
   ·split
    ·rfl
    ·rw[Rz e k _ _ (by omega),eH]
   ·rfl
theorem Cm (a b s i:Nat) (d:Array α) : Sort.partialIns lt a b (s + 1) i d =
  if Sort.scanSorted lt d b i=b then(d,true) else if b - a<50 then(d,false) else
   Sort.partialIns lt a b s (Sort.scanSorted lt d b i) (if b - Sort.scanSorted lt d b i ≥ 2 then Sort.shiftUp lt b (Sort.scanSorted lt d b i + 1) (if Sort.scanSorted lt d b i - a ≥ 2 then Sort.shiftDown lt (Sort.scanSorted lt d b i - 1) (Sort.swp d (Sort.scanSorted lt d b i) (Sort.scanSorted lt d b i - 1)) else Sort.swp d (Sort.scanSorted lt d b i) (Sort.scanSorted lt d b i - 1))
    else(if Sort.scanSorted lt d b i - a ≥ 2 then Sort.shiftDown lt (Sort.scanSorted lt d b i - 1) (Sort.swp d (Sort.scanSorted lt d b i) (Sort.scanSorted lt d b i - 1)) else Sort.swp d (Sort.scanSorted lt d b i) (Sort.scanSorted lt d b i - 1))):=rfl
theorem Jt (a e:Nat) : ∀ (s i:Nat) (d:Array α),(Sort.partialIns lt a e s i d).1.size=d.size
 | 0,i,d=>rfl
 | s + 1,i,d=>by
   rw[Cm]
   split
   ·rfl
   ·split
    ·rfl
    ·rw[Jt a e s]
     have h1:∀ x,(if x - a ≥ 2 then Sort.shiftDown lt (x - 1) (Sort.swp d x (x - 1)) else Sort.swp d x (x - 1)).size=d.size:=fun x=>by
      split
      ·rw[DK,eH]
      ·rw[eH]
     split
     ·rw[Rz lt e e _ _ (by omega),h1]
     ·rw[h1]
theorem Ms (p:α→Bool) (d:Array α) (J:Nat) : ∀ (n i:Nat),J + 1 - i≤n→i≤Sort.scanUp p d J i∧Sort.scanUp p d J i≤max (J + 1) i
 | 0,i,h=>by
   rw[Sort.scanUp,if_neg (by simp; omega)]; omega
 | n + 1,i,h=>by
   rw[Sort.scanUp]
   split
   ·rename_i hc
    rw[Bool.and_eq_true] at hc
    have:=of_decide_eq_true hc.1
    have:=Ms p d J n (i + 1) (by omega)
    omega
   ·omega
theorem FU (p:α→Bool) (d:Array α) (i:Nat) : ∀ j,Sort.scanDown p d i j≤j
 | 0=>Nat.le_refl _
 | j + 1=>by
   rw[Sort.scanDown]
   split
   ·have:=FU p d i j; omega
   ·omega
theorem IR (a:Nat) : ∀ (n i j:Nat) (d:Array α),j + 1 - i≤n→i≤(Sort.partEqLoop lt a i j d).1∧(Sort.partEqLoop lt a i j d).1≤max (j + 1) i∧(Sort.partEqLoop lt a i j d).2.size=d.size
 | n,i,j,d,h=>by
   have h1:=Ms (fun x=>!lt d[a]! x) d j _ i (Nat.le_refl _)
   have h2:=FU (fun x=>lt d[a]! x) d (Sort.scanUp (fun x=>!lt d[a]! x) d j i) j
   rw[Sort.partEqLoop]
   generalize Sort.scanUp (fun x=>!lt d[a]! x) d j i=i2 at *
   generalize Sort.scanDown (fun x=>lt d[a]! x) d i2 j=j2 at *
   split
   ·exact⟨h1.1,h1.2,rfl⟩
   ·split
    ·cases n with
     | zero=>omega
     | succ n =>
       have h3:=IR a n (i2 + 1) (j2 - 1) (Sort.swp d i2 j2) (by omega)
       rw[eH] at h3
       omega
    ·exact⟨h1.1,h1.2,rfl⟩
theorem NF (a:Nat) : ∀ (n i j:Nat) (d:Array α),j + 1 - i≤n→(Sort.partLoop lt a i j d).1≤j∧(Sort.partLoop lt a i j d).2.size=d.size
 | n,i,j,d,h=>by
   have h1:=Ms (fun x=>lt x d[a]!) d j _ i (Nat.le_refl _)
   have h2:=FU (fun x=>!lt x d[a]!) d (Sort.scanUp (fun x=>lt x d[a]!) d j i) j
   rw[Sort.partLoop]
   generalize Sort.scanUp (fun x=>lt x d[a]!) d j i=i2 at *
   generalize Sort.scanDown (fun x=>!lt x d[a]!) d i2 j=j2 at *
   split
   ·exact⟨h2,rfl⟩
   ·split
    ·cases n with
     | zero=>omega
     | succ n =>
       have h3:=NF a n (i2 + 1) (j2 - 1) (Sort.swp d i2 j2) (by omega)
       rw[eH] at h3
       exact⟨by omega,h3.2⟩
    ·exact⟨h2,rfl⟩
theorem YN (d:Array α) (a e pv:Nat) (h:a<e) : (Sort.partitionEqual lt d a e pv).2.size=d.size∧a<(Sort.partitionEqual lt d a e pv).1∧(Sort.partitionEqual lt d a e pv).1≤e:=by
 unfold Sort.partitionEqual
 have:=IR lt a _ (a + 1) (e - 1) (Sort.swp d a pv) (Nat.le_refl _)
 rw[eH] at this
 omega
def pI (d2:Array α) (a e:Nat) : Nat:=Sort.scanUp (fun x=>lt x d2[a]!) d2 (e - 1) (a + 1)
def pJ (d2:Array α) (a e:Nat) : Nat:=Sort.scanDown (fun x=>!lt x d2[a]!) d2 (pI lt d2 a e) (e - 1)
def pL (d2:Array α) (a e:Nat) : Nat × Array α:=Sort.partLoop lt a (pI lt d2 a e + 1) (pJ lt d2 a e - 1) (Sort.swp d2 (pI lt d2 a e) (pJ lt d2 a e))
theorem EN (d:Array α) (a e pv:Nat) : Sort.partition lt d a e pv =
  if pI lt (Sort.swp d a pv) a e > pJ lt (Sort.swp d a pv) a e then(pJ lt (Sort.swp d a pv) a e,true,Sort.swp (Sort.swp d a pv) (pJ lt (Sort.swp d a pv) a e) a)
  else((pL lt (Sort.swp d a pv) a e).1,false,Sort.swp (pL lt (Sort.swp d a pv) a e).2 (pL lt (Sort.swp d a pv) a e).1 a):=rfl
theorem adK (d:Array α) (a e pv:Nat) : (Sort.partition lt d a e pv).2.2.size=d.size:=by
 rw[EN]
 split
 ·show(Sort.swp _ _ _).size=_
  rw[eH,eH]
 ·show(Sort.swp _ _ _).size=_
  rw[eH,pL,(NF lt a _ _ _ _ (Nat.le_refl _)).2,eH,eH]
def gC (d3:Array α) (a e pv limit:Nat) (wb wp:Bool) : Array α :=
 if a > 0 && !lt d3[a - 1]! d3[pv]! then
  match Sort.partitionEqual lt d3 a e pv with
  | (mid,d4)=>if _h:a<mid∧mid≤e then Sort.pdq lt d4 mid e limit wb wp else d4
 else
  match Sort.partition lt d3 a e pv with
  | (mid,ap,d4) =>
    if _h:a≤mid∧mid<e then
     if mid - a<e - mid then Sort.pdq lt (Sort.pdq lt d4 a mid limit true true) (mid + 1) e limit (decide (mid - a ≥ (e - a) / 8)) ap
     else Sort.pdq lt (Sort.pdq lt d4 (mid + 1) e limit true true) a mid limit (decide (e - mid ≥ (e - a) / 8)) ap
    else d4
def gP (pi:Array α × Bool) (a e pv limit:Nat) (wb wp:Bool) : Array α:=if pi.2 then pi.1 else gC lt pi.1 a e pv limit wb wp
def gB (d2:Array α) (a e pv:Nat) (hint:Sort.Hint) (limit:Nat) (wb wp:Bool) : Array α :=
 gP lt (if wb && wp && hint=.increasing then Sort.partialInsertionSort lt d2 a e else(d2,false)) a e pv limit wb wp
def gA (d1:Array α) (a e limit:Nat) (wb wp:Bool) : Array α :=
 gB lt (if (Sort.choosePivot lt d1 a e).2=.decreasing then Sort.reverseRange d1 a e else d1) a e (if (Sort.choosePivot lt d1 a e).2=.decreasing then(e - 1) - ((Sort.choosePivot lt d1 a e).1 - a) else(Sort.choosePivot lt d1 a e).1)
  (if (Sort.choosePivot lt d1 a e).2=.decreasing then .increasing else(Sort.choosePivot lt d1 a e).2) limit wb wp
theorem Nb (d:Array α) (a e limit:Nat) (wb wp:Bool) : Sort.pdq lt d a e limit wb wp =
  if e - a≤12 then Sort.insertionSort lt d a e else if limit=0 then Sort.heapSort lt d a e else gA lt (if !wb then Sort.breakPatterns d a e else d) a e (if !wb then limit - 1 else limit) wb wp:=by
 rw[Sort.pdq]; rfl
theorem ET:∀ (n:Nat) (d:Array α) (a e limit:Nat) (wb wp:Bool),e - a≤n→(Sort.pdq lt d a e limit wb wp).size=d.size
 | n,d,a,e,limit,wb,wp,hn=>by
   rw[Nb]
   split
   ·exact at5 lt d a e
   split
   ·exact ap1 lt d a e
   have h1:(if !wb then Sort.breakPatterns d a e else d).size=d.size:=by split; exact Zg d a e; rfl
   rw[← h1]
   generalize (if !wb then Sort.breakPatterns d a e else d)=d1
   unfold gA
   have h2:(if (Sort.choosePivot lt d1 a e).2=.decreasing then Sort.reverseRange d1 a e else d1).size=d1.size:=by split; exact aix d1 a e; rfl
   rw[← h2]
   generalize (if (Sort.choosePivot lt d1 a e).2=.decreasing then Sort.reverseRange d1 a e else d1)=d2
   generalize (if (Sort.choosePivot lt d1 a e).2=.decreasing then(e - 1) - ((Sort.choosePivot lt d1 a e).1 - a) else(Sort.choosePivot lt d1 a e).1)=pv
   generalize (if (Sort.choosePivot lt d1 a e).2=.decreasing then Sort.Hint.increasing else(Sort.choosePivot lt d1 a e).2)=hint
   unfold gB
   have h3:(if wb && wp && hint=.increasing then Sort.partialInsertionSort lt d2 a e else(d2,false)).1.size=d2.size:=by
    split
    ·exact Jt lt a e _ _ _
    ·rfl
   rw[← h3]
   generalize (if wb && wp && hint=.increasing then Sort.partialInsertionSort lt d2 a e else(d2,false))=pi
   unfold gP
   split
   ·rfl
   unfold gC
   have hE:=YN lt pi.1 a e pv
   have hP:=adK lt pi.1 a e pv
   generalize Sort.partitionEqual lt pi.1 a e pv=pe at *
   generalize Sort.partition lt pi.1 a e pv=pp at *
   obtain⟨mid,d4⟩:=pe
   obtain⟨aw1,ap,d5⟩:=pp
   cases n with
   | zero=>omega
   | succ n =>
     split
     ·dsimp only
      split
      ·rw[ET n _ _ _ _ _ _ (by omega)]
       exact(hE (by omega)).1
      ·exact(hE (by omega)).1
     ·dsimp only at hP ⊢
      split
      ·split
       ·rw[ET n _ _ _ _ _ _ (by omega),ET n _ _ _ _ _ _ (by omega)]; exact hP
       ·rw[ET n _ _ _ _ _ _ (by omega),ET n _ _ _ _ _ _ (by omega)]; exact hP
      ·exact hP
theorem zX (d:Array α) (i j k:Nat) : (((Sort.order2 lt d i j k).1=i∧(Sort.order2 lt d i j k).2.1=j)∨((Sort.order2 lt d i j k).1=j∧(Sort.order2 lt d i j k).2.1=i))∧k≤(Sort.order2 lt d i j k).2.2∧(Sort.order2 lt d i j k).2.2≤k + 1:=by
 unfold Sort.order2
 split <;> simp
theorem LU (d:Array α) {i j h k n:Nat} (hi:i<n) (hj:j<n) (hh:h<n) : (Sort.median lt d i j h k).1<n∧(Sort.median lt d i j h k).2≤k + 3:=by
 unfold Sort.median
 dsimp only
 have o1:=zX lt d i j k
 generalize Sort.order2 lt d i j k=r1 at *
 have o2:=zX lt d r1.2.1 h r1.2.2
 generalize Sort.order2 lt d r1.2.1 h r1.2.2=r2 at *
 have o3:=zX lt d r1.1 r2.1 r2.2.2
 omega
end
section
variable {α:Type} [Inhabited α] {E:Enc α} {M M' : RM} {T b z n i j:Nat} {d:Array α} {ks:List Nat}
theorem At.keep' {α:Type} {E:Enc α} {d:Array α} (h:At E T b d M) (k:ag ks M M') (hb:b ∉ ks) : At E T b d M':=⟨k.aD h.heap h.lt hb,Nat.lt_of_lt_of_le h.lt k.next⟩
theorem Dk {c p:Bool} {f:KR→Prop} {P:RM→Prop} {G:AV→RM→Prop} (h0:P M) (hf:c=true→∀ k:KR,(∀ M',P M'→k (Bo p) M' none)→f k) (hG:∀ M',P M'→G (Bo (c && p)) M') :
  ah (Bo c) true f (fun k=>k .undef M none) (fun t M' b=>aH (Bo c) t (Bo false) fun u=>G u M'):=by
 cases c with
 | false=>rw[gW]; dsimp only; rw[bK]; exact hG M h0
 | true=>rw[gY]; exact hf rfl _ fun M' h=>by rw[cK]; exact hG M' h
variable {body:(List AV→RM→Prop)→List AV→RM→Prop} {p:α→Bool} {P:RM→Prop}
theorem QN {J i0:Nat} (hP:P M) (h:∀ (next:List AV→RM→Prop) (i:Nat) (M' : RM),P M'→i0≤i→i≤max (J + 1) i0→((decide (i≤J) && p d[i]!)=true→∀ M'',P M''→next [N .i64 ((i + 1:Nat) : Int)] M'')→((decide (i≤J) && p d[i]!)=false→i=Sort.scanUp p d J i0)→body next [N .i64 (i:Int)] M') :
  bu body [N .i64 (i0:Int)] M:=by
 obtain⟨R,hR⟩ : ∃ R,R=Sort.scanUp p d J i0:=⟨_,rfl⟩
 refine aQ (fun m ys M3=>∃ (i:Nat),m=J + 1 - i∧ys=[N .i64 (i:Int)]∧i0≤i∧i≤max (J + 1) i0∧P M3∧R=Sort.scanUp p d J i) _ ⟨i0,rfl,rfl,Nat.le_refl _,by omega,hP,hR⟩ ?_
 rintro next m ys M3 hnext ⟨i,rfl,rfl,h0,hi,h3,hm⟩
 rw[Sort.scanUp] at hm
 refine h next i M3 h3 h0 hi (fun hc M4 h4=>?_) (fun hc=>?_)
 ·rw[if_pos hc] at hm
  have hij:i≤J:=by
   rw[Bool.and_eq_true] at hc
   exact of_decide_eq_true hc.1
  exact hnext _ _ _ (by omega) ⟨i + 1,rfl,rfl,by omega,by omega,h4,hm⟩
 ·rw[if_neg (by rw[hc]; decide)] at hm
  rw[← hR]; exact hm.symm
theorem Iu {i j0:Nat} (hP:P M) (h1:1≤i) (h:∀ (next:List AV→RM→Prop) (j:Nat) (M' : RM),P M'→j≤j0→(j=j0∨i≤j + 1)→((decide (i≤j) && p d[j]!)=true→∀ M'',P M''→next [N .i64 ((j - 1:Nat) : Int)] M'')→((decide (i≤j) && p d[j]!)=false→j=Sort.scanDown p d i j0)→body next [N .i64 (j:Int)] M') :
  bu body [N .i64 (j0:Int)] M:=by
 obtain⟨R,hR⟩ : ∃ R,R=Sort.scanDown p d i j0:=⟨_,rfl⟩
 refine aQ (fun m ys M3=>∃ (j:Nat),m=j + 1∧ys=[N .i64 (j:Int)]∧j≤j0∧(j=j0∨i≤j + 1)∧P M3∧R=Sort.scanDown p d i j) _ ⟨j0,rfl,rfl,Nat.le_refl _,.inl rfl,hP,hR⟩ ?_
 rintro next m ys M3 hnext ⟨j,rfl,rfl,h0,hi,h3,hm⟩
 refine h next j M3 h3 h0 hi (fun hc M4 h4=>?_) (fun hc=>?_)
 ·have hij:i≤j:=by
   rw[Bool.and_eq_true] at hc
   exact of_decide_eq_true hc.1
  obtain⟨k,rfl⟩ : ∃ k,j=k + 1:=⟨j - 1,by omega⟩
  rw[Sort.scanDown,if_pos hc] at hm
  exact hnext _ _ _ (by omega) ⟨k,rfl,rfl,by omega,by omega,h4,hm⟩
 ·rw[← hR]
  cases j with
  | zero=>exact hm.symm
  | succ k=>rw[Sort.scanDown,if_neg (by rw[hc]; decide)] at hm; exact hm.symm
end
def ahm (TX:Nat) (c:au) : Prop:=∀ {M:RM} {s:Nat} {r:UInt64} {Q:ak},M.heap s=some (.row [N .u64 (r.toNat:Int)] false TX 0)→s<M.next→(∀ M',M'.heap s=some (.row [N .u64 ((Sort.xorNext r).toNat:Int)] false TX 0)→ag [s] M M'→M'.next=M.next→Q (N .u64 ((Sort.xorNext r).toNat:Int)) M')→c [.ptr s 0] M Q
theorem acz {TX:Nat} : ahm TX fun args M Q=>∃ a0,args=[a0]∧nQ a0 M Q:=by
 intro M s r Q hh hlt hQ
 refine⟨_,rfl, ?_⟩
 unfold nQ
 have st:∀ (M:RM) (r r' : UInt64) (K:RM→Prop),M.heap s=some (.row [N .u64 (r.toNat:Int)] false TX 0)→(∀ M',M'.heap s=some (.row [N .u64 (r'.toNat:Int)] false TX 0)→ag [s] M M'→M'.next=M.next→K M')→aC M (.ptr s 0) (N .u64 (r'.toNat:Int)) 1 K:=fun M r r' K h hK=>by
  rw[gV h (by simp) rfl rfl]
  exact hK _ (aN _) ((ag.refl _ _).put _ (.inr (by simp))) rfl
 rw[aI,aj hh rfl,aI,aj hh rfl,xn]
 refine⟨by decide, ?_⟩
 rw[show(13:Int)=((13:Nat) : Int) from rfl,Kw (k:=13) (n:=13) rfl (by decide),uM,u64_xor,aI]
 refine st _ _ _ _ hh fun M1 h1 k1 n1=>?_
 rw[aI,aj h1 rfl,aI,aj h1 rfl,Ko]
 refine⟨by decide, ?_⟩
 rw[show(7:Int)=((7:Nat) : Int) from rfl,Zl (k:=7) (n:=7) rfl (by decide),uM,u64_xor,aI]
 refine st _ _ _ _ h1 fun M2 h2 k2 n2=>?_
 rw[aI,aj h2 rfl,aI,aj h2 rfl,xn]
 refine⟨by decide, ?_⟩
 rw[show(17:Int)=((17:Nat) : Int) from rfl,Kw (k:=17) (n:=17) rfl (by decide),uM,u64_xor,aI]
 refine st _ _ _ _ h2 fun M3 h3 k3 n3=>?_
 rw[aI,aj h3 rfl]
 exact hQ M3 h3 ((k1.trans k2).trans k3) (by omega)
def G5 {α:Type} [Inhabited α] (a l m i0:Nat) (d:Array α) : Nat→UInt64 × Array α
 | 0=>(UInt64.ofNat l,d)
 | k + 1=>Sort.breakStep a l m (G5 a l m i0 d k) (i0 + k)
theorem ady {α:Type} [Inhabited α] (a l m i0:Nat) (d:Array α) : ∀ k,(G5 a l m i0 d k).2.size=d.size
 | 0=>rfl
 | k + 1=>by
   rw[G5,yl,ady a l m i0 d k]
abbrev aS:=ay × (List UInt8 × List UInt8 × List UInt8)
def aK:Enc aS:=⟨5,fun x=>aM x.1++[St x.2.1,St x.2.2.1,St x.2.2.2],fun _=>rfl,fun _=>rfl⟩
theorem aek {T:Nat} {fv:AV} {lt:aS→aS→Bool} {cv:FuncId→au} (hl:Ah aK lt (gq cv fv)) : SortG aK T 5 fv (Sort.insertionSort lt) (fun _ _ _=>True) fun args M Q=>∃ a0 a1 a2 a3,args=[a0,a1,a2,a3]∧fZ cv a0 a1 a2 a3 M Q:=by
 intro M b a e d Q hat hsz hae he _ hQ
 refine⟨_,_,_,_,rfl, ?_⟩
 unfold fZ
 simp only[ig,fQ,gG]
 rw[add1 (by omega)]
 rw[Sort.insertionSort] at hQ
 obtain⟨R,hR⟩ : ∃ R,R=Sort.insOuter lt a e (a + 1) d:=⟨_,rfl⟩
 rw[← hR] at hQ
 refine aQ (fun m ys M3=>∃ (i:Nat) (d3:Array aS),m=d.size - i∧ys=[N .i64 (i:Int)]∧i≤d.size + 1∧At aK T b d3 M3∧ag [b] M M3∧d3.size=d.size∧R=Sort.insOuter lt a e i d3) _ ⟨a + 1,d,rfl,rfl,by omega,hat,ag.refl _ _,rfl,hR⟩ ?_
 rintro next m ys M3 hnext ⟨i,d3,rfl,rfl,hi,h3,k3,hs3,hm⟩
 dsimp only[aa]
 rw[iD]
 refine aJ (fun hlt=>?_) (fun hge=>?_)
 ·have hlt:i<e:=of_decide_eq_true hlt
  rw[Sort.insOuter,if_pos hlt] at hm
  obtain⟨R5,hR5⟩ : ∃ R5,R5=Sort.insInner lt a i d3:=⟨_,rfl⟩
  rw[← hR5] at hm
  refine aQ (fun m ys M5=>∃ (j:Nat) (d5:Array aS),m=j + 1∧ys=[N .i64 (j:Int)]∧j≤i∧At aK T b d5 M5∧ag [b] M M5∧d5.size=d.size∧R5=Sort.insInner lt a j d5) _ ⟨i,d3,rfl,rfl,Nat.le_refl _,h3,k3,hs3,hR5⟩ ?_
  rintro lD m ys M5 fI ⟨j,d5,rfl,rfl,hj,h5,k5,hs5,hm5⟩
  dsimp only[aa]
  rw[yM]
  have out:∀ M6,At aK T b d5 M6→ag [b] M M6→Sort.insInner lt a j d5=d5→ae .add (N .i64 (i:Int)) (N .i64 1) (fun t14=>next [t14] M6):=fun M6 h6 k6 h=>by
   rw[add1 (by omega)]
   refine hnext _ _ _ (by omega) ⟨i + 1,d5,rfl,rfl,by omega,h6,k6,hs5, ?_⟩
   rw[hm,hm5,h]
  by_cases hg:j > a
  ·obtain⟨k,rfl⟩ : ∃ k,j=k + 1:=⟨j - 1,by omega⟩
   rw[decide_eq_true hg,gY]
   dsimp only
   rw[h5.rd (z:=5) rfl hs5.symm (by omega),dM (by omega) (by omega),Nat.add_sub_cancel,h5.rd (z:=5) rfl hs5.symm (by omega)]
   refine hl.use fun M6 k6=>?_
   have h6:=h5.keep k6
   have k6':=k5.trans (k6.mono (cs:=[b]) (by simp))
   rw[cK]
   rw[Sort.insInner] at hm5 out
   refine aJ (fun h=>?_) (fun h=>?_)
   ·rw[if_pos (by simp[hg,h])] at hm5
    rw[dM (by omega) (by omega),dM (by omega) (by omega),Nat.add_sub_cancel,h6.rd (z:=5) rfl hs5.symm (by omega),h6.rd (z:=5) rfl hs5.symm (by omega)]
    refine h6.swap (z:=5) rfl hs5.symm (by omega) (by omega) fun M7 h7 k7=>?_
    rw[dM (by omega) (by omega),Nat.add_sub_cancel]
    exact fI _ _ _ (by omega) ⟨k,_,rfl,rfl,by omega,h7,k6'.trans k7,by rw[eH]; exact hs5,hm5⟩
   ·exact out M6 h6 k6' (by rw[if_neg (by simp[h])])
  ·rw[decide_eq_false hg,gW]
   dsimp only
   rw[bK,bJ]
   refine out M5 h5 k5 ?_
   cases j with
   | zero=>rfl
   | succ k=>rw[Sort.insInner,if_neg (by simp[hg])]
 ·have hge:¬ i<e:=of_decide_eq_false hge
  rw[Sort.insOuter,if_neg hge] at hm
  subst hm
  exact hQ M3 h3 k3
theorem afo {T:Nat} {fv:AV} : SortG aK T 5 fv Sort.reverseRange (fun _ a e=>a<e) fun args M Q=>∃ a0 a1 a2 a3,args=[a0,a1,a2,a3]∧kU a0 a1 a2 a3 M Q:=by
 intro M b a e d Q hat hsz hae he hP hQ
 refine⟨_,_,_,_,rfl, ?_⟩
 unfold kU
 rw[dM (by omega) (by omega)]
 rw[Sort.reverseRange] at hQ
 obtain⟨R,hR⟩ : ∃ R,R=Sort.reverseLoop a (e - 1) d:=⟨_,rfl⟩
 rw[← hR] at hQ
 refine aQ (fun m ys M3=>∃ (i j:Nat) (d3:Array aS),m=j - i∧ys=[N .i64 (i:Int),N .i64 (j:Int)]∧j<d.size∧i≤d.size∧At aK T b d3 M3∧ag [b] M M3∧d3.size=d.size∧R=Sort.reverseLoop i j d3) _ ⟨a,e - 1,d,rfl,rfl,by omega,by omega,hat,ag.refl _ _,rfl,hR⟩ ?_
 rintro next m ys M3 hnext ⟨i,j,d3,rfl,rfl,hj,hi,h3,k3,hs3,hm⟩
 dsimp only[aa]
 rw[iD]
 rw[Sort.reverseLoop] at hm
 refine aJ (fun hlt=>?_) (fun hge=>?_)
 ·have hlt:i<j:=of_decide_eq_true hlt
  rw[if_pos hlt] at hm
  rw[h3.rd (z:=5) rfl hs3.symm (by omega),h3.rd (z:=5) rfl hs3.symm (by omega)]
  refine h3.swap (z:=5) rfl hs3.symm (by omega) (by omega) fun M4 h4 k4=>?_
  rw[add1 (by omega),dM (by omega) (by omega)]
  exact hnext _ _ _ (by omega) ⟨i + 1,j - 1,_,rfl,rfl,by omega,by omega,h4,k3.trans k4,by rw[eH]; exact hs3,hm⟩
 ·have hge:¬ i<j:=of_decide_eq_false hge
  rw[if_neg hge] at hm
  subst hm
  exact hQ M3 h3 k3
def aau (T:Nat) (fv:AV) (lt:aS→aS→Bool) (c:au) : Prop:=∀ {M:RM} {b lo hi first:Nat} {d:Array aS} {Q:ak},At aK T b d M→d.size≤60000→first + hi≤d.size→lo≤1000000→(∀ M',At aK T b (Sort.siftDown lt hi first lo d) M'→ag [b] M M'→Q (.tup []) M') →
 c [sv b d.size 5,N .i64 (lo:Int),N .i64 (hi:Int),N .i64 (first:Int),fv] M Q
theorem ace {T:Nat} {fv:AV} {lt:aS→aS→Bool} {cv:FuncId→au} (hl:Ah aK lt (gq cv fv)) : aau T fv lt fun args M Q=>∃ a0 a1 a2 a3 a4,args=[a0,a1,a2,a3,a4]∧nG cv a0 a1 a2 a3 a4 M Q:=by
 intro M b lo hi first d Q hat hsz hfe hlo hQ
 refine⟨_,_,_,_,_,rfl, ?_⟩
 unfold nG
 simp only[ig,fQ,gG,fo]
 obtain⟨R,hR⟩ : ∃ R,R=Sort.siftDown lt hi first lo d:=⟨_,rfl⟩
 rw[← hR] at hQ
 refine aQ (fun m ys M3=>∃ (r:Nat) (d3:Array aS),m=1000000 + hi - r∧ys=[N .i64 (r:Int)]∧(r≤1000000)∧At aK T b d3 M3∧ag [b] M M3∧d3.size=d.size∧R=Sort.siftDown lt hi first r d3) _ ⟨lo,d,rfl,rfl,hlo,hat,ag.refl _ _,rfl,hR⟩ ?_
 rintro next m ys M3 hnext ⟨r,d3,rfl,rfl,hr,h3,k3,hs3,hm⟩
 dsimp only[aa]
 rw[ap9 (by omega),add1 (by omega),oV]
 rw[Sort.siftDown] at hm
 refine aJ (fun hg=>?_) (fun hg=>?_)
 ·rw[dif_pos (of_decide_eq_true hg)] at hm
  subst hm
  exact hQ M3 h3 k3
 have hg:¬ 2 * r + 1 ≥ hi:=of_decide_eq_false hg
 rw[dif_neg hg] at hm
 refine di (fun zs M'=>∃ c:Nat,zs=[N .i64 (c:Int)]∧At aK T b d3 M'∧ag [b] M M'∧r<c∧c<hi∧R=if !lt d3[first + r]! d3[first + c]! then d3 else Sort.siftDown lt hi first c (Sort.swp d3 (first + r) (first + c))) ?_ ?_
 ·rintro zs M' ⟨c,rfl,h4,k4,hrc,awy,hm2⟩
  dsimp only[aa]
  rw[addN (by omega),h4.rd (z:=5) rfl hs3.symm (by omega),addN (by omega),h4.rd (z:=5) rfl hs3.symm (by omega)]
  refine hl.use fun M5 k5=>?_
  have h5:=h4.keep k5
  have k5':=k4.trans (k5.mono (cs:=[b]) (by simp))
  rw[aY]
  refine aJ (fun h=>?_) (fun h=>?_)
  ·rw[if_pos h] at hm2
   subst hm2
   exact hQ M5 h5 k5'
  ·rw[if_neg (by rw[h]; decide)] at hm2
   rw[addN (by omega),addN (by omega),addN (by omega),h5.rd (z:=5) rfl hs3.symm (by omega),addN (by omega),h5.rd (z:=5) rfl hs3.symm (by omega)]
   refine h5.swap (z:=5) rfl hs3.symm (by omega) (by omega) fun M6 h6 k6=>?_
   exact hnext _ _ _ (by omega) ⟨c,_,rfl,rfl,by omega,h6,k5'.trans k6,by rw[eH]; exact hs3,hm2⟩
 intro J hJ
 rw[add1 (by omega),iD]
 refine Dk (P:=fun M'=>At aK T b d3 M'∧ag [b] M M') (p:=lt d3[first + (2 * r + 1)]! d3[first + (2 * r + 1) + 1]!) ⟨h3,k3⟩ (fun hc k hk=>?_) fun M4 ⟨h4,k4⟩=>?_
 ·have hc:2 * r + 1 + 1<hi:=of_decide_eq_true hc
  rw[addN (by omega),h3.rd (z:=5) rfl hs3.symm (by omega),addN (by omega),add1 (by omega),h3.rd (z:=5) rfl hs3.symm (by omega)]
  exact hl.use fun M5 k5=>hk M5 ⟨h3.keep k5,k3.trans (k5.mono (cs:=[b]) (by simp))⟩
 refine aJ (fun h=>?_) (fun h=>?_)
 ·have hc:2 * r + 1 + 1<hi:=by
   rw[Bool.and_eq_true] at h
   exact of_decide_eq_true h.1
  rw[add1 (by omega)]
  refine hJ _ _ ⟨2 * r + 2,rfl,h4,k4,by omega,by omega, ?_⟩
  rw[if_pos h,dif_pos (by omega)] at hm
  exact hm
 ·refine hJ _ _ ⟨2 * r + 1,rfl,h4,k4,by omega,by omega, ?_⟩
  rw[if_neg (by rw[h]; decide)] at hm
  exact hm
theorem abW {T:Nat} {fv:AV} {lt:aS→aS→Bool} {cs:au} (hs:aau T fv lt cs) : SortG aK T 5 fv (Sort.heapSort lt) (fun _ a e=>a<e) fun args M Q=>∃ a0 a1 a2 a3,args=[a0,a1,a2,a3]∧nz cs a0 a1 a2 a3 M Q:=by
 intro M b a e d Q hat hsz hae he hP hQ
 refine⟨_,_,_,_,rfl, ?_⟩
 unfold nz
 rw[Sort.heapSort] at hQ
 rw[iJ hae (by omega),dM (by omega) (by omega),ql]
 refine⟨by decide, ?_⟩
 rw[show(2:Int)=((2:Nat) : Int) from rfl,uV,bB (by omega) (by omega)]
 obtain⟨R,hR⟩ : ∃ R,R=Sort.heapBuild lt (e - a) a ((e - a - 1) / 2 + 1) d:=⟨_,rfl⟩
 rw[← hR] at hQ
 refine aQ (fun m ys M3=>∃ (k:Nat) (d3:Array aS),m=k + 1∧ys=[N .i64 ((k:Int) - 1)]∧k≤(e - a - 1) / 2 + 1∧At aK T b d3 M3∧ag [b] M M3∧d3.size=d.size∧R=Sort.heapBuild lt (e - a) a k d3) _ ⟨(e - a - 1) / 2 + 1,d,rfl,by congr 3; omega,Nat.le_refl _,hat,ag.refl _ _,rfl,hR⟩ ?_
 rintro next m ys M3 hnext ⟨k,d3,rfl,rfl,hk,h3,k3,hs3,hm⟩
 dsimp only[aa]
 rw[iR]
 refine aJ (fun hg=>?_) (fun hg=>?_)
 ·have hg:1≤k:=by
   have:(k:Int) - 1 ≥ 0:=of_decide_eq_true hg
   omega
  obtain⟨k',rfl⟩ : ∃ k',k=k' + 1:=⟨k - 1,by omega⟩
  rw[Sort.heapBuild] at hm
  rw[show((k' + 1:Nat) : Int) - 1=(k' : Int) by omega,← hs3]
  refine hs h3 (by omega) (by omega) (by omega) fun M4 h4 k4=>?_
  rw[jG,bB (by omega) (by omega)]
  exact hnext _ _ _ (by omega) ⟨k',_,rfl,rfl,by omega,h4,k3.trans k4,by rw[EI lt _ _ (e - a) _ _ (by omega)]; exact hs3,hm⟩
 ·have hk0:k=0:=by
   have:¬ (k:Int) - 1 ≥ 0:=of_decide_eq_false hg
   omega
  subst hk0
  rw[Sort.heapBuild] at hm
  rw[hm] at hQ
  rw[dM (by omega) (by omega)]
  obtain⟨R4,hR4⟩ : ∃ R4,R4=Sort.heapPop lt a (e - a) d3:=⟨_,rfl⟩
  rw[← hR4] at hQ
  refine aQ (fun m ys M4=>∃ (k:Nat) (d4:Array aS),m=k + 1∧ys=[N .i64 ((k:Int) - 1)]∧k≤e - a∧At aK T b d4 M4∧ag [b] M M4∧d4.size=d.size∧R4=Sort.heapPop lt a k d4) _ ⟨e - a,d3,rfl,by congr 3; omega,Nat.le_refl _,h3,k3,hs3,hR4⟩ ?_
  rintro lD m ys M4 fI ⟨k,d4,rfl,rfl,hk,h4,k4,hs4,hm4⟩
  dsimp only[aa]
  rw[iR]
  refine aJ (fun hg=>?_) (fun hg=>?_)
  ·have hg:1≤k:=by
    have:(k:Int) - 1 ≥ 0:=of_decide_eq_true hg
    omega
   obtain⟨k',rfl⟩ : ∃ k',k=k' + 1:=⟨k - 1,by omega⟩
   rw[Sort.heapPop] at hm4
   rw[show((k' + 1:Nat) : Int) - 1=(k' : Int) by omega,addN (by omega),addN (by omega),h4.rd (z:=5) rfl hs4.symm (by omega),h4.rd (z:=5) rfl hs4.symm (by omega)]
   refine h4.swap (z:=5) rfl hs4.symm (by omega) (by omega) fun M5 h5 k5=>?_
   rw[show d.size=(Sort.swp d4 a (a + k')).size by rw[eH]; exact hs4.symm]
   refine hs (lo:=0) h5 (by rw[eH]; omega) (by rw[eH]; omega) (by decide) fun M6 h6 k6=>?_
   rw[jG,bB (by omega) (by omega)]
   exact fI _ _ _ (by omega) ⟨k',_,rfl,rfl,by omega,h6,(k4.trans k5).trans k6,by rw[EI lt _ _ k' _ _ (by omega),eH]; exact hs4,hm4⟩
  ·have hk0:k=0:=by
    have:¬ (k:Int) - 1 ≥ 0:=of_decide_eq_false hg
    omega
   subst hk0
   rw[Sort.heapPop] at hm4
   subst hm4
   exact hQ M4 h4 k4
def Rl (T:Nat) (fv:AV) (lt:aS→aS→Bool) (c:au) : Prop:=∀ {M:RM} {b a e pv:Nat} {d:Array aS} {Q:ak},At aK T b d M→d.size≤60000→a≤pv→pv<e→e≤d.size→(∀ M',At aK T b (Sort.partitionEqual lt d a e pv).2 M'→ag [b] M M'→Q (N .i64 (((Sort.partitionEqual lt d a e pv).1:Nat) : Int)) M') →
 c [sv b d.size 5,N .i64 (a:Int),N .i64 (e:Int),N .i64 (pv:Int),fv] M Q
theorem Rp {T:Nat} {fv:AV} {lt:aS→aS→Bool} {cv:FuncId→au} (hl:Ah aK lt (gq cv fv)) : Rl T fv lt fun args M Q=>∃ a0 a1 a2 a3 a4,args=[a0,a1,a2,a3,a4]∧jV cv a0 a1 a2 a3 a4 M Q:=by
 intro M b a e pv d Q hat hsz hap hpe he hQ
 refine⟨_,_,_,_,_,rfl, ?_⟩
 unfold jV
 simp only[ig,fQ,gG]
 rw[Sort.partitionEqual] at hQ
 rw[hat.rd (z:=5) rfl rfl (by omega),hat.rd (z:=5) rfl rfl (by omega)]
 refine hat.swap (z:=5) rfl rfl (by omega) (by omega) fun M2 h2 k2=>?_
 rw[add1 (by omega),dM (by omega) (by omega)]
 obtain⟨R,hR⟩ : ∃ R,R=Sort.partEqLoop lt a (a + 1) (e - 1) (Sort.swp d a pv):=⟨_,rfl⟩
 rw[← hR] at hQ
 refine aQ (fun m ys M3=>∃ (i j:Nat) (d3:Array aS),m=j + 1 - i∧ys=[N .i64 (i:Int),N .i64 (j:Int)]∧a + 1≤i∧i≤e + 1∧j<e∧At aK T b d3 M3∧ag [b] M M3∧d3.size=d.size∧R=Sort.partEqLoop lt a i j d3) _ ⟨a + 1,e - 1,_,rfl,rfl,Nat.le_refl _,by omega,by omega,h2,k2,eH _ _ _,hR⟩ ?_
 rintro next m ys M3 hnext ⟨i,j,d3,rfl,rfl,hai,hie,hje,h3,k3,hs3,hm⟩
 dsimp only[aa]
 rw[Sort.partEqLoop] at hm
 refine QN (P:=fun M'=>At aK T b d3 M'∧ag [b] M M') (p:=fun x=>!lt d3[a]! x) (d:=d3) (J:=j) ⟨h3,k3⟩ fun lD i2 M4 ⟨h4,k4⟩ h0 h1 hgo hstop=>?_
 dsimp only[aa]
 rw[sS]
 refine Dk (P:=fun M'=>At aK T b d3 M'∧ag [b] M M') (p:=!lt d3[a]! d3[i2]!) ⟨h4,k4⟩ (fun hc k hk=>?_) fun M5 h5=>?_
 ·have hc:i2≤j:=of_decide_eq_true hc
  rw[h4.rd (z:=5) rfl hs3.symm (by omega),h4.rd (z:=5) rfl hs3.symm (by omega)]
  refine hl.use fun M5 k5=>?_
  rw[aY]
  exact hk M5 ⟨h4.keep k5,k4.trans (k5.mono (cs:=[b]) (by simp))⟩
 refine aJ (fun h=>?_) (fun h=>?_)
 ·rw[add1 (by omega)]
  exact hgo h M5 h5
 have hi2:=hstop h
 rw[← hi2] at hm
 refine Iu (P:=fun M'=>At aK T b d3 M'∧ag [b] M M') (p:=fun x=>lt d3[a]! x) (d:=d3) (i:=i2) h5 (by omega) fun zK j2 M6 ⟨h6,k6⟩ q0 q1 Bc qU=>?_
 dsimp only[aa]
 rw[sS]
 refine Dk (P:=fun M'=>At aK T b d3 M'∧ag [b] M M') (p:=lt d3[a]! d3[j2]!) ⟨h6,k6⟩ (fun hc k hk=>?_) fun M7 ⟨h7,k7⟩=>?_
 ·have hc:i2≤j2:=of_decide_eq_true hc
  rw[h6.rd (z:=5) rfl hs3.symm (by omega),h6.rd (z:=5) rfl hs3.symm (by omega)]
  exact hl.use fun M5 k5=>hk M5 ⟨h6.keep k5,k6.trans (k5.mono (cs:=[b]) (by simp))⟩
 refine aJ (fun h=>?_) (fun h=>?_)
 ·have hc:i2≤j2:=by
   rw[Bool.and_eq_true] at h
   exact of_decide_eq_true h.1
  rw[dM (by omega) (by omega)]
  exact Bc h M7 ⟨h7,k7⟩
 have hj2:=qU h
 simp only[← hj2] at hm
 rw[yM]
 refine aJ (fun hg=>?_) (fun hg=>?_)
 ·rw[if_pos (of_decide_eq_true hg)] at hm
  rw[hm] at hQ
  exact hQ M7 h7 k7
 ·have hg:¬ i2 > j2:=of_decide_eq_false hg
  rw[if_neg hg,dif_pos (by omega)] at hm
  rw[h7.rd (z:=5) rfl hs3.symm (by omega),h7.rd (z:=5) rfl hs3.symm (by omega)]
  refine h7.swap (z:=5) rfl hs3.symm (by omega) (by omega) fun M8 h8 k8=>?_
  rw[add1 (by omega),dM (by omega) (by omega)]
  exact hnext _ _ _ (by omega) ⟨i2 + 1,j2 - 1,_,rfl,rfl,by omega,by omega,by omega,h8,k7.trans k8,by rw[eH,hs3],hm⟩
def ZQ (T:Nat) (fv:AV) (lt:aS→aS→Bool) (c:au) : Prop:=∀ {M:RM} {b a e pv:Nat} {d:Array aS} {Q:ak},At aK T b d M→d.size≤60000→a≤pv→pv<e→e≤d.size→(∀ M',At aK T b (Sort.partition lt d a e pv).2.2 M'→ag [b] M M'→Q (.tup [N .i64 (((Sort.partition lt d a e pv).1:Nat) : Int),Bo (Sort.partition lt d a e pv).2.1]) M') →
 c [sv b d.size 5,N .i64 (a:Int),N .i64 (e:Int),N .i64 (pv:Int),fv] M Q
theorem abF {T:Nat} {fv:AV} {lt:aS→aS→Bool} {cv:FuncId→au} (hl:Ah aK lt (gq cv fv)) : ZQ T fv lt fun args M Q=>∃ a0 a1 a2 a3 a4,args=[a0,a1,a2,a3,a4]∧mV cv a0 a1 a2 a3 a4 M Q:=by
 intro M b a e pv d Q hat hsz hap hpe he hQ
 refine⟨_,_,_,_,_,rfl, ?_⟩
 unfold mV
 simp only[ig,fQ,gG]
 have hs2:=eH d a pv
 rw[EN] at hQ
 rw[hat.rd (z:=5) rfl rfl (by omega),hat.rd (z:=5) rfl rfl (by omega)]
 refine hat.swap (z:=5) rfl rfl (by omega) (by omega) fun M2 h2 k2=>?_
 rw[add1 (by omega),dM (by omega) (by omega)]
 generalize Sort.swp d a pv=d2 at *
 refine QN (P:=fun M'=>At aK T b d2 M'∧ag [b] M M') (p:=fun x=>lt x d2[a]!) (d:=d2) (J:=e - 1) ⟨h2,k2⟩ fun lD i M3 ⟨h3,k3⟩ h0 h1 hgo hstop=>?_
 dsimp only[aa]
 rw[sS]
 refine Dk (P:=fun M'=>At aK T b d2 M'∧ag [b] M M') (p:=lt d2[i]! d2[a]!) ⟨h3,k3⟩ (fun hc k hk=>?_) fun M4 h4=>?_
 ·have hc:i≤e - 1:=of_decide_eq_true hc
  rw[h3.rd (z:=5) rfl hs2.symm (by omega),h3.rd (z:=5) rfl hs2.symm (by omega)]
  exact hl.use fun M5 k5=>hk M5 ⟨h3.keep k5,k3.trans (k5.mono (cs:=[b]) (by simp))⟩
 refine aJ (fun h=>?_) (fun h=>?_)
 ·rw[add1 (by omega)]
  exact hgo h M4 h4
 have hi2:i=pI lt d2 a e:=hstop h
 have abL:pJ lt d2 a e=Sort.scanDown (fun x=>!lt x d2[a]!) d2 (pI lt d2 a e) (e - 1):=rfl
 have abK:pL lt d2 a e=Sort.partLoop lt a (pI lt d2 a e + 1) (pJ lt d2 a e - 1) (Sort.swp d2 (pI lt d2 a e) (pJ lt d2 a e)):=rfl
 rw[← hi2] at abL abK hQ
 refine Iu (P:=fun M'=>At aK T b d2 M'∧ag [b] M M') (p:=fun x=>!lt x d2[a]!) (d:=d2) (i:=i) h4 (by omega) fun zK j M5 ⟨h5,k5⟩ q0 q1 Bc qU=>?_
 dsimp only[aa]
 rw[sS]
 refine Dk (P:=fun M'=>At aK T b d2 M'∧ag [b] M M') (p:=!lt d2[j]! d2[a]!) ⟨h5,k5⟩ (fun hc k hk=>?_) fun M6 ⟨h6,k6⟩=>?_
 ·have hc:i≤j:=of_decide_eq_true hc
  rw[h5.rd (z:=5) rfl hs2.symm (by omega),h5.rd (z:=5) rfl hs2.symm (by omega)]
  refine hl.use fun M7 k7=>?_
  rw[aY]
  exact hk M7 ⟨h5.keep k7,k5.trans (k7.mono (cs:=[b]) (by simp))⟩
 refine aJ (fun h=>?_) (fun h=>?_)
 ·have hc:i≤j:=by
   rw[Bool.and_eq_true] at h
   exact of_decide_eq_true h.1
  rw[dM (by omega) (by omega)]
  exact Bc h M6 ⟨h6,k6⟩
 have hj2:=qU h
 rw[← hj2] at abL
 rw[abL] at abK hQ
 rw[yM]
 refine aJ (fun hg=>?_) (fun hg=>?_)
 ·rw[if_pos (of_decide_eq_true hg)] at hQ
  rw[h6.rd (z:=5) rfl hs2.symm (by omega),h6.rd (z:=5) rfl hs2.symm (by omega)]
  exact h6.swap (z:=5) rfl hs2.symm (by omega) (by omega) fun M7 h7 k7=>hQ M7 h7 (k6.trans k7)
 have hg:¬ i > j:=of_decide_eq_false hg
 rw[if_neg hg] at hQ
 rw[h6.rd (z:=5) rfl hs2.symm (by omega),h6.rd (z:=5) rfl hs2.symm (by omega)]
 refine h6.swap (z:=5) rfl hs2.symm (by omega) (by omega) fun M7 h7 k7=>?_
 rw[add1 (by omega),dM (by omega) (by omega)]
 generalize pL lt d2 a e=R at *
 refine aQ (fun m ys M3=>∃ (i j:Nat) (d3:Array aS),m=j + 1 - i∧ys=[N .i64 (i:Int),N .i64 (j:Int)]∧a + 1≤i∧i≤e + 1∧j<e∧At aK T b d3 M3∧ag [b] M M3∧d3.size=d.size∧R=Sort.partLoop lt a i j d3) _ ⟨i + 1,j - 1,_,rfl,rfl,by omega,by omega,by omega,h7,k6.trans k7,by rw[eH,hs2],abK⟩ ?_
 rintro next m ys M3 hnext ⟨i,j,d3,rfl,rfl,hai,hie,hje,h3,k3,hs3,hm⟩
 dsimp only[aa]
 rw[Sort.partLoop] at hm
 refine QN (P:=fun M'=>At aK T b d3 M'∧ag [b] M M') (p:=fun x=>lt x d3[a]!) (d:=d3) (J:=j) ⟨h3,k3⟩ fun lD i2 M4 ⟨h4,k4⟩ h0 h1 hgo hstop=>?_
 dsimp only[aa]
 rw[sS]
 refine Dk (P:=fun M'=>At aK T b d3 M'∧ag [b] M M') (p:=lt d3[i2]! d3[a]!) ⟨h4,k4⟩ (fun hc k hk=>?_) fun M5 h5=>?_
 ·have hc:i2≤j:=of_decide_eq_true hc
  rw[h4.rd (z:=5) rfl hs3.symm (by omega),h4.rd (z:=5) rfl hs3.symm (by omega)]
  exact hl.use fun M5 k5=>hk M5 ⟨h4.keep k5,k4.trans (k5.mono (cs:=[b]) (by simp))⟩
 refine aJ (fun h=>?_) (fun h=>?_)
 ·rw[add1 (by omega)]
  exact hgo h M5 h5
 have hi2:=hstop h
 rw[← hi2] at hm
 refine Iu (P:=fun M'=>At aK T b d3 M'∧ag [b] M M') (p:=fun x=>!lt x d3[a]!) (d:=d3) (i:=i2) h5 (by omega) fun zK j2 M6 ⟨h6,k6⟩ q0 q1 Bc qU=>?_
 dsimp only[aa]
 rw[sS]
 refine Dk (P:=fun M'=>At aK T b d3 M'∧ag [b] M M') (p:=!lt d3[j2]! d3[a]!) ⟨h6,k6⟩ (fun hc k hk=>?_) fun M7 ⟨h7,k7⟩=>?_
 ·have hc:i2≤j2:=of_decide_eq_true hc
  rw[h6.rd (z:=5) rfl hs3.symm (by omega),h6.rd (z:=5) rfl hs3.symm (by omega)]
  refine hl.use fun M8 k8=>?_
  rw[aY]
  exact hk M8 ⟨h6.keep k8,k6.trans (k8.mono (cs:=[b]) (by simp))⟩
 refine aJ (fun h=>?_) (fun h=>?_)
 ·have hc:i2≤j2:=by
   rw[Bool.and_eq_true] at h
   exact of_decide_eq_true h.1
  rw[dM (by omega) (by omega)]
  exact Bc h M7 ⟨h7,k7⟩
 have hj2:=qU h
 simp only[← hj2] at hm
 rw[yM]
 refine aJ (fun hg=>?_) (fun hg=>?_)
 ·rw[if_pos (of_decide_eq_true hg)] at hm
  rw[hm] at hQ
  rw[h7.rd (z:=5) rfl hs3.symm (by omega),h7.rd (z:=5) rfl hs3.symm (by omega)]
  exact h7.swap (z:=5) rfl hs3.symm (by omega) (by omega) fun M8 h8 k8=>hQ M8 h8 (k7.trans k8)
 ·have hg:¬ i2 > j2:=of_decide_eq_false hg
  rw[if_neg hg,dif_pos (by omega)] at hm
  rw[h7.rd (z:=5) rfl hs3.symm (by omega),h7.rd (z:=5) rfl hs3.symm (by omega)]
  refine h7.swap (z:=5) rfl hs3.symm (by omega) (by omega) fun M8 h8 k8=>?_
  rw[add1 (by omega),dM (by omega) (by omega)]
  exact hnext _ _ _ (by omega) ⟨i2 + 1,j2 - 1,_,rfl,rfl,by omega,by omega,by omega,h8,k7.trans k8,by rw[eH,hs3],hm⟩
def O4 (T TI b s:Nat) (d:Array aS) (k:Nat) (M:RM) : Prop:=At aK T b d M∧M.heap s=some (.row [N .i64 (k:Int)] false TI 0)∧s<M.next
def Qg (T TI:Nat) (fv:AV) (lt:aS→aS→Bool) (c:au) : Prop:=∀ {M:RM} {b s k i j:Nat} {d:Array aS} {Q:ak},O4 T TI b s d k M→s≠b→i<d.size→j<d.size→k≤1000 →
 (∀ M',O4 T TI b s d (Sort.order2 lt d i j k).2.2 M'→ag [s] M M'→Q (.tup [N .i64 (((Sort.order2 lt d i j k).1:Nat) : Int),N .i64 (((Sort.order2 lt d i j k).2.1:Nat) : Int)]) M')→c [sv b d.size 5,N .i64 (i:Int),N .i64 (j:Int),.ptr s 0,fv] M Q
theorem QW {T TI:Nat} {fv:AV} {lt:aS→aS→Bool} {cv:FuncId→au} (hl:Ah aK lt (gq cv fv)) : Qg T TI fv lt fun args M Q=>∃ a0 a1 a2 a3 a4,args=[a0,a1,a2,a3,a4]∧oP cv a0 a1 a2 a3 a4 M Q:=by
 intro M b s k i j d Q ⟨hat,hh,hlt⟩ hsb hi hj hk hQ
 refine⟨_,_,_,_,_,rfl, ?_⟩
 unfold oP
 rw[hat.rd (z:=5) rfl rfl (by omega),hat.rd (z:=5) rfl rfl (by omega)]
 refine hl.use fun M1 k1=>?_
 have h1:=hat.keep k1
 have hh1:=k1.aD hh hlt (by simp)
 have n1:=k1.next
 unfold Sort.order2 at hQ
 refine aJ (fun h=>?_) (fun h=>?_)
 ·rw[if_pos h] at hQ
  rw[aI,aj hh1 rfl,add1 (by omega),aI,gV hh1 (by simp) rfl rfl]
  have kk:ag [s] M1 (M1.put s (.row ([N .i64 (k:Int)].set 0 (N .i64 ((k + 1:Nat) : Int))) false TI 0)):=(ag.refl _ _).put _ (.inr (by simp))
  refine hQ _ ⟨h1.keep' kk (by simp; omega),aN _,by rw[jk]; omega⟩ ((k1.mono (by simp)).trans kk)
 ·rw[if_neg (by rw[h]; decide)] at hQ
  exact hQ M1 ⟨h1,hh1,by omega⟩ (k1.mono (by simp))
def Kt (T TI:Nat) (fv:AV) (lt:aS→aS→Bool) (c:au) : Prop:=∀ {M:RM} {b s k i j h:Nat} {d:Array aS} {Q:ak},O4 T TI b s d k M→s≠b→i<d.size→j<d.size→h<d.size→k≤900 →
 (∀ M',O4 T TI b s d (Sort.median lt d i j h k).2 M'→ag [s] M M'→Q (N .i64 (((Sort.median lt d i j h k).1:Nat) : Int)) M')→c [sv b d.size 5,N .i64 (i:Int),N .i64 (j:Int),N .i64 (h:Int),.ptr s 0,fv] M Q
theorem Kc {T TI:Nat} {fv:AV} {lt:aS→aS→Bool} {c2:au} (h2:Qg T TI fv lt c2) : Kt T TI fv lt fun args M Q=>∃ a0 a1 a2 a3 a4 a5,args=[a0,a1,a2,a3,a4,a5]∧pg c2 a0 a1 a2 a3 a4 a5 M Q:=by
 intro M b s k i j h d Q hsw hsb hi hj hh hk hQ
 refine⟨_,_,_,_,_,_,rfl, ?_⟩
 unfold pg
 unfold Sort.median at hQ
 have o1:=zX lt d i j k
 refine h2 hsw hsb hi hj (by omega) fun M1 s1 k1=>?_
 rw[eD,eF]
 dsimp only at hQ
 generalize Sort.order2 lt d i j k=r1 at *
 have o2:=zX lt d r1.2.1 h r1.2.2
 refine h2 s1 hsb (by omega) hh (by omega) fun M2 s2 k2=>?_
 rw[eD,eF]
 generalize Sort.order2 lt d r1.2.1 h r1.2.2=r2 at *
 refine h2 s2 hsb (by omega) (by omega) (by omega) fun M3 s3 k3=>?_
 rw[eD,eF]
 exact hQ M3 s3 ((k1.trans k2).trans k3)
def Ql (T TI:Nat) (fv:AV) (lt:aS→aS→Bool) (c:au) : Prop:=∀ {M:RM} {b s k i:Nat} {d:Array aS} {Q:ak},O4 T TI b s d k M→s≠b→d.size≤60000→1≤i→i + 1<d.size→k≤900 →
 (∀ M',O4 T TI b s d (Sort.medianAdjacent lt d i k).2 M'→ag [s] M M'→Q (N .i64 (((Sort.medianAdjacent lt d i k).1:Nat) : Int)) M')→c [sv b d.size 5,N .i64 (i:Int),.ptr s 0,fv] M Q
theorem QJ {T TI:Nat} {fv:AV} {lt:aS→aS→Bool} {cm:au} (hm:Kt T TI fv lt cm) : Ql T TI fv lt fun args M Q=>∃ a0 a1 a2 a3,args=[a0,a1,a2,a3]∧jT cm a0 a1 a2 a3 M Q:=by
 intro M b s k i d Q hsw hsb hsz h1 h2 hk hQ
 refine⟨_,_,_,_,rfl, ?_⟩
 unfold jT
 rw[dM (by omega) (by omega),add1 (by omega)]
 exact hm hsw hsb (by omega) (by omega) (by omega) hk fun M1 s1 k1=>hQ M1 s1 k1
def Gd (lt:aS→aS→Bool) (d:Array aS) (a e:Nat) : Nat × Nat :=
 if e - a ≥ 8 then(if e - a ≥ 50 then Sort.median lt d (Sort.medianAdjacent lt d (a + (e - a) / 4 * 1) 0).1 (Sort.medianAdjacent lt d (a + (e - a) / 4 * 2) (Sort.medianAdjacent lt d (a + (e - a) / 4 * 1) 0).2).1 (Sort.medianAdjacent lt d (a + (e - a) / 4 * 3) (Sort.medianAdjacent lt d (a + (e - a) / 4 * 2) (Sort.medianAdjacent lt d (a + (e - a) / 4 * 1) 0).2).2).1 (Sort.medianAdjacent lt d (a + (e - a) / 4 * 3) (Sort.medianAdjacent lt d (a + (e - a) / 4 * 2) (Sort.medianAdjacent lt d (a + (e - a) / 4 * 1) 0).2).2).2
  else Sort.median lt d (a + (e - a) / 4 * 1) (a + (e - a) / 4 * 2) (a + (e - a) / 4 * 3) 0) else(a + (e - a) / 4 * 2,0)
theorem aeB (lt:aS→aS→Bool) (d:Array aS) (a e:Nat) : Sort.choosePivot lt d a e=((Gd lt d a e).1,if (Gd lt d a e).2=0 then .increasing else if (Gd lt d a e).2=12 then .decreasing else .unknown):=rfl
def PV (T:Nat) (fv:AV) (lt:aS→aS→Bool) (c:au) : Prop:=∀ {M:RM} {b a e:Nat} {d:Array aS} {Q:ak},At aK T b d M→d.size≤60000→a<e→e≤d.size →
 (∀ M',At aK T b d M'→ag [] M M'→Q (.tup [N .i64 (((Sort.choosePivot lt d a e).1:Nat) : Int),N .i64 (tZ (Sort.choosePivot lt d a e).2)]) M')→c [sv b d.size 5,N .i64 (a:Int),N .i64 (e:Int),fv] M Q
theorem Q8 {T TI:Nat} {fv:AV} {lt:aS→aS→Bool} {ca cm:au} (ha:Ql T TI fv lt ca) (hm:Kt T TI fv lt cm) : PV T fv lt fun args M Q=>∃ a0 a1 a2 a3,args=[a0,a1,a2,a3]∧lH TI ca cm a0 a1 a2 a3 M Q:=by
 intro M b a e d Q hat hsz hae he hQ
 refine⟨_,_,_,_,rfl, ?_⟩
 unfold lH
 simp only[fo]
 rw[iJ (by omega) (by omega),bn]
 have kk:ag [] M (M.push (.row [N .i64 0] false TI 0)):=(ag.refl _ _).push _
 have sw0:O4 T TI b M.next d 0 (M.push (.row [N .i64 0] false TI 0)):=⟨hat.keep kk,RM.aT _,by simp[RM.push]⟩
 have hsb:M.next≠b:=by have:=hat.lt; omega
 have back:∀ M',ag [M.next] (M.push (.row [N .i64 0] false TI 0)) M'→ag [] M M':=fun M' k=>kk.bG k fun c hc=>.inl (by simp at hc; omega)
 generalize M.push (.row [N .i64 0] false TI 0)=M1 at *
 generalize M.next=s at *
 have hq:∀ (k:Nat) (c:Int),c=(k:Int)→k≤3→∀ (K:AV→Prop),(ae .quo (N .i64 ((e - a:Nat) : Int)) (N .i64 4) fun t18=>ae .mul t18 (N .i64 c) fun t19=>ae .add (N .i64 (a:Int)) t19 K)=K (N .i64 ((a + (e - a) / 4 * k:Nat) : Int)):=fun k c hc hk K=>by
  subst hc
  have hb:(e - a) / 4 * k≤(e - a) * 3:=Nat.mul_le_mul (Nat.div_le_self _ _) hk
  rw[ql,show(4:Int)=((4:Nat) : Int) from rfl,uV,bB (by omega) (by omega),uE,← Int.natCast_mul,bB (by omega) (by omega),addN (by omega)]
  exact propext ⟨fun h=>h.2,fun h=>⟨by decide,h⟩⟩
 rw[hq 1 1 rfl (by omega),hq 2 2 rfl (by omega),hq 3 3 rfl (by omega)]
 rw[aeB] at hQ
 have hr:Gd lt d a e=Gd lt d a e:=rfl
 conv at hr=>rhs; unfold Gd
 generalize Gd lt d a e=r at *
 refine di (fun zs M'=>zs=[N .i64 ((r.1:Nat) : Int)]∧O4 T TI b s d r.2 M'∧ag [s] M1 M') ?_ ?_
 ·rintro zs M' ⟨rfl,⟨h3,hh,_⟩,k3⟩
  dsimp only[aa]
  have:=hQ M' h3 (back M' k3)
  rw[aj hh rfl,bT]
  by_cases h0:r.2=0
  ·rw[show((r.2:Int) == 0)=true by rw[h0]; rfl,cO]
   rw[if_pos h0] at this
   exact this
  ·rw[show((r.2:Int) == 0)=false by rw[beq_eq_false_iff_ne]; omega,bJ,bT]
   rw[if_neg h0] at this
   by_cases h12:r.2=12
   ·rw[show((r.2:Int) == 12)=true by rw[h12]; rfl,cO]
    rw[if_pos h12] at this
    exact this
   ·rw[show((r.2:Int) == 12)=false by rw[beq_eq_false_iff_ne]; omega,bJ]
    rw[if_neg h12] at this
    exact this
 intro J hJ
 rw[show(8:Int)=((8:Nat) : Int) from rfl,oV]
 refine aJ (fun h8=>?_) (fun h8=>?_)
 ·have h8:e - a ≥ 8:=of_decide_eq_true h8
  rw[if_pos h8] at hr
  refine di (fun zs M'=>∃ x y z k:Nat,zs=[N .i64 (x:Int),N .i64 (y:Int),N .i64 (z:Int)]∧O4 T TI b s d k M'∧ag [s] M1 M'∧x<d.size∧y<d.size∧z<d.size∧k≤900∧r=Sort.median lt d x y z k) ?_ ?_
  ·rintro zs M' ⟨x,y,z,k,rfl,s3,k3,hx,hy,hz,hk,rfl⟩
   dsimp only[aa]
   exact hm s3 hsb hx hy hz hk fun M4 s4 k4=>hJ _ _ ⟨rfl,s4,k3.trans k4⟩
  intro J0 hJ0
  rw[show(50:Int)=((50:Nat) : Int) from rfl,oV]
  refine aJ (fun h50=>?_) (fun h50=>?_)
  ·have h50:e - a ≥ 50:=of_decide_eq_true h50
   rw[if_pos h50] at hr
   have m1:=LU lt d (i:=a + (e - a) / 4 * 1 - 1) (j:=a + (e - a) / 4 * 1) (h:=a + (e - a) / 4 * 1 + 1) (k:=0) (n:=d.size) (by omega) (by omega) (by omega)
   have r1:(Sort.medianAdjacent lt d (a + (e - a) / 4 * 1) 0).1<d.size∧(Sort.medianAdjacent lt d (a + (e - a) / 4 * 1) 0).2≤0 + 3:=m1
   refine ha sw0 hsb hsz (by omega) (by omega) (by omega) fun M2 s2 k2=>?_
   generalize Sort.medianAdjacent lt d (a + (e - a) / 4 * 1) 0=q1 at *
   have m2:=LU lt d (i:=a + (e - a) / 4 * 2 - 1) (j:=a + (e - a) / 4 * 2) (h:=a + (e - a) / 4 * 2 + 1) (k:=q1.2) (n:=d.size) (by omega) (by omega) (by omega)
   have r2:(Sort.medianAdjacent lt d (a + (e - a) / 4 * 2) q1.2).1<d.size∧(Sort.medianAdjacent lt d (a + (e - a) / 4 * 2) q1.2).2≤q1.2 + 3:=m2
   refine ha s2 hsb hsz (by omega) (by omega) (by omega) fun M3 s3 k3=>?_
   generalize Sort.medianAdjacent lt d (a + (e - a) / 4 * 2) q1.2=q2 at *
   have m3:=LU lt d (i:=a + (e - a) / 4 * 3 - 1) (j:=a + (e - a) / 4 * 3) (h:=a + (e - a) / 4 * 3 + 1) (k:=q2.2) (n:=d.size) (by omega) (by omega) (by omega)
   have r3:(Sort.medianAdjacent lt d (a + (e - a) / 4 * 3) q2.2).1<d.size∧(Sort.medianAdjacent lt d (a + (e - a) / 4 * 3) q2.2).2≤q2.2 + 3:=m3
   refine ha s3 hsb hsz (by omega) (by omega) (by omega) fun M4 s4 k4=>?_
   generalize Sort.medianAdjacent lt d (a + (e - a) / 4 * 3) q2.2=q3 at *
   exact hJ0 _ _ ⟨q1.1,q2.1,q3.1,q3.2,rfl,s4,(k2.trans k3).trans k4,r1.1,r2.1,r3.1,by omega,hr⟩
  ·have h50:¬ e - a ≥ 50:=of_decide_eq_false h50
   rw[if_neg h50] at hr
   exact hJ0 _ _ ⟨_,_,_,0,rfl,sw0,ag.refl _ _,by omega,by omega,by omega,by omega,hr⟩
 ·have h8:¬ e - a ≥ 8:=of_decide_eq_false h8
  rw[if_neg h8] at hr
  subst hr
  exact hJ _ _ ⟨rfl,sw0,ag.refl _ _⟩
def LK (T:Nat) (fv:AV) (lt:aS→aS→Bool) (c:au) : Prop:=∀ {M:RM} {b a e:Nat} {d:Array aS} {Q:ak},At aK T b d M→d.size≤60000→a<e→e≤d.size→(∀ M',At aK T b (Sort.partialInsertionSort lt d a e).1 M'→ag [b] M M'→Q (Bo (Sort.partialInsertionSort lt d a e).2) M') →
 c [sv b d.size 5,N .i64 (a:Int),N .i64 (e:Int),fv] M Q
theorem Mg {T:Nat} {fv:AV} {lt:aS→aS→Bool} {cv:FuncId→au} (hl:Ah aK lt (gq cv fv)) : LK T fv lt fun args M Q=>∃ a0 a1 a2 a3,args=[a0,a1,a2,a3]∧iK cv a0 a1 a2 a3 M Q:=by
 intro M b a e d Q hat hsz hae he hQ
 refine⟨_,_,_,_,rfl, ?_⟩
 unfold iK
 simp only[ig,fQ,gG,fo]
 rw[add1 (by omega)]
 unfold Sort.partialInsertionSort at hQ
 obtain⟨R,hR⟩ : ∃ R,R=Sort.partialIns lt a e 5 (a + 1) d:=⟨_,rfl⟩
 rw[← hR] at hQ
 refine aQ (fun m ys M3=>∃ (i s:Nat) (d3:Array aS),m=s∧s≤5∧ys=[N .i64 (i:Int),N .i64 ((5 - s:Nat) : Int)]∧a + 1≤i∧i≤e∧At aK T b d3 M3∧ag [b] M M3∧d3.size=d.size∧R=Sort.partialIns lt a e s i d3) _ ⟨a + 1,5,d,rfl,by omega,rfl,by omega,by omega,hat,ag.refl _ _,rfl,hR⟩ ?_
 rintro next m ys M3 hnext ⟨i,s,d3,hms,hs5,rfl,hai,hie,h3,k3,hs3,hm⟩
 dsimp only[aa]
 rw[show(5:Int)=((5:Nat) : Int) from rfl,iD]
 refine aJ (fun hg=>?_) (fun hg=>?_)
 ·have hg:5 - s<5:=of_decide_eq_true hg
  obtain⟨s',rfl⟩ : ∃ s',s=s' + 1:=⟨s - 1,by omega⟩
  rw[Cm] at hm
  refine di (fun zs M'=>∃ (i' : Nat) (d4:Array aS),zs=[N .i64 (i' : Int)]∧a + 1≤i'∧i'≤e∧At aK T b d4 M'∧ag [b] M M'∧d4.size=d.size∧R=Sort.partialIns lt a e s' i' d4) ?_ ?_
  ·rintro zs M' ⟨i',d4,rfl,h1,h2,h4,k4,h5,h6⟩
   dsimp only[aa]
   rw[add1 (by omega)]
   exact hnext _ _ _ (by omega) ⟨i',s',d4,rfl,by omega,by congr 4; omega,h1,h2,h4,k4,h5,h6⟩
  intro J hJ
  obtain⟨R5,hR5⟩ : ∃ R5,R5=Sort.scanSorted lt d3 e i:=⟨_,rfl⟩
  rw[← hR5] at hm
  refine aQ (fun m ys M5=>∃ (j:Nat),m=e - j∧ys=[N .i64 (j:Int)]∧i≤j∧j≤e∧At aK T b d3 M5∧ag [b] M M5∧R5=Sort.scanSorted lt d3 e j) _ ⟨i,rfl,rfl,Nat.le_refl _,hie,h3,k3,hR5⟩ ?_
  rintro lD m ys M5 fI ⟨j,rfl,rfl,hij,hje,h5,k5,hm5⟩
  dsimp only[aa]
  rw[Sort.scanSorted] at hm5
  rw[iD]
  refine Dk (P:=fun M'=>At aK T b d3 M'∧ag [b] M M') (p:=!lt d3[j]! d3[j - 1]!) ⟨h5,k5⟩ (fun hc k hk=>?_) fun M6 ⟨h6,k6⟩=>?_
  ·have hc:j<e:=of_decide_eq_true hc
   rw[h5.rd (z:=5) rfl hs3.symm (by omega),dM (by omega) (by omega),h5.rd (z:=5) rfl hs3.symm (by omega)]
   refine hl.use fun M7 k7=>?_
   rw[aY]
   exact hk M7 ⟨h5.keep k7,k5.trans (k7.mono (cs:=[b]) (by simp))⟩
  refine aJ (fun h=>?_) (fun h=>?_)
  ·have hc:j<e:=by
    rw[Bool.and_eq_true] at h
    exact of_decide_eq_true h.1
   rw[if_pos h] at hm5
   rw[add1 (by omega)]
   exact fI _ _ _ (by omega) ⟨j + 1,rfl,rfl,by omega,by omega,h6,k6,hm5⟩
  rw[if_neg (by rw[h]; decide)] at hm5
  subst hm5
  rw[ZJ]
  refine aJ (fun Bp=>?_) (fun Bp=>?_)
  ·rw[if_pos (of_decide_eq_true Bp)] at hm
   rw[hm] at hQ
   exact hQ M6 h6 k6
  have Bp:¬ R5=e:=of_decide_eq_false Bp
  rw[if_neg Bp] at hm
  rw[iJ (by omega) (by omega),show(50:Int)=((50:Nat) : Int) from rfl,iD]
  refine aJ (fun h50=>?_) (fun h50=>?_)
  ·rw[if_pos (of_decide_eq_true h50)] at hm
   rw[hm] at hQ
   exact hQ M6 h6 k6
  rw[if_neg (of_decide_eq_false h50)] at hm
  rw[dM (by omega) (by omega),dM (by omega) (by omega),h6.rd (z:=5) rfl hs3.symm (by omega),h6.rd (z:=5) rfl hs3.symm (by omega)]
  refine h6.swap (z:=5) rfl hs3.symm (by omega) (by omega) fun M7 h7 k7'=>?_
  have k7:=k6.trans k7'
  have hs6:(Sort.swp d3 R5 (R5 - 1)).size=d.size:=by rw[eH,hs3]
  generalize Sort.swp d3 R5 (R5 - 1)=d6 at *
  refine di (fun zs M'=>zs=[]∧At aK T b (if R5 - a ≥ 2 then Sort.shiftDown lt (R5 - 1) d6 else d6) M'∧ag [b] M M') ?_ ?_
  ·rintro zs M8 ⟨rfl,h8,k8⟩
   have hs7:(if R5 - a ≥ 2 then Sort.shiftDown lt (R5 - 1) d6 else d6).size=d.size:=by
    split
    ·rw[DK,hs6]
    ·exact hs6
   generalize (if R5 - a ≥ 2 then Sort.shiftDown lt (R5 - 1) d6 else d6)=d7 at *
   rw[iJ (by omega) (by omega),show(2:Int)=((2:Nat) : Int) from rfl,oV]
   refine aJ (fun h2=>?_) (fun h2=>?_)
   ·rw[if_pos (of_decide_eq_true h2)] at hm
    rw[add1 (by omega)]
    obtain⟨R8,hR8⟩ : ∃ R8,R8=Sort.shiftUp lt e (R5 + 1) d7:=⟨_,rfl⟩
    rw[← hR8] at hm
    refine aQ (fun m ys M8=>∃ (j:Nat) (d8:Array aS),m=e - j∧ys=[N .i64 (j:Int)]∧R5 + 1≤j∧j≤e∧At aK T b d8 M8∧ag [b] M M8∧d8.size=d.size∧R8=Sort.shiftUp lt e j d8) _ ⟨R5 + 1,d7,rfl,rfl,Nat.le_refl _,by omega,h8,k8,hs7,hR8⟩ ?_
    rintro zK m ys M9 AP ⟨j,d8,rfl,rfl,hj1,hj2,h9,k9,jg,hm8⟩
    dsimp only[aa]
    rw[Sort.shiftUp] at hm8
    rw[iD]
    refine aJ (fun hl1=>?_) (fun hl1=>?_)
    ·have hl1:j<e:=of_decide_eq_true hl1
     rw[if_pos hl1] at hm8
     rw[h9.rd (z:=5) rfl jg.symm (by omega),dM (by omega) (by omega),h9.rd (z:=5) rfl jg.symm (by omega)]
     refine hl.use fun M10 Ja=>?_
     have h10:=h9.keep Ja
     have k10:=k9.trans (Ja.mono (cs:=[b]) (by simp))
     rw[aY]
     refine aJ (fun hn=>?_) (fun hn=>?_)
     ·rw[if_pos hn] at hm8
      subst hm8
      exact hJ _ _ ⟨R5,R8,rfl,by omega,by omega,h10,k10,jg,hm⟩
     ·rw[if_neg (by rw[hn]; decide)] at hm8
      rw[dM (by omega) (by omega),dM (by omega) (by omega),h10.rd (z:=5) rfl jg.symm (by omega),h10.rd (z:=5) rfl jg.symm (by omega)]
      refine h10.swap (z:=5) rfl jg.symm (by omega) (by omega) fun M11 h11 k11=>?_
      rw[add1 (by omega)]
      exact AP _ _ _ (by omega) ⟨j + 1,_,rfl,rfl,by omega,by omega,h11,k10.trans k11,by rw[eH,jg],hm8⟩
    ·rw[if_neg (of_decide_eq_false hl1)] at hm8
     subst hm8
     exact hJ _ _ ⟨R5,R8,rfl,by omega,by omega,h9,k9,jg,hm⟩
   ·rw[if_neg (of_decide_eq_false h2)] at hm
    exact hJ _ _ ⟨R5,d7,rfl,by omega,by omega,h8,k8,hs7,hm⟩
  intro J2 hJ2
  rw[iJ (by omega) (by omega),show(2:Int)=((2:Nat) : Int) from rfl,oV]
  refine aJ (fun h2=>?_) (fun h2=>?_)
  ·rw[if_pos (of_decide_eq_true h2)] at hJ2
   rw[dM (by omega) (by omega)]
   obtain⟨R8,hR8⟩ : ∃ R8,R8=Sort.shiftDown lt (R5 - 1) d6:=⟨_,rfl⟩
   rw[← hR8] at hJ2
   refine aQ (fun m ys M8=>∃ (j:Nat) (d8:Array aS),m=j + 1∧ys=[N .i64 (j:Int)]∧j<R5∧At aK T b d8 M8∧ag [b] M M8∧d8.size=d.size∧R8=Sort.shiftDown lt j d8) _ ⟨R5 - 1,d6,rfl,rfl,by omega,h7,k7,hs6,hR8⟩ ?_
   rintro zK m ys M8 AP ⟨j,d8,rfl,rfl,hj1,h8,k8,jg,hm8⟩
   dsimp only[aa]
   rw[show(1:Int)=((1:Nat) : Int) from rfl,oV]
   refine aJ (fun hl1=>?_) (fun hl1=>?_)
   ·have hl1:j ≥ 1:=of_decide_eq_true hl1
    obtain⟨j',rfl⟩ : ∃ j',j=j' + 1:=⟨j - 1,by omega⟩
    rw[Sort.shiftDown] at hm8
    rw[h8.rd (z:=5) rfl jg.symm (by omega),iJ (by omega) (by omega),Nat.add_sub_cancel,h8.rd (z:=5) rfl jg.symm (by omega)]
    refine hl.use fun M10 Ja=>?_
    have h10:=h8.keep Ja
    have k10:=k8.trans (Ja.mono (cs:=[b]) (by simp))
    rw[aY]
    refine aJ (fun hn=>?_) (fun hn=>?_)
    ·rw[if_pos hn] at hm8
     subst hm8
     exact hJ2 _ _ ⟨rfl,h10,k10⟩
    ·rw[if_neg (by rw[hn]; decide)] at hm8
     rw[iJ (by omega) (by omega),iJ (by omega) (by omega),Nat.add_sub_cancel,h10.rd (z:=5) rfl jg.symm (by omega),h10.rd (z:=5) rfl jg.symm (by omega)]
     refine h10.swap (z:=5) rfl jg.symm (by omega) (by omega) fun M11 h11 k11=>?_
     rw[iJ (by omega) (by omega),Nat.add_sub_cancel]
     exact AP _ _ _ (by omega) ⟨j',_,rfl,rfl,by omega,h11,k10.trans k11,by rw[eH,jg],hm8⟩
   ·have hl1:¬ j ≥ 1:=of_decide_eq_false hl1
    have h0:j=0:=by omega
    subst h0
    rw[Sort.shiftDown] at hm8
    subst hm8
    exact hJ2 _ _ ⟨rfl,h8,k8⟩
  ·rw[if_neg (of_decide_eq_false h2)] at hJ2
   exact hJ2 _ _ ⟨rfl,h7,k7⟩
 ·have hg:¬ 5 - s<5:=of_decide_eq_false hg
  have h0:s=0:=by omega
  subst h0
  rw[Sort.partialIns] at hm
  rw[hm] at hQ
  exact hQ M3 h3 k3
theorem VK {T TX:Nat} {fv:AV} {cp cx:au} (hp:abw cp) (hx:ahm TX cx) : SortG aK T 5 fv Sort.breakPatterns (fun _ _ _=>True) fun args M Q=>∃ a0 a1 a2 a3,args=[a0,a1,a2,a3]∧j6 TX cp cx a0 a1 a2 a3 M Q:=by
 intro M b a e d Q hat hsz hae he _ hQ
 refine⟨_,_,_,_,rfl, ?_⟩
 unfold j6
 simp only[fo]
 rw[iJ hae (by omega),show(8:Int)=((8:Nat) : Int) from rfl,oV]
 unfold Sort.breakPatterns at hQ
 refine aJ (fun h8=>?_) (fun h8=>?_)
 ·have h8:e - a ≥ 8:=of_decide_eq_true h8
  rw[if_pos h8] at hQ
  have hbl:=EH (x:=e - a) (by omega) (by omega)
  rw[dY,dw (by omega) (by omega),bn]
  have kk:ag [] M (M.push (.row [(N .u64 0)] false TX 0)):=(ag.refl _ _).push _
  have hsb:M.next≠b:=by have:=hat.lt; omega
  have hh0:(M.push (.row [(N .u64 0)] false TX 0)).heap M.next=some (.row [N .u64 0] false TX 0):=RM.aT _
  have afa:(UInt64.ofNat (e - a)).toNat=e - a:=by rw[UInt64.toNat_ofNat']; omega
  have hn0:M.next<(M.push (.row [(N .u64 0)] false TX 0)).next:=by simp[RM.push]
  rw[gV hh0 (by simp) rfl rfl]
  have kS:ag [] M ((M.push (.row [(N .u64 0)] false TX 0)).put M.next (.row (([N .u64 0] : List AV).set 0 (N .u64 ((e - a:Nat) : Int))) false TX 0)):=kk.new _ (Nat.le_refl _)
  have hs1:((M.push (.row [(N .u64 0)] false TX 0)).put M.next (.row (([N .u64 0] : List AV).set 0 (N .u64 ((e - a:Nat) : Int))) false TX 0)).heap M.next=some (.row [N .u64 ((UInt64.ofNat (e - a)).toNat:Int)] false TX 0):=by
   rw[aN,afa]; rfl
  have hn1:M.next<((M.push (.row [(N .u64 0)] false TX 0)).put M.next (.row (([N .u64 0] : List AV).set 0 (N .u64 ((e - a:Nat) : Int))) false TX 0)).next:=hn0
  generalize (M.push (.row [(N .u64 0)] false TX 0)).put M.next (.row (([N .u64 0] : List AV).set 0 (N .u64 ((e - a:Nat) : Int))) false TX 0)=M1 at *
  have awv:=hat.keep kS
  have back:∀ M',ag [b,M.next] M1 M'→ag [b] M M':=fun M' k=>(kS.mono (cs:=[b]) (by simp)).bG k fun c hc=>by simp at hc; rcases hc with h | h <;> simp[h]
  generalize M.next=s at *
  refine hp (by omega) (by omega) ?_
  have hq:∀ (c:Int),c=((2:Nat) : Int)→∀ (K:AV→Prop),(ae .quo (N .i64 ((e - a:Nat) : Int)) (N .i64 4) fun t18=>ae .mul t18 (N .i64 c) fun t19=>ae .add (N .i64 (a:Int)) t19 K)=K (N .i64 ((a + (e - a) / 4 * 2:Nat) : Int)):=fun c hc K=>by
   subst hc
   rw[ql,show(4:Int)=((4:Nat) : Int) from rfl,uV,bB (by omega) (by omega),uE,← Int.natCast_mul,bB (by omega) (by omega),addN (by omega)]
   exact propext ⟨fun h=>h.2,fun h=>⟨by decide,h⟩⟩
  rw[hq 2 rfl,dM (by omega) (by omega)]
  have afd:(Sort.breakStep a (e - a) (1 <<< Sort.bitsLen (e - a)) (Sort.breakStep a (e - a) (1 <<< Sort.bitsLen (e - a)) (Sort.breakStep a (e - a) (1 <<< Sort.bitsLen (e - a)) (UInt64.ofNat (e - a),d) (a + (e - a) / 4 * 2 - 1)) (a + (e - a) / 4 * 2 - 1 + 1)) (a + (e - a) / 4 * 2 - 1 + 2)).2=(G5 a (e - a) (2 ^ Sort.bitsLen (e - a)) (a + (e - a) / 4 * 2 - 1) d 3).2:=by
   rw[Nat.shiftLeft_eq,Nat.one_mul]; rfl
  have hQ:∀ M',At aK T b (G5 a (e - a) (2 ^ Sort.bitsLen (e - a)) (a + (e - a) / 4 * 2 - 1) d 3).2 M'→ag [b] M M'→Q (.tup []) M':=fun M' h k=>hQ M' (by rw[afd]; exact h) k
  generalize hmd:2 ^ Sort.bitsLen (e - a)=md at *
  generalize hi0:a + (e - a) / 4 * 2 - 1=i0 at *
  refine aQ (fun m ys M3=>∃ (k:Nat),m=3 - k∧k≤3∧ys=[N .i64 ((i0 + k:Nat) : Int)]∧At aK T b (G5 a (e - a) md i0 d k).2 M3∧M3.heap s=some (.row [N .u64 ((G5 a (e - a) md i0 d k).1.toNat:Int)] false TX 0)∧s<M3.next∧ag [b,s] M1 M3) _ ⟨0,rfl,by omega,rfl,awv,hs1,hn1,ag.refl _ _⟩ ?_
  rintro next m ys M3 hnext ⟨k,rfl,hk,rfl,h3,hh3,hn3,k3⟩
  dsimp only[aa]
  have hsk:=ady a (e - a) md i0 d k
  have agF:G5 a (e - a) md i0 d (k + 1)=Sort.breakStep a (e - a) md (G5 a (e - a) md i0 d k) (i0 + k):=rfl
  generalize agk:G5 a (e - a) md i0 d k=st at *
  rw[hq 2 rfl,add1 (by omega),sS]
  refine aJ (fun hg=>?_) (fun hg=>?_)
  ·have hg:i0 + k≤a + (e - a) / 4 * 2 + 1:=of_decide_eq_true hg
   refine di (fun zs M'=>At aK T b (G5 a (e - a) md i0 d (k + 1)).2 M'∧M'.heap s=some (.row [N .u64 ((G5 a (e - a) md i0 d (k + 1)).1.toNat:Int)] false TX 0)∧s<M'.next∧ag [b,s] M1 M') ?_ ?_
   ·rintro zs M' ⟨c1,c2,c3,c4⟩
    rw[add1 (by omega)]
    exact hnext _ _ _ (by omega) ⟨k + 1,rfl,by omega,rfl,c1,c2,c3,c4⟩
   intro J hJ
   refine hx hh3 hn3 fun M4 hh4 k4 n4=>?_
   have h4:=h3.keep' k4 (by simp; omega)
   rw[agF] at hJ
   unfold Sort.breakStep at hJ
   dsimp only at hJ
   generalize Sort.xorNext st.1=r at *
   rw[jG,dw (by omega) (by omega),show(md:Int) - 1=((md - 1:Nat) : Int) by omega,E8,Mw rfl]
   have hlt:r.toNat &&& (md - 1)<md:=by
    rw[← hmd,Nat.and_two_pow_sub_one_eq_mod]
    exact Nat.mod_lt _ (by rw[hmd]; omega)
   rw[Nat.mod_eq_of_lt (show r.toNat &&& (md - 1)<2 ^ qI .u64 by show _<2 ^ 64; omega)]
   generalize r.toNat &&& (md - 1)=o at *
   rw[dY,bB (by omega) (by omega)]
   refine di (fun zs M'=>zs=[N .i64 (((if o ≥ e - a then o - (e - a) else o) : Nat) : Int)]∧M'=M4) ?_ ?_
   ·rintro zs M' ⟨rfl,rfl⟩
    dsimp only[aa]
    have ho:(if o ≥ e - a then o - (e - a) else o)<e - a:=by split <;> omega
    generalize (if o ≥ e - a then o - (e - a) else o)=o2 at *
    rw[addN (by omega),addN (by omega),h4.rd (z:=5) rfl hsk.symm (by omega),h4.rd (z:=5) rfl hsk.symm (by omega)]
    refine h4.swap (z:=5) rfl hsk.symm (by omega) (by omega) fun M5 h5 k5=>?_
    exact hJ _ _ ⟨h5,k5.aD hh4 (by omega) (by simp; omega),by have:=k5.next; omega,(k3.trans (k4.mono (cs:=[b,s]) (by simp))).trans (k5.mono (cs:=[b,s]) (by simp))⟩
   intro J4 hJ4
   rw[oV]
   refine aJ (fun hg2=>?_) (fun hg2=>?_)
   ·have hg2:o ≥ e - a:=of_decide_eq_true hg2
    rw[iJ (by omega) (by omega)]
    exact hJ4 _ _ ⟨by rw[if_pos hg2],rfl⟩
   ·exact hJ4 _ _ ⟨by rw[if_neg (of_decide_eq_false hg2)],rfl⟩
  ·have hg:¬ i0 + k≤a + (e - a) / 4 * 2 + 1:=of_decide_eq_false hg
   have hk3:k=3:=by omega
   subst hk3
   rw[agk] at hQ
   exact hQ M3 h3 (back M3 k3)
 ·rw[if_neg (of_decide_eq_false h8)] at hQ
  exact hQ M hat (ag.refl _ _)
def aaY (T m:Nat) (fv:AV) (lt:aS→aS→Bool) (c:au) : Prop:=∀ {M:RM} {b a e limit:Nat} {d:Array aS} {Q:ak},At aK T b d M→d.size≤60000→a≤e→e≤d.size→e - a<m→limit≤1000000→(∀ M',At aK T b (Sort.pdq lt d a e limit true true) M'→ag [b] M M'→Q (.tup []) M') →
 c [sv b d.size 5,N .i64 (a:Int),N .i64 (e:Int),N .i64 (limit:Int),fv] M Q
theorem aa8 {T m:Nat} {fv:AV} {lt:aS→aS→Bool} {cv:FuncId→au} {ci ch cb cc cr cp ce ct cq:au} (hlt:Sort.SWO lt) (hi:SortG aK T 5 fv (Sort.insertionSort lt) (fun _ _ _=>True) ci) (hh:SortG aK T 5 fv (Sort.heapSort lt) (fun _ a e=>a<e) ch) (hb:SortG aK T 5 fv Sort.breakPatterns (fun _ _ _=>True) cb) (hc:PV T fv lt cc) (hr:SortG aK T 5 fv Sort.reverseRange (fun _ a e=>a<e) cr)
  (hp:LK T fv lt cp) (hl:Ah aK lt (gq cv fv)) (he:Rl T fv lt ce) (ht:ZQ T fv lt ct) (hq:aaY T m fv lt cq) : aaY T (m + 1) fv lt fun args M Q=>∃ a0 a1 a2 a3 a4,args=[a0,a1,a2,a3,a4]∧iW ci ch cb cc cr cp cv ce ct cq a0 a1 a2 a3 a4 M Q:=by
 intro M b a e limit d Q hat hsz hae hed hm hlim hQ
 refine⟨_,_,_,_,_,rfl, ?_⟩
 unfold iW
 simp only[ig,fQ,gG,fo]
 obtain⟨R,hR⟩ : ∃ R,R=Sort.pdq lt d a e limit true true:=⟨_,rfl⟩
 rw[← hR] at hQ
 refine aQ (fun m' ys M3=>∃ (a e limit:Nat) (wb wp:Bool) (d3:Array aS),m'=e - a∧ys=[N .i64 (a:Int),N .i64 (e:Int),N .i64 (limit:Int),Bo wb,Bo wp]∧a≤e∧e≤d.size∧e - a<m + 1∧limit≤1000000∧At aK T b d3 M3∧ag [b] M M3∧d3.size=d.size∧R=Sort.pdq lt d3 a e limit wb wp) _
  ⟨a,e,limit,true,true,d,rfl,rfl,hae,hed,hm,hlim,hat,ag.refl _ _,rfl,hR⟩ ?_
 clear hR hae hed hm hlim
 rintro next m' ys M4 hnext ⟨a,e,limit,wb,wp,d3,rfl,rfl,hae,hed,hm,hlim,h4,k4,hs3,hR⟩
 dsimp only[aa]
 rw[Nb] at hR
 rw[iJ hae (by omega),show(12:Int)=((12:Nat) : Int) from rfl,sS]
 refine aJ (fun hg=>?_) (fun hg=>?_)
 ·rw[if_pos (of_decide_eq_true hg)] at hR
  rw[← hs3]
  refine hi h4 (by omega) hae (by omega) trivial fun M5 h5 k5=>?_
  rw[← hR] at h5
  exact hQ M5 h5 (k4.trans k5)
 have hg:¬ e - a≤12:=of_decide_eq_false hg
 rw[if_neg hg] at hR
 rw[show(0:Int)=((0:Nat) : Int) from rfl,ZJ]
 refine aJ (fun hg0=>?_) (fun hg0=>?_)
 ·rw[if_pos (of_decide_eq_true hg0)] at hR
  rw[← hs3]
  refine hh h4 (by omega) hae (by omega) (by omega) fun M5 h5 k5=>?_
  rw[← hR] at h5
  exact hQ M5 h5 (k4.trans k5)
 have hg0:¬ limit=0:=of_decide_eq_false hg0
 rw[if_neg hg0] at hR
 refine di (fun zs M'=>zs=[N .i64 (((if !wb then limit - 1 else limit) : Nat) : Int)]∧At aK T b (if !wb then Sort.breakPatterns d3 a e else d3) M'∧ag [b] M M') ?_ ?_
 ·rintro zs M5 ⟨rfl,h5,k5⟩
  dsimp only[aa]
  have hs5:(if !wb then Sort.breakPatterns d3 a e else d3).size=d.size:=by
   split
   ·rw[Zg,hs3]
   ·exact hs3
  have hl5:(if !wb then limit - 1 else limit)≤1000000:=by split <;> omega
  generalize (if !wb then Sort.breakPatterns d3 a e else d3)=d5 at *
  generalize (if !wb then limit - 1 else limit)=lim at *
  rw[← hs5]
  refine hc h5 (by omega) (by omega) (by omega) fun M6 h6 k6=>?_
  rw[hs5]
  have hcr:=Sort.choosePivot_holds lt d5 a e (by omega)
  unfold gA at hR
  generalize Sort.choosePivot lt d5 a e=cpv at *
  have k6':=k5.trans (k6.mono (cs:=[b]) (by simp))
  rw[eD,eF]
  refine di (fun zs M'=>zs=[N .i64 (((if cpv.2=.decreasing then(e - 1) - (cpv.1 - a) else cpv.1) : Nat) : Int),N .i64 (tZ (if cpv.2=.decreasing then .increasing else cpv.2))]∧At aK T b (if cpv.2=.decreasing then Sort.reverseRange d5 a e else d5) M'∧ag [b] M M') ?_ ?_
  ·rintro zs M7 ⟨rfl,h7,k7⟩
   dsimp only[aa]
   have hs7:(if cpv.2=.decreasing then Sort.reverseRange d5 a e else d5).size=d.size:=by
    split
    ·rw[aix,hs5]
    ·exact hs5
   have hpv:a≤(if cpv.2=.decreasing then(e - 1) - (cpv.1 - a) else cpv.1)∧(if cpv.2=.decreasing then(e - 1) - (cpv.1 - a) else cpv.1)<e:=by
    split <;> omega
   generalize (if cpv.2=.decreasing then Sort.reverseRange d5 a e else d5)=d7 at *
   generalize (if cpv.2=.decreasing then(e - 1) - (cpv.1 - a) else cpv.1)=pv at *
   generalize (if cpv.2=.decreasing then Sort.Hint.increasing else cpv.2)=hint at *
   unfold gB gP at hR
   refine di (fun zs M'=>∃ d8:Array aS,At aK T b d8 M'∧ag [b] M M'∧d8.size=d.size∧R=gC lt d8 a e pv lim wb wp) ?_ ?_
   ·rintro zs M8 ⟨d8,h8,k8,hs8,hR8⟩
    unfold gC at hR8
    rw[yM]
    refine Dk (P:=fun M'=>At aK T b d8 M'∧ag [b] M M') (p:=!lt d8[a - 1]! d8[pv]!) ⟨h8,k8⟩ (fun hc k hk=>?_) fun M9 ⟨h9,k9⟩=>?_
    ·have hc:a > 0:=of_decide_eq_true hc
     rw[dM (by omega) (by omega),h8.rd (z:=5) rfl hs8.symm (by omega),h8.rd (z:=5) rfl hs8.symm (by omega)]
     refine hl.use fun M10 k10=>?_
     rw[aY]
     exact hk M10 ⟨h8.keep k10,k8.trans (k10.mono (cs:=[b]) (by simp))⟩
    refine aJ (fun h=>?_) (fun h=>?_)
    ·rw[if_pos h] at hR8
     rw[← hs8]
     have hE:=YN lt d8 a e pv (by omega)
     refine he h9 (by omega) hpv.1 hpv.2 (by omega) fun M10 h10 k10=>?_
     generalize Sort.partitionEqual lt d8 a e pv=pe at *
     dsimp only at hR8
     rw[dif_pos ⟨hE.2.1,hE.2.2⟩] at hR8
     exact hnext _ _ _ (by omega) ⟨pe.1,e,lim,wb,wp,pe.2,rfl,rfl,hE.2.2,hed,by omega,hl5,h10,k9.trans k10,by rw[hE.1,hs8],hR8⟩
    ·rw[if_neg (by rw[h]; decide)] at hR8
     rw[← hs8]
     have hT:=Sort.partition_holds lt hlt d8 a e pv hpv.1 hpv.2 (by omega)
     have hTs:=adK lt d8 a e pv
     refine ht h9 (by omega) hpv.1 hpv.2 (by omega) fun M10 h10 k10=>?_
     have Ja:=k9.trans k10
     generalize Sort.partition lt d8 a e pv=pp at *
     obtain⟨mid,ap,d9⟩:=pp
     dsimp only at hR8 hT hTs h10 ⊢
     rw[dif_pos ⟨hT.1,hT.2.1⟩] at hR8
     have hT1:=hT.1
     have hT2:=hT.2.1
     rw[eD,eF,iJ hT1 (by omega),iJ (by omega) (by omega),ql]
     refine⟨by decide, ?_⟩
     rw[show(8:Int)=((8:Nat) : Int) from rfl,uV,bB (by omega) (by omega),iD]
     refine aJ (fun hc1=>?_) (fun hc1=>?_)
     ·have hc1:mid - a<e - mid:=of_decide_eq_true hc1
      rw[if_pos hc1] at hR8
      rw[oV,← hTs]
      refine hq h10 (by omega) hT1 (by omega) (by omega) hl5 fun M11 h11 k11=>?_
      rw[add1 (by omega)]
      exact hnext _ _ _ (by omega) ⟨mid + 1,e,lim,_,ap,_,rfl,rfl,by omega,hed,by omega,hl5,h11,Ja.trans k11,by rw[ET lt _ _ _ _ _ _ _ (Nat.le_refl _),hTs,hs8],hR8⟩
     ·have hc1:¬ mid - a<e - mid:=of_decide_eq_false hc1
      rw[if_neg hc1] at hR8
      rw[oV,add1 (by omega),← hTs]
      refine hq h10 (by omega) (by omega) (by omega) (by omega) hl5 fun M11 h11 k11=>?_
      exact hnext _ _ _ (by omega) ⟨a,mid,lim,_,ap,_,rfl,rfl,hT1,by omega,by omega,hl5,h11,Ja.trans k11,by rw[ET lt _ _ _ _ _ _ _ (Nat.le_refl _),hTs,hs8],hR8⟩
   intro J10 Xn
   have no:¬ (wb && wp && decide (hint=.increasing))=true→J10 [] M7:=fun hn=>by
    have hpi:(if (wb && wp && decide (hint=.increasing))=true then Sort.partialInsertionSort lt d7 a e else(d7,false))=(d7,false):=if_neg hn
    rw[hpi] at hR
    exact Xn _ _ ⟨d7,h7,k7,hs7,hR⟩
   cases wb with
   | false =>
     rw[bC]
     dsimp only
     rw[bK,bC]
     dsimp only
     rw[bC]
     dsimp only
     rw[bK,bJ]
     exact no (by simp)
   | true =>
     rw[bU]
     dsimp only
     rw[cK]
     cases wp with
     | false =>
       rw[bC]
       dsimp only
       rw[bC]
       dsimp only
       rw[bK,bJ]
       exact no (by simp)
     | true =>
       rw[bU]
       dsimp only
       rw[bU]
       dsimp only
       rw[bT,cK]
       by_cases hin:hint=.increasing
       ·rw[show(tZ hint == 1)=true by rw[hin]; rfl,cO]
        have hpi:(if (true && true && decide (hint=.increasing))=true then Sort.partialInsertionSort lt d7 a e else(d7,false))=Sort.partialInsertionSort lt d7 a e:=if_pos (by simp[hin])
        rw[hpi] at hR
        rw[← hs7]
        have hs8:(Sort.partialInsertionSort lt d7 a e).1.size=d.size:=by
         rw[Sort.partialInsertionSort,Jt,hs7]
        refine hp h7 (by omega) (by omega) (by omega) fun M8 h8 k8=>?_
        generalize Sort.partialInsertionSort lt d7 a e=pi at *
        refine aJ (fun h=>?_) (fun h=>?_)
        ·rw[if_pos h] at hR
         rw[← hR] at h8
         exact hQ M8 h8 (k7.trans k8)
        ·rw[if_neg (by rw[h]; decide)] at hR
         exact Xn _ _ ⟨pi.1,h8,k7.trans k8,hs8,hR⟩
       ·rw[show(tZ hint == 1)=false by cases hint <;> first | rfl | exact absurd rfl hin,bJ]
        exact no (by simp[hin])
  intro J6 hJ6
  rw[bT]
  by_cases hdec:cpv.2=.decreasing
  ·rw[show(tZ cpv.2 == 2)=true by rw[hdec]; rfl,cO,← hs5]
   refine hr h6 (by omega) hae (by omega) (by omega) fun M7 h7 k7=>?_
   rw[dM (by omega) (by omega),iJ (by omega) (by omega),iJ (by omega) (by omega)]
   exact hJ6 _ _ ⟨by rw[if_pos hdec,if_pos hdec]; rfl,by rw[if_pos hdec]; exact h7,k6'.trans k7⟩
  ·rw[show(tZ cpv.2 == 2)=false by cases h:cpv.2 <;> first | rfl | exact absurd h hdec,bJ]
   exact hJ6 _ _ ⟨by rw[if_neg hdec,if_neg hdec],by rw[if_neg hdec]; exact h6,k6'⟩
 intro J hJ
 rw[aY]
 cases wb with
 | true =>
   rw[Bool.not_true,bJ]
   exact hJ _ _ ⟨rfl,h4,k4⟩
 | false =>
   rw[Bool.not_false,cO,← hs3]
   refine hb h4 (by omega) hae (by omega) trivial fun M5 h5 k5=>?_
   rw[dM (by omega) (by omega)]
   exact hJ _ _ ⟨rfl,h5,k4.trans k5⟩
def QF (c:au) : Prop:=∀ {M:RM} {v fv:AV} {Q:ak},Q (.tup []) M→c [v,N .i64 0,N .i64 ((0:Nat) : Int),fv] M Q
theorem Qo {cv:FuncId→au} : QF fun args M Q=>∃ a0 a1 a2 a3,args=[a0,a1,a2,a3]∧fZ cv a0 a1 a2 a3 M Q:=by
 intro M v fv Q hQ
 refine⟨_,_,_,_,rfl, ?_⟩
 unfold fZ
 rw[bS,show IntKind.i64.wrap ((0:Int) + 1)=1 from rfl]
 refine aQ (fun m ys M3=>m=0∧ys=[N .i64 1]∧M3=M) 0 ⟨rfl,rfl,rfl⟩ ?_
 rintro next m ys M3 hnext ⟨rfl,rfl,rfl⟩
 dsimp only[aa]
 rw[bZ,show decide ((1:Int)<((0:Nat) : Int))=false from rfl,bJ]
 exact hQ
def Re (c:au) : Prop:=∀ {M:RM} {v fv:AV} {Q:ak},Q (.tup []) M→c [v,N .i64 0,N .i64 ((0:Nat) : Int),N .i64 ((0:Nat) : Int),fv] M Q
theorem Ri {cv:FuncId→au} {ci c2 c3 cc c4 cp c6 c7 c8:au} (hi:QF ci) : Re fun args M Q=>∃ a0 a1 a2 a3 a4,args=[a0,a1,a2,a3,a4]∧iW ci c2 c3 cc c4 cp cv c6 c7 c8 a0 a1 a2 a3 a4 M Q:=by
 intro M v fv Q hQ
 refine⟨_,_,_,_,_,rfl, ?_⟩
 unfold iW
 refine aQ (fun m ys M3=>m=0∧ys=[N .i64 0,N .i64 ((0:Nat) : Int),N .i64 ((0:Nat) : Int),Bo true,Bo true]∧M3=M) 0 ⟨rfl,rfl,rfl⟩ ?_
 rintro next m ys M3 hnext ⟨rfl,rfl,rfl⟩
 dsimp only[aa]
 rw[jG,show IntKind.i64.wrap (((0:Nat) : Int) - 0)=0 from rfl,lF,show decide ((0:Int)≤12)=true from rfl,cO]
 exact hi hQ
def rH (lt:aS→aS→Bool) (xs:List aS) : List aS:=(Sort.sort lt xs.toArray).toList
theorem acL (lt:aS→aS→Bool) : rH lt []=[]:=by
 unfold rH Sort.sort
 rw[Nb,if_pos (by simp),Sort.insertionSort,Sort.insOuter,if_neg (by simp)]
theorem su {lt:aS→aS→Bool} (hlt:Sort.SWO lt) (xs:List aS) : (rH lt xs).Perm xs:=by
 have h:=(Sort.sort_sorts lt hlt xs.toArray).1
 have h2:=h.2.2
 rw[Array.extract_eq_self_of_le (by rw[h.1]; exact Nat.le_refl _),Array.extract_eq_self_of_le (Nat.le_refl _)] at h2
 exact h2
theorem afV {lt:aS→aS→Bool} (hlt:Sort.SWO lt) (xs:List aS) : (rH lt xs).Pairwise fun x y=>lt y x=false:=by
 rw[List.pairwise_iff_getElem]
 intro i j hi hj hij
 have h:=(Sort.sort_sorts lt hlt xs.toArray)
 have hs:(Sort.sort lt xs.toArray).size=xs.toArray.size:=h.1.1
 unfold rH at hi hj ⊢
 rw[Array.length_toList] at hi hj
 have:=h.2 i j (Nat.zero_le _) hij (by omega)
 rw[QD hj,QD hi] at this
 rw[Array.getElem_toList,Array.getElem_toList]
 exact this
def QC (fv:AV) (lt:aS→aS→Bool) (T:Nat) (c:au) : Prop:=∀ {M:RM} {base:Nat} {v:AV} {xs:List aS} {Q:ak},Ow aK M base T v xs→xs.length≤60000→(∀ M',Ow aK M' base T v (rH lt xs)→ag (aG v) M M'→Q (.tup []) M')→c [v,fv] M Q
theorem aj3 {T:Nat} {fv:AV} {lt:aS→aS→Bool} {cl cp:au} (hlt:Sort.SWO lt) (hl:IL cl) (hp:∀ m,aaY T m fv lt cp) (h0:Re cp) : QC fv lt T fun args M Q=>∃ a0 a1,args=[a0,a1]∧uF cl cp a0 a1 M Q:=by
 intro M base v xs Q ho hx hQ
 have hs:Sl aK M v xs:=ho.jm
 refine⟨_,_,rfl, ?_⟩
 unfold uF
 rw[aL.len hs,dY,dw (by omega) (by omega)]
 refine hl (by omega) ?_
 rcases Nat.eq_zero_or_pos xs.length with hn | hn
 ·rw[hn,show Sort.bitsLen 0=0 from rfl]
  refine h0 ?_
  have:=List.length_eq_zero_iff.1 hn
  subst this
  exact hQ M (by rw[acL]; exact ho) (ag.refl _ _)
 ·obtain⟨b,rfl,h1,h2,h3,h4⟩:=Own.En ho hn
  have hb:=EH hn (by omega)
  have hsz:xs.toArray.size=xs.length:=by simp
  have hat:At aK T b xs.toArray M:=⟨by rw[h3],h2⟩
  have hsl:(rH lt xs).length=xs.length:=(su hlt xs).length_eq
  have:=hp (xs.length + 1) (M:=M) (b:=b) (a:=0) (e:=xs.toArray.size) (limit:=Sort.bitsLen xs.length) (d:=xs.toArray) (Q:=fun bN M_0=>Q (.tup []) M_0) hat (by omega) (by omega) (Nat.le_refl _) (by omega) (by omega) fun M' h' k'=>?_
  ·have e5:aK.size=5:=rfl
   rw[e5]
   simpa using this
  ·have e:(Sort.pdq lt xs.toArray 0 xs.toArray.size (Sort.bitsLen xs.length) true true)=Sort.sort lt xs.toArray:=by rw[Sort.sort]; simp
   rw[e] at h'
   refine hQ _ ?_ (by simpa [aG] using k')
   have hlast:Own M' base T 5 (.slc b 0 xs.length (.op 5)) (aK.row (rH lt xs)) xs.length:=.op _ _ _ h1 h'.lt h'.heap (by rw[Enc.fq,hsl]; rfl)
   show Own M' base T 5 (.slc b 0 xs.length (.op 5)) (aK.row (rH lt xs)) (rH lt xs).length
   rw[hsl]; exact hlast
def ahH (lt:Go.Ab.ay.ay→Go.Ab.ay.ay→Bool) (xs:List Go.Ab.ay.ay) : List Go.Ab.ay.ay:=(Sort.sort lt xs.toArray).toList
theorem abq {lt:Go.Ab.ay.ay→Go.Ab.ay.ay→Bool} (hlt:Sort.SWO lt) (xs:List Go.Ab.ay.ay) : (ahH lt xs).Perm xs:=by
 have h:=(Sort.sort_sorts lt hlt xs.toArray).1
 have h2:=h.2.2
 rw[Array.extract_eq_self_of_le (by rw[h.1]; exact Nat.le_refl _),Array.extract_eq_self_of_le (Nat.le_refl _)] at h2
 exact h2
end Go.Ab.Crw
namespace Go.Ab.ay
open Go Go.Ab
theorem atO {ps qs:List Pt} (h1:ps.length=16) (h2:qs.length=16) (h:∀ j,j<16→ps.getD j (0,[])=qs.getD j (0,[])) : ps=qs:=by
 refine List.ext_getElem (by omega) fun j hj hj'=>?_
 have:=h j (by omega)
 rw[List.getD_eq_getElem?_getD,List.getD_eq_getElem?_getD,List.getElem?_eq_getElem hj,List.getElem?_eq_getElem hj'] at this
 exact this
theorem Y6:∀ {xs ys:List Nat},Asc xs→Asc ys→(∀ x,x∈xs↔x∈ys)→xs=ys
 | [],[],_,_,_=>rfl
 | [],y :: ys,_,_,h=>by have:=(h y).2 (by simp); simp at this
 | x :: xs,[],_,_,h=>by have:=(h x).1 (by simp); simp at this
 | x :: xs,y :: ys,h1,h2,h=>by
   have a1:=List.pairwise_cons.1 h1
   have a2:=List.pairwise_cons.1 h2
   have hxy:x=y:=by
    rcases List.mem_cons.1 ((h x).1 (by simp)) with e | e
    ·exact e
    ·rcases List.mem_cons.1 ((h y).2 (by simp)) with e' | e'
     ·exact e'.symm
     ·have:=a2.1 x e; have:=a1.1 y e'; omega
   subst hxy
   refine congrArg (x :: ·) (Y6 a1.2 a2.2 fun z=>⟨fun hz=>?_,fun hz=>?_⟩)
   ·rcases List.mem_cons.1 ((h z).1 (by simp[hz])) with e | e
    ·subst e; have:=a1.1 z hz; omega
    ·exact e
   ·rcases List.mem_cons.1 ((h z).2 (by simp[hz])) with e | e
    ·subst e; have:=a2.1 z hz; omega
    ·exact e
theorem X5 {u:Nat} {xs:List Nat} (h:∀ y∈xs,u + 1<y) : settle u xs=(u,xs):=by
 cases xs with
 | nil=>rfl
 | cons x xs =>
   have:=h x (by simp)
   unfold settle
   rw[eT,if_neg (by omega)]; rfl
theorem getD_set_ne {u:List Pt} {i j:Nat} {p:Pt} (h:i≠j) : (u.set i p).getD j (0,[])=u.getD j (0,[]):=by
 rw[List.getD_eq_getElem?_getD,List.getD_eq_getElem?_getD,List.getElem?_set_ne h]
theorem FB (j:Nat) : ik.getD j (0,[])=(0,[]):=by
 rw[List.getD_eq_getElem?_getD]
 unfold ik
 by_cases h:j<16
 ·rw[List.getElem?_replicate,if_pos h]; rfl
 ·rw[List.getElem?_replicate,if_neg h]; rfl
theorem abk {M:RM} {b o:Nat} {x:AV} {K:AV→Prop} (h:M.cell b o=some x) : ai M (.ptr b o) K=K x:=by
 rw[gI,h]; simp
theorem and_false {c:Bool} {f:KR→Prop} {M:RM} {Z:AV→RM→Prop} (hf:c=true→∀ k:KR,k (Bo false) M none→f k) (hZ:Z (Bo false) M) :
  ah (Bo c) true f (fun k=>k .undef M none) (fun t M' b=>aH (Bo c) t (Bo false) fun t'=>Z t' M'):=by
 cases c with
 | false=>rw[gW]; dsimp only; rw[bK]; exact hZ
 | true=>rw[gY]; exact hf rfl _ (by rw[cK]; exact hZ)
end Go.Ab.ay
namespace Go.Ab.Crw
open Go Go.Ab Go.Ab.ay
theorem AA:∀ (x y:List UInt8),Op.bytesLess x y=decide (x<y)
 | [],[]=>by simp[Op.bytesLess]
 | _ :: _,[]=>by simp[Op.bytesLess]
 | [],_ :: _=>by simp[Op.bytesLess]
 | a :: x,b :: y=>by
   rw[Op.bytesLess,AA x y]
   simp only[List.cons_lt_cons_iff]
   by_cases h1:a<b <;> by_cases h2:a=b <;> by_cases h3:x<y <;> simp[h1,h2,h3]
structure LO {β:Type} (lt:β→β→Bool) : Prop where
 irrefl:∀ x,lt x x=false
 trans:∀ x y z,lt x y=true→lt y z=true→lt x z=true
 tri:∀ x y,lt x y=false→lt y x=false→x=y
def lex {α β:Type} [DecidableEq β] (k:α→β) (lt1:β→β→Bool) (lt2:α→α→Bool) (x y:α) : Bool:=lt1 (k x) (k y) || (decide (k x=k y) && lt2 x y)
theorem zR {α β:Type} [DecidableEq β] {k:α→β} {lt1:β→β→Bool} {lt2:α→α→Bool} (h1:LO lt1) (h2:Sort.SWO lt2) : Sort.SWO (lex k lt1 lt2) where
 irrefl x:=by simp[lex,h1.irrefl,h2.irrefl]
 trans x y z a b:=by
  simp only[lex,Bool.or_eq_true,Bool.and_eq_true,decide_eq_true_eq] at *
  rcases a with a | ⟨a,a'⟩ <;> rcases b with b | ⟨b,b'⟩
  ·exact .inl (h1.trans _ _ _ a b)
  ·exact .inl (by rw[← b]; exact a)
  ·exact .inl (by rw[a]; exact b)
  ·exact .inr ⟨a.trans b,h2.trans _ _ _ a' b'⟩
 ntrans x y z a b:=by
  simp only[lex,Bool.or_eq_false_iff,Bool.and_eq_false_iff,decide_eq_false_iff_not] at *
  obtain⟨a1,a2⟩:=a
  obtain⟨b1,b2⟩:=b
  have c1:lt1 (k x) (k z)=false:=by
   cases h:lt1 (k x) (k z) with
   | false=>rfl
   | true =>
     by_cases e:k x=k y
     ·rw[e,b1] at h; cases h
     ·have:lt1 (k y) (k x)=true:=by
       cases h' : lt1 (k y) (k x) with
       | true=>rfl
       | false=>exact absurd (h1.tri _ _ a1 h') e
      have:=h1.trans _ _ _ this h
      rw[b1] at this; cases this
  refine⟨c1, ?_⟩
  by_cases e:k x=k z
  ·right
   by_cases e2:k x=k y
   ·have e3:k y=k z:=e2.symm.trans e
    rcases a2 with a2 | a2
    ·exact absurd e2 a2
    ·rcases b2 with b2 | b2
     ·exact absurd e3 b2
     ·exact h2.ntrans _ _ _ a2 b2
   ·have h3:lt1 (k y) (k x)=false:=by rw[e]; exact b1
    exact absurd (h1.tri _ _ a1 h3) e2
  ·exact .inl e
theorem VE:LO (fun x y:Nat=>decide (x<y)):=⟨by simp,by simp; omega,by simp; omega⟩
theorem VY:LO (fun x y:Int=>decide (x<y)):=⟨by simp,by simp; omega,by simp; omega⟩
theorem Iq:LO (fun x y:List UInt8=>decide (x<y)) where
 irrefl x:=by simp[List.lt_irrefl]
 trans x y z h1 h2:=by simp only[decide_eq_true_eq] at *; exact List.lt_trans h1 h2
 tri x y h1 h2:=by
  simp only[decide_eq_false_iff_not,List.not_lt] at *
  exact List.le_antisymm h2 h1
theorem XK {α:Type} : Sort.SWO (fun _ _:α=>false):=⟨fun _=>rfl,(fun _ _ _ h _=>by cases h),(fun _ _ _ _ _=>rfl)⟩
def ltD:ay→ay→Bool:=lex (fun d:ay=>d.2) (fun x y:Nat=>decide (x<y)) (lex (fun d:ay=>d.1) (fun x y:Int=>decide (x<y)) fun _ _=>false)
def qR:aS→aS→Bool:=lex (fun x:aS=>x.2.1) (fun x y=>decide (x<y)) (lex (fun x:aS=>x.2.2.1) (fun x y=>decide (x<y)) (lex (fun x:aS=>x.1.2) (fun x y:Nat=>decide (x<y)) (lex (fun x:aS=>x.1.1) (fun x y:Int=>decide (x<y)) fun _ _=>false)))
theorem aj5:Sort.SWO ltD:=zR VE (zR VY XK)
theorem rT:Sort.SWO qR:=zR Iq (zR Iq (zR VE (zR VY XK)))
def c3 {β:Type} (lt:β→β→Bool) (x y:β) : Int:=if lt x y then -1 else if lt y x then 1 else 0
theorem afv {β:Type} {lt:β→β→Bool} (h:LO lt) (x y:β) : (c3 lt x y=-1∧lt x y=true∧x≠y)∨(c3 lt x y=1∧lt x y=false∧x≠y)∨(c3 lt x y=0∧lt x y=false∧x=y):=by
 unfold c3
 cases h1:lt x y with
 | true=>exact .inl ⟨rfl,rfl,fun e=>by rw[e,h.irrefl] at h1; cases h1⟩
 | false =>
   cases h2:lt y x with
   | true=>exact .inr (.inl ⟨rfl,rfl,fun e=>by rw[e,h.irrefl] at h2; cases h2⟩)
   | false=>exact .inr (.inr ⟨rfl,rfl,h.tri _ _ h1 h2⟩)
def LA (a b:Int) : Int:=if a≠0 then a else b
def Is3 {α:Type} (lt:α→α→Bool) (f:α→α→Int) : Prop:=∀ x y,decide (f x y<0)=lt x y
theorem JW {α β:Type} [DecidableEq β] {k:α→β} {lt1:β→β→Bool} {lt2:α→α→Bool} {f:α→α→Int} (h1:LO lt1) (h2:Is3 lt2 f) : Is3 (lex k lt1 lt2) (fun x y=>LA (c3 lt1 (k x) (k y)) (f x y)):=by
 intro x y
 unfold lex
 show decide (LA (c3 lt1 (k x) (k y)) (f x y)<0)=_
 unfold LA
 rcases afv h1 (k x) (k y) with⟨a,b,c⟩ | ⟨a,b,c⟩ | ⟨a,b,c⟩
 ·rw[a,b]; rfl
 ·rw[a,b,decide_eq_false c]; rfl
 ·rw[a,b,decide_eq_true c,if_neg (by simp),h2 x y]; rfl
theorem afW {α:Type} : Is3 (fun _ _:α=>false) (fun _ _=>0):=fun _ _=>rfl
def zq {α:Type} (mk:α→AV) (lt:α→α→Bool) (c:au) : Prop:=∀ {M:RM} {x y:α} {Q:ak},Q (N .i64 (c3 lt x y)) M→c [mk x,mk y] M Q
def FW {α:Type} (mk:α→AV) (c:au) : Prop:=∀ {M:RM} {x:α} {Q:ak},Q (Bo false) M→c [mk x] M Q
theorem ade:FW (α:=List UInt8) (fun s=>St s) fun args M Q=>∃ a0,args=[a0]∧xA a0 M Q:=by
 intro M x Q hQ
 refine⟨_,rfl, ?_⟩
 unfold xA
 rw[uN,show(x != x)=false by simp]
 exact hQ
theorem adm:FW (α:=Nat) (fun n=>N .u64 (n:Int)) fun args M Q=>∃ a0,args=[a0]∧ay.sw a0 M Q:=by
 intro M x Q hQ
 exact⟨_,rfl,NJ hQ⟩
theorem adi:FW (α:=Int) (fun n=>N .i64 n) fun args M Q=>∃ a0,args=[a0]∧DN a0 M Q:=by
 intro M x Q hQ
 refine⟨_,rfl, ?_⟩
 unfold DN
 rw[fM,show(x != x)=false by simp]
 exact hQ
theorem ac3 {cn:au} (hn:FW (α:=List UInt8) (fun s=>St s) cn) : zq (α:=List UInt8) (fun s=>St s) (fun x y=>decide (x<y)) fun args M Q=>∃ a0 a1,args=[a0,a1]∧uD cn a0 a1 M Q:=by
 intro M x y Q hQ
 refine⟨_,_,rfl, ?_⟩
 unfold uD
 refine hn (hn ?_)
 rw[bJ,bJ,aft,AA]
 unfold c3 at hQ
 by_cases h1:x<y
 ·rw[decide_eq_true h1,cO]
  rw[if_pos (by simpa using h1)] at hQ; exact hQ
 ·rw[decide_eq_false h1,bJ,ae9,AA,decide_eq_false h1,Bool.false_or]
  rw[if_neg (by simpa using h1)] at hQ
  by_cases h2:y<x
  ·have hne:x≠y:=fun e=>by subst e; exact List.lt_irrefl _ h2
   rw[show(x == y)=false by simpa using hne,Bool.not_false,cO]
   rw[if_pos (by simpa using h2)] at hQ; exact hQ
  ·have he:x=y:=Iq.tri x y (by simpa using h1) (by simpa using h2)
   rw[show(x == y)=true by simpa using he,Bool.not_true,bJ]
   rw[if_neg (by simpa using h2)] at hQ; exact hQ
theorem acx {cn:au} (hn:FW (α:=Nat) (fun n=>N .u64 (n:Int)) cn) : zq (α:=Nat) (fun n=>N .u64 (n:Int)) (fun x y=>decide (x<y)) fun args M Q=>∃ a0 a1,args=[a0,a1]∧uh cn a0 a1 M Q:=by
 intro M x y Q hQ
 refine⟨_,_,rfl, ?_⟩
 unfold uh
 refine hn (hn ?_)
 rw[bJ,bJ,bZ]
 unfold c3 at hQ
 by_cases h1:x<y
 ·rw[show decide ((x:Int)<(y:Int))=true by simpa using h1,cO]
  rw[if_pos (by simpa using h1)] at hQ; exact hQ
 ·rw[show decide ((x:Int)<(y:Int))=false by simpa using h1,bJ,dF]
  rw[if_neg (by simpa using h1)] at hQ
  by_cases h2:y<x
  ·rw[show decide ((x:Int) > (y:Int))=true by simpa using h2,cO]
   rw[if_pos (by simpa using h2)] at hQ; exact hQ
  ·rw[show decide ((x:Int) > (y:Int))=false by simpa using h2,bJ]
   rw[if_neg (by simpa using h2)] at hQ; exact hQ
theorem adM {cn:au} (hn:FW (α:=Int) (fun n=>N .i64 n) cn) : zq (α:=Int) (fun n=>N .i64 n) (fun x y=>decide (x<y)) fun args M Q=>∃ a0 a1,args=[a0,a1]∧yT cn a0 a1 M Q:=by
 intro M x y Q hQ
 refine⟨_,_,rfl, ?_⟩
 unfold yT
 refine hn (hn ?_)
 rw[bJ,bJ,bZ]
 unfold c3 at hQ
 by_cases h1:x<y
 ·rw[show decide (x<y)=true by simpa using h1,cO]
  rw[if_pos (by simpa using h1)] at hQ; exact hQ
 ·rw[show decide (x<y)=false by simpa using h1,bJ,dF]
  rw[if_neg (by simpa using h1)] at hQ
  by_cases h2:y<x
  ·rw[show decide (x > y)=true by simpa using h2,cO]
   rw[if_pos (by simpa using h2)] at hQ; exact hQ
  ·rw[show decide (x > y)=false by simpa using h2,bJ]
   rw[if_neg (by simpa using h2)] at hQ; exact hQ
def INT:Enc Int:=⟨1,fun n=>[N .i64 n],fun _=>rfl,fun _=>rfl⟩
def LZ:List Int→Int
 | []=>0
 | x :: xs=>LA x (LZ xs)
def OrC (c:au) : Prop:=∀ {M:RM} {v:AV} {xs:List Int} {Q:ak},Sl INT M v xs→xs.length≤100→Q (N .i64 (LZ xs)) M→c [v] M Q
theorem aiX:OrC fun args M Q=>∃ a0,args=[a0]∧LY a0 M Q:=by
 intro M v xs Q hs hl hQ
 refine⟨_,rfl, ?_⟩
 unfold LY
 rw[aL.len hs]
 refine aQ (fun m ys M3=>∃ i:Nat,m=xs.length - i∧ys=[N .i64 (i:Int)]∧i≤xs.length∧M3=M∧LZ xs=LZ (xs.drop i)) _ ⟨0,rfl,rfl,Nat.zero_le _,rfl,rfl⟩ ?_
 rintro next m ys M3 hnext ⟨i,rfl,rfl,hi,rfl,hm⟩
 dsimp only[aa]
 rw[bZ]
 refine aJ (fun hlt=>?_) (fun hge=>?_)
 ·have hlt:i<xs.length:=by simpa using hlt
  obtain⟨b1,o1,_,_,atu,hc1⟩:=Sl.Bu (E:=INT) hs (i:Int) hlt
  rw[atu,abk (hc1 _ rfl),fM]
  rw[List.drop_eq_getElem_cons hlt,LZ,LA] at hm
  by_cases h0:xs[i]=0
  ·rw[show(xs[i] != 0)=false by simp[h0],bJ,bS,eB (by omega)]
   rw[if_neg (by simp[h0])] at hm
   exact hnext _ _ _ (by omega) ⟨i + 1,rfl,rfl,hlt,rfl,hm⟩
  ·rw[show(xs[i] != 0)=true by simp[h0],cO]
   rw[if_pos (by simp[h0])] at hm
   rw[hm] at hQ
   exact hQ
 ·have he:i=xs.length:=by simp at hge; omega
  subst he
  rw[List.drop_length] at hm
  rw[hm] at hQ
  exact hQ
theorem arN {T:Nat} {M:RM} {x y:Int} {K:RB→(Nat→AV)→Prop} : fO T 2 [(N .i64 0)] [(0,1,N .i64 x),(1,1,N .i64 y)] K=K (.row [N .i64 x,N .i64 y] false T 0) (fun b=>.slc b 0 2 (.ex 2)):=by
 apply propext; unfold fO
 constructor
 ·rintro⟨l,h,hk⟩; cases h; exact hk
 ·intro hk; exact⟨_,rfl,hk⟩
theorem arB {T:Nat} {M:RM} {x y z:Int} {K:RB→(Nat→AV)→Prop} : fO T 3 [(N .i64 0)] [(0,1,N .i64 x),(1,1,N .i64 y),(2,1,N .i64 z)] K=K (.row [N .i64 x,N .i64 y,N .i64 z] false T 0) (fun b=>.slc b 0 3 (.ex 3)):=by
 apply propext; unfold fO
 constructor
 ·rintro⟨l,h,hk⟩; cases h; exact hk
 ·intro hk; exact⟨_,rfl,hk⟩
def f3D (x y:ay) : Int:=LA (c3 (fun x y:Nat=>decide (x<y)) x.2 y.2) (LA (c3 (fun x y:Int=>decide (x<y)) x.1 y.1) 0)
def f3E (x y:aS) : Int:=LA (c3 (fun x y:List UInt8=>decide (x<y)) x.2.1 y.2.1) (LA (c3 (fun x y:List UInt8=>decide (x<y)) x.2.2.1 y.2.2.1) (f3D x.1 y.1))
theorem am9:Is3 qR f3E:=JW (k:=fun x:aS=>x.2.1) Iq (JW (k:=fun x:aS=>x.2.2.1) Iq (JW (k:=fun x:aS=>x.1.2) VE (JW (k:=fun x:aS=>x.1.1) VY afW)))
def Vg (c:au) : Prop:=∀ {M:RM} {x y:ay} {Q:ak},(∀ M',ag [] M M'→Q (N .i64 (f3D x y)) M')→c [.agg (aM x),.agg (aM y)] M Q
theorem abZ {TD TI:Nat} {cu ci co:au} (hu:zq (α:=Nat) (fun n=>N .u64 (n:Int)) (fun x y=>decide (x<y)) cu) (hi:zq (α:=Int) (fun n=>N .i64 n) (fun x y=>decide (x<y)) ci) (ho:OrC co) :
  Vg fun args M Q=>∃ a0 a1,args=[a0,a1]∧Qv TD cu ci TI co a0 a1 M Q:=by
 intro M x y Q hQ
 refine⟨_,_,rfl, ?_⟩
 unfold Qv
 rw[dU rfl (by simp),bn,dU rfl (by simp),bn]
 have k1:ag [] M (M.push (.row (aM x) false TD 0)):=(ag.refl _ _).push _
 have k2:ag [] M ((M.push (.row (aM x) false TD 0)).push (.row (aM y) false TD 0)):=k1.push _
 have h2:((M.push (.row (aM x) false TD 0)).push (.row (aM y) false TD 0)).heap (M.push (.row (aM x) false TD 0)).next=some (.row (aM y) false TD 0):=RM.aT _
 have h1:((M.push (.row (aM x) false TD 0)).push (.row (aM y) false TD 0)).heap M.next=some (.row (aM x) false TD 0):=mR (RM.aT _) (by simp[RM.push])
 generalize (M.push (.row (aM x) false TD 0)).push (.row (aM y) false TD 0)=M2 at *
 generalize (M.push (.row (aM x) false TD 0)).next=s at *
 rw[aU,aj h1 rfl,aU,aj h2 rfl,aU,aj h1 rfl,aU,aj h2 rfl]
 refine hu ?_
 rw[aj h1 rfl]
 refine⟨rfl, ?_⟩
 rw[aj h2 rfl]
 refine⟨rfl, ?_⟩
 refine hi ?_
 rw[arN (M:=M2),pF]
 refine ho (xs:=[_,_]) ?_ (by simp) (hQ _ (k2.push _))
 exact Sl.new (E:=INT) [_,_]
def GX (c:au) : Prop:=∀ {M:RM} {x y:aS} {Q:ak},(∀ M',ag [] M M'→Q (N .i64 (f3E x y)) M')→c [.agg (aK.cells x),.agg (aK.cells y)] M Q
theorem XE {TE TI:Nat} {cs cd co:au} (hs:zq (α:=List UInt8) (fun s=>St s) (fun x y=>decide (x<y)) cs) (hd:Vg cd) (ho:OrC co) :
  GX fun args M Q=>∃ a0 a1,args=[a0,a1]∧Jn TE cs cd TI co a0 a1 M Q:=by
 intro M x y Q hQ
 refine⟨_,_,rfl, ?_⟩
 unfold Jn
 rw[dU rfl (by rw[aK.len]; decide),bn,dU rfl (by rw[aK.len]; decide),bn]
 have k1:ag [] M (M.push (.row (aK.cells x) false TE 0)):=(ag.refl _ _).push _
 have k2:ag [] M ((M.push (.row (aK.cells x) false TE 0)).push (.row (aK.cells y) false TE 0)):=k1.push _
 have h2:((M.push (.row (aK.cells x) false TE 0)).push (.row (aK.cells y) false TE 0)).heap (M.push (.row (aK.cells x) false TE 0)).next=some (.row (aK.cells y) false TE 0):=RM.aT _
 have h1:((M.push (.row (aK.cells x) false TE 0)).push (.row (aK.cells y) false TE 0)).heap M.next=some (.row (aK.cells x) false TE 0):=mR (RM.aT _) (by simp[RM.push])
 have n1:M.next<((M.push (.row (aK.cells x) false TE 0)).push (.row (aK.cells y) false TE 0)).next:=by simp[RM.push]; omega
 have n2:(M.push (.row (aK.cells x) false TE 0)).next<((M.push (.row (aK.cells x) false TE 0)).push (.row (aK.cells y) false TE 0)).next:=by simp[RM.push]
 generalize (M.push (.row (aK.cells x) false TE 0)).push (.row (aK.cells y) false TE 0)=M2 at *
 generalize (M.push (.row (aK.cells x) false TE 0)).next=s at *
 have ld:∀ {M' : RM} {b:Nat} {z:aS},M'.heap b=some (.row (aK.cells z) false TE 0)→∀ K:AV→Prop,aF M' (.ptr b 0) 2 K=K (.agg (aM z.1)):=fun {M' b z} h K=>by
  rw[kV,RM.dO h (by show 0 + 2≤5; decide)]
  simp[aK]
 rw[aU,aj h1 rfl,aU,aj h2 rfl,aU,aj h1 rfl,aU,aj h2 rfl,aU,ld h1,aU,ld h2]
 refine hs ?_
 rw[aj h1 rfl]
 refine⟨rfl, ?_⟩
 rw[aj h2 rfl]
 refine⟨rfl, ?_⟩
 rw[ld h1]
 refine⟨rfl, ?_⟩
 rw[ld h2]
 refine⟨rfl, ?_⟩
 refine hs ?_
 rw[ld h1]
 refine⟨rfl, ?_⟩
 rw[ld h2]
 refine⟨rfl, ?_⟩
 refine hd fun M3 k3=>?_
 rw[arB (M:=M3),pF]
 refine ho (xs:=[_,_,_]) (Sl.new (E:=INT) [_,_,_]) (by simp) ?_
 have e:LZ [c3 (fun x y:List UInt8=>decide (x<y)) x.2.1 y.2.1,c3 (fun x y:List UInt8=>decide (x<y)) x.2.2.1 y.2.2.1,f3D x.1 y.1]=f3E x y:=by
  simp only[LZ,f3E]
  congr 2
  unfold LA; split <;> simp_all
 rw[e]
 exact hQ _ ((k2.trans k3).push _)
theorem ajq {cv:FuncId→au} {n:Nat} (h:GX (cv n)) : Ah aK qR (gq cv (.fn (.func n) [] [])):=by
 intro M x y Q hQ
 exact⟨n,[],[],rfl,h fun M' k=>hQ _ _ (am9 x y) k⟩
abbrev gp:=ay × (Int × (List UInt8 × (List UInt8 × List UInt8)))
def EvE:Enc gp:=⟨6,fun e=>aM e.1++[N .i64 e.2.1,St e.2.2.1,St e.2.2.2.1,St e.2.2.2.2],fun _=>rfl,fun _=>rfl⟩
abbrev aP (e:gp) (kv:AV) : List AV:=EvE.cells e++[kv]
theorem orP {M:RM} {c p:Bool} {f:KR→Prop} {P:RM→Prop} {G:AV→RM→Prop} (h0:P M) (hf:c=false→∀ k:KR,(∀ M',P M'→k (Bo p) M' none)→f k) (hG:∀ M',P M'→G (Bo (c || p)) M') :
  ah (Bo c) false f (fun k=>k .undef M none) (fun t M' b=>aH (Bo c) (Bo true) t fun u=>G u M'):=by
 cases c with
 | true=>rw[jo]; dsimp only; rw[cK]; exact hG M h0
 | false=>rw[gF]; exact hf rfl _ fun M' h=>by rw[bK]; exact hG M' h
theorem mE {M:RM} {c p:Bool} {f:ak→Prop} {G:AV→RM→Prop} (hf:c=false→∀ k:ak,k (Bo p) M→f k) (hG:G (Bo (c || p)) M) :
  af (Bo c) false f (fun k=>k .undef M) (fun t M'=>aH (Bo c) (Bo true) t fun u=>G u M'):=by
 cases c with
 | true=>rw[bM]; dsimp only; rw[cK]; exact hG
 | false=>rw[bg]; exact hf rfl _ (by rw[bK]; exact hG)
theorem aip {M:RM} {c q r:Bool} {f0:KR→Prop} {f:RM→KR→Prop} {P:RM→Prop} {G:AV→RM→Prop} (h0:P M) (hf0:c=false→∀ k:KR,k (Bo q) M none→f0 k) (hf:c=false→q=true→∀ k:KR,(∀ M',P M'→k (Bo r) M' none)→f M k) (hG:∀ M',P M'→G (Bo (c || (q && r))) M') :
  ah (Bo c) false f0 (fun k=>k .undef M none) fun t45 M1 b1=>ah t45 true (f M1) (fun k=>k .undef M1 none) fun t54 M2 b2=>ah (Bo c) false (fun k3=>aH t45 t54 (Bo false) fun t55=>k3 t55 M2 none) (fun k=>k .undef M2 none) fun t55 M3 b3=>aH (Bo c) (Bo true) t55 fun t56=>G t56 M3:=by
 cases c with
 | true=>rw[jo]; dsimp only; rw[nY]; dsimp only; rw[jo]; dsimp only; rw[cK]; exact hG M h0
 | false =>
   rw[gF]
   refine hf0 rfl _ ?_
   cases q with
   | false=>rw[gW]; dsimp only; rw[gF]; dsimp only; rw[bK,bK]; exact hG M h0
   | true =>
     rw[gY]
     refine hf rfl rfl _ fun M' h=>?_
     rw[gF]; dsimp only; rw[cK,bK]; exact hG M' h
theorem Tn {M:RM} {c q r:Bool} {f0:ak→Prop} {f:RM→ak→Prop} {G:AV→RM→Prop} (hf0:c=false→∀ k:ak,k (Bo q) M→f0 k) (hf:c=false→q=true→∀ k:ak,k (Bo r) M→f M k) (hG:G (Bo (c || (q && r))) M) :
  af (Bo c) false f0 (fun k=>k .undef M) fun t45 M1=>af t45 true (f M1) (fun k=>k .undef M1) fun t54 M2=>af (Bo c) false (fun k3=>aH t45 t54 (Bo false) fun t55=>k3 t55 M2) (fun k=>k .undef M2) fun t55 M3=>aH (Bo c) (Bo true) t55 fun t56=>G t56 M3:=by
 cases c with
 | true=>rw[bM]; dsimp only; rw[iO]; dsimp only; rw[bM]; dsimp only; rw[cK]; exact hG
 | false =>
   rw[bg]
   refine hf0 rfl _ ?_
   cases q with
   | false=>rw[bC]; dsimp only; rw[bg]; dsimp only; rw[bK,bK]; exact hG
   | true =>
     rw[bU]
     refine hf rfl rfl _ ?_
     rw[bg]; dsimp only; rw[cK,bK]; exact hG
def Cz (a b:ay) : Bool:=decide (a.2<b.2) || (decide (a.2=b.2) && decide (a.1<b.1))
def Ez (c:au) : Prop:=∀ {M:RM} {a b:ay} {Q:ak},(∀ M',ag [] M M'→Q (Bo (Cz a b)) M')→c [.agg (aM a),.agg (aM b)] M Q
theorem Sr {M1:RM} {T m1 m2:Nat} {a b:ay} {K:AV→RM→Prop} (h1:M1.heap m1=some (.row (aM a) false T 0)) (h2:M1.heap m2=some (.row (aM b) false T 0)) (hK:K (Bo (Cz a b)) M1) :
  aB (.ptr m1 0) 1 fun t5=>ai M1 t5 fun t6=>aB (.ptr m2 0) 1 fun t7=>ai M1 t7 fun t8=>ae .lss t6 t8 fun t9 =>
  af t9 false (fun k'=>aB (.ptr m1 0) 1 fun cB=>ai M1 cB fun t12=>aB (.ptr m2 0) 1 fun bO=>ai M1 bO fun t14=>ae .eql t12 t14 fun t15=>k' t15 M1) (fun k=>k .undef M1) fun t16 dE =>
  af t16 true (fun k'=>aB (.ptr m1 0) 0 fun t17=>ai dE t17 fun t18=>aB (.ptr m2 0) 0 fun t19=>ai dE t19 fun t20=>ae .lss t18 t20 fun t21=>k' t21 dE) (fun k=>k .undef dE) fun JC jC =>
  af t9 false (fun Ff=>aH t16 JC (Bo false) fun t22=>Ff t22 jC) (fun k=>k .undef jC) fun Iy l8 =>
  aH t9 (Bo true) Iy fun t23=>K t23 l8:=by
 rw[aU,aj h1 rfl,aU,aj h2 rfl,bZ,show decide ((a.2:Int)<(b.2:Int))=decide (a.2<b.2) by simp]
 refine Tn (q:=decide (a.2=b.2)) (r:=decide (a.1<b.1)) (fun _ k hk=>?_) (fun _ _ k hk=>?_) hK
 ·rw[aU,aj h1 rfl,aU,aj h2 rfl,bT,show((a.2:Int) == (b.2:Int))=decide (a.2=b.2) by by_cases h:a.2=b.2 <;> simp[h]; omega]
  exact hk
 ·rw[aU,aj h1 rfl,aU,aj h2 rfl,bZ]
  exact hk
theorem aaW {T:Nat} : Ez fun args M Q=>∃ a0 a1,args=[a0,a1]∧WX T a0 a1 M Q:=by
 intro M a b Q hQ
 refine⟨_,_,rfl, ?_⟩
 unfold WX
 simp only[gQ]
 rw[dU rfl (by simp),bn,dU rfl (by simp),bn]
 exact Sr (mR (RM.aT _) (by simp[RM.push])) (RM.aT _) (hQ _ (((ag.refl _ _).push _).push _))
theorem WI {T:Nat} : Ez fun args M Q=>∃ a0 a1,args=[a0,a1]∧LP T a0 a1 M Q:=by
 intro M a b Q hQ
 refine⟨_,_,rfl, ?_⟩
 unfold LP
 simp only[gQ]
 rw[dU rfl (by simp),bn,dU rfl (by simp),bn]
 exact Sr (mR (RM.aT _) (by simp[RM.push])) (RM.aT _) (hQ _ (((ag.refl _ _).push _).push _))
def names (c f v:List UInt8) : Bool:=decide (1≤c.length) && decide (c.length≤64) && decide (f.length≤64) && decide (v.length≤512)
def apC:Option ay→ay→Bool
 | none,_=>true
 | some q,k=>Cz q k
def gJ (d:ay) (p:Option ay) : List ay→Bool
 | []=>true
 | k :: ks=>good k && !decide (k=d) && apC p k && gJ d (some k) ks
def Bw (e:gp) : Bool:=(decide (e.2.1=1) && decide (e.2.2.2.1≠[])) || (decide (e.2.1=2) && decide (e.2.2.2.2=[]))
def bz (e:gp) (ks:List ay) : Bool:=good e.1 && names e.2.2.1 e.2.2.2.1 e.2.2.2.2 && decide (ks.length≤64) && gJ e.1 none ks && Bw e
def Xy (c:au) : Prop:=∀ {M:RM} {x y z:List UInt8} {Q:ak},Q (Bo (names x y z)) M→c [St x,St y,St z] M Q
theorem aaq:Xy fun args M Q=>∃ a0 a1 a2,args=[a0,a1,a2]∧CK a0 a1 a2 M Q:=by
 intro M x y z Q hQ
 refine⟨_,_,_,rfl, ?_⟩
 unfold CK
 simp only[gQ]
 rw[mh,iR]
 refine andM (p:=decide (x.length≤64)) (fun _ k hk=>?_) ?_
 ·rw[mh,lF,show decide ((x.length:Int)≤64)=decide (x.length≤64) by simp; omega]; exact hk
 refine andM (p:=decide (y.length≤64)) (fun _ k hk=>?_) ?_
 ·rw[mh,lF,show decide ((y.length:Int)≤64)=decide (y.length≤64) by simp; omega]; exact hk
 refine andM (p:=decide (z.length≤512)) (fun _ k hk=>?_) ?_
 ·rw[mh,lF,show decide ((z.length:Int)≤512)=decide (z.length≤512) by simp; omega]; exact hk
 rw[show decide ((x.length:Int) ≥ 1)=decide (1≤x.length) by simp; omega]
 exact hQ
def qy (c:au) : Prop:=∀ {M:RM} {e:gp} {kv:AV} {ks:List ay} {Q:ak},Sl dV M kv ks→(∀ M',ag [] M M'→Q (Bo (bz e ks)) M')→c [.agg (aP e kv)] M Q
theorem xW {M:RM} {b T:Nat} {e:gp} {kv:AV} (h:M.heap b=some (.row (aP e kv) false T 0)) {K:AV→Prop} : aF M (.ptr b 0) 2 K=K (.agg (aM e.1)):=by
 have e2:((aP e kv).drop 0).take 2=aM e.1:=rfl
 rw[kV,RM.dO h (by show 0 + 2≤7; decide),e2]
 simp
theorem oI {M:RM} {e:gp} {kv:AV} {ks:List ay} (h:Sl dV M kv ks) : (aP e kv).all oneCell=true:=by
 rw[List.all_append,EvE.one,List.all_cons,aL.one h]; rfl
theorem oW {M:RM} {kv:AV} {ks:List ay} (h:Sl dV M kv ks) {i:Nat} (hi:i<ks.length) {kd:IntKind} {K:AV→Prop} : (aA kv (N kd (i:Int)) 2 fun p=>aF M p 2 K)=K (.agg (aM ks[i])):=by
 obtain⟨b,o,_,_,hidx,hld⟩:=Sl.at (E:=dV) (i:=i) h 2 (i:Int) hi rfl rfl
 rw[hidx,kV,hld]
 simp[dV]
def Cv (ks:List ay) (i:Nat) : Option ay:=if i=0 then none else ks[i - 1]?
theorem I8 {d:ay} {ks:List ay} {i:Nat} (hi:i<ks.length) : gJ d (Cv ks i) (ks.drop i) =
  (good ks[i] && !decide (ks[i]=d) && (if h:0<i then Cz (ks[i - 1]'(by omega)) ks[i] else true) && gJ d (Cv ks (i + 1)) (ks.drop (i + 1))):=by
 rw[List.drop_eq_getElem_cons hi,gJ]
 have e2:Cv ks (i + 1)=some ks[i]:=by rw[Cv,if_neg (by omega),Nat.add_sub_cancel,List.getElem?_eq_getElem hi]
 rw[e2]
 by_cases h0:i=0
 ·subst h0; rfl
 ·have e1:Cv ks i=some (ks[i - 1]'(by omega)):=by rw[Cv,if_neg h0,List.getElem?_eq_getElem (by omega)]
  rw[e1,dif_pos (by omega)]; rfl
theorem XP {TE TD:Nat} {cg cn cl:au} (hg:Cb cg) (hn:Xy cn) (hl:Ez cl) : qy fun args M Q=>∃ a0,args=[a0]∧XF TE cg cn TD cl a0 M Q:=by
 intro M0 e kv ks Q hs0 hQ
 refine⟨_,rfl, ?_⟩
 unfold XF
 simp only[gQ,ig,fQ,gG]
 rw[dU (oI hs0) (by simp),bn]
 have k0:ag [] M0 (M0.push (.row (aP e kv) false TE 0)):=(ag.refl _ _).push _
 have h0:(M0.push (.row (aP e kv) false TE 0)).heap M0.next=some (.row (aP e kv) false TE 0):=RM.aT _
 have hlt:M0.next<(M0.push (.row (aP e kv) false TE 0)).next:=by simp[RM.push]
 have hs:=aL.keep hs0 k0 (by simp)
 generalize M0.push (.row (aP e kv) false TE 0)=M at *
 generalize M0.next=b at *
 have hs:Sl dV M kv ks:=hs
 rw[aU,xW h0]
 refine hg fun M1 k1=>?_
 have h1:=k1.aD h0 hlt (by simp)
 have s1:Sl dV M1 kv ks:=aL.keep hs k1 (by simp)
 rw[aY]
 refine mE (p:=!names e.2.2.1 e.2.2.2.1 e.2.2.2.2) (fun _ k hk=>?_) ?_
 ·rw[aU,aj h1 rfl,aU,aj h1 rfl,aU,aj h1 rfl]
  refine hn ?_
  rw[aY]
  exact hk
 refine mE (p:=decide (ks.length > 64)) (fun _ k hk=>?_) ?_
 ·rw[aU,aj h1 rfl,aL.len s1,dF,show decide ((ks.length:Int) > 64)=decide (ks.length > 64) by simp; omega]
  exact hk
 refine aJ (fun hc=>?_) (fun hc=>?_)
 ·have:bz e ks=false:=by
   unfold bz
   simp only[Bool.or_eq_true,Bool.not_eq_true',decide_eq_true_eq] at hc
   rcases hc with(hc | hc) | hc
   ·rw[hc]; rfl
   ·rw[hc,Bool.and_false]; rfl
   ·rw[decide_eq_false (show ¬ (ks.length≤64) by omega),Bool.and_false]; rfl
  rw[this] at hQ
  exact hQ M1 (k0.trans k1)
 simp only[Bool.or_eq_false_iff,Bool.not_eq_false',decide_eq_false_iff_not] at hc
 obtain⟨⟨hc1,hc2⟩,hc3⟩:=hc
 have qJ:bz e ks=(gJ e.1 none ks && Bw e):=by
  unfold bz
  rw[hc1,hc2,decide_eq_true (show(ks.length≤64) by omega)]; simp
 rw[aU,aj h1 rfl,aL.len s1]
 refine aQ (fun m ys M3=>∃ i:Nat,m=ks.length - i∧ys=[N .i64 (i:Int)]∧i≤ks.length∧ag [] M1 M3∧gJ e.1 none ks=gJ e.1 (Cv ks i) (ks.drop i)) _ ⟨0,rfl,rfl,Nat.zero_le _,ag.refl _ _,rfl⟩ ?_
 rintro next m ys M3 hnext ⟨i,rfl,rfl,hi,k3,hm⟩
 dsimp only[aa]
 have n1:=k1.next
 have h3:=k3.aD h1 (by omega) (by simp)
 have s3:Sl dV M3 kv ks:=aL.keep s1 k3 (by simp)
 have kk3:=(k0.trans k1).trans k3
 rw[iD]
 refine aJ (fun hlt2=>?_) (fun hge=>?_)
 ·have hlt2:i<ks.length:=of_decide_eq_true hlt2
  rw[I8 hlt2] at hm
  rw[oW s3 hlt2,bn,dB (n:=2) (x:=.agg (aM ks[i])) (l:=[N .i64 0,N .u64 0]) (RM.aT _) rfl rfl rfl]
  have k4:ag [] M3 ((M3.push (.row [N .i64 0,N .u64 0] false TD 0)).put M3.next (.row (AV.agg (aM ks[i])).cells false TD 0)):=((ag.refl _ _).push _).new _ (Nat.le_refl _)
  have hk4:((M3.push (.row [N .i64 0,N .u64 0] false TD 0)).put M3.next (.row (AV.agg (aM ks[i])).cells false TD 0)).heap M3.next=some (.row (aM ks[i]) false TD 0):=aN _
  have hn4:M3.next<((M3.push (.row [N .i64 0,N .u64 0] false TD 0)).put M3.next (.row (AV.agg (aM ks[i])).cells false TD 0)).next:=by simp[RM.push,RM.put]
  generalize (M3.push (.row [N .i64 0,N .u64 0] false TD 0)).put M3.next (.row (AV.agg (aM ks[i])).cells false TD 0)=M4 at *
  generalize M3.next=s at *
  rw[bI (n:=2) hk4 rfl]
  refine hg fun M5 k5=>?_
  have hk5:=k5.aD hk4 hn4 (by simp)
  have h5:=(k4.trans k5).aD h3 (by have:=k3.next; omega) (by simp)
  have s5:Sl dV M5 kv ks:=aL.keep s3 (k4.trans k5) (by simp)
  have kk5:=(k3.trans k4).trans k5
  rw[aY]
  refine orP (P:=fun M'=>M'=M5) (p:=decide (ks[i]=e.1)) rfl (fun _ k hk=>?_) fun M' hM'=>?_
  ·rw[bI (n:=2) hk5 rfl,aU,xW h5,qX rfl rfl (Bl _ _),Bool.bne_false]
   exact hk M5 rfl
  subst hM'
  refine aip (P:=fun M6=>ag [] M1 M6) (q:=decide (i > 0)) (r:=!(if h:0<i then Cz (ks[i - 1]'(by omega)) ks[i] else true)) kk5 (fun _ k hk=>?_) (fun _ hq k hk=>?_) fun M6 k6=>?_
  ·rw[show(0:Int)=((0:Nat) : Int) from rfl,yM]
   exact hk
  ·have hq:0<i:=of_decide_eq_true hq
   rw[aU,aj h5 rfl,dM (by omega) (by omega),oW s5 (by omega),bI (n:=2) hk5 rfl]
   refine hl fun M7 k7=>?_
   rw[aY,← dif_pos (c:=0<i) (t:=fun h=>Cz (ks[i - 1]'(by omega)) ks[i]) (e:=fun _=>true) hq]
   exact hk M7 (kk5.trans k7)
  refine aJ (fun hb=>?_) (fun hb=>?_)
  ·have:gJ e.1 none ks=false:=by
    rw[hm]
    simp only[Bool.or_eq_true,Bool.and_eq_true,Bool.not_eq_true',decide_eq_true_eq] at hb
    rcases hb with(hb | hb) | ⟨_,hb⟩
    ·rw[hb]; rfl
    ·rw[show decide (ks[i]=e.1)=true by simpa using hb]; simp
    ·rw[hb]; simp
   rw[qJ,this] at hQ
   exact hQ M6 ((k0.trans k1).trans k6)
  ·rw[add1 (by omega)]
   refine hnext _ _ _ (by omega) ⟨i + 1,rfl,rfl,by omega,k6, ?_⟩
   simp only[Bool.or_eq_false_iff,Bool.and_eq_false_iff,Bool.not_eq_false',decide_eq_false_iff_not] at hb
   obtain⟨⟨hb1,hb2⟩,hb3⟩:=hb
   rw[hm,hb1,show decide (ks[i]=e.1)=false by simpa using hb2]
   rcases hb3 with hb3 | hb3
   ·rw[dif_neg hb3]; simp
   ·rw[hb3]; simp
 ·have he:i=ks.length:=by
   have:¬ i<ks.length:=of_decide_eq_false hge
   omega
  subst he
  rw[List.drop_length,gJ] at hm
  rw[qJ,hm,Bool.true_and] at hQ
  have op1:∀ n:Int,((e.2.1:Int) == n)=decide (e.2.1=n):=fun n=>by by_cases h:e.2.1=n <;> simp[h]
  rw[aU,aj h3 rfl,bT,op1]
  refine andM (p:=decide (e.2.2.2.1≠[])) (fun _ k hk=>?_) ?_
  ·rw[aU,aj h3 rfl,uN,show(e.2.2.2.1 != [])=decide (e.2.2.2.1≠[]) by by_cases h:e.2.2.2.1=[] <;> simp[h]]
   exact hk
  refine Tn (q:=decide (e.2.1=2)) (r:=decide (e.2.2.2.2=[])) (fun _ k hk=>?_) (fun _ _ k hk=>?_) (hQ M3 kk3)
  ·rw[aU,aj h3 rfl,bT,op1]
   exact hk
  ·rw[aU,aj h3 rfl,qV,show(e.2.2.2.2 == [])=decide (e.2.2.2.2=[]) by by_cases h:e.2.2.2.2=[] <;> simp[h]]
   exact hk
theorem Qu {TE:Nat} {cg cl:au} (hg:Cb cg) (hl:Ez cl) : qy fun args M Q=>∃ a0,args=[a0]∧Di TE cg cl a0 M Q:=by
 intro M0 e kv ks Q hs0 hQ
 refine⟨_,rfl, ?_⟩
 unfold Di
 simp only[gQ,ig,fQ,gG]
 rw[dU (oI hs0) (by simp),bn]
 have k0:ag [] M0 (M0.push (.row (aP e kv) false TE 0)):=(ag.refl _ _).push _
 have h0:(M0.push (.row (aP e kv) false TE 0)).heap M0.next=some (.row (aP e kv) false TE 0):=RM.aT _
 have hlt:M0.next<(M0.push (.row (aP e kv) false TE 0)).next:=by simp[RM.push]
 have hs:=aL.keep hs0 k0 (by simp)
 generalize M0.push (.row (aP e kv) false TE 0)=M at *
 generalize M0.next=b at *
 have hs:Sl dV M kv ks:=hs
 rw[aU,xW h0]
 refine hg fun M1 k1=>?_
 have h1:=k1.aD h0 hlt (by simp)
 have s1:Sl dV M1 kv ks:=aL.keep hs k1 (by simp)
 have op1:∀ n:Int,((e.2.1:Int) == n)=decide (e.2.1=n):=fun n=>by by_cases h:e.2.1=n <;> simp[h]
 have op2:∀ n:Int,((e.2.1:Int) != n)=decide (e.2.1≠n):=fun n=>by by_cases h:e.2.1=n <;> simp[h]
 rw[aY]
 refine Tn (q:=decide (e.2.1≠1)) (r:=decide (e.2.1≠2)) (fun _ k hk=>?_) (fun _ _ k hk=>?_) ?_
 ·rw[aU,aj h1 rfl,fM,op2]; exact hk
 ·rw[aU,aj h1 rfl,fM,op2]; exact hk
 refine mE (p:=decide (e.2.2.1.length<1)) (fun _ k hk=>?_) ?_
 ·rw[aU,aj h1 rfl,mh,bZ,show decide ((e.2.2.1.length:Int)<1)=decide (e.2.2.1.length<1) from decide_eq_decide.2 (by omega)]; exact hk
 refine mE (p:=decide (e.2.2.1.length > 64)) (fun _ k hk=>?_) ?_
 ·rw[aU,aj h1 rfl,mh,dF,show decide ((e.2.2.1.length:Int) > 64)=decide (e.2.2.1.length > 64) by simp; omega]; exact hk
 refine mE (p:=decide (e.2.2.2.1.length > 64)) (fun _ k hk=>?_) ?_
 ·rw[aU,aj h1 rfl,mh,dF,show decide ((e.2.2.2.1.length:Int) > 64)=decide (e.2.2.2.1.length > 64) by simp; omega]; exact hk
 refine mE (p:=decide (e.2.2.2.2.length > 512)) (fun _ k hk=>?_) ?_
 ·rw[aU,aj h1 rfl,mh,dF,show decide ((e.2.2.2.2.length:Int) > 512)=decide (e.2.2.2.2.length > 512) by simp; omega]; exact hk
 refine mE (p:=decide (ks.length > 64)) (fun _ k hk=>?_) ?_
 ·rw[aU,aj h1 rfl,aL.len s1,dF,show decide ((ks.length:Int) > 64)=decide (ks.length > 64) by simp; omega]; exact hk
 have kk1:=k0.trans k1
 refine aJ (fun hc=>?_) (fun hc=>?_)
 ·have:bz e ks=false:=by
   simp only[Bool.or_eq_true,Bool.and_eq_true,Bool.not_eq_true',decide_eq_true_eq] at hc
   simp only[bz,names,Bw]
   rcases hc with(((((hc | ⟨hc1,hc2⟩) | hc) | hc) | hc) | hc) | hc
   ·rw[hc]; rfl
   ·simp[hc1,hc2]
   ·rw[decide_eq_false (show ¬ (1≤e.2.2.1.length) by omega)]; simp
   ·rw[decide_eq_false (show ¬ (e.2.2.1.length≤64) by omega)]; simp
   ·rw[decide_eq_false (show ¬ (e.2.2.2.1.length≤64) by omega)]; simp
   ·rw[decide_eq_false (show ¬ (e.2.2.2.2.length≤512) by omega)]; simp
   ·rw[decide_eq_false (show ¬ (ks.length≤64) by omega)]; simp
  rw[this] at hQ
  exact hQ M1 kk1
 simp only[Bool.or_eq_false_iff,Bool.and_eq_false_iff,Bool.not_eq_false',decide_eq_false_iff_not,Decidable.not_not] at hc
 obtain⟨⟨⟨⟨⟨⟨hc1,hop⟩,hc2⟩,hc3⟩,hc4⟩,hc5⟩,hc6⟩:=hc
 have qJ:bz e ks=(gJ e.1 none ks && Bw e):=by
  simp only[bz,names]
  rw[hc1,decide_eq_true (show(1≤e.2.2.1.length) by omega),decide_eq_true (show(e.2.2.1.length≤64) by omega),decide_eq_true (show(e.2.2.2.1.length≤64) by omega),decide_eq_true (show(e.2.2.2.2.length≤512) by omega),decide_eq_true (show(ks.length≤64) by omega)]
  simp
 rw[qJ] at hQ
 rw[aU,aj h1 rfl,bT,op1]
 refine andM (p:=decide (e.2.2.2.1=[])) (fun _ k hk=>?_) ?_
 ·rw[aU,aj h1 rfl,qV,show(e.2.2.2.1 == [])=decide (e.2.2.2.1=[]) by by_cases h:e.2.2.2.1=[] <;> simp[h]]
  exact hk
 refine Tn (q:=decide (e.2.1=2)) (r:=decide (e.2.2.2.2≠[])) (fun _ k hk=>?_) (fun _ _ k hk=>?_) ?_
 ·rw[aU,aj h1 rfl,bT,op1]
  exact hk
 ·rw[aU,aj h1 rfl,uN,show(e.2.2.2.2 != [])=decide (e.2.2.2.2≠[]) by by_cases h:e.2.2.2.2=[] <;> simp[h]]
  exact hk
 have axW:((decide (e.2.1=1) && decide (e.2.2.2.1=[])) || (decide (e.2.1=2) && decide (e.2.2.2.2≠[])))=!Bw e:=by
  unfold Bw
  rcases hop with hop | hop
  ·simp[hop]
  ·simp[hop]
 rw[axW]
 refine aJ (fun hb=>?_) (fun hb=>?_)
 ·rw[show Bw e=false by simpa using hb,Bool.and_false] at hQ
  exact hQ M1 kk1
 rw[show Bw e=true by simpa using hb,Bool.and_true] at hQ
 refine aQ (fun m ys M3=>∃ i:Nat,m=ks.length - i∧ys=[N .i64 (i:Int)]∧i≤ks.length∧ag [] M1 M3∧gJ e.1 none ks=gJ e.1 (Cv ks i) (ks.drop i)) _ ⟨0,rfl,rfl,Nat.zero_le _,ag.refl _ _,rfl⟩ ?_
 rintro next m ys M3 hnext ⟨i,rfl,rfl,hi,k3,hm⟩
 dsimp only[aa]
 have n1:=k1.next
 have h3:=k3.aD h1 (by omega) (by simp)
 have s3:Sl dV M3 kv ks:=aL.keep s1 k3 (by simp)
 rw[aU,aj h3 rfl,aL.len s3,iD]
 refine aJ (fun hlt2=>?_) (fun hge=>?_)
 ·have hlt2:i<ks.length:=of_decide_eq_true hlt2
  rw[I8 hlt2] at hm
  rw[aU,aj h3 rfl,oW s3 hlt2]
  refine hg fun M5 k5=>?_
  have h5:=k5.aD h3 (by have:=k3.next; omega) (by simp)
  have s5:Sl dV M5 kv ks:=aL.keep s3 k5 (by simp)
  have kk5:=k3.trans k5
  rw[aY]
  refine orP (P:=fun M'=>M'=M5) (p:=decide (ks[i]=e.1)) rfl (fun _ k hk=>?_) fun M' hM'=>?_
  ·rw[aU,aj h5 rfl,oW s5 hlt2,aU,xW h5,qX rfl rfl (Bl _ _),Bool.bne_false]
   exact hk M5 rfl
  subst hM'
  refine aip (P:=fun M6=>ag [] M1 M6) (q:=decide (i > 0)) (r:=!(if h:0<i then Cz (ks[i - 1]'(by omega)) ks[i] else true)) kk5 (fun _ k hk=>?_) (fun _ hq k hk=>?_) fun M6 k6=>?_
  ·rw[show(0:Int)=((0:Nat) : Int) from rfl,yM]
   exact hk
  ·have hq:0<i:=of_decide_eq_true hq
   rw[aU,aj h5 rfl,dM (by omega) (by omega),oW s5 (by omega),aU,aj h5 rfl,oW s5 hlt2]
   refine hl fun M7 k7=>?_
   rw[aY,← dif_pos (c:=0<i) (t:=fun h=>Cz (ks[i - 1]'(by omega)) ks[i]) (e:=fun _=>true) hq]
   exact hk M7 (kk5.trans k7)
  refine aJ (fun hb=>?_) (fun hb=>?_)
  ·have:gJ e.1 none ks=false:=by
    rw[hm]
    simp only[Bool.or_eq_true,Bool.and_eq_true,Bool.not_eq_true',decide_eq_true_eq] at hb
    rcases hb with(hb | hb) | ⟨_,hb⟩
    ·rw[hb]; rfl
    ·rw[show decide (ks[i]=e.1)=true by simpa using hb]; simp
    ·rw[hb]; simp
   rw[this] at hQ
   exact hQ M6 (kk1.trans k6)
  ·rw[add1 (by omega)]
   refine hnext _ _ _ (by omega) ⟨i + 1,rfl,rfl,by omega,k6, ?_⟩
   simp only[Bool.or_eq_false_iff,Bool.and_eq_false_iff,Bool.not_eq_false',decide_eq_false_iff_not] at hb
   obtain⟨⟨hb1,hb2⟩,hb3⟩:=hb
   rw[hm,hb1,show decide (ks[i]=e.1)=false by simpa using hb2]
   rcases hb3 with hb3 | hb3
   ·rw[dif_neg hb3]; simp
   ·rw[hb3]; simp
 ·have he:i=ks.length:=by
   have:¬ i<ks.length:=of_decide_eq_false hge
   omega
  subst he
  rw[List.drop_length,gJ] at hm
  rw[hm] at hQ
  exact hQ M3 (kk1.trans k3)
def QM (T:Nat) (c:au) : Prop:=∀ {M:RM} {v:AV} {xs:List aS} {Q:ak},Sl aK M v xs→xs.length≤1000000→(∀ v' M',Ow aK M' M.next T v' xs→ag [] M M'→Q v' M')→c [v] M Q
theorem Yn {T:Nat} : QM T fun args M Q=>∃ a0,args=[a0]∧y8 T a0 M Q:=by
 intro M v xs Q hs hl hQ
 refine⟨_,rfl, ?_⟩
 unfold y8
 have h5:aL M 5 v (aK.row xs) xs.length:=hs
 exact JM (size:=5) (bytes:=64) h5 (Enc.qB _ _) (by decide) (by omega) (by omega) fun v' M' ho k=>hQ v' M' ho k
def QS (c:au) : Prop:=∀ {M:RM} {v:AV} {l:List ay} {d:ay} {Q:ak},Sl dV M v l→l.length≤1000000→(∀ (n:Int) M',(decide (n ≥ 0)=decide (d∈l))→ag [] M M'→Q (N .i64 n) M')→c [v,.agg (aM d)] M Q
theorem YB {T:Nat} : QS fun args M Q=>∃ a0 a1,args=[a0,a1]∧CL T a0 a1 M Q:=by
 intro M0 v l d Q hs0 hl hQ
 refine⟨_,_,rfl, ?_⟩
 unfold CL
 rw[dU rfl (by simp),bn]
 have k0:ag [] M0 (M0.push (.row (aM d) false T 0)):=(ag.refl _ _).push _
 have h0:(M0.push (.row (aM d) false T 0)).heap M0.next=some (.row (aM d) false T 0):=RM.aT _
 have hs:Sl dV (M0.push (.row (aM d) false T 0)) v l:=aL.keep hs0 k0 (by simp)
 generalize M0.push (.row (aM d) false T 0)=M at *
 generalize M0.next=b at *
 rw[aL.len hs]
 refine aQ (fun m ys M3=>∃ i:Nat,m=l.length - i∧ys=[N .i64 (i:Int)]∧i≤l.length∧M3=M∧(d∈l↔d∈l.drop i)) _ ⟨0,rfl,rfl,Nat.zero_le _,rfl,Iff.rfl⟩ ?_
 rintro next m ys M3 hnext ⟨i,rfl,rfl,hi,rfl,hm⟩
 dsimp only[aa]
 rw[iD]
 refine aJ (fun hlt=>?_) (fun hge=>?_)
 ·have hlt:i<l.length:=of_decide_eq_true hlt
  rw[List.drop_eq_getElem_cons hlt,List.mem_cons] at hm
  rw[bI (n:=2) h0 rfl,oW hs hlt,qX rfl rfl (Bl _ _),Bool.bne_false]
  refine aJ (fun he=>?_) (fun he=>?_)
  ·have he:d=l[i]:=of_decide_eq_true he
   refine hQ _ _ ?_ k0
   rw[decide_eq_true (show(i:Int) ≥ 0 by omega),decide_eq_true (hm.2 (.inl he))]
  ·have he:¬ d=l[i]:=of_decide_eq_false he
   rw[add1 (by omega)]
   exact hnext _ _ _ (by omega) ⟨i + 1,rfl,rfl,by omega,rfl,hm.trans ⟨fun h=>h.resolve_left he,.inr⟩⟩
 ·have he:i=l.length:=by
   have:¬ i<l.length:=of_decide_eq_false hge
   omega
  subst he
  rw[List.drop_length] at hm
  refine hQ _ _ ?_ k0
  rw[decide_eq_false (show ¬ (-1:Int) ≥ 0 by decide),decide_eq_false (fun h=>by simpa using hm.1 h)]
def GH (c:au) : Prop:=∀ {M:RM} {v:AV} {l:List ay} {d:ay} {Q:ak},Sl dV M v l→l.length≤1000000→(∀ M',ag [] M M'→Q (Bo (decide (d∈l))) M')→c [v,.agg (aM d)] M Q
theorem PK {T:Nat} {ci:au} (hi:QS ci) : GH fun args M Q=>∃ a0 a1,args=[a0,a1]∧xk T ci a0 a1 M Q:=by
 intro M0 v l d Q hs0 hl hQ
 refine⟨_,_,rfl, ?_⟩
 unfold xk
 rw[dU rfl (by simp),bn]
 have k0:ag [] M0 (M0.push (.row (aM d) false T 0)):=(ag.refl _ _).push _
 rw[bI (n:=2) (RM.aT _) rfl]
 refine hi (aL.keep hs0 k0 (by simp)) hl fun n M' hn k=>?_
 rw[iR,hn]
 exact hQ M' (k0.trans k)
def Tt (P:RM→Prop) (p:aS→Bool) (c:List AV→RM→ak→Prop) : Prop:=∀ {M:RM} {x:aS} {Q:ak},P M→(∀ M',ag [] M M'→Q (Bo (p x)) M')→c [.agg (aK.cells x)] M Q
theorem IG {M:RM} {v:AV} {xs:List aS} (h:Sl aK M v xs) {i:Nat} (hi:i<xs.length) {kd:IntKind} {K:AV→Prop} : (aA v (N kd (i:Int)) 5 fun p=>aF M p 5 K)=K (.agg (aK.cells xs[i])):=by
 obtain⟨b,o,_,_,hidx,hld⟩:=Sl.at (E:=aK) (i:=i) h 5 (i:Int) hi rfl rfl
 rw[hidx,kV,hld]
 simp
def PR (P:RM→Prop) (p:aS→Bool) (fv:AV) (c:au) : Prop:=∀ {M:RM} {v:AV} {xs:List aS} {Q:ak},P M→(∀ M M',P M→ag [] M M'→P M')→Sl aK M v xs→xs.length≤1000000 →
 (xs.any p=false→∀ M',ag [] M M'→Q (N .i64 (-1)) M')→(∀ (i:Nat) (hi:i<xs.length),p xs[i]=true→(∀ x∈xs.take i,p x=false)→∀ M',ag [] M M'→Q (N .i64 (i:Int)) M')→c [v,fv] M Q
theorem XR {P:RM→Prop} {p:aS→Bool} {fv:AV} {cv:FuncId→au} (hp:Tt P p (gq cv fv)) : PR P p fv fun args M Q=>∃ a0 a1,args=[a0,a1]∧sP cv a0 a1 M Q:=by
 intro M v xs Q hP hPk hs hl h0 h1
 refine⟨_,_,rfl, ?_⟩
 unfold sP
 rw[aL.len hs]
 refine aQ (fun m ys M3=>∃ i:Nat,m=xs.length - i∧ys=[N .i64 (i:Int)]∧i≤xs.length∧ag [] M M3∧∀ x∈xs.take i,p x=false) _ ⟨0,rfl,rfl,Nat.zero_le _,ag.refl _ _,by simp⟩ ?_
 rintro next m ys M3 hnext ⟨i,rfl,rfl,hi,k3,hm⟩
 dsimp only[aa]
 rw[iD]
 refine aJ (fun hlt=>?_) (fun hge=>?_)
 ·have hlt:i<xs.length:=of_decide_eq_true hlt
  rw[IG (aL.keep hs k3 (by simp)) hlt]
  refine hp (hPk _ _ hP k3) fun M4 k4=>?_
  refine aJ (fun he=>h1 i hlt he hm M4 (k3.trans k4)) (fun he=>?_)
  rw[add1 (by omega)]
  refine hnext _ _ _ (by omega) ⟨i + 1,rfl,rfl,by omega,k3.trans k4,fun x hx=>?_⟩
  rw[List.take_succ_eq_append_getElem hlt,List.mem_append] at hx
  rcases hx with hx | hx
  ·exact hm x hx
  ·simp at hx; subst hx; exact he
 ·have he:i=xs.length:=by
   have:¬ i<xs.length:=of_decide_eq_false hge
   omega
  subst he
  rw[List.take_length] at hm
  exact h0 (by simpa using hm) M3 k3
theorem ad5 {b o n k z:Nat} (h:k≤n) (h0:0<n) : bY z (.slc b o n (.op z)) none (some (N .i64 (k:Int))) none=some (.slc b o k (.op z)):=by
 simp only[bY,bnd]
 simp[h]
 omega
theorem Ww (zs:List AV) : ∀ k,(cZ zs k).length=k * zs.length
 | 0=>by simp[cZ]
 | k + 1=>by rw[cZ,List.length_append,Ww zs k,Nat.succ_mul,Nat.add_comm]
theorem UL {zs:List AV} (h:zs.all oneCell=true) : ∀ k,(cZ zs k).all oneCell=true
 | 0=>by simp[cZ]
 | k + 1=>by rw[cZ,List.all_append,h,UL h k]; rfl
def LM (T:Nat) (P:RM→Prop) (p:aS→Bool) (fv:AV) (c:au) : Prop:=∀ {M:RM} {base:Nat} {v:AV} {xs:List aS} {Q:ak},P M→(∀ M M' ks,P M→ag ks M M'→(∀ d∈ks,d∈aG v)→P M')→Ow aK M base T v xs→xs.length≤60000 →
 (∀ v' M',Sl aK M' v' (xs.filter fun x=>!p x)→(∀ d∈aG v',d∈aG v)→ag (aG v) M M'→Q v' M')→c [v,fv] M Q
theorem Vq {T TE:Nat} {P:RM→Prop} {p:aS→Bool} {fv:AV} {cv:FuncId→au} {ci:au} (hi:PR P p fv ci) (hp:Tt P p (gq cv fv)) : LM T P p fv fun args M Q=>∃ a0 a1,args=[a0,a1]∧qM ci TE cv a0 a1 M Q:=by
 intro M base v xs Q hP hPk ho hl hQ
 refine⟨_,_,rfl, ?_⟩
 unfold qM
 simp only[fo]
 have hs:Sl aK M v xs:=ho.jm
 refine hi hP (fun M M' h k=>hPk M M' [] h k (by simp)) hs (by omega) (fun hn M1 k1=>?_) (fun i hlt hpi hm M1 k1=>?_)
 ·rw[bT,show((-1:Int) == -1)=true from rfl,cO]
  have e:(xs.filter fun x=>!p x)=xs:=List.filter_eq_self.2 fun x hx=>by
   have:=List.any_eq_false.1 hn x hx
   simpa using this
  exact hQ v M1 (by rw[e]; exact aL.keep hs k1 (by simp)) (fun d hd=>hd) (k1.mono (by simp))
 rw[bT,show((i:Int) == -1)=false by rw[beq_eq_false_iff_ne]; omega,bJ,add1 (by omega)]
 obtain⟨b,rfl,h1,h2,h3,h4⟩:=Own.En ho (by omega)
 have hsz:xs.toArray.size=xs.length:=by simp
 have hat:At aK T b xs.toArray M:=⟨by rw[h3],h2⟩
 have hel:∀ j (h:j<xs.length),xs.toArray[j]! = xs[j]:=fun j h=>by rw[QD (by simpa using h)]; simp
 have hpre0:xs.toArray.toList.take i=(xs.take (i + 1)).filter fun x=>!p x:=by
  rw[List.take_succ_eq_append_getElem hlt,List.filter_append,List.filter_eq_self.2 fun x hx=>by simpa using hm x hx]
  simp[hpi]
 refine aQ (fun m ys M3=>∃ (k j:Nat) (d:Array aS),m=xs.length - j∧ys=[N .i64 (k:Int),N .i64 (j:Int)]∧j≤xs.length∧k<j∧At aK T b d M3∧ag [b] M M3∧d.size=xs.length∧d.toList.take k=(xs.take j).filter (fun x=>!p x)∧∀ q (h:q<xs.length),j≤q→d[q]! = xs[q]) _
  ⟨i,i + 1,xs.toArray,rfl,rfl,by omega,by omega,hat.keep k1,k1.mono (by simp),hsz,hpre0,fun q h _=>hel q h⟩ ?_
 rintro next m ys M3 hnext ⟨k,j,d,rfl,rfl,hj,hkj,h3',k3,hds,hpre,hold⟩
 dsimp only[aa]
 have aeT:∀ K:AV→Prop,dh (AV.slc b 0 xs.length (.op aK.size)) K=K (N .i64 (xs.length:Int)):=fun K=>by simp[oC]
 rw[aeT,iD]
 have e5:aK.size=5:=rfl
 rw[e5] at *
 refine aJ (fun hlt2=>?_) (fun vZ=>?_)
 ·have hlt2:j<xs.length:=of_decide_eq_true hlt2
  refine di (fun zs M'=>∃ (k' : Nat) (d' : Array aS),zs=[N .i64 (k' : Int)]∧k'<j + 1∧At aK T b d' M'∧ag [b] M M'∧d'.size=xs.length∧d'.toList.take k'=(xs.take (j + 1)).filter (fun x=>!p x)∧∀ q (h:q<xs.length),j + 1≤q→d'[q]! = xs[q]) ?_ ?_
  ·rintro zs M' ⟨k',d',rfl,c1,c2,c3,c4,c5,c6⟩
   dsimp only[aa]
   rw[add1 (by omega)]
   exact hnext _ _ _ (by omega) ⟨k',j + 1,d',rfl,rfl,by omega,c1,c2,c3,c4,c5,c6⟩
  intro J hJ
  rw[h3'.rd (z:=5) rfl hds.symm (by omega),hold j hlt2 (Nat.le_refl _),bn,dB (n:=5) (x:=.agg (aK.cells xs[j])) (l:=[(N .i64 0),(N .u64 0),(St []),(St []),(St [])]) (RM.aT _) rfl rfl rfl]
  have k4:ag [] M3 ((M3.push (.row [(N .i64 0),(N .u64 0),(St []),(St []),(St [])] false TE 0)).put M3.next (.row (AV.agg (aK.cells xs[j])).cells false TE 0)):=((ag.refl _ _).push _).new _ (Nat.le_refl _)
  have hk4:((M3.push (.row [(N .i64 0),(N .u64 0),(St []),(St []),(St [])] false TE 0)).put M3.next (.row (AV.agg (aK.cells xs[j])).cells false TE 0)).heap M3.next=some (.row (aK.cells xs[j]) false TE 0):=aN _
  have hn4:M3.next<((M3.push (.row [(N .i64 0),(N .u64 0),(St []),(St []),(St [])] false TE 0)).put M3.next (.row (AV.agg (aK.cells xs[j])).cells false TE 0)).next:=by simp[RM.push,RM.put]
  generalize (M3.push (.row [(N .i64 0),(N .u64 0),(St []),(St []),(St [])] false TE 0)).put M3.next (.row (AV.agg (aK.cells xs[j])).cells false TE 0)=M4 at *
  generalize M3.next=s at *
  rw[bI (n:=5) hk4 rfl]
  have kk4:ag [b] M M4:=k3.trans (k4.mono (cs:=[b]) (by simp))
  have hP4:P M4:=hPk M M4 [b] hP kk4 (by simp[aG])
  refine hp hP4 fun M5 k5=>?_
  have kk5:ag [b] M M5:=kk4.trans (k5.mono (cs:=[b]) (by simp))
  have aoF:=h3'.keep (k4.trans k5)
  have apb:(xs.take (j + 1)).filter (fun x=>!p x)=if p xs[j] then(xs.take j).filter (fun x=>!p x) else(xs.take j).filter (fun x=>!p x)++[xs[j]]:=by
   rw[List.take_succ_eq_append_getElem hlt2,List.filter_append]
   by_cases hpj:p xs[j]=true <;> simp[hpj]
  rw[aY]
  refine aJ (fun hn=>?_) (fun hn=>?_)
  ·have hpj:p xs[j]=false:=by simpa using hn
   rw[bI (n:=5) (k5.aD hk4 hn4 (by simp)) rfl,At.idx (by omega)]
   refine aoF.st (z:=5) rfl (by omega) fun M6 h6 k6 _=>?_
   rw[add1 (by omega)]
   refine hJ _ _ ⟨k + 1,_,rfl,by omega,h6,kk5.trans k6,by simpa using hds, ?_,fun q h hq=>?_⟩
   ·have hkl:k<d.toList.length:=by rw[Array.length_toList]; omega
    rw[apb,hpj,← hpre,Array.toList_setIfInBounds,List.take_succ_eq_append_getElem (by rw[List.length_set]; exact hkl),List.getElem_set_self,List.take_set_of_le (Nat.le_refl _)]
    rfl
   ·rw[← hold q h (by omega),QD (by rw[Array.size_setIfInBounds]; omega),QD (by omega),Array.getElem_setIfInBounds_ne (by omega) (by omega)]
  ·have hpj:p xs[j]=true:=by simpa using hn
   exact hJ _ _ ⟨k,d,rfl,by omega,aoF,kk5,hds,by rw[apb,hpj]; exact hpre,fun q h hq=>hold q h (by omega)⟩
 ·have hj2:j=xs.length:=by
   have:¬ j<xs.length:=of_decide_eq_false vZ
   omega
  subst hj2
  rw[List.take_length] at hpre
  have hrl:(aK.row d.toList).length=xs.length * 5:=by rw[Enc.fq,Array.length_toList,hds]; rfl
  have hst:M3.stores b (0 + k * 5) (cZ [(N .i64 0),(N .u64 0),(St []),(St []),(St [])] (xs.length - k))=some (M3.put b (.row ((aK.row d.toList).take (0 + k * 5)++cZ [(N .i64 0),(N .u64 0),(St []),(St []),(St [])] (xs.length - k)++(aK.row d.toList).drop (0 + k * 5 + (cZ [(N .i64 0),(N .u64 0),(St []),(St []),(St [])] (xs.length - k)).length)) true T 0)):=by
   refine RM.Gb h3'.heap ?_ (Nat.zero_le _) (UL rfl _)
   rw[Ww,hrl]
   show 0 + k * 5 + (xs.length - k) * 5≤xs.length * 5
   omega
  rw[rf (by omega),dN]
  refine .inl ⟨_,_,_,_,_,rfl,hst, ?_⟩
  dsimp only
  rw[ad5 (by omega) (by omega),dN]
  have hlk:(xs.filter fun x=>!p x).length=k:=by rw[← hpre,List.length_take,Array.length_toList]; omega
  refine hQ _ _ ?_ (fun e he=>by simpa [aG] using he) ?_
  ·have hrow:((aK.row d.toList).take (0 + k * 5))=aK.row (xs.filter fun x=>!p x):=by
    rw[← hpre,show 0 + k * 5=k * aK.size by show 0 + k * 5=k * 5; omega,Enc.uA]
   show aL _ 5 (.slc b 0 k (.op 5)) (aK.row (xs.filter fun x=>!p x)) (xs.filter fun x=>!p x).length
   rw[hlk]
   refine .slc _ _ _ _ _ h3'.lt ?_
   have hl:(aK.row (xs.filter fun x=>!p x)).length=k * 5:=by rw[Enc.fq,hlk]; rfl
   rw[RM.dO (aN _) (by rw[hrow]; simp[hl]),List.drop_zero,hrow,List.append_assoc,List.take_left' hl]
  ·have:ag [b] M3 (M3.put b (.row ((aK.row d.toList).take (0 + k * 5)++cZ [(N .i64 0),(N .u64 0),(St []),(St []),(St [])] (xs.length - k)++(aK.row d.toList).drop (0 + k * 5 + (cZ [(N .i64 0),(N .u64 0),(St []),(St []),(St [])] (xs.length - k)).length)) true T 0)):=(ag.refl _ _).put _ (.inr (by simp))
   simpa [aG] using k3.trans this
def Ik (TE:Nat) (b:Nat) (e:gp) (kv:AV) (ks:List ay) (M:RM) : Prop:=b<M.next∧M.heap b=some (.row (aP e kv) false TE 0)∧Sl dV M kv ks
theorem Ik.keep {TE b:Nat} {e:gp} {kv:AV} {ks:List ay} {M M' : RM} {bs:List Nat} (h:Ik TE b e kv ks M) (k:ag bs M M') (hb:b ∉ bs) (hk:∀ d∈aG kv,d ∉ bs) : Ik TE b e kv ks M':=by
 obtain⟨h1,h2,h3⟩:=h
 exact⟨Nat.lt_of_lt_of_le h1 k.next,k.aD h2 h1 hb,aL.keep h3 k hk⟩
theorem Yi {TE T b:Nat} {e:gp} {kv:AV} {ks:List ay} {cc:au} (hc:GH cc) (hl:ks.length≤1000000) {M:RM} {x:aS} {Q:ak} (hP:Ik TE b e kv ks M) (hQ:∀ M',ag [] M M'→Q (Bo (decide (x.1∈ks))) M') :
  ∃ a0 a1,[AV.agg (aK.cells x),.ptr b 0]=[a0,a1]∧vU T cc a0 a1 M Q:=by
 obtain⟨h1,h2,h3⟩:=hP
 refine⟨_,_,rfl, ?_⟩
 unfold vU
 rw[dU rfl (by rw[aK.len]; decide),bn]
 have k0:ag [] M (M.push (.row (aK.cells x) false T 0)):=(ag.refl _ _).push _
 have hx:(M.push (.row (aK.cells x) false T 0)).heap M.next=some (.row (aK.cells x) false T 0):=RM.aT _
 have h2':=k0.aD h2 h1 (by simp)
 have h3' : Sl dV (M.push (.row (aK.cells x) false T 0)) kv ks:=aL.keep h3 k0 (by simp)
 generalize M.push (.row (aK.cells x) false T 0)=M1 at *
 generalize M.next=s at *
 have e2:((aK.cells x).drop 0).take 2=aM x.1:=rfl
 have ld:∀ K:AV→Prop,aF M1 (.ptr s 0) 2 K=K (.agg (aM x.1)):=fun K=>by
  rw[kV,RM.dO hx (by rw[aK.len]; decide),e2]
  simp
 rw[aU,aj h2' rfl,aU,ld]
 exact hc h3' hl fun M' k=>hQ M' (k0.trans k)
theorem amD (a b:aS) : dX [1,1,2,2,2] (aK.cells a) (aK.cells b)=some (decide (a=b)):=by
 obtain⟨⟨d,n⟩,x,y,z⟩:=a
 obtain⟨⟨d',n'⟩,x',y',z'⟩:=b
 show dX [1,1,2,2,2] [N .i64 d,N .u64 (n:Int),St x,St y,St z] [N .i64 d',N .u64 (n' : Int),St x',St y',St z']=_
 simp only[NL,abC,Pq]
 by_cases h1:d=d' <;> by_cases h2:n=n' <;> by_cases h3:x=x' <;> by_cases h4:y=y' <;> by_cases h5:z=z' <;> simp[h1,h2,h3,h4,h5]
 all_goals omega
def QX (c:au) : Prop:=∀ {M:RM} {v w:AV} {xs ys:List aS} {Q:ak},Sl aK M v xs→Sl aK M w ys→xs.length≤1000000→Q (Bo (decide (xs=ys))) M→c [v,w] M Q
theorem X0:QX fun args M Q=>∃ a0 a1,args=[a0,a1]∧yX a0 a1 M Q:=by
 intro M v w xs ys Q h1 h2 hl hQ
 refine⟨_,_,rfl, ?_⟩
 unfold yX
 rw[aL.len h1,aL.len h2,fM,aL.len h1]
 refine aJ (fun hn=>?_) (fun hn=>?_)
 ·have:¬ xs=ys:=fun e=>by subst e; simp at hn
  rw[decide_eq_false this] at hQ
  exact hQ
 have hn:xs.length=ys.length:=by
  simp only[bne_eq_false_iff_eq] at hn
  omega
 refine aQ (fun m zs M3=>∃ i:Nat,m=xs.length - i∧zs=[N .i64 (i:Int)]∧i≤xs.length∧M3=M∧(xs=ys↔xs.drop i=ys.drop i)) _ ⟨0,rfl,rfl,Nat.zero_le _,rfl,Iff.rfl⟩ ?_
 rintro next m zs M3 hnext ⟨i,rfl,rfl,hi,rfl,hm⟩
 dsimp only[aa]
 rw[iD]
 refine aJ (fun hlt=>?_) (fun hge=>?_)
 ·have hlt:i<xs.length:=of_decide_eq_true hlt
  rw[List.drop_eq_getElem_cons hlt,List.drop_eq_getElem_cons (show i<ys.length by omega),List.cons.injEq] at hm
  rw[IG h1 hlt,IG h2 (by omega),qX rfl rfl (amD _ _)]
  refine aJ (fun he=>?_) (fun he=>?_)
  ·have he:¬ xs[i]=ys[i]'(by omega):=by simpa using he
   rw[decide_eq_false (fun e=>he (hm.1 e).1)] at hQ
   exact hQ
  ·have he:xs[i]=ys[i]'(by omega):=by simpa using he
   rw[add1 (by omega)]
   exact hnext _ _ _ (by omega) ⟨i + 1,rfl,rfl,by omega,rfl,hm.trans ⟨fun h=>h.2,fun h=>⟨he,h⟩⟩⟩
 ·have he:i=xs.length:=by
   have:¬ i<xs.length:=of_decide_eq_false hge
   omega
  subst he
  rw[List.drop_length,hn,List.drop_length] at hm
  rw[decide_eq_true (hm.2 rfl)] at hQ
  exact hQ
end Go.Ab.Crw
