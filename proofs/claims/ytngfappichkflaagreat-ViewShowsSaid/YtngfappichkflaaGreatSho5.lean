/- Part 5 of the ground of the proofs of this seat (texts D5 to C2). By an AI agent. -/
import Derived.Test.YtngfappichkflaaGreatSho4
import Derived.Sort.AssemblyPlain
import Derived.KernelRfl
set_option maxRecDepth 10000
set_option linter.unusedVariables false
set_option linter.unusedSimpArgs false
namespace Go.Ab.aH
open Go Go.Ab
section
variable {α:Type} {E:Enc α}
end
def aqy:Nat→Nat→List UInt8→Option (Nat × Nat)
 | _,_,[]=>none
 | i,v,x :: xs =>
   if x.toNat ≥ 128 then aqy (i + 1) ((v ||| (x.toNat % 128 * 2 ^ (7 * i) % 2 ^ 64)) % 2 ^ 64) xs
   else if x.toNat=0∧i > 0∨i=9∧x.toNat > 1 then none else some ((v ||| (x.toNat % 128 * 2 ^ (7 * i) % 2 ^ 64)) % 2 ^ 64,i + 1)
def awJ (bs:List UInt8) : Option (Nat × Nat):=aqy 0 0 (bs.take 10)
structure RdH (T:Nat) (S:Nat→Prop) (M:RM) (r:Nat) (bs:List UInt8) (f:Bool) : Prop where
 lt:r<M.next
 row:∃ v,M.heap r=some (.row [v,Bo f] false T 0)∧Sl BY M v bs∧nV v∧∀ d∈aJ v,S d
 nb:¬ S r
theorem RdH.keep {T:Nat} {S:Nat→Prop} {M M' : RM} {r:Nat} {bs:List UInt8} {f:Bool} {ks:List Nat} (h:RdH T S M r bs f) (hk:ag ks M M') (hr:r ∉ ks) (hs:∀ d∈ks,¬ S d) : RdH T S M' r bs f:=by
 obtain⟨v,h1,h2,h3,h4⟩:=h.row
 exact⟨Nat.lt_of_lt_of_le h.lt hk.next,⟨v,hk.aQ h1 h.lt hr,aL.keep h2 hk (fun d hd hm=>hs d hm (h4 d hd)),h3,h4⟩,h.nb⟩
def alK (most:Nat) (bs:List UInt8) (f:Bool) : Nat × List UInt8 × Bool :=
 match awJ bs with
 | none=>(0,bs,true)
 | some (v,n)=>if f || decide (most<v) then(0,bs,true) else(v,bs.drop n,false)
def akg (f:(List AV→RM→Prop)→Prop) (g:List AV→RM→Prop) : Prop:=f g
theorem bF (f:(List AV→RM→Prop)→Prop) (g:List AV→RM→Prop) : bQ f g=akg f g:=rfl
theorem aP {H:(List AV→RM→Prop)→Prop} {G:List AV→RM→Prop} (P:List AV→RM→Prop) (hT:∀ xs M,P xs M→G xs M)
  (hH:∀ J:List AV→RM→Prop,(∀ xs M,P xs M→J xs M)→H J) : akg H G:=hH G hT
abbrev lc:=(Nat × Nat) × List Nat
def KG (ps:List Pt) : Nat→List lc
 | 0=>[]
 | i + 1=>KG ps i++(if 0<(ps.getD i (0,[])).1∨0<(ps.getD i (0,[])).2.length then[((i,(ps.getD i (0,[])).1),(ps.getD i (0,[])).2)] else[])
def parts (ps:List Pt) : List lc:=KG ps 16
@[irreducible] def asD (x a:Nat) : Nat:=(x + 18446744073709551616 - a) % 18446744073709551616
def aj2:Nat→List Nat→List UInt8
 | _,[]=>[]
 | a,x :: xs=>QJ (asD x a)++aj2 x xs
def aq6 (p:lc) : List UInt8:=QJ p.1.1++QJ p.1.2++QJ p.2.length++aj2 p.1.2 p.2
structure aiv (T TU base:Nat) (M:RM) (b:Nat) (ps:List Pt) : Prop where
 lt:b<M.next
 len:ps.length=16
 row:∃ (l:List AV) (vs:Nat→AV),M.heap b=some (.row l false T 0)∧l.length=32∧(∀ (i:Nat) (hi:i<ps.length),l[2 * i]?=some (N .u64 (ps[i].1:Int))∧l[2 * i + 1]?=some (vs i)∧Ow bf M base TU (vs i) ps[i].2) ∧
  ∀ i j,i<16→j<16→i≠j→∀ d∈aJ (vs i),d ∉ aJ (vs j)
 nb:b<base
theorem aiv.keep {T TU base:Nat} {M M' : RM} {b:Nat} {ps:List Pt} {bs:List Nat} (h:aiv T TU base M b ps) (hk:ag bs M M') (hb:b ∉ bs) (hs:∀ d∈bs,d<base) : aiv T TU base M' b ps:=by
 obtain⟨l,vs,h1,h2,h3,h4⟩:=h.row
 refine⟨Nat.lt_of_lt_of_le h.lt hk.next,h.len,⟨l,vs,hk.aQ h1 h.lt hb,h2,fun i hi=>⟨(h3 i hi).1,(h3 i hi).2.1,(h3 i hi).2.2.keep hk fun d hd hm=>?_⟩,h4⟩,h.nb⟩
 have:=((h3 i hi).2.2.blk d hd).1
 have:=hs d hm
 omega
theorem Own.sl {M:RM} {base T:Nat} {v:AV} {L:List UInt8} (h:Own M base T 1 v (VW L) L.length) : Sl BY M v L:=by
 have:=h.eZ
 show aL M 1 v (BY.row L) L.length
 rw[VX]; exact this
@[irreducible] def axD (bs:List UInt8) (f:Bool) : Nat × List UInt8 × Bool:=alK 18446744073709551615 bs f
theorem Jf {ps:List Pt} {i:Nat} (h:i<ps.length) (p:Pt) : (ps.set i p).getD i (0,[])=p:=by
 rw[List.getD_eq_getElem?_getD,List.getElem?_set_self h]; rfl
def Cq (a b:aH) : Bool:=decide (a.1<b.1) || (decide (a.1=b.1) && decide (a.2<b.2))
def Tt (c:ak) : Prop:=∀ {M:RM} {v:AV} {l:List aH} {d:aH} {Q:aj},Sl eX M v l→l.length≤1000000→(∀ M',ag [] M M'→Q (Bo (decide (d∈l))) M')→c [v,.agg (aR d)] M Q
theorem FW (a b:aH) : dV [1,1] (aR a) (aR b)=some (decide (a=b)):=by
 obtain⟨d,n⟩:=a
 obtain⟨e,k⟩:=b
 simp only[QB,GD]
 by_cases h1:d=e
 ·by_cases h2:n=k
  ·simp[h1,h2]
  ·have:¬ (n:Int)=(k:Int):=by omega
   simp[h1,h2,this]
 ·simp[h1]
theorem aaz {T:Nat} : Tt fun args M Q=>∃ a0 a1,args=[a0,a1]∧acH T a0 a1 M Q:=by
 intro M v l d Q hs hl hQ
 refine⟨_,_,rfl, ?_⟩
 unfold acH
 rw[dX rfl (by simp),bg]
 have hh:(M.push (.row (aR d) false T 0)).heap M.next=some (.row (aR d) false T 0):=RM.aT _
 have kk:ag [] M (M.push (.row (aR d) false T 0)):=(ag.refl _ _).push _
 generalize M.push (.row (aR d) false T 0)=M1 at *
 have s1:Sl eX M1 v l:=aL.keep hs kk (by simp)
 have hQ:=hQ M1 kk
 refine aG (fun m ys M3=>∃ (i:Nat),m=l.length - i∧ys=[N .i64 (i:Int)]∧i≤l.length∧M3=M1∧decide (d∈l)=decide (d∈l.drop i)) _
  ⟨0,rfl,rfl,Nat.zero_le _,rfl,rfl⟩ ?_
 rintro next m ys M3 hnext ⟨i,rfl,rfl,hi,rfl,hset⟩
 dsimp only[aa]
 rw[aL.len s1,dL]
 refine aC (fun hlt=>?_) (fun hge=>?_)
 ·have hlt:i<l.length:=by simpa using hlt
  obtain⟨b1,o1,_,_,hidx,hld⟩:=Sl.at (E:=eX) (i:=i) s1 2 (i:Int) hlt rfl rfl
  rw[hidx,fB]
  refine⟨_,hld, ?_⟩
  rw[eQ (n:=2) hh rfl]
  change mD false [1,1] (.agg (aR l[i])) (.agg (aR d)) _
  rw[qK rfl rfl (FW l[i] d)]
  rw[List.drop_eq_getElem_cons hlt] at hset
  by_cases he:l[i]=d
  ·rw[show(decide (l[i]=d) != false)=true by simp[he],dP]
   rw[hset,show decide (d∈l[i] :: l.drop (i + 1))=true by simp[he]] at hQ
   exact hQ
  ·rw[show(decide (l[i]=d) != false)=false by simp[he],bA,dw,gL (by omega)]
   refine hnext _ _ _ (by omega) ⟨i + 1,rfl,rfl,by omega,rfl, ?_⟩
   rw[hset]
   have:d≠l[i]:=fun h=>he h.symm
   exact decide_eq_decide.2 ⟨fun h=>(List.mem_cons.1 h).resolve_left this,fun h=>List.mem_cons_of_mem _ h⟩
 ·have he:i=l.length:=by simp at hge; omega
  subst he
  rw[List.drop_length] at hset
  rw[hset] at hQ
  exact hQ
section
variable {α:Type} {E:Enc α}
theorem abB {M:RM} {base T k:Nat} {v:AV} {xs:List α} (hE:1≤E.size) (ho:Ow E M base T v xs) (hk:k≤xs.length) :
  ∃ v1 v2,cZ E.size v none (some (N .i64 (k:Int))) none=some v1∧Sl E M v1 (xs.take k)∧cZ E.size v (some (N .i64 (k:Int))) none none=some v2∧Sl E M v2 (xs.drop k)∧(∀ d∈aJ v1,d∈aJ v)∧∀ d∈aJ v2,d∈aJ v:=by
 have hs:=ho.eZ
 generalize hcs:E.row xs=cs at *
 have ho' : Own M base T E.size v cs xs.length:=by rw[← hcs]; exact ho
 have hl:cs.length=xs.length * E.size:=by rw[← hcs,Enc.eH]
 have hd:E.row (xs.drop k)=cs.drop (k * E.size):=by rw[← hcs,← E.wC]
 have ht:E.row (xs.take k)=cs.take (k * E.size):=by rw[← hcs,← E.vT]
 have g1:∀ v',Sl E M v' (xs.take k)↔aL M E.size v' (cs.take (k * E.size)) k:=fun v'=>by simp only[Sl]; rw[ht,List.length_take,Nat.min_eq_left hk]
 have g2:∀ v',Sl E M v' (xs.drop k)↔aL M E.size v' (cs.drop (k * E.size)) (xs.length - k):=fun v'=>by simp only[Sl]; rw[hd,List.length_drop]
 generalize hn:xs.length=n at *
 cases ho' with
 | nil =>
   have:k=0:=by omega
   subst this
   exact⟨di,di,by simp[cZ,bnd],(g1 _).2 (by simp; exact .nil),by simp[cZ,bnd],(g2 _).2 (by simp; exact .nil),by simp,by simp⟩
 | ex0 b o h1 h2 h3 =>
   have:k=0:=by omega
   subst this
   have e0:aL M E.size (.slc b o 0 (.ex 0)) [] 0:=hs
   exact⟨.slc b o 0 (.ex 0),.slc b o 0 (.ex 0),by simp[cZ,bnd],(g1 _).2 (by simpa using e0),by simp[cZ,bnd],(g2 _).2 (by simpa using e0),by simp[aJ],by simp[aJ]⟩
 | op b n cs h1 h2 h3 h4 =>
   have hload:∀ o m,o + m≤cs.length→M.loads b o m=some ((cs.drop o).take m):=fun o m h=>RM.dH h3 h
   have hmul:k * E.size≤n * E.size:=Nat.mul_le_mul_right _ hk
   by_cases hn0:n=0
   ·have hk0:k=0:=by omega
    subst hk0 hn0
    have hc0:cs=[]:=List.length_eq_zero_iff.1 (by simpa using h4)
    subst hc0
    exact⟨.emp b,.emp b,by simp[cZ,bnd],(g1 _).2 (by simp; exact .emp b),by simp[cZ,bnd],(g2 _).2 (by simp; exact .emp b),by simp[aJ],by simp[aJ]⟩
   ·have p1:aL M E.size (.slc b (0 + 0 * E.size) (k - 0) (.op E.size)) (cs.take (k * E.size)) k:=by
     rw[Nat.sub_zero,Nat.zero_mul]
     refine .slc _ _ _ _ _ h2 ?_
     have:=hload 0 (k * E.size) (by omega)
     simpa using this
    by_cases hkn:n≤k
    ·refine⟨.slc b (0 + 0 * E.size) (k - 0) (.op E.size),.emp b,by simp only[cZ,bnd]; simp[hk,hn0],(g1 _).2 p1,by simp only[cZ,bnd]; simp[hk,hkn],(g2 _).2 ?_,by simp[aJ],by simp[aJ]⟩
     have:k=n:=by omega
     subst this
     rw[Nat.sub_self,List.drop_of_length_le (by omega)]
     exact .emp b
    ·refine⟨.slc b (0 + 0 * E.size) (k - 0) (.op E.size),.slc b (0 + k * E.size) (n - k) (.op E.size),by simp only[cZ,bnd]; simp[hk,hn0],(g1 _).2 p1,by simp only[cZ,bnd]; simp[hk,hkn],(g2 _).2 ?_,by simp[aJ],by simp[aJ]⟩
     refine .slc _ _ _ _ _ h2 ?_
     have hs2:k * E.size + (n - k) * E.size=n * E.size:=by rw[← Nat.add_mul]; congr 1; omega
     rw[Nat.zero_add,hload (k * E.size) ((n - k) * E.size) (by omega),List.take_of_length_le (by simp; omega)]
end
def atL (d:aH) (l:List aH) : Nat:=(l.takeWhile (fun x=>Cq x d)).length
def adF (l:List aH) (d:aH) : List aH:=if d∈l then l else l.take (atL d l)++d :: l.drop (atL d l)
theorem aij (l:List aH) (d:aH) : (adF l d).length≤l.length + 1:=by
 unfold adF
 split
 ·omega
 ·simp; omega
def akP (T:Nat) (c:ak) : Prop:=∀ {M:RM} {base:Nat} {v:AV} {l:List aH} {d:aH} {Q:aj},Ow eX M base T v l→base≤M.next→l.length≤100000→(∀ v' M',Ow eX M' base T v' (adF l d)→ag [] M M'→Q v' M')→c [v,.agg (aR d)] M Q
def uV (p:List Pt × List aH) (d:aH) : List Pt × List aH:=((l5 p.1 d).2,if (l5 p.1 d).1=0 then adF p.2 d else p.2)
def ZV (l:List aH) : List Pt × List aH:=l.foldl uV (kI,[])
theorem MS:∀ p∈kI,qc p:=fun p hp=>by
 simp only[kI,List.mem_replicate] at hp
 rw[hp.2]
 exact⟨.nil,fun x hx=>by simp at hx,Nat.zero_le _,fun x hx=>by simp at hx,Nat.zero_le _⟩
theorem BL {ps:List Pt} (h:∀ p∈ps,qc p) (i:Nat) : qc (ps.getD i (0,[])):=by
 rw[List.getD_eq_getElem?_getD]
 by_cases hj:i<ps.length
 ·rw[List.getElem?_eq_getElem hj]
  exact h _ (List.getElem_mem hj)
 ·rw[List.getElem?_eq_none (by omega)]
  exact⟨.nil,fun x hx=>by simp at hx,Nat.zero_le _,fun x hx=>by simp at hx,Nat.zero_le _⟩
theorem ab2 {ps:List Pt} {d:aH} (h:∀ p∈ps,qc p) : ∀ p∈(l5 ps d).2,qc p:=by
 unfold l5
 split
 ·rename_i hg
  split
  ·intro p hp
   rcases List.mem_or_eq_of_mem_set hp with hp | rfl
   ·exact h p hp
   ·refine akZ (BL h _) ?_
    simp only[good,Bool.and_eq_true,decide_eq_true_eq] at hg
    exact hg.2
  ·exact h
 ·exact h
def OfC (TS TD:Nat) (c:ak) : Prop:=∀ {M:RM} {v:AV} {l:List aH} {Q:aj},Sl eX M v l→l.length≤10000 →
 (∀ s w M',M.next≤s→iF TS (fun e=>s<e) M' s (ZV l).1→(∀ p∈(ZV l).1,qc p)→Ow eX M' (s + 1) TD w (ZV l).2→(ZV l).2.length≤l.length→ag [] M M'→Q (.tup [.ptr s 0,w]) M')→c [v] M Q
theorem abH {TS TD:Nat} {cn ca cr:ak} (hn:Zw TS cn) (ha:VN TS ca) (hr:akP TD cr) : OfC TS TD fun args M Q=>∃ a0,args=[a0]∧aoL cn ca cr a0 M Q:=by
 intro M v l Q hs hl hQ
 refine⟨_,rfl, ?_⟩
 unfold aoL
 simp only[bF]
 refine hn fun M1 hs1 k1 n1=>?_
 generalize hsn:M.next=s at *
 refine aG (fun m ys M3=>∃ (i:Nat) (w:AV) (p:List Pt × List aH),m=l.length - i∧ys=[w,N .i64 (i:Int)]∧i≤l.length∧ag [] M M3∧s<M3.next∧iF TS (fun e=>s<e) M3 s p.1∧(∀ q∈p.1,qc q)∧Ow eX M3 (s + 1) TD w p.2∧p.2.length≤i ∧
   ZV l=(l.drop i).foldl uV p) _
  ⟨0,di,(kI,[]),rfl,rfl,Nat.zero_le _,k1,by omega,hs1.mono (fun _ h=>h.elim) (by omega),MS,.nil,Nat.le_refl _,rfl⟩ ?_
 rintro next m ys M3 hnext ⟨i,w,p,rfl,rfl,hi,k3,n3,hs3,hw3,ho3,hpl,hof⟩
 dsimp only[aa]
 have s3:Sl eX M3 v l:=aL.keep hs k3 (by simp)
 rw[aL.len s3,dL]
 refine aC (fun hlt=>?_) (fun hge=>?_)
 ·have hlt:i<l.length:=by simpa using hlt
  rw[List.drop_eq_getElem_cons hlt,List.foldl_cons] at hof
  refine aP (fun zs M'=>∃ w',zs=[w']∧ag [] M M'∧s<M'.next∧iF TS (fun e=>s<e) M' s (uV p l[i]).1∧(∀ q∈(uV p l[i]).1,qc q)∧Ow eX M' (s + 1) TD w' (uV p l[i]).2∧(uV p l[i]).2.length≤i + 1) ?_ ?_
  ·rintro zs M' ⟨w',rfl,b1,b2,b3,b4,b5,b6⟩
   dsimp only[aa]
   rw[dw,gL (by omega)]
   exact hnext _ _ _ (by omega) ⟨i + 1,w',_,rfl,rfl,by omega,b1,b2,b3,b4,b5,b6,hof⟩
  intro J hJ
  obtain⟨b1,o1,_,_,hidx,hld⟩:=Sl.at (E:=eX) (i:=i) s3 2 (i:Int) hlt rfl rfl
  rw[hidx,fB]
  refine⟨_,hld, ?_⟩
  refine ha hs3 hw3 fun M4 hs4 k4=>?_
  have n4:=k4.next
  have k34:ag [] M M4:=k3.cz k4 (by simp; omega)
  have anq:iF TS (fun e=>s<e) M4 s (l5 p.1 l[i]).2:=hs4.mono (fun e h=>by rcases h with h | h <;> omega) (by omega)
  have ho4:=ho3.keep k4 (fun b hb hm=>by have:=(ho3.blk b hb).1; simp at hm; omega)
  have hw4:=ab2 (d:=l[i]) hw3
  rw[bL]
  refine aC (fun he=>?_) (fun he=>?_)
  ·have he:(l5 p.1 l[i]).1=0:=by simpa using he
   have s4:Sl eX M4 v l:=aL.keep hs k34 (by simp)
   obtain⟨b2,o2,_,_,rR,vJ⟩:=Sl.at (E:=eX) (i:=i) s4 2 (i:Int) hlt rfl rfl
   rw[rR,fB]
   refine⟨_,vJ, ?_⟩
   refine hr ho4 (by omega) (by omega) fun w' M5 ho5 k5=>?_
   have n5:=k5.next
   refine hJ _ _ ⟨w',rfl,k34.trans k5,by omega, ?_,hw4, ?_, ?_⟩
   ·exact anq.keep k5 (by simp) (by simp)
   ·rw[uV]; simp only[he,if_true]; exact ho5
   ·rw[uV]; simp only[he,if_true]
    have:=aij p.2 l[i]
    omega
  ·have he:¬ (l5 p.1 l[i]).1=0:=by simpa using he
   refine hJ _ _ ⟨w,rfl,k34,by omega,anq,hw4, ?_, ?_⟩
   ·rw[uV]; simp only[he,if_false]; exact ho4
   ·rw[uV]; simp only[he,if_false]; omega
 ·have he:i=l.length:=by simp at hge; omega
  subst he
  rw[List.drop_length,List.foldl_nil] at hof
  subst hof
  exact hQ s w M3 (Nat.le_refl _) hs3 hw3 ho3 hpl k3
theorem Own.uO {M:RM} {base el size n:Nat} {v:AV} {cs:List AV} (h:Own M base el size v cs n) (hn:0<n) : ∃ b,v=.slc b 0 n (.op size)∧base≤b∧b<M.next∧M.heap b=some (.row cs true el 0)∧cs.length=n * size:=by
 cases h with
 | nil=>omega
 | ex0=>omega
 | op b n cs h1 h2 h3 h4=>exact⟨b,rfl,h1,h2,h3,h4⟩
theorem ag2 (x:Nat) (xs:List Nat) : gD xs.length x xs=xs++[x]:=by simp[gD]
theorem adX {M:RM} {v:AV} {bx n0 T x ex:Nat} {xs:List Nat} {co cr:ak} {Q:aj} (ho:Ow bf M n0 T v xs) (hn:n0≤M.next) (hl:xs.length≤100000) (hx:M.heap bx=some (.row [N .u64 (x:Int)] false ex 0)) (hxl:bx<M.next)
  (hQ:∀ v' M',Sl bf M' v' (gD xs.length x xs)→nV v'→(∀ c∈aJ v',n0≤c)→ag (aJ v) M M'→Q v' M') : pq T co cr v (N .i64 (xs.length:Int)) (.slc bx 0 1 (.ex 1)) M Q:=by
 unfold pq
 obtain⟨v1,v2,e1,s1,e2,s2,hb1,hb2⟩:=abB (E:=bf) (k:=xs.length) (by decide) ho (Nat.le_refl _)
 have e2:cZ 1 v (some (N .i64 (xs.length:Int))) none none=some v2:=e2
 have hs:Sl bf M v xs:=ho.eZ
 rw[e2,dO,lZ,bL,show((((1:Nat) : Int)) == 0)=false from rfl,bA,aL.len hs,bL,show((xs.length:Int) == (xs.length:Int))=true by simp,dP]
 have sx:Sl bf M (.slc bx 0 1 (.ex 1)) [x]:=.slc _ _ _ _ _ hxl (by rw[RM.dH hx (by show 0 + 1 * 1≤1; omega)]; rfl)
 refine yQ (E:=bf) (ys:=[x]) ho hn (Nat.le_refl _) sx (by simp; omega) (by simp; omega) ?_
 intro v' M' o k _ _
 refine hQ v' M' ?_ (Own.nV o) (fun c hc=>(o.blk c hc).1) k
 rw[ag2]
 exact o.eZ
def ze (p q:Pt) : Bool:=decide (p.1≤q.1) && p.2.all (fT q)
def BN (ps qs:List Pt) : Bool:=(List.range 16).all fun i=>ze (ps.getD i (0,[])) (qs.getD i (0,[]))
theorem MQ {ps qs:List Pt} : BN ps qs=true↔∀ i,i<16→ze (ps.getD i (0,[])) (qs.getD i (0,[]))=true:=by
 unfold BN
 rw[List.all_eq_true]
 exact⟨fun h i hi=>h i (List.mem_range.2 hi),fun h i hi=>h i (List.mem_range.1 hi)⟩
def yu (T:Nat) (c:ak) : Prop:=∀ {M:RM} {a b:Nat} {ps qs:List Pt} {S S' : Nat→Prop} {Q:aj},iF T S M a ps→iF T S' M b qs→(∀ p∈ps,p.2.length≤1000000)→(∀ q∈qs,Asc q.2∧q.2.length≤1000000) →
 (∀ M',ag [] M M'→Q (Bo (BN ps qs)) M')→c [.ptr a 0,.ptr b 0] M Q
theorem Fa {TS T:Nat} {ch:ak} (hh:Vv ch) : yu TS fun args M Q=>∃ a0 a1,args=[a0,a1]∧BR T ch a0 a1 M Q:=by
 intro M a b ps qs S S' Q h h' hpl hql hQ
 refine⟨_,_,rfl, ?_⟩
 unfold BR
 obtain⟨l,ha,ad4,hrow⟩:=h.row
 obtain⟨l',hb,hl32',hrow'⟩:=h'.row
 rw[aO,bK,eQ (n:=32) ha ad4]
 refine aG (fun m ys M3=>∃ (i:Nat),m=16 - i∧ys=[N .i64 (i:Int)]∧i≤16∧ag [] M M3∧∀ j,j<i→ze (ps.getD j (0,[])) (qs.getD j (0,[]))=true) _
  ⟨0,rfl,rfl,Nat.zero_le _,ag.refl _ _,fun j hj=>by omega⟩ ?_
 rintro next m ys M3 hnext ⟨i,rfl,rfl,hi,hK,hset⟩
 dsimp only[aa]
 rw[dL]
 refine aC (fun hlt=>?_) (fun hge=>?_)
 ·have hlt:i<16:=by
   have:(i:Int)<16:=of_decide_eq_true hlt
   omega
  have hil:i<ps.length:=by rw[h.len]; exact hlt
  have ahW:i<qs.length:=by rw[h'.len]; exact hlt
  obtain⟨w,a1,a2,a3,a4,a5⟩:=hrow i hil
  obtain⟨w',b1,b2,b3,b4,b5⟩:=hrow' i ahW
  have hpD:ps.getD i (0,[])=ps[i]:=by rw[List.getD_eq_getElem?_getD,List.getElem?_eq_getElem hil]; rfl
  have hqD:qs.getD i (0,[])=qs[i]:=by rw[List.getD_eq_getElem?_getD,List.getElem?_eq_getElem ahW]; rfl
  have hcut:(l.drop (2 * i)).take 2=[N .u64 (ps[i].1:Int),w]:=by
   obtain⟨q1,q2⟩:=List.getElem?_eq_some_iff.1 a1
   obtain⟨r1,r2⟩:=List.getElem?_eq_some_iff.1 a2
   rw[List.drop_eq_getElem_cons q1,List.drop_eq_getElem_cons r1,q2,r2]; rfl
  rw[afW]
  refine⟨by omega,by omega,by simp only[Int.toNat_natCast]; omega, ?_⟩
  rw[Int.toNat_natCast,Nat.mul_comm i 2,hcut,bg]
  have hw1:=aL.one a3
  rw[iw (n:=2) (x:=.agg [N .u64 (ps[i].1:Int),w]) (l:=[N .u64 0,.sc (.slice none 0 0)]) (RM.aT _) rfl rfl (by simp[AV.cells,hw1]; rfl)]
  have kk:ag [] M3 ((M3.push (.row [N .u64 0,.sc (.slice none 0 0)] false T 0)).put M3.next (.row (AV.agg [N .u64 (ps[i].1:Int),w]).cells false T 0)):=((ag.refl _ _).push _).new _ (Nat.le_refl _)
  have hh' : ((M3.push (.row [N .u64 0,.sc (.slice none 0 0)] false T 0)).put M3.next (.row (AV.agg [N .u64 (ps[i].1:Int),w]).cells false T 0)).heap M3.next=some (.row [N .u64 (ps[i].1:Int),w] false T 0):=aU _
  generalize (M3.push (.row [N .u64 0,.sc (.slice none 0 0)] false T 0)).put M3.next (.row (AV.agg [N .u64 (ps[i].1:Int),w]).cells false T 0)=M4 at *
  have k4:=hK.trans kk
  have s4:Sl bf M4 w ps[i].2:=aL.keep a3 k4 (by simp)
  have t4:Sl bf M4 w' qs[i].2:=aL.keep b3 k4 (by simp)
  have hb4:=k4.aQ hb h'.lt (by simp)
  have hxl:=hpl _ (List.getElem_mem hil)
  obtain⟨hqa,hqn⟩:=hql _ (List.getElem_mem ahW)
  rw[aO,bK,BX]
  refine⟨by omega,by omega, ?_⟩
  rw[Int.toNat_natCast,Nat.zero_add,Nat.mul_comm i 2,bK,az hh' rfl,aO,aN,Nat.add_zero,az hb4 b1,mh]
  have fail:∀ M5,ag [] M4 M5→ze ps[i] qs[i]=false→Q (Bo false) M5:=fun M5 k5 hf=>by
   have:BN ps qs=false:=by
    rw[Bool.eq_false_iff]
    intro hall
    have:=MQ.1 hall i hlt
    rw[hpD,hqD,hf] at this
    cases this
   rw[← this]
   exact hQ M5 (k4.trans k5)
  refine aC (fun hg=>fail M4 (ag.refl _ _) ?_) (fun hg=>?_)
  ·have:((ps[i].1:Nat) : Int) > ((qs[i].1:Nat) : Int):=of_decide_eq_true hg
   unfold ze
   rw[show decide (ps[i].1≤qs[i].1)=false by simp; omega,Bool.false_and]
  ·have hle:ps[i].1≤qs[i].1:=by
    have:¬ ((ps[i].1:Nat) : Int) > ((qs[i].1:Nat) : Int):=of_decide_eq_false hg
    omega
   rw[bK,az hh' rfl,aL.len s4]
   refine aG (fun m ys M5=>∃ (j:Nat),m=ps[i].2.length - j∧ys=[N .i64 (j:Int)]∧j≤ps[i].2.length∧M5=M4∧ps[i].2.all (fT qs[i])=(ps[i].2.drop j).all (fT qs[i])) _
    ⟨0,rfl,rfl,Nat.zero_le _,rfl,rfl⟩ ?_
   rintro iq m ys M5 dm ⟨j,rfl,rfl,hj,rfl,hall⟩
   dsimp only[aa]
   rw[dL]
   refine aC (fun hlt2=>?_) (fun mU=>?_)
   ·have hlt2:j<ps[i].2.length:=by simpa using hlt2
    obtain⟨b9,o9,_,_,hidx,hc⟩:=Sl.Kq (E:=bf) s4 (j:Int) hlt2
    rw[List.drop_eq_getElem_cons hlt2,List.all_cons] at hall
    rw[hidx,gX]
    refine⟨_,hc _ rfl, ?_⟩
    refine hh hb4 b1 b2 t4 hqa hqn ?_
    rw[bD]
    cases hhas:fT (qs[i].1,qs[i].2) ps[i].2[j] with
    | false =>
      have hhas:fT qs[i] ps[i].2[j]=false:=hhas
      rw[Bool.not_false,dP]
      refine fail M5 (ag.refl _ _) ?_
      unfold ze
      rw[hall,hhas,Bool.false_and,Bool.and_false]
    | true =>
      have hhas:fT qs[i] ps[i].2[j]=true:=hhas
      rw[Bool.not_true,bA,dw,gL (by omega)]
      refine dm _ _ _ (by omega) ⟨j + 1,rfl,rfl,by omega,rfl, ?_⟩
      rw[hall,hhas,Bool.true_and]
   ·have he:j=ps[i].2.length:=by simp at mU; omega
    subst he
    rw[List.drop_length,List.all_nil] at hall
    rw[dw,gL (by omega)]
    refine hnext _ _ _ (by omega) ⟨i + 1,rfl,rfl,by omega,k4,fun j hj=>?_⟩
    rcases Nat.lt_or_ge j i with h | h
    ·exact hset j h
    ·have:j=i:=by omega
     subst this
     rw[hpD,hqD]
     unfold ze
     rw[hall,Bool.and_true]
     simpa using hle
 ·have he:i=16:=by
   have:¬ (i:Int)<16:=of_decide_eq_false hge
   omega
  subst he
  have:BN ps qs=true:=MQ.2 hset
  rw[← this]
  exact hQ M3 hK
def iV (ps:List Pt) (d:aH) : Bool:=good d && fT (ps.getD d.1.toNat (0,[])) d.2
def aeg (T:Nat) (c:ak) : Prop:=∀ {M:RM} {b:Nat} {ps:List Pt} {d:aH} {S:Nat→Prop} {Q:aj},iF T S M b ps→(∀ q∈ps,Asc q.2∧q.2.length≤1000000) →
 (∀ M',ag [] M M'→Q (Bo (iV ps d)) M')→c [.ptr b 0,.agg (aR d)] M Q
theorem ae5 {TS T:Nat} {cg ch:ak} (hg:DZ cg) (hh:Vv ch) : aeg TS fun args M Q=>∃ a0 a1,args=[a0,a1]∧KS T cg ch a0 a1 M Q:=by
 intro M b ps d S Q h hql hQ
 refine⟨_,_,rfl, ?_⟩
 unfold KS
 simp only[eu,dE]
 rw[dX rfl (by simp),bg,eQ (n:=2) (RM.aT _) rfl]
 have k1:ag [] M (M.push (.row (aR d) false T 0)):=(ag.refl _ _).push _
 have h3:(M.push (.row (aR d) false T 0)).heap M.next=some (.row (aR d) false T 0):=RM.aT _
 have n1:(M.push (.row (aR d) false T 0)).next=M.next + 1:=rfl
 generalize M.push (.row (aR d) false T 0)=M1 at *
 refine hg fun M2 k2=>?_
 have kk:=k1.trans k2
 have h3:=k2.aQ h3 (by omega) (by simp)
 have hQ:=hQ M2 kk
 unfold iV at hQ
 cases hgd:good d with
 | false =>
   rw[bN]
   dsimp only
   rw[bT]
   rw[hgd,Bool.false_and] at hQ
   exact hQ
 | true =>
   rw[hgd,Bool.true_and] at hQ
   simp[good] at hgd
   obtain⟨i,hi⟩ : ∃ i:Nat,d.1=(i:Int):=⟨d.1.toNat,by omega⟩
   have agm:i<16:=by omega
   have s2:=h.keep kk (by simp) (by simp)
   have hil:i<ps.length:=by rw[h.len]; exact agm
   have hpD:ps.getD d.1.toNat (0,[])=ps[i]:=by rw[hi,Int.toNat_natCast,List.getD_eq_getElem?_getD,List.getElem?_eq_getElem hil]; rfl
   rw[hpD] at hQ
   obtain⟨l,hb,ad4,hrow⟩:=s2.row
   obtain⟨v,a1,a2,a3,a4,a5⟩:=hrow i hil
   obtain⟨hqa,hqn⟩:=hql _ (List.getElem_mem hil)
   rw[bZ]
   dsimp only
   rw[bK,az h3 rfl,aO,bK,hi,BX]
   refine⟨by omega,by omega, ?_⟩
   rw[bK,az h3 rfl,Int.toNat_natCast,Nat.zero_add,Nat.mul_comm i 2]
   refine hh hb a1 a2 a3 hqa hqn ?_
   rw[dC]
   exact hQ
abbrev lN:Nat→Nat→Bool:=fun x y=>decide (x<y)
def PM (M:RM) (b T:Nat) (d:Array Nat) : RM:=M.put b (.row (bf.row d.toList) true T 0)
abbrev vv (b n:Nat) : AV:=.slc b 0 n (.op 1)
section
variable {M:RM} {b T n i j:Nat} {d:Array Nat} {K:AV→Prop}
theorem PM.heap:(PM M b T d).heap b=some (.row (bf.row d.toList) true T 0):=RM.wm _ _
theorem PM.Ov:(bf.row d.toList).length=d.size:=by rw[Enc.eH]; simp[bf]
theorem yI (hi:i<d.size) : d[i]! = d[i]:=getElem!_pos d i hi
theorem PM.cellAt (hi:i<d.size) : (bf.row d.toList)[i]?=some (N .u64 ((d[i]! : Nat) : Int)):=by
 rw[Uj,List.getElem?_map,Array.getElem?_toList,yI hi,Array.getElem?_eq_getElem hi]; rfl
theorem PM.idx {kd:IntKind} (hi:i<n) : ah (vv b n) (N kd (i:Int)) 1 K=K (.ptr b i):=by
 rw[ma]
 simp only[Int.toNat_natCast]
 rw[show 0 + i * 1=i by omega]
 exact propext ⟨fun h=>h.2.2,fun h=>⟨by omega,by omega,h⟩⟩
theorem PM.rd {kd:IntKind} (hn:n=d.size) (hi:i<d.size) : (ah (vv b n) (N kd (i:Int)) 1 fun p=>au (PM M b T d) p K)=K (N .u64 ((d[i]! : Nat) : Int)):=by
 rw[PM.idx (by omega),az PM.heap (PM.cellAt hi)]
theorem PM.put {x:Nat} (hi:i<d.size) {K:RM→Prop} : aF (PM M b T d) (.ptr b i) (N .u64 (x:Int)) 1 K=K (PM M b T (d.setIfInBounds i x)):=by
 rw[gY PM.heap (by rw[PM.Ov]; exact hi) rfl rfl]
 congr 1
 have e:(bf.row d.toList).set i (N .u64 (x:Int))=bf.row (d.setIfInBounds i x).toList:=by rw[Uj,Uj,Array.toList_setIfInBounds,List.map_set]
 rw[e,PM,PM]
 unfold RM.put
 congr 1
 funext c
 by_cases h:c=b <;> simp[h]
theorem PM.swap {k1 k2:IntKind} (hn:n=d.size) (hi:i<d.size) (hj:j<d.size) {K:RM→Prop} :
  (ah (vv b n) (N k1 (i:Int)) 1 fun p=>aF (PM M b T d) p (N .u64 ((d[j]! : Nat) : Int)) 1 fun M1=>ah (vv b n) (N k2 (j:Int)) 1 fun q=>aF M1 q (N .u64 ((d[i]! : Nat) : Int)) 1 K)=K (PM M b T (Sort.swp d i j)):=by
 rw[PM.idx (by omega),PM.put hi,PM.idx (by omega),PM.put (by simpa using hj)]
 rfl
theorem fP (d:Array Nat) (i j:Nat) : (Sort.swp d i j).size=d.size:=by simp[Sort.swp]
theorem PM.push {x:RB} (h:b<M.next) : (PM M b T d).push x=PM (M.push x) b T d:=by
 unfold PM RM.push RM.put
 congr 1
 funext c
 simp only
 by_cases h1:c=M.next <;> by_cases h2:c=b <;> simp[h1,h2] <;> omega
theorem PM.acK {x:RB} {c:Nat} (h:c≠b) : (PM M b T d).put c x=PM (M.put c x) b T d:=by
 unfold PM RM.put
 congr 1
 funext e
 simp only
 by_cases h1:e=c <;> by_cases h2:e=b <;> simp[h1,h2] <;> omega
theorem PM.PS {c:Nat} (h:c≠b) : (PM M b T d).heap c=M.heap c:=by
 unfold PM RM.put; simp[h]
theorem addN (h:i + j<4611686018427387904) : af .add (N .i64 (i:Int)) (N .i64 (j:Int)) K=K (N .i64 ((i + j:Nat) : Int)):=by
 rw[dw,aZ (by omega) (by omega),Int.natCast_add]
theorem add1 (h:i<4611686018427387904) : af .add (N .i64 (i:Int)) (N .i64 1) K=K (N .i64 ((i + 1:Nat) : Int)):=by
 rw[dw,gL (by omega)]
theorem eP (h:j≤i) (hb:i<4611686018427387904) : af .sub (N .i64 (i:Int)) (N .i64 (j:Int)) K=K (N .i64 ((i - j:Nat) : Int)):=by
 rw[iX,aZ (by omega) (by omega),show(i:Int) - (j:Int)=((i - j:Nat) : Int) by omega]
theorem bz (h:1≤i) (hb:i<4611686018427387904) : af .sub (N .i64 (i:Int)) (N .i64 1) K=K (N .i64 ((i - 1:Nat) : Int)):=eP h hb
theorem agA (hb:i<1152921504606846976) : af .mul (N .i64 2) (N .i64 (i:Int)) K=K (N .i64 ((2 * i:Nat) : Int)):=by
 rw[wy,aZ (by omega) (by omega),show(2:Int) * (i:Int)=((2 * i:Nat) : Int) by omega]
theorem dB:af .lss (N .i64 (i:Int)) (N .i64 (j:Int)) K=K (Bo (decide (i<j))):=by rw[dL,show decide ((i:Int)<(j:Int))=decide (i<j) by simp]
theorem pV:af .gtr (N .i64 (i:Int)) (N .i64 (j:Int)) K=K (Bo (decide (i > j))):=by rw[mh,show decide ((i:Int) > (j:Int))=decide (i > j) by simp]
theorem mo:af .leq (N .i64 (i:Int)) (N .i64 (j:Int)) K=K (Bo (decide (i≤j))):=by rw[nP,show decide ((i:Int)≤(j:Int))=decide (i≤j) by simp]
theorem jy:af .geq (N .i64 (i:Int)) (N .i64 (j:Int)) K=K (Bo (decide (i ≥ j))):=by rw[iW,show decide ((i:Int) ≥ (j:Int))=decide (i ≥ j) by simp]
theorem Tj:af .eql (N .i64 (i:Int)) (N .i64 (j:Int)) K=K (Bo (decide (i=j))):=by
 rw[bL,show((i:Int) == (j:Int))=decide (i=j) by by_cases h:i=j <;> simp[h]; omega]
end
def Bh (T:Nat) (f:Array Nat→Nat→Nat→Array Nat) (P:Array Nat→Nat→Nat→Prop) (c:ak) : Prop:=∀ {M:RM} {b a e:Nat} {d:Array Nat} {Q:aj},b<M.next→d.size≤1000000→a≤e→e≤d.size→P d a e→Q (.tup []) (PM M b T (f d a e)) →
 c [vv b d.size,N .i64 (a:Int),N .i64 (e:Int)] (PM M b T d) Q
theorem MG (a:Nat) : ∀ (j:Nat) (d:Array Nat),(Sort.insInner lN a j d).size=d.size
 | 0,d=>rfl
 | j + 1,d=>by
   rw[Sort.insInner]
   split
   ·rw[MG a j,fP]
   ·rfl
theorem age {T:Nat} {cl:ak} (hl:zG cl) : Bh T (Sort.insertionSort lN) (fun _ _ _=>True) fun args M Q=>∃ a0 a1 a2,args=[a0,a1,a2]∧fU cl a0 a1 a2 M Q:=by
 intro M b a e d Q hb hsz hae he _ hQ
 refine⟨_,_,_,rfl, ?_⟩
 unfold fU
 simp only[eu,dE,dQ]
 rw[add1 (by omega)]
 rw[Sort.insertionSort] at hQ
 obtain⟨R,hR⟩ : ∃ R,R=Sort.insOuter lN a e (a + 1) d:=⟨_,rfl⟩
 rw[← hR] at hQ
 refine aG (fun m ys M3=>∃ (i:Nat) (d3:Array Nat),m=d.size - i∧ys=[N .i64 (i:Int)]∧i≤d.size + 1∧M3=PM M b T d3∧d3.size=d.size∧R=Sort.insOuter lN a e i d3) _ ⟨a + 1,d,rfl,rfl,by omega,rfl,rfl,hR⟩ ?_
 rintro next m ys M3 hnext ⟨i,d3,rfl,rfl,hi,rfl,hs3,hm⟩
 dsimp only[aa]
 rw[dB]
 refine aC (fun hlt=>?_) (fun hge=>?_)
 ·have hlt:i<e:=of_decide_eq_true hlt
  rw[Sort.insOuter,if_pos hlt] at hm
  obtain⟨R5,hR5⟩ : ∃ R5,R5=Sort.insInner lN a i d3:=⟨_,rfl⟩
  rw[← hR5] at hm
  refine aG (fun m ys M5=>∃ (j:Nat) (d5:Array Nat),m=j + 1∧ys=[N .i64 (j:Int)]∧j≤i∧M5=PM M b T d5∧d5.size=d.size∧R5=Sort.insInner lN a j d5) _ ⟨i,d3,rfl,rfl,Nat.le_refl _,rfl,hs3,hR5⟩ ?_
  rintro iq m ys M5 dm ⟨j,d5,rfl,rfl,hj,rfl,hs5,hm5⟩
  dsimp only[aa]
  rw[pV]
  have out:Sort.insInner lN a j d5=d5→af .add (N .i64 (i:Int)) (N .i64 1) (fun t14=>next [t14] (PM M b T d5)):=fun h=>by
   rw[add1 (by omega)]
   refine hnext _ _ _ (by omega) ⟨i + 1,d5,rfl,rfl,by omega,rfl,hs5, ?_⟩
   rw[hm,hm5,h]
  by_cases hg:j > a
  ·obtain⟨k,rfl⟩ : ∃ k,j=k + 1:=⟨j - 1,by omega⟩
   rw[decide_eq_true hg,bZ]
   dsimp only
   rw[PM.rd hs5.symm (by omega),bz (by omega) (by omega),Nat.add_sub_cancel,PM.rd hs5.symm (by omega)]
   refine hl ?_
   rw[dC]
   rw[Sort.insInner] at hm5 out
   refine aC (fun h=>?_) (fun h=>?_)
   ·rw[if_pos (by simp[hg,h])] at hm5
    rw[bz (by omega) (by omega),bz (by omega) (by omega),Nat.add_sub_cancel,PM.rd hs5.symm (by omega),PM.rd hs5.symm (by omega),PM.swap hs5.symm (by omega) (by omega),bz (by omega) (by omega),Nat.add_sub_cancel]
    exact dm _ _ _ (by omega) ⟨k,_,rfl,rfl,by omega,rfl,by rw[fP]; exact hs5,hm5⟩
   ·exact out (by rw[if_neg (by simp[h])])
  ·rw[decide_eq_false hg,bN]
   dsimp only
   rw[bT,bA]
   refine out ?_
   cases j with
   | zero=>rfl
   | succ k=>rw[Sort.insInner,if_neg (by simp[hg])]
 ·have hge:¬ i<e:=of_decide_eq_false hge
  rw[Sort.insOuter,if_neg hge] at hm
  rw[hm] at hQ
  exact hQ
theorem Z7 {T:Nat} : Bh T Sort.reverseRange (fun _ a e=>a<e) fun args M Q=>∃ a0 a1 a2,args=[a0,a1,a2]∧kL a0 a1 a2 M Q:=by
 intro M b a e d Q hb hsz hae he hP hQ
 refine⟨_,_,_,rfl, ?_⟩
 unfold kL
 rw[bz (by omega) (by omega)]
 rw[Sort.reverseRange] at hQ
 obtain⟨R,hR⟩ : ∃ R,R=Sort.reverseLoop a (e - 1) d:=⟨_,rfl⟩
 rw[← hR] at hQ
 refine aG (fun m ys M3=>∃ (i j:Nat) (d3:Array Nat),m=j - i∧ys=[N .i64 (i:Int),N .i64 (j:Int)]∧j<d.size∧i≤d.size∧M3=PM M b T d3∧d3.size=d.size∧R=Sort.reverseLoop i j d3) _ ⟨a,e - 1,d,rfl,rfl,by omega,by omega,rfl,rfl,hR⟩ ?_
 rintro next m ys M3 hnext ⟨i,j,d3,rfl,rfl,hj,hi,rfl,hs3,hm⟩
 dsimp only[aa]
 rw[dB]
 rw[Sort.reverseLoop] at hm
 refine aC (fun hlt=>?_) (fun hge=>?_)
 ·have hlt:i<j:=of_decide_eq_true hlt
  rw[if_pos hlt] at hm
  rw[PM.rd hs3.symm (by omega),PM.rd hs3.symm (by omega),PM.swap hs3.symm (by omega) (by omega),add1 (by omega),bz (by omega) (by omega)]
  exact hnext _ _ _ (by omega) ⟨i + 1,j - 1,_,rfl,rfl,by omega,by omega,rfl,by rw[fP]; exact hs3,hm⟩
 ·have hge:¬ i<j:=of_decide_eq_false hge
  rw[if_neg hge] at hm
  rw[hm] at hQ
  exact hQ
def ads (T:Nat) (c:ak) : Prop:=∀ {M:RM} {b lo hi first:Nat} {d:Array Nat} {Q:aj},b<M.next→d.size≤1000000→first + hi≤d.size→lo≤1000000→Q (.tup []) (PM M b T (Sort.siftDown lN hi first lo d)) →
 c [vv b d.size,N .i64 (lo:Int),N .i64 (hi:Int),N .i64 (first:Int)] (PM M b T d) Q
theorem BI (hi first:Nat) : ∀ (k lo:Nat) (d:Array Nat),hi - lo≤k→(Sort.siftDown lN hi first lo d).size=d.size
 | 0,lo,d,h=>by rw[Sort.siftDown,dif_pos (by omega)]
 | k + 1,lo,d,h=>by
   rw[Sort.siftDown]
   split
   ·rfl
   ·split
    ·split
     ·rfl
     ·split
      ·rw[BI hi first k _ _ (by omega),fP]
      ·rfl
    ·split
     ·rfl
     ·rw[BI hi first k _ _ (by omega),fP]
theorem af7 {T:Nat} {cl:ak} (hl:zG cl) : ads T fun args M Q=>∃ a0 a1 a2 a3,args=[a0,a1,a2,a3]∧nO cl a0 a1 a2 a3 M Q:=by
 intro M b lo hi first d Q hb hsz hfe hlo hQ
 refine⟨_,_,_,_,rfl, ?_⟩
 unfold nO
 simp only[eu,dE,dQ,bF]
 obtain⟨R,hR⟩ : ∃ R,R=Sort.siftDown lN hi first lo d:=⟨_,rfl⟩
 rw[← hR] at hQ
 refine aG (fun m ys M3=>∃ (r:Nat) (d3:Array Nat),m=1000000 + hi - r∧ys=[N .i64 (r:Int)]∧(r≤1000000)∧M3=PM M b T d3∧d3.size=d.size∧R=Sort.siftDown lN hi first r d3) _ ⟨lo,d,rfl,rfl,hlo,rfl,rfl,hR⟩ ?_
 rintro next m ys M3 hnext ⟨r,d3,rfl,rfl,hr,rfl,hs3,hm⟩
 dsimp only[aa]
 rw[agA (by omega),add1 (by omega),jy]
 rw[Sort.siftDown] at hm
 refine aC (fun hg=>?_) (fun hg=>?_)
 ·rw[dif_pos (of_decide_eq_true hg)] at hm
  rw[hm] at hQ
  exact hQ
 have hg:¬ 2 * r + 1 ≥ hi:=of_decide_eq_false hg
 rw[dif_neg hg] at hm
 -- the child that is taken
 refine aP (fun zs M'=>∃ c:Nat,zs=[N .i64 (c:Int)]∧M'=PM M b T d3∧r<c∧c<hi∧R=if !lN d3[first + r]! d3[first + c]! then d3 else Sort.siftDown lN hi first c (Sort.swp d3 (first + r) (first + c))) ?_ ?_
 ·rintro zs M' ⟨c,rfl,rfl,hrc,aqJ,hm2⟩
  dsimp only[aa]
  rw[addN (by omega),PM.rd hs3.symm (by omega),addN (by omega),PM.rd hs3.symm (by omega)]
  refine hl ?_
  rw[bD]
  refine aC (fun h=>?_) (fun h=>?_)
  ·rw[if_pos h] at hm2
   rw[hm2] at hQ
   exact hQ
  ·rw[if_neg (by simp only[lN,h]; decide)] at hm2
   rw[addN (by omega),addN (by omega),addN (by omega),PM.rd hs3.symm (by omega),addN (by omega),PM.rd hs3.symm (by omega),PM.swap hs3.symm (by omega) (by omega)]
   exact hnext _ _ _ (by omega) ⟨c,_,rfl,rfl,by omega,rfl,by rw[fP]; exact hs3,hm2⟩
 intro J hJ
 rw[add1 (by omega),dB]
 have one:¬ (2 * r + 1 + 1<hi∧lN d3[first + (2 * r + 1)]! d3[first + (2 * r + 1) + 1]! = true)→J [N .i64 ((2 * r + 1:Nat) : Int)] (PM M b T d3):=fun h=>by
  refine hJ _ _ ⟨2 * r + 1,rfl,rfl,by omega,by omega, ?_⟩
  rw[if_neg (by simpa using h)] at hm
  exact hm
 by_cases h1:2 * r + 1 + 1<hi
 ·rw[decide_eq_true h1,bZ]
  dsimp only
  rw[addN (by omega),PM.rd hs3.symm (by omega),addN (by omega),add1 (by omega),PM.rd hs3.symm (by omega)]
  refine hl ?_
  rw[dC]
  refine aC (fun h=>?_) (fun h=>?_)
  ·rw[add1 (by omega)]
   refine hJ _ _ ⟨2 * r + 2,rfl,rfl,by omega,by omega, ?_⟩
   rw[if_pos (by simp only[lN,h,decide_eq_true h1,Bool.and_self]),dif_pos (by omega)] at hm
   exact hm
  ·exact one (fun h'=>by have:=h'.2; rw[show lN d3[first + (2 * r + 1)]! d3[first + (2 * r + 1) + 1]! = false from h] at this; cases this)
 ·rw[decide_eq_false h1,bN]
  dsimp only
  rw[bT,bA]
  exact one (fun h=>h1 h.1)
theorem Yx (hi first:Nat) : ∀ (k:Nat) (d:Array Nat),(Sort.heapBuild lN hi first k d).size=d.size
 | 0,d=>rfl
 | k + 1,d=>by rw[Sort.heapBuild,Yx hi first k,BI hi first hi _ _ (by omega)]
theorem afC {T:Nat} {cs:ak} (hs:ads T cs) : Bh T (Sort.heapSort lN) (fun _ a e=>a<e) fun args M Q=>∃ a0 a1 a2,args=[a0,a1,a2]∧nN cs a0 a1 a2 M Q:=by
 intro M b a e d Q hb hsz hae he hP hQ
 refine⟨_,_,_,rfl, ?_⟩
 unfold nN
 rw[Sort.heapSort] at hQ
 rw[eP hae (by omega),bz (by omega) (by omega),mg]
 refine⟨by decide, ?_⟩
 rw[show(2:Int)=((2:Nat) : Int) from rfl,show((e - a - 1:Nat) : Int).tdiv ((2:Nat) : Int)=(((e - a - 1) / 2:Nat) : Int) by rw[Int.tdiv_eq_ediv_of_nonneg (by omega)]; rfl,aZ (by omega) (by omega)]
 obtain⟨R,hR⟩ : ∃ R,R=Sort.heapBuild lN (e - a) a ((e - a - 1) / 2 + 1) d:=⟨_,rfl⟩
 rw[← hR] at hQ
 refine aG (fun m ys M3=>∃ (k:Nat) (d3:Array Nat),m=k + 1∧ys=[N .i64 ((k:Int) - 1)]∧k≤(e - a - 1) / 2 + 1∧M3=PM M b T d3∧d3.size=d.size∧R=Sort.heapBuild lN (e - a) a k d3) _ ⟨(e - a - 1) / 2 + 1,d,rfl,by congr 3; omega,Nat.le_refl _,rfl,rfl,hR⟩ ?_
 rintro next m ys M3 hnext ⟨k,d3,rfl,rfl,hk,rfl,hs3,hm⟩
 dsimp only[aa]
 rw[iW]
 refine aC (fun hg=>?_) (fun hg=>?_)
 ·have hg:1≤k:=by
   have:(k:Int) - 1 ≥ 0:=of_decide_eq_true hg
   omega
  obtain⟨k',rfl⟩ : ∃ k',k=k' + 1:=⟨k - 1,by omega⟩
  rw[Sort.heapBuild] at hm
  rw[show((k' + 1:Nat) : Int) - 1=(k' : Int) by omega,← hs3]
  refine hs hb (by omega) (by omega) (by omega) ?_
  rw[iX,aZ (by omega) (by omega)]
  exact hnext _ _ _ (by omega) ⟨k',_,rfl,rfl,by omega,rfl,by rw[BI _ _ (e - a) _ _ (by omega)]; exact hs3,hm⟩
 ·have hk0:k=0:=by
   have:¬ (k:Int) - 1 ≥ 0:=of_decide_eq_false hg
   omega
  subst hk0
  rw[Sort.heapBuild] at hm
  rw[hm] at hQ
  rw[bz (by omega) (by omega)]
  obtain⟨R4,hR4⟩ : ∃ R4,R4=Sort.heapPop lN a (e - a) d3:=⟨_,rfl⟩
  rw[← hR4] at hQ
  refine aG (fun m ys M4=>∃ (k:Nat) (d4:Array Nat),m=k + 1∧ys=[N .i64 ((k:Int) - 1)]∧k≤e - a∧M4=PM M b T d4∧d4.size=d.size∧R4=Sort.heapPop lN a k d4) _ ⟨e - a,d3,rfl,by congr 3; omega,Nat.le_refl _,rfl,hs3,hR4⟩ ?_
  rintro iq m ys M4 dm ⟨k,d4,rfl,rfl,hk,rfl,hs4,hm4⟩
  dsimp only[aa]
  rw[iW]
  refine aC (fun hg=>?_) (fun hg=>?_)
  ·have hg:1≤k:=by
    have:(k:Int) - 1 ≥ 0:=of_decide_eq_true hg
    omega
   obtain⟨k',rfl⟩ : ∃ k',k=k' + 1:=⟨k - 1,by omega⟩
   rw[Sort.heapPop] at hm4
   rw[show((k' + 1:Nat) : Int) - 1=(k' : Int) by omega,addN (by omega),addN (by omega),PM.rd hs4.symm (by omega),PM.rd hs4.symm (by omega),PM.swap hs4.symm (by omega) (by omega),show d.size=(Sort.swp d4 a (a + k')).size by rw[fP]; exact hs4.symm]
   refine hs (lo:=0) hb (by rw[fP]; omega) (by rw[fP]; omega) (by decide) ?_
   rw[iX,aZ (by omega) (by omega)]
   exact dm _ _ _ (by omega) ⟨k',_,rfl,rfl,by omega,rfl,by rw[BI _ _ k' _ _ (by omega),fP]; exact hs4,hm4⟩
  ·have hk0:k=0:=by
    have:¬ (k:Int) - 1 ≥ 0:=of_decide_eq_false hg
    omega
   subst hk0
   rw[Sort.heapPop] at hm4
   rw[hm4] at hQ
   exact hQ
section
variable {body:(List AV→RM→Prop)→List AV→RM→Prop} {p:Nat→Bool} {d:Array Nat} {M:RM}
theorem RH {J i0:Nat} (h:∀ (next:List AV→RM→Prop) (i:Nat),i0≤i→i≤max (J + 1) i0→((decide (i≤J) && p d[i]!)=true→next [N .i64 ((i + 1:Nat) : Int)] M)→((decide (i≤J) && p d[i]!)=false→i=Sort.scanUp p d J i0)→body next [N .i64 (i:Int)] M) :
  aM body [N .i64 (i0:Int)] M:=by
 obtain⟨R,hR⟩ : ∃ R,R=Sort.scanUp p d J i0:=⟨_,rfl⟩
 refine aG (fun m ys M3=>∃ (i:Nat),m=J + 1 - i∧ys=[N .i64 (i:Int)]∧i0≤i∧i≤max (J + 1) i0∧M3=M∧R=Sort.scanUp p d J i) _ ⟨i0,rfl,rfl,Nat.le_refl _,by omega,rfl,hR⟩ ?_
 rintro next m ys M3 hnext ⟨i,rfl,rfl,h0,hi,rfl,hm⟩
 rw[Sort.scanUp] at hm
 refine h next i h0 hi (fun hc=>?_) (fun hc=>?_)
 ·rw[if_pos hc] at hm
  have hij:i≤J:=by
   rw[Bool.and_eq_true] at hc
   exact of_decide_eq_true hc.1
  exact hnext _ _ _ (by omega) ⟨i + 1,rfl,rfl,by omega,by omega,rfl,hm⟩
 ·rw[if_neg (by rw[hc]; decide)] at hm
  rw[← hR]; exact hm.symm
theorem KM {i j0:Nat} (h1:1≤i) (h:∀ (next:List AV→RM→Prop) (j:Nat),j≤j0→(j=j0∨i≤j + 1)→((decide (i≤j) && p d[j]!)=true→next [N .i64 ((j - 1:Nat) : Int)] M)→((decide (i≤j) && p d[j]!)=false→j=Sort.scanDown p d i j0)→body next [N .i64 (j:Int)] M) :
  aM body [N .i64 (j0:Int)] M:=by
 obtain⟨R,hR⟩ : ∃ R,R=Sort.scanDown p d i j0:=⟨_,rfl⟩
 refine aG (fun m ys M3=>∃ (j:Nat),m=j + 1∧ys=[N .i64 (j:Int)]∧j≤j0∧(j=j0∨i≤j + 1)∧M3=M∧R=Sort.scanDown p d i j) _ ⟨j0,rfl,rfl,Nat.le_refl _,.inl rfl,rfl,hR⟩ ?_
 rintro next m ys M3 hnext ⟨j,rfl,rfl,h0,hi,rfl,hm⟩
 refine h next j h0 hi (fun hc=>?_) (fun hc=>?_)
 ·have hij:i≤j:=by
   rw[Bool.and_eq_true] at hc
   exact of_decide_eq_true hc.1
  obtain⟨k,rfl⟩ : ∃ k,j=k + 1:=⟨j - 1,by omega⟩
  rw[Sort.scanDown,if_pos hc] at hm
  exact hnext _ _ _ (by omega) ⟨k,rfl,rfl,by omega,by omega,rfl,hm⟩
 ·rw[← hR]
  cases j with
  | zero=>exact hm.symm
  | succ k=>rw[Sort.scanDown,if_neg (by rw[hc]; decide)] at hm; exact hm.symm
end
theorem BH {d d' : Array Nat} {i j:Nat} (h:d'.size=d.size) : (Sort.swp d' i j).size=d.size:=by rw[fP,h]
def Rz (T:Nat) (c:ak) : Prop:=∀ {M:RM} {b a e pv:Nat} {d:Array Nat} {Q:aj},b<M.next→d.size≤1000000→a≤pv→pv<e→e≤d.size→Q (N .i64 (((Sort.partitionEqual lN d a e pv).1:Nat) : Int)) (PM M b T (Sort.partitionEqual lN d a e pv).2) →
 c [vv b d.size,N .i64 (a:Int),N .i64 (e:Int),N .i64 (pv:Int)] (PM M b T d) Q
theorem andM {c p:Bool} {f:aj→Prop} {M:RM} {G:AV→RM→Prop} (hf:c=true→∀ k:aj,k (Bo p) M→f k) (hG:G (Bo (c && p)) M) :
  ai (Bo c) true f (fun k=>k .undef M) (fun t M'=>aK (Bo c) t (Bo false) fun u=>G u M'):=by
 cases c with
 | false=>rw[bN]; dsimp only; rw[bT]; exact hG
 | true=>rw[bZ]; exact hf rfl _ (by rw[dC]; exact hG)
theorem Wn {c p:Bool} {f:KR→Prop} {M:RM} {G:AV→RM→Prop} (hf:c=true→∀ k:KR,k (Bo p) M none→f k) (hG:G (Bo (c && p)) M) :
  ae (Bo c) true f (fun k=>k .undef M none) (fun t M' b=>aK (Bo c) t (Bo false) fun u=>G u M'):=by
 cases c with
 | false=>rw[gG]; dsimp only; rw[bT]; exact hG
 | true=>rw[gI]; exact hf rfl _ (by rw[dC]; exact hG)
theorem aa2 {T:Nat} {cl:ak} (hl:zG cl) : Rz T fun args M Q=>∃ a0 a1 a2 a3,args=[a0,a1,a2,a3]∧j4 cl a0 a1 a2 a3 M Q:=by
 intro M b a e pv d Q hb hsz hap hpe he hQ
 refine⟨_,_,_,_,rfl, ?_⟩
 unfold j4
 simp only[eu,dE,dQ]
 rw[Sort.partitionEqual] at hQ
 rw[PM.rd rfl (by omega),PM.rd rfl (by omega),PM.swap rfl (by omega) (by omega),add1 (by omega),bz (by omega) (by omega)]
 obtain⟨R,hR⟩ : ∃ R,R=Sort.partEqLoop lN a (a + 1) (e - 1) (Sort.swp d a pv):=⟨_,rfl⟩
 rw[← hR] at hQ
 refine aG (fun m ys M3=>∃ (i j:Nat) (d3:Array Nat),m=j + 1 - i∧ys=[N .i64 (i:Int),N .i64 (j:Int)]∧a + 1≤i∧i≤e + 1∧j<e∧M3=PM M b T d3∧d3.size=d.size∧R=Sort.partEqLoop lN a i j d3) _ ⟨a + 1,e - 1,_,rfl,rfl,Nat.le_refl _,by omega,by omega,rfl,fP _ _ _,hR⟩ ?_
 rintro next m ys M3 hnext ⟨i,j,d3,rfl,rfl,hai,hie,hje,rfl,hs3,hm⟩
 dsimp only[aa]
 rw[Sort.partEqLoop] at hm
 refine RH (p:=fun x=>!lN d3[a]! x) (d:=d3) (J:=j) fun iq i2 h0 h1 hgo hstop=>?_
 dsimp only[aa]
 rw[mo]
 refine Wn (p:=!lN d3[a]! d3[i2]!) (fun hc k hk=>?_) ?_
 ·have hc:i2≤j:=of_decide_eq_true hc
  rw[PM.rd hs3.symm (by omega),PM.rd hs3.symm (by omega)]
  refine hl ?_
  rw[bD]
  exact hk
 refine aC (fun h=>?_) (fun h=>?_)
 ·rw[add1 (by omega)]
  exact hgo h
 have hi2:=hstop h
 rw[← hi2] at hm
 refine KM (p:=fun x=>lN d3[a]! x) (d:=d3) (i:=i2) (by omega) fun rV j2 q0 q1 tH lC=>?_
 dsimp only[aa]
 rw[mo]
 refine andM (p:=lN d3[a]! d3[j2]!) (fun hc k hk=>?_) ?_
 ·have hc:i2≤j2:=of_decide_eq_true hc
  rw[PM.rd hs3.symm (by omega),PM.rd hs3.symm (by omega)]
  exact hl hk
 refine aC (fun h=>?_) (fun h=>?_)
 ·have hc:i2≤j2:=by
   rw[Bool.and_eq_true] at h
   exact of_decide_eq_true h.1
  rw[bz (by omega) (by omega)]
  exact tH h
 have hj2:=lC h
 simp only[← hj2] at hm
 rw[pV]
 refine aC (fun hg=>?_) (fun hg=>?_)
 ·rw[if_pos (of_decide_eq_true hg)] at hm
  rw[hm] at hQ
  exact hQ
 ·have hg:¬ i2 > j2:=of_decide_eq_false hg
  rw[if_neg hg,dif_pos (by omega)] at hm
  rw[PM.rd hs3.symm (by omega),PM.rd hs3.symm (by omega),PM.swap hs3.symm (by omega) (by omega),add1 (by omega),bz (by omega) (by omega)]
  exact hnext _ _ _ (by omega) ⟨i2 + 1,j2 - 1,_,rfl,rfl,by omega,by omega,by omega,rfl,BH hs3,hm⟩
def aeN (T:Nat) (c:ak) : Prop:=∀ {M:RM} {b a e pv:Nat} {d:Array Nat} {Q:aj},b<M.next→d.size≤1000000→a≤pv→pv<e→e≤d.size→Q (.tup [N .i64 (((Sort.partition lN d a e pv).1:Nat) : Int),Bo (Sort.partition lN d a e pv).2.1]) (PM M b T (Sort.partition lN d a e pv).2.2) →
 c [vv b d.size,N .i64 (a:Int),N .i64 (e:Int),N .i64 (pv:Int)] (PM M b T d) Q
theorem Jz (d:Array Nat) (a e pv:Nat) : Sort.partition lN d a e pv =
  if Sort.scanUp (fun x=>lN x (Sort.swp d a pv)[a]!) (Sort.swp d a pv) (e - 1) (a + 1) > Sort.scanDown (fun x=>!lN x (Sort.swp d a pv)[a]!) (Sort.swp d a pv) (Sort.scanUp (fun x=>lN x (Sort.swp d a pv)[a]!) (Sort.swp d a pv) (e - 1) (a + 1)) (e - 1) then
   (Sort.scanDown (fun x=>!lN x (Sort.swp d a pv)[a]!) (Sort.swp d a pv) (Sort.scanUp (fun x=>lN x (Sort.swp d a pv)[a]!) (Sort.swp d a pv) (e - 1) (a + 1)) (e - 1),true,Sort.swp (Sort.swp d a pv) (Sort.scanDown (fun x=>!lN x (Sort.swp d a pv)[a]!) (Sort.swp d a pv) (Sort.scanUp (fun x=>lN x (Sort.swp d a pv)[a]!) (Sort.swp d a pv) (e - 1) (a + 1)) (e - 1)) a)
  else((Sort.partLoop lN a (Sort.scanUp (fun x=>lN x (Sort.swp d a pv)[a]!) (Sort.swp d a pv) (e - 1) (a + 1) + 1) (Sort.scanDown (fun x=>!lN x (Sort.swp d a pv)[a]!) (Sort.swp d a pv) (Sort.scanUp (fun x=>lN x (Sort.swp d a pv)[a]!) (Sort.swp d a pv) (e - 1) (a + 1)) (e - 1) - 1) (Sort.swp (Sort.swp d a pv) (Sort.scanUp (fun x=>lN x (Sort.swp d a pv)[a]!) (Sort.swp d a pv) (e - 1) (a + 1)) (Sort.scanDown (fun x=>!lN x (Sort.swp d a pv)[a]!) (Sort.swp d a pv) (Sort.scanUp (fun x=>lN x (Sort.swp d a pv)[a]!) (Sort.swp d a pv) (e - 1) (a + 1)) (e - 1)))).1,false,
   Sort.swp (Sort.partLoop lN a (Sort.scanUp (fun x=>lN x (Sort.swp d a pv)[a]!) (Sort.swp d a pv) (e - 1) (a + 1) + 1) (Sort.scanDown (fun x=>!lN x (Sort.swp d a pv)[a]!) (Sort.swp d a pv) (Sort.scanUp (fun x=>lN x (Sort.swp d a pv)[a]!) (Sort.swp d a pv) (e - 1) (a + 1)) (e - 1) - 1) (Sort.swp (Sort.swp d a pv) (Sort.scanUp (fun x=>lN x (Sort.swp d a pv)[a]!) (Sort.swp d a pv) (e - 1) (a + 1)) (Sort.scanDown (fun x=>!lN x (Sort.swp d a pv)[a]!) (Sort.swp d a pv) (Sort.scanUp (fun x=>lN x (Sort.swp d a pv)[a]!) (Sort.swp d a pv) (e - 1) (a + 1)) (e - 1)))).2
    (Sort.partLoop lN a (Sort.scanUp (fun x=>lN x (Sort.swp d a pv)[a]!) (Sort.swp d a pv) (e - 1) (a + 1) + 1) (Sort.scanDown (fun x=>!lN x (Sort.swp d a pv)[a]!) (Sort.swp d a pv) (Sort.scanUp (fun x=>lN x (Sort.swp d a pv)[a]!) (Sort.swp d a pv) (e - 1) (a + 1)) (e - 1) - 1) (Sort.swp (Sort.swp d a pv) (Sort.scanUp (fun x=>lN x (Sort.swp d a pv)[a]!) (Sort.swp d a pv) (e - 1) (a + 1)) (Sort.scanDown (fun x=>!lN x (Sort.swp d a pv)[a]!) (Sort.swp d a pv) (Sort.scanUp (fun x=>lN x (Sort.swp d a pv)[a]!) (Sort.swp d a pv) (e - 1) (a + 1)) (e - 1)))).1 a):=rfl
theorem afF {T:Nat} {cl:ak} (hl:zG cl) : aeN T fun args M Q=>∃ a0 a1 a2 a3,args=[a0,a1,a2,a3]∧mP cl a0 a1 a2 a3 M Q:=by
 intro M b a e pv d Q hb hsz hap hpe he hQ
 refine⟨_,_,_,_,rfl, ?_⟩
 unfold mP
 simp only[eu,dE,dQ]
 have hs2:=fP d a pv
 rw[Jz] at hQ
 rw[PM.rd rfl (by omega),PM.rd rfl (by omega),PM.swap rfl (by omega) (by omega),add1 (by omega),bz (by omega) (by omega)]
 generalize Sort.swp d a pv=d2 at *
 refine RH (p:=fun x=>lN x d2[a]!) (d:=d2) (J:=e - 1) fun iq i h0 h1 hgo hstop=>?_
 dsimp only[aa]
 rw[mo]
 refine andM (p:=lN d2[i]! d2[a]!) (fun hc k hk=>?_) ?_
 ·have hc:i≤e - 1:=of_decide_eq_true hc
  rw[PM.rd hs2.symm (by omega),PM.rd hs2.symm (by omega)]
  exact hl hk
 refine aC (fun h=>?_) (fun h=>?_)
 ·rw[add1 (by omega)]
  exact hgo h
 have hi2:=hstop h
 simp only[← hi2] at hQ
 refine KM (p:=fun x=>!lN x d2[a]!) (d:=d2) (i:=i) (by omega) fun rV j q0 q1 tH lC=>?_
 dsimp only[aa]
 rw[mo]
 refine Wn (p:=!lN d2[j]! d2[a]!) (fun hc k hk=>?_) ?_
 ·have hc:i≤j:=of_decide_eq_true hc
  rw[PM.rd hs2.symm (by omega),PM.rd hs2.symm (by omega)]
  refine hl ?_
  rw[bD]
  exact hk
 refine aC (fun h=>?_) (fun h=>?_)
 ·have hc:i≤j:=by
   rw[Bool.and_eq_true] at h
   exact of_decide_eq_true h.1
  rw[bz (by omega) (by omega)]
  exact tH h
 have hj2:=lC h
 simp only[← hj2] at hQ
 rw[pV]
 refine aC (fun hg=>?_) (fun hg=>?_)
 ·rw[if_pos (of_decide_eq_true hg)] at hQ
  rw[PM.rd hs2.symm (by omega),PM.rd hs2.symm (by omega),PM.swap hs2.symm (by omega) (by omega)]
  exact hQ
 have hg:¬ i > j:=of_decide_eq_false hg
 rw[if_neg hg] at hQ
 rw[PM.rd hs2.symm (by omega),PM.rd hs2.symm (by omega),PM.swap hs2.symm (by omega) (by omega),add1 (by omega),bz (by omega) (by omega)]
 obtain⟨R,hR⟩ : ∃ R,R=Sort.partLoop lN a (i + 1) (j - 1) (Sort.swp d2 i j):=⟨_,rfl⟩
 simp only[← hR] at hQ
 refine aG (fun m ys M3=>∃ (i j:Nat) (d3:Array Nat),m=j + 1 - i∧ys=[N .i64 (i:Int),N .i64 (j:Int)]∧a + 1≤i∧i≤e + 1∧j<e∧M3=PM M b T d3∧d3.size=d.size∧R=Sort.partLoop lN a i j d3) _ ⟨i + 1,j - 1,_,rfl,rfl,by omega,by omega,by omega,rfl,BH hs2,hR⟩ ?_
 rintro next m ys M3 hnext ⟨i,j,d3,rfl,rfl,hai,hie,hje,rfl,hs3,hm⟩
 dsimp only[aa]
 rw[Sort.partLoop] at hm
 refine RH (p:=fun x=>lN x d3[a]!) (d:=d3) (J:=j) fun iq i2 h0 h1 hgo hstop=>?_
 dsimp only[aa]
 rw[mo]
 refine andM (p:=lN d3[i2]! d3[a]!) (fun hc k hk=>?_) ?_
 ·have hc:i2≤j:=of_decide_eq_true hc
  rw[PM.rd hs3.symm (by omega),PM.rd hs3.symm (by omega)]
  exact hl hk
 refine aC (fun h=>?_) (fun h=>?_)
 ·rw[add1 (by omega)]
  exact hgo h
 have hi2:=hstop h
 rw[← hi2] at hm
 refine KM (p:=fun x=>!lN x d3[a]!) (d:=d3) (i:=i2) (by omega) fun rV j2 q0 q1 tH lC=>?_
 dsimp only[aa]
 rw[mo]
 refine Wn (p:=!lN d3[j2]! d3[a]!) (fun hc k hk=>?_) ?_
 ·have hc:i2≤j2:=of_decide_eq_true hc
  rw[PM.rd hs3.symm (by omega),PM.rd hs3.symm (by omega)]
  refine hl ?_
  rw[bD]
  exact hk
 refine aC (fun h=>?_) (fun h=>?_)
 ·have hc:i2≤j2:=by
   rw[Bool.and_eq_true] at h
   exact of_decide_eq_true h.1
  rw[bz (by omega) (by omega)]
  exact tH h
 have hj2:=lC h
 simp only[← hj2] at hm
 rw[pV]
 refine aC (fun hg=>?_) (fun hg=>?_)
 ·rw[if_pos (of_decide_eq_true hg)] at hm
  rw[hm] at hQ
  rw[PM.rd hs3.symm (by omega),PM.rd hs3.symm (by omega),PM.swap hs3.symm (by omega) (by omega)]
  exact hQ
 ·have hg:¬ i2 > j2:=of_decide_eq_false hg
  rw[if_neg hg,dif_pos (by omega)] at hm
  rw[PM.rd hs3.symm (by omega),PM.rd hs3.symm (by omega),PM.swap hs3.symm (by omega) (by omega),add1 (by omega),bz (by omega) (by omega)]
  exact hnext _ _ _ (by omega) ⟨i2 + 1,j2 - 1,_,rfl,rfl,by omega,by omega,by omega,rfl,BH hs3,hm⟩
def Up (xs:List Nat) : Prop:=∀ i j (hi:i<xs.length) (hj:j<xs.length),i≤j→xs[i]≤xs[j]
theorem Asc.up {xs:List Nat} (h:Asc xs) : Up xs:=fun i j hi hj hij=>by
 rcases Nat.lt_or_ge i j with h1 | h1
 ·exact Nat.le_of_lt (h.lt h1 hj)
 ·have:i=j:=by omega
  subst this; exact Nat.le_refl _
theorem Own.u64 {M:RM} {base T:Nat} {v:AV} {xs:List Nat} (h:Ow bf M base T v xs) : Sl bf M v xs:=h.eZ
theorem qz (a b:Nat) : (a:Int).tdiv (b:Int)=((a / b:Nat) : Int):=by
 rw[Int.tdiv_eq_ediv_of_nonneg (by omega)]; rfl
def SM (M:RM) (s T k:Nat) : RM:=M.put s (.row [N .i64 (k:Int)] false T 0)
theorem SM.put {M:RM} {s T k k' : Nat} : (SM M s T k).put s (.row [N .i64 (k' : Int)] false T 0)=SM M s T k':=by
 unfold SM RM.put
 congr 1
 funext c
 simp only
 by_cases h:c=s <;> simp[h]
theorem SM.new {M:RM} {T:Nat} : M.push (.row [N .i64 0] false T 0)=SM (M.push (.row [N .i64 0] false T 0)) M.next T 0:=by
 unfold SM RM.put RM.push
 congr 1
 funext c
 simp only
 by_cases h:c=M.next <;> simp[h]
def Ug (T TI:Nat) (c:ak) : Prop:=∀ {M:RM} {b s k i j:Nat} {d:Array Nat} {Q:aj},s≠b→i<d.size→j<d.size→k≤1000 →
 Q (.tup [N .i64 (((Sort.order2 lN d i j k).1:Nat) : Int),N .i64 (((Sort.order2 lN d i j k).2.1:Nat) : Int)]) (PM (SM M s TI (Sort.order2 lN d i j k).2.2) b T d)→c [vv b d.size,N .i64 (i:Int),N .i64 (j:Int),.ptr s 0] (PM (SM M s TI k) b T d) Q
theorem Xv {T TI:Nat} {cl:ak} (hl:zG cl) : Ug T TI fun args M Q=>∃ a0 a1 a2 a3,args=[a0,a1,a2,a3]∧pX cl a0 a1 a2 a3 M Q:=by
 intro M b s k i j d Q hsb hi hj hk hQ
 refine⟨_,_,_,_,rfl, ?_⟩
 unfold pX
 rw[PM.rd rfl (by omega),PM.rd rfl (by omega)]
 refine hl ?_
 unfold Sort.order2 at hQ
 refine aC (fun h=>?_) (fun h=>?_)
 ·rw[if_pos (by exact h)] at hQ
  have hh:(PM (SM M s TI k) b T d).heap s=some (.row [N .i64 (k:Int)] false TI 0):=by
   rw[PM.PS hsb]; exact RM.wm _ _
  rw[aO,az hh rfl,add1 (by omega),aO,gY hh (by simp) rfl rfl]
  rw[PM.acK hsb]
  rw[show([N .i64 (k:Int)] : List AV).set 0 (N .i64 ((k + 1:Nat) : Int))=[N .i64 ((k + 1:Nat) : Int)] from rfl,SM.put]
  exact hQ
 ·rw[if_neg (by rw[show lN d[j]! d[i]! = false from h]; decide)] at hQ
  exact hQ
theorem zZ (d:Array Nat) (i j k:Nat) : (((Sort.order2 lN d i j k).1=i∧(Sort.order2 lN d i j k).2.1=j)∨((Sort.order2 lN d i j k).1=j∧(Sort.order2 lN d i j k).2.1=i))∧k≤(Sort.order2 lN d i j k).2.2∧(Sort.order2 lN d i j k).2.2≤k + 1:=by
 unfold Sort.order2
 split <;> simp
def LB (T TI:Nat) (c:ak) : Prop:=∀ {M:RM} {b s k i j h:Nat} {d:Array Nat} {Q:aj},s≠b→i<d.size→j<d.size→h<d.size→k≤900 →
 Q (N .i64 (((Sort.median lN d i j h k).1:Nat) : Int)) (PM (SM M s TI (Sort.median lN d i j h k).2) b T d)→c [vv b d.size,N .i64 (i:Int),N .i64 (j:Int),N .i64 (h:Int),.ptr s 0] (PM (SM M s TI k) b T d) Q
theorem XD {T TI:Nat} {c2:ak} (h2:Ug T TI c2) : LB T TI fun args M Q=>∃ a0 a1 a2 a3 a4,args=[a0,a1,a2,a3,a4]∧pM c2 a0 a1 a2 a3 a4 M Q:=by
 intro M b s k i j h d Q hsb hi hj hh hk hQ
 refine⟨_,_,_,_,_,rfl, ?_⟩
 unfold pM
 unfold Sort.median at hQ
 have o1:=zZ d i j k
 refine h2 hsb hi hj (by omega) ?_
 rw[lV,lQ]
 dsimp only at hQ
 generalize Sort.order2 lN d i j k=r1 at *
 have o2:=zZ d r1.2.1 h r1.2.2
 refine h2 hsb (by omega) hh (by omega) ?_
 rw[lV,lQ]
 generalize Sort.order2 lN d r1.2.1 h r1.2.2=r2 at *
 refine h2 hsb (by omega) (by omega) (by omega) ?_
 rw[lV,lQ]
 exact hQ
theorem KD (d:Array Nat) {i j h k n:Nat} (hi:i<n) (hj:j<n) (hh:h<n) : (Sort.median lN d i j h k).1<n∧(Sort.median lN d i j h k).2≤k + 3:=by
 unfold Sort.median
 dsimp only
 have o1:=zZ d i j k
 generalize Sort.order2 lN d i j k=r1 at *
 have o2:=zZ d r1.2.1 h r1.2.2
 generalize Sort.order2 lN d r1.2.1 h r1.2.2=r2 at *
 have o3:=zZ d r1.1 r2.1 r2.2.2
 omega
def Ru (T TI:Nat) (c:ak) : Prop:=∀ {M:RM} {b s k i:Nat} {d:Array Nat} {Q:aj},s≠b→d.size≤1000000→1≤i→i + 1<d.size→k≤900 →
 Q (N .i64 (((Sort.medianAdjacent lN d i k).1:Nat) : Int)) (PM (SM M s TI (Sort.medianAdjacent lN d i k).2) b T d)→c [vv b d.size,N .i64 (i:Int),.ptr s 0] (PM (SM M s TI k) b T d) Q
theorem Y1 {T TI:Nat} {cm:ak} (hm:LB T TI cm) : Ru T TI fun args M Q=>∃ a0 a1 a2,args=[a0,a1,a2]∧jY cm a0 a1 a2 M Q:=by
 intro M b s k i d Q hsb hsz h1 h2 hk hQ
 refine⟨_,_,_,rfl, ?_⟩
 unfold jY
 rw[bz (by omega) (by omega),add1 (by omega)]
 exact hm hsb (by omega) (by omega) (by omega) hk hQ
def nW:Sort.Hint→Int
 | .unknown=>0
 | .increasing=>1
 | .decreasing=>2
def Rt (T:Nat) (c:ak) : Prop:=∀ {M:RM} {b a e:Nat} {d:Array Nat} {Q:aj},b<M.next→d.size≤1000000→a<e→e≤d.size →
 (∀ M',ag [] M M'→Q (.tup [N .i64 (((Sort.choosePivot lN d a e).1:Nat) : Int),N .i64 (nW (Sort.choosePivot lN d a e).2)]) (PM M' b T d))→c [vv b d.size,N .i64 (a:Int),N .i64 (e:Int)] (PM M b T d) Q
theorem aaq {T TI:Nat} {ca cm:ak} (ha:Ru T TI ca) (hm:LB T TI cm) : Rt T fun args M Q=>∃ a0 a1 a2,args=[a0,a1,a2]∧lm TI ca cm a0 a1 a2 M Q:=by
 intro M b a e d Q hb hsz hae he hQ
 refine⟨_,_,_,rfl, ?_⟩
 unfold lm
 simp only[bF]
 rw[eP (by omega) (by omega),bg,PM.push hb]
 have hnx:(PM M b T d).next=M.next:=rfl
 rw[hnx]
 have kk:ag [] M (M.push (.row [N .i64 0] false TI 0)):=(ag.refl _ _).push _
 have kS:∀ k,ag [] M (SM (M.push (.row [N .i64 0] false TI 0)) M.next TI k):=fun k=>kk.new _ (Nat.le_refl _)
 rw[show PM (M.push (.row [N .i64 0] false TI 0)) b T d=PM (SM (M.push (.row [N .i64 0] false TI 0)) M.next TI 0) b T d by rw[← SM.new]]
 generalize M.push (.row [N .i64 0] false TI 0)=M1 at *
 have hsb:M.next≠b:=by omega
 generalize M.next=s at *
 have hq:∀ (k:Nat) (c:Int),c=(k:Int)→k≤3→∀ (K:AV→Prop),(af .quo (N .i64 ((e - a:Nat) : Int)) (N .i64 4) fun t18=>af .mul t18 (N .i64 c) fun t19=>af .add (N .i64 (a:Int)) t19 K)=K (N .i64 ((a + (e - a) / 4 * k:Nat) : Int)):=fun k c hc hk K=>by
  subst hc
  have hb:(e - a) / 4 * k≤(e - a) * 3:=Nat.mul_le_mul (Nat.div_le_self _ _) hk
  rw[mg,show(4:Int)=((4:Nat) : Int) from rfl,qz,aZ (by omega) (by omega),wy,← Int.natCast_mul,aZ (by omega) (by omega),addN (by omega)]
  exact propext ⟨fun h=>h.2,fun h=>⟨by decide,h⟩⟩
 rw[hq 1 1 rfl (by omega),hq 2 2 rfl (by omega),hq 3 3 rfl (by omega)]
 have hcp:Sort.choosePivot lN d a e=((if e - a ≥ 8 then(if e - a ≥ 50 then Sort.median lN d (Sort.medianAdjacent lN d (a + (e - a) / 4 * 1) 0).1 (Sort.medianAdjacent lN d (a + (e - a) / 4 * 2) (Sort.medianAdjacent lN d (a + (e - a) / 4 * 1) 0).2).1 (Sort.medianAdjacent lN d (a + (e - a) / 4 * 3) (Sort.medianAdjacent lN d (a + (e - a) / 4 * 2) (Sort.medianAdjacent lN d (a + (e - a) / 4 * 1) 0).2).2).1 (Sort.medianAdjacent lN d (a + (e - a) / 4 * 3) (Sort.medianAdjacent lN d (a + (e - a) / 4 * 2) (Sort.medianAdjacent lN d (a + (e - a) / 4 * 1) 0).2).2).2
   else Sort.median lN d (a + (e - a) / 4 * 1) (a + (e - a) / 4 * 2) (a + (e - a) / 4 * 3) 0) else(a + (e - a) / 4 * 2,0) : Nat × Nat).1,
   if (if e - a ≥ 8 then(if e - a ≥ 50 then Sort.median lN d (Sort.medianAdjacent lN d (a + (e - a) / 4 * 1) 0).1 (Sort.medianAdjacent lN d (a + (e - a) / 4 * 2) (Sort.medianAdjacent lN d (a + (e - a) / 4 * 1) 0).2).1 (Sort.medianAdjacent lN d (a + (e - a) / 4 * 3) (Sort.medianAdjacent lN d (a + (e - a) / 4 * 2) (Sort.medianAdjacent lN d (a + (e - a) / 4 * 1) 0).2).2).1 (Sort.medianAdjacent lN d (a + (e - a) / 4 * 3) (Sort.medianAdjacent lN d (a + (e - a) / 4 * 2) (Sort.medianAdjacent lN d (a + (e - a) / 4 * 1) 0).2).2).2
   else Sort.median lN d (a + (e - a) / 4 * 1) (a + (e - a) / 4 * 2) (a + (e - a) / 4 * 3) 0) else(a + (e - a) / 4 * 2,0) : Nat × Nat).2=0 then .increasing else if (if e - a ≥ 8 then(if e - a ≥ 50 then Sort.median lN d (Sort.medianAdjacent lN d (a + (e - a) / 4 * 1) 0).1 (Sort.medianAdjacent lN d (a + (e - a) / 4 * 2) (Sort.medianAdjacent lN d (a + (e - a) / 4 * 1) 0).2).1 (Sort.medianAdjacent lN d (a + (e - a) / 4 * 3) (Sort.medianAdjacent lN d (a + (e - a) / 4 * 2) (Sort.medianAdjacent lN d (a + (e - a) / 4 * 1) 0).2).2).1 (Sort.medianAdjacent lN d (a + (e - a) / 4 * 3) (Sort.medianAdjacent lN d (a + (e - a) / 4 * 2) (Sort.medianAdjacent lN d (a + (e - a) / 4 * 1) 0).2).2).2
   else Sort.median lN d (a + (e - a) / 4 * 1) (a + (e - a) / 4 * 2) (a + (e - a) / 4 * 3) 0) else(a + (e - a) / 4 * 2,0) : Nat × Nat).2=12 then .decreasing else .unknown):=rfl
 rw[hcp] at hQ
 generalize hr:(if e - a ≥ 8 then(if e - a ≥ 50 then Sort.median lN d (Sort.medianAdjacent lN d (a + (e - a) / 4 * 1) 0).1 (Sort.medianAdjacent lN d (a + (e - a) / 4 * 2) (Sort.medianAdjacent lN d (a + (e - a) / 4 * 1) 0).2).1 (Sort.medianAdjacent lN d (a + (e - a) / 4 * 3) (Sort.medianAdjacent lN d (a + (e - a) / 4 * 2) (Sort.medianAdjacent lN d (a + (e - a) / 4 * 1) 0).2).2).1 (Sort.medianAdjacent lN d (a + (e - a) / 4 * 3) (Sort.medianAdjacent lN d (a + (e - a) / 4 * 2) (Sort.medianAdjacent lN d (a + (e - a) / 4 * 1) 0).2).2).2
   else Sort.median lN d (a + (e - a) / 4 * 1) (a + (e - a) / 4 * 2) (a + (e - a) / 4 * 3) 0) else(a + (e - a) / 4 * 2,0) : Nat × Nat)=r at hQ
 refine aP (fun zs M'=>zs=[N .i64 ((r.1:Nat) : Int)]∧M'=PM (SM M1 s TI r.2) b T d) ?_ ?_
 ·rintro zs M' ⟨rfl,rfl⟩
  dsimp only[aa]
  have hh:(PM (SM M1 s TI r.2) b T d).heap s=some (.row [N .i64 (r.2:Int)] false TI 0):=by
   rw[PM.PS hsb]; exact RM.wm _ _
  have:=hQ _ (kS r.2)
  rw[az hh rfl,bL]
  by_cases h0:r.2=0
  ·rw[show((r.2:Int) == 0)=true by rw[h0]; rfl,dP]
   rw[if_pos h0] at this
   exact this
  ·rw[show((r.2:Int) == 0)=false by rw[beq_eq_false_iff_ne]; omega,bA,bL]
   rw[if_neg h0] at this
   by_cases h12:r.2=12
   ·rw[show((r.2:Int) == 12)=true by rw[h12]; rfl,dP]
    rw[if_pos h12] at this
    exact this
   ·rw[show((r.2:Int) == 12)=false by rw[beq_eq_false_iff_ne]; omega,bA]
    rw[if_neg h12] at this
    exact this
 intro J hJ
 rw[show(8:Int)=((8:Nat) : Int) from rfl,jy]
 refine aC (fun h8=>?_) (fun h8=>?_)
 ·have h8:e - a ≥ 8:=of_decide_eq_true h8
  rw[if_pos h8] at hr
  refine aP (fun zs M'=>∃ x y z k:Nat,zs=[N .i64 (x:Int),N .i64 (y:Int),N .i64 (z:Int)]∧M'=PM (SM M1 s TI k) b T d∧x<d.size∧y<d.size∧z<d.size∧k≤900∧Sort.median lN d x y z k=r) ?_ ?_
  ·rintro zs M' ⟨x,y,z,k,rfl,rfl,hx,hy,hz,hk,he⟩
   dsimp only[aa]
   refine hm hsb hx hy hz hk ?_
   rw[he]
   exact hJ _ _ ⟨rfl,rfl⟩
  intro J0 hJ0
  rw[show(50:Int)=((50:Nat) : Int) from rfl,jy]
  refine aC (fun h50=>?_) (fun h50=>?_)
  ·have h50:e - a ≥ 50:=of_decide_eq_true h50
   rw[if_pos h50] at hr
   have m1:=KD d (i:=a + (e - a) / 4 * 1 - 1) (j:=a + (e - a) / 4 * 1) (h:=a + (e - a) / 4 * 1 + 1) (k:=0) (n:=d.size) (by omega) (by omega) (by omega)
   have r1:(Sort.medianAdjacent lN d (a + (e - a) / 4 * 1) 0).1<d.size∧(Sort.medianAdjacent lN d (a + (e - a) / 4 * 1) 0).2≤0 + 3:=m1
   refine ha hsb hsz (by omega) (by omega) (by omega) ?_
   generalize Sort.medianAdjacent lN d (a + (e - a) / 4 * 1) 0=q1 at *
   have m2:=KD d (i:=a + (e - a) / 4 * 2 - 1) (j:=a + (e - a) / 4 * 2) (h:=a + (e - a) / 4 * 2 + 1) (k:=q1.2) (n:=d.size) (by omega) (by omega) (by omega)
   have r2:(Sort.medianAdjacent lN d (a + (e - a) / 4 * 2) q1.2).1<d.size∧(Sort.medianAdjacent lN d (a + (e - a) / 4 * 2) q1.2).2≤q1.2 + 3:=m2
   refine ha hsb hsz (by omega) (by omega) (by omega) ?_
   generalize Sort.medianAdjacent lN d (a + (e - a) / 4 * 2) q1.2=q2 at *
   have m3:=KD d (i:=a + (e - a) / 4 * 3 - 1) (j:=a + (e - a) / 4 * 3) (h:=a + (e - a) / 4 * 3 + 1) (k:=q2.2) (n:=d.size) (by omega) (by omega) (by omega)
   have r3:(Sort.medianAdjacent lN d (a + (e - a) / 4 * 3) q2.2).1<d.size∧(Sort.medianAdjacent lN d (a + (e - a) / 4 * 3) q2.2).2≤q2.2 + 3:=m3
   refine ha hsb hsz (by omega) (by omega) (by omega) ?_
   generalize Sort.medianAdjacent lN d (a + (e - a) / 4 * 3) q2.2=q3 at *
   exact hJ0 _ _ ⟨q1.1,q2.1,q3.1,q3.2,rfl,rfl,r1.1,r2.1,r3.1,by omega,hr⟩
  ·have h50:¬ e - a ≥ 50:=of_decide_eq_false h50
   rw[if_neg h50] at hr
   exact hJ0 _ _ ⟨_,_,_,0,rfl,rfl,by omega,by omega,by omega,by omega,hr⟩
 ·have h8:¬ e - a ≥ 8:=of_decide_eq_false h8
  rw[if_neg h8] at hr
  subst hr
  exact hJ _ _ ⟨rfl,rfl⟩
theorem Db:∀ (j:Nat) (d:Array Nat),(Sort.shiftDown lN j d).size=d.size
 | 0,d=>rfl
 | j + 1,d=>by
   rw[Sort.shiftDown]
   split
   ·rfl
   ·rw[Db j,fP]
theorem Hy (e:Nat) : ∀ (k j:Nat) (d:Array Nat),e - j≤k→(Sort.shiftUp lN e j d).size=d.size
 | 0,j,d,h=>by rw[Sort.shiftUp,if_neg (by omega)]
 | k + 1,j,d,h=>by
   rw[Sort.shiftUp]
   split
   ·split
    ·rfl
    ·rw[Hy e k _ _ (by omega),fP]
   ·rfl
def NP (T:Nat) (c:ak) : Prop:=∀ {M:RM} {b a e:Nat} {d:Array Nat} {Q:aj},b<M.next→d.size≤1000000→a<e→e≤d.size→Q (Bo (Sort.partialInsertionSort lN d a e).2) (PM M b T (Sort.partialInsertionSort lN d a e).1) →
 c [vv b d.size,N .i64 (a:Int),N .i64 (e:Int)] (PM M b T d) Q
theorem I6 (a b s i:Nat) (d:Array Nat) : Sort.partialIns lN a b (s + 1) i d =
  if Sort.scanSorted lN d b i=b then(d,true) else if b - a<50 then(d,false) else
   Sort.partialIns lN a b s (Sort.scanSorted lN d b i) (if b - Sort.scanSorted lN d b i ≥ 2 then Sort.shiftUp lN b (Sort.scanSorted lN d b i + 1) (if Sort.scanSorted lN d b i - a ≥ 2 then Sort.shiftDown lN (Sort.scanSorted lN d b i - 1) (Sort.swp d (Sort.scanSorted lN d b i) (Sort.scanSorted lN d b i - 1)) else Sort.swp d (Sort.scanSorted lN d b i) (Sort.scanSorted lN d b i - 1))
    else(if Sort.scanSorted lN d b i - a ≥ 2 then Sort.shiftDown lN (Sort.scanSorted lN d b i - 1) (Sort.swp d (Sort.scanSorted lN d b i) (Sort.scanSorted lN d b i - 1)) else Sort.swp d (Sort.scanSorted lN d b i) (Sort.scanSorted lN d b i - 1))):=rfl
theorem Va {T:Nat} {cl:ak} (hl:zG cl) : NP T fun args M Q=>∃ a0 a1 a2,args=[a0,a1,a2]∧iH cl a0 a1 a2 M Q:=by
 intro M b a e d Q hb hsz hae he hQ
 refine⟨_,_,_,rfl, ?_⟩
 unfold iH
 simp only[eu,dE,dQ,bF]
 rw[add1 (by omega)]
 unfold Sort.partialInsertionSort at hQ
 obtain⟨R,hR⟩ : ∃ R,R=Sort.partialIns lN a e 5 (a + 1) d:=⟨_,rfl⟩
 rw[← hR] at hQ
 refine aG (fun m ys M3=>∃ (i s:Nat) (d3:Array Nat),m=s∧s≤5∧ys=[N .i64 (i:Int),N .i64 ((5 - s:Nat) : Int)]∧a + 1≤i∧i≤e∧M3=PM M b T d3∧d3.size=d.size∧R=Sort.partialIns lN a e s i d3) _ ⟨a + 1,5,d,rfl,by omega,rfl,by omega,by omega,rfl,rfl,hR⟩ ?_
 rintro next m ys M3 hnext ⟨i,s,d3,hms,hs5,rfl,hai,hie,rfl,hs3,hm⟩
 dsimp only[aa]
 rw[show(5:Int)=((5:Nat) : Int) from rfl,dB]
 refine aC (fun hg=>?_) (fun hg=>?_)
 ·have hg:5 - s<5:=of_decide_eq_true hg
  obtain⟨s',rfl⟩ : ∃ s',s=s' + 1:=⟨s - 1,by omega⟩
  rw[I6] at hm
  refine aP (fun zs M'=>∃ (i' : Nat) (d4:Array Nat),zs=[N .i64 (i' : Int)]∧a + 1≤i'∧i'≤e∧M'=PM M b T d4∧d4.size=d.size∧R=Sort.partialIns lN a e s' i' d4) ?_ ?_
  ·rintro zs M' ⟨i',d4,rfl,h1,h2,rfl,h3,h4⟩
   dsimp only[aa]
   rw[add1 (by omega)]
   exact hnext _ _ _ (by omega) ⟨i',s',d4,rfl,by omega,by congr 4; omega,h1,h2,rfl,h3,h4⟩
  intro J hJ
  obtain⟨R5,hR5⟩ : ∃ R5,R5=Sort.scanSorted lN d3 e i:=⟨_,rfl⟩
  rw[← hR5] at hm
  refine aG (fun m ys M5=>∃ (j:Nat),m=e - j∧ys=[N .i64 (j:Int)]∧i≤j∧j≤e∧M5=PM M b T d3∧R5=Sort.scanSorted lN d3 e j) _ ⟨i,rfl,rfl,Nat.le_refl _,hie,rfl,hR5⟩ ?_
  rintro iq m ys M5 dm ⟨j,rfl,rfl,hij,hje,rfl,hm5⟩
  dsimp only[aa]
  rw[Sort.scanSorted] at hm5
  rw[dB]
  refine Wn (p:=!lN d3[j]! d3[j - 1]!) (fun hc k hk=>?_) ?_
  ·have hc:j<e:=of_decide_eq_true hc
   rw[PM.rd hs3.symm (by omega),bz (by omega) (by omega),PM.rd hs3.symm (by omega)]
   refine hl ?_
   rw[bD]
   exact hk
  refine aC (fun h=>?_) (fun h=>?_)
  ·have hc:j<e:=by
    rw[Bool.and_eq_true] at h
    exact of_decide_eq_true h.1
   rw[if_pos h] at hm5
   rw[add1 (by omega)]
   exact dm _ _ _ (by omega) ⟨j + 1,rfl,rfl,by omega,by omega,rfl,hm5⟩
  rw[if_neg (by rw[h]; decide)] at hm5
  subst hm5
  rw[Tj]
  refine aC (fun r9=>?_) (fun r9=>?_)
  ·rw[if_pos (of_decide_eq_true r9)] at hm
   rw[hm] at hQ
   exact hQ
  have r9:¬ R5=e:=of_decide_eq_false r9
  rw[if_neg r9] at hm
  rw[eP (by omega) (by omega),show(50:Int)=((50:Nat) : Int) from rfl,dB]
  refine aC (fun h50=>?_) (fun h50=>?_)
  ·rw[if_pos (of_decide_eq_true h50)] at hm
   rw[hm] at hQ
   exact hQ
  rw[if_neg (of_decide_eq_false h50)] at hm
  rw[bz (by omega) (by omega),bz (by omega) (by omega),PM.rd hs3.symm (by omega),PM.rd hs3.symm (by omega),PM.swap hs3.symm (by omega) (by omega)]
  have hs6:=BH (i:=R5) (j:=R5 - 1) hs3
  generalize Sort.swp d3 R5 (R5 - 1)=d6 at *
  refine aP (fun zs M'=>zs=[]∧M'=PM M b T (if R5 - a ≥ 2 then Sort.shiftDown lN (R5 - 1) d6 else d6)) ?_ ?_
  ·rintro zs M' ⟨rfl,rfl⟩
   have hs7:(if R5 - a ≥ 2 then Sort.shiftDown lN (R5 - 1) d6 else d6).size=d.size:=by
    split
    ·rw[Db,hs6]
    ·exact hs6
   generalize (if R5 - a ≥ 2 then Sort.shiftDown lN (R5 - 1) d6 else d6)=d7 at *
   rw[eP (by omega) (by omega),show(2:Int)=((2:Nat) : Int) from rfl,jy]
   refine aC (fun h2=>?_) (fun h2=>?_)
   ·rw[if_pos (of_decide_eq_true h2)] at hm
    rw[add1 (by omega)]
    have hs8:=Hy e e (R5 + 1) d7 (by omega)
    obtain⟨R8,hR8⟩ : ∃ R8,R8=Sort.shiftUp lN e (R5 + 1) d7:=⟨_,rfl⟩
    rw[← hR8] at hm hs8
    refine aG (fun m ys M8=>∃ (j:Nat) (d8:Array Nat),m=e - j∧ys=[N .i64 (j:Int)]∧R5 + 1≤j∧j≤e∧M8=PM M b T d8∧d8.size=d.size∧R8=Sort.shiftUp lN e j d8) _ ⟨R5 + 1,d7,rfl,rfl,Nat.le_refl _,by omega,rfl,hs7,hR8⟩ ?_
    rintro rV m ys M8 sj ⟨j,d8,rfl,rfl,hj1,hj2,rfl,fu,hm8⟩
    dsimp only[aa]
    rw[Sort.shiftUp] at hm8
    rw[dB]
    refine aC (fun hl1=>?_) (fun hl1=>?_)
    ·have hl1:j<e:=of_decide_eq_true hl1
     rw[if_pos hl1] at hm8
     rw[PM.rd fu.symm (by omega),bz (by omega) (by omega),PM.rd fu.symm (by omega)]
     refine hl ?_
     rw[bD]
     refine aC (fun hn=>?_) (fun hn=>?_)
     ·rw[if_pos hn] at hm8
      subst hm8
      exact hJ _ _ ⟨R5,R8,rfl,by omega,by omega,rfl,fu,hm⟩
     ·rw[if_neg (by rw[show(!lN d8[j]! d8[j - 1]!)=false from hn]; decide)] at hm8
      rw[bz (by omega) (by omega),bz (by omega) (by omega),PM.rd fu.symm (by omega),PM.rd fu.symm (by omega),PM.swap fu.symm (by omega) (by omega),add1 (by omega)]
      exact sj _ _ _ (by omega) ⟨j + 1,_,rfl,rfl,by omega,by omega,rfl,BH fu,hm8⟩
    ·rw[if_neg (of_decide_eq_false hl1)] at hm8
     subst hm8
     exact hJ _ _ ⟨R5,R8,rfl,by omega,by omega,rfl,fu,hm⟩
   ·rw[if_neg (of_decide_eq_false h2)] at hm
    exact hJ _ _ ⟨R5,d7,rfl,by omega,by omega,rfl,hs7,hm⟩
  intro J2 hJ2
  rw[eP (by omega) (by omega),show(2:Int)=((2:Nat) : Int) from rfl,jy]
  refine aC (fun h2=>?_) (fun h2=>?_)
  ·rw[if_pos (of_decide_eq_true h2)] at hJ2
   rw[bz (by omega) (by omega)]
   obtain⟨R8,hR8⟩ : ∃ R8,R8=Sort.shiftDown lN (R5 - 1) d6:=⟨_,rfl⟩
   rw[← hR8] at hJ2
   refine aG (fun m ys M8=>∃ (j:Nat) (d8:Array Nat),m=j + 1∧ys=[N .i64 (j:Int)]∧j<R5∧M8=PM M b T d8∧d8.size=d.size∧R8=Sort.shiftDown lN j d8) _ ⟨R5 - 1,d6,rfl,rfl,by omega,rfl,hs6,hR8⟩ ?_
   rintro rV m ys M8 sj ⟨j,d8,rfl,rfl,hj1,rfl,fu,hm8⟩
   dsimp only[aa]
   rw[show(1:Int)=((1:Nat) : Int) from rfl,jy]
   refine aC (fun hl1=>?_) (fun hl1=>?_)
   ·have hl1:j ≥ 1:=of_decide_eq_true hl1
    obtain⟨j',rfl⟩ : ∃ j',j=j' + 1:=⟨j - 1,by omega⟩
    rw[Sort.shiftDown] at hm8
    rw[PM.rd fu.symm (by omega),eP (by omega) (by omega),Nat.add_sub_cancel,PM.rd fu.symm (by omega)]
    refine hl ?_
    rw[bD]
    refine aC (fun hn=>?_) (fun hn=>?_)
    ·rw[if_pos hn] at hm8
     subst hm8
     exact hJ2 _ _ ⟨rfl,rfl⟩
    ·rw[if_neg (by rw[show(!lN d8[j' + 1]! d8[j']!)=false from hn]; decide)] at hm8
     rw[eP (by omega) (by omega),eP (by omega) (by omega),Nat.add_sub_cancel,PM.rd fu.symm (by omega),PM.rd fu.symm (by omega),PM.swap fu.symm (by omega) (by omega),eP (by omega) (by omega),Nat.add_sub_cancel]
     exact sj _ _ _ (by omega) ⟨j',_,rfl,rfl,by omega,rfl,BH fu,hm8⟩
   ·have hl1:¬ j ≥ 1:=of_decide_eq_false hl1
    have h0:j=0:=by omega
    subst h0
    rw[Sort.shiftDown] at hm8
    subst hm8
    exact hJ2 _ _ ⟨rfl,rfl⟩
  ·rw[if_neg (of_decide_eq_false h2)] at hJ2
   exact hJ2 _ _ ⟨rfl,rfl⟩
 ·have hg:¬ 5 - s<5:=of_decide_eq_false hg
  have h0:s=0:=by omega
  subst h0
  rw[Sort.partialIns] at hm
  rw[hm] at hQ
  exact hQ
def aeG (P:List Nat→Prop) (f:List Nat→List Nat) (T:Nat) (c:ak) : Prop:=∀ {M:RM} {base:Nat} {v:AV} {xs:List Nat} {Q:aj},Ow bf M base T v xs→P xs→(∀ M',Ow bf M' base T v (f xs)→ag (aJ v) M M'→Q (.tup []) M')→c [v] M Q
def Ou (P:List Nat→Prop) (f:List Nat→List Nat) (T:Nat) (c:ak) : Prop:=∀ {M:RM} {base:Nat} {v:AV} {xs:List Nat} {Q:aj},Ow bf M base T v xs→P xs→(∀ v' M',Sl bf M' v' (f xs)→nV v'→(∀ d∈aJ v',d∈aJ v)→ag (aJ v) M M'→Q v' M')→c [v] M Q
def adl (T:Nat) (c:ak) : Prop:=∀ {M:RM} {n:Nat} {Q:aj},n≤10000000→(n=0→Q di M) →
 (0<n→∀ b M',M.next≤b→b<M'.next→M'.heap b=some (.row (bO [N .u64 0] n) true T 0)→ag [] M M'→Q (.slc b 0 0 (.op 1)) M')→c [di,N .i64 (n:Int)] M Q
theorem afy {TS T:Nat} : adl T fun args M Q=>∃ a0 a1,args=[a0,a1]∧AJ TS T a0 a1 M Q:=by
 intro M n Q hn h0 h1
 refine⟨_,_,rfl, ?_⟩
 unfold AJ
 rw[y7,dL,show decide ((n:Int)<0)=false by simp,bA]
 dsimp only
 rw[y7]
 have hcap:∀ K:AV→Prop,Fg di K=K (N .i64 0):=fun K=>by
  unfold Fg
  exact propext ⟨fun⟨m,h,k⟩=>by cases h; exact k,fun k=>⟨0,rfl,k⟩⟩
 rw[hcap,NI,iX,show IntKind.wrap .i64 ((0:Int) - 0)=0 from by rw[aZ] <;> decide,iX,Int.sub_zero,aZ (by omega) (by omega),mh]
 dsimp only[aa]
 by_cases hz:n=0
 ·rw[show decide ((n:Int) > 0)=false by simp; omega,bA]
  exact h0 hz
 ·rw[show decide ((n:Int) > 0)=true by simp; omega,dP,hcap,show cZ 1 di none (some (N .i64 0)) none=some di by simp[cZ,bnd],dO]
  have hr:=tq n
  refine BK (base:=M.next) (m:=n) (ds:=bO [N .u64 0] n) .nil (Nat.le_refl _) (Nat.le_refl _) (by simp[qy]) (by rw[hr.1,Nat.mul_one]) hr.2 (by omega) (by omega) ?_
  intro v' M' o k _ _
  rw[Nat.zero_add] at o
  obtain⟨b,rfl,q1,q2,q3,q4⟩:=Own.uO o (by omega)
  rw[NI,show cZ 1 (.slc b 0 n (.op 1)) none (some (N .i64 0)) none=some (.slc b 0 0 (.op 1)) by simp[cZ,bnd]; omega,dO]
  exact h1 (by omega) b M' q1 q2 (by simpa using q3) (by simpa [aJ] using k)
theorem Ii (p:Nat→Bool) (d:Array Nat) (J:Nat) : ∀ (n i:Nat),J + 1 - i≤n→i≤Sort.scanUp p d J i∧Sort.scanUp p d J i≤max (J + 1) i
 | 0,i,h=>by
   rw[Sort.scanUp,if_neg (by simp; omega)]; omega
 | n + 1,i,h=>by
   rw[Sort.scanUp]
   split
   ·rename_i hc
    rw[Bool.and_eq_true] at hc
    have:=of_decide_eq_true hc.1
    have:=Ii p d J n (i + 1) (by omega)
    omega
   ·omega
theorem Dl (p:Nat→Bool) (d:Array Nat) (i:Nat) : ∀ j,Sort.scanDown p d i j≤j
 | 0=>Nat.le_refl _
 | j + 1=>by
   rw[Sort.scanDown]
   split
   ·have:=Dl p d i j; omega
   ·omega
theorem Ga (a:Nat) : ∀ (n i j:Nat) (d:Array Nat),j + 1 - i≤n→i≤(Sort.partEqLoop lN a i j d).1∧(Sort.partEqLoop lN a i j d).1≤max (j + 1) i∧(Sort.partEqLoop lN a i j d).2.size=d.size
 | n,i,j,d,h=>by
   have h1:=Ii (fun x=>!lN d[a]! x) d j _ i (Nat.le_refl _)
   have h2:=Dl (fun x=>lN d[a]! x) d (Sort.scanUp (fun x=>!lN d[a]! x) d j i) j
   rw[Sort.partEqLoop]
   generalize Sort.scanUp (fun x=>!lN d[a]! x) d j i=i2 at *
   generalize Sort.scanDown (fun x=>lN d[a]! x) d i2 j=j2 at *
   split
   ·exact⟨h1.1,h1.2,rfl⟩
   ·split
    ·cases n with
     | zero=>omega
     | succ n =>
       have h3:=Ga a n (i2 + 1) (j2 - 1) (Sort.swp d i2 j2) (by omega)
       rw[fP] at h3
       omega
    ·exact⟨h1.1,h1.2,rfl⟩
theorem MK (a:Nat) : ∀ (n i j:Nat) (d:Array Nat),j + 1 - i≤n→(Sort.partLoop lN a i j d).1≤j∧(Sort.partLoop lN a i j d).2.size=d.size
 | n,i,j,d,h=>by
   have h1:=Ii (fun x=>lN x d[a]!) d j _ i (Nat.le_refl _)
   have h2:=Dl (fun x=>!lN x d[a]!) d (Sort.scanUp (fun x=>lN x d[a]!) d j i) j
   rw[Sort.partLoop]
   generalize Sort.scanUp (fun x=>lN x d[a]!) d j i=i2 at *
   generalize Sort.scanDown (fun x=>!lN x d[a]!) d i2 j=j2 at *
   split
   ·exact⟨h2,rfl⟩
   ·split
    ·cases n with
     | zero=>omega
     | succ n =>
       have h3:=MK a n (i2 + 1) (j2 - 1) (Sort.swp d i2 j2) (by omega)
       rw[fP] at h3
       exact⟨by omega,h3.2⟩
    ·exact⟨h2,rfl⟩
theorem Gv (a e:Nat) : ∀ (s i:Nat) (d:Array Nat),(Sort.partialIns lN a e s i d).1.size=d.size
 | 0,i,d=>rfl
 | s + 1,i,d=>by
   rw[I6]
   split
   ·rfl
   ·split
    ·rfl
    ·rw[Gv a e s]
     have h1:∀ x,(if x - a ≥ 2 then Sort.shiftDown lN (x - 1) (Sort.swp d x (x - 1)) else Sort.swp d x (x - 1)).size=d.size:=fun x=>by
      split
      ·rw[Db,fP]
      ·rw[fP]
     split
     ·rw[Hy e e _ _ (by omega),h1]
     ·rw[h1]
theorem ahD {x:Nat} (h:256≤x) : Sort.bitsLen x=Sort.bitsLen (x / 256) + 8:=by
 have h0:x / 256≠0:=by omega
 unfold Sort.bitsLen
 rw[if_neg (by omega),if_neg h0]
 have h1:=(Nat.log2_eq_iff h0 (k:=(x / 256).log2)).1 rfl
 have h2:x.log2=(x / 256).log2 + 8:=by
  rw[Nat.log2_eq_iff (by omega)]
  rw[show(x / 256).log2 + 8 + 1=((x / 256).log2 + 1) + 8 by omega,Nat.pow_add,Nat.pow_add _ ((x / 256).log2 + 1)]
  generalize 2 ^ (x / 256).log2=u at *
  generalize 2 ^ ((x / 256).log2 + 1)=v at *
  omega
 omega
theorem af6 {tab:List UInt8} {x:Nat} (h:(List.range 256).all (fun i=>tab[i]? == some (UInt8.ofNat (Sort.bitsLen i)))=true) (hx:x<256) : tab[x]?=some (UInt8.ofNat (Sort.bitsLen x)):=by
 have:=List.all_eq_true.1 h x (List.mem_range.2 hx)
 exact eq_of_beq this
theorem alA {x:Nat} (h:x<256) : Sort.bitsLen x≤8:=by
 unfold Sort.bitsLen
 split
 ·omega
 ·rename_i h0
  have:=(Nat.log2_lt h0 (k:=8)).2 (by omega)
  omega
def H6 (c:ak) : Prop:=∀ {M:RM} {x:Nat} {Q:aj},x<65536→Q (N .i64 (Sort.bitsLen x:Nat)) M→c [N .u64 (x:Int)] M Q
theorem aa1:H6 fun args M Q=>∃ a0,args=[a0]∧uN a0 M Q:=by
 intro M x Q hx hQ
 refine⟨_,rfl, ?_⟩
 unfold uN
 rw[y7,iW,show decide ((x:Int) ≥ 4294967296)=false by simp; omega,bA]
 dsimp only[aa]
 rw[y7,iW,show decide ((x:Int) ≥ 65536)=false by simp; omega,bA]
 dsimp only[aa]
 rw[y7,iW]
 have fin:∀ (y z:Nat),y<256→z≤8→Sort.bitsLen x=z + Sort.bitsLen y→qA .u8 (N .u64 (y:Int)) fun t21=>Xf (St [0,1,2,2,3,3,3,3,4,4,4,4,4,4,4,4,5,5,5,5,5,5,5,5,5,5,5,5,5,5,5,5,6,6,6,6,6,6,6,6,6,6,6,6,6,6,6,6,6,6,6,6,6,6,6,6,6,6,6,6,6,6,6,6,7,7,7,7,7,7,7,7,7,7,7,7,7,7,7,7,7,7,7,7,7,7,7,7,7,7,7,7,7,7,7,7,7,7,7,7,7,7,7,7,7,7,7,7,7,7,7,7,7,7,7,7,7,7,7,7,7,7,7,7,7,7,7,7,8,8,8,8,8,8,8,8,8,8,8,8,8,8,8,8,8,8,8,8,8,8,8,8,8,8,8,8,8,8,8,8,8,8,8,8,8,8,8,8,8,8,8,8,8,8,8,8,8,8,8,8,8,8,8,8,8,8,8,8,8,8,8,8,8,8,8,8,8,8,8,8,8,8,8,8,8,8,8,8,8,8,8,8,8,8,8,8,8,8,8,8,8,8,8,8,8,8,8,8,8,8,8,8,8,8,8,8,8,8,8,8,8,8,8,8,8,8,8,8,8,8,8,8,8,8,8,8]) t21 fun t22 =>
   qA .i64 t22 fun t23=>af .add (N .i64 (z:Int)) t23 fun t24=>Q t24 M:=fun y z hy hz e=>by
  rw[oJ,BD (by omega) (by omega),alG]
  refine⟨by omega, ?_⟩
  rw[Int.toNat_natCast]
  refine⟨_,af6 (by kernel_rfl) hy, ?_⟩
  have hb:=alA hy
  have hu:(UInt8.ofNat (Sort.bitsLen y)).toNat=Sort.bitsLen y:=by rw[UInt8.toNat_ofNat']; omega
  rw[hu,oJ,aZ (by omega) (by omega),addN (by omega),← e]
  exact hQ
 by_cases h:x ≥ 256
 ·rw[show decide ((x:Int) ≥ 256)=true by simp; omega,dP]
  dsimp only[aa]
  rw[LA]
  refine⟨by decide, ?_⟩
  rw[show(8:Int)=((8:Nat) : Int) from rfl,Od _ _ _ (by decide),dw,Int.zero_add,aZ (by omega) (by omega)]
  exact fin (x / 256) 8 (by omega) (by omega) (by rw[ahD h]; omega)
 ·rw[show decide ((x:Int) ≥ 256)=false by simp; omega,bA]
  dsimp only[aa]
  exact fin x 0 (by omega) (by omega) (by omega)
theorem afu {c3 c6:ak} (h6:H6 c6) : H6 fun args M Q=>∃ a0,args=[a0]∧xy c3 c6 a0 M Q:=by
 intro M x Q hx hQ
 refine⟨_,rfl, ?_⟩
 unfold xy
 rw[bA]
 exact h6 hx hQ
def XM (M:RM) (s T:Nat) (r:UInt64) : RM:=M.put s (.row [N .u64 (r.toNat:Int)] false T 0)
theorem XM.put {M:RM} {s T:Nat} {r r' : UInt64} : (XM M s T r).put s (.row [N .u64 (r'.toNat:Int)] false T 0)=XM M s T r':=by
 unfold XM RM.put
 congr 1
 funext c
 simp only
 by_cases h:c=s <;> simp[h]
theorem XM.new {M:RM} {T:Nat} {x:RB} {r:UInt64} : (M.push x).put M.next (.row [N .u64 (r.toNat:Int)] false T 0)=XM (M.push x) M.next T r:=rfl
theorem LQ {r k:UInt64} {n:Nat} (hk:k.toNat=n) (h:n<64) : aeO .u64 (r.toNat:Int) (n:Int)=((r <<< k).toNat:Int):=by
 rw[Zb rfl _ _ (by show n≤64; omega),UInt64.toNat_shiftLeft,hk,Nat.mod_eq_of_lt h,Nat.shiftLeft_eq]; rfl
theorem abU {r k:UInt64} {n:Nat} (hk:k.toNat=n) (h:n<64) : Zp .u64 (r.toNat:Int) (n:Int)=((r >>> k).toNat:Int):=by
 rw[Od _ _ _ (by show n≤64; omega),UInt64.toNat_shiftRight,hk,Nat.mod_eq_of_lt h,Nat.shiftRight_eq_div_pow]
theorem u64_xor (a b:UInt64) : ac6 .u64 (a.toNat:Int) (b.toNat:Int)=((a ^^^ b).toNat:Int):=by
 rw[ahc rfl,← UInt64.toNat_xor]
 have:=(a ^^^ b).toNat_lt
 rw[Nat.mod_eq_of_lt (by show _<2 ^ 64; omega)]
def agn (T TX:Nat) (c:ak) : Prop:=∀ {M:RM} {b s:Nat} {r:UInt64} {d:Array Nat} {Q:aj},s≠b→Q (N .u64 ((Sort.xorNext r).toNat:Int)) (PM (XM M s TX (Sort.xorNext r)) b T d)→c [.ptr s 0] (PM (XM M s TX r) b T d) Q
theorem agI {T TX:Nat} : agn T TX fun args M Q=>∃ a0,args=[a0]∧oO a0 M Q:=by
 intro M b s r d Q hsb hQ
 refine⟨_,rfl, ?_⟩
 unfold oO
 have hh:∀ r,(PM (XM M s TX r) b T d).heap s=some (.row [N .u64 (r.toNat:Int)] false TX 0):=fun r=>by rw[PM.PS hsb]; exact RM.wm _ _
 have st:∀ (r r' : UInt64) (K:RM→Prop),aF (PM (XM M s TX r) b T d) (.ptr s 0) (N .u64 (r'.toNat:Int)) 1 K=K (PM (XM M s TX r') b T d):=fun r r' K=>by
  rw[gY (hh r) (by simp) rfl rfl,PM.acK hsb]
  rw[show([N .u64 (r.toNat:Int)] : List AV).set 0 (N .u64 (r'.toNat:Int))=[N .u64 (r'.toNat:Int)] from rfl,XM.put]
 rw[aO,az (hh r) rfl,aO,az (hh r) rfl,FY]
 refine⟨by decide, ?_⟩
 rw[show(13:Int)=((13:Nat) : Int) from rfl,LQ (k:=13) (n:=13) rfl (by decide),yU,u64_xor,aO,st]
 rw[aO,az (hh _) rfl,aO,az (hh _) rfl,LA]
 refine⟨by decide, ?_⟩
 rw[show(7:Int)=((7:Nat) : Int) from rfl,abU (k:=7) (n:=7) rfl (by decide),yU,u64_xor,aO,st]
 rw[aO,az (hh _) rfl,aO,az (hh _) rfl,FY]
 refine⟨by decide, ?_⟩
 rw[show(17:Int)=((17:Nat) : Int) from rfl,LQ (k:=17) (n:=17) rfl (by decide),yU,u64_xor,aO,st]
 rw[aO,az (hh _) rfl]
 exact hQ
def YT (c:ak) : Prop:=∀ {M:RM} {x:Nat} {Q:aj},0<x→x<65536→Q (N .u64 ((2 ^ Sort.bitsLen x:Nat) : Int)) M→c [N .i64 (x:Int)] M Q
theorem yL {x:Nat} (h0:0<x) (h:x<65536) : Sort.bitsLen x≤16∧2 ^ Sort.bitsLen x≤2 * x∧x<2 ^ Sort.bitsLen x:=by
 unfold Sort.bitsLen
 rw[if_neg (by omega)]
 have h1:=(Nat.log2_eq_iff (show x≠0 by omega) (k:=x.log2)).1 rfl
 have h2:=(Nat.log2_lt (show x≠0 by omega) (k:=16)).2 (by omega)
 rw[Nat.pow_succ] at *
 omega
theorem agr {cl:ak} (hl:H6 cl) : YT fun args M Q=>∃ a0,args=[a0]∧wG cl a0 M Q:=by
 intro M x Q h0 hx hQ
 refine⟨_,rfl, ?_⟩
 unfold wG
 have hb:=yL h0 hx
 rw[oJ,jT (by omega) (by omega)]
 refine hl hx ?_
 rw[FY]
 refine⟨by omega, ?_⟩
 rw[show(1:Int)=((1:Nat) : Int) from rfl,Zb rfl _ _ (by show Sort.bitsLen x≤64; omega),Nat.one_mul]
 have:2 ^ Sort.bitsLen x<2 ^ 64:=Nat.pow_lt_pow_right (by decide) (by omega)
 rw[Nat.mod_eq_of_lt (by exact this)]
 exact hQ
def I7 (a l m i0:Nat) (d:Array Nat) : Nat→UInt64 × Array Nat
 | 0=>(UInt64.ofNat l,d)
 | k + 1=>Sort.breakStep a l m (I7 a l m i0 d k) (i0 + k)
theorem aeZ (a l m i0:Nat) (d:Array Nat) : ∀ k,(I7 a l m i0 d k).2.size=d.size
 | 0=>rfl
 | k + 1=>by
   rw[I7,Sort.breakStep]
   show(Sort.swp _ _ _).size=_
   rw[fP,aeZ a l m i0 d k]
def Wz (T:Nat) (c:ak) : Prop:=∀ {M:RM} {b a e:Nat} {d:Array Nat} {Q:aj},b<M.next→d.size≤60000→a≤e→e≤d.size→(∀ M',ag [] M M'→Q (.tup []) (PM M' b T (Sort.breakPatterns d a e))) →
 c [vv b d.size,N .i64 (a:Int),N .i64 (e:Int)] (PM M b T d) Q
theorem acx {T TX:Nat} {cp cx:ak} (hp:YT cp) (hx:agn T TX cx) : Wz T fun args M Q=>∃ a0 a1 a2,args=[a0,a1,a2]∧kC TX cp cx a0 a1 a2 M Q:=by
 intro M b a e d Q hb hsz hae he hQ
 refine⟨_,_,_,rfl, ?_⟩
 unfold kC
 simp only[bF]
 rw[eP hae (by omega),show(8:Int)=((8:Nat) : Int) from rfl,jy]
 unfold Sort.breakPatterns at hQ
 refine aC (fun h8=>?_) (fun h8=>?_)
 ·have h8:e - a ≥ 8:=of_decide_eq_true h8
  rw[if_pos h8] at hQ
  have hbl:=yL (x:=e - a) (by omega) (by omega)
  rw[oJ,jT (by omega) (by omega),bg,PM.push hb]
  have hnx:(PM M b T d).next=M.next:=rfl
  rw[hnx]
  have hsb:M.next≠b:=by omega
  have kk:ag [] M (M.push (.row [(N .u64 0)] false TX 0)):=(ag.refl _ _).push _
  have kS:∀ r,ag [] M (XM (M.push (.row [(N .u64 0)] false TX 0)) M.next TX r):=fun r=>kk.new _ (Nat.le_refl _)
  have hh0:(PM (M.push (.row [(N .u64 0)] false TX 0)) b T d).heap M.next=some (.row [N .u64 0] false TX 0):=by rw[PM.PS hsb]; exact RM.aT _
  have Yv:(UInt64.ofNat (e - a)).toNat=e - a:=by rw[UInt64.toNat_ofNat']; omega
  rw[gY hh0 (by simp) rfl rfl,PM.acK hsb]
  rw[show([N .u64 0] : List AV).set 0 (N .u64 ((e - a:Nat) : Int))=[N .u64 ((UInt64.ofNat (e - a)).toNat:Int)] by rw[Yv]; rfl,XM.new]
  generalize M.push (.row [(N .u64 0)] false TX 0)=M1 at *
  generalize M.next=s at *
  refine hp (by omega) (by omega) ?_
  have hq:∀ (c:Int),c=((2:Nat) : Int)→∀ (K:AV→Prop),(af .quo (N .i64 ((e - a:Nat) : Int)) (N .i64 4) fun t18=>af .mul t18 (N .i64 c) fun t19=>af .add (N .i64 (a:Int)) t19 K)=K (N .i64 ((a + (e - a) / 4 * 2:Nat) : Int)):=fun c hc K=>by
   subst hc
   rw[mg,show(4:Int)=((4:Nat) : Int) from rfl,qz,aZ (by omega) (by omega),wy,← Int.natCast_mul,aZ (by omega) (by omega),addN (by omega)]
   exact propext ⟨fun h=>h.2,fun h=>⟨by decide,h⟩⟩
  rw[hq 2 rfl,bz (by omega) (by omega)]
  have Z6:(Sort.breakStep a (e - a) (1 <<< Sort.bitsLen (e - a)) (Sort.breakStep a (e - a) (1 <<< Sort.bitsLen (e - a)) (Sort.breakStep a (e - a) (1 <<< Sort.bitsLen (e - a)) (UInt64.ofNat (e - a),d) (a + (e - a) / 4 * 2 - 1)) (a + (e - a) / 4 * 2 - 1 + 1)) (a + (e - a) / 4 * 2 - 1 + 2)).2=(I7 a (e - a) (2 ^ Sort.bitsLen (e - a)) (a + (e - a) / 4 * 2 - 1) d 3).2:=by
   rw[Nat.shiftLeft_eq,Nat.one_mul]; rfl
  have hQ:∀ M',ag [] M M'→Q (.tup []) (PM M' b T (I7 a (e - a) (2 ^ Sort.bitsLen (e - a)) (a + (e - a) / 4 * 2 - 1) d 3).2):=fun M' k=>by
   have:=hQ M' k
   rw[← Z6]; exact this
  generalize hmd:2 ^ Sort.bitsLen (e - a)=md at *
  generalize hi0:a + (e - a) / 4 * 2 - 1=i0 at *
  refine aG (fun m ys M3=>∃ (k:Nat),m=3 - k∧k≤3∧ys=[N .i64 ((i0 + k:Nat) : Int)]∧M3=PM (XM M1 s TX (I7 a (e - a) md i0 d k).1) b T (I7 a (e - a) md i0 d k).2) _ ⟨0,rfl,by omega,rfl,rfl⟩ ?_
  rintro next m ys M3 hnext ⟨k,rfl,hk,rfl,rfl⟩
  dsimp only[aa]
  have hsk:=aeZ a (e - a) md i0 d k
  have Y2:I7 a (e - a) md i0 d (k + 1)=Sort.breakStep a (e - a) md (I7 a (e - a) md i0 d k) (i0 + k):=rfl
  generalize aao:I7 a (e - a) md i0 d k=st at *
  rw[hq 2 rfl,add1 (by omega),mo]
  refine aC (fun hg=>?_) (fun hg=>?_)
  ·have hg:i0 + k≤a + (e - a) / 4 * 2 + 1:=of_decide_eq_true hg
   refine aP (fun zs M'=>M'=PM (XM M1 s TX (I7 a (e - a) md i0 d (k + 1)).1) b T (I7 a (e - a) md i0 d (k + 1)).2) ?_ ?_
   ·rintro zs M' rfl
    rw[add1 (by omega)]
    exact hnext _ _ _ (by omega) ⟨k + 1,rfl,by omega,rfl,rfl⟩
   intro J hJ
   refine hx hsb ?_
   rw[Y2] at hJ
   unfold Sort.breakStep at hJ
   dsimp only at hJ
   generalize Sort.xorNext st.1=r at *
   rw[iX,jT (by omega) (by omega),show(md:Int) - 1=((md - 1:Nat) : Int) by omega,Nc,Oe rfl]
   have hlt:r.toNat &&& (md - 1)<md:=by
    rw[← hmd,Nat.and_two_pow_sub_one_eq_mod]
    exact Nat.mod_lt _ (by rw[hmd]; omega)
   rw[Nat.mod_eq_of_lt (show r.toNat &&& (md - 1)<2 ^ Bw .u64 by show _<2 ^ 64; omega)]
   generalize r.toNat &&& (md - 1)=o at *
   rw[oJ,aZ (by omega) (by omega)]
   refine aP (fun zs M'=>zs=[N .i64 (((if o ≥ e - a then o - (e - a) else o) : Nat) : Int)]∧M'=PM (XM M1 s TX r) b T st.2) ?_ ?_
   ·rintro zs M' ⟨rfl,rfl⟩
    dsimp only[aa]
    have ho:(if o ≥ e - a then o - (e - a) else o)<e - a:=by split <;> omega
    generalize (if o ≥ e - a then o - (e - a) else o)=o2 at *
    rw[addN (by omega),addN (by omega),PM.rd hsk.symm (by omega),PM.rd hsk.symm (by omega),PM.swap hsk.symm (by omega) (by omega)]
    exact hJ _ _ rfl
   intro J4 hJ4
   rw[jy]
   refine aC (fun hg2=>?_) (fun hg2=>?_)
   ·have hg2:o ≥ e - a:=of_decide_eq_true hg2
    rw[eP (by omega) (by omega)]
    exact hJ4 _ _ ⟨by rw[if_pos hg2],rfl⟩
   ·exact hJ4 _ _ ⟨by rw[if_neg (of_decide_eq_false hg2)],rfl⟩
  ·have hg:¬ i0 + k≤a + (e - a) / 4 * 2 + 1:=of_decide_eq_false hg
   have h3:k=3:=by omega
   subst h3
   rw[aao] at hQ
   exact hQ _ (kS _)
 ·rw[if_neg (of_decide_eq_false h8)] at hQ
  exact hQ M (ag.refl _ _)
theorem VS:Sort.SWO lN where
 irrefl x:=by simp[lN]
 trans x y z:=by simp[lN]; omega
 ntrans x y z:=by simp[lN]; omega
def YM (d3:Array Nat) (a e pv limit:Nat) (wb wp:Bool) : Array Nat :=
 if a > 0 && !lN d3[a - 1]! d3[pv]! then
  match Sort.partitionEqual lN d3 a e pv with
  | (mid,d4)=>if _h:a<mid∧mid≤e then Sort.pdq lN d4 mid e limit wb wp else d4
 else
  match Sort.partition lN d3 a e pv with
  | (mid,ap,d4) =>
    if _h:a≤mid∧mid<e then
     if mid - a<e - mid then Sort.pdq lN (Sort.pdq lN d4 a mid limit true true) (mid + 1) e limit (decide (mid - a ≥ (e - a) / 8)) ap
     else Sort.pdq lN (Sort.pdq lN d4 (mid + 1) e limit true true) a mid limit (decide (e - mid ≥ (e - a) / 8)) ap
    else d4
def ahv (pi:Array Nat × Bool) (a e pv limit:Nat) (wb wp:Bool) : Array Nat:=if pi.2 then pi.1 else YM pi.1 a e pv limit wb wp
def air (d2:Array Nat) (a e pv:Nat) (hint:Sort.Hint) (limit:Nat) (wb wp:Bool) : Array Nat :=
 ahv (if wb && wp && hint=.increasing then Sort.partialInsertionSort lN d2 a e else(d2,false)) a e pv limit wb wp
def ahY (d1:Array Nat) (a e limit:Nat) (wb wp:Bool) : Array Nat :=
 air (if (Sort.choosePivot lN d1 a e).2=.decreasing then Sort.reverseRange d1 a e else d1) a e (if (Sort.choosePivot lN d1 a e).2=.decreasing then(e - 1) - ((Sort.choosePivot lN d1 a e).1 - a) else(Sort.choosePivot lN d1 a e).1)
  (if (Sort.choosePivot lN d1 a e).2=.decreasing then .increasing else(Sort.choosePivot lN d1 a e).2) limit wb wp
theorem pdq_eq (d:Array Nat) (a e limit:Nat) (wb wp:Bool) : Sort.pdq lN d a e limit wb wp =
  if e - a≤12 then Sort.insertionSort lN d a e else if limit=0 then Sort.heapSort lN d a e else ahY (if !wb then Sort.breakPatterns d a e else d) a e (if !wb then limit - 1 else limit) wb wp:=by
 rw[Sort.pdq]; rfl
theorem Mw (a e:Nat) : ∀ (k i:Nat) (d:Array Nat),e - i≤k→(Sort.insOuter lN a e i d).size=d.size
 | 0,i,d,h=>by rw[Sort.insOuter,if_neg (by omega)]
 | k + 1,i,d,h=>by
   rw[Sort.insOuter]
   split
   ·rw[Mw a e k _ _ (by omega),MG]
   ·rfl
theorem anM (d:Array Nat) (a e:Nat) : (Sort.insertionSort lN d a e).size=d.size:=Mw a e _ _ _ (Nat.le_refl _)
theorem afj (first:Nat) : ∀ (k:Nat) (d:Array Nat),(Sort.heapPop lN first k d).size=d.size
 | 0,d=>rfl
 | k + 1,d=>by rw[Sort.heapPop,afj first k,BI _ _ k _ _ (by omega),fP]
theorem agz (d:Array Nat) (a e:Nat) : (Sort.heapSort lN d a e).size=d.size:=by rw[Sort.heapSort,afj,Yx]
theorem PG:∀ (k i j:Nat) (d:Array Nat),j - i≤k→(Sort.reverseLoop i j d).size=d.size
 | 0,i,j,d,h=>by rw[Sort.reverseLoop,if_neg (by omega)]
 | k + 1,i,j,d,h=>by
   rw[Sort.reverseLoop]
   split
   ·rw[PG k _ _ _ (by omega),fP]
   ·rfl
theorem agk (d:Array Nat) (a e:Nat) : (Sort.reverseRange d a e).size=d.size:=PG _ _ _ _ (Nat.le_refl _)
theorem Ct (a l m:Nat) (st:UInt64 × Array Nat) (i:Nat) : (Sort.breakStep a l m st i).2.size=st.2.size:=fP _ _ _
theorem Yt (d:Array Nat) (a e:Nat) : (Sort.breakPatterns d a e).size=d.size:=by
 unfold Sort.breakPatterns
 dsimp only
 split
 ·rw[Ct,Ct,Ct]
 ·rfl
theorem VY (d:Array Nat) (a e pv:Nat) (h:a<e) : (Sort.partitionEqual lN d a e pv).2.size=d.size∧a<(Sort.partitionEqual lN d a e pv).1∧(Sort.partitionEqual lN d a e pv).1≤e:=by
 unfold Sort.partitionEqual
 have:=Ga a _ (a + 1) (e - 1) (Sort.swp d a pv) (Nat.le_refl _)
 rw[fP] at this
 omega
theorem abI (d:Array Nat) (a e pv:Nat) : (Sort.partition lN d a e pv).2.2.size=d.size:=by
 rw[Jz]
 split
 ·show(Sort.swp _ _ _).size=_
  rw[fP,fP]
 ·show(Sort.swp _ _ _).size=_
  rw[fP,(MK a _ _ _ _ (Nat.le_refl _)).2,fP,fP]
theorem Cm:∀ (n:Nat) (d:Array Nat) (a e limit:Nat) (wb wp:Bool),e - a≤n→(Sort.pdq lN d a e limit wb wp).size=d.size
 | n,d,a,e,limit,wb,wp,hn=>by
   rw[pdq_eq]
   split
   ·exact anM d a e
   split
   ·exact agz d a e
   have h1:(if !wb then Sort.breakPatterns d a e else d).size=d.size:=by split; exact Yt d a e; rfl
   rw[← h1]
   generalize (if !wb then Sort.breakPatterns d a e else d)=d1
   unfold ahY
   have h2:(if (Sort.choosePivot lN d1 a e).2=.decreasing then Sort.reverseRange d1 a e else d1).size=d1.size:=by split; exact agk d1 a e; rfl
   rw[← h2]
   generalize (if (Sort.choosePivot lN d1 a e).2=.decreasing then Sort.reverseRange d1 a e else d1)=d2
   generalize (if (Sort.choosePivot lN d1 a e).2=.decreasing then(e - 1) - ((Sort.choosePivot lN d1 a e).1 - a) else(Sort.choosePivot lN d1 a e).1)=pv
   generalize (if (Sort.choosePivot lN d1 a e).2=.decreasing then Sort.Hint.increasing else(Sort.choosePivot lN d1 a e).2)=hint
   unfold air
   have h3:(if wb && wp && hint=.increasing then Sort.partialInsertionSort lN d2 a e else(d2,false)).1.size=d2.size:=by
    split
    ·exact Gv a e _ _ _
    ·rfl
   rw[← h3]
   generalize (if wb && wp && hint=.increasing then Sort.partialInsertionSort lN d2 a e else(d2,false))=pi
   unfold ahv
   split
   ·rfl
   unfold YM
   have hE:=VY pi.1 a e pv
   have hP:=abI pi.1 a e pv
   generalize Sort.partitionEqual lN pi.1 a e pv=pe at *
   generalize Sort.partition lN pi.1 a e pv=pp at *
   obtain⟨mid,d4⟩:=pe
   obtain⟨avz,ap,d5⟩:=pp
   cases n with
   | zero=>omega
   | succ n =>
     split
     ·dsimp only
      split
      ·rw[Cm n _ _ _ _ _ _ (by omega)]
       exact(hE (by omega)).1
      ·exact(hE (by omega)).1
     ·dsimp only at hP ⊢
      split
      ·split
       ·rw[Cm n _ _ _ _ _ _ (by omega),Cm n _ _ _ _ _ _ (by omega)]; exact hP
       ·rw[Cm n _ _ _ _ _ _ (by omega),Cm n _ _ _ _ _ _ (by omega)]; exact hP
      ·exact hP
def acF (T m:Nat) (c:ak) : Prop:=∀ {M:RM} {b a e limit:Nat} {d:Array Nat} {Q:aj},b<M.next→d.size≤60000→a≤e→e≤d.size→e - a<m→limit≤1000000→(∀ M',ag [] M M'→Q (.tup []) (PM M' b T (Sort.pdq lN d a e limit true true))) →
 c [vv b d.size,N .i64 (a:Int),N .i64 (e:Int),N .i64 (limit:Int)] (PM M b T d) Q
theorem agd {T m:Nat} {ci ch cb cc cr cp cl ce ct cq:ak} (hi:Bh T (Sort.insertionSort lN) (fun _ _ _=>True) ci) (hh:Bh T (Sort.heapSort lN) (fun _ a e=>a<e) ch) (hb:Wz T cb) (hc:Rt T cc) (hr:Bh T Sort.reverseRange (fun _ a e=>a<e) cr)
  (hp:NP T cp) (hl:zG cl) (he:Rz T ce) (ht:aeN T ct) (hq:acF T m cq) : acF T (m + 1) fun args M Q=>∃ a0 a1 a2 a3,args=[a0,a1,a2,a3]∧iP ci ch cb cc cr cp cl ce ct cq a0 a1 a2 a3 M Q:=by
 intro M b a e limit d Q hbn hsz hae hed hm hlim hQ
 refine⟨_,_,_,_,rfl, ?_⟩
 unfold iP
 simp only[eu,dE,dQ,bF]
 obtain⟨R,hR⟩ : ∃ R,R=Sort.pdq lN d a e limit true true:=⟨_,rfl⟩
 rw[← hR] at hQ
 refine aG (fun m' ys M3=>∃ (a e limit:Nat) (wb wp:Bool) (d3:Array Nat) (M4:RM),m'=e - a∧ys=[N .i64 (a:Int),N .i64 (e:Int),N .i64 (limit:Int),Bo wb,Bo wp]∧a≤e∧e≤d.size∧e - a<m + 1∧limit≤1000000∧M3=PM M4 b T d3∧ag [] M M4∧d3.size=d.size∧R=Sort.pdq lN d3 a e limit wb wp) _
  ⟨a,e,limit,true,true,d,M,rfl,rfl,hae,hed,hm,hlim,rfl,ag.refl _ _,rfl,hR⟩ ?_
 clear hR hae hed hm hlim
 rintro next m' ys M3 hnext ⟨a,e,limit,wb,wp,d3,M4,rfl,rfl,hae,hed,hm,hlim,rfl,k4,hs3,hR⟩
 dsimp only[aa]
 have hb4:b<M4.next:=Nat.lt_of_lt_of_le hbn k4.next
 rw[pdq_eq] at hR
 rw[eP hae (by omega),show(12:Int)=((12:Nat) : Int) from rfl,mo]
 refine aC (fun hg=>?_) (fun hg=>?_)
 ·rw[if_pos (of_decide_eq_true hg)] at hR
  rw[← hs3]
  refine hi hb4 (by omega) hae (by omega) trivial ?_
  rw[← hR]
  exact hQ M4 k4
 have hg:¬ e - a≤12:=of_decide_eq_false hg
 rw[if_neg hg] at hR
 rw[show(0:Int)=((0:Nat) : Int) from rfl,Tj]
 refine aC (fun hg0=>?_) (fun hg0=>?_)
 ·rw[if_pos (of_decide_eq_true hg0)] at hR
  rw[← hs3]
  refine hh hb4 (by omega) hae (by omega) (by omega) ?_
  rw[← hR]
  exact hQ M4 k4
 have hg0:¬ limit=0:=of_decide_eq_false hg0
 rw[if_neg hg0] at hR
 refine aP (fun zs M'=>∃ (M5:RM),zs=[N .i64 (((if !wb then limit - 1 else limit) : Nat) : Int)]∧M'=PM M5 b T (if !wb then Sort.breakPatterns d3 a e else d3)∧ag [] M M5) ?_ ?_
 ·rintro zs M' ⟨M5,rfl,rfl,k5⟩
  dsimp only[aa]
  have hs5:(if !wb then Sort.breakPatterns d3 a e else d3).size=d.size:=by
   split
   ·rw[Yt,hs3]
   ·exact hs3
  have hl5:(if !wb then limit - 1 else limit)≤1000000:=by split <;> omega
  generalize (if !wb then Sort.breakPatterns d3 a e else d3)=d5 at *
  generalize (if !wb then limit - 1 else limit)=lim at *
  have hb5:b<M5.next:=Nat.lt_of_lt_of_le hbn k5.next
  rw[← hs5]
  refine hc hb5 (by omega) (by omega) (by omega) fun M6 k6=>?_
  rw[hs5]
  have hcr:=Sort.choosePivot_holds lN d5 a e (by omega)
  unfold ahY at hR
  generalize Sort.choosePivot lN d5 a e=cpv at *
  have k6':=k5.trans k6
  have hb6:b<M6.next:=Nat.lt_of_lt_of_le hbn k6'.next
  rw[lV,lQ]
  refine aP (fun zs M'=>zs=[N .i64 (((if cpv.2=.decreasing then(e - 1) - (cpv.1 - a) else cpv.1) : Nat) : Int),N .i64 (nW (if cpv.2=.decreasing then .increasing else cpv.2))]∧M'=PM M6 b T (if cpv.2=.decreasing then Sort.reverseRange d5 a e else d5)) ?_ ?_
  ·rintro zs M' ⟨rfl,rfl⟩
   dsimp only[aa]
   have hs7:(if cpv.2=.decreasing then Sort.reverseRange d5 a e else d5).size=d.size:=by
    split
    ·rw[agk,hs5]
    ·exact hs5
   have hpv:a≤(if cpv.2=.decreasing then(e - 1) - (cpv.1 - a) else cpv.1)∧(if cpv.2=.decreasing then(e - 1) - (cpv.1 - a) else cpv.1)<e:=by
    split <;> omega
   generalize (if cpv.2=.decreasing then Sort.reverseRange d5 a e else d5)=d7 at *
   generalize (if cpv.2=.decreasing then(e - 1) - (cpv.1 - a) else cpv.1)=pv at *
   generalize (if cpv.2=.decreasing then Sort.Hint.increasing else cpv.2)=hint at *
   unfold air ahv at hR
   -- behind the short insertion sort
   have rest:∀ d8:Array Nat,d8.size=d.size→R=YM d8 a e pv lim wb wp→∀ (J:aj),True→af .gtr (N .i64 (a:Int)) (N .i64 ((0:Nat) : Int)) fun t74 =>
     ae t74 true (fun k'=>af .sub (N .i64 (a:Int)) (N .i64 1) fun t78=>ah (vv b d.size) t78 1 fun t79=>au (PM M6 b T d8) t79 fun t80=>ah (vv b d.size) (N .i64 (pv:Int)) 1 fun t83=>au (PM M6 b T d8) t83 fun t84=>cl [t80,t84] (PM M6 b T d8) fun t85 yj=>dM t85 fun t86=>k' t86 yj none) (fun k=>k .undef (PM M6 b T d8) none) fun Y3 fM Nq =>
     aK t74 Y3 (Bo false) fun t87=>av t87 (
      ce [vv b d.size,N .i64 (a:Int),N .i64 (e:Int),N .i64 (pv:Int)] fM fun t92 ou=>next [t92,N .i64 (e:Int),N .i64 (lim:Int),Bo wb,Bo wp] ou) (
      ct [vv b d.size,N .i64 (a:Int),N .i64 (e:Int),N .i64 (pv:Int)] fM fun t99 iO=>fI t99 0 fun kP=>fI t99 1 fun lD=>af .sub kP (N .i64 (a:Int)) fun t105=>af .sub (N .i64 (e:Int)) kP fun vV =>
      af .quo (N .i64 ((e - a:Nat) : Int)) (N .i64 8) fun wo=>af .lss t105 vV fun sJ=>av sJ (af .geq t105 wo fun t116=>cq [vv b d.size,N .i64 (a:Int),kP,N .i64 (lim:Int)] iO fun Dp nK=>af .add kP (N .i64 1) fun CQ=>next [CQ,N .i64 (e:Int),N .i64 (lim:Int),t116,lD] nK) (
      af .geq vV wo fun Gu=>af .add kP (N .i64 1) fun tN=>cq [vv b d.size,tN,N .i64 (e:Int),N .i64 (lim:Int)] iO fun yN qY=>next [N .i64 (a:Int),kP,N .i64 (lim:Int),Gu,lD] qY)):=fun d8 hs8 hR8 _ _=>by
    unfold YM at hR8
    rw[pV]
    refine Wn (p:=!lN d8[a - 1]! d8[pv]!) (fun hc k hk=>?_) ?_
    ·have hc:a > 0:=of_decide_eq_true hc
     rw[bz (by omega) (by omega),PM.rd hs8.symm (by omega),PM.rd hs8.symm (by omega)]
     refine hl ?_
     rw[bD]
     exact hk
    refine aC (fun h=>?_) (fun h=>?_)
    ·rw[if_pos h] at hR8
     rw[← hs8]
     refine he hb6 (by omega) hpv.1 hpv.2 (by omega) ?_
     have hE:=VY d8 a e pv (by omega)
     generalize Sort.partitionEqual lN d8 a e pv=pe at *
     dsimp only at hR8
     rw[dif_pos ⟨hE.2.1,hE.2.2⟩] at hR8
     exact hnext _ _ _ (by omega) ⟨pe.1,e,lim,wb,wp,pe.2,M6,rfl,rfl,hE.2.2,hed,by omega,hl5,rfl,k6',by rw[hE.1,hs8],hR8⟩
    ·rw[if_neg (by rw[h]; decide)] at hR8
     rw[← hs8]
     refine ht hb6 (by omega) hpv.1 hpv.2 (by omega) ?_
     have hT:=Sort.partition_holds lN VS d8 a e pv hpv.1 hpv.2 (by omega)
     have hTs:=abI d8 a e pv
     generalize Sort.partition lN d8 a e pv=pp at *
     obtain⟨mid,ap,d9⟩:=pp
     dsimp only at hR8 hT hTs ⊢
     rw[dif_pos ⟨hT.1,hT.2.1⟩] at hR8
     have hT1:=hT.1
     have hT2:=hT.2.1
     rw[lV,lQ,eP hT1 (by omega),eP (by omega) (by omega),mg]
     refine⟨by decide, ?_⟩
     rw[show(8:Int)=((8:Nat) : Int) from rfl,qz,aZ (by omega) (by omega),dB]
     refine aC (fun hc1=>?_) (fun hc1=>?_)
     ·have hc1:mid - a<e - mid:=of_decide_eq_true hc1
      rw[if_pos hc1] at hR8
      rw[jy,← hTs]
      refine hq hb6 (by omega) hT1 (by omega) (by omega) hl5 fun M7 k7=>?_
      rw[add1 (by omega)]
      exact hnext _ _ _ (by omega) ⟨mid + 1,e,lim,_,ap,_,M7,rfl,rfl,by omega,hed,by omega,hl5,rfl,k6'.trans k7,by rw[Cm _ _ _ _ _ _ _ (Nat.le_refl _),hTs,hs8],hR8⟩
     ·have hc1:¬ mid - a<e - mid:=of_decide_eq_false hc1
      rw[if_neg hc1] at hR8
      rw[jy,add1 (by omega),← hTs]
      refine hq hb6 (by omega) (by omega) (by omega) (by omega) hl5 fun M7 k7=>?_
      exact hnext _ _ _ (by omega) ⟨a,mid,lim,_,ap,_,M7,rfl,rfl,hT1,by omega,by omega,hl5,rfl,k6'.trans k7,by rw[Cm _ _ _ _ _ _ _ (Nat.le_refl _),hTs,hs8],hR8⟩
   refine aP (fun zs M'=>∃ d8:Array Nat,M'=PM M6 b T d8∧d8.size=d.size∧R=YM d8 a e pv lim wb wp) ?_ ?_
   ·rintro zs M' ⟨d8,rfl,hs8,hR8⟩
    exact rest d8 hs8 hR8 (fun _ _=>True) trivial
   intro J10 JK
   have no:¬ (wb && wp && decide (hint=.increasing))=true→J10 [] (PM M6 b T d7):=fun hn=>by
    have hpi:(if (wb && wp && decide (hint=.increasing))=true then Sort.partialInsertionSort lN d7 a e else(d7,false))=(d7,false):=if_neg hn
    rw[hpi] at hR
    exact JK _ _ ⟨d7,rfl,hs7,hR⟩
   cases wb with
   | false =>
     rw[bN]
     dsimp only
     rw[bT,bN]
     dsimp only
     rw[bN]
     dsimp only
     rw[bT,bA]
     exact no (by simp)
   | true =>
     rw[bZ]
     dsimp only
     rw[dC]
     cases wp with
     | false =>
       rw[bN]
       dsimp only
       rw[bN]
       dsimp only
       rw[bT,bA]
       exact no (by simp)
     | true =>
       rw[bZ]
       dsimp only
       rw[bZ]
       dsimp only
       rw[bL,dC]
       by_cases hin:hint=.increasing
       ·rw[show(nW hint == 1)=true by rw[hin]; rfl,dP]
        have hpi:(if (true && true && decide (hint=.increasing))=true then Sort.partialInsertionSort lN d7 a e else(d7,false))=Sort.partialInsertionSort lN d7 a e:=if_pos (by simp[hin])
        rw[hpi] at hR
        rw[← hs7]
        refine hp hb6 (by omega) (by omega) (by omega) ?_
        have hs8:(Sort.partialInsertionSort lN d7 a e).1.size=d.size:=by
         rw[Sort.partialInsertionSort,Gv,hs7]
        generalize Sort.partialInsertionSort lN d7 a e=pi at *
        refine aC (fun h=>?_) (fun h=>?_)
        ·rw[if_pos h] at hR
         rw[← hR]
         exact hQ M6 k6'
        ·rw[if_neg (by rw[h]; decide)] at hR
         exact JK _ _ ⟨pi.1,rfl,hs8,hR⟩
       ·rw[show(nW hint == 1)=false by cases hint <;> first | rfl | exact absurd rfl hin,bA]
        exact no (by simp[hin])
  intro J6 hJ6
  rw[bL]
  by_cases hdec:cpv.2=.decreasing
  ·rw[show(nW cpv.2 == 2)=true by rw[hdec]; rfl,dP,← hs5]
   refine hr hb6 (by omega) hae (by omega) (by omega) ?_
   rw[bz (by omega) (by omega),eP (by omega) (by omega),eP (by omega) (by omega)]
   exact hJ6 _ _ ⟨by rw[if_pos hdec,if_pos hdec]; rfl,by rw[if_pos hdec]⟩
  ·rw[show(nW cpv.2 == 2)=false by cases h:cpv.2 <;> first | rfl | exact absurd h hdec,bA]
   exact hJ6 _ _ ⟨by rw[if_neg hdec,if_neg hdec],by rw[if_neg hdec]⟩
 intro J hJ
 rw[bD]
 cases wb with
 | true =>
   rw[Bool.not_true,bA]
   exact hJ _ _ ⟨M4,rfl,rfl,k4⟩
 | false =>
   rw[Bool.not_false,dP,← hs3]
   refine hb hb4 (by omega) hae (by omega) fun M5 k5=>?_
   rw[bz (by omega) (by omega)]
   exact hJ _ _ ⟨M5,rfl,rfl,k4.trans k5⟩
end Go.Ab.aH
namespace Go.Ab.Crw
open Go Go.Ab Go.Ab.aH
section
variable {α:Type} [Inhabited α] {E:Enc α} {M M' : RM} {T b z n i j:Nat} {d:Array α}
structure At (E:Enc α) (T b:Nat) (d:Array α) (M:RM) : Prop where
 heap:M.heap b=some (.row (E.row d.toList) true T 0)
 lt:b<M.next
abbrev sv (b n z:Nat) : AV:=.slc b 0 n (.op z)
theorem At.keep {α:Type} {E:Enc α} {d:Array α} (h:At E T b d M) (k:ag [] M M') : At E T b d M':=⟨k.aQ h.heap h.lt (by simp),Nat.lt_of_lt_of_le h.lt k.next⟩
theorem KT (hi:i<d.size) : d[i]! = d[i]:=getElem!_pos d i hi
theorem At.idx {kd:IntKind} {K:AV→Prop} (hi:i<n) : ah (sv b n z) (N kd (i:Int)) z K=K (.ptr b (i * z)):=by
 rw[ma]
 simp only[Int.toNat_natCast]
 rw[Nat.zero_add]
 exact propext ⟨fun h=>h.2.2,fun h=>⟨by omega,by omega,h⟩⟩
theorem At.ld (h:At E T b d M) (hz:E.size=z) (hi:i<d.size) {K:AV→Prop} : aB M (.ptr b (i * z)) z K=K (.agg (E.cells d[i]!)):=by
 subst hz
 have hl:M.loads b (i * E.size) E.size=some (E.cells d[i]!):=by
  have hlen:(E.row d.toList).length=d.size * E.size:=by rw[Enc.eH,Array.length_toList]
  have hsum:i * E.size + E.size≤d.size * E.size:=by rw[← Nat.succ_mul]; exact Nat.mul_le_mul_right _ hi
  rw[RM.dH h.heap (by omega),E.Uc (by rw[Array.length_toList]; exact hi),KT hi]
  simp
 rw[fB,hl]
 simp
theorem At.rd (h:At E T b d M) (hz:E.size=z) (hn:n=d.size) (hi:i<d.size) {kd:IntKind} {K:AV→Prop} : (ah (sv b n z) (N kd (i:Int)) z fun p=>aB M p z K)=K (.agg (E.cells d[i]!)):=by
 rw[At.idx (by omega),h.ld hz hi]
theorem Sw {α:Type} {E:Enc α} {l:List α} {i:Nat} {x:α} (hi:i<l.length) : (E.row l).take (i * E.size)++E.cells x++(E.row l).drop (i * E.size + E.size)=E.row (l.set i x):=by
 rw[List.set_eq_take_append_cons_drop,if_pos hi,E.qW,E.iT,E.vT,← Nat.succ_mul,E.wC,List.append_assoc]
theorem At.st {α:Type} {E:Enc α} {d:Array α} (h:At E T b d M) (hz:E.size=z) (hi:i<d.size) {x:α} {K:RM→Prop} (hK:∀ M',At E T b (d.setIfInBounds i x) M'→ag [b] M M'→M'.next=M.next→K M') : aF M (.ptr b (i * z)) (.agg (E.cells x)) z K:=by
 subst hz
 have hlen:(E.row d.toList).length=d.size * E.size:=by rw[Enc.eH,Array.length_toList]
 have hsum:i * E.size + E.size≤d.size * E.size:=by rw[← Nat.succ_mul]; exact Nat.mul_le_mul_right _ hi
 rw[Bb]
 refine⟨E.len x,_,RM.Br h.heap (by show i * E.size + (E.cells x).length≤_; rw[E.len]; omega) (Nat.zero_le _) (E.one x), ?_⟩
 refine hK _ ⟨?_,h.lt⟩ ((ag.refl _ _).put _ (.inr (by simp))) rfl
 rw[aU]
 have hi' : i<d.toList.length:=by rw[Array.length_toList]; exact hi
 have:=Sw (E:=E) (x:=x) hi'
 rw[Array.toList_setIfInBounds,← this]
 show some (RB.row ((E.row d.toList).take (i * E.size)++E.cells x++(E.row d.toList).drop (i * E.size + (E.cells x).length)) true T 0)=_
 rw[E.len]
theorem bY (d:Array α) (i j:Nat) : (Sort.swp d i j).size=d.size:=by simp[Sort.swp]
theorem At.swap (h:At E T b d M) (hz:E.size=z) (hn:n=d.size) (hi:i<d.size) (hj:j<d.size) {k1 k2:IntKind} {K:RM→Prop} (hK:∀ M',At E T b (Sort.swp d i j) M'→ag [b] M M'→K M') :
  ah (sv b n z) (N k1 (i:Int)) z fun p=>aF M p (.agg (E.cells d[j]!)) z fun M1=>ah (sv b n z) (N k2 (j:Int)) z fun q=>aF M1 q (.agg (E.cells d[i]!)) z K:=by
 rw[At.idx (by omega)]
 refine h.st hz hi fun M1 h1 k1 _=>?_
 rw[At.idx (by omega)]
 refine h1.st hz (by simpa using hj) fun M2 h2 k2 _=>?_
 exact hK M2 h2 (k1.trans k2)
def qj (E:Enc α) (lt:α→α→Bool) (c:List AV→RM→aj→Prop) : Prop:=∀ {M:RM} {x y:α} {Q:aj},(∀ (n:Int) M',decide (n<0)=lt x y→ag [] M M'→Q (N .i64 n) M')→c [.agg (E.cells x),.agg (E.cells y)] M Q
theorem qj.use {α:Type} {E:Enc α} {lt:α→α→Bool} {c:List AV→RM→aj→Prop} (h:qj E lt c) {M:RM} {x y:α} {K:AV→RM→Prop} (hK:∀ M',ag [] M M'→K (Bo (lt x y)) M') :
  c [.agg (E.cells x),.agg (E.cells y)] M fun t M'=>af .lss t (N .i64 0) fun u=>K u M':=by
 refine h fun n M' hn k=>?_
 rw[dL,hn]
 exact hK M' k
def SortG (E:Enc α) (T z:Nat) (fv:AV) (f:Array α→Nat→Nat→Array α) (P:Array α→Nat→Nat→Prop) (c:ak) : Prop:=∀ {M:RM} {b a e:Nat} {d:Array α} {Q:aj},At E T b d M→d.size≤60000→a≤e→e≤d.size→P d a e→(∀ M',At E T b (f d a e) M'→ag [b] M M'→Q (.tup []) M') →
 c [sv b d.size z,N .i64 (a:Int),N .i64 (e:Int),fv] M Q
end
section
variable {α:Type} [Inhabited α] (lt:α→α→Bool)
theorem PK (a:Nat) : ∀ (j:Nat) (d:Array α),(Sort.insInner lt a j d).size=d.size
 | 0,d=>rfl
 | j + 1,d=>by
   rw[Sort.insInner]
   split
   ·rw[PK a j,bY]
   ·rfl
theorem Pq (a e:Nat) : ∀ (k i:Nat) (d:Array α),e - i≤k→(Sort.insOuter lt a e i d).size=d.size
 | 0,i,d,h=>by rw[Sort.insOuter,if_neg (by omega)]
 | k + 1,i,d,h=>by
   rw[Sort.insOuter]
   split
   ·rw[Pq a e k _ _ (by omega),PK]
   ·rfl
theorem asS (d:Array α) (a e:Nat) : (Sort.insertionSort lt d a e).size=d.size:=Pq lt a e _ _ _ (Nat.le_refl _)
theorem zU (hi first:Nat) : ∀ (k lo:Nat) (d:Array α),hi - lo≤k→(Sort.siftDown lt hi first lo d).size=d.size
 | 0,lo,d,h=>by rw[Sort.siftDown,dif_pos (by omega)]
 | k + 1,lo,d,h=>by
   rw[Sort.siftDown]
   split
   ·rfl
   ·split
    ·split
     ·rfl
     ·split
      ·rw[zU hi first k _ _ (by omega),bY]
      ·rfl
    ·split
     ·rfl
     ·rw[zU hi first k _ _ (by omega),bY]
theorem abK (hi first:Nat) : ∀ (k:Nat) (d:Array α),(Sort.heapBuild lt hi first k d).size=d.size
 | 0,d=>rfl
 | k + 1,d=>by rw[Sort.heapBuild,abK hi first k,zU lt hi first hi _ _ (by omega)]
theorem akC (first:Nat) : ∀ (k:Nat) (d:Array α),(Sort.heapPop lt first k d).size=d.size
 | 0,d=>rfl
 | k + 1,d=>by rw[Sort.heapPop,akC first k,zU lt _ _ k _ _ (by omega),bY]
theorem arJ (d:Array α) (a e:Nat) : (Sort.heapSort lt d a e).size=d.size:=by rw[Sort.heapSort,akC,abK]
theorem Uu:∀ (k i j:Nat) (d:Array α),j - i≤k→(Sort.reverseLoop i j d).size=d.size
 | 0,i,j,d,h=>by rw[Sort.reverseLoop,if_neg (by omega)]
 | k + 1,i,j,d,h=>by
   rw[Sort.reverseLoop]
   split
   ·rw[Uu k _ _ _ (by omega),bY]
   ·rfl
theorem adJ (d:Array α) (a e:Nat) : (Sort.reverseRange d a e).size=d.size:=Uu _ _ _ _ (Nat.le_refl _)
theorem zK (a l m:Nat) (st:UInt64 × Array α) (i:Nat) : (Sort.breakStep a l m st i).2.size=st.2.size:=bY _ _ _
theorem RL (d:Array α) (a e:Nat) : (Sort.breakPatterns d a e).size=d.size:=by
 unfold Sort.breakPatterns
 dsimp only
 split
 ·rw[zK,zK,zK]
 ·rfl
theorem zt:∀ (j:Nat) (d:Array α),(Sort.shiftDown lt j d).size=d.size
 | 0,d=>rfl
 | j + 1,d=>by
   rw[Sort.shiftDown]
   split
   ·rfl
   ·rw[zt j,bY]
theorem U1 (e:Nat) : ∀ (k j:Nat) (d:Array α),e - j≤k→(Sort.shiftUp lt e j d).size=d.size
 | 0,j,d,h=>by rw[Sort.shiftUp,if_neg (by omega)]
 | k + 1,j,d,h=>by
   rw[Sort.shiftUp]
   split
   ·split
    ·rfl
    ·rw[U1 e k _ _ (by omega),bY]
   ·rfl
theorem xx (a b s i:Nat) (d:Array α) : Sort.partialIns lt a b (s + 1) i d =
  if Sort.scanSorted lt d b i=b then(d,true) else if b - a<50 then(d,false) else
   Sort.partialIns lt a b s (Sort.scanSorted lt d b i) (if b - Sort.scanSorted lt d b i ≥ 2 then Sort.shiftUp lt b (Sort.scanSorted lt d b i + 1) (if Sort.scanSorted lt d b i - a ≥ 2 then Sort.shiftDown lt (Sort.scanSorted lt d b i - 1) (Sort.swp d (Sort.scanSorted lt d b i) (Sort.scanSorted lt d b i - 1)) else Sort.swp d (Sort.scanSorted lt d b i) (Sort.scanSorted lt d b i - 1))
    else(if Sort.scanSorted lt d b i - a ≥ 2 then Sort.shiftDown lt (Sort.scanSorted lt d b i - 1) (Sort.swp d (Sort.scanSorted lt d b i) (Sort.scanSorted lt d b i - 1)) else Sort.swp d (Sort.scanSorted lt d b i) (Sort.scanSorted lt d b i - 1))):=rfl
theorem DY (a e:Nat) : ∀ (s i:Nat) (d:Array α),(Sort.partialIns lt a e s i d).1.size=d.size
 | 0,i,d=>rfl
 | s + 1,i,d=>by
   rw[xx]
   split
   ·rfl
   ·split
    ·rfl
    ·rw[DY a e s]
     have h1:∀ x,(if x - a ≥ 2 then Sort.shiftDown lt (x - 1) (Sort.swp d x (x - 1)) else Sort.swp d x (x - 1)).size=d.size:=fun x=>by
      split
      ·rw[zt,bY]
      ·rw[bY]
     split
     ·rw[U1 lt e e _ _ (by omega),h1]
     ·rw[h1]
theorem Nt (p:α→Bool) (d:Array α) (J:Nat) : ∀ (n i:Nat),J + 1 - i≤n→i≤Sort.scanUp p d J i∧Sort.scanUp p d J i≤max (J + 1) i
 | 0,i,h=>by
   rw[Sort.scanUp,if_neg (by simp; omega)]; omega
 | n + 1,i,h=>by
   rw[Sort.scanUp]
   split
   ·rename_i hc
    rw[Bool.and_eq_true] at hc
    have:=of_decide_eq_true hc.1
    have:=Nt p d J n (i + 1) (by omega)
    omega
   ·omega
theorem Gh (p:α→Bool) (d:Array α) (i:Nat) : ∀ j,Sort.scanDown p d i j≤j
 | 0=>Nat.le_refl _
 | j + 1=>by
   rw[Sort.scanDown]
   split
   ·have:=Gh p d i j; omega
   ·omega
theorem JR (a:Nat) : ∀ (n i j:Nat) (d:Array α),j + 1 - i≤n→i≤(Sort.partEqLoop lt a i j d).1∧(Sort.partEqLoop lt a i j d).1≤max (j + 1) i∧(Sort.partEqLoop lt a i j d).2.size=d.size
 | n,i,j,d,h=>by
   have h1:=Nt (fun x=>!lt d[a]! x) d j _ i (Nat.le_refl _)
   have h2:=Gh (fun x=>lt d[a]! x) d (Sort.scanUp (fun x=>!lt d[a]! x) d j i) j
   rw[Sort.partEqLoop]
   generalize Sort.scanUp (fun x=>!lt d[a]! x) d j i=i2 at *
   generalize Sort.scanDown (fun x=>lt d[a]! x) d i2 j=j2 at *
   split
   ·exact⟨h1.1,h1.2,rfl⟩
   ·split
    ·cases n with
     | zero=>omega
     | succ n =>
       have h3:=JR a n (i2 + 1) (j2 - 1) (Sort.swp d i2 j2) (by omega)
       rw[bY] at h3
       omega
    ·exact⟨h1.1,h1.2,rfl⟩
theorem Rh (a:Nat) : ∀ (n i j:Nat) (d:Array α),j + 1 - i≤n→(Sort.partLoop lt a i j d).1≤j∧(Sort.partLoop lt a i j d).2.size=d.size
 | n,i,j,d,h=>by
   have h1:=Nt (fun x=>lt x d[a]!) d j _ i (Nat.le_refl _)
   have h2:=Gh (fun x=>!lt x d[a]!) d (Sort.scanUp (fun x=>lt x d[a]!) d j i) j
   rw[Sort.partLoop]
   generalize Sort.scanUp (fun x=>lt x d[a]!) d j i=i2 at *
   generalize Sort.scanDown (fun x=>!lt x d[a]!) d i2 j=j2 at *
   split
   ·exact⟨h2,rfl⟩
   ·split
    ·cases n with
     | zero=>omega
     | succ n =>
       have h3:=Rh a n (i2 + 1) (j2 - 1) (Sort.swp d i2 j2) (by omega)
       rw[bY] at h3
       exact⟨by omega,h3.2⟩
    ·exact⟨h2,rfl⟩
theorem Tz (d:Array α) (a e pv:Nat) (h:a<e) : (Sort.partitionEqual lt d a e pv).2.size=d.size∧a<(Sort.partitionEqual lt d a e pv).1∧(Sort.partitionEqual lt d a e pv).1≤e:=by
 unfold Sort.partitionEqual
 have:=JR lt a _ (a + 1) (e - 1) (Sort.swp d a pv) (Nat.le_refl _)
 rw[bY] at this
 omega
def pI (d2:Array α) (a e:Nat) : Nat:=Sort.scanUp (fun x=>lt x d2[a]!) d2 (e - 1) (a + 1)
def pJ (d2:Array α) (a e:Nat) : Nat:=Sort.scanDown (fun x=>!lt x d2[a]!) d2 (pI lt d2 a e) (e - 1)
def pL (d2:Array α) (a e:Nat) : Nat × Array α:=Sort.partLoop lt a (pI lt d2 a e + 1) (pJ lt d2 a e - 1) (Sort.swp d2 (pI lt d2 a e) (pJ lt d2 a e))
theorem yM (d:Array α) (a e pv:Nat) : Sort.partition lt d a e pv =
  if pI lt (Sort.swp d a pv) a e > pJ lt (Sort.swp d a pv) a e then(pJ lt (Sort.swp d a pv) a e,true,Sort.swp (Sort.swp d a pv) (pJ lt (Sort.swp d a pv) a e) a)
  else((pL lt (Sort.swp d a pv) a e).1,false,Sort.swp (pL lt (Sort.swp d a pv) a e).2 (pL lt (Sort.swp d a pv) a e).1 a):=rfl
theorem XW (d:Array α) (a e pv:Nat) : (Sort.partition lt d a e pv).2.2.size=d.size:=by
 rw[yM]
 split
 ·show(Sort.swp _ _ _).size=_
  rw[bY,bY]
 ·show(Sort.swp _ _ _).size=_
  rw[bY,pL,(Rh lt a _ _ _ _ (Nat.le_refl _)).2,bY,bY]
def gC (d3:Array α) (a e pv limit:Nat) (wb wp:Bool) : Array α :=
 if a > 0 && !lt d3[a - 1]! d3[pv]! then
  match Sort.partitionEqual lt d3 a e pv with
  | (mid,d4)=>if _h:a<mid∧mid≤e then Sort.pdq lt d4 mid e limit wb wp else d4
 else
  match Sort.partition lt d3 a e pv with
  | (mid,ap,d4) =>
    if _h:a≤mid∧mid<e then
     if mid - a<e - mid then Sort.pdq lt (Sort.pdq lt d4 a mid limit true true) (mid + 1) e limit (decide (mid - a ≥ (e - a) / 8)) ap
     else Sort.pdq lt (Sort.pdq lt d4 (mid + 1) e limit true true) a mid limit (decide (e - mid ≥ (e - a) / 8)) ap
    else d4
def gP (pi:Array α × Bool) (a e pv limit:Nat) (wb wp:Bool) : Array α:=if pi.2 then pi.1 else gC lt pi.1 a e pv limit wb wp
def gB (d2:Array α) (a e pv:Nat) (hint:Sort.Hint) (limit:Nat) (wb wp:Bool) : Array α :=
 gP lt (if wb && wp && hint=.increasing then Sort.partialInsertionSort lt d2 a e else(d2,false)) a e pv limit wb wp
def gA (d1:Array α) (a e limit:Nat) (wb wp:Bool) : Array α :=
 gB lt (if (Sort.choosePivot lt d1 a e).2=.decreasing then Sort.reverseRange d1 a e else d1) a e (if (Sort.choosePivot lt d1 a e).2=.decreasing then(e - 1) - ((Sort.choosePivot lt d1 a e).1 - a) else(Sort.choosePivot lt d1 a e).1)
  (if (Sort.choosePivot lt d1 a e).2=.decreasing then .increasing else(Sort.choosePivot lt d1 a e).2) limit wb wp
theorem Cx (d:Array α) (a e limit:Nat) (wb wp:Bool) : Sort.pdq lt d a e limit wb wp =
  if e - a≤12 then Sort.insertionSort lt d a e else if limit=0 then Sort.heapSort lt d a e else gA lt (if !wb then Sort.breakPatterns d a e else d) a e (if !wb then limit - 1 else limit) wb wp:=by
 rw[Sort.pdq]; rfl
theorem Bg:∀ (n:Nat) (d:Array α) (a e limit:Nat) (wb wp:Bool),e - a≤n→(Sort.pdq lt d a e limit wb wp).size=d.size
 | n,d,a,e,limit,wb,wp,hn=>by
   rw[Cx]
   split
   ·exact asS lt d a e
   split
   ·exact arJ lt d a e
   have h1:(if !wb then Sort.breakPatterns d a e else d).size=d.size:=by split; exact RL d a e; rfl
   rw[← h1]
   generalize (if !wb then Sort.breakPatterns d a e else d)=d1
   unfold gA
   have h2:(if (Sort.choosePivot lt d1 a e).2=.decreasing then Sort.reverseRange d1 a e else d1).size=d1.size:=by split; exact adJ d1 a e; rfl
   rw[← h2]
   generalize (if (Sort.choosePivot lt d1 a e).2=.decreasing then Sort.reverseRange d1 a e else d1)=d2
   generalize (if (Sort.choosePivot lt d1 a e).2=.decreasing then(e - 1) - ((Sort.choosePivot lt d1 a e).1 - a) else(Sort.choosePivot lt d1 a e).1)=pv
   generalize (if (Sort.choosePivot lt d1 a e).2=.decreasing then Sort.Hint.increasing else(Sort.choosePivot lt d1 a e).2)=hint
   unfold gB
   have h3:(if wb && wp && hint=.increasing then Sort.partialInsertionSort lt d2 a e else(d2,false)).1.size=d2.size:=by
    split
    ·exact DY lt a e _ _ _
    ·rfl
   rw[← h3]
   generalize (if wb && wp && hint=.increasing then Sort.partialInsertionSort lt d2 a e else(d2,false))=pi
   unfold gP
   split
   ·rfl
   unfold gC
   have hE:=Tz lt pi.1 a e pv
   have hP:=XW lt pi.1 a e pv
   generalize Sort.partitionEqual lt pi.1 a e pv=pe at *
   generalize Sort.partition lt pi.1 a e pv=pp at *
   obtain⟨mid,d4⟩:=pe
   obtain⟨avz,ap,d5⟩:=pp
   cases n with
   | zero=>omega
   | succ n =>
     split
     ·dsimp only
      split
      ·rw[Bg n _ _ _ _ _ _ (by omega)]
       exact(hE (by omega)).1
      ·exact(hE (by omega)).1
     ·dsimp only at hP ⊢
      split
      ·split
       ·rw[Bg n _ _ _ _ _ _ (by omega),Bg n _ _ _ _ _ _ (by omega)]; exact hP
       ·rw[Bg n _ _ _ _ _ _ (by omega),Bg n _ _ _ _ _ _ (by omega)]; exact hP
      ·exact hP
theorem vS (d:Array α) (i j k:Nat) : (((Sort.order2 lt d i j k).1=i∧(Sort.order2 lt d i j k).2.1=j)∨((Sort.order2 lt d i j k).1=j∧(Sort.order2 lt d i j k).2.1=i))∧k≤(Sort.order2 lt d i j k).2.2∧(Sort.order2 lt d i j k).2.2≤k + 1:=by
 unfold Sort.order2
 split <;> simp
theorem yP (d:Array α) {i j h k n:Nat} (hi:i<n) (hj:j<n) (hh:h<n) : (Sort.median lt d i j h k).1<n∧(Sort.median lt d i j h k).2≤k + 3:=by
 unfold Sort.median
 dsimp only
 have o1:=vS lt d i j k
 generalize Sort.order2 lt d i j k=r1 at *
 have o2:=vS lt d r1.2.1 h r1.2.2
 generalize Sort.order2 lt d r1.2.1 h r1.2.2=r2 at *
 have o3:=vS lt d r1.1 r2.1 r2.2.2
 omega
end
section
variable {α:Type} [Inhabited α] {E:Enc α} {M M' : RM} {T b z n i j:Nat} {d:Array α} {ks:List Nat}
theorem At.keep' {α:Type} {E:Enc α} {d:Array α} (h:At E T b d M) (k:ag ks M M') (hb:b ∉ ks) : At E T b d M':=⟨k.aQ h.heap h.lt hb,Nat.lt_of_lt_of_le h.lt k.next⟩
theorem qZ {c p:Bool} {f:KR→Prop} {P:RM→Prop} {G:AV→RM→Prop} (h0:P M) (hf:c=true→∀ k:KR,(∀ M',P M'→k (Bo p) M' none)→f k) (hG:∀ M',P M'→G (Bo (c && p)) M') :
  ae (Bo c) true f (fun k=>k .undef M none) (fun t M' b=>aK (Bo c) t (Bo false) fun u=>G u M'):=by
 cases c with
 | false=>rw[gG]; dsimp only; rw[bT]; exact hG M h0
 | true=>rw[gI]; exact hf rfl _ fun M' h=>by rw[dC]; exact hG M' h
variable {body:(List AV→RM→Prop)→List AV→RM→Prop} {p:α→Bool} {P:RM→Prop}
theorem BF {J i0:Nat} (hP:P M) (h:∀ (next:List AV→RM→Prop) (i:Nat) (M' : RM),P M'→i0≤i→i≤max (J + 1) i0→((decide (i≤J) && p d[i]!)=true→∀ M'',P M''→next [N .i64 ((i + 1:Nat) : Int)] M'')→((decide (i≤J) && p d[i]!)=false→i=Sort.scanUp p d J i0)→body next [N .i64 (i:Int)] M') :
  aM body [N .i64 (i0:Int)] M:=by
 obtain⟨R,hR⟩ : ∃ R,R=Sort.scanUp p d J i0:=⟨_,rfl⟩
 refine aG (fun m ys M3=>∃ (i:Nat),m=J + 1 - i∧ys=[N .i64 (i:Int)]∧i0≤i∧i≤max (J + 1) i0∧P M3∧R=Sort.scanUp p d J i) _ ⟨i0,rfl,rfl,Nat.le_refl _,by omega,hP,hR⟩ ?_
 rintro next m ys M3 hnext ⟨i,rfl,rfl,h0,hi,h3,hm⟩
 rw[Sort.scanUp] at hm
 refine h next i M3 h3 h0 hi (fun hc M4 h4=>?_) (fun hc=>?_)
 ·rw[if_pos hc] at hm
  have hij:i≤J:=by
   rw[Bool.and_eq_true] at hc
   exact of_decide_eq_true hc.1
  exact hnext _ _ _ (by omega) ⟨i + 1,rfl,rfl,by omega,by omega,h4,hm⟩
 ·rw[if_neg (by rw[hc]; decide)] at hm
  rw[← hR]; exact hm.symm
theorem wH {i j0:Nat} (hP:P M) (h1:1≤i) (h:∀ (next:List AV→RM→Prop) (j:Nat) (M' : RM),P M'→j≤j0→(j=j0∨i≤j + 1)→((decide (i≤j) && p d[j]!)=true→∀ M'',P M''→next [N .i64 ((j - 1:Nat) : Int)] M'')→((decide (i≤j) && p d[j]!)=false→j=Sort.scanDown p d i j0)→body next [N .i64 (j:Int)] M') :
  aM body [N .i64 (j0:Int)] M:=by
 obtain⟨R,hR⟩ : ∃ R,R=Sort.scanDown p d i j0:=⟨_,rfl⟩
 refine aG (fun m ys M3=>∃ (j:Nat),m=j + 1∧ys=[N .i64 (j:Int)]∧j≤j0∧(j=j0∨i≤j + 1)∧P M3∧R=Sort.scanDown p d i j) _ ⟨j0,rfl,rfl,Nat.le_refl _,.inl rfl,hP,hR⟩ ?_
 rintro next m ys M3 hnext ⟨j,rfl,rfl,h0,hi,h3,hm⟩
 refine h next j M3 h3 h0 hi (fun hc M4 h4=>?_) (fun hc=>?_)
 ·have hij:i≤j:=by
   rw[Bool.and_eq_true] at hc
   exact of_decide_eq_true hc.1
  obtain⟨k,rfl⟩ : ∃ k,j=k + 1:=⟨j - 1,by omega⟩
  rw[Sort.scanDown,if_pos hc] at hm
  exact hnext _ _ _ (by omega) ⟨k,rfl,rfl,by omega,by omega,h4,hm⟩
 ·rw[← hR]
  cases j with
  | zero=>exact hm.symm
  | succ k=>rw[Sort.scanDown,if_neg (by rw[hc]; decide)] at hm; exact hm.symm
end
def acC (TX:Nat) (c:ak) : Prop:=∀ {M:RM} {s:Nat} {r:UInt64} {Q:aj},M.heap s=some (.row [N .u64 (r.toNat:Int)] false TX 0)→s<M.next→(∀ M',M'.heap s=some (.row [N .u64 ((Sort.xorNext r).toNat:Int)] false TX 0)→ag [s] M M'→M'.next=M.next→Q (N .u64 ((Sort.xorNext r).toNat:Int)) M')→c [.ptr s 0] M Q
theorem aeY {TX:Nat} : acC TX fun args M Q=>∃ a0,args=[a0]∧oO a0 M Q:=by
 intro M s r Q hh hlt hQ
 refine⟨_,rfl, ?_⟩
 unfold oO
 have st:∀ (M:RM) (r r' : UInt64) (K:RM→Prop),M.heap s=some (.row [N .u64 (r.toNat:Int)] false TX 0)→(∀ M',M'.heap s=some (.row [N .u64 (r'.toNat:Int)] false TX 0)→ag [s] M M'→M'.next=M.next→K M')→aF M (.ptr s 0) (N .u64 (r'.toNat:Int)) 1 K:=fun M r r' K h hK=>by
  rw[gY h (by simp) rfl rfl]
  exact hK _ (aU _) ((ag.refl _ _).put _ (.inr (by simp))) rfl
 rw[aO,az hh rfl,aO,az hh rfl,FY]
 refine⟨by decide, ?_⟩
 rw[show(13:Int)=((13:Nat) : Int) from rfl,LQ (k:=13) (n:=13) rfl (by decide),yU,u64_xor,aO]
 refine st _ _ _ _ hh fun M1 h1 k1 n1=>?_
 rw[aO,az h1 rfl,aO,az h1 rfl,LA]
 refine⟨by decide, ?_⟩
 rw[show(7:Int)=((7:Nat) : Int) from rfl,abU (k:=7) (n:=7) rfl (by decide),yU,u64_xor,aO]
 refine st _ _ _ _ h1 fun M2 h2 k2 n2=>?_
 rw[aO,az h2 rfl,aO,az h2 rfl,FY]
 refine⟨by decide, ?_⟩
 rw[show(17:Int)=((17:Nat) : Int) from rfl,LQ (k:=17) (n:=17) rfl (by decide),yU,u64_xor,aO]
 refine st _ _ _ _ h2 fun M3 h3 k3 n3=>?_
 rw[aO,az h3 rfl]
 exact hQ M3 h3 ((k1.trans k2).trans k3) (by omega)
def u7 {α:Type} [Inhabited α] (a l m i0:Nat) (d:Array α) : Nat→UInt64 × Array α
 | 0=>(UInt64.ofNat l,d)
 | k + 1=>Sort.breakStep a l m (u7 a l m i0 d k) (i0 + k)
theorem XK {α:Type} [Inhabited α] (a l m i0:Nat) (d:Array α) : ∀ k,(u7 a l m i0 d k).2.size=d.size
 | 0=>rfl
 | k + 1=>by
   rw[u7,zK,XK a l m i0 d k]
abbrev aD:=aH × (List UInt8 × List UInt8 × List UInt8)
def aA:Enc aD:=⟨5,fun x=>aR x.1++[St x.2.1,St x.2.2.1,St x.2.2.2],fun _=>rfl,fun _=>rfl⟩
theorem ahF {T:Nat} {fv:AV} {lt:aD→aD→Bool} {cv:FuncId→ak} (hl:qj aA lt (cO cv fv)) : SortG aA T 5 fv (Sort.insertionSort lt) (fun _ _ _=>True) fun args M Q=>∃ a0 a1 a2 a3,args=[a0,a1,a2,a3]∧gp cv a0 a1 a2 a3 M Q:=by
 intro M b a e d Q hat hsz hae he _ hQ
 refine⟨_,_,_,_,rfl, ?_⟩
 unfold gp
 simp only[eu,dE,dQ]
 rw[add1 (by omega)]
 rw[Sort.insertionSort] at hQ
 obtain⟨R,hR⟩ : ∃ R,R=Sort.insOuter lt a e (a + 1) d:=⟨_,rfl⟩
 rw[← hR] at hQ
 refine aG (fun m ys M3=>∃ (i:Nat) (d3:Array aD),m=d.size - i∧ys=[N .i64 (i:Int)]∧i≤d.size + 1∧At aA T b d3 M3∧ag [b] M M3∧d3.size=d.size∧R=Sort.insOuter lt a e i d3) _ ⟨a + 1,d,rfl,rfl,by omega,hat,ag.refl _ _,rfl,hR⟩ ?_
 rintro next m ys M3 hnext ⟨i,d3,rfl,rfl,hi,h3,k3,hs3,hm⟩
 dsimp only[aa]
 rw[dB]
 refine aC (fun hlt=>?_) (fun hge=>?_)
 ·have hlt:i<e:=of_decide_eq_true hlt
  rw[Sort.insOuter,if_pos hlt] at hm
  obtain⟨R5,hR5⟩ : ∃ R5,R5=Sort.insInner lt a i d3:=⟨_,rfl⟩
  rw[← hR5] at hm
  refine aG (fun m ys M5=>∃ (j:Nat) (d5:Array aD),m=j + 1∧ys=[N .i64 (j:Int)]∧j≤i∧At aA T b d5 M5∧ag [b] M M5∧d5.size=d.size∧R5=Sort.insInner lt a j d5) _ ⟨i,d3,rfl,rfl,Nat.le_refl _,h3,k3,hs3,hR5⟩ ?_
  rintro iq m ys M5 dm ⟨j,d5,rfl,rfl,hj,h5,k5,hs5,hm5⟩
  dsimp only[aa]
  rw[pV]
  have out:∀ M6,At aA T b d5 M6→ag [b] M M6→Sort.insInner lt a j d5=d5→af .add (N .i64 (i:Int)) (N .i64 1) (fun t14=>next [t14] M6):=fun M6 h6 k6 h=>by
   rw[add1 (by omega)]
   refine hnext _ _ _ (by omega) ⟨i + 1,d5,rfl,rfl,by omega,h6,k6,hs5, ?_⟩
   rw[hm,hm5,h]
  by_cases hg:j > a
  ·obtain⟨k,rfl⟩ : ∃ k,j=k + 1:=⟨j - 1,by omega⟩
   rw[decide_eq_true hg,gI]
   dsimp only
   rw[h5.rd (z:=5) rfl hs5.symm (by omega),bz (by omega) (by omega),Nat.add_sub_cancel,h5.rd (z:=5) rfl hs5.symm (by omega)]
   refine hl.use fun M6 k6=>?_
   have h6:=h5.keep k6
   have k6':=k5.trans (k6.mono (cs:=[b]) (by simp))
   rw[dC]
   rw[Sort.insInner] at hm5 out
   refine aC (fun h=>?_) (fun h=>?_)
   ·rw[if_pos (by simp[hg,h])] at hm5
    rw[bz (by omega) (by omega),bz (by omega) (by omega),Nat.add_sub_cancel,h6.rd (z:=5) rfl hs5.symm (by omega),h6.rd (z:=5) rfl hs5.symm (by omega)]
    refine h6.swap (z:=5) rfl hs5.symm (by omega) (by omega) fun M7 h7 k7=>?_
    rw[bz (by omega) (by omega),Nat.add_sub_cancel]
    exact dm _ _ _ (by omega) ⟨k,_,rfl,rfl,by omega,h7,k6'.trans k7,by rw[bY]; exact hs5,hm5⟩
   ·exact out M6 h6 k6' (by rw[if_neg (by simp[h])])
  ·rw[decide_eq_false hg,gG]
   dsimp only
   rw[bT,bA]
   refine out M5 h5 k5 ?_
   cases j with
   | zero=>rfl
   | succ k=>rw[Sort.insInner,if_neg (by simp[hg])]
 ·have hge:¬ i<e:=of_decide_eq_false hge
  rw[Sort.insOuter,if_neg hge] at hm
  subst hm
  exact hQ M3 h3 k3
theorem ai6 {T:Nat} {fv:AV} : SortG aA T 5 fv Sort.reverseRange (fun _ a e=>a<e) fun args M Q=>∃ a0 a1 a2 a3,args=[a0,a1,a2,a3]∧lu a0 a1 a2 a3 M Q:=by
 intro M b a e d Q hat hsz hae he hP hQ
 refine⟨_,_,_,_,rfl, ?_⟩
 unfold lu
 rw[bz (by omega) (by omega)]
 rw[Sort.reverseRange] at hQ
 obtain⟨R,hR⟩ : ∃ R,R=Sort.reverseLoop a (e - 1) d:=⟨_,rfl⟩
 rw[← hR] at hQ
 refine aG (fun m ys M3=>∃ (i j:Nat) (d3:Array aD),m=j - i∧ys=[N .i64 (i:Int),N .i64 (j:Int)]∧j<d.size∧i≤d.size∧At aA T b d3 M3∧ag [b] M M3∧d3.size=d.size∧R=Sort.reverseLoop i j d3) _ ⟨a,e - 1,d,rfl,rfl,by omega,by omega,hat,ag.refl _ _,rfl,hR⟩ ?_
 rintro next m ys M3 hnext ⟨i,j,d3,rfl,rfl,hj,hi,h3,k3,hs3,hm⟩
 dsimp only[aa]
 rw[dB]
 rw[Sort.reverseLoop] at hm
 refine aC (fun hlt=>?_) (fun hge=>?_)
 ·have hlt:i<j:=of_decide_eq_true hlt
  rw[if_pos hlt] at hm
  rw[h3.rd (z:=5) rfl hs3.symm (by omega),h3.rd (z:=5) rfl hs3.symm (by omega)]
  refine h3.swap (z:=5) rfl hs3.symm (by omega) (by omega) fun M4 h4 k4=>?_
  rw[add1 (by omega),bz (by omega) (by omega)]
  exact hnext _ _ _ (by omega) ⟨i + 1,j - 1,_,rfl,rfl,by omega,by omega,h4,k3.trans k4,by rw[bY]; exact hs3,hm⟩
 ·have hge:¬ i<j:=of_decide_eq_false hge
  rw[if_neg hge] at hm
  subst hm
  exact hQ M3 h3 k3
def ab7 (T:Nat) (fv:AV) (lt:aD→aD→Bool) (c:ak) : Prop:=∀ {M:RM} {b lo hi first:Nat} {d:Array aD} {Q:aj},At aA T b d M→d.size≤60000→first + hi≤d.size→lo≤1000000→(∀ M',At aA T b (Sort.siftDown lt hi first lo d) M'→ag [b] M M'→Q (.tup []) M') →
 c [sv b d.size 5,N .i64 (lo:Int),N .i64 (hi:Int),N .i64 (first:Int),fv] M Q
theorem ac5 {T:Nat} {fv:AV} {lt:aD→aD→Bool} {cv:FuncId→ak} (hl:qj aA lt (cO cv fv)) : ab7 T fv lt fun args M Q=>∃ a0 a1 a2 a3 a4,args=[a0,a1,a2,a3,a4]∧nZ cv a0 a1 a2 a3 a4 M Q:=by
 intro M b lo hi first d Q hat hsz hfe hlo hQ
 refine⟨_,_,_,_,_,rfl, ?_⟩
 unfold nZ
 simp only[eu,dE,dQ,bF]
 obtain⟨R,hR⟩ : ∃ R,R=Sort.siftDown lt hi first lo d:=⟨_,rfl⟩
 rw[← hR] at hQ
 refine aG (fun m ys M3=>∃ (r:Nat) (d3:Array aD),m=1000000 + hi - r∧ys=[N .i64 (r:Int)]∧(r≤1000000)∧At aA T b d3 M3∧ag [b] M M3∧d3.size=d.size∧R=Sort.siftDown lt hi first r d3) _ ⟨lo,d,rfl,rfl,hlo,hat,ag.refl _ _,rfl,hR⟩ ?_
 rintro next m ys M3 hnext ⟨r,d3,rfl,rfl,hr,h3,k3,hs3,hm⟩
 dsimp only[aa]
 rw[agA (by omega),add1 (by omega),jy]
 rw[Sort.siftDown] at hm
 refine aC (fun hg=>?_) (fun hg=>?_)
 ·rw[dif_pos (of_decide_eq_true hg)] at hm
  subst hm
  exact hQ M3 h3 k3
 have hg:¬ 2 * r + 1 ≥ hi:=of_decide_eq_false hg
 rw[dif_neg hg] at hm
 refine aP (fun zs M'=>∃ c:Nat,zs=[N .i64 (c:Int)]∧At aA T b d3 M'∧ag [b] M M'∧r<c∧c<hi∧R=if !lt d3[first + r]! d3[first + c]! then d3 else Sort.siftDown lt hi first c (Sort.swp d3 (first + r) (first + c))) ?_ ?_
 ·rintro zs M' ⟨c,rfl,h4,k4,hrc,aqJ,hm2⟩
  dsimp only[aa]
  rw[addN (by omega),h4.rd (z:=5) rfl hs3.symm (by omega),addN (by omega),h4.rd (z:=5) rfl hs3.symm (by omega)]
  refine hl.use fun M5 k5=>?_
  have h5:=h4.keep k5
  have k5':=k4.trans (k5.mono (cs:=[b]) (by simp))
  rw[bD]
  refine aC (fun h=>?_) (fun h=>?_)
  ·rw[if_pos h] at hm2
   subst hm2
   exact hQ M5 h5 k5'
  ·rw[if_neg (by rw[h]; decide)] at hm2
   rw[addN (by omega),addN (by omega),addN (by omega),h5.rd (z:=5) rfl hs3.symm (by omega),addN (by omega),h5.rd (z:=5) rfl hs3.symm (by omega)]
   refine h5.swap (z:=5) rfl hs3.symm (by omega) (by omega) fun M6 h6 k6=>?_
   exact hnext _ _ _ (by omega) ⟨c,_,rfl,rfl,by omega,h6,k5'.trans k6,by rw[bY]; exact hs3,hm2⟩
 intro J hJ
 rw[add1 (by omega),dB]
 refine qZ (P:=fun M'=>At aA T b d3 M'∧ag [b] M M') (p:=lt d3[first + (2 * r + 1)]! d3[first + (2 * r + 1) + 1]!) ⟨h3,k3⟩ (fun hc k hk=>?_) fun M4 ⟨h4,k4⟩=>?_
 ·have hc:2 * r + 1 + 1<hi:=of_decide_eq_true hc
  rw[addN (by omega),h3.rd (z:=5) rfl hs3.symm (by omega),addN (by omega),add1 (by omega),h3.rd (z:=5) rfl hs3.symm (by omega)]
  exact hl.use fun M5 k5=>hk M5 ⟨h3.keep k5,k3.trans (k5.mono (cs:=[b]) (by simp))⟩
 refine aC (fun h=>?_) (fun h=>?_)
 ·have hc:2 * r + 1 + 1<hi:=by
   rw[Bool.and_eq_true] at h
   exact of_decide_eq_true h.1
  rw[add1 (by omega)]
  refine hJ _ _ ⟨2 * r + 2,rfl,h4,k4,by omega,by omega, ?_⟩
  rw[if_pos h,dif_pos (by omega)] at hm
  exact hm
 ·refine hJ _ _ ⟨2 * r + 1,rfl,h4,k4,by omega,by omega, ?_⟩
  rw[if_neg (by rw[h]; decide)] at hm
  exact hm
theorem aeP {T:Nat} {fv:AV} {lt:aD→aD→Bool} {cs:ak} (hs:ab7 T fv lt cs) : SortG aA T 5 fv (Sort.heapSort lt) (fun _ a e=>a<e) fun args M Q=>∃ a0 a1 a2 a3,args=[a0,a1,a2,a3]∧oq cs a0 a1 a2 a3 M Q:=by
 intro M b a e d Q hat hsz hae he hP hQ
 refine⟨_,_,_,_,rfl, ?_⟩
 unfold oq
 rw[Sort.heapSort] at hQ
 rw[eP hae (by omega),bz (by omega) (by omega),mg]
 refine⟨by decide, ?_⟩
 rw[show(2:Int)=((2:Nat) : Int) from rfl,qz,aZ (by omega) (by omega)]
 obtain⟨R,hR⟩ : ∃ R,R=Sort.heapBuild lt (e - a) a ((e - a - 1) / 2 + 1) d:=⟨_,rfl⟩
 rw[← hR] at hQ
 refine aG (fun m ys M3=>∃ (k:Nat) (d3:Array aD),m=k + 1∧ys=[N .i64 ((k:Int) - 1)]∧k≤(e - a - 1) / 2 + 1∧At aA T b d3 M3∧ag [b] M M3∧d3.size=d.size∧R=Sort.heapBuild lt (e - a) a k d3) _ ⟨(e - a - 1) / 2 + 1,d,rfl,by congr 3; omega,Nat.le_refl _,hat,ag.refl _ _,rfl,hR⟩ ?_
 rintro next m ys M3 hnext ⟨k,d3,rfl,rfl,hk,h3,k3,hs3,hm⟩
 dsimp only[aa]
 rw[iW]
 refine aC (fun hg=>?_) (fun hg=>?_)
 ·have hg:1≤k:=by
   have:(k:Int) - 1 ≥ 0:=of_decide_eq_true hg
   omega
  obtain⟨k',rfl⟩ : ∃ k',k=k' + 1:=⟨k - 1,by omega⟩
  rw[Sort.heapBuild] at hm
  rw[show((k' + 1:Nat) : Int) - 1=(k' : Int) by omega,← hs3]
  refine hs h3 (by omega) (by omega) (by omega) fun M4 h4 k4=>?_
  rw[iX,aZ (by omega) (by omega)]
  exact hnext _ _ _ (by omega) ⟨k',_,rfl,rfl,by omega,h4,k3.trans k4,by rw[zU lt _ _ (e - a) _ _ (by omega)]; exact hs3,hm⟩
 ·have hk0:k=0:=by
   have:¬ (k:Int) - 1 ≥ 0:=of_decide_eq_false hg
   omega
  subst hk0
  rw[Sort.heapBuild] at hm
  rw[hm] at hQ
  rw[bz (by omega) (by omega)]
  obtain⟨R4,hR4⟩ : ∃ R4,R4=Sort.heapPop lt a (e - a) d3:=⟨_,rfl⟩
  rw[← hR4] at hQ
  refine aG (fun m ys M4=>∃ (k:Nat) (d4:Array aD),m=k + 1∧ys=[N .i64 ((k:Int) - 1)]∧k≤e - a∧At aA T b d4 M4∧ag [b] M M4∧d4.size=d.size∧R4=Sort.heapPop lt a k d4) _ ⟨e - a,d3,rfl,by congr 3; omega,Nat.le_refl _,h3,k3,hs3,hR4⟩ ?_
  rintro iq m ys M4 dm ⟨k,d4,rfl,rfl,hk,h4,k4,hs4,hm4⟩
  dsimp only[aa]
  rw[iW]
  refine aC (fun hg=>?_) (fun hg=>?_)
  ·have hg:1≤k:=by
    have:(k:Int) - 1 ≥ 0:=of_decide_eq_true hg
    omega
   obtain⟨k',rfl⟩ : ∃ k',k=k' + 1:=⟨k - 1,by omega⟩
   rw[Sort.heapPop] at hm4
   rw[show((k' + 1:Nat) : Int) - 1=(k' : Int) by omega,addN (by omega),addN (by omega),h4.rd (z:=5) rfl hs4.symm (by omega),h4.rd (z:=5) rfl hs4.symm (by omega)]
   refine h4.swap (z:=5) rfl hs4.symm (by omega) (by omega) fun M5 h5 k5=>?_
   rw[show d.size=(Sort.swp d4 a (a + k')).size by rw[bY]; exact hs4.symm]
   refine hs (lo:=0) h5 (by rw[bY]; omega) (by rw[bY]; omega) (by decide) fun M6 h6 k6=>?_
   rw[iX,aZ (by omega) (by omega)]
   exact dm _ _ _ (by omega) ⟨k',_,rfl,rfl,by omega,h6,(k4.trans k5).trans k6,by rw[zU lt _ _ k' _ _ (by omega),bY]; exact hs4,hm4⟩
  ·have hk0:k=0:=by
    have:¬ (k:Int) - 1 ≥ 0:=of_decide_eq_false hg
    omega
   subst hk0
   rw[Sort.heapPop] at hm4
   subst hm4
   exact hQ M4 h4 k4
def RQ (T:Nat) (fv:AV) (lt:aD→aD→Bool) (c:ak) : Prop:=∀ {M:RM} {b a e pv:Nat} {d:Array aD} {Q:aj},At aA T b d M→d.size≤60000→a≤pv→pv<e→e≤d.size→(∀ M',At aA T b (Sort.partitionEqual lt d a e pv).2 M'→ag [b] M M'→Q (N .i64 (((Sort.partitionEqual lt d a e pv).1:Nat) : Int)) M') →
 c [sv b d.size 5,N .i64 (a:Int),N .i64 (e:Int),N .i64 (pv:Int),fv] M Q
theorem TY {T:Nat} {fv:AV} {lt:aD→aD→Bool} {cv:FuncId→ak} (hl:qj aA lt (cO cv fv)) : RQ T fv lt fun args M Q=>∃ a0 a1 a2 a3 a4,args=[a0,a1,a2,a3,a4]∧ko cv a0 a1 a2 a3 a4 M Q:=by
 intro M b a e pv d Q hat hsz hap hpe he hQ
 refine⟨_,_,_,_,_,rfl, ?_⟩
 unfold ko
 simp only[eu,dE,dQ]
 rw[Sort.partitionEqual] at hQ
 rw[hat.rd (z:=5) rfl rfl (by omega),hat.rd (z:=5) rfl rfl (by omega)]
 refine hat.swap (z:=5) rfl rfl (by omega) (by omega) fun M2 h2 k2=>?_
 rw[add1 (by omega),bz (by omega) (by omega)]
 obtain⟨R,hR⟩ : ∃ R,R=Sort.partEqLoop lt a (a + 1) (e - 1) (Sort.swp d a pv):=⟨_,rfl⟩
 rw[← hR] at hQ
 refine aG (fun m ys M3=>∃ (i j:Nat) (d3:Array aD),m=j + 1 - i∧ys=[N .i64 (i:Int),N .i64 (j:Int)]∧a + 1≤i∧i≤e + 1∧j<e∧At aA T b d3 M3∧ag [b] M M3∧d3.size=d.size∧R=Sort.partEqLoop lt a i j d3) _ ⟨a + 1,e - 1,_,rfl,rfl,Nat.le_refl _,by omega,by omega,h2,k2,bY _ _ _,hR⟩ ?_
 rintro next m ys M3 hnext ⟨i,j,d3,rfl,rfl,hai,hie,hje,h3,k3,hs3,hm⟩
 dsimp only[aa]
 rw[Sort.partEqLoop] at hm
 refine BF (P:=fun M'=>At aA T b d3 M'∧ag [b] M M') (p:=fun x=>!lt d3[a]! x) (d:=d3) (J:=j) ⟨h3,k3⟩ fun iq i2 M4 ⟨h4,k4⟩ h0 h1 hgo hstop=>?_
 dsimp only[aa]
 rw[mo]
 refine qZ (P:=fun M'=>At aA T b d3 M'∧ag [b] M M') (p:=!lt d3[a]! d3[i2]!) ⟨h4,k4⟩ (fun hc k hk=>?_) fun M5 h5=>?_
 ·have hc:i2≤j:=of_decide_eq_true hc
  rw[h4.rd (z:=5) rfl hs3.symm (by omega),h4.rd (z:=5) rfl hs3.symm (by omega)]
  refine hl.use fun M5 k5=>?_
  rw[bD]
  exact hk M5 ⟨h4.keep k5,k4.trans (k5.mono (cs:=[b]) (by simp))⟩
 refine aC (fun h=>?_) (fun h=>?_)
 ·rw[add1 (by omega)]
  exact hgo h M5 h5
 have hi2:=hstop h
 rw[← hi2] at hm
 refine wH (P:=fun M'=>At aA T b d3 M'∧ag [b] M M') (p:=fun x=>lt d3[a]! x) (d:=d3) (i:=i2) h5 (by omega) fun rV j2 M6 ⟨h6,k6⟩ q0 q1 tH lC=>?_
 dsimp only[aa]
 rw[mo]
 refine qZ (P:=fun M'=>At aA T b d3 M'∧ag [b] M M') (p:=lt d3[a]! d3[j2]!) ⟨h6,k6⟩ (fun hc k hk=>?_) fun M7 ⟨h7,k7⟩=>?_
 ·have hc:i2≤j2:=of_decide_eq_true hc
  rw[h6.rd (z:=5) rfl hs3.symm (by omega),h6.rd (z:=5) rfl hs3.symm (by omega)]
  exact hl.use fun M5 k5=>hk M5 ⟨h6.keep k5,k6.trans (k5.mono (cs:=[b]) (by simp))⟩
 refine aC (fun h=>?_) (fun h=>?_)
 ·have hc:i2≤j2:=by
   rw[Bool.and_eq_true] at h
   exact of_decide_eq_true h.1
  rw[bz (by omega) (by omega)]
  exact tH h M7 ⟨h7,k7⟩
 have hj2:=lC h
 simp only[← hj2] at hm
 rw[pV]
 refine aC (fun hg=>?_) (fun hg=>?_)
 ·rw[if_pos (of_decide_eq_true hg)] at hm
  rw[hm] at hQ
  exact hQ M7 h7 k7
 ·have hg:¬ i2 > j2:=of_decide_eq_false hg
  rw[if_neg hg,dif_pos (by omega)] at hm
  rw[h7.rd (z:=5) rfl hs3.symm (by omega),h7.rd (z:=5) rfl hs3.symm (by omega)]
  refine h7.swap (z:=5) rfl hs3.symm (by omega) (by omega) fun M8 h8 k8=>?_
  rw[add1 (by omega),bz (by omega) (by omega)]
  exact hnext _ _ _ (by omega) ⟨i2 + 1,j2 - 1,_,rfl,rfl,by omega,by omega,by omega,h8,k7.trans k8,by rw[bY,hs3],hm⟩
def acJ (T:Nat) (fv:AV) (lt:aD→aD→Bool) (c:ak) : Prop:=∀ {M:RM} {b a e pv:Nat} {d:Array aD} {Q:aj},At aA T b d M→d.size≤60000→a≤pv→pv<e→e≤d.size→(∀ M',At aA T b (Sort.partition lt d a e pv).2.2 M'→ag [b] M M'→Q (.tup [N .i64 (((Sort.partition lt d a e pv).1:Nat) : Int),Bo (Sort.partition lt d a e pv).2.1]) M') →
 c [sv b d.size 5,N .i64 (a:Int),N .i64 (e:Int),N .i64 (pv:Int),fv] M Q
theorem adh {T:Nat} {fv:AV} {lt:aD→aD→Bool} {cv:FuncId→ak} (hl:qj aA lt (cO cv fv)) : acJ T fv lt fun args M Q=>∃ a0 a1 a2 a3 a4,args=[a0,a1,a2,a3,a4]∧nI cv a0 a1 a2 a3 a4 M Q:=by
 intro M b a e pv d Q hat hsz hap hpe he hQ
 refine⟨_,_,_,_,_,rfl, ?_⟩
 unfold nI
 simp only[eu,dE,dQ]
 have hs2:=bY d a pv
 rw[yM] at hQ
 rw[hat.rd (z:=5) rfl rfl (by omega),hat.rd (z:=5) rfl rfl (by omega)]
 refine hat.swap (z:=5) rfl rfl (by omega) (by omega) fun M2 h2 k2=>?_
 rw[add1 (by omega),bz (by omega) (by omega)]
 generalize Sort.swp d a pv=d2 at *
 refine BF (P:=fun M'=>At aA T b d2 M'∧ag [b] M M') (p:=fun x=>lt x d2[a]!) (d:=d2) (J:=e - 1) ⟨h2,k2⟩ fun iq i M3 ⟨h3,k3⟩ h0 h1 hgo hstop=>?_
 dsimp only[aa]
 rw[mo]
 refine qZ (P:=fun M'=>At aA T b d2 M'∧ag [b] M M') (p:=lt d2[i]! d2[a]!) ⟨h3,k3⟩ (fun hc k hk=>?_) fun M4 h4=>?_
 ·have hc:i≤e - 1:=of_decide_eq_true hc
  rw[h3.rd (z:=5) rfl hs2.symm (by omega),h3.rd (z:=5) rfl hs2.symm (by omega)]
  exact hl.use fun M5 k5=>hk M5 ⟨h3.keep k5,k3.trans (k5.mono (cs:=[b]) (by simp))⟩
 refine aC (fun h=>?_) (fun h=>?_)
 ·rw[add1 (by omega)]
  exact hgo h M4 h4
 have hi2:i=pI lt d2 a e:=hstop h
 have Iu:pJ lt d2 a e=Sort.scanDown (fun x=>!lt x d2[a]!) d2 (pI lt d2 a e) (e - 1):=rfl
 have Iy:pL lt d2 a e=Sort.partLoop lt a (pI lt d2 a e + 1) (pJ lt d2 a e - 1) (Sort.swp d2 (pI lt d2 a e) (pJ lt d2 a e)):=rfl
 rw[← hi2] at Iu Iy hQ
 refine wH (P:=fun M'=>At aA T b d2 M'∧ag [b] M M') (p:=fun x=>!lt x d2[a]!) (d:=d2) (i:=i) h4 (by omega) fun rV j M5 ⟨h5,k5⟩ q0 q1 tH lC=>?_
 dsimp only[aa]
 rw[mo]
 refine qZ (P:=fun M'=>At aA T b d2 M'∧ag [b] M M') (p:=!lt d2[j]! d2[a]!) ⟨h5,k5⟩ (fun hc k hk=>?_) fun M6 ⟨h6,k6⟩=>?_
 ·have hc:i≤j:=of_decide_eq_true hc
  rw[h5.rd (z:=5) rfl hs2.symm (by omega),h5.rd (z:=5) rfl hs2.symm (by omega)]
  refine hl.use fun M7 k7=>?_
  rw[bD]
  exact hk M7 ⟨h5.keep k7,k5.trans (k7.mono (cs:=[b]) (by simp))⟩
 refine aC (fun h=>?_) (fun h=>?_)
 ·have hc:i≤j:=by
   rw[Bool.and_eq_true] at h
   exact of_decide_eq_true h.1
  rw[bz (by omega) (by omega)]
  exact tH h M6 ⟨h6,k6⟩
 have hj2:=lC h
 rw[← hj2] at Iu
 rw[Iu] at Iy hQ
 rw[pV]
 refine aC (fun hg=>?_) (fun hg=>?_)
 ·rw[if_pos (of_decide_eq_true hg)] at hQ
  rw[h6.rd (z:=5) rfl hs2.symm (by omega),h6.rd (z:=5) rfl hs2.symm (by omega)]
  exact h6.swap (z:=5) rfl hs2.symm (by omega) (by omega) fun M7 h7 k7=>hQ M7 h7 (k6.trans k7)
 have hg:¬ i > j:=of_decide_eq_false hg
 rw[if_neg hg] at hQ
 rw[h6.rd (z:=5) rfl hs2.symm (by omega),h6.rd (z:=5) rfl hs2.symm (by omega)]
 refine h6.swap (z:=5) rfl hs2.symm (by omega) (by omega) fun M7 h7 k7=>?_
 rw[add1 (by omega),bz (by omega) (by omega)]
 generalize pL lt d2 a e=R at *
 refine aG (fun m ys M3=>∃ (i j:Nat) (d3:Array aD),m=j + 1 - i∧ys=[N .i64 (i:Int),N .i64 (j:Int)]∧a + 1≤i∧i≤e + 1∧j<e∧At aA T b d3 M3∧ag [b] M M3∧d3.size=d.size∧R=Sort.partLoop lt a i j d3) _ ⟨i + 1,j - 1,_,rfl,rfl,by omega,by omega,by omega,h7,k6.trans k7,by rw[bY,hs2],Iy⟩ ?_
 rintro next m ys M3 hnext ⟨i,j,d3,rfl,rfl,hai,hie,hje,h3,k3,hs3,hm⟩
 dsimp only[aa]
 rw[Sort.partLoop] at hm
 refine BF (P:=fun M'=>At aA T b d3 M'∧ag [b] M M') (p:=fun x=>lt x d3[a]!) (d:=d3) (J:=j) ⟨h3,k3⟩ fun iq i2 M4 ⟨h4,k4⟩ h0 h1 hgo hstop=>?_
 dsimp only[aa]
 rw[mo]
 refine qZ (P:=fun M'=>At aA T b d3 M'∧ag [b] M M') (p:=lt d3[i2]! d3[a]!) ⟨h4,k4⟩ (fun hc k hk=>?_) fun M5 h5=>?_
 ·have hc:i2≤j:=of_decide_eq_true hc
  rw[h4.rd (z:=5) rfl hs3.symm (by omega),h4.rd (z:=5) rfl hs3.symm (by omega)]
  exact hl.use fun M5 k5=>hk M5 ⟨h4.keep k5,k4.trans (k5.mono (cs:=[b]) (by simp))⟩
 refine aC (fun h=>?_) (fun h=>?_)
 ·rw[add1 (by omega)]
  exact hgo h M5 h5
 have hi2:=hstop h
 rw[← hi2] at hm
 refine wH (P:=fun M'=>At aA T b d3 M'∧ag [b] M M') (p:=fun x=>!lt x d3[a]!) (d:=d3) (i:=i2) h5 (by omega) fun rV j2 M6 ⟨h6,k6⟩ q0 q1 tH lC=>?_
 dsimp only[aa]
 rw[mo]
 refine qZ (P:=fun M'=>At aA T b d3 M'∧ag [b] M M') (p:=!lt d3[j2]! d3[a]!) ⟨h6,k6⟩ (fun hc k hk=>?_) fun M7 ⟨h7,k7⟩=>?_
 ·have hc:i2≤j2:=of_decide_eq_true hc
  rw[h6.rd (z:=5) rfl hs3.symm (by omega),h6.rd (z:=5) rfl hs3.symm (by omega)]
  refine hl.use fun M8 k8=>?_
  rw[bD]
  exact hk M8 ⟨h6.keep k8,k6.trans (k8.mono (cs:=[b]) (by simp))⟩
 refine aC (fun h=>?_) (fun h=>?_)
 ·have hc:i2≤j2:=by
   rw[Bool.and_eq_true] at h
   exact of_decide_eq_true h.1
  rw[bz (by omega) (by omega)]
  exact tH h M7 ⟨h7,k7⟩
 have hj2:=lC h
 simp only[← hj2] at hm
 rw[pV]
 refine aC (fun hg=>?_) (fun hg=>?_)
 ·rw[if_pos (of_decide_eq_true hg)] at hm
  rw[hm] at hQ
  rw[h7.rd (z:=5) rfl hs3.symm (by omega),h7.rd (z:=5) rfl hs3.symm (by omega)]
  exact h7.swap (z:=5) rfl hs3.symm (by omega) (by omega) fun M8 h8 k8=>hQ M8 h8 (k7.trans k8)
 ·have hg:¬ i2 > j2:=of_decide_eq_false hg
  rw[if_neg hg,dif_pos (by omega)] at hm
  rw[h7.rd (z:=5) rfl hs3.symm (by omega),h7.rd (z:=5) rfl hs3.symm (by omega)]
  refine h7.swap (z:=5) rfl hs3.symm (by omega) (by omega) fun M8 h8 k8=>?_
  rw[add1 (by omega),bz (by omega) (by omega)]
  exact hnext _ _ _ (by omega) ⟨i2 + 1,j2 - 1,_,rfl,rfl,by omega,by omega,by omega,h8,k7.trans k8,by rw[bY,hs3],hm⟩
def Qa (T TI b s:Nat) (d:Array aD) (k:Nat) (M:RM) : Prop:=At aA T b d M∧M.heap s=some (.row [N .i64 (k:Int)] false TI 0)∧s<M.next
def Ud (T TI:Nat) (fv:AV) (lt:aD→aD→Bool) (c:ak) : Prop:=∀ {M:RM} {b s k i j:Nat} {d:Array aD} {Q:aj},Qa T TI b s d k M→s≠b→i<d.size→j<d.size→k≤1000 →
 (∀ M',Qa T TI b s d (Sort.order2 lt d i j k).2.2 M'→ag [s] M M'→Q (.tup [N .i64 (((Sort.order2 lt d i j k).1:Nat) : Int),N .i64 (((Sort.order2 lt d i j k).2.1:Nat) : Int)]) M')→c [sv b d.size 5,N .i64 (i:Int),N .i64 (j:Int),.ptr s 0,fv] M Q
theorem TK {T TI:Nat} {fv:AV} {lt:aD→aD→Bool} {cv:FuncId→ak} (hl:qj aA lt (cO cv fv)) : Ud T TI fv lt fun args M Q=>∃ a0 a1 a2 a3 a4,args=[a0,a1,a2,a3,a4]∧qD cv a0 a1 a2 a3 a4 M Q:=by
 intro M b s k i j d Q ⟨hat,hh,hlt⟩ hsb hi hj hk hQ
 refine⟨_,_,_,_,_,rfl, ?_⟩
 unfold qD
 rw[hat.rd (z:=5) rfl rfl (by omega),hat.rd (z:=5) rfl rfl (by omega)]
 refine hl.use fun M1 k1=>?_
 have h1:=hat.keep k1
 have hh1:=k1.aQ hh hlt (by simp)
 have n1:=k1.next
 unfold Sort.order2 at hQ
 refine aC (fun h=>?_) (fun h=>?_)
 ·rw[if_pos h] at hQ
  rw[aO,az hh1 rfl,add1 (by omega),aO,gY hh1 (by simp) rfl rfl]
  have kk:ag [s] M1 (M1.put s (.row ([N .i64 (k:Int)].set 0 (N .i64 ((k + 1:Nat) : Int))) false TI 0)):=(ag.refl _ _).put _ (.inr (by simp))
  refine hQ _ ⟨h1.keep' kk (by simp; omega),aU _,by rw[jV]; omega⟩ ((k1.mono (by simp)).trans kk)
 ·rw[if_neg (by rw[h]; decide)] at hQ
  exact hQ M1 ⟨h1,hh1,by omega⟩ (k1.mono (by simp))
def Lv (T TI:Nat) (fv:AV) (lt:aD→aD→Bool) (c:ak) : Prop:=∀ {M:RM} {b s k i j h:Nat} {d:Array aD} {Q:aj},Qa T TI b s d k M→s≠b→i<d.size→j<d.size→h<d.size→k≤900 →
 (∀ M',Qa T TI b s d (Sort.median lt d i j h k).2 M'→ag [s] M M'→Q (N .i64 (((Sort.median lt d i j h k).1:Nat) : Int)) M')→c [sv b d.size 5,N .i64 (i:Int),N .i64 (j:Int),N .i64 (h:Int),.ptr s 0,fv] M Q
theorem Lj {T TI:Nat} {fv:AV} {lt:aD→aD→Bool} {c2:ak} (h2:Ud T TI fv lt c2) : Lv T TI fv lt fun args M Q=>∃ a0 a1 a2 a3 a4 a5,args=[a0,a1,a2,a3,a4,a5]∧qH c2 a0 a1 a2 a3 a4 a5 M Q:=by
 intro M b s k i j h d Q hsw hsb hi hj hh hk hQ
 refine⟨_,_,_,_,_,_,rfl, ?_⟩
 unfold qH
 unfold Sort.median at hQ
 have o1:=vS lt d i j k
 refine h2 hsw hsb hi hj (by omega) fun M1 s1 k1=>?_
 rw[lV,lQ]
 dsimp only at hQ
 generalize Sort.order2 lt d i j k=r1 at *
 have o2:=vS lt d r1.2.1 h r1.2.2
 refine h2 s1 hsb (by omega) hh (by omega) fun M2 s2 k2=>?_
 rw[lV,lQ]
 generalize Sort.order2 lt d r1.2.1 h r1.2.2=r2 at *
 refine h2 s2 hsb (by omega) (by omega) (by omega) fun M3 s3 k3=>?_
 rw[lV,lQ]
 exact hQ M3 s3 ((k1.trans k2).trans k3)
def SX (T TI:Nat) (fv:AV) (lt:aD→aD→Bool) (c:ak) : Prop:=∀ {M:RM} {b s k i:Nat} {d:Array aD} {Q:aj},Qa T TI b s d k M→s≠b→d.size≤60000→1≤i→i + 1<d.size→k≤900 →
 (∀ M',Qa T TI b s d (Sort.medianAdjacent lt d i k).2 M'→ag [s] M M'→Q (N .i64 (((Sort.medianAdjacent lt d i k).1:Nat) : Int)) M')→c [sv b d.size 5,N .i64 (i:Int),.ptr s 0,fv] M Q
theorem Ti {T TI:Nat} {fv:AV} {lt:aD→aD→Bool} {cm:ak} (hm:Lv T TI fv lt cm) : SX T TI fv lt fun args M Q=>∃ a0 a1 a2 a3,args=[a0,a1,a2,a3]∧j5 cm a0 a1 a2 a3 M Q:=by
 intro M b s k i d Q hsw hsb hsz h1 h2 hk hQ
 refine⟨_,_,_,_,rfl, ?_⟩
 unfold j5
 rw[bz (by omega) (by omega),add1 (by omega)]
 exact hm hsw hsb (by omega) (by omega) (by omega) hk fun M1 s1 k1=>hQ M1 s1 k1
def Ig (lt:aD→aD→Bool) (d:Array aD) (a e:Nat) : Nat × Nat :=
 if e - a ≥ 8 then(if e - a ≥ 50 then Sort.median lt d (Sort.medianAdjacent lt d (a + (e - a) / 4 * 1) 0).1 (Sort.medianAdjacent lt d (a + (e - a) / 4 * 2) (Sort.medianAdjacent lt d (a + (e - a) / 4 * 1) 0).2).1 (Sort.medianAdjacent lt d (a + (e - a) / 4 * 3) (Sort.medianAdjacent lt d (a + (e - a) / 4 * 2) (Sort.medianAdjacent lt d (a + (e - a) / 4 * 1) 0).2).2).1 (Sort.medianAdjacent lt d (a + (e - a) / 4 * 3) (Sort.medianAdjacent lt d (a + (e - a) / 4 * 2) (Sort.medianAdjacent lt d (a + (e - a) / 4 * 1) 0).2).2).2
  else Sort.median lt d (a + (e - a) / 4 * 1) (a + (e - a) / 4 * 2) (a + (e - a) / 4 * 3) 0) else(a + (e - a) / 4 * 2,0)
theorem ahl (lt:aD→aD→Bool) (d:Array aD) (a e:Nat) : Sort.choosePivot lt d a e=((Ig lt d a e).1,if (Ig lt d a e).2=0 then .increasing else if (Ig lt d a e).2=12 then .decreasing else .unknown):=rfl
def TQ (T:Nat) (fv:AV) (lt:aD→aD→Bool) (c:ak) : Prop:=∀ {M:RM} {b a e:Nat} {d:Array aD} {Q:aj},At aA T b d M→d.size≤60000→a<e→e≤d.size →
 (∀ M',At aA T b d M'→ag [] M M'→Q (.tup [N .i64 (((Sort.choosePivot lt d a e).1:Nat) : Int),N .i64 (nW (Sort.choosePivot lt d a e).2)]) M')→c [sv b d.size 5,N .i64 (a:Int),N .i64 (e:Int),fv] M Q
theorem RO {T TI:Nat} {fv:AV} {lt:aD→aD→Bool} {ca cm:ak} (ha:SX T TI fv lt ca) (hm:Lv T TI fv lt cm) : TQ T fv lt fun args M Q=>∃ a0 a1 a2 a3,args=[a0,a1,a2,a3]∧mf TI ca cm a0 a1 a2 a3 M Q:=by
 intro M b a e d Q hat hsz hae he hQ
 refine⟨_,_,_,_,rfl, ?_⟩
 unfold mf
 simp only[bF]
 rw[eP (by omega) (by omega),bg]
 have kk:ag [] M (M.push (.row [N .i64 0] false TI 0)):=(ag.refl _ _).push _
 have sw0:Qa T TI b M.next d 0 (M.push (.row [N .i64 0] false TI 0)):=⟨hat.keep kk,RM.aT _,by simp[RM.push]⟩
 have hsb:M.next≠b:=by have:=hat.lt; omega
 have back:∀ M',ag [M.next] (M.push (.row [N .i64 0] false TI 0)) M'→ag [] M M':=fun M' k=>kk.cz k fun c hc=>.inl (by simp at hc; omega)
 generalize M.push (.row [N .i64 0] false TI 0)=M1 at *
 generalize M.next=s at *
 have hq:∀ (k:Nat) (c:Int),c=(k:Int)→k≤3→∀ (K:AV→Prop),(af .quo (N .i64 ((e - a:Nat) : Int)) (N .i64 4) fun t18=>af .mul t18 (N .i64 c) fun t19=>af .add (N .i64 (a:Int)) t19 K)=K (N .i64 ((a + (e - a) / 4 * k:Nat) : Int)):=fun k c hc hk K=>by
  subst hc
  have hb:(e - a) / 4 * k≤(e - a) * 3:=Nat.mul_le_mul (Nat.div_le_self _ _) hk
  rw[mg,show(4:Int)=((4:Nat) : Int) from rfl,qz,aZ (by omega) (by omega),wy,← Int.natCast_mul,aZ (by omega) (by omega),addN (by omega)]
  exact propext ⟨fun h=>h.2,fun h=>⟨by decide,h⟩⟩
 rw[hq 1 1 rfl (by omega),hq 2 2 rfl (by omega),hq 3 3 rfl (by omega)]
 rw[ahl] at hQ
 have hr:Ig lt d a e=Ig lt d a e:=rfl
 conv at hr=>rhs; unfold Ig
 generalize Ig lt d a e=r at *
 refine aP (fun zs M'=>zs=[N .i64 ((r.1:Nat) : Int)]∧Qa T TI b s d r.2 M'∧ag [s] M1 M') ?_ ?_
 ·rintro zs M' ⟨rfl,⟨h3,hh,_⟩,k3⟩
  dsimp only[aa]
  have:=hQ M' h3 (back M' k3)
  rw[az hh rfl,bL]
  by_cases h0:r.2=0
  ·rw[show((r.2:Int) == 0)=true by rw[h0]; rfl,dP]
   rw[if_pos h0] at this
   exact this
  ·rw[show((r.2:Int) == 0)=false by rw[beq_eq_false_iff_ne]; omega,bA,bL]
   rw[if_neg h0] at this
   by_cases h12:r.2=12
   ·rw[show((r.2:Int) == 12)=true by rw[h12]; rfl,dP]
    rw[if_pos h12] at this
    exact this
   ·rw[show((r.2:Int) == 12)=false by rw[beq_eq_false_iff_ne]; omega,bA]
    rw[if_neg h12] at this
    exact this
 intro J hJ
 rw[show(8:Int)=((8:Nat) : Int) from rfl,jy]
 refine aC (fun h8=>?_) (fun h8=>?_)
 ·have h8:e - a ≥ 8:=of_decide_eq_true h8
  rw[if_pos h8] at hr
  refine aP (fun zs M'=>∃ x y z k:Nat,zs=[N .i64 (x:Int),N .i64 (y:Int),N .i64 (z:Int)]∧Qa T TI b s d k M'∧ag [s] M1 M'∧x<d.size∧y<d.size∧z<d.size∧k≤900∧r=Sort.median lt d x y z k) ?_ ?_
  ·rintro zs M' ⟨x,y,z,k,rfl,s3,k3,hx,hy,hz,hk,rfl⟩
   dsimp only[aa]
   exact hm s3 hsb hx hy hz hk fun M4 s4 k4=>hJ _ _ ⟨rfl,s4,k3.trans k4⟩
  intro J0 hJ0
  rw[show(50:Int)=((50:Nat) : Int) from rfl,jy]
  refine aC (fun h50=>?_) (fun h50=>?_)
  ·have h50:e - a ≥ 50:=of_decide_eq_true h50
   rw[if_pos h50] at hr
   have m1:=yP lt d (i:=a + (e - a) / 4 * 1 - 1) (j:=a + (e - a) / 4 * 1) (h:=a + (e - a) / 4 * 1 + 1) (k:=0) (n:=d.size) (by omega) (by omega) (by omega)
   have r1:(Sort.medianAdjacent lt d (a + (e - a) / 4 * 1) 0).1<d.size∧(Sort.medianAdjacent lt d (a + (e - a) / 4 * 1) 0).2≤0 + 3:=m1
   refine ha sw0 hsb hsz (by omega) (by omega) (by omega) fun M2 s2 k2=>?_
   generalize Sort.medianAdjacent lt d (a + (e - a) / 4 * 1) 0=q1 at *
   have m2:=yP lt d (i:=a + (e - a) / 4 * 2 - 1) (j:=a + (e - a) / 4 * 2) (h:=a + (e - a) / 4 * 2 + 1) (k:=q1.2) (n:=d.size) (by omega) (by omega) (by omega)
   have r2:(Sort.medianAdjacent lt d (a + (e - a) / 4 * 2) q1.2).1<d.size∧(Sort.medianAdjacent lt d (a + (e - a) / 4 * 2) q1.2).2≤q1.2 + 3:=m2
   refine ha s2 hsb hsz (by omega) (by omega) (by omega) fun M3 s3 k3=>?_
   generalize Sort.medianAdjacent lt d (a + (e - a) / 4 * 2) q1.2=q2 at *
   have m3:=yP lt d (i:=a + (e - a) / 4 * 3 - 1) (j:=a + (e - a) / 4 * 3) (h:=a + (e - a) / 4 * 3 + 1) (k:=q2.2) (n:=d.size) (by omega) (by omega) (by omega)
   have r3:(Sort.medianAdjacent lt d (a + (e - a) / 4 * 3) q2.2).1<d.size∧(Sort.medianAdjacent lt d (a + (e - a) / 4 * 3) q2.2).2≤q2.2 + 3:=m3
   refine ha s3 hsb hsz (by omega) (by omega) (by omega) fun M4 s4 k4=>?_
   generalize Sort.medianAdjacent lt d (a + (e - a) / 4 * 3) q2.2=q3 at *
   exact hJ0 _ _ ⟨q1.1,q2.1,q3.1,q3.2,rfl,s4,(k2.trans k3).trans k4,r1.1,r2.1,r3.1,by omega,hr⟩
  ·have h50:¬ e - a ≥ 50:=of_decide_eq_false h50
   rw[if_neg h50] at hr
   exact hJ0 _ _ ⟨_,_,_,0,rfl,sw0,ag.refl _ _,by omega,by omega,by omega,by omega,hr⟩
 ·have h8:¬ e - a ≥ 8:=of_decide_eq_false h8
  rw[if_neg h8] at hr
  subst hr
  exact hJ _ _ ⟨rfl,sw0,ag.refl _ _⟩
def MX (T:Nat) (fv:AV) (lt:aD→aD→Bool) (c:ak) : Prop:=∀ {M:RM} {b a e:Nat} {d:Array aD} {Q:aj},At aA T b d M→d.size≤60000→a<e→e≤d.size→(∀ M',At aA T b (Sort.partialInsertionSort lt d a e).1 M'→ag [b] M M'→Q (Bo (Sort.partialInsertionSort lt d a e).2) M') →
 c [sv b d.size 5,N .i64 (a:Int),N .i64 (e:Int),fv] M Q
theorem OV {T:Nat} {fv:AV} {lt:aD→aD→Bool} {cv:FuncId→ak} (hl:qj aA lt (cO cv fv)) : MX T fv lt fun args M Q=>∃ a0 a1 a2 a3,args=[a0,a1,a2,a3]∧iN cv a0 a1 a2 a3 M Q:=by
 intro M b a e d Q hat hsz hae he hQ
 refine⟨_,_,_,_,rfl, ?_⟩
 unfold iN
 simp only[eu,dE,dQ,bF]
 rw[add1 (by omega)]
 unfold Sort.partialInsertionSort at hQ
 obtain⟨R,hR⟩ : ∃ R,R=Sort.partialIns lt a e 5 (a + 1) d:=⟨_,rfl⟩
 rw[← hR] at hQ
 refine aG (fun m ys M3=>∃ (i s:Nat) (d3:Array aD),m=s∧s≤5∧ys=[N .i64 (i:Int),N .i64 ((5 - s:Nat) : Int)]∧a + 1≤i∧i≤e∧At aA T b d3 M3∧ag [b] M M3∧d3.size=d.size∧R=Sort.partialIns lt a e s i d3) _ ⟨a + 1,5,d,rfl,by omega,rfl,by omega,by omega,hat,ag.refl _ _,rfl,hR⟩ ?_
 rintro next m ys M3 hnext ⟨i,s,d3,hms,hs5,rfl,hai,hie,h3,k3,hs3,hm⟩
 dsimp only[aa]
 rw[show(5:Int)=((5:Nat) : Int) from rfl,dB]
 refine aC (fun hg=>?_) (fun hg=>?_)
 ·have hg:5 - s<5:=of_decide_eq_true hg
  obtain⟨s',rfl⟩ : ∃ s',s=s' + 1:=⟨s - 1,by omega⟩
  rw[xx] at hm
  refine aP (fun zs M'=>∃ (i' : Nat) (d4:Array aD),zs=[N .i64 (i' : Int)]∧a + 1≤i'∧i'≤e∧At aA T b d4 M'∧ag [b] M M'∧d4.size=d.size∧R=Sort.partialIns lt a e s' i' d4) ?_ ?_
  ·rintro zs M' ⟨i',d4,rfl,h1,h2,h4,k4,h5,h6⟩
   dsimp only[aa]
   rw[add1 (by omega)]
   exact hnext _ _ _ (by omega) ⟨i',s',d4,rfl,by omega,by congr 4; omega,h1,h2,h4,k4,h5,h6⟩
  intro J hJ
  obtain⟨R5,hR5⟩ : ∃ R5,R5=Sort.scanSorted lt d3 e i:=⟨_,rfl⟩
  rw[← hR5] at hm
  refine aG (fun m ys M5=>∃ (j:Nat),m=e - j∧ys=[N .i64 (j:Int)]∧i≤j∧j≤e∧At aA T b d3 M5∧ag [b] M M5∧R5=Sort.scanSorted lt d3 e j) _ ⟨i,rfl,rfl,Nat.le_refl _,hie,h3,k3,hR5⟩ ?_
  rintro iq m ys M5 dm ⟨j,rfl,rfl,hij,hje,h5,k5,hm5⟩
  dsimp only[aa]
  rw[Sort.scanSorted] at hm5
  rw[dB]
  refine qZ (P:=fun M'=>At aA T b d3 M'∧ag [b] M M') (p:=!lt d3[j]! d3[j - 1]!) ⟨h5,k5⟩ (fun hc k hk=>?_) fun M6 ⟨h6,k6⟩=>?_
  ·have hc:j<e:=of_decide_eq_true hc
   rw[h5.rd (z:=5) rfl hs3.symm (by omega),bz (by omega) (by omega),h5.rd (z:=5) rfl hs3.symm (by omega)]
   refine hl.use fun M7 k7=>?_
   rw[bD]
   exact hk M7 ⟨h5.keep k7,k5.trans (k7.mono (cs:=[b]) (by simp))⟩
  refine aC (fun h=>?_) (fun h=>?_)
  ·have hc:j<e:=by
    rw[Bool.and_eq_true] at h
    exact of_decide_eq_true h.1
   rw[if_pos h] at hm5
   rw[add1 (by omega)]
   exact dm _ _ _ (by omega) ⟨j + 1,rfl,rfl,by omega,by omega,h6,k6,hm5⟩
  rw[if_neg (by rw[h]; decide)] at hm5
  subst hm5
  rw[Tj]
  refine aC (fun r9=>?_) (fun r9=>?_)
  ·rw[if_pos (of_decide_eq_true r9)] at hm
   rw[hm] at hQ
   exact hQ M6 h6 k6
  have r9:¬ R5=e:=of_decide_eq_false r9
  rw[if_neg r9] at hm
  rw[eP (by omega) (by omega),show(50:Int)=((50:Nat) : Int) from rfl,dB]
  refine aC (fun h50=>?_) (fun h50=>?_)
  ·rw[if_pos (of_decide_eq_true h50)] at hm
   rw[hm] at hQ
   exact hQ M6 h6 k6
  rw[if_neg (of_decide_eq_false h50)] at hm
  rw[bz (by omega) (by omega),bz (by omega) (by omega),h6.rd (z:=5) rfl hs3.symm (by omega),h6.rd (z:=5) rfl hs3.symm (by omega)]
  refine h6.swap (z:=5) rfl hs3.symm (by omega) (by omega) fun M7 h7 k7'=>?_
  have k7:=k6.trans k7'
  have hs6:(Sort.swp d3 R5 (R5 - 1)).size=d.size:=by rw[bY,hs3]
  generalize Sort.swp d3 R5 (R5 - 1)=d6 at *
  refine aP (fun zs M'=>zs=[]∧At aA T b (if R5 - a ≥ 2 then Sort.shiftDown lt (R5 - 1) d6 else d6) M'∧ag [b] M M') ?_ ?_
  ·rintro zs M8 ⟨rfl,h8,k8⟩
   have hs7:(if R5 - a ≥ 2 then Sort.shiftDown lt (R5 - 1) d6 else d6).size=d.size:=by
    split
    ·rw[zt,hs6]
    ·exact hs6
   generalize (if R5 - a ≥ 2 then Sort.shiftDown lt (R5 - 1) d6 else d6)=d7 at *
   rw[eP (by omega) (by omega),show(2:Int)=((2:Nat) : Int) from rfl,jy]
   refine aC (fun h2=>?_) (fun h2=>?_)
   ·rw[if_pos (of_decide_eq_true h2)] at hm
    rw[add1 (by omega)]
    obtain⟨R8,hR8⟩ : ∃ R8,R8=Sort.shiftUp lt e (R5 + 1) d7:=⟨_,rfl⟩
    rw[← hR8] at hm
    refine aG (fun m ys M8=>∃ (j:Nat) (d8:Array aD),m=e - j∧ys=[N .i64 (j:Int)]∧R5 + 1≤j∧j≤e∧At aA T b d8 M8∧ag [b] M M8∧d8.size=d.size∧R8=Sort.shiftUp lt e j d8) _ ⟨R5 + 1,d7,rfl,rfl,Nat.le_refl _,by omega,h8,k8,hs7,hR8⟩ ?_
    rintro rV m ys M9 sj ⟨j,d8,rfl,rfl,hj1,hj2,h9,k9,fu,hm8⟩
    dsimp only[aa]
    rw[Sort.shiftUp] at hm8
    rw[dB]
    refine aC (fun hl1=>?_) (fun hl1=>?_)
    ·have hl1:j<e:=of_decide_eq_true hl1
     rw[if_pos hl1] at hm8
     rw[h9.rd (z:=5) rfl fu.symm (by omega),bz (by omega) (by omega),h9.rd (z:=5) rfl fu.symm (by omega)]
     refine hl.use fun M10 tQ=>?_
     have h10:=h9.keep tQ
     have k10:=k9.trans (tQ.mono (cs:=[b]) (by simp))
     rw[bD]
     refine aC (fun hn=>?_) (fun hn=>?_)
     ·rw[if_pos hn] at hm8
      subst hm8
      exact hJ _ _ ⟨R5,R8,rfl,by omega,by omega,h10,k10,fu,hm⟩
     ·rw[if_neg (by rw[hn]; decide)] at hm8
      rw[bz (by omega) (by omega),bz (by omega) (by omega),h10.rd (z:=5) rfl fu.symm (by omega),h10.rd (z:=5) rfl fu.symm (by omega)]
      refine h10.swap (z:=5) rfl fu.symm (by omega) (by omega) fun M11 h11 k11=>?_
      rw[add1 (by omega)]
      exact sj _ _ _ (by omega) ⟨j + 1,_,rfl,rfl,by omega,by omega,h11,k10.trans k11,by rw[bY,fu],hm8⟩
    ·rw[if_neg (of_decide_eq_false hl1)] at hm8
     subst hm8
     exact hJ _ _ ⟨R5,R8,rfl,by omega,by omega,h9,k9,fu,hm⟩
   ·rw[if_neg (of_decide_eq_false h2)] at hm
    exact hJ _ _ ⟨R5,d7,rfl,by omega,by omega,h8,k8,hs7,hm⟩
  intro J2 hJ2
  rw[eP (by omega) (by omega),show(2:Int)=((2:Nat) : Int) from rfl,jy]
  refine aC (fun h2=>?_) (fun h2=>?_)
  ·rw[if_pos (of_decide_eq_true h2)] at hJ2
   rw[bz (by omega) (by omega)]
   obtain⟨R8,hR8⟩ : ∃ R8,R8=Sort.shiftDown lt (R5 - 1) d6:=⟨_,rfl⟩
   rw[← hR8] at hJ2
   refine aG (fun m ys M8=>∃ (j:Nat) (d8:Array aD),m=j + 1∧ys=[N .i64 (j:Int)]∧j<R5∧At aA T b d8 M8∧ag [b] M M8∧d8.size=d.size∧R8=Sort.shiftDown lt j d8) _ ⟨R5 - 1,d6,rfl,rfl,by omega,h7,k7,hs6,hR8⟩ ?_
   rintro rV m ys M8 sj ⟨j,d8,rfl,rfl,hj1,h8,k8,fu,hm8⟩
   dsimp only[aa]
   rw[show(1:Int)=((1:Nat) : Int) from rfl,jy]
   refine aC (fun hl1=>?_) (fun hl1=>?_)
   ·have hl1:j ≥ 1:=of_decide_eq_true hl1
    obtain⟨j',rfl⟩ : ∃ j',j=j' + 1:=⟨j - 1,by omega⟩
    rw[Sort.shiftDown] at hm8
    rw[h8.rd (z:=5) rfl fu.symm (by omega),eP (by omega) (by omega),Nat.add_sub_cancel,h8.rd (z:=5) rfl fu.symm (by omega)]
    refine hl.use fun M10 tQ=>?_
    have h10:=h8.keep tQ
    have k10:=k8.trans (tQ.mono (cs:=[b]) (by simp))
    rw[bD]
    refine aC (fun hn=>?_) (fun hn=>?_)
    ·rw[if_pos hn] at hm8
     subst hm8
     exact hJ2 _ _ ⟨rfl,h10,k10⟩
    ·rw[if_neg (by rw[hn]; decide)] at hm8
     rw[eP (by omega) (by omega),eP (by omega) (by omega),Nat.add_sub_cancel,h10.rd (z:=5) rfl fu.symm (by omega),h10.rd (z:=5) rfl fu.symm (by omega)]
     refine h10.swap (z:=5) rfl fu.symm (by omega) (by omega) fun M11 h11 k11=>?_
     rw[eP (by omega) (by omega),Nat.add_sub_cancel]
     exact sj _ _ _ (by omega) ⟨j',_,rfl,rfl,by omega,h11,k10.trans k11,by rw[bY,fu],hm8⟩
   ·have hl1:¬ j ≥ 1:=of_decide_eq_false hl1
    have h0:j=0:=by omega
    subst h0
    rw[Sort.shiftDown] at hm8
    subst hm8
    exact hJ2 _ _ ⟨rfl,h8,k8⟩
  ·rw[if_neg (of_decide_eq_false h2)] at hJ2
   exact hJ2 _ _ ⟨rfl,h7,k7⟩
 ·have hg:¬ 5 - s<5:=of_decide_eq_false hg
  have h0:s=0:=by omega
  subst h0
  rw[Sort.partialIns] at hm
  rw[hm] at hQ
  exact hQ M3 h3 k3
theorem ZU {T TX:Nat} {fv:AV} {cp cx:ak} (hp:YT cp) (hx:acC TX cx) : SortG aA T 5 fv Sort.breakPatterns (fun _ _ _=>True) fun args M Q=>∃ a0 a1 a2 a3,args=[a0,a1,a2,a3]∧kK TX cp cx a0 a1 a2 a3 M Q:=by
 intro M b a e d Q hat hsz hae he _ hQ
 refine⟨_,_,_,_,rfl, ?_⟩
 unfold kK
 simp only[bF]
 rw[eP hae (by omega),show(8:Int)=((8:Nat) : Int) from rfl,jy]
 unfold Sort.breakPatterns at hQ
 refine aC (fun h8=>?_) (fun h8=>?_)
 ·have h8:e - a ≥ 8:=of_decide_eq_true h8
  rw[if_pos h8] at hQ
  have hbl:=yL (x:=e - a) (by omega) (by omega)
  rw[oJ,jT (by omega) (by omega),bg]
  have kk:ag [] M (M.push (.row [(N .u64 0)] false TX 0)):=(ag.refl _ _).push _
  have hsb:M.next≠b:=by have:=hat.lt; omega
  have hh0:(M.push (.row [(N .u64 0)] false TX 0)).heap M.next=some (.row [N .u64 0] false TX 0):=RM.aT _
  have Yv:(UInt64.ofNat (e - a)).toNat=e - a:=by rw[UInt64.toNat_ofNat']; omega
  have hn0:M.next<(M.push (.row [(N .u64 0)] false TX 0)).next:=by simp[RM.push]
  rw[gY hh0 (by simp) rfl rfl]
  have kS:ag [] M ((M.push (.row [(N .u64 0)] false TX 0)).put M.next (.row (([N .u64 0] : List AV).set 0 (N .u64 ((e - a:Nat) : Int))) false TX 0)):=kk.new _ (Nat.le_refl _)
  have hs1:((M.push (.row [(N .u64 0)] false TX 0)).put M.next (.row (([N .u64 0] : List AV).set 0 (N .u64 ((e - a:Nat) : Int))) false TX 0)).heap M.next=some (.row [N .u64 ((UInt64.ofNat (e - a)).toNat:Int)] false TX 0):=by
   rw[aU,Yv]; rfl
  have hn1:M.next<((M.push (.row [(N .u64 0)] false TX 0)).put M.next (.row (([N .u64 0] : List AV).set 0 (N .u64 ((e - a:Nat) : Int))) false TX 0)).next:=hn0
  generalize (M.push (.row [(N .u64 0)] false TX 0)).put M.next (.row (([N .u64 0] : List AV).set 0 (N .u64 ((e - a:Nat) : Int))) false TX 0)=M1 at *
  have ahr:=hat.keep kS
  have back:∀ M',ag [b,M.next] M1 M'→ag [b] M M':=fun M' k=>(kS.mono (cs:=[b]) (by simp)).cz k fun c hc=>by simp at hc; rcases hc with h | h <;> simp[h]
  generalize M.next=s at *
  refine hp (by omega) (by omega) ?_
  have hq:∀ (c:Int),c=((2:Nat) : Int)→∀ (K:AV→Prop),(af .quo (N .i64 ((e - a:Nat) : Int)) (N .i64 4) fun t18=>af .mul t18 (N .i64 c) fun t19=>af .add (N .i64 (a:Int)) t19 K)=K (N .i64 ((a + (e - a) / 4 * 2:Nat) : Int)):=fun c hc K=>by
   subst hc
   rw[mg,show(4:Int)=((4:Nat) : Int) from rfl,qz,aZ (by omega) (by omega),wy,← Int.natCast_mul,aZ (by omega) (by omega),addN (by omega)]
   exact propext ⟨fun h=>h.2,fun h=>⟨by decide,h⟩⟩
  rw[hq 2 rfl,bz (by omega) (by omega)]
  have Z6:(Sort.breakStep a (e - a) (1 <<< Sort.bitsLen (e - a)) (Sort.breakStep a (e - a) (1 <<< Sort.bitsLen (e - a)) (Sort.breakStep a (e - a) (1 <<< Sort.bitsLen (e - a)) (UInt64.ofNat (e - a),d) (a + (e - a) / 4 * 2 - 1)) (a + (e - a) / 4 * 2 - 1 + 1)) (a + (e - a) / 4 * 2 - 1 + 2)).2=(u7 a (e - a) (2 ^ Sort.bitsLen (e - a)) (a + (e - a) / 4 * 2 - 1) d 3).2:=by
   rw[Nat.shiftLeft_eq,Nat.one_mul]; rfl
  have hQ:∀ M',At aA T b (u7 a (e - a) (2 ^ Sort.bitsLen (e - a)) (a + (e - a) / 4 * 2 - 1) d 3).2 M'→ag [b] M M'→Q (.tup []) M':=fun M' h k=>hQ M' (by rw[Z6]; exact h) k
  generalize hmd:2 ^ Sort.bitsLen (e - a)=md at *
  generalize hi0:a + (e - a) / 4 * 2 - 1=i0 at *
  refine aG (fun m ys M3=>∃ (k:Nat),m=3 - k∧k≤3∧ys=[N .i64 ((i0 + k:Nat) : Int)]∧At aA T b (u7 a (e - a) md i0 d k).2 M3∧M3.heap s=some (.row [N .u64 ((u7 a (e - a) md i0 d k).1.toNat:Int)] false TX 0)∧s<M3.next∧ag [b,s] M1 M3) _ ⟨0,rfl,by omega,rfl,ahr,hs1,hn1,ag.refl _ _⟩ ?_
  rintro next m ys M3 hnext ⟨k,rfl,hk,rfl,h3,hh3,hn3,k3⟩
  dsimp only[aa]
  have hsk:=XK a (e - a) md i0 d k
  have Y2:u7 a (e - a) md i0 d (k + 1)=Sort.breakStep a (e - a) md (u7 a (e - a) md i0 d k) (i0 + k):=rfl
  generalize aao:u7 a (e - a) md i0 d k=st at *
  rw[hq 2 rfl,add1 (by omega),mo]
  refine aC (fun hg=>?_) (fun hg=>?_)
  ·have hg:i0 + k≤a + (e - a) / 4 * 2 + 1:=of_decide_eq_true hg
   refine aP (fun zs M'=>At aA T b (u7 a (e - a) md i0 d (k + 1)).2 M'∧M'.heap s=some (.row [N .u64 ((u7 a (e - a) md i0 d (k + 1)).1.toNat:Int)] false TX 0)∧s<M'.next∧ag [b,s] M1 M') ?_ ?_
   ·rintro zs M' ⟨c1,c2,c3,c4⟩
    rw[add1 (by omega)]
    exact hnext _ _ _ (by omega) ⟨k + 1,rfl,by omega,rfl,c1,c2,c3,c4⟩
   intro J hJ
   refine hx hh3 hn3 fun M4 hh4 k4 n4=>?_
   have h4:=h3.keep' k4 (by simp; omega)
   rw[Y2] at hJ
   unfold Sort.breakStep at hJ
   dsimp only at hJ
   generalize Sort.xorNext st.1=r at *
   rw[iX,jT (by omega) (by omega),show(md:Int) - 1=((md - 1:Nat) : Int) by omega,Nc,Oe rfl]
   have hlt:r.toNat &&& (md - 1)<md:=by
    rw[← hmd,Nat.and_two_pow_sub_one_eq_mod]
    exact Nat.mod_lt _ (by rw[hmd]; omega)
   rw[Nat.mod_eq_of_lt (show r.toNat &&& (md - 1)<2 ^ Bw .u64 by show _<2 ^ 64; omega)]
   generalize r.toNat &&& (md - 1)=o at *
   rw[oJ,aZ (by omega) (by omega)]
   refine aP (fun zs M'=>zs=[N .i64 (((if o ≥ e - a then o - (e - a) else o) : Nat) : Int)]∧M'=M4) ?_ ?_
   ·rintro zs M' ⟨rfl,rfl⟩
    dsimp only[aa]
    have ho:(if o ≥ e - a then o - (e - a) else o)<e - a:=by split <;> omega
    generalize (if o ≥ e - a then o - (e - a) else o)=o2 at *
    rw[addN (by omega),addN (by omega),h4.rd (z:=5) rfl hsk.symm (by omega),h4.rd (z:=5) rfl hsk.symm (by omega)]
    refine h4.swap (z:=5) rfl hsk.symm (by omega) (by omega) fun M5 h5 k5=>?_
    exact hJ _ _ ⟨h5,k5.aQ hh4 (by omega) (by simp; omega),by have:=k5.next; omega,(k3.trans (k4.mono (cs:=[b,s]) (by simp))).trans (k5.mono (cs:=[b,s]) (by simp))⟩
   intro J4 hJ4
   rw[jy]
   refine aC (fun hg2=>?_) (fun hg2=>?_)
   ·have hg2:o ≥ e - a:=of_decide_eq_true hg2
    rw[eP (by omega) (by omega)]
    exact hJ4 _ _ ⟨by rw[if_pos hg2],rfl⟩
   ·exact hJ4 _ _ ⟨by rw[if_neg (of_decide_eq_false hg2)],rfl⟩
  ·have hg:¬ i0 + k≤a + (e - a) / 4 * 2 + 1:=of_decide_eq_false hg
   have hk3:k=3:=by omega
   subst hk3
   rw[aao] at hQ
   exact hQ M3 h3 (back M3 k3)
 ·rw[if_neg (of_decide_eq_false h8)] at hQ
  exact hQ M hat (ag.refl _ _)
def ady (T m:Nat) (fv:AV) (lt:aD→aD→Bool) (c:ak) : Prop:=∀ {M:RM} {b a e limit:Nat} {d:Array aD} {Q:aj},At aA T b d M→d.size≤60000→a≤e→e≤d.size→e - a<m→limit≤1000000→(∀ M',At aA T b (Sort.pdq lt d a e limit true true) M'→ag [b] M M'→Q (.tup []) M') →
 c [sv b d.size 5,N .i64 (a:Int),N .i64 (e:Int),N .i64 (limit:Int),fv] M Q
theorem adI {T m:Nat} {fv:AV} {lt:aD→aD→Bool} {cv:FuncId→ak} {ci ch cb cc cr cp ce ct cq:ak} (hlt:Sort.SWO lt) (hi:SortG aA T 5 fv (Sort.insertionSort lt) (fun _ _ _=>True) ci) (hh:SortG aA T 5 fv (Sort.heapSort lt) (fun _ a e=>a<e) ch) (hb:SortG aA T 5 fv Sort.breakPatterns (fun _ _ _=>True) cb) (hc:TQ T fv lt cc) (hr:SortG aA T 5 fv Sort.reverseRange (fun _ a e=>a<e) cr)
  (hp:MX T fv lt cp) (hl:qj aA lt (cO cv fv)) (he:RQ T fv lt ce) (ht:acJ T fv lt ct) (hq:ady T m fv lt cq) : ady T (m + 1) fv lt fun args M Q=>∃ a0 a1 a2 a3 a4,args=[a0,a1,a2,a3,a4]∧jc ci ch cb cc cr cp cv ce ct cq a0 a1 a2 a3 a4 M Q:=by
 intro M b a e limit d Q hat hsz hae hed hm hlim hQ
 refine⟨_,_,_,_,_,rfl, ?_⟩
 unfold jc
 simp only[eu,dE,dQ,bF]
 obtain⟨R,hR⟩ : ∃ R,R=Sort.pdq lt d a e limit true true:=⟨_,rfl⟩
 rw[← hR] at hQ
 refine aG (fun m' ys M3=>∃ (a e limit:Nat) (wb wp:Bool) (d3:Array aD),m'=e - a∧ys=[N .i64 (a:Int),N .i64 (e:Int),N .i64 (limit:Int),Bo wb,Bo wp]∧a≤e∧e≤d.size∧e - a<m + 1∧limit≤1000000∧At aA T b d3 M3∧ag [b] M M3∧d3.size=d.size∧R=Sort.pdq lt d3 a e limit wb wp) _
  ⟨a,e,limit,true,true,d,rfl,rfl,hae,hed,hm,hlim,hat,ag.refl _ _,rfl,hR⟩ ?_
 clear hR hae hed hm hlim
 rintro next m' ys M4 hnext ⟨a,e,limit,wb,wp,d3,rfl,rfl,hae,hed,hm,hlim,h4,k4,hs3,hR⟩
 dsimp only[aa]
 rw[Cx] at hR
 rw[eP hae (by omega),show(12:Int)=((12:Nat) : Int) from rfl,mo]
 refine aC (fun hg=>?_) (fun hg=>?_)
 ·rw[if_pos (of_decide_eq_true hg)] at hR
  rw[← hs3]
  refine hi h4 (by omega) hae (by omega) trivial fun M5 h5 k5=>?_
  rw[← hR] at h5
  exact hQ M5 h5 (k4.trans k5)
 have hg:¬ e - a≤12:=of_decide_eq_false hg
 rw[if_neg hg] at hR
 rw[show(0:Int)=((0:Nat) : Int) from rfl,Tj]
 refine aC (fun hg0=>?_) (fun hg0=>?_)
 ·rw[if_pos (of_decide_eq_true hg0)] at hR
  rw[← hs3]
  refine hh h4 (by omega) hae (by omega) (by omega) fun M5 h5 k5=>?_
  rw[← hR] at h5
  exact hQ M5 h5 (k4.trans k5)
 have hg0:¬ limit=0:=of_decide_eq_false hg0
 rw[if_neg hg0] at hR
 refine aP (fun zs M'=>zs=[N .i64 (((if !wb then limit - 1 else limit) : Nat) : Int)]∧At aA T b (if !wb then Sort.breakPatterns d3 a e else d3) M'∧ag [b] M M') ?_ ?_
 ·rintro zs M5 ⟨rfl,h5,k5⟩
  dsimp only[aa]
  have hs5:(if !wb then Sort.breakPatterns d3 a e else d3).size=d.size:=by
   split
   ·rw[RL,hs3]
   ·exact hs3
  have hl5:(if !wb then limit - 1 else limit)≤1000000:=by split <;> omega
  generalize (if !wb then Sort.breakPatterns d3 a e else d3)=d5 at *
  generalize (if !wb then limit - 1 else limit)=lim at *
  rw[← hs5]
  refine hc h5 (by omega) (by omega) (by omega) fun M6 h6 k6=>?_
  rw[hs5]
  have hcr:=Sort.choosePivot_holds lt d5 a e (by omega)
  unfold gA at hR
  generalize Sort.choosePivot lt d5 a e=cpv at *
  have k6':=k5.trans (k6.mono (cs:=[b]) (by simp))
  rw[lV,lQ]
  refine aP (fun zs M'=>zs=[N .i64 (((if cpv.2=.decreasing then(e - 1) - (cpv.1 - a) else cpv.1) : Nat) : Int),N .i64 (nW (if cpv.2=.decreasing then .increasing else cpv.2))]∧At aA T b (if cpv.2=.decreasing then Sort.reverseRange d5 a e else d5) M'∧ag [b] M M') ?_ ?_
  ·rintro zs M7 ⟨rfl,h7,k7⟩
   dsimp only[aa]
   have hs7:(if cpv.2=.decreasing then Sort.reverseRange d5 a e else d5).size=d.size:=by
    split
    ·rw[adJ,hs5]
    ·exact hs5
   have hpv:a≤(if cpv.2=.decreasing then(e - 1) - (cpv.1 - a) else cpv.1)∧(if cpv.2=.decreasing then(e - 1) - (cpv.1 - a) else cpv.1)<e:=by
    split <;> omega
   generalize (if cpv.2=.decreasing then Sort.reverseRange d5 a e else d5)=d7 at *
   generalize (if cpv.2=.decreasing then(e - 1) - (cpv.1 - a) else cpv.1)=pv at *
   generalize (if cpv.2=.decreasing then Sort.Hint.increasing else cpv.2)=hint at *
   unfold gB gP at hR
   refine aP (fun zs M'=>∃ d8:Array aD,At aA T b d8 M'∧ag [b] M M'∧d8.size=d.size∧R=gC lt d8 a e pv lim wb wp) ?_ ?_
   ·rintro zs M8 ⟨d8,h8,k8,hs8,hR8⟩
    unfold gC at hR8
    rw[pV]
    refine qZ (P:=fun M'=>At aA T b d8 M'∧ag [b] M M') (p:=!lt d8[a - 1]! d8[pv]!) ⟨h8,k8⟩ (fun hc k hk=>?_) fun M9 ⟨h9,k9⟩=>?_
    ·have hc:a > 0:=of_decide_eq_true hc
     rw[bz (by omega) (by omega),h8.rd (z:=5) rfl hs8.symm (by omega),h8.rd (z:=5) rfl hs8.symm (by omega)]
     refine hl.use fun M10 k10=>?_
     rw[bD]
     exact hk M10 ⟨h8.keep k10,k8.trans (k10.mono (cs:=[b]) (by simp))⟩
    refine aC (fun h=>?_) (fun h=>?_)
    ·rw[if_pos h] at hR8
     rw[← hs8]
     have hE:=Tz lt d8 a e pv (by omega)
     refine he h9 (by omega) hpv.1 hpv.2 (by omega) fun M10 h10 k10=>?_
     generalize Sort.partitionEqual lt d8 a e pv=pe at *
     dsimp only at hR8
     rw[dif_pos ⟨hE.2.1,hE.2.2⟩] at hR8
     exact hnext _ _ _ (by omega) ⟨pe.1,e,lim,wb,wp,pe.2,rfl,rfl,hE.2.2,hed,by omega,hl5,h10,k9.trans k10,by rw[hE.1,hs8],hR8⟩
    ·rw[if_neg (by rw[h]; decide)] at hR8
     rw[← hs8]
     have hT:=Sort.partition_holds lt hlt d8 a e pv hpv.1 hpv.2 (by omega)
     have hTs:=XW lt d8 a e pv
     refine ht h9 (by omega) hpv.1 hpv.2 (by omega) fun M10 h10 k10=>?_
     have tQ:=k9.trans k10
     generalize Sort.partition lt d8 a e pv=pp at *
     obtain⟨mid,ap,d9⟩:=pp
     dsimp only at hR8 hT hTs h10 ⊢
     rw[dif_pos ⟨hT.1,hT.2.1⟩] at hR8
     have hT1:=hT.1
     have hT2:=hT.2.1
     rw[lV,lQ,eP hT1 (by omega),eP (by omega) (by omega),mg]
     refine⟨by decide, ?_⟩
     rw[show(8:Int)=((8:Nat) : Int) from rfl,qz,aZ (by omega) (by omega),dB]
     refine aC (fun hc1=>?_) (fun hc1=>?_)
     ·have hc1:mid - a<e - mid:=of_decide_eq_true hc1
      rw[if_pos hc1] at hR8
      rw[jy,← hTs]
      refine hq h10 (by omega) hT1 (by omega) (by omega) hl5 fun M11 h11 k11=>?_
      rw[add1 (by omega)]
      exact hnext _ _ _ (by omega) ⟨mid + 1,e,lim,_,ap,_,rfl,rfl,by omega,hed,by omega,hl5,h11,tQ.trans k11,by rw[Bg lt _ _ _ _ _ _ _ (Nat.le_refl _),hTs,hs8],hR8⟩
     ·have hc1:¬ mid - a<e - mid:=of_decide_eq_false hc1
      rw[if_neg hc1] at hR8
      rw[jy,add1 (by omega),← hTs]
      refine hq h10 (by omega) (by omega) (by omega) (by omega) hl5 fun M11 h11 k11=>?_
      exact hnext _ _ _ (by omega) ⟨a,mid,lim,_,ap,_,rfl,rfl,hT1,by omega,by omega,hl5,h11,tQ.trans k11,by rw[Bg lt _ _ _ _ _ _ _ (Nat.le_refl _),hTs,hs8],hR8⟩
   intro J10 JK
   have no:¬ (wb && wp && decide (hint=.increasing))=true→J10 [] M7:=fun hn=>by
    have hpi:(if (wb && wp && decide (hint=.increasing))=true then Sort.partialInsertionSort lt d7 a e else(d7,false))=(d7,false):=if_neg hn
    rw[hpi] at hR
    exact JK _ _ ⟨d7,h7,k7,hs7,hR⟩
   cases wb with
   | false =>
     rw[bN]
     dsimp only
     rw[bT,bN]
     dsimp only
     rw[bN]
     dsimp only
     rw[bT,bA]
     exact no (by simp)
   | true =>
     rw[bZ]
     dsimp only
     rw[dC]
     cases wp with
     | false =>
       rw[bN]
       dsimp only
       rw[bN]
       dsimp only
       rw[bT,bA]
       exact no (by simp)
     | true =>
       rw[bZ]
       dsimp only
       rw[bZ]
       dsimp only
       rw[bL,dC]
       by_cases hin:hint=.increasing
       ·rw[show(nW hint == 1)=true by rw[hin]; rfl,dP]
        have hpi:(if (true && true && decide (hint=.increasing))=true then Sort.partialInsertionSort lt d7 a e else(d7,false))=Sort.partialInsertionSort lt d7 a e:=if_pos (by simp[hin])
        rw[hpi] at hR
        rw[← hs7]
        have hs8:(Sort.partialInsertionSort lt d7 a e).1.size=d.size:=by
         rw[Sort.partialInsertionSort,DY,hs7]
        refine hp h7 (by omega) (by omega) (by omega) fun M8 h8 k8=>?_
        generalize Sort.partialInsertionSort lt d7 a e=pi at *
        refine aC (fun h=>?_) (fun h=>?_)
        ·rw[if_pos h] at hR
         rw[← hR] at h8
         exact hQ M8 h8 (k7.trans k8)
        ·rw[if_neg (by rw[h]; decide)] at hR
         exact JK _ _ ⟨pi.1,h8,k7.trans k8,hs8,hR⟩
       ·rw[show(nW hint == 1)=false by cases hint <;> first | rfl | exact absurd rfl hin,bA]
        exact no (by simp[hin])
  intro J6 hJ6
  rw[bL]
  by_cases hdec:cpv.2=.decreasing
  ·rw[show(nW cpv.2 == 2)=true by rw[hdec]; rfl,dP,← hs5]
   refine hr h6 (by omega) hae (by omega) (by omega) fun M7 h7 k7=>?_
   rw[bz (by omega) (by omega),eP (by omega) (by omega),eP (by omega) (by omega)]
   exact hJ6 _ _ ⟨by rw[if_pos hdec,if_pos hdec]; rfl,by rw[if_pos hdec]; exact h7,k6'.trans k7⟩
  ·rw[show(nW cpv.2 == 2)=false by cases h:cpv.2 <;> first | rfl | exact absurd h hdec,bA]
   exact hJ6 _ _ ⟨by rw[if_neg hdec,if_neg hdec],by rw[if_neg hdec]; exact h6,k6'⟩
 intro J hJ
 rw[bD]
 cases wb with
 | true =>
   rw[Bool.not_true,bA]
   exact hJ _ _ ⟨rfl,h4,k4⟩
 | false =>
   rw[Bool.not_false,dP,← hs3]
   refine hb h4 (by omega) hae (by omega) trivial fun M5 h5 k5=>?_
   rw[bz (by omega) (by omega)]
   exact hJ _ _ ⟨rfl,h5,k4.trans k5⟩
def Sn (c:ak) : Prop:=∀ {M:RM} {v fv:AV} {Q:aj},Q (.tup []) M→c [v,N .i64 0,N .i64 ((0:Nat) : Int),fv] M Q
theorem Si {cv:FuncId→ak} : Sn fun args M Q=>∃ a0 a1 a2 a3,args=[a0,a1,a2,a3]∧gp cv a0 a1 a2 a3 M Q:=by
 intro M v fv Q hQ
 refine⟨_,_,_,_,rfl, ?_⟩
 unfold gp
 rw[dw,show IntKind.i64.wrap ((0:Int) + 1)=1 from rfl]
 refine aG (fun m ys M3=>m=0∧ys=[N .i64 1]∧M3=M) 0 ⟨rfl,rfl,rfl⟩ ?_
 rintro next m ys M3 hnext ⟨rfl,rfl,rfl⟩
 dsimp only[aa]
 rw[dL,show decide ((1:Int)<((0:Nat) : Int))=false from rfl,bA]
 exact hQ
def Ty (c:ak) : Prop:=∀ {M:RM} {v fv:AV} {Q:aj},Q (.tup []) M→c [v,N .i64 0,N .i64 ((0:Nat) : Int),N .i64 ((0:Nat) : Int),fv] M Q
theorem RD {cv:FuncId→ak} {ci c2 c3 cc c4 cp c6 c7 c8:ak} (hi:Sn ci) : Ty fun args M Q=>∃ a0 a1 a2 a3 a4,args=[a0,a1,a2,a3,a4]∧jc ci c2 c3 cc c4 cp cv c6 c7 c8 a0 a1 a2 a3 a4 M Q:=by
 intro M v fv Q hQ
 refine⟨_,_,_,_,_,rfl, ?_⟩
 unfold jc
 refine aG (fun m ys M3=>m=0∧ys=[N .i64 0,N .i64 ((0:Nat) : Int),N .i64 ((0:Nat) : Int),Bo true,Bo true]∧M3=M) 0 ⟨rfl,rfl,rfl⟩ ?_
 rintro next m ys M3 hnext ⟨rfl,rfl,rfl⟩
 dsimp only[aa]
 rw[iX,show IntKind.i64.wrap (((0:Nat) : Int) - 0)=0 from rfl,nP,show decide ((0:Int)≤12)=true from rfl,dP]
 exact hi hQ
def tZ (lt:aD→aD→Bool) (xs:List aD) : List aD:=(Sort.sort lt xs.toArray).toList
theorem afT (lt:aD→aD→Bool) : tZ lt []=[]:=by
 unfold tZ Sort.sort
 rw[Cx,if_pos (by simp),Sort.insertionSort,Sort.insOuter,if_neg (by simp)]
theorem uA {lt:aD→aD→Bool} (hlt:Sort.SWO lt) (xs:List aD) : (tZ lt xs).Perm xs:=by
 have h:=(Sort.sort_sorts lt hlt xs.toArray).1
 have h2:=h.2.2
 rw[Array.extract_eq_self_of_le (by rw[h.1]; exact Nat.le_refl _),Array.extract_eq_self_of_le (Nat.le_refl _)] at h2
 exact h2
theorem agN {lt:aD→aD→Bool} (hlt:Sort.SWO lt) (xs:List aD) : (tZ lt xs).Pairwise fun x y=>lt y x=false:=by
 rw[List.pairwise_iff_getElem]
 intro i j hi hj hij
 have h:=(Sort.sort_sorts lt hlt xs.toArray)
 have hs:(Sort.sort lt xs.toArray).size=xs.toArray.size:=h.1.1
 unfold tZ at hi hj ⊢
 rw[Array.length_toList] at hi hj
 have:=h.2 i j (Nat.zero_le _) hij (by omega)
 rw[KT hj,KT hi] at this
 rw[Array.getElem_toList,Array.getElem_toList]
 exact this
def Rk (fv:AV) (lt:aD→aD→Bool) (T:Nat) (c:ak) : Prop:=∀ {M:RM} {base:Nat} {v:AV} {xs:List aD} {Q:aj},Ow aA M base T v xs→xs.length≤60000→(∀ M',Ow aA M' base T v (tZ lt xs)→ag (aJ v) M M'→Q (.tup []) M')→c [v,fv] M Q
theorem alY {T:Nat} {fv:AV} {lt:aD→aD→Bool} {cl cp:ak} (hlt:Sort.SWO lt) (hl:H6 cl) (hp:∀ m,ady T m fv lt cp) (h0:Ty cp) : Rk fv lt T fun args M Q=>∃ a0 a1,args=[a0,a1]∧vW cl cp a0 a1 M Q:=by
 intro M base v xs Q ho hx hQ
 have hs:Sl aA M v xs:=ho.eZ
 refine⟨_,_,rfl, ?_⟩
 unfold vW
 rw[aL.len hs,oJ,jT (by omega) (by omega)]
 refine hl (by omega) ?_
 rcases Nat.eq_zero_or_pos xs.length with hn | hn
 ·rw[hn,show Sort.bitsLen 0=0 from rfl]
  refine h0 ?_
  have:=List.length_eq_zero_iff.1 hn
  subst this
  exact hQ M (by rw[afT]; exact ho) (ag.refl _ _)
 ·obtain⟨b,rfl,h1,h2,h3,h4⟩:=Own.uO ho hn
  have hb:=yL hn (by omega)
  have hsz:xs.toArray.size=xs.length:=by simp
  have hat:At aA T b xs.toArray M:=⟨by rw[h3],h2⟩
  have hsl:(tZ lt xs).length=xs.length:=(uA hlt xs).length_eq
  have:=hp (xs.length + 1) (M:=M) (b:=b) (a:=0) (e:=xs.toArray.size) (limit:=Sort.bitsLen xs.length) (d:=xs.toArray) (Q:=fun bW M_0=>Q (.tup []) M_0) hat (by omega) (by omega) (Nat.le_refl _) (by omega) (by omega) fun M' h' k'=>?_
  ·have e5:aA.size=5:=rfl
   rw[e5]
   simpa using this
  ·have e:(Sort.pdq lt xs.toArray 0 xs.toArray.size (Sort.bitsLen xs.length) true true)=Sort.sort lt xs.toArray:=by rw[Sort.sort]; simp
   rw[e] at h'
   refine hQ _ ?_ (by simpa [aJ] using k')
   have hlast:Own M' base T 5 (.slc b 0 xs.length (.op 5)) (aA.row (tZ lt xs)) xs.length:=.op _ _ _ h1 h'.lt h'.heap (by rw[Enc.eH,hsl]; rfl)
   show Own M' base T 5 (.slc b 0 xs.length (.op 5)) (aA.row (tZ lt xs)) (tZ lt xs).length
   rw[hsl]; exact hlast
def asV (lt:Go.Ab.aH.aH→Go.Ab.aH.aH→Bool) (xs:List Go.Ab.aH.aH) : List Go.Ab.aH.aH:=(Sort.sort lt xs.toArray).toList
end Go.Ab.Crw
namespace Go.Ab.aH
open Go Go.Ab
theorem asC {ps qs:List Pt} (h1:ps.length=16) (h2:qs.length=16) (h:∀ j,j<16→ps.getD j (0,[])=qs.getD j (0,[])) : ps=qs:=by
 refine List.ext_getElem (by omega) fun j hj hj'=>?_
 have:=h j (by omega)
 rw[List.getD_eq_getElem?_getD,List.getD_eq_getElem?_getD,List.getElem?_eq_getElem hj,List.getElem?_eq_getElem hj'] at this
 exact this
theorem abF:∀ {xs ys:List Nat},Asc xs→Asc ys→(∀ x,x∈xs↔x∈ys)→xs=ys
 | [],[],_,_,_=>rfl
 | [],y :: ys,_,_,h=>by have:=(h y).2 (by simp); simp at this
 | x :: xs,[],_,_,h=>by have:=(h x).1 (by simp); simp at this
 | x :: xs,y :: ys,h1,h2,h=>by
   have a1:=List.pairwise_cons.1 h1
   have a2:=List.pairwise_cons.1 h2
   have hxy:x=y:=by
    rcases List.mem_cons.1 ((h x).1 (by simp)) with e | e
    ·exact e
    ·rcases List.mem_cons.1 ((h y).2 (by simp)) with e' | e'
     ·exact e'.symm
     ·have:=a2.1 x e; have:=a1.1 y e'; omega
   subst hxy
   refine congrArg (x :: ·) (abF a1.2 a2.2 fun z=>⟨fun hz=>?_,fun hz=>?_⟩)
   ·rcases List.mem_cons.1 ((h z).1 (by simp[hz])) with e | e
    ·subst e; have:=a1.1 z hz; omega
    ·exact e
   ·rcases List.mem_cons.1 ((h z).2 (by simp[hz])) with e | e
    ·subst e; have:=a2.1 z hz; omega
    ·exact e
theorem aaI {u:Nat} {xs:List Nat} (h:∀ y∈xs,u + 1<y) : settle u xs=(u,xs):=by
 cases xs with
 | nil=>rfl
 | cons x xs =>
   have:=h x (by simp)
   unfold settle
   rw[eO,if_neg (by omega)]; rfl
theorem getD_set_ne {u:List Pt} {i j:Nat} {p:Pt} (h:i≠j) : (u.set i p).getD j (0,[])=u.getD j (0,[]):=by
 rw[List.getD_eq_getElem?_getD,List.getD_eq_getElem?_getD,List.getElem?_set_ne h]
theorem G6 (j:Nat) : kI.getD j (0,[])=(0,[]):=by
 rw[List.getD_eq_getElem?_getD]
 unfold kI
 by_cases h:j<16
 ·rw[List.getElem?_replicate,if_pos h]; rfl
 ·rw[List.getElem?_replicate,if_neg h]; rfl
theorem aeM {M:RM} {b o:Nat} {x:AV} {K:AV→Prop} (h:M.cell b o=some x) : au M (.ptr b o) K=K x:=by
 rw[gX,h]; simp
theorem and_false {c:Bool} {f:KR→Prop} {M:RM} {Z:AV→RM→Prop} (hf:c=true→∀ k:KR,k (Bo false) M none→f k) (hZ:Z (Bo false) M) :
  ae (Bo c) true f (fun k=>k .undef M none) (fun t M' b=>aK (Bo c) t (Bo false) fun t'=>Z t' M'):=by
 cases c with
 | false=>rw[gG]; dsimp only; rw[bT]; exact hZ
 | true=>rw[gI]; exact hf rfl _ (by rw[dC]; exact hZ)
end Go.Ab.aH
namespace Go.Ab.Crw
open Go Go.Ab Go.Ab.aH
theorem ny:∀ (x y:List UInt8),Op.bytesLess x y=decide (x<y)
 | [],[]=>by simp[Op.bytesLess]
 | _ :: _,[]=>by simp[Op.bytesLess]
 | [],_ :: _=>by simp[Op.bytesLess]
 | a :: x,b :: y=>by
   rw[Op.bytesLess,ny x y]
   simp only[List.cons_lt_cons_iff]
   by_cases h1:a<b <;> by_cases h2:a=b <;> by_cases h3:x<y <;> simp[h1,h2,h3]
structure LO {β:Type} (lt:β→β→Bool) : Prop where
 irrefl:∀ x,lt x x=false
 trans:∀ x y z,lt x y=true→lt y z=true→lt x z=true
 tri:∀ x y,lt x y=false→lt y x=false→x=y
def lex {α β:Type} [DecidableEq β] (k:α→β) (lt1:β→β→Bool) (lt2:α→α→Bool) (x y:α) : Bool:=lt1 (k x) (k y) || (decide (k x=k y) && lt2 x y)
theorem BJ {α β:Type} [DecidableEq β] {k:α→β} {lt1:β→β→Bool} {lt2:α→α→Bool} (h1:LO lt1) (h2:Sort.SWO lt2) : Sort.SWO (lex k lt1 lt2) where
 irrefl x:=by simp[lex,h1.irrefl,h2.irrefl]
 trans x y z a b:=by
  simp only[lex,Bool.or_eq_true,Bool.and_eq_true,decide_eq_true_eq] at *
  rcases a with a | ⟨a,a'⟩ <;> rcases b with b | ⟨b,b'⟩
  ·exact .inl (h1.trans _ _ _ a b)
  ·exact .inl (by rw[← b]; exact a)
  ·exact .inl (by rw[a]; exact b)
  ·exact .inr ⟨a.trans b,h2.trans _ _ _ a' b'⟩
 ntrans x y z a b:=by
  simp only[lex,Bool.or_eq_false_iff,Bool.and_eq_false_iff,decide_eq_false_iff_not] at *
  obtain⟨a1,a2⟩:=a
  obtain⟨b1,b2⟩:=b
  have c1:lt1 (k x) (k z)=false:=by
   cases h:lt1 (k x) (k z) with
   | false=>rfl
   | true =>
     by_cases e:k x=k y
     ·rw[e,b1] at h; cases h
     ·have:lt1 (k y) (k x)=true:=by
       cases h' : lt1 (k y) (k x) with
       | true=>rfl
       | false=>exact absurd (h1.tri _ _ a1 h') e
      have:=h1.trans _ _ _ this h
      rw[b1] at this; cases this
  refine⟨c1, ?_⟩
  by_cases e:k x=k z
  ·right
   by_cases e2:k x=k y
   ·have e3:k y=k z:=e2.symm.trans e
    rcases a2 with a2 | a2
    ·exact absurd e2 a2
    ·rcases b2 with b2 | b2
     ·exact absurd e3 b2
     ·exact h2.ntrans _ _ _ a2 b2
   ·have h3:lt1 (k y) (k x)=false:=by rw[e]; exact b1
    exact absurd (h1.tri _ _ a1 h3) e2
  ·exact .inl e
theorem ZP:LO (fun x y:Nat=>decide (x<y)):=⟨by simp,by simp; omega,by simp; omega⟩
theorem Zk:LO (fun x y:Int=>decide (x<y)):=⟨by simp,by simp; omega,by simp; omega⟩
theorem sH:LO (fun x y:List UInt8=>decide (x<y)) where
 irrefl x:=by simp[List.lt_irrefl]
 trans x y z h1 h2:=by simp only[decide_eq_true_eq] at *; exact List.lt_trans h1 h2
 tri x y h1 h2:=by
  simp only[decide_eq_false_iff_not,List.not_lt] at *
  exact List.le_antisymm h2 h1
theorem YA {α:Type} : Sort.SWO (fun _ _:α=>false):=⟨fun _=>rfl,(fun _ _ _ h _=>by cases h),(fun _ _ _ _ _=>rfl)⟩
def ltD:aH→aH→Bool:=lex (fun d:aH=>d.2) (fun x y:Nat=>decide (x<y)) (lex (fun d:aH=>d.1) (fun x y:Int=>decide (x<y)) fun _ _=>false)
def gQ:aD→aD→Bool:=lex (fun x:aD=>x.2.1) (fun x y=>decide (x<y)) (lex (fun x:aD=>x.2.2.1) (fun x y=>decide (x<y)) (lex (fun x:aD=>x.1.2) (fun x y:Nat=>decide (x<y)) (lex (fun x:aD=>x.1.1) (fun x y:Int=>decide (x<y)) fun _ _=>false)))
theorem jN:Sort.SWO gQ:=BJ sH (BJ sH (BJ ZP (BJ Zk YA)))
def c3 {β:Type} (lt:β→β→Bool) (x y:β) : Int:=if lt x y then -1 else if lt y x then 1 else 0
theorem ahG {β:Type} {lt:β→β→Bool} (h:LO lt) (x y:β) : (c3 lt x y=-1∧lt x y=true∧x≠y)∨(c3 lt x y=1∧lt x y=false∧x≠y)∨(c3 lt x y=0∧lt x y=false∧x=y):=by
 unfold c3
 cases h1:lt x y with
 | true=>exact .inl ⟨rfl,rfl,fun e=>by rw[e,h.irrefl] at h1; cases h1⟩
 | false =>
   cases h2:lt y x with
   | true=>exact .inr (.inl ⟨rfl,rfl,fun e=>by rw[e,h.irrefl] at h2; cases h2⟩)
   | false=>exact .inr (.inr ⟨rfl,rfl,h.tri _ _ h1 h2⟩)
def Jc (a b:Int) : Int:=if a≠0 then a else b
def Is3 {α:Type} (lt:α→α→Bool) (f:α→α→Int) : Prop:=∀ x y,decide (f x y<0)=lt x y
theorem BG {α β:Type} [DecidableEq β] {k:α→β} {lt1:β→β→Bool} {lt2:α→α→Bool} {f:α→α→Int} (h1:LO lt1) (h2:Is3 lt2 f) : Is3 (lex k lt1 lt2) (fun x y=>Jc (c3 lt1 (k x) (k y)) (f x y)):=by
 intro x y
 unfold lex
 show decide (Jc (c3 lt1 (k x) (k y)) (f x y)<0)=_
 unfold Jc
 rcases ahG h1 (k x) (k y) with⟨a,b,c⟩ | ⟨a,b,c⟩ | ⟨a,b,c⟩
 ·rw[a,b]; rfl
 ·rw[a,b,decide_eq_false c]; rfl
 ·rw[a,b,decide_eq_true c,if_neg (by simp),h2 x y]; rfl
theorem aam {α:Type} : Is3 (fun _ _:α=>false) (fun _ _=>0):=fun _ _=>rfl
def zH {α:Type} (mk:α→AV) (lt:α→α→Bool) (c:ak) : Prop:=∀ {M:RM} {x y:α} {Q:aj},Q (N .i64 (c3 lt x y)) M→c [mk x,mk y] M Q
def IK {α:Type} (mk:α→AV) (c:ak) : Prop:=∀ {M:RM} {x:α} {Q:aj},Q (Bo false) M→c [mk x] M Q
theorem aga:IK (α:=List UInt8) (fun s=>St s) fun args M Q=>∃ a0,args=[a0]∧y8 a0 M Q:=by
 intro M x Q hQ
 refine⟨_,rfl, ?_⟩
 unfold y8
 rw[jW,show(x != x)=false by simp]
 exact hQ
theorem ae6:IK (α:=Nat) (fun n=>N .u64 (n:Int)) fun args M Q=>∃ a0,args=[a0]∧aH.uw a0 M Q:=by
 intro M x Q hQ
 exact⟨_,rfl,Qk hQ⟩
theorem afz:IK (α:=Int) (fun n=>N .i64 n) fun args M Q=>∃ a0,args=[a0]∧E9 a0 M Q:=by
 intro M x Q hQ
 refine⟨_,rfl, ?_⟩
 unfold E9
 rw[jH,show(x != x)=false by simp]
 exact hQ
theorem agb {cn:ak} (hn:IK (α:=List UInt8) (fun s=>St s) cn) : zH (α:=List UInt8) (fun s=>St s) (fun x y=>decide (x<y)) fun args M Q=>∃ a0 a1,args=[a0,a1]∧vH cn a0 a1 M Q:=by
 intro M x y Q hQ
 refine⟨_,_,rfl, ?_⟩
 unfold vH
 refine hn (hn ?_)
 rw[bA,bA,Ha,ny]
 unfold c3 at hQ
 by_cases h1:x<y
 ·rw[decide_eq_true h1,dP]
  rw[if_pos (by simpa using h1)] at hQ; exact hQ
 ·rw[decide_eq_false h1,bA,ahC,ny,decide_eq_false h1,Bool.false_or]
  rw[if_neg (by simpa using h1)] at hQ
  by_cases h2:y<x
  ·have hne:x≠y:=fun e=>by subst e; exact List.lt_irrefl _ h2
   rw[show(x == y)=false by simpa using hne,Bool.not_false,dP]
   rw[if_pos (by simpa using h2)] at hQ; exact hQ
  ·have he:x=y:=sH.tri x y (by simpa using h1) (by simpa using h2)
   rw[show(x == y)=true by simpa using he,Bool.not_true,bA]
   rw[if_neg (by simpa using h2)] at hQ; exact hQ
theorem aeX {cn:ak} (hn:IK (α:=Nat) (fun n=>N .u64 (n:Int)) cn) : zH (α:=Nat) (fun n=>N .u64 (n:Int)) (fun x y=>decide (x<y)) fun args M Q=>∃ a0 a1,args=[a0,a1]∧vI cn a0 a1 M Q:=by
 intro M x y Q hQ
 refine⟨_,_,rfl, ?_⟩
 unfold vI
 refine hn (hn ?_)
 rw[bA,bA,dL]
 unfold c3 at hQ
 by_cases h1:x<y
 ·rw[show decide ((x:Int)<(y:Int))=true by simpa using h1,dP]
  rw[if_pos (by simpa using h1)] at hQ; exact hQ
 ·rw[show decide ((x:Int)<(y:Int))=false by simpa using h1,bA,mh]
  rw[if_neg (by simpa using h1)] at hQ
  by_cases h2:y<x
  ·rw[show decide ((x:Int) > (y:Int))=true by simpa using h2,dP]
   rw[if_pos (by simpa using h2)] at hQ; exact hQ
  ·rw[show decide ((x:Int) > (y:Int))=false by simpa using h2,bA]
   rw[if_neg (by simpa using h2)] at hQ; exact hQ
theorem aeV {cn:ak} (hn:IK (α:=Int) (fun n=>N .i64 n) cn) : zH (α:=Int) (fun n=>N .i64 n) (fun x y=>decide (x<y)) fun args M Q=>∃ a0 a1,args=[a0,a1]∧Av cn a0 a1 M Q:=by
 intro M x y Q hQ
 refine⟨_,_,rfl, ?_⟩
 unfold Av
 refine hn (hn ?_)
 rw[bA,bA,dL]
 unfold c3 at hQ
 by_cases h1:x<y
 ·rw[show decide (x<y)=true by simpa using h1,dP]
  rw[if_pos (by simpa using h1)] at hQ; exact hQ
 ·rw[show decide (x<y)=false by simpa using h1,bA,mh]
  rw[if_neg (by simpa using h1)] at hQ
  by_cases h2:y<x
  ·rw[show decide (x > y)=true by simpa using h2,dP]
   rw[if_pos (by simpa using h2)] at hQ; exact hQ
  ·rw[show decide (x > y)=false by simpa using h2,bA]
   rw[if_neg (by simpa using h2)] at hQ; exact hQ
def INT:Enc Int:=⟨1,fun n=>[N .i64 n],fun _=>rfl,fun _=>rfl⟩
def NE:List Int→Int
 | []=>0
 | x :: xs=>Jc x (NE xs)
def OrC (c:ak) : Prop:=∀ {M:RM} {v:AV} {xs:List Int} {Q:aj},Sl INT M v xs→xs.length≤100→Q (N .i64 (NE xs)) M→c [v] M Q
theorem ak4:OrC fun args M Q=>∃ a0,args=[a0]∧OQ a0 M Q:=by
 intro M v xs Q hs hl hQ
 refine⟨_,rfl, ?_⟩
 unfold OQ
 rw[aL.len hs]
 refine aG (fun m ys M3=>∃ i:Nat,m=xs.length - i∧ys=[N .i64 (i:Int)]∧i≤xs.length∧M3=M∧NE xs=NE (xs.drop i)) _ ⟨0,rfl,rfl,Nat.zero_le _,rfl,rfl⟩ ?_
 rintro next m ys M3 hnext ⟨i,rfl,rfl,hi,rfl,hm⟩
 dsimp only[aa]
 rw[dL]
 refine aC (fun hlt=>?_) (fun hge=>?_)
 ·have hlt:i<xs.length:=by simpa using hlt
  obtain⟨b1,o1,_,_,A8,hc1⟩:=Sl.Kq (E:=INT) hs (i:Int) hlt
  rw[A8,aeM (hc1 _ rfl),jH]
  rw[List.drop_eq_getElem_cons hlt,NE,Jc] at hm
  by_cases h0:xs[i]=0
  ·rw[show(xs[i] != 0)=false by simp[h0],bA,dw,gL (by omega)]
   rw[if_neg (by simp[h0])] at hm
   exact hnext _ _ _ (by omega) ⟨i + 1,rfl,rfl,hlt,rfl,hm⟩
  ·rw[show(xs[i] != 0)=true by simp[h0],dP]
   rw[if_pos (by simp[h0])] at hm
   rw[hm] at hQ
   exact hQ
 ·have he:i=xs.length:=by simp at hge; omega
  subst he
  rw[List.drop_length] at hm
  rw[hm] at hQ
  exact hQ
theorem aju {T:Nat} {M:RM} {x y:Int} {K:RB→(Nat→AV)→Prop} : eB T 2 [(N .i64 0)] [(0,1,N .i64 x),(1,1,N .i64 y)] K=K (.row [N .i64 x,N .i64 y] false T 0) (fun b=>.slc b 0 2 (.ex 2)):=by
 apply propext; unfold eB
 constructor
 ·rintro⟨l,h,hk⟩; cases h; exact hk
 ·intro hk; exact⟨_,rfl,hk⟩
theorem auf {T:Nat} {M:RM} {x y z:Int} {K:RB→(Nat→AV)→Prop} : eB T 3 [(N .i64 0)] [(0,1,N .i64 x),(1,1,N .i64 y),(2,1,N .i64 z)] K=K (.row [N .i64 x,N .i64 y,N .i64 z] false T 0) (fun b=>.slc b 0 3 (.ex 3)):=by
 apply propext; unfold eB
 constructor
 ·rintro⟨l,h,hk⟩; cases h; exact hk
 ·intro hk; exact⟨_,rfl,hk⟩
def f3D (x y:aH) : Int:=Jc (c3 (fun x y:Nat=>decide (x<y)) x.2 y.2) (Jc (c3 (fun x y:Int=>decide (x<y)) x.1 y.1) 0)
def f3E (x y:aD) : Int:=Jc (c3 (fun x y:List UInt8=>decide (x<y)) x.2.1 y.2.1) (Jc (c3 (fun x y:List UInt8=>decide (x<y)) x.2.2.1 y.2.2.1) (f3D x.1 y.1))
theorem avK:Is3 gQ f3E:=BG (k:=fun x:aD=>x.2.1) sH (BG (k:=fun x:aD=>x.2.2.1) sH (BG (k:=fun x:aD=>x.1.2) ZP (BG (k:=fun x:aD=>x.1.1) Zk aam)))
def Yo (c:ak) : Prop:=∀ {M:RM} {x y:aH} {Q:aj},(∀ M',ag [] M M'→Q (N .i64 (f3D x y)) M')→c [.agg (aR x),.agg (aR y)] M Q
theorem ad6 {TD TI:Nat} {cu ci co:ak} (hu:zH (α:=Nat) (fun n=>N .u64 (n:Int)) (fun x y=>decide (x<y)) cu) (hi:zH (α:=Int) (fun n=>N .i64 n) (fun x y=>decide (x<y)) ci) (ho:OrC co) :
  Yo fun args M Q=>∃ a0 a1,args=[a0,a1]∧Tu TD cu ci TI co a0 a1 M Q:=by
 intro M x y Q hQ
 refine⟨_,_,rfl, ?_⟩
 unfold Tu
 rw[dX rfl (by simp),bg,dX rfl (by simp),bg]
 have k1:ag [] M (M.push (.row (aR x) false TD 0)):=(ag.refl _ _).push _
 have k2:ag [] M ((M.push (.row (aR x) false TD 0)).push (.row (aR y) false TD 0)):=k1.push _
 have h2:((M.push (.row (aR x) false TD 0)).push (.row (aR y) false TD 0)).heap (M.push (.row (aR x) false TD 0)).next=some (.row (aR y) false TD 0):=RM.aT _
 have h1:((M.push (.row (aR x) false TD 0)).push (.row (aR y) false TD 0)).heap M.next=some (.row (aR x) false TD 0):=nL (RM.aT _) (by simp[RM.push])
 generalize (M.push (.row (aR x) false TD 0)).push (.row (aR y) false TD 0)=M2 at *
 generalize (M.push (.row (aR x) false TD 0)).next=s at *
 rw[bK,az h1 rfl,bK,az h2 rfl,bK,az h1 rfl,bK,az h2 rfl]
 refine hu ?_
 rw[az h1 rfl]
 refine⟨rfl, ?_⟩
 rw[az h2 rfl]
 refine⟨rfl, ?_⟩
 refine hi ?_
 rw[aju (M:=M2),qo]
 refine ho (xs:=[_,_]) ?_ (by simp) (hQ _ (k2.push _))
 exact Sl.new (E:=INT) [_,_]
def NK (c:ak) : Prop:=∀ {M:RM} {x y:aD} {Q:aj},(∀ M',ag [] M M'→Q (N .i64 (f3E x y)) M')→c [.agg (aA.cells x),.agg (aA.cells y)] M Q
theorem X9 {TE TI:Nat} {cs cd co:ak} (hs:zH (α:=List UInt8) (fun s=>St s) (fun x y=>decide (x<y)) cs) (hd:Yo cd) (ho:OrC co) :
  NK fun args M Q=>∃ a0 a1,args=[a0,a1]∧Kz TE cs cd TI co a0 a1 M Q:=by
 intro M x y Q hQ
 refine⟨_,_,rfl, ?_⟩
 unfold Kz
 rw[dX rfl (by rw[aA.len]; decide),bg,dX rfl (by rw[aA.len]; decide),bg]
 have k1:ag [] M (M.push (.row (aA.cells x) false TE 0)):=(ag.refl _ _).push _
 have k2:ag [] M ((M.push (.row (aA.cells x) false TE 0)).push (.row (aA.cells y) false TE 0)):=k1.push _
 have h2:((M.push (.row (aA.cells x) false TE 0)).push (.row (aA.cells y) false TE 0)).heap (M.push (.row (aA.cells x) false TE 0)).next=some (.row (aA.cells y) false TE 0):=RM.aT _
 have h1:((M.push (.row (aA.cells x) false TE 0)).push (.row (aA.cells y) false TE 0)).heap M.next=some (.row (aA.cells x) false TE 0):=nL (RM.aT _) (by simp[RM.push])
 have n1:M.next<((M.push (.row (aA.cells x) false TE 0)).push (.row (aA.cells y) false TE 0)).next:=by simp[RM.push]; omega
 have n2:(M.push (.row (aA.cells x) false TE 0)).next<((M.push (.row (aA.cells x) false TE 0)).push (.row (aA.cells y) false TE 0)).next:=by simp[RM.push]
 generalize (M.push (.row (aA.cells x) false TE 0)).push (.row (aA.cells y) false TE 0)=M2 at *
 generalize (M.push (.row (aA.cells x) false TE 0)).next=s at *
 have ld:∀ {M' : RM} {b:Nat} {z:aD},M'.heap b=some (.row (aA.cells z) false TE 0)→∀ K:AV→Prop,aB M' (.ptr b 0) 2 K=K (.agg (aR z.1)):=fun {M' b z} h K=>by
  rw[fB,RM.dH h (by show 0 + 2≤5; decide)]
  simp[aA]
 rw[bK,az h1 rfl,bK,az h2 rfl,bK,az h1 rfl,bK,az h2 rfl,bK,ld h1,bK,ld h2]
 refine hs ?_
 rw[az h1 rfl]
 refine⟨rfl, ?_⟩
 rw[az h2 rfl]
 refine⟨rfl, ?_⟩
 rw[ld h1]
 refine⟨rfl, ?_⟩
 rw[ld h2]
 refine⟨rfl, ?_⟩
 refine hs ?_
 rw[ld h1]
 refine⟨rfl, ?_⟩
 rw[ld h2]
 refine⟨rfl, ?_⟩
 refine hd fun M3 k3=>?_
 rw[auf (M:=M3),qo]
 refine ho (xs:=[_,_,_]) (Sl.new (E:=INT) [_,_,_]) (by simp) ?_
 have e:NE [c3 (fun x y:List UInt8=>decide (x<y)) x.2.1 y.2.1,c3 (fun x y:List UInt8=>decide (x<y)) x.2.2.1 y.2.2.1,f3D x.1 y.1]=f3E x y:=by
  simp only[NE,f3E]
  congr 2
  unfold Jc; split <;> simp_all
 rw[e]
 exact hQ _ ((k2.trans k3).push _)
theorem ale {cv:FuncId→ak} {n:Nat} (h:NK (cv n)) : qj aA gQ (cO cv (.fn (.func n) [] [])):=by
 intro M x y Q hQ
 exact⟨n,[],[],rfl,h fun M' k=>hQ _ _ (avK x y) k⟩
abbrev qI:=aH × (Int × (List UInt8 × (List UInt8 × List UInt8)))
def EvE:Enc qI:=⟨6,fun e=>aR e.1++[N .i64 e.2.1,St e.2.2.1,St e.2.2.2.1,St e.2.2.2.2],fun _=>rfl,fun _=>rfl⟩
abbrev gz (e:qI) (kv:AV) : List AV:=EvE.cells e++[kv]
theorem Xy {M:RM} {c p:Bool} {f:KR→Prop} {P:RM→Prop} {G:AV→RM→Prop} (h0:P M) (hf:c=false→∀ k:KR,(∀ M',P M'→k (Bo p) M' none)→f k) (hG:∀ M',P M'→G (Bo (c || p)) M') :
  ae (Bo c) false f (fun k=>k .undef M none) (fun t M' b=>aK (Bo c) (Bo true) t fun u=>G u M'):=by
 cases c with
 | true=>rw[DR]; dsimp only; rw[dC]; exact hG M h0
 | false=>rw[lK]; exact hf rfl _ fun M' h=>by rw[bT]; exact hG M' h
theorem Ko {M:RM} {c p:Bool} {f:aj→Prop} {G:AV→RM→Prop} (hf:c=false→∀ k:aj,k (Bo p) M→f k) (hG:G (Bo (c || p)) M) :
  ai (Bo c) false f (fun k=>k .undef M) (fun t M'=>aK (Bo c) (Bo true) t fun u=>G u M'):=by
 cases c with
 | true=>rw[mZ]; dsimp only; rw[dC]; exact hG
 | false=>rw[gZ]; exact hf rfl _ (by rw[bT]; exact hG)
theorem aj5 {M:RM} {c q r:Bool} {f0:KR→Prop} {f:RM→KR→Prop} {P:RM→Prop} {G:AV→RM→Prop} (h0:P M) (hf0:c=false→∀ k:KR,k (Bo q) M none→f0 k) (hf:c=false→q=true→∀ k:KR,(∀ M',P M'→k (Bo r) M' none)→f M k) (hG:∀ M',P M'→G (Bo (c || (q && r))) M') :
  ae (Bo c) false f0 (fun k=>k .undef M none) fun t45 M1 b1=>ae t45 true (f M1) (fun k=>k .undef M1 none) fun t54 M2 b2=>ae (Bo c) false (fun k3=>aK t45 t54 (Bo false) fun t55=>k3 t55 M2 none) (fun k=>k .undef M2 none) fun t55 M3 b3=>aK (Bo c) (Bo true) t55 fun t56=>G t56 M3:=by
 cases c with
 | true=>rw[DR]; dsimp only; rw[YK]; dsimp only; rw[DR]; dsimp only; rw[dC]; exact hG M h0
 | false =>
   rw[lK]
   refine hf0 rfl _ ?_
   cases q with
   | false=>rw[gG]; dsimp only; rw[lK]; dsimp only; rw[bT,bT]; exact hG M h0
   | true =>
     rw[gI]
     refine hf rfl rfl _ fun M' h=>?_
     rw[lK]; dsimp only; rw[dC,bT]; exact hG M' h
theorem VF {M:RM} {c q r:Bool} {f0:aj→Prop} {f:RM→aj→Prop} {G:AV→RM→Prop} (hf0:c=false→∀ k:aj,k (Bo q) M→f0 k) (hf:c=false→q=true→∀ k:aj,k (Bo r) M→f M k) (hG:G (Bo (c || (q && r))) M) :
  ai (Bo c) false f0 (fun k=>k .undef M) fun t45 M1=>ai t45 true (f M1) (fun k=>k .undef M1) fun t54 M2=>ai (Bo c) false (fun k3=>aK t45 t54 (Bo false) fun t55=>k3 t55 M2) (fun k=>k .undef M2) fun t55 M3=>aK (Bo c) (Bo true) t55 fun t56=>G t56 M3:=by
 cases c with
 | true=>rw[mZ]; dsimp only; rw[CK]; dsimp only; rw[mZ]; dsimp only; rw[dC]; exact hG
 | false =>
   rw[gZ]
   refine hf0 rfl _ ?_
   cases q with
   | false=>rw[bN]; dsimp only; rw[gZ]; dsimp only; rw[bT,bT]; exact hG
   | true =>
     rw[bZ]
     refine hf rfl rfl _ ?_
     rw[gZ]; dsimp only; rw[dC,bT]; exact hG
def lY (a b:aH) : Bool:=decide (a.2<b.2) || (decide (a.2=b.2) && decide (a.1<b.1))
def Ag (c:ak) : Prop:=∀ {M:RM} {a b:aH} {Q:aj},(∀ M',ag [] M M'→Q (Bo (lY a b)) M')→c [.agg (aR a),.agg (aR b)] M Q
theorem UK {M1:RM} {T m1 m2:Nat} {a b:aH} {K:AV→RM→Prop} (h1:M1.heap m1=some (.row (aR a) false T 0)) (h2:M1.heap m2=some (.row (aR b) false T 0)) (hK:K (Bo (lY a b)) M1) :
  aI (.ptr m1 0) 1 fun t5=>au M1 t5 fun t6=>aI (.ptr m2 0) 1 fun t7=>au M1 t7 fun t8=>af .lss t6 t8 fun t9 =>
  ai t9 false (fun k'=>aI (.ptr m1 0) 1 fun bM=>au M1 bM fun t12=>aI (.ptr m2 0) 1 fun t13=>au M1 t13 fun t14=>af .eql t12 t14 fun t15=>k' t15 M1) (fun k=>k .undef M1) fun t16 dG =>
  ai t16 true (fun k'=>aI (.ptr m1 0) 0 fun t17=>au dG t17 fun t18=>aI (.ptr m2 0) 0 fun t19=>au dG t19 fun t20=>af .lss t18 t20 fun t21=>k' t21 dG) (fun k=>k .undef dG) fun JH eY =>
  ai t9 false (fun sQ=>aK t16 JH (Bo false) fun t22=>sQ t22 eY) (fun k=>k .undef eY) fun K9 jF =>
  aK t9 (Bo true) K9 fun t23=>K t23 jF:=by
 rw[bK,az h1 rfl,bK,az h2 rfl,dL,show decide ((a.2:Int)<(b.2:Int))=decide (a.2<b.2) by simp]
 refine VF (q:=decide (a.2=b.2)) (r:=decide (a.1<b.1)) (fun _ k hk=>?_) (fun _ _ k hk=>?_) hK
 ·rw[bK,az h1 rfl,bK,az h2 rfl,bL,show((a.2:Int) == (b.2:Int))=decide (a.2=b.2) by by_cases h:a.2=b.2 <;> simp[h]; omega]
  exact hk
 ·rw[bK,az h1 rfl,bK,az h2 rfl,dL]
  exact hk
theorem acE {T:Nat} : Ag fun args M Q=>∃ a0 a1,args=[a0,a1]∧YZ T a0 a1 M Q:=by
 intro M a b Q hQ
 refine⟨_,_,rfl, ?_⟩
 unfold YZ
 simp only[gK]
 rw[dX rfl (by simp),bg,dX rfl (by simp),bg]
 exact UK (nL (RM.aT _) (by simp[RM.push])) (RM.aT _) (hQ _ (((ag.refl _ _).push _).push _))
theorem XZ {T:Nat} : Ag fun args M Q=>∃ a0 a1,args=[a0,a1]∧NR T a0 a1 M Q:=by
 intro M a b Q hQ
 refine⟨_,_,rfl, ?_⟩
 unfold NR
 simp only[gK]
 rw[dX rfl (by simp),bg,dX rfl (by simp),bg]
 exact UK (nL (RM.aT _) (by simp[RM.push])) (RM.aT _) (hQ _ (((ag.refl _ _).push _).push _))
def names (c f v:List UInt8) : Bool:=decide (1≤c.length) && decide (c.length≤64) && decide (f.length≤64) && decide (v.length≤512)
def anO:Option aH→aH→Bool
 | none,_=>true
 | some q,k=>lY q k
def jb (d:aH) (p:Option aH) : List aH→Bool
 | []=>true
 | k :: ks=>good k && !decide (k=d) && anO p k && jb d (some k) ks
def E8 (e:qI) : Bool:=(decide (e.2.1=1) && decide (e.2.2.2.1≠[])) || (decide (e.2.1=2) && decide (e.2.2.2.2=[]))
def eG (e:qI) (ks:List aH) : Bool:=good e.1 && names e.2.2.1 e.2.2.2.1 e.2.2.2.2 && decide (ks.length≤64) && jb e.1 none ks && E8 e
def XA (c:ak) : Prop:=∀ {M:RM} {x y z:List UInt8} {Q:aj},Q (Bo (names x y z)) M→c [St x,St y,St z] M Q
theorem ac2:XA fun args M Q=>∃ a0 a1 a2,args=[a0,a1,a2]∧Fq a0 a1 a2 M Q:=by
 intro M x y z Q hQ
 refine⟨_,_,_,rfl, ?_⟩
 unfold Fq
 simp only[gK]
 rw[lH,iW]
 refine andM (p:=decide (x.length≤64)) (fun _ k hk=>?_) ?_
 ·rw[lH,nP,show decide ((x.length:Int)≤64)=decide (x.length≤64) by simp; omega]; exact hk
 refine andM (p:=decide (y.length≤64)) (fun _ k hk=>?_) ?_
 ·rw[lH,nP,show decide ((y.length:Int)≤64)=decide (y.length≤64) by simp; omega]; exact hk
 refine andM (p:=decide (z.length≤512)) (fun _ k hk=>?_) ?_
 ·rw[lH,nP,show decide ((z.length:Int)≤512)=decide (z.length≤512) by simp; omega]; exact hk
 rw[show decide ((x.length:Int) ≥ 1)=decide (1≤x.length) by simp; omega]
 exact hQ
def BO (c:ak) : Prop:=∀ {M:RM} {e:qI} {kv:AV} {ks:List aH} {Q:aj},Sl eX M kv ks→(∀ M',ag [] M M'→Q (Bo (eG e ks)) M')→c [.agg (gz e kv)] M Q
theorem Ei {M:RM} {b T:Nat} {e:qI} {kv:AV} (h:M.heap b=some (.row (gz e kv) false T 0)) {K:AV→Prop} : aB M (.ptr b 0) 2 K=K (.agg (aR e.1)):=by
 have e2:((gz e kv).drop 0).take 2=aR e.1:=rfl
 rw[fB,RM.dH h (by show 0 + 2≤7; decide),e2]
 simp
theorem PY {M:RM} {e:qI} {kv:AV} {ks:List aH} (h:Sl eX M kv ks) : (gz e kv).all oneCell=true:=by
 rw[List.all_append,EvE.one,List.all_cons,aL.one h]; rfl
theorem wZ {M:RM} {kv:AV} {ks:List aH} (h:Sl eX M kv ks) {i:Nat} (hi:i<ks.length) {kd:IntKind} {K:AV→Prop} : (ah kv (N kd (i:Int)) 2 fun p=>aB M p 2 K)=K (.agg (aR ks[i])):=by
 obtain⟨b,o,_,_,hidx,hld⟩:=Sl.at (E:=eX) (i:=i) h 2 (i:Int) hi rfl rfl
 rw[hidx,fB,hld]
 simp[eX]
def En (ks:List aH) (i:Nat) : Option aH:=if i=0 then none else ks[i - 1]?
theorem Lc {d:aH} {ks:List aH} {i:Nat} (hi:i<ks.length) : jb d (En ks i) (ks.drop i) =
  (good ks[i] && !decide (ks[i]=d) && (if h:0<i then lY (ks[i - 1]'(by omega)) ks[i] else true) && jb d (En ks (i + 1)) (ks.drop (i + 1))):=by
 rw[List.drop_eq_getElem_cons hi,jb]
 have e2:En ks (i + 1)=some ks[i]:=by rw[En,if_neg (by omega),Nat.add_sub_cancel,List.getElem?_eq_getElem hi]
 rw[e2]
 by_cases h0:i=0
 ·subst h0; rfl
 ·have e1:En ks i=some (ks[i - 1]'(by omega)):=by rw[En,if_neg h0,List.getElem?_eq_getElem (by omega)]
  rw[e1,dif_pos (by omega)]; rfl
theorem aaX {TE TD:Nat} {cg cn cl:ak} (hg:DZ cg) (hn:XA cn) (hl:Ag cl) : BO fun args M Q=>∃ a0,args=[a0]∧Zg TE cg cn TD cl a0 M Q:=by
 intro M0 e kv ks Q hs0 hQ
 refine⟨_,rfl, ?_⟩
 unfold Zg
 simp only[gK,eu,dE,dQ]
 rw[dX (PY hs0) (by simp),bg]
 have k0:ag [] M0 (M0.push (.row (gz e kv) false TE 0)):=(ag.refl _ _).push _
 have h0:(M0.push (.row (gz e kv) false TE 0)).heap M0.next=some (.row (gz e kv) false TE 0):=RM.aT _
 have hlt:M0.next<(M0.push (.row (gz e kv) false TE 0)).next:=by simp[RM.push]
 have hs:=aL.keep hs0 k0 (by simp)
 generalize M0.push (.row (gz e kv) false TE 0)=M at *
 generalize M0.next=b at *
 have hs:Sl eX M kv ks:=hs
 rw[bK,Ei h0]
 refine hg fun M1 k1=>?_
 have h1:=k1.aQ h0 hlt (by simp)
 have s1:Sl eX M1 kv ks:=aL.keep hs k1 (by simp)
 rw[bD]
 refine Ko (p:=!names e.2.2.1 e.2.2.2.1 e.2.2.2.2) (fun _ k hk=>?_) ?_
 ·rw[bK,az h1 rfl,bK,az h1 rfl,bK,az h1 rfl]
  refine hn ?_
  rw[bD]
  exact hk
 refine Ko (p:=decide (ks.length > 64)) (fun _ k hk=>?_) ?_
 ·rw[bK,az h1 rfl,aL.len s1,mh,show decide ((ks.length:Int) > 64)=decide (ks.length > 64) by simp; omega]
  exact hk
 refine aC (fun hc=>?_) (fun hc=>?_)
 ·have:eG e ks=false:=by
   unfold eG
   simp only[Bool.or_eq_true,Bool.not_eq_true',decide_eq_true_eq] at hc
   rcases hc with(hc | hc) | hc
   ·rw[hc]; rfl
   ·rw[hc,Bool.and_false]; rfl
   ·rw[decide_eq_false (show ¬ (ks.length≤64) by omega),Bool.and_false]; rfl
  rw[this] at hQ
  exact hQ M1 (k0.trans k1)
 simp only[Bool.or_eq_false_iff,Bool.not_eq_false',decide_eq_false_iff_not] at hc
 obtain⟨⟨hc1,hc2⟩,hc3⟩:=hc
 have rT:eG e ks=(jb e.1 none ks && E8 e):=by
  unfold eG
  rw[hc1,hc2,decide_eq_true (show(ks.length≤64) by omega)]; simp
 rw[bK,az h1 rfl,aL.len s1]
 refine aG (fun m ys M3=>∃ i:Nat,m=ks.length - i∧ys=[N .i64 (i:Int)]∧i≤ks.length∧ag [] M1 M3∧jb e.1 none ks=jb e.1 (En ks i) (ks.drop i)) _ ⟨0,rfl,rfl,Nat.zero_le _,ag.refl _ _,rfl⟩ ?_
 rintro next m ys M3 hnext ⟨i,rfl,rfl,hi,k3,hm⟩
 dsimp only[aa]
 have n1:=k1.next
 have h3:=k3.aQ h1 (by omega) (by simp)
 have s3:Sl eX M3 kv ks:=aL.keep s1 k3 (by simp)
 have kk3:=(k0.trans k1).trans k3
 rw[dB]
 refine aC (fun hlt2=>?_) (fun hge=>?_)
 ·have hlt2:i<ks.length:=of_decide_eq_true hlt2
  rw[Lc hlt2] at hm
  rw[wZ s3 hlt2,bg,iw (n:=2) (x:=.agg (aR ks[i])) (l:=[N .i64 0,N .u64 0]) (RM.aT _) rfl rfl rfl]
  have k4:ag [] M3 ((M3.push (.row [N .i64 0,N .u64 0] false TD 0)).put M3.next (.row (AV.agg (aR ks[i])).cells false TD 0)):=((ag.refl _ _).push _).new _ (Nat.le_refl _)
  have hk4:((M3.push (.row [N .i64 0,N .u64 0] false TD 0)).put M3.next (.row (AV.agg (aR ks[i])).cells false TD 0)).heap M3.next=some (.row (aR ks[i]) false TD 0):=aU _
  have hn4:M3.next<((M3.push (.row [N .i64 0,N .u64 0] false TD 0)).put M3.next (.row (AV.agg (aR ks[i])).cells false TD 0)).next:=by simp[RM.push,RM.put]
  generalize (M3.push (.row [N .i64 0,N .u64 0] false TD 0)).put M3.next (.row (AV.agg (aR ks[i])).cells false TD 0)=M4 at *
  generalize M3.next=s at *
  rw[eQ (n:=2) hk4 rfl]
  refine hg fun M5 k5=>?_
  have hk5:=k5.aQ hk4 hn4 (by simp)
  have h5:=(k4.trans k5).aQ h3 (by have:=k3.next; omega) (by simp)
  have s5:Sl eX M5 kv ks:=aL.keep s3 (k4.trans k5) (by simp)
  have kk5:=(k3.trans k4).trans k5
  rw[bD]
  refine Xy (P:=fun M'=>M'=M5) (p:=decide (ks[i]=e.1)) rfl (fun _ k hk=>?_) fun M' hM'=>?_
  ·rw[eQ (n:=2) hk5 rfl,bK,Ei h5,qK rfl rfl (FW _ _),Bool.bne_false]
   exact hk M5 rfl
  subst hM'
  refine aj5 (P:=fun M6=>ag [] M1 M6) (q:=decide (i > 0)) (r:=!(if h:0<i then lY (ks[i - 1]'(by omega)) ks[i] else true)) kk5 (fun _ k hk=>?_) (fun _ hq k hk=>?_) fun M6 k6=>?_
  ·rw[show(0:Int)=((0:Nat) : Int) from rfl,pV]
   exact hk
  ·have hq:0<i:=of_decide_eq_true hq
   rw[bK,az h5 rfl,bz (by omega) (by omega),wZ s5 (by omega),eQ (n:=2) hk5 rfl]
   refine hl fun M7 k7=>?_
   rw[bD,← dif_pos (c:=0<i) (t:=fun h=>lY (ks[i - 1]'(by omega)) ks[i]) (e:=fun _=>true) hq]
   exact hk M7 (kk5.trans k7)
  refine aC (fun hb=>?_) (fun hb=>?_)
  ·have:jb e.1 none ks=false:=by
    rw[hm]
    simp only[Bool.or_eq_true,Bool.and_eq_true,Bool.not_eq_true',decide_eq_true_eq] at hb
    rcases hb with(hb | hb) | ⟨_,hb⟩
    ·rw[hb]; rfl
    ·rw[show decide (ks[i]=e.1)=true by simpa using hb]; simp
    ·rw[hb]; simp
   rw[rT,this] at hQ
   exact hQ M6 ((k0.trans k1).trans k6)
  ·rw[add1 (by omega)]
   refine hnext _ _ _ (by omega) ⟨i + 1,rfl,rfl,by omega,k6, ?_⟩
   simp only[Bool.or_eq_false_iff,Bool.and_eq_false_iff,Bool.not_eq_false',decide_eq_false_iff_not] at hb
   obtain⟨⟨hb1,hb2⟩,hb3⟩:=hb
   rw[hm,hb1,show decide (ks[i]=e.1)=false by simpa using hb2]
   rcases hb3 with hb3 | hb3
   ·rw[dif_neg hb3]; simp
   ·rw[hb3]; simp
 ·have he:i=ks.length:=by
   have:¬ i<ks.length:=of_decide_eq_false hge
   omega
  subst he
  rw[List.drop_length,jb] at hm
  rw[rT,hm,Bool.true_and] at hQ
  have op1:∀ n:Int,((e.2.1:Int) == n)=decide (e.2.1=n):=fun n=>by by_cases h:e.2.1=n <;> simp[h]
  rw[bK,az h3 rfl,bL,op1]
  refine andM (p:=decide (e.2.2.2.1≠[])) (fun _ k hk=>?_) ?_
  ·rw[bK,az h3 rfl,jW,show(e.2.2.2.1 != [])=decide (e.2.2.2.1≠[]) by by_cases h:e.2.2.2.1=[] <;> simp[h]]
   exact hk
  refine VF (q:=decide (e.2.1=2)) (r:=decide (e.2.2.2.2=[])) (fun _ k hk=>?_) (fun _ _ k hk=>?_) (hQ M3 kk3)
  ·rw[bK,az h3 rfl,bL,op1]
   exact hk
  ·rw[bK,az h3 rfl,jC,show(e.2.2.2.2 == [])=decide (e.2.2.2.2=[]) by by_cases h:e.2.2.2.2=[] <;> simp[h]]
   exact hk
theorem RJ {TE:Nat} {cg cl:ak} (hg:DZ cg) (hl:Ag cl) : BO fun args M Q=>∃ a0,args=[a0]∧EF TE cg cl a0 M Q:=by
 intro M0 e kv ks Q hs0 hQ
 refine⟨_,rfl, ?_⟩
 unfold EF
 simp only[gK,eu,dE,dQ]
 rw[dX (PY hs0) (by simp),bg]
 have k0:ag [] M0 (M0.push (.row (gz e kv) false TE 0)):=(ag.refl _ _).push _
 have h0:(M0.push (.row (gz e kv) false TE 0)).heap M0.next=some (.row (gz e kv) false TE 0):=RM.aT _
 have hlt:M0.next<(M0.push (.row (gz e kv) false TE 0)).next:=by simp[RM.push]
 have hs:=aL.keep hs0 k0 (by simp)
 generalize M0.push (.row (gz e kv) false TE 0)=M at *
 generalize M0.next=b at *
 have hs:Sl eX M kv ks:=hs
 rw[bK,Ei h0]
 refine hg fun M1 k1=>?_
 have h1:=k1.aQ h0 hlt (by simp)
 have s1:Sl eX M1 kv ks:=aL.keep hs k1 (by simp)
 have op1:∀ n:Int,((e.2.1:Int) == n)=decide (e.2.1=n):=fun n=>by by_cases h:e.2.1=n <;> simp[h]
 have op2:∀ n:Int,((e.2.1:Int) != n)=decide (e.2.1≠n):=fun n=>by by_cases h:e.2.1=n <;> simp[h]
 rw[bD]
 refine VF (q:=decide (e.2.1≠1)) (r:=decide (e.2.1≠2)) (fun _ k hk=>?_) (fun _ _ k hk=>?_) ?_
 ·rw[bK,az h1 rfl,jH,op2]; exact hk
 ·rw[bK,az h1 rfl,jH,op2]; exact hk
 refine Ko (p:=decide (e.2.2.1.length<1)) (fun _ k hk=>?_) ?_
 ·rw[bK,az h1 rfl,lH,dL,show decide ((e.2.2.1.length:Int)<1)=decide (e.2.2.1.length<1) from decide_eq_decide.2 (by omega)]; exact hk
 refine Ko (p:=decide (e.2.2.1.length > 64)) (fun _ k hk=>?_) ?_
 ·rw[bK,az h1 rfl,lH,mh,show decide ((e.2.2.1.length:Int) > 64)=decide (e.2.2.1.length > 64) by simp; omega]; exact hk
 refine Ko (p:=decide (e.2.2.2.1.length > 64)) (fun _ k hk=>?_) ?_
 ·rw[bK,az h1 rfl,lH,mh,show decide ((e.2.2.2.1.length:Int) > 64)=decide (e.2.2.2.1.length > 64) by simp; omega]; exact hk
 refine Ko (p:=decide (e.2.2.2.2.length > 512)) (fun _ k hk=>?_) ?_
 ·rw[bK,az h1 rfl,lH,mh,show decide ((e.2.2.2.2.length:Int) > 512)=decide (e.2.2.2.2.length > 512) by simp; omega]; exact hk
 refine Ko (p:=decide (ks.length > 64)) (fun _ k hk=>?_) ?_
 ·rw[bK,az h1 rfl,aL.len s1,mh,show decide ((ks.length:Int) > 64)=decide (ks.length > 64) by simp; omega]; exact hk
 have kk1:=k0.trans k1
 refine aC (fun hc=>?_) (fun hc=>?_)
 ·have:eG e ks=false:=by
   simp only[Bool.or_eq_true,Bool.and_eq_true,Bool.not_eq_true',decide_eq_true_eq] at hc
   simp only[eG,names,E8]
   rcases hc with(((((hc | ⟨hc1,hc2⟩) | hc) | hc) | hc) | hc) | hc
   ·rw[hc]; rfl
   ·simp[hc1,hc2]
   ·rw[decide_eq_false (show ¬ (1≤e.2.2.1.length) by omega)]; simp
   ·rw[decide_eq_false (show ¬ (e.2.2.1.length≤64) by omega)]; simp
   ·rw[decide_eq_false (show ¬ (e.2.2.2.1.length≤64) by omega)]; simp
   ·rw[decide_eq_false (show ¬ (e.2.2.2.2.length≤512) by omega)]; simp
   ·rw[decide_eq_false (show ¬ (ks.length≤64) by omega)]; simp
  rw[this] at hQ
  exact hQ M1 kk1
 simp only[Bool.or_eq_false_iff,Bool.and_eq_false_iff,Bool.not_eq_false',decide_eq_false_iff_not,Decidable.not_not] at hc
 obtain⟨⟨⟨⟨⟨⟨hc1,hop⟩,hc2⟩,hc3⟩,hc4⟩,hc5⟩,hc6⟩:=hc
 have rT:eG e ks=(jb e.1 none ks && E8 e):=by
  simp only[eG,names]
  rw[hc1,decide_eq_true (show(1≤e.2.2.1.length) by omega),decide_eq_true (show(e.2.2.1.length≤64) by omega),decide_eq_true (show(e.2.2.2.1.length≤64) by omega),decide_eq_true (show(e.2.2.2.2.length≤512) by omega),decide_eq_true (show(ks.length≤64) by omega)]
  simp
 rw[rT] at hQ
 rw[bK,az h1 rfl,bL,op1]
 refine andM (p:=decide (e.2.2.2.1=[])) (fun _ k hk=>?_) ?_
 ·rw[bK,az h1 rfl,jC,show(e.2.2.2.1 == [])=decide (e.2.2.2.1=[]) by by_cases h:e.2.2.2.1=[] <;> simp[h]]
  exact hk
 refine VF (q:=decide (e.2.1=2)) (r:=decide (e.2.2.2.2≠[])) (fun _ k hk=>?_) (fun _ _ k hk=>?_) ?_
 ·rw[bK,az h1 rfl,bL,op1]
  exact hk
 ·rw[bK,az h1 rfl,jW,show(e.2.2.2.2 != [])=decide (e.2.2.2.2≠[]) by by_cases h:e.2.2.2.2=[] <;> simp[h]]
  exact hk
 have aww:((decide (e.2.1=1) && decide (e.2.2.2.1=[])) || (decide (e.2.1=2) && decide (e.2.2.2.2≠[])))=!E8 e:=by
  unfold E8
  rcases hop with hop | hop
  ·simp[hop]
  ·simp[hop]
 rw[aww]
 refine aC (fun hb=>?_) (fun hb=>?_)
 ·rw[show E8 e=false by simpa using hb,Bool.and_false] at hQ
  exact hQ M1 kk1
 rw[show E8 e=true by simpa using hb,Bool.and_true] at hQ
 refine aG (fun m ys M3=>∃ i:Nat,m=ks.length - i∧ys=[N .i64 (i:Int)]∧i≤ks.length∧ag [] M1 M3∧jb e.1 none ks=jb e.1 (En ks i) (ks.drop i)) _ ⟨0,rfl,rfl,Nat.zero_le _,ag.refl _ _,rfl⟩ ?_
 rintro next m ys M3 hnext ⟨i,rfl,rfl,hi,k3,hm⟩
 dsimp only[aa]
 have n1:=k1.next
 have h3:=k3.aQ h1 (by omega) (by simp)
 have s3:Sl eX M3 kv ks:=aL.keep s1 k3 (by simp)
 rw[bK,az h3 rfl,aL.len s3,dB]
 refine aC (fun hlt2=>?_) (fun hge=>?_)
 ·have hlt2:i<ks.length:=of_decide_eq_true hlt2
  rw[Lc hlt2] at hm
  rw[bK,az h3 rfl,wZ s3 hlt2]
  refine hg fun M5 k5=>?_
  have h5:=k5.aQ h3 (by have:=k3.next; omega) (by simp)
  have s5:Sl eX M5 kv ks:=aL.keep s3 k5 (by simp)
  have kk5:=k3.trans k5
  rw[bD]
  refine Xy (P:=fun M'=>M'=M5) (p:=decide (ks[i]=e.1)) rfl (fun _ k hk=>?_) fun M' hM'=>?_
  ·rw[bK,az h5 rfl,wZ s5 hlt2,bK,Ei h5,qK rfl rfl (FW _ _),Bool.bne_false]
   exact hk M5 rfl
  subst hM'
  refine aj5 (P:=fun M6=>ag [] M1 M6) (q:=decide (i > 0)) (r:=!(if h:0<i then lY (ks[i - 1]'(by omega)) ks[i] else true)) kk5 (fun _ k hk=>?_) (fun _ hq k hk=>?_) fun M6 k6=>?_
  ·rw[show(0:Int)=((0:Nat) : Int) from rfl,pV]
   exact hk
  ·have hq:0<i:=of_decide_eq_true hq
   rw[bK,az h5 rfl,bz (by omega) (by omega),wZ s5 (by omega),bK,az h5 rfl,wZ s5 hlt2]
   refine hl fun M7 k7=>?_
   rw[bD,← dif_pos (c:=0<i) (t:=fun h=>lY (ks[i - 1]'(by omega)) ks[i]) (e:=fun _=>true) hq]
   exact hk M7 (kk5.trans k7)
  refine aC (fun hb=>?_) (fun hb=>?_)
  ·have:jb e.1 none ks=false:=by
    rw[hm]
    simp only[Bool.or_eq_true,Bool.and_eq_true,Bool.not_eq_true',decide_eq_true_eq] at hb
    rcases hb with(hb | hb) | ⟨_,hb⟩
    ·rw[hb]; rfl
    ·rw[show decide (ks[i]=e.1)=true by simpa using hb]; simp
    ·rw[hb]; simp
   rw[this] at hQ
   exact hQ M6 (kk1.trans k6)
  ·rw[add1 (by omega)]
   refine hnext _ _ _ (by omega) ⟨i + 1,rfl,rfl,by omega,k6, ?_⟩
   simp only[Bool.or_eq_false_iff,Bool.and_eq_false_iff,Bool.not_eq_false',decide_eq_false_iff_not] at hb
   obtain⟨⟨hb1,hb2⟩,hb3⟩:=hb
   rw[hm,hb1,show decide (ks[i]=e.1)=false by simpa using hb2]
   rcases hb3 with hb3 | hb3
   ·rw[dif_neg hb3]; simp
   ·rw[hb3]; simp
 ·have he:i=ks.length:=by
   have:¬ i<ks.length:=of_decide_eq_false hge
   omega
  subst he
  rw[List.drop_length,jb] at hm
  rw[hm] at hQ
  exact hQ M3 (kk1.trans k3)
end Go.Ab.Crw
