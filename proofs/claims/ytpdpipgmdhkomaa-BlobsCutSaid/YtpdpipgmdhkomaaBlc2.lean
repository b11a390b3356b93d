/- Part 2 of the ground of the proofs of this seat (texts Ab13 to R4). By an AI agent. -/
import Derived.Test.YtpdpipgmdhkomaaBlc1
import Derived.LoopN
import Derived.Below
import Derived.ChangeSame
import Derived.Laws.StructEq
set_option linter.unusedVariables false
set_option linter.unusedSimpArgs false
namespace Go.Ab
open Go Go.RowKit
theorem Qa {v u:Value} (h:HZ v u=true) : v=u:=by
 unfold HZ at h
 split at h <;> first | rfl | (cases h; done) | skip
 ·simp at h; rw[h]
 ·simp at h; rw[h.1,h.2]
 ·rename_i a b
  simp only[decide_eq_true_eq] at h
  have:a.data=b.data:=Array.ext' h
  cases a; cases b; simp at this; rw[this]
theorem Tz {a b:Cap} (h:P5 a b=true) : a=b:=by
 unfold P5 at h
 split at h <;> first | (cases h; done) | skip
 ·rw[aW h]
 ·rw[aW h]
theorem Vt {a b:Fn} (h:TW a b=true) : a=b:=by
 unfold TW at h
 split at h <;> first | (cases h; done) | skip
 rw[aW h]
mutual
theorem pX:∀ (x y:AV),jW x y=true→x=y
 | .top,y,h=>by cases y <;> simp[jW] at h; rfl
 | .atl k,y,h=>by
   cases y <;> simp only[jW] at h <;> first | (cases h; done) | skip
   rw[aW h]
 | .sc v,y,h=>by
   cases y <;> simp only[jW] at h <;> first | (cases h; done) | skip
   rw[Qa h]
 | .ptr b o,y,h=>by
   cases y <;> simp only[jW,Bool.and_eq_true] at h <;> first | (cases h; done) | skip
   rw[aW h.1,aW h.2]
 | .slc b o l k,y,h=>by
   cases y <;> simp only[jW,Bool.and_eq_true] at h <;> first | (cases h; done) | skip
   rw[aW h.1.1.1,aW h.1.1.2,aW h.1.2,Tz h.2]
 | .emp b,y,h=>by
   cases y <;> simp only[jW] at h <;> first | (cases h; done) | skip
   rw[aW h]
 | .map b,y,h=>by
   cases y <;> simp only[jW] at h <;> first | (cases h; done) | skip
   rw[aW h]
 | .fn f xs ys,y,h=>by
   cases y <;> simp only[jW,Bool.and_eq_true] at h <;> first | (cases h; done) | skip
   rw[Vt h.1.1,lu _ _ h.1.2,lu _ _ h.2]
 | .ifc t v,y,h=>by
   cases y <;> simp only[jW,Bool.and_eq_true] at h <;> first | (cases h; done) | skip
   rw[aW h.1,pX _ _ h.2]
 | .agg xs,y,h=>by
   cases y <;> simp only[jW] at h <;> first | (cases h; done) | skip
   rw[lu _ _ h]
 | .tup xs,y,h=>by
   cases y <;> simp only[jW] at h <;> first | (cases h; done) | skip
   rw[lu _ _ h]
theorem lu:∀ (xs ys:List AV),mX xs ys=true→xs=ys
 | [],ys,h=>by cases ys <;> simp[mX] at h; rfl
 | x :: xs,ys,h=>by
   cases ys with
   | nil=>simp[mX] at h
   | cons y ys =>
     simp only[mX,Bool.and_eq_true] at h
     rw[pX _ _ h.1,lu _ _ h.2]
end
theorem EI {x y:Option AV} (h:FX x y=true) : x=y:=by
 unfold FX at h
 split at h <;> first | rfl | (cases h; done) | skip
 rw[pX _ _ h]
theorem CQ:∀ (x y:Tree AV),tV x y=true→x=y
 | .leaf,y,h=>by cases y <;> simp[tV] at h; rfl
 | .node l v r,y,h=>by
   cases y with
   | leaf=>simp[tV] at h
   | node l' v' r' =>
     simp only[tV,Bool.and_eq_true] at h
     rw[EI h.1.1,CQ _ _ h.1.2,CQ _ _ h.2]
theorem uo {x y:dm} (h:Ac x y=true) : x=y:=by
 unfold Ac at h
 split at h <;> first | (cases h; done) | skip
 ·simp only[Bool.and_eq_true,beq_iff_eq] at h
  rw[aW h.1.1.1.1.1,CQ _ _ h.1.1.1.1.2,lu _ _ h.1.1.1.2,h.1.1.2,aW h.1.2,aW h.2]
 ·rw[aW h]
theorem rJ {acc:List Nat} {j:Nat} : ∀ (es:List Edge),Nat.testBit (jR acc es) j=true→∃ e∈es,Region.binds .any e=true∧(j=e.on∨∃ m,acc[e.on]?=some m∧Nat.testBit m j=true)
 | [],h=>by simp[jR] at h
 | e :: es,h=>by
   simp only[jR] at h
   split at h
   ·rename_i hb
    rw[Nat.testBit_or,Nat.testBit_or,Bool.or_eq_true,Bool.or_eq_true] at h
    rcases h with(h | h) | h
    ·rw[Nat.testBit_two_pow] at h
     have h:=of_decide_eq_true h
     exact⟨e,.head _,hb,.inl h.symm⟩
    ·rw[bH] at h
     cases hm:acc[e.on]? with
     | none=>simp[hm] at h
     | some m=>exact⟨e,.head _,hb,.inr ⟨m,hm,by simpa [hm] using h⟩⟩
    ·obtain⟨e',h1,h2⟩:=rJ es h
     exact⟨e',.tail _ h1,h2⟩
   ·obtain⟨e',h1,h2⟩:=rJ es h
    exact⟨e',.tail _ h1,h2⟩
theorem uI:∀ (L:List Oper) (acc:List Nat),(∀ i,i<acc.length→(iD L acc)[i]?=acc[i]?) ∧
  ∀ j o,L[j]?=some o→∃ pre,pre.length=acc.length + j∧(∀ i,i<acc.length + j→pre[i]?=(iD L acc)[i]?)∧(iD L acc)[acc.length + j]?=some (jR pre o.after.toList)
 | [],acc=>⟨fun _ _=>rfl,fun j o h=>by simp at h⟩
 | x :: L,acc=>by
   obtain⟨h1,h2⟩:=uI L (acc++[jR acc x.after.toList])
   simp only[iD]
   have hpre:∀ i,i<acc.length→(iD L (acc++[jR acc x.after.toList]))[i]?=acc[i]?:=fun i hi=>by
    rw[h1 i (by simp; omega),List.getElem?_append_left hi]
   refine⟨hpre,fun j o hj=>?_⟩
   cases j with
   | zero =>
     simp at hj; subst hj
     refine⟨acc,rfl,fun i hi=>(hpre i hi).symm, ?_⟩
     rw[Nat.add_zero,h1 acc.length (by simp)]
     simp
   | succ j =>
     obtain⟨pre,a,b,c⟩:=h2 j o (by simpa using hj)
     simp only[List.length_append,List.length_singleton] at a b c
     exact⟨pre,by omega,fun i hi=>b i (by omega),by rw[show acc.length + (j + 1)=acc.length + 1 + j by omega]; exact c⟩
section
variable {L:List Oper} {S:Nat→Prop}
def Closed (L:List Oper) (S:Nat→Prop) : Prop:=∀ i o,L[i]?=some o→S i→∀ e∈o.after.toList,Region.binds .any e=true→S e.on
theorem MP (hS:Closed L S) : ∀ (i:Nat) (m:Nat),(iD L [])[i]?=some m→(∀ o,L[i]?=some o→∀ e∈o.after.toList,Region.binds .any e=true→S e.on)→i<L.length→∀ j,Nat.testBit m j=true→S j:=by
 intro i
 induction i using Nat.strongRecOn with
 | _ i ih =>
   intro m hm hd hi j hj
   obtain⟨pre,h1,h2,h3⟩:=(uI L []).2 i L[i] (by simp[hi])
   simp only[List.length_nil,Nat.zero_add] at h1 h2 h3
   rw[hm] at h3
   cases h3
   obtain⟨e,he,hb,hj⟩:=rJ _ hj
   have hon:=hd L[i] (by simp[hi]) e he hb
   rcases hj with rfl | ⟨m',hm',hj⟩
   ·exact hon
   ·have hlt:e.on<i:=by
     rcases Nat.lt_or_ge e.on pre.length with h | h
     ·omega
     ·rw[List.getElem?_eq_none h] at hm'; cases hm'
    rw[h2 e.on hlt] at hm'
    exact ih e.on hlt m' hm' (fun o ho e' he' hb'=>hS e.on o ho hon e' he' hb') (by omega) j hj
end
theorem Es {P:Program} {es:List Nat} : ∀ (os:List Oper) (ms:List Nat) (i0 j:Nat) (r:Row),(mG P es os ms i0)[j]?=some r →
  ∃ o m,os[j]?=some o∧ms[j]?=some m∧r = { i:=i0 + j,o,m,lev:=jo m es 0 0,kd:=kindOf P o }
 | [],_,_,_,_,h=>by simp[mG] at h
 | _ :: _,[],_,_,_,h=>by simp[mG] at h
 | o :: os,m :: ms,i0,0,r,h=>by
   simp only[mG,List.getElem?_cons_zero,Option.some.injEq] at h
   exact⟨o,m,rfl,rfl,by rw[← h]; rfl⟩
 | o :: os,m :: ms,i0,j + 1,r,h=>by
   simp only[mG,List.getElem?_cons_succ] at h
   obtain⟨o',m',a,b,c⟩:=Es os ms (i0 + 1) j r h
   exact⟨o',m',by simpa using a,by simpa using b,by rw[c]; congr 1; omega⟩
theorem Gh {P:Program} {es:List Nat} : ∀ (os:List Oper) (ms:List Nat) (i0 j:Nat) (o:Oper) (m:Nat),os[j]?=some o→ms[j]?=some m →
  (mG P es os ms i0)[j]?=some { i:=i0 + j,o,m,lev:=jo m es 0 0,kd:=kindOf P o }
 | [],_,_,_,_,_,h,_=>by simp at h
 | _ :: _,[],_,_,_,_,_,h=>by simp at h
 | o :: os,m :: ms,i0,0,o',m',h,h'=>by
   simp at h h'; subst h; subst h'; rfl
 | o :: os,m :: ms,i0,j + 1,o',m',h,h'=>by
   simp only[mG,List.getElem?_cons_succ]
   rw[Gh os ms (i0 + 1) j o' m' (by simpa using h) (by simpa using h')]
   congr 2; omega
theorem xE:∀ (L:List Oper) (acc:List Nat),(iD L acc).length=acc.length + L.length
 | [],acc=>by simp[iD]
 | x :: L,acc=>by simp only[iD,xE L,List.length_append,List.length_cons,List.length_nil]; omega
theorem lZ {P:Program} : ∀ (L:List Oper) (i0 x:Nat),x∈qI P L i0↔∃ j o,L[j]?=some o∧x=i0 + j∧gX (kindOf P o)=true
 | [],i0,x=>by simp[qI]
 | o :: L,i0,x=>by
   have ih:=lZ (P:=P) L (i0 + 1) x
   simp only[qI]
   split
   ·rename_i hk
    rw[List.mem_cons,ih]
    constructor
    ·rintro(rfl | ⟨j,o',a,b,c⟩)
     ·exact⟨0,o,rfl,rfl,hk⟩
     ·exact⟨j + 1,o',by simpa using a,by omega,c⟩
    ·rintro⟨j,o',a,b,c⟩
     cases j with
     | zero=>exact .inl (by omega)
     | succ j=>exact .inr ⟨j,o',by simpa using a,by omega,c⟩
   ·rename_i hk
    rw[ih]
    constructor
    ·rintro⟨j,o',a,b,c⟩
     exact⟨j + 1,o',by simpa using a,by omega,c⟩
    ·rintro⟨j,o',a,b,c⟩
     cases j with
     | zero=>simp at a; subst a; rw[hk] at c; cases c
     | succ j=>exact⟨j,o',by simpa using a,by omega,c⟩
theorem IW:∀ (L:List Oper) (i0:Nat) (t0:Tree Nat) (t j:Nat),(O4 L i0 t0).get t=some j→(∃ q o,L[q]?=some o∧j=i0 + q∧o.dst=some t)∨t0.get t=some j
 | [],_,_,_,_,h=>.inr h
 | o :: L,i0,t0,t,j,h=>by
   simp only[O4] at h
   rcases IW L (i0 + 1) _ t j h with⟨q,o',a,b,c⟩ | h
   ·exact .inl ⟨q + 1,o',by simpa using a,by omega,c⟩
   ·cases hd:o.dst with
    | none=>rw[hd] at h; exact .inr h
    | some d =>
      rw[hd] at h
      simp only[Tree.aT] at h
      split at h
      ·rename_i e
       cases h
       exact .inl ⟨0,o,rfl,rfl,by rw[hd,e]⟩
      ·exact .inr h
theorem Cj:∀ (L:List Oper) (i0:Nat),Dv L i0=true→∀ j o,L[j]?=some o→∀ e∈o.after.toList,Region.binds .any e=true→e.on<i0 + j
 | [],_,_,_,_,h=>by simp at h
 | x :: L,i0,h,j,o,ho=>by
   simp only[Dv,Bool.and_eq_true,List.all_eq_true] at h
   cases j with
   | zero =>
     simp at ho; subst ho
     intro e he hb
     have:=h.1 e he
     rw[hb] at this
     simp only[Bool.not_true,Bool.false_or] at this
     have:=aP this
     omega
   | succ j =>
     intro e he hb
     have:=Cj L (i0 + 1) h.2 j o (by simpa using ho) e he hb
     omega
theorem Bf {ms:List Nat} : ∀ (es done:List Nat),Du ms done es=true→∀ l1 x l2,es=l1++x :: l2→∀ y,y∈done∨y∈l1→Nat.testBit ((ms[x]?).getD 0) y=true
 | [],_,_,l1,x,l2,h=>by simp at h
 | z :: es,done,hc,l1,x,l2,he=>by
   simp only[Du,Bool.and_eq_true,List.all_eq_true] at hc
   intro y hy
   cases l1 with
   | nil =>
     simp at he
     obtain⟨rfl,_⟩:=he
     rcases hy with hy | hy
     ·have:=hc.1 y hy; rwa [bH] at this
     ·simp at hy
   | cons z' l1 =>
     simp at he
     obtain⟨rfl,he⟩:=he
     refine Bf es (z :: done) hc.2 l1 x l2 he y ?_
     rcases hy with hy | hy
     ·exact .inl (.tail _ hy)
     ·rcases List.mem_cons.1 hy with e | hy
      ·exact .inl (by rw[e]; exact .head _)
      ·exact .inr hy
theorem rY {m:Nat} : ∀ (es:List Nat) (r jB:Nat),jo m es r jB=jB∨∃ q x,es[q]?=some x∧Nat.testBit m x=true∧jo m es r jB=r + q + 1
 | [],_,_=>.inl rfl
 | x :: es,r,jB=>by
   simp only[jo]
   split
   ·rename_i hb
    rcases rY (m:=m) es (r + 1) (r + 1) with h | ⟨q,y,a,b,c⟩
    ·exact .inr ⟨0,x,rfl,hb,h⟩
    ·exact .inr ⟨q + 1,y,by simpa using a,b,by rw[c]; omega⟩
   ·rcases rY (m:=m) es (r + 1) jB with h | ⟨q,y,a,b,c⟩
    ·exact .inl h
    ·exact .inr ⟨q + 1,y,by simpa using a,b,by rw[c]; omega⟩
theorem wD {s:RS} : ∀ (rows:List Row) (seen:List Nat),CB s rows seen=true →
  (∀ (j:Nat) (r:Row) (b:Nat),rows[j]?=some r→s.bf.get r.i=some b→b ∉ seen) ∧
  ∀ (j1 j2:Nat) (r1 r2:Row) (b:Nat),rows[j1]?=some r1→rows[j2]?=some r2→s.bf.get r1.i=some b→s.bf.get r2.i=some b→j1=j2
 | [],_,_=>⟨fun j r b h=>by simp at h,fun j1 j2 r1 r2 b h=>by simp at h⟩
 | r :: rows,seen,h=>by
   simp only[CB] at h
   split at h
   ·rename_i hn
    obtain⟨h1,h2⟩:=wD rows seen h
    refine⟨fun j r' b hj hb=>?_,fun j1 j2 r1 r2 b a1 a2 b1 b2=>?_⟩
    ·cases j with
     | zero=>simp at hj; subst hj; rw[hn] at hb; cases hb
     | succ j=>exact h1 j r' b (by simpa using hj) hb
    ·cases j1 with
     | zero=>simp at a1; subst a1; rw[hn] at b1; cases b1
     | succ j1=>cases j2 with
       | zero=>simp at a2; subst a2; rw[hn] at b2; cases b2
       | succ j2=>rw[h2 j1 j2 r1 r2 b (by simpa using a1) (by simpa using a2) b1 b2]
   ·rename_i b0 hb0
    simp only[Bool.and_eq_true,Bool.not_eq_true',List.any_eq_false] at h
    obtain⟨h1,h2⟩:=wD rows (b0 :: seen) h.2
    have hns:b0 ∉ seen:=fun hm=>by
     have:=h.1 b0 hm
     rw[show Nat.beq b0 b0=true from by simp] at this
     exact this rfl
    refine⟨fun j r' b hj hb=>?_,fun j1 j2 r1 r2 b a1 a2 b1 b2=>?_⟩
    ·cases j with
     | zero=>simp at hj; subst hj; rw[hb0] at hb; cases hb; exact hns
     | succ j=>exact fun hm=>h1 j r' b (by simpa using hj) hb (.tail _ hm)
    ·cases j1 with
     | zero =>
       simp at a1; subst a1
       rw[hb0] at b1; cases b1
       cases j2 with
       | zero=>rfl
       | succ j2=>exact absurd (.head _) (h1 j2 r2 b0 (by simpa using a2) b2)
     | succ j1=>cases j2 with
       | zero =>
         simp at a2; subst a2
         rw[hb0] at b2; cases b2
         exact absurd (.head _) (h1 j1 r1 b0 (by simpa using a1) b1)
       | succ j2=>rw[h2 j1 j2 r1 r2 b (by simpa using a1) (by simpa using a2) b1 b2]
structure jG (P:Program) (nt:Nat) (ops:Array Oper) (ri:RI) : Prop where
 ms:ri.ms=iD ops.toList []
 es:ri.es=qI P ops.toList 0
 rows:ri.rows=mG P ri.es ops.toList ri.ms 0
 rR:∀ (j:Nat) (o:Oper),ops.toList[j]?=some o→∀ e∈o.after.toList,Region.binds .any e=true→e.on<j
 chain:∀ l1 x l2,ri.es=l1++x :: l2→∀ y,y∈l1→Nat.testBit ((ri.ms[x]?).getD 0) y=true
 dst:∀ (j:Nat) (r:Row),ri.rows[j]?=some r→∀ d,r.o.dst=some d→ri.wr.get d=some r.i∧d<nt
 wrs:∀ t j,ri.wr.get t=some j→∃ o,ops.toList[j]?=some o∧o.dst=some t
theorem pV {P:Program} {nt:Nat} {ops:Array Oper} {ri:RI} (h:oF P nt ops=some ri) : jG P nt ops ri:=by
 unfold oF at h
 simp only at h
 split at h <;> first | cases h | skip
 rename_i hc
 simp only[Bool.and_eq_true,List.all_eq_true] at hc
 obtain⟨⟨h1,h2⟩,h3⟩:=hc
 refine⟨rfl,rfl,rfl,fun j o ho e he hb=>?_,fun l1 x l2 he y hy=>?_,fun j r hr d hd=>?_,fun t j ht=>?_⟩
 ·have:=Cj _ _ h1 j o ho e he hb; omega
 ·exact Bf _ _ h2 l1 x l2 he y (.inr hy)
 ·have:=h3 r (List.mem_of_getElem? hr)
  rw[hd] at this
  simp only[Bool.and_eq_true] at this
  have h5:=aP this.2
  have h4:=this.1
  split at h4
  ·rename_i j' hj'; rw[hj',aW h4]; exact⟨rfl,h5⟩
  ·cases h4
 ·rcases IW _ _ _ _ _ ht with⟨q,o,a,b,c⟩ | h
  ·exact⟨o,by rw[b,Nat.zero_add]; exact a,c⟩
  ·simp[Tree.get] at h
section
variable {P:Program} {X:Ext} {base:Base} {nt:Nat} {ops:Array Oper} {ri:RI}
theorem jG.row (ht:jG P nt ops ri) {j:Nat} {r:Row} (h:ri.rows[j]?=some r) :
  r.i=j∧ops.toList[j]?=some r.o∧ri.ms[j]?=some r.m∧r.lev=jo r.m ri.es 0 0∧r.kd=kindOf P r.o:=by
 rw[ht.rows] at h
 obtain⟨o,m,a,b,rfl⟩:=Es _ _ _ _ _ h
 exact⟨by simp,a,b,rfl,rfl⟩
theorem jG.ex (ht:jG P nt ops ri) {j:Nat} {o:Oper} (h:ops.toList[j]?=some o) : ∃ r,ri.rows[j]?=some r∧r.o=o:=by
 have hl:ri.ms.length=ops.toList.length:=by rw[ht.ms,xE]; simp
 have hj:j<ri.ms.length:=by rw[hl]; exact(List.getElem?_eq_some_iff.1 h).1
 exact⟨_,by rw[ht.rows]; exact Gh _ _ _ _ _ ri.ms[j] h (by simp[hj]),rfl⟩
theorem jG.mH (ht:jG P nt ops ri) {j:Nat} {r:Row} (h:ri.rows[j]?=some r) : j∈ri.es↔gX r.kd=true:=by
 obtain⟨h1,h2,h3,h4,h5⟩:=ht.row h
 rw[ht.es,lZ,h5]
 constructor
 ·rintro⟨q,o,a,b,c⟩
  rw[Nat.zero_add] at b; subst b
  rw[h2] at a; cases a; exact c
 ·exact fun hk=>⟨j,r.o,h2,by simp,hk⟩
theorem jG.ahead (ht:jG P nt ops ri) {S:Nat→Prop} (hS:Closed ops.toList S) {j:Nat} {r:Row} (h:ri.rows[j]?=some r) (hr:∀ e∈r.o.after.toList,Region.binds .any e=true→S e.on) {q:Nat} (hq:Nat.testBit r.m q=true) : S q:=by
 obtain⟨h1,h2,h3,h4,h5⟩:=ht.row h
 exact MP hS j r.m (by rw[← ht.ms]; exact h3) (fun o ho=>by rw[h2] at ho; cases ho; exact hr) (List.getElem?_eq_some_iff.1 h2).1 q hq
theorem jG.xH (ht:jG P nt ops ri) {S:Nat→Prop} (hS:Closed ops.toList S) {j:Nat} (hj:S j) {o:Oper} (ho:ops.toList[j]?=some o) {q:Nat} (hq:Nat.testBit ((ri.ms[j]?).getD 0) q=true) : S q:=by
 obtain⟨r,hr,rfl⟩:=ht.ex ho
 obtain⟨h1,h2,h3,h4,h5⟩:=ht.row hr
 rw[h3] at hq
 exact ht.ahead hS hr (fun e he hb=>hS j _ h2 hj e he hb) hq
def Dn (ρ:Ren) (T0:Tree AV) (wr:Tree Nat) (vals:Tree AV) (S:Nat→Prop) (a:Act) : Prop :=
 ∀ t,(∀ j,wr.get t=some j→S j→af ρ ((vals.get j).getD .top) (a.tmps.getD t undef))∧((∀ j,wr.get t=some j→¬ S j)→af ρ ((T0.get t).getD .top) (a.tmps.getD t undef))
structure Inv (P:Program) (base:Base) (nt:Nat) (ops:Array Oper) (ri:RI) (T0:Tree AV) (n0:Nat) (ρ0:Ren) (w0:World) (k:Nat) (done rest:List Nat) (s:RS) (S:Nat→Prop) (ρ:Ren) (a:Act) (w:World) : Prop where
 es:ri.es=done++rest
 len:done.length=k
 closed:Closed ops.toList S
 dn:∀ x∈done,S x
 rs:∀ x∈rest,¬ S x
 lev:∀ (j:Nat) (r:Row),ri.rows[j]?=some r→gX r.kd=false→S j→r.lev≤k
 size:a.tmps.size=nt
 defers:a.defers=[]
 slot:Dn ρ T0 ri.wr s.vals S a
 jb:aX P base ρ s.A w
 step:Step base n0 ρ0 w0 ρ w
 next:n0≤s.A.next
 bid:∀ j b,s.bf.get j=some b→n0≤b∧b<s.A.next∧(¬ S j→ρ b=none)∧j<ops.size
theorem qK {T0:Tree AV} {wr:Tree Nat} {k:Nat} : ∀ (rows:List Row) (s s' : RS),uO P ops T0 wr k rows s=some s' →
  (∀ j,(∀ r∈rows,r.i=j→¬ (r.lev=k∧gX r.kd=false))→s'.vals.get j=s.vals.get j∧s'.bf.get j=s.bf.get j) ∧
  (∀ ρ w,aX P base ρ s.A w→aX P base ρ s'.A w)∧s.A.next≤s'.A.next∧(∀ j b,s'.bf.get j=some b→s.bf.get j=some b∨(s.A.next≤b∧b<s'.A.next∧∃ r∈rows,r.i=j))
 | [],s,s',h=>by
   simp only[uO] at h; cases h
   exact⟨fun _ _=>⟨rfl,rfl⟩,fun _ _ h=>h,Nat.le_refl _,fun _ _ h=>.inl h⟩
 | r :: rows,s,s',h=>by
   simp only[uO] at h
   split at h
   ·obtain⟨a,b,c,d⟩:=qK rows s s' h
    exact⟨fun j hj=>a j fun r' hr'=>hj r' (.tail _ hr'),b,c,fun j b' hb'=>(d j b' hb').imp id fun⟨x,y,r',z,u⟩=>⟨x,y,r',.tail _ z,u⟩⟩
   ·rename_i hk
    simp only[Bool.and_eq_true,Bool.not_eq_true'] at hk
    have qZ:=aW hk.1
    have key:∀ (v:AV),uO P ops T0 wr k rows { s with vals:=s.vals.set r.i v } = some s' →
      (∀ j,(∀ r'∈r :: rows,r'.i=j→¬ (r'.lev=k∧gX r'.kd=false))→s'.vals.get j=s.vals.get j∧s'.bf.get j=s.bf.get j) ∧
      (∀ ρ w,aX P base ρ s.A w→aX P base ρ s'.A w)∧s.A.next≤s'.A.next∧(∀ j b,s'.bf.get j=some b→s.bf.get j=some b∨(s.A.next≤b∧b<s'.A.next∧∃ r'∈r :: rows,r'.i=j)):=by
     intro v h
     obtain⟨a,b,c,d⟩:=qK rows _ s' h
     refine⟨fun j hj=>?_,b,c,fun j b' hb'=>(d j b' hb').imp id fun⟨x,y,r',z,u⟩=>⟨x,y,r',.tail _ z,u⟩⟩
     obtain⟨e1,e2⟩:=a j fun r' hr'=>hj r' (.tail _ hr')
     refine⟨?_,e2⟩
     rw[e1]
     simp only[Tree.aT]
     rw[if_neg]
     intro e
     exact hj r (.head _) e.symm ⟨qZ,hk.2⟩
    split at h <;> first | cases h | skip
    ·exact key _ h
    ·split at h <;> first | cases h | skip
     ·split at h <;> first | cases h | skip
      exact key _ h
     ·split at h <;> first | cases h | skip
      exact key _ h
     ·split at h <;> first | cases h | skip
      rename_i x mk hx
      obtain⟨a,b,c,d⟩:=qK rows _ s' h
      simp only[AW.push] at c d
      refine⟨fun j hj=>?_,fun ρ w hw=>b ρ w (qo hw x),by omega,fun j b' hb'=>?_⟩
      ·obtain⟨e1,e2⟩:=a j fun r' hr'=>hj r' (.tail _ hr')
       have hne:j≠r.i:=fun e=>hj r (.head _) e.symm ⟨qZ,hk.2⟩
       simp only[Tree.aT,if_neg hne] at e1 e2
       exact⟨e1,e2⟩
      ·rcases d j b' hb' with h | h
       ·rw[Tree.aT] at h
        split at h
        ·rename_i e; cases h; exact .inr ⟨Nat.le_refl _,by omega,r,.head _,e.symm⟩
        ·exact .inl h
       ·obtain⟨x1,x2,r',z,u⟩:=h
        exact .inr ⟨by omega,x2,r',.tail _ z,u⟩
variable {T0:Tree AV} {n0:Nat} {ρ0:Ren} {w0:World} {k:Nat} {done rest:List Nat} {s:RS} {S:Nat→Prop} {ρ:Ren} {a:Act} {w:World}
theorem Lu (ht:jG P nt ops ri) (hI:Inv P base nt ops ri T0 n0 ρ0 w0 k done rest s S ρ a w) {i:Nat} {r:Row} (hr:ri.rows[i]?=some r) (hns:¬ S i) (hd:∀ e∈r.o.after.toList,Region.binds .any e=true→S e.on)
  (hok:nJ ri r=true) : ∀ x∈r.o.op.operands,af ρ (fE T0 ri.wr s.vals r.m x) (a.eval x):=by
 intro x hx
 have hx' : Cg ri r x=true:=by
  unfold nJ at hok
  exact List.all_eq_true.1 hok x (by simpa using hx)
 cases x with
 | tmp t =>
   obtain⟨h1,h2⟩:=hI.slot t
   simp only[fE,Act.eval]
   simp only[Cg] at hx'
   cases hw:ri.wr.get t with
   | none =>
     simp only
     exact h2 fun j hj=>by rw[hw] at hj; cases hj
   | some j =>
     rw[hw] at hx'
     simp only
     cases hb:Nat.testBit r.m j with
     | true =>
       simp only
       exact h1 j hw (ht.ahead hI.closed hr hd hb)
     | false =>
       simp only
       refine h2 fun j' hj'=>?_
       rw[hw] at hj'; cases hj'
       simp only[hb,Bool.false_or,Bool.or_eq_true] at hx'
       obtain⟨e1,_⟩:=ht.row hr
       rcases hx' with hx' | hx'
       ·rw[aW hx',e1]; exact hns
       ·intro hS
        rw[bH,e1] at hx'
        obtain⟨o,ho,_⟩:=ht.wrs t j hw
        exact hns (ht.xH hI.closed hS ho hx')
 | const v =>
   simp only[fE,iK,Act.eval]
   cases hv:gV v with
   | none=>exact .top _
   | some u=>exact fK hv
 | global g=>exact .top _
 | func f=>exact .fn _ _ _ _ _ rfl .nil .nil
theorem qm (ht:jG P nt ops ri) (hI:Inv P base nt ops ri T0 n0 ρ0 w0 k done rest s S ρ a w) {i:Nat} {r:Row} (hr:ri.rows[i]?=some r) (hd:∀ e∈r.o.after.toList,Region.binds .any e=true→S e.on) {b:Bool}
  (hw:xW ops ri.wr s.vals r=some b) : Region.wanted r.o (yielded ops a.tmps)=b:=by
 unfold xW at hw
 unfold Region.wanted
 split at hw
 ·rename_i hg; simp only[hg]; cases hw; rfl
 ·rename_i j want hg
  simp only[hg]
  split at hw <;> first | cases hw | skip
  rename_i d hdst
  split at hw <;> first | cases hw | skip
  rename_i j' hb hwr
  have hv:=(hI.slot d).1 j' hwr
  split at hw <;> first | cases hw | skip
  ·rename_i t he hval
   have he:=aW he
   subst he
   have hv:=hv (ht.ahead hI.closed hr hd hb)
   rw[hval] at hv
   have hc:=(aF hv).1
   have:a.tmps[d]?=some (.bool t):=by
    rw[Array.getD_eq_getD_getElem?] at hc
    cases hx:a.tmps[d]? with
    | none=>rw[hx] at hc; simp[undef] at hc
    | some y=>rw[hx] at hc; simp at hc; rw[hc]
   unfold yielded
   rw[hdst]
   simp[this]
  ·rename_i he hval
   have he:=aW he
   subst he
   have hv:=hv (ht.ahead hI.closed hr hd hb)
   rw[hval] at hv
   obtain⟨vs,hc,hrl⟩:=xR hv
   cases hrl
   have hn:∀ t,a.tmps[d]?≠some (.bool t):=by
    intro t hx
    rw[Array.getD_eq_getD_getElem?,hx] at hc
    simp at hc
   unfold yielded
   rw[hdst]
   simp only[Option.bind_some]
   first
    | rfl
    | (split
       ·rename_i hx; exact absurd hx (hn _)
       ·rfl)
theorem Am (ht:jG P nt ops ri) {vals:Tree AV} (hs:Dn ρ T0 ri.wr vals S a) (hsz:a.tmps.size=nt) {i:Nat} {r:Row} (hr:ri.rows[i]?=some r) {v:AV} {v' : Value} (hv:af ρ v v') (hvi:vals.get i=some v) {S' : Nat→Prop} (hS' : ∀ j,S' j↔S j∨j=i) :
  Dn ρ T0 ri.wr vals S' (a.put r.o.dst v'):=by
 obtain⟨e1,e2,_⟩:=ht.row hr
 intro t
 have hput:(a.put r.o.dst v').tmps.getD t undef=if r.o.dst=some t then v' else a.tmps.getD t undef:=by
  cases hd:r.o.dst with
  | none=>simp[Act.put]
  | some d =>
    have:=(ht.dst i r hr d hd).2
    simp only[Act.put]
    rw[KO _ _ _ _ (by rw[hsz]; exact this)]
    by_cases e:t=d
    ·subst e; simp
    ·rw[if_neg e,if_neg (by simpa using fun h=>e h.symm)]
 rw[hput]
 by_cases hd:r.o.dst=some t
 ·rw[if_pos hd]
  have hw:=(ht.dst i r hr t hd).1
  rw[e1] at hw
  refine⟨fun j hj _=>?_,fun h=>absurd ((hS' i).2 (.inr rfl)) (h i hw)⟩
  rw[hw] at hj; cases hj
  rw[hvi]; exact hv
 ·rw[if_neg hd]
  obtain⟨h1,h2⟩:=hs t
  have hne:∀ j,ri.wr.get t=some j→j≠i:=fun j hj e=>by
   subst e
   obtain⟨o,ho,hdo⟩:=ht.wrs t j hj
   rw[e2] at ho; cases ho
   exact hd hdo
  refine⟨fun j hj hS=>h1 j hj (((hS' j).1 hS).resolve_right (hne j hj)),fun h=>h2 fun j hj hS=>h j hj ((hS' j).2 (.inl hS))⟩
theorem Au {vals:Tree AV} (t:Nat) (v:Value) : ∀ (rows:List Row) (T:Tree AV),(∀ r∈rows,r.o.dst=some t→af ρ ((vals.get r.i).getD .top) v)→((∃ r∈rows,r.o.dst=some t)∨af ρ ((T.get t).getD .top) v) →
  af ρ (((vT T vals rows).get t).getD .top) v
 | [],T,_,h=>by
   rcases h with⟨r,hr,_⟩ | h
   ·cases hr
   ·exact h
 | r :: rows,T,h1,h2=>by
   simp only[vT]
   cases hd:r.o.dst with
   | none =>
     simp only
     refine Au t v rows T (fun r' hr'=>h1 r' (.tail _ hr')) ?_
     rcases h2 with⟨r',hr',hd'⟩ | h2
     ·rcases List.mem_cons.1 hr' with e | hr'
      ·subst e; rw[hd] at hd'; cases hd'
      ·exact .inl ⟨r',hr',hd'⟩
     ·exact .inr h2
   | some d =>
     simp only
     refine Au t v rows _ (fun r' hr'=>h1 r' (.tail _ hr')) ?_
     by_cases e:t=d
     ·subst e
      exact .inr (by rw[Tree.aT,if_pos rfl]; exact h1 r (.head _) hd)
     ·rcases h2 with⟨r',hr',hd'⟩ | h2
      ·rcases List.mem_cons.1 hr' with e' | hr'
       ·subst e'; rw[hd] at hd'; cases hd'; exact absurd rfl e
       ·exact .inl ⟨r',hr',hd'⟩
      ·exact .inr (by rw[Tree.aT,if_neg e]; exact h2)
end
section
variable {P:Program} {X:Ext} {base:Base} {nt:Nat} {ops:Array Oper} {ri:RI} {T0:Tree AV} {n0:Nat} {ρ0:Ren} {w0:World}
def df (listed:Array Bool) (i:Nat) : Prop:=listed.getD i false=true
theorem nR {listed:Array Bool} {i:Nat} (hi:i<listed.size) (j:Nat) : df (listed.setIfInBounds i true) j↔df listed j∨j=i:=by
 unfold df
 simp only[Array.getD_eq_getD_getElem?,Array.getElem?_setIfInBounds]
 by_cases e:i=j
 ·subst e; simp[hi]
 ·simp[e]; intro h; exact absurd h.symm e
theorem count_set {listed:Array Bool} {i:Nat} (hi:i<listed.size) (h:¬ df listed i) {fuel:Nat} (hc:listed.toList.count false≤fuel + 1) : (listed.setIfInBounds i true).toList.count false≤fuel:=by
 have hf:listed.toList[i]?=some false:=by
  unfold df at h
  rw[Array.getElem?_toList]
  simp only[Array.getD_eq_getD_getElem?] at h
  rw[Array.getElem?_eq_getElem hi] at h ⊢
  simpa using h
 rw[Array.toList_setIfInBounds]
 obtain⟨hl,hv⟩:=List.getElem?_eq_some_iff.1 hf
 rw[List.count_set hl,hv]
 have:0<listed.toList.count false:=List.count_pos_iff.2 (hv▸List.getElem_mem hl)
 simp only[beq_self_eq_true,if_true,show((true:Bool) == false)=false from rfl,Bool.false_eq_true,if_false]
 omega
theorem FM {listed:Array Bool} (h:listed.toList.count false=0) {i:Nat} (hi:i<listed.size) : df listed i:=by
 unfold df
 have hm:listed[i]∈listed.toList:=by simp
 have:false ∉ listed.toList:=List.count_eq_zero.1 h
 simp only[Array.getD_eq_getD_getElem?,Array.getElem?_eq_getElem hi]
 cases hb:listed[i] with
 | true=>rfl
 | false=>rw[hb] at hm; exact absurd hm this
theorem uY {listed:Array Bool} (hsz:listed.size=ops.size) {i:Nat} (h:i∈Region.ready .any ops listed) :
  i<ops.size∧¬ df listed i∧∃ o,ops[i]?=some o∧∀ e∈o.after.toList,Region.binds .any e=true→df listed e.on:=by
 unfold Region.ready at h
 obtain⟨h1,h2⟩:=List.mem_filter.1 h
 have hi:i<ops.size:=by simpa using h1
 simp only[Bool.and_eq_true,Bool.not_eq_true'] at h2
 obtain⟨h3,h4⟩:=h2
 refine⟨hi, ?_,ops[i],by simp[hi], ?_⟩
 ·unfold df
  simp only[Array.getD_eq_getD_getElem?,Array.getElem?_eq_getElem (show i<listed.size by omega)] at h3 ⊢
  simp at h3; simp[h3]
 ·intro e he hb
  simp only[hi,getElem?_pos,Option.map_some,Option.getD_some,Array.all_eq_true'] at h4
  have:=h4 e (by simpa using he)
  rw[hb] at this
  unfold df
  simpa using this
theorem mem_ready {listed:Array Bool} (hsz:listed.size=ops.size) {i:Nat} (hi:i<ops.size) (hn:¬ df listed i) {o:Oper} (ho:ops[i]?=some o) (he:∀ e∈o.after.toList,Region.binds .any e=true→df listed e.on) :
  i∈Region.ready .any ops listed:=by
 unfold Region.ready
 refine List.mem_filter.2 ⟨by simpa using hi, ?_⟩
 simp only[Bool.and_eq_true,Bool.not_eq_true',ho,Option.map_some,Option.getD_some,Array.all_eq_true']
 constructor
 ·unfold df at hn
  simp only[Array.getD_eq_getD_getElem?,Array.getElem?_eq_getElem (show i<listed.size by omega)] at hn ⊢
  simpa using hn
 ·intro e hm
  cases hb:Region.binds .any e with
  | false=>rfl
  | true =>
    have:=he e (by simpa using hm) hb
    unfold df at this
    simpa using this
theorem AB (ht:jG P nt ops ri) {listed:Array Bool} (hsz:listed.size=ops.size) (h:Region.ready .any ops listed=[]) : ∀ i,i<ops.size→df listed i:=by
 intro i
 induction i using Nat.strongRecOn with
 | _ i ih =>
   intro hi
   by_cases hl:df listed i
   ·exact hl
   ·have hm:=mem_ready hsz hi hl (o:=ops[i]) (by simp[hi]) fun e he hb=>ih e.on (ht.rR i ops[i] (by simp[hi]) e he hb) (by have:=ht.rR i ops[i] (by simp[hi]) e he hb; omega)
    rw[h] at hm; cases hm
def Qb (P:Program) (X:Ext) (call:eB) (ops:Array Oper) (T0:Tree AV) (ri:RI) (k:Nat) (s:RS) (sF:RS) : List Nat→Prop
 | []=>s=sF
 | x :: rest=>∃ r s2,ri.rows[x]?=some r∧UD P X call ops T0 ri r s=some s2∧tL P X call ops T0 ri (k + 1) rest s2=some sF
theorem El {call:eB} {k:Nat} {es:List Nat} {s sF:RS} (h:tL P X call ops T0 ri k es s=some sF) :
  ∃ s1,uO P ops T0 ri.wr k ri.rows s=some s1∧xG P ops T0 ri k s1=true∧Qb P X call ops T0 ri k s1 sF es:=by
 cases es with
 | nil =>
   rw[tL] at h
   dsimp only at h
   split at h <;> first | (cases h; done) | skip
   rename_i s1 h1
   split at h <;> first | (cases h; done) | skip
   rename_i h2
   cases h
   exact⟨_,h1,h2,rfl⟩
 | cons x rest =>
   rw[tL] at h
   dsimp only at h
   split at h <;> first | (cases h; done) | skip
   rename_i s1 h1
   split at h <;> first | (cases h; done) | skip
   rename_i h2
   split at h <;> first | (cases h; done) | skip
   rename_i r hr
   split at h <;> first | (cases h; done) | skip
   rename_i s2 hs2
   exact⟨_,h1,h2,r,s2,by rw[← bH]; exact hr,hs2,h⟩
variable {k:Nat} {done rest:List Nat} {s sF:RS} {ρ:Ren} {a:Act} {w:World}
theorem VH (ht:jG P nt ops ri) {listed:Array Bool} (hsz:listed.size=ops.size) (hI:Inv P base nt ops ri T0 n0 ρ0 w0 k done rest s (df listed) ρ a w) {i:Nat} {r:Row} (hi:i<ops.size) (hr:ri.rows[i]?=some r)
  (hd:∀ e∈r.o.after.toList,Region.binds .any e=true→df listed e.on) (hk:gX r.kd=false) (qZ:r.lev≤k) {v:AV} {v' : Value} {ρ' : Ren} {w' : World} (hvi:s.vals.get i=some v) (hv:af ρ' v v') (hle:ρ.le ρ')
  (hw:aX P base ρ' s.A w') (hst:Step base n0 ρ w ρ' w') (UG:∀ j b,s.bf.get j=some b→¬ df (listed.setIfInBounds i true) j→ρ' b=none) :
  Inv P base nt ops ri T0 n0 ρ0 w0 k done rest s (df (listed.setIfInBounds i true)) ρ' (a.put r.o.dst v') w':=by
 have hS:∀ j,df (listed.setIfInBounds i true) j↔df listed j∨j=i:=nR (by omega)
 obtain⟨e1,e2,_⟩:=ht.row hr
 refine⟨hI.es,hI.len, ?_,fun x hx=>(hS x).2 (.inl (hI.dn x hx)), ?_, ?_, ?_, ?_, ?_,hw,hI.step.trans hst (Nat.le_refl _),hI.next,fun j b hb=>⟨(hI.bid j b hb).1,(hI.bid j b hb).2.1,UG j b hb,(hI.bid j b hb).2.2.2⟩⟩
 ·intro j o ho hj e he hb
  rcases(hS j).1 hj with hj | rfl
  ·exact(hS _).2 (.inl (hI.closed j o ho hj e he hb))
  ·rw[e2] at ho; cases ho
   exact(hS _).2 (.inl (hd e he hb))
 ·intro x hx hl
  rcases(hS x).1 hl with hl | rfl
  ·exact hI.rs x hx hl
  ·have:x∈ri.es:=by rw[hI.es]; exact List.mem_append_right _ hx
   rw[ht.mH hr,hk] at this
   cases this
 ·intro j r' hr' hk' hj
  rcases(hS j).1 hj with hj | rfl
  ·exact hI.lev j r' hr' hk' hj
  ·rw[hr] at hr'; cases hr'; exact qZ
 ·cases hdst:r.o.dst <;> simp[Act.put,hI.size]
 ·cases hdst:r.o.dst <;> simp[Act.put,hI.defers]
 ·exact Am ht (fun t=>⟨fun j h1 h2=>((hI.slot t).1 j h1 h2).mono hle,fun h=>((hI.slot t).2 h).mono hle⟩) hI.size hr hv hvi hS
theorem Vu (ht:jG P nt ops ri) {call:eB} {listed:Array Bool} (hsz:listed.size=ops.size) {i:Nat} {rest' : List Nat} (hI:Inv P base nt ops ri T0 n0 ρ0 w0 k done (i :: rest') s (df listed) ρ a w) {r:Row} (hi:i<ops.size) (hr:ri.rows[i]?=some r)
  (hd:∀ e∈r.o.after.toList,Region.binds .any e=true→df listed e.on) (hnd:i ∉ rest') {v:AV} {v' : Value} {ρ' : Ren} {w' : World} {A' : AW} (hv:af ρ' v v')
  (hw:aX P base ρ' A' w') (hst:Step base s.A.next ρ w ρ' w') (hn:s.A.next≤A'.next) (hcont:tL P X call ops T0 ri (k + 1) rest' { s with vals:=s.vals.set i v,A:=A' } = some sF) :
  ∃ s3,Inv P base nt ops ri T0 n0 ρ0 w0 (k + 1) (done++[i]) rest' s3 (df (listed.setIfInBounds i true)) ρ' (a.put r.o.dst v') w'∧xG P ops T0 ri (k + 1) s3=true∧Qb P X call ops T0 ri (k + 1) s3 sF rest':=by
 obtain⟨s3,h1,h2,h3⟩:=El hcont
 obtain⟨f1,f2,f3,f4⟩:=qK (base:=base) _ _ _ h1
 have hS:∀ j,df (listed.setIfInBounds i true) j↔df listed j∨j=i:=nR (by omega)
 obtain⟨e1,e2,_⟩:=ht.row hr
 have hmem:i∈ri.es:=by rw[hI.es]; simp
 have hke:=(ht.mH hr).1 hmem
 have hle:=hst.le hI.jb
 have hkeep:∀ j,df listed j∨j=i→s3.vals.get j=(s.vals.set i v).get j:=by
  intro j hj
  refine(f1 j fun r' hr' he=>?_).1
  rintro⟨hl,hk'⟩
  obtain⟨q,hq⟩:=List.mem_iff_getElem?.1 hr'
  obtain⟨g1,_⟩:=ht.row hq
  have hqj:q=j:=by omega
  subst hqj
  rcases hj with hj | rfl
  ·have:=hI.lev q r' hq hk' hj; omega
  ·rw[hr] at hq; cases hq; rw[hke] at hk'; cases hk'
 have hvi:s3.vals.get i=some v:=by rw[hkeep i (.inr rfl),Tree.aT,if_pos rfl]
 refine⟨s3,⟨by rw[hI.es]; simp,by simp[hI.len], ?_, ?_, ?_, ?_, ?_, ?_, ?_,f2 _ _ hw,hI.step.trans hst hI.next,Nat.le_trans hI.next (Nat.le_trans hn f3), ?_⟩,h2,h3⟩
 ·intro j o ho hj e he hb
  rcases(hS j).1 hj with hj | rfl
  ·exact(hS _).2 (.inl (hI.closed j o ho hj e he hb))
  ·rw[e2] at ho; cases ho
   exact(hS _).2 (.inl (hd e he hb))
 ·intro x hx
  rcases List.mem_append.1 hx with hx | hx
  ·exact(hS x).2 (.inl (hI.dn x hx))
  ·simp at hx; subst hx; exact(hS x).2 (.inr rfl)
 ·intro x hx hl
  rcases(hS x).1 hl with hl | rfl
  ·exact hI.rs x (.tail _ hx) hl
  ·exact hnd hx
 ·intro j r' hr' hk' hj
  rcases(hS j).1 hj with hj | rfl
  ·have:=hI.lev j r' hr' hk' hj; omega
  ·rw[hr] at hr'; cases hr'; rw[hke] at hk'; cases hk'
 ·cases hdst:r.o.dst <;> simp[Act.put,hI.size]
 ·cases hdst:r.o.dst <;> simp[Act.put,hI.defers]
 ·refine Am ht (v:=v) (S:=df listed) (fun t=>⟨fun j h1 h2=>?_,fun h=>((hI.slot t).2 h).mono hle⟩) hI.size hr hv hvi hS
  rw[hkeep j (.inl h2),Tree.aT]
  split
  ·rename_i e
   subst e
   exact absurd h2 (hI.rs j (.head _))
  ·exact((hI.slot t).1 j h1 h2).mono hle
 ·intro j b hb
  rcases f4 j b hb with h | ⟨h,h',r',hr',hj'⟩
  ·obtain⟨b1,b2,b3,b4⟩:=hI.bid j b h
   refine⟨b1,by simp only at f3; omega,fun hj=>?_,b4⟩
   rw[hst.ext b b2]
   exact b3 fun hl=>hj ((hS j).2 (.inl hl))
  ·refine⟨?_,h',fun _=>?_, ?_⟩
   ·have:=hI.next; simp only at h; omega
   ·exact hw.fresh h
   ·obtain⟨q,hq⟩:=List.mem_iff_getElem?.1 hr'
    obtain⟨g1,g2,_⟩:=ht.row hq
    have:=(List.getElem?_eq_some_iff.1 g2).1
    rw[Array.length_toList] at this
    omega
theorem Uo (hng:Ce P X) {call:eB} (hc:iH P base call) (ht:jG P nt ops ri) (hb0:base≤w0.heap.size) {Q:Exit→Act→World→Prop}
  (hQ:∀ ρ' a' w',Step base n0 ρ0 w0 ρ' w'→bR ρ' nt (vT T0 sF.vals ri.rows) a'→aX P base ρ' sF.A w'→n0≤sF.A.next→Q .normal a' w') :
  ∀ (fuel:Nat) (listed:Array Bool) (k:Nat) (done rest:List Nat) (s:RS) (ρ:Ren) (a:Act) (w:World),listed.size=ops.size→listed.toList.count false≤fuel →
    Inv P base nt ops ri T0 n0 ρ0 w0 k done rest s (df listed) ρ a w→xG P ops T0 ri k s=true→Qb P X call ops T0 ri k s sF rest→wpAny P .any ops Q fuel listed a w:=by
 have fin:∀ (listed:Array Bool) (k:Nat) (done rest:List Nat) (s:RS) (ρ:Ren) (a:Act) (w:World),listed.size=ops.size→(∀ i,i<ops.size→df listed i) →
   Inv P base nt ops ri T0 n0 ρ0 w0 k done rest s (df listed) ρ a w→Qb P X call ops T0 ri k s sF rest→Q .normal a w:=by
  intro listed k done rest s ρ a w hsz hall hI hcont
  have hrest:rest=[]:=by
   cases rest with
   | nil=>rfl
   | cons x rest =>
     have hx:x∈ri.es:=by rw[hI.es]; simp
     rw[ht.es,lZ] at hx
     obtain⟨j,o,hj,rfl,_⟩:=hx
     have:=(List.getElem?_eq_some_iff.1 hj).1
     exact absurd (hall (0 + j) (by simpa using this)) (hI.rs _ (.head _))
  subst hrest
  have hcont:s=sF:=hcont
  subst hcont
  refine hQ ρ a w hI.step ⟨hI.size,fun t=>?_,hI.defers⟩ hI.jb hI.next
  obtain⟨g1,g2⟩:=hI.slot t
  refine Au t _ ri.rows T0 (fun r hr hd=>?_) ?_
  ·obtain⟨q,hq⟩:=List.mem_iff_getElem?.1 hr
   obtain⟨e1,e2,_⟩:=ht.row hq
   have hql:=(List.getElem?_eq_some_iff.1 e2).1
   have:=g1 r.i (ht.dst q r hq t hd).1 (by rw[e1]; exact hall q (by simpa using hql))
   exact this
  ·by_cases hex:∃ j,ri.wr.get t=some j
   ·obtain⟨j,hj⟩:=hex
    obtain⟨o,ho,hdo⟩:=ht.wrs t j hj
    obtain⟨r,hr,rfl⟩:=ht.ex ho
    exact .inl ⟨r,List.mem_of_getElem? hr,hdo⟩
   ·exact .inr (g2 fun j hj=>absurd ⟨j,hj⟩ hex)
 intro fuel
 induction fuel with
 | zero =>
   intro listed k done rest s ρ a w hsz hcnt hI oM hcont
   have hall:∀ i,i<ops.size→df listed i:=fun i hi=>FM (by omega) (by omega)
   refine⟨?_,fin listed k done rest s ρ a w hsz hall hI hcont⟩
   rw[List.eq_nil_iff_forall_not_mem]
   intro i hi
   obtain⟨h1,h2,_⟩:=uY hsz hi
   exact h2 (hall i h1)
 | succ fuel ih =>
   intro listed k done rest s ρ a w hsz hcnt hI oM hcont
   refine⟨fun hr=>fin listed k done rest s ρ a w hsz (AB ht hsz hr) hI hcont,fun i hi=>?_⟩
   obtain⟨hilt,hnl,o,ho,hd⟩:=uY hsz hi
   obtain⟨r,hr,rfl⟩:=ht.ex (j:=i) (o:=o) (by rw[Array.getElem?_toList]; exact ho)
   obtain⟨e1,e2,e3,e4,e5⟩:=ht.row hr
   have hbase:base≤w.heap.size:=Nat.le_trans hb0 hI.step.size
   unfold wpOp
   simp only[ho]
   cases hk:gX r.kd with
   | false =>
     -- no effect: the checks of this stage
     unfold xG at oM
     simp only[Bool.and_eq_true,List.all_eq_true] at oM
     obtain⟨oM,U6⟩:=oM
     have hall:gL ri.ms ri.es k r=true:=by
      unfold gL
      rw[Bool.and_eq_true,List.all_eq_true]
      constructor
      ·rw[aO,e4]
       rcases rY (m:=r.m) ri.es 0 0 with h | ⟨q,x,a1,a2,a3⟩
       ·omega
       ·have hx:=ht.ahead hI.closed hr hd a2
        rw[a3]
        rcases Nat.lt_or_ge q k with h | h
        ·omega
        ·rw[hI.es,List.getElem?_append_right (by rw[hI.len]; exact h)] at a1
         exact absurd hx (hI.rs x (List.mem_of_getElem? a1))
      ·intro x hx
       rw[hI.es,List.take_left' hI.len] at hx
       rw[Bool.not_eq_true',← Bool.not_eq_true,e1,bH]
       intro hb
       have hxe:x∈ri.es:=by rw[hI.es]; exact List.mem_append_left _ hx
       rw[ht.es,lZ] at hxe
       obtain⟨j,o',hj,hxj,_⟩:=hxe
       rw[Nat.zero_add] at hxj; subst hxj
       exact hnl (ht.xH hI.closed (hI.dn x hx) hj hb)
     have qZ:r.lev≤k:=by
      unfold gL at hall
      rw[Bool.and_eq_true] at hall
      exact aP hall.1
     have hsame:Qc P ops T0 ri s r=true:=by
      have:=oM r (List.mem_of_getElem? hr)
      simpa [hk,hall] using this
     have hnb:∀ j b,s.bf.get j=some b→¬ df (listed.setIfInBounds i true) j→ρ b=none:=fun j b hb hj =>
      (hI.bid j b hb).2.2.1 fun hl=>hj ((nR (by omega) j).2 (.inl hl))
     have next:∀ {v:AV} {v' : Value} {ρ' : Ren} {w' : World},s.vals.get i=some v→af ρ' v v'→ρ.le ρ'→aX P base ρ' s.A w'→Step base n0 ρ w ρ' w' →
       (∀ j b,s.bf.get j=some b→¬ df (listed.setIfInBounds i true) j→ρ' b=none)→wpAny P .any ops Q fuel (listed.setIfInBounds i true) (a.put r.o.dst v') w':=by
      intro v v' ρ' w' hvi hv hle hw hst hb
      exact ih _ k done rest s ρ' _ w' (by simpa using hsz) (count_set (by omega) hnl hcnt) (VH ht hsz hI hilt hr hd hk qZ hvi hv hle hw hst hb) (by unfold xG; simp only[Bool.and_eq_true,List.all_eq_true]; exact⟨oM,U6⟩) hcont
     have Dx:ρ.le ρ:=fun _ _ h=>h
     unfold Qc at hsame
     rw[e1] at hsame
     split at hsame <;> first | (cases hsame; done) | skip
     ·rename_i v hwant hvi
      rw[qm ht hI hr hd hwant]
      simp only[Bool.false_eq_true,if_false]
      have:=pX _ _ hsame
      subst this
      exact next hvi (.tup _ _ .nil) Dx hI.jb (Step.refl _ _ _) hnb
     ·rename_i v hwant hvi
      rw[qm ht hI hr hd hwant]
      simp only[if_true]
      rw[Bool.and_eq_true] at hsame
      obtain⟨nZ,hsame⟩:=hsame
      have he:=Lu ht hI hr hnl hd nZ
      refine .inl ?_
      split at hsame
      ·have hp:=EI hsame
       obtain⟨v',h1,h2⟩:=iV he hp
       exact iU r.o (h1 w) (next hvi h2 Dx hI.jb (Step.refl _ _ _) hnb)
      ·have hp:=EI hsame
       obtain⟨v',h1,h2⟩:=oG hI.jb he hp
       exact iU r.o h1 (next hvi h2 Dx hI.jb (Step.refl _ _ _) hnb)
      ·split at hsame <;> first | (cases hsame; done) | skip
       rename_i x mk b hx hbi
       split at hsame <;> first | (cases hsame; done) | skip
       rename_i y hy
       simp only[Bool.and_eq_true] at hsame
       have hxy:=uo hsame.1
       have hmk:=pX _ _ hsame.2
       subst hxy
       obtain⟨d,ob,u,inf,hrun,aa1,hrel,SX⟩:=nu he hx w
       obtain⟨b1,b2,b3,b4⟩:=hI.bid i b hbi
       have hbn:=b3 hnl
       have hd' : aX P base ρ s.A (if d=true then w.drew else w):=by cases d <;> simp[hI.jb,hI.jb.drew]
       have hsz' : (if d=true then w.drew else w).heap.size=w.heap.size:=by cases d <;> simp
       have hst' : Step base n0 ρ w ρ (if d=true then w.drew else w):=by cases d <;> simp[Step.refl,Step.drew]
       obtain⟨h1,h2⟩:=EF hd' (by omega) (i:=inf) (by omega) hbn b2 hy (hrel.mono (Ren.mM hbn))
       refine iU r.o hrun (next hvi (hmk▸SX _ b (by simp[Ren.add])) (Ren.mM hbn) h1 (hst'.trans h2 b1) fun j b' hb' hj=>?_)
       have hne:b'≠b:=by
        intro e
        subst e
        have hji:j≠i:=fun e=>hj ((nR (by omega) j).2 (.inr e))
        -- the rows of j and i
        have hjl:=(hI.bid j b' hb').2.2.2
        obtain⟨r',hr',_⟩:=ht.ex (j:=j) (o:=ops[j]) (by simp[hjl])
        obtain⟨g1,_⟩:=ht.row hr'
        have:=(wD _ _ U6).2 j i r' r b' hr' hr (by rw[g1]; exact hb') (by rw[e1]; exact hbi)
        exact hji this
       unfold Ren.add
       rw[if_neg hne]
       exact hnb j b' hb' hj
      ·cases hsame
   | true =>
     have hie:i∈ri.es:=(ht.mH hr).2 hk
     rw[hI.es] at hie
     have hir:i∈rest:=by
      rcases List.mem_append.1 hie with h | h
      ·exact absurd (hI.dn i h) hnl
      ·exact h
     cases rest with
     | nil=>cases hir
     | cons x rest' =>
       have hxi:x=i:=by
        rcases List.mem_cons.1 hir with e | hm
        ·exact e.symm
        ·obtain⟨l1,l2,hl⟩:=List.append_of_mem hm
         have:=ht.chain (done++x :: l1) i l2 (by rw[hI.es,hl]; simp) x (by simp)
         rw[e3] at this
         exact absurd (ht.ahead hI.closed hr hd this) (hI.rs x (.head _))
       subst hxi
       have hnd:x ∉ rest':=by
        intro hm
        obtain⟨l1,l2,hl⟩:=List.append_of_mem hm
        have:=ht.chain (done++x :: l1) x l2 (by rw[hI.es,hl]; simp) x (by simp)
        rw[e3] at this
        exact hnl (ht.ahead hI.closed hr hd this)
       obtain⟨r',s2,hr',heff,Mx⟩:=hcont
       rw[hr] at hr'; cases hr'
       have next:∀ {v:AV} {v' : Value} {ρ' : Ren} {w' : World} {A' : AW},af ρ' v v'→aX P base ρ' A' w'→Step base s.A.next ρ w ρ' w'→s.A.next≤A'.next→s2 = { s with vals:=s.vals.set x v,A:=A' } →
         wpAny P .any ops Q fuel (listed.setIfInBounds x true) (a.put r.o.dst v') w':=by
        intro v v' ρ' w' A' hv hw hst hn hs2
        subst hs2
        obtain⟨s3,h1,h2,h3⟩:=Vu ht hsz hI hilt hr hd hnd hv hw hst hn Mx
        exact ih _ (k + 1) _ rest' s3 ρ' _ w' (by simpa using hsz) (count_set (by omega) hnl hcnt) h1 h2 h3
       unfold UD at heff
       rw[e1] at heff
       split at heff <;> first | (cases heff; done) | skip
       ·rename_i hwant
        rw[qm ht hI hr hd hwant]
        simp only[Bool.false_eq_true,if_false]
        cases heff
        exact next (.tup _ _ .nil) hI.jb (Step.refl _ _ _) (Nat.le_refl _) rfl
       ·rename_i hwant nZ
        rw[qm ht hI hr hd hwant]
        simp only[if_true]
        have he:=Lu ht hI hr hnl hd nZ
        refine .inl ?_
        split at heff <;> first | (cases heff; done) | skip
        ·rename_i v A1 hx
         cases heff
         obtain⟨ρ',w',h1,h2,h3,v',h4,h5⟩:=iP hng hI.jb hbase he hx
         exact iU r.o h4 (next h5 h2 h1 h3 rfl)
        ·rename_i A1 hx
         cases heff
         obtain⟨ρ',w',h1,h2,h3,h4⟩:=iP hng hI.jb hbase he hx
         exact Fh r.o h4 (next (.tup _ _ .nil) h2 h1 h3 rfl)
        ·rename_i f args A1 hx
         split at heff <;> first | (cases heff; done) | skip
         rename_i v A2 hcall
         cases heff
         obtain⟨ρ',w',h1,h2,h3,us,h4,h5⟩:=iP hng hI.jb hbase he hx
         refine BU r.o h4 (hc f args A1 v A2 hcall ρ' w' us h5 h2 (Nat.le_trans hbase h1.size)) fun e w'' hR=>?_
         obtain⟨ρ2,v',rfl,k1,k2,k3,k4⟩:=hR
         exact⟨v',rfl,next k4 k2 (h1.trans k1 h3) (Nat.le_trans h3 k3) rfl⟩
end
section
variable {P:Program} {X:Ext} {base:Base} {nt:Nat}
def vR:Ex→Exit
 | .normal=>.normal
 | .exit id=>.exit id
 | .ret=>.ret
def Post (P:Program) (base:Base) (nt:Nat) (n0:Nat) (ρ0:Ren) (w0:World) (x:Ex) (T:Tree AV) (A:AW) (e:Exit) (a:Act) (w:World) : Prop :=
 e=vR x∧∃ ρ,Step base n0 ρ0 w0 ρ w∧bR ρ nt T a∧aX P base ρ A w∧n0≤A.next
variable {n0:Nat} {ρ0:Ren} {w0:World} {ρ:Ren} {A:AW} {w:World} {T:Tree AV} {a:Act}
theorem Nz (hng:Ce P X) (hm:P.follows .mixedOrders=true) {call:eB} (hc:iH P base call)
  (hb:base≤w0.heap.size) (hn:n0≤A.next) (hst:Step base n0 ρ0 w0 ρ w) (hA:bR ρ nt T a) (hw:aX P base ρ A w) {id:Nat} {ops:Array Oper} {T' : Tree AV} {A' : AW}
  (h:O8 P X call nt ops T A=some (T',A')) : (Code.region id ops true).wp P (Post P base nt n0 ρ0 w0 .normal T' A') a w:=by
 unfold O8 at h
 split at h <;> first | (cases h; done) | skip
 rename_i ri hri
 split at h <;> first | (cases h; done) | skip
 rename_i s hs
 cases h
 have ht:=pV hri
 obtain⟨s1,h1,h2,h3⟩:=El hs
 obtain⟨f1,f2,f3,f4⟩:=qK (base:=base) _ _ _ h1
 have hno:∀ i,¬ df (Array.replicate ops.size false) i:=by
  intro i h
  unfold df at h
  simp only[Array.getD_eq_getD_getElem?,Array.getElem?_replicate] at h
  split at h <;> simp at h
 refine wp_region_any hm (Uo (n0:=n0) (ρ0:=ρ0) (w0:=w0) (sF:=s) hng hc ht hb (fun ρ' a' w' k1 k2 k3 k4=>⟨rfl,ρ',k1,k2,k3,k4⟩) ops.size _ 0 [] ri.es s1 ρ a _ (by simp) (by simp) ?_ h2 h3)
 refine⟨rfl,rfl,fun i o _ hi=>absurd hi (hno i),(fun x hx=>by cases hx),fun x _=>hno x,fun j r _ _ hj=>absurd hj (hno j),hA.size,hA.defers,fun t=>⟨fun j _ hj=>absurd hj (hno j),fun _=>hA.val t⟩,f2 ρ _ hw.drew,hst.trans (Step.drew (n:=n0)) (Nat.le_refl _),Nat.le_trans hn f3,fun j b hb'=>?_⟩
 rcases f4 j b hb' with h | ⟨h,h',r,hr,hj⟩
 ·simp[Tree.get] at h
 ·refine⟨Nat.le_trans hn h,h',fun _=>hw.fresh h, ?_⟩
  obtain⟨q,hq⟩:=List.mem_iff_getElem?.1 hr
  obtain⟨g1,g2,_⟩:=ht.row hq
  have:=(List.getElem?_eq_some_iff.1 g2).1
  rw[Array.length_toList] at this
  omega
theorem NB (hng:Ce P X) (hm:P.follows .mixedOrders=true) {call:eB} (hc:iH P base call) (hb:base≤w0.heap.size) :
  ∀ (f:Nat) (c:Code) (T:Tree AV) (A:AW) (x:Ex) (T' : Tree AV) (A' : AW),fD P X call nt f c T A=some (x,T',A') →
    (∀ (ρ:Ren) (a:Act) (w:World),n0≤A.next→Step base n0 ρ0 w0 ρ w→bR ρ nt T a→aX P base ρ A w→c.wp P (Post P base nt n0 ρ0 w0 x T' A') a w) ∧
    (∀ b,c=.loop b→∀ (ρ:Ren) (a:Act) (w:World),n0≤A.next→Step base n0 ρ0 w0 ρ w→bR ρ nt T a→aX P base ρ A w→Code.rounds P b (Post P base nt n0 ρ0 w0 x T' A') f a w):=by
 intro f
 induction f with
 | zero=>intro c T A x T' A' h; simp[fD] at h
 | succ f ih =>
   intro c T A x T' A' h
   cases c with
   | loop b =>
     simp only[fD] at h
     have key:∀ (ρ:Ren) (a:Act) (w:World),n0≤A.next→Step base n0 ρ0 w0 ρ w→bR ρ nt T a→aX P base ρ A w→Code.rounds P b (Post P base nt n0 ρ0 w0 x T' A') (f + 1) a w:=by
      intro ρ a w hn hst hA hw
      rw[rounds_succ]
      split at h
      ·rename_i T1 A1 h1
       refine wp_mono ((ih b T A _ T1 A1 h1).1 ρ a w hn hst hA hw) fun e a' w' hp=>?_
       obtain⟨rfl,ρ',k1,k2,k3,k4⟩:=hp
       exact(ih (.loop b) T1 A1 x T' A' h).2 b rfl ρ' a' w' k4 k1 k2 k3
      ·rename_i hne
       refine wp_mono ((ih b T A x T' A' h).1 ρ a w hn hst hA hw) fun e a' w' hp=>?_
       obtain⟨rfl,hp2⟩:=hp
       cases x with
       | normal=>exact absurd h (hne T' A')
       | exit id=>exact⟨rfl,hp2⟩
       | ret=>exact⟨rfl,hp2⟩
     exact⟨fun ρ a w hn hst hA hw=>wp_loop_rounds (f + 1) (key ρ a w hn hst hA hw),fun b' hb'=>by cases hb'; exact key⟩
   | skip =>
     simp only[fD] at h; cases h
     exact⟨fun ρ a w hn hst hA hw=>wp_skip ⟨rfl,ρ,hst,hA,hw,hn⟩,fun b hb=>by cases hb⟩
   | region id ops d =>
     cases d with
     | false =>
       simp only[fD] at h
       split at h <;> first | (cases h; done) | skip
       rename_i T1 A1 h1
       cases h
       refine⟨fun ρ a w hn hst hA hw=>wp_region ?_,fun b hb=>by cases hb⟩
       have hbw:base≤w.heap.size:=Nat.le_trans hb hst.size
       have:=Ad hng hc (ops:=ops) (Q:=Post P base nt n0 ρ0 w0 .normal T' A') ops.toList 0 (by simp) hA hw hbw h1 (fun ρ' a' w' k1 k2 k3 k4=>⟨rfl,ρ',hst.trans k1 hn,k2,k3,Nat.le_trans hn k4⟩)
       rw[Array.length_toList,← List.range_eq_range'] at this
       exact this
     | true =>
       simp only[fD] at h
       split at h <;> first | (cases h; done) | skip
       rename_i T1 A1 h1
       cases h
       exact⟨fun ρ a w hn hst hA hw=>Nz hng hm hc hb hn hst hA hw h1,fun b hb=>by cases hb⟩
   | seq c1 c2 =>
     simp only[fD] at h
     refine⟨fun ρ a w hn hst hA hw=>wp_seq ?_,fun b hb=>by cases hb⟩
     split at h
     ·rename_i T1 A1 h1
      refine wp_mono ((ih c1 T A _ T1 A1 h1).1 ρ a w hn hst hA hw) fun e a' w' hp=>?_
      obtain⟨rfl,ρ',k1,k2,k3,k4⟩:=hp
      exact(ih c2 T1 A1 x T' A' h).1 ρ' a' w' k4 k1 k2 k3
     ·rename_i hne
      refine wp_mono ((ih c1 T A x T' A' h).1 ρ a w hn hst hA hw) fun e a' w' hp=>?_
      obtain⟨rfl,hp2⟩:=hp
      cases x with
      | normal=>exact absurd h (hne T' A')
      | exit id=>exact⟨rfl,hp2⟩
      | ret=>exact⟨rfl,hp2⟩
   | cond cnd c1 c2 =>
     simp only[fD] at h
     refine⟨fun ρ a w hn hst hA hw=>?_,fun b hb=>by cases hb⟩
     have hv:=nN hA cnd
     split at h <;> first | (cases h; done) | skip
     ·rename_i hc1
      rw[hc1] at hv
      exact wp_cond_true (aF hv).1 ((ih c1 T A x T' A' h).1 ρ a w hn hst hA hw)
     ·rename_i hc1
      rw[hc1] at hv
      exact wp_cond_false (aF hv).1 ((ih c2 T A x T' A' h).1 ρ a w hn hst hA hw)
   | block id c1 =>
     simp only[fD] at h
     refine⟨fun ρ a w hn hst hA hw=>wp_block ?_,fun b hb=>by cases hb⟩
     split at h
     ·rename_i id' T1 A1 h1
      split at h
      ·rename_i he
       cases h
       have he:=aW he
       subst he
       refine wp_mono ((ih c1 T A _ _ _ h1).1 ρ a w hn hst hA hw) fun e a' w' hp=>?_
       obtain⟨rfl,hp2⟩:=hp
       simp only[vR,Exit.inBlock,if_true]
       exact⟨rfl,hp2⟩
      ·rename_i he
       cases h
       have he:=rP he
       refine wp_mono ((ih c1 T A _ _ _ h1).1 ρ a w hn hst hA hw) fun e a' w' hp=>?_
       obtain⟨rfl,hp2⟩:=hp
       simp only[vR,Exit.inBlock,if_neg he]
       exact⟨rfl,hp2⟩
     ·rename_i hne
      refine wp_mono ((ih c1 T A x T' A' h).1 ρ a w hn hst hA hw) fun e a' w' hp=>?_
      obtain⟨rfl,hp2⟩:=hp
      cases x with
      | normal=>exact⟨rfl,hp2⟩
      | exit id'=>exact absurd h (hne id' T' A')
      | ret=>exact⟨rfl,hp2⟩
   | exit id =>
     simp only[fD] at h; cases h
     exact⟨fun ρ a w hn hst hA hw=>wp_exit ⟨rfl,ρ,hst,hA,hw,hn⟩,fun b hb=>by cases hb⟩
   | ret =>
     simp only[fD] at h; cases h
     exact⟨fun ρ a w hn hst hA hw=>wp_ret ⟨rfl,ρ,hst,hA,hw,hn⟩,fun b hb=>by cases hb⟩
   | rangeFunc=>simp[fD] at h
   | scope=>simp[fD] at h
   | label=>simp[fD] at h
   | goto=>simp[fD] at h
   | refuse=>simp[fD] at h
def mf (tmps:Array Value) : ResultVar→Sem Value
 | .tmp t=>pure (tmps.getD t undef)
 | .cell x t=>do loadVar t (← asAddr (tmps.getD x undef))
theorem JO (hA:bR ρ nt T a) (hw:aX P base ρ A w) {r:ResultVar} {v:AV} (h:yB P T A r=some v) :
  ∃ v',(mf a.tmps r).run P w=.ok v' w∧af ρ v v':=by
 cases r with
 | tmp t =>
   simp only[yB] at h
   have:=hA.val t
   rw[h] at this
   exact⟨_,rfl,this⟩
 | cell x t =>
   simp only[yB] at h
   split at h <;> first | (cases h; done) | skip
   rename_i b p hx
   have hv:=hA.val x
   rw[hx] at hv
   obtain⟨i,hb,hc⟩:=bV hv
   simp only[mf,hc,asAddr,Sem.run_bind,Sem.run_pure,Result.andThen_ok,loadVar]
   split at h <;> first | (cases h; done) | skip
   ·rename_i ha
    split at h <;> first | (cases h; done) | skip
    rename_i hl
    cases h
    obtain⟨vs,hr,hlen,hcell⟩:=fu hw hb hl
    cases hr with
    | cons _ u _ us hu hn =>
    cases hn
    have hcell:=hcell 0 u (by simp)
    rw[cZ,Nat.add_zero] at hcell
    exact⟨u,by simp only[fB ha,Result.andThen_ok,Bool.false_eq_true,if_false,load,Sem.run,hcell],hu⟩
   ·rename_i n ha hs
    split at h <;> first | (cases h; done) | skip
    rename_i xs hl
    cases h
    obtain⟨vs,hr,hlen,_,hrun⟩:=jw (P:=P) hw hb hl
    exact⟨.agg ⟨vs⟩,by simp only[fB ha,Result.andThen_ok,if_true,Sem.run_bind,bJ hs,hrun,Sem.run_pure],.agg _ _ hr⟩
theorem pW (hA:bR ρ nt T a) (hw:aX P base ρ A w) : ∀ (rs:List ResultVar) (vs:List AV),bS (yB P T A) rs=some vs →
  ∃ us,(rs.mapM (mf a.tmps)).run P w=.ok us w∧aJ ρ vs us
 | [],vs,h=>by
   simp[bS] at h; subst h
   exact⟨[],by simp,.nil⟩
 | r :: rs,vs,h=>by
   simp only[bS] at h
   split at h <;> first | (cases h; done) | skip
   rename_i v hv
   split at h <;> first | (cases h; done) | skip
   rename_i ys hys
   cases h
   obtain⟨v',h1,h2⟩:=JO hA hw hv
   obtain⟨us,h3,h4⟩:=pW hA hw rs ys hys
   refine⟨v' :: us, ?_,.cons _ _ _ _ h2 h4⟩
   simp only[List.mapM_cons,Sem.run_bind,h1,Result.andThen_ok,h3,Sem.run_pure]
theorem Iq (hA:bR ρ nt T a) (hw:aX P base ρ A w) {fn:Func} {v:AV} (h:yX P fn T A=some v) : ∃ v',(results fn a.tmps).run P w=.ok v' w∧af ρ v v':=by
 unfold yX at h
 have key:∀ us:List Value,(fn.results.toList.mapM (mf a.tmps)).run P w=.ok us w →
   (results fn a.tmps).run P w=.ok (if h:(⟨us⟩ : Array Value).size=1 then(⟨us⟩ : Array Value)[0] else .tuple ⟨us⟩) w:=by
  intro us hu
  have e:results fn a.tmps=(fn.results.mapM (mf a.tmps) >>= fun vs=>pure (if h:vs.size=1 then vs[0] else .tuple vs)):=rfl
  rw[e,Array.mapM_eq_mapM_toList]
  simp only[Sem.run_bind,Sem.run_map,hu,Result.andThen_ok,Sem.run_pure]
 split at h <;> first | (cases h; done) | skip
 ·rename_i u hu
  cases h
  obtain⟨us,h1,h2⟩:=pW hA hw _ _ hu
  cases h2 with
  | cons _ u' _ us hu' hn =>
  cases hn
  exact⟨u',by rw[key _ h1]; rfl,hu'⟩
 ·rename_i vs hne hvs
  cases h
  obtain⟨us,h1,h2⟩:=pW hA hw _ _ hvs
  refine⟨.tuple ⟨us⟩, ?_,.tup _ _ h2⟩
  rw[key _ h1,dif_neg]
  intro h
  have hl:=h2.length
  have:us.length=1:=h
  cases vs with
  | nil=>simp at hl; omega
  | cons v vs=>cases vs with
    | nil=>exact hne v rfl
    | cons _ _=>simp at hl; omega
theorem En (hng:Ce P X) (hm:P.follows .mixedOrders=true) (L:Nat) {call:eB} (hc:iH P base call) : iH P base (J6 P X L call):=by
 intro f args A v A' h ρ w us hargs hw hb
 simp only[J6] at h
 split at h <;> first | (cases h; done) | skip
 rename_i fn hfn
 split at h <;> first | (cases h; done) | skip
 rename_i c hbody
 have hlen:=hargs.length
 have hA:bR ρ (args.length + (fn.ntmps - args.length)) (Tree.ofList args 0 .leaf) { tmps:=⟨us⟩++Array.replicate (fn.ntmps - (⟨us⟩ : Array Value).size) undef,defers:=[] } := by
  refine⟨by simp[hlen],fun t=>?_,rfl⟩
  rw[Tree.gY]
  by_cases ht:t<args.length
  ·rw[if_pos (by omega),Nat.sub_zero]
   obtain⟨u,hu,hv⟩:=hargs.get (n:=t) (x:=args[t]) (by simp[ht])
   rw[List.getElem?_eq_getElem ht]
   simp only[Option.getD_some]
   have:((⟨us⟩ : Array Value)++Array.replicate (fn.ntmps - (⟨us⟩ : Array Value).size) undef).getD t undef=u:=by
    rw[Array.getD_eq_getD_getElem?,Array.getElem?_append_left (by simp; omega)]
    simp[hu]
   rw[this]; exact hv
  ·rw[if_neg (by omega)]
   exact .top _
 have hret:∀ {ex:Ex} {T' : Tree AV} {A1:AW},(ex=.normal∨ex=.ret)→fD P X call (args.length + (fn.ntmps - args.length)) L c (Tree.ofList args 0 .leaf) A=some (ex,T',A1)→yX P fn T' A1=some v→A'=A1 →
   Calls P f ⟨us⟩ w fun e w'=>∃ ρ' v',e=.returned v'∧Step base A.next ρ w ρ' w'∧aX P base ρ' A' w'∧A.next≤A'.next∧af ρ' v v':=by
  intro ex T' A1 hex hcode hres hA1
  subst hA1
  refine calls_of_wp hfn hbody (wp_mono ((NB hng hm hc (n0:=A.next) (ρ0:=ρ) (w0:=w) hb L c _ A ex T' A' hcode).1 ρ _ w (Nat.le_refl _) (Step.refl _ _ _) hA hw) fun e a' w' hp=>?_)
  obtain⟨rfl,ρ',k1,k2,k3,k4⟩:=hp
  obtain⟨v',h1,h2⟩:=Iq k2 k3 hres
  rcases hex with rfl | rfl
  ·exact⟨k2.defers,v',h1,ρ',v',rfl,k1,k3,k4,h2⟩
  ·exact⟨k2.defers,v',h1,ρ',v',rfl,k1,k3,k4,h2⟩
 split at h <;> first | (cases h; done) | skip
 rename_i ex T' A1 hne hcode
 split at h <;> first | (cases h; done) | skip
 rename_i v1 hres
 cases h
 refine hret ?_ hcode hres rfl
 cases ex with
 | normal=>exact .inl rfl
 | ret=>exact .inr rfl
 | exit id=>exact(hne id rfl).elim
end
section
variable {P:Program} {X:Ext} {base:Base}
theorem LV {ρ ρ' : Ren} {x:AV} {v:Value} (h:EN x=true) (hr:af ρ x v) : af ρ' x v:=by
 cases x <;> simp[EN] at h
 obtain⟨rfl,hp⟩:=aF hr
 exact .sc _ hp
theorem MV {l:List AV} {n k:Nat} {x:AV} (h:cellAt (Tree.ofList l 0 .leaf) [] n k=some x) : k<n∧l[k]?=some x:=by
 obtain⟨h1,h2⟩:=gM h
 rw[Tree.gY] at h2
 split at h2
 ·exact⟨h1,by simpa using h2⟩
 ·simp[Tree.get] at h2
theorem wB {A:AW} {b k n:Nat} {tree:Tree AV} {zs xs:List AV} {opn:Bool} {el fz:Nat} (hg:A.heap.get b=some (.row n tree zs opn el fz)) (h:A.loads b 0 k=some xs) :
  xs.length=k∧∀ j x,xs[j]?=some x→cellAt tree zs n j=some x:=by
 unfold AW.loads at h
 rw[hg] at h
 obtain⟨h1,h2⟩:=uU k 0 h
 exact⟨h1,fun j x hx=>by have:=h2 j x hx; rwa [Nat.zero_add] at this⟩
theorem E5 {ρ ρ' : Ren} {i:eu} {n:Nat} {tree:Tree AV} {zs:List AV} {opn:Bool} {el fz:Nat} {c:Array Value} {fr:Nat × Nat} (h:tF P ρ i n tree zs opn el fz c fr) {cs:List AV} {m:Nat} (hsc:cs.all EN=true)
  (hcs:∀ j x,cs[j]?=some x→cellAt tree zs n j=some x) (hm:i.sh + m≤c.size) : tF P ρ' i m (Tree.ofList cs 0 .leaf) [] opn el fz c fr :=
 ⟨hm,fun k x hk=>by
  obtain⟨_,hk⟩:=MV hk
  obtain⟨v,h1,h2⟩:=h.val k x (hcs k x hk)
  exact⟨v,h1,LV (List.all_eq_true.1 hsc x (List.mem_of_getElem? hk)) h2⟩,h.free,h.mark,h.opn,h.sh0⟩
theorem Be {run:Nat→Option (List AV)} {C:List AV} : ∀ (n:Nat),sameAll run C n=true→∀ j,j<n→run j=some C
 | 0,_,j,hj=>by omega
 | n + 1,h,j,hj=>by
   simp only[sameAll] at h
   split at h <;> first | (cases h; done) | skip
   rename_i C' hC
   simp only[Bool.and_eq_true] at h
   by_cases e:j=n
   ·subst e; rw[hC,lu _ _ h.1]
   ·exact Be n h.2 j (by omega)
theorem xA {A0:AW} {b bv esz el want:Nat} {oO:dm} {r:Option (AV × AW)} {C:List AV} (h:outcome A0 b bv esz el want oO r=some C) :
  ∃ rb A' kr tr zr,r=some (.slc rb 0 want (.op esz),A')∧A'.heap.get rb=some (.row kr tr zr true el 0)∧A'.heap.get bv=some oO∧A'.loads rb 0 (want * esz)=some C∧(rb=b∨A0.next≤rb)∧C.all EN=true:=by
 unfold outcome at h
 split at h <;> first | (cases h; done) | skip
 rename_i rb n e A'
 split at h <;> first | (cases h; done) | skip
 rename_i kr tr zr el' y C' hrb hbv hC
 split at h <;> first | (cases h; done) | skip
 rename_i hc
 cases h
 simp only[Bool.and_eq_true] at hc
 obtain⟨⟨⟨⟨⟨c1,c2⟩,c3⟩,c4⟩,c5⟩,c6⟩:=hc
 have c1:=aW c1; have c2:=aW c2; have c3:=aW c3; have c6:=uo c6
 subst c1; subst c2; subst c3; subst c6
 refine⟨rb,A',kr,tr,zr,rfl,hrb,hbv,hC, ?_,c5⟩
 rw[Bool.or_eq_true] at c4
 rcases c4 with c4 | c4
 ·exact .inl (aW c4)
 ·exact .inr (aP c4)
theorem KY {run:eB} (hc:iH P base run) : iH P base (LM run):=by
 intro f args A v A' h ρ w us hargs hw hb
 unfold LM at h
 split at h
 case h_2=>exact hc f args A v A' h ρ w us hargs hw hb
 rename_i b len esz iv bv ov m mc
 split at h <;> first | (cases h; done) | skip
 rename_i kn tb zb el kv tv zv ev fv hgb hgv
 split at h <;> first | (cases h; done) | skip
 rename_i cs uv hcs huv
 split at h <;> first | (cases h; done) | skip
 rename_i hcond
 simp only[Bool.and_eq_true,Bool.not_eq_true'] at hcond
 obtain⟨⟨⟨⟨c1,c2⟩,c3⟩,c4⟩,c5⟩:=hcond
 have c1:=aW c1; have c2:=rP c2; have c3:=aP c3
 dsimp only at h
 split at h <;> first | (cases h; done) | skip
 rename_i C hbig
 split at h <;> first | (cases h; done) | skip
 rename_i hsmall
 cases h
 -- the arguments
 cases hargs with
 | cons _ u1 _ us1 r1 hargs =>
 cases hargs with
 | cons _ u2 _ us2 r2 hargs =>
 cases hargs with
 | cons _ u3 _ us3 r3 hargs =>
 cases hargs
 obtain⟨k,i,hbi,hp,he,hk,hu1⟩:=uD r1
 obtain⟨hu2,hpi⟩:=aF r2
 have r3':=r3
 generalize hu3:u3=u3' at r3'
 cases r3' with
 | eH _ _ _ _ iv' FC =>
 obtain⟨ob,hob,cb,frb,rfl,hrb⟩:=hw.blk b i _ hbi hgb
 obtain⟨ov',hov,cv,frv,rfl,hrv⟩:=hw.blk bv iv' _ FC hgv
 obtain⟨h0,hcsz,hels⟩:=hrb.opn rfl
 have hk0:k=0:=by
  rcases Nat.eq_zero_or_pos k with e | e
  ·exact e
  ·have:0<k * i.esz:=Nat.mul_pos e h0
   omega
 subst hk0
 obtain⟨hl1,hcell1⟩:=wB hgb hcs
 obtain⟨hl2,hcell2⟩:=wB hgv huv
 have hbn:=hw.dom b i hbi
 have hvn:=hw.dom bv iv' FC
 have Xu:i.cb≠iv'.cb:=fun e=>c2 (hw.sep _ _ _ _ _ _ hbi FC hgb hgv e)
 -- the two blocks alone
 let ρl:Ren:=fun x=>if x=b then some i else if x=bv then some iv' else none
 have hρb:ρl b=some i:=by simp[ρl]
 have hρv:ρl bv=some iv':=by simp only[ρl]; rw[if_neg (fun e=>c2 e.symm)]; simp
 have hρ:∀ x j,ρl x=some j→(x=b∧j=i)∨(x=bv∧j=iv'):=by
  intro x j hx
  simp only[ρl] at hx
  split at hx
  ·cases hx; exact .inl ⟨‹_›,rfl⟩
  ·split at hx
   ·cases hx; exact .inr ⟨‹_›,rfl⟩
   ·cases hx
 have WJ:∀ x j,ρl x=some j→ρ x=some j:=by
  intro x j hx
  rcases hρ x j hx with⟨rfl,rfl⟩ | ⟨rfl,rfl⟩
  ·exact hbi
  ·exact FC
 let oO:=dm.row kv (Tree.ofList uv 0 .leaf) [] false ev fv
 have QW:∀ (n:Nat),i.sh + n≤cb.size→aX P base ρl { next:=A.next,heap:=(Tree.leaf.set b (.row n (Tree.ofList cs 0 .leaf) [] true el 0)).set bv oO } w:=by
  intro n hn
  have hget:∀ x y,((Tree.leaf.set b (dm.row n (Tree.ofList cs 0 .leaf) [] true el 0)).set bv oO).get x=some y→(x=bv∧y=oO)∨(x=b∧y=dm.row n (Tree.ofList cs 0 .leaf) [] true el 0):=by
   intro x y h
   rw[Tree.aT] at h
   split at h
   ·cases h; exact .inl ⟨‹_›,rfl⟩
   ·rw[Tree.aT] at h
    split at h
    ·cases h; exact .inr ⟨‹_›,rfl⟩
    ·simp[Tree.get] at h
  refine⟨fun x j hx=>?_,fun x j y hx hy=>?_,fun x1 x2 j1 j2 y1 y2 h1 h2 _ _ e=>?_,fun x y hy=>?_,fun x j y hx hy=>?_,hw.inv⟩
  ·exact hw.dom x j (WJ x j hx)
  ·rcases hget x y hy with⟨rfl,rfl⟩ | ⟨rfl,rfl⟩
   ·rw[hρv] at hx; cases hx
    exact⟨_,hov,cv,frv,rfl,E5 hrv c5 hcell2 hrv.size⟩
   ·rw[hρb] at hx; cases hx
    exact⟨_,hob,cb,frb,rfl,E5 hrb c4 hcell1 hn⟩
  ·rcases hρ x1 j1 h1 with⟨rfl,rfl⟩ | ⟨rfl,rfl⟩ <;> rcases hρ x2 j2 h2 with⟨rfl,rfl⟩ | ⟨rfl,rfl⟩
   ·rfl
   ·exact absurd e Xu
   ·exact absurd e.symm Xu
   ·rfl
  ·rcases hget x y hy with⟨rfl,_⟩ | ⟨rfl,_⟩
   ·exact hvn.1
   ·exact hbn.1
  ·rcases hρ x j hx with⟨rfl,rfl⟩ | ⟨rfl,rfl⟩
   ·exact hw.lo _ _ _ hbi hgb
   ·exact hw.lo _ _ _ FC hgv
 -- whatever comes of it
 have finish:∀ (r:Option (AV × AW)),outcome A b bv esz el (len + m) oO r=some C→∀ (rr:AV) (Ar:AW) (e:Ending) (w' : World),r=some (rr,Ar) →
   (∃ ρ' v',e=.returned v'∧Step base A.next ρl w ρ' w'∧aX P base ρ' Ar w'∧A.next≤Ar.next∧af ρ' rr v') →
   ∃ ρ' v',e=.returned v'∧Step base A.next ρ w ρ' w'∧aX P base ρ' { next:=A.next + 1,heap:=(A.heap.del b).set A.next (.row ((len + m) * esz) (Tree.ofList C 0 .leaf) [] true el 0) } w'∧A.next≤A.next + 1∧af ρ' (.slc A.next 0 (len + m) (.op esz)) v':=by
  intro r hr rr Ar e w' hrr hR
  obtain⟨rb,Ar',kr,tr,zr,g1,g2,g3,g4,g5,g6⟩:=xA hr
  rw[hrr] at g1
  cases g1
  obtain⟨ρ',v',rfl,hst,hwr,hnx,hv⟩:=hR
  obtain⟨k',ir,hir,hp',he',hk',hv'⟩:=uD hv
  obtain⟨obr,ZB,cr,frr,rfl,Px⟩:=hwr.blk rb ir _ hir g2
  obtain⟨hr0,hrcs,hrels⟩:=Px.opn rfl
  have hk0' : k'=0:=by
   rcases Nat.eq_zero_or_pos k' with e | e
   ·exact e
   ·have:0<k' * ir.esz:=Nat.mul_pos e hr0
    omega
  subst hk0'
  have XZ:ρ' bv=some iv':=by rw[hst.ext bv hvn.1]; exact hρv
  have aaA:rb≠bv:=by
   rcases g5 with e | e
   ·rw[e]; exact c2
   ·have:=hvn.1; omega
  have aaj:ir.cb≠iv'.cb:=fun e=>aaA (hwr.sep _ _ _ _ _ _ hir XZ g2 g3 e)
  obtain⟨hl3,RP⟩:=wB g2 g4
  have hfresh:ρ A.next=none:=hw.fresh (Nat.le_refl _)
  have hle:ρ.le (ρ.add A.next ir):=Ren.mM hfresh
  have Wz:=hwr.dom rb ir hir
  -- where the result's block lies
  have Vb:ir.cb=i.cb∨w.heap.size≤ir.cb:=by
   rcases hst.fresh rb ir hir with⟨b0,i0,hb0,e0⟩ | h
   ·rcases hρ b0 i0 hb0 with⟨rfl,rfl⟩ | ⟨rfl,rfl⟩
    ·exact .inl e0.symm
    ·exact absurd e0.symm aaj
   ·exact .inr h
  have hadd:∀ x j,ρ.add A.next ir x=some j→(x=A.next∧j=ir)∨(x≠A.next∧ρ x=some j):=by
   intro x j h
   unfold Ren.add at h
   split at h
   ·cases h; exact .inl ⟨‹_›,rfl⟩
   ·exact .inr ⟨‹_›,h⟩
  have hget:∀ {x y},((A.heap.del b).set A.next (dm.row ((len + m) * esz) (Tree.ofList C 0 .leaf) [] true el 0)).get x=some y→(x=A.next∧y=dm.row ((len + m) * esz) (Tree.ofList C 0 .leaf) [] true el 0)∨(x≠A.next∧x≠b∧A.heap.get x=some y):=by
   intro x y h
   rw[Tree.aT] at h
   split at h
   ·cases h; exact .inl ⟨‹_›,rfl⟩
   ·rw[Tree.qh] at h
    split at h
    ·cases h
    ·exact .inr ⟨‹_›,‹_›,h⟩
  have hnew:tF P (ρ.add A.next ir) ir ((len + m) * esz) (Tree.ofList C 0 .leaf) [] true el 0 cr frr:=by
   refine E5 Px g6 RP ?_
   rcases Nat.eq_zero_or_pos ((len + m) * esz) with e | e
   ·rw[e]; have:=Px.size; omega
   ·have hj:(len + m) * esz - 1<C.length:=by omega
    have:=vO (RP ((len + m) * esz - 1) C[(len + m) * esz - 1] (by simp[hj]))
    have:=Px.size
    omega
  -- a block that stays
  have hkeep:∀ x j y,x≠b→ρ x=some j→A.heap.get x=some y→∃ o,w'.heap[j.cb]?=some o∧fH P ρ j y o:=by
   intro x j y hxb hx hy
   by_cases hxv:x=bv
   ·subst hxv
    rw[FC] at hx; cases hx
    rw[hgv] at hy; cases hy
    obtain⟨o,ho,cv',ZN,rfl,Ir⟩:=hwr.blk x iv' _ XZ g3
    refine⟨_,ho,cv',ZN,rfl,⟨Ir.size,fun k x hk=>?_,Ir.free,Ir.mark,Ir.opn,Ir.sh0⟩⟩
    have SK:=vO hk
    have hj:k<uv.length:=by omega
    have hcx:=hcell2 k uv[k] (by simp[hj])
    rw[hk] at hcx
    cases hcx
    obtain⟨v,hv1,hv2⟩:=Ir.val k uv[k] (by
     unfold cellAt
     rw[aO.2 (show k + 1≤kv by omega)]
     rw[Tree.gY,if_pos (by omega)]
     simp[hj])
    exact⟨v,hv1,LV (List.all_eq_true.1 c5 _ (List.getElem_mem _)) hv2⟩
   ·obtain⟨o,ho,hrel⟩:=hw.blk x j y hx hy
    refine⟨o, ?_,hrel⟩
    rw[hst.frame j.cb (hw.dom x j hx).2 fun b0 i0 hb0 e0=>?_]
    ·exact ho
    ·rcases hρ b0 i0 hb0 with⟨rfl,rfl⟩ | ⟨rfl,rfl⟩
     ·exact hxb (hw.sep _ _ _ _ _ _ hx hbi hy hgb e0.symm)
     ·exact hxv (hw.sep _ _ _ _ _ _ hx FC hy hgv e0.symm)
  have Hm:∀ x j y,x≠b→ρ x=some j→A.heap.get x=some y→j.cb≠ir.cb:=by
   intro x j y hxb hx hy e
   rcases Vb with h | h
   ·exact hxb (hw.sep _ _ _ _ _ _ hx hbi hy hgb (by rw[e,h]))
   ·have:=(hw.dom x j hx).2; omega
  refine⟨ρ.add A.next ir,v',rfl,⟨hst.os,hst.tape,hst.output,hst.size,fun c hc hun=>hst.frame c hc fun b0 i0 hb0=>hun b0 i0 (WJ b0 i0 hb0),fun x hx=>?_,fun x j hj=>?_,hst.low⟩,⟨fun x j hj=>?_,fun x j y hj hy=>?_,fun x1 x2 j1 j2 y1 y2 hj1 hj2 hy1 hy2 he'=>?_,fun x y hy=>?_,fun x j y hj hy=>?_,hwr.inv⟩,by omega, ?_⟩
  ·unfold Ren.add; rw[if_neg (by omega)]
  ·rcases hadd x j hj with⟨rfl,rfl⟩ | ⟨_,hj⟩
   ·rcases Vb with h | h
    ·exact .inl ⟨b,i,hbi,h.symm⟩
    ·exact .inr h
   ·exact .inl ⟨x,j,hj,rfl⟩
  ·rcases hadd x j hj with⟨rfl,rfl⟩ | ⟨_,hj⟩
   ·exact⟨by simp,Wz.2⟩
   ·have:=hw.dom x j hj
    exact⟨by show x<A.next + 1; omega,Nat.lt_of_lt_of_le this.2 hst.size⟩
  ·rcases hget hy with⟨rfl,rfl⟩ | ⟨hxn,hxb,hy⟩
   ·rcases hadd _ j hj with⟨_,rfl⟩ | ⟨h',_⟩
    ·exact⟨_,ZB,cr,frr,rfl,hnew⟩
    ·exact absurd rfl h'
   ·rcases hadd x j hj with⟨h',_⟩ | ⟨_,hj⟩
    ·exact absurd h' hxn
    ·obtain⟨o,ho,hrel⟩:=hkeep x j y hxb hj hy
     exact⟨o,ho,hrel.mono hle⟩
  ·rcases hget hy1 with⟨e1,_⟩ | ⟨n1,nb1,hy1⟩ <;> rcases hget hy2 with⟨e2,_⟩ | ⟨n2,nb2,hy2⟩
   ·rw[e1,e2]
   ·rcases hadd x1 j1 hj1 with⟨_,f1⟩ | ⟨g1',_⟩
    ·rcases hadd x2 j2 hj2 with⟨g2',_⟩ | ⟨_,hj2⟩
     ·exact absurd g2' n2
     ·exact absurd (by rw[← he',f1]) (Hm x2 j2 y2 nb2 hj2 hy2)
    ·exact absurd e1 g1'
   ·rcases hadd x2 j2 hj2 with⟨_,f2⟩ | ⟨g2',_⟩
    ·rcases hadd x1 j1 hj1 with⟨g1',_⟩ | ⟨_,hj1⟩
     ·exact absurd g1' n1
     ·exact absurd (by rw[he',f2]) (Hm x1 j1 y1 nb1 hj1 hy1)
    ·exact absurd e2 g2'
   ·rcases hadd x1 j1 hj1 with⟨g1',_⟩ | ⟨_,hj1⟩
    ·exact absurd g1' n1
    ·rcases hadd x2 j2 hj2 with⟨g2',_⟩ | ⟨_,hj2⟩
     ·exact absurd g2' n2
     ·exact hw.sep _ _ _ _ _ _ hj1 hj2 hy1 hy2 he'
  ·rcases hget hy with⟨rfl,_⟩ | ⟨_,_,hy⟩
   ·simp
   ·have:=hw.top x y hy; show x<A.next + 1; omega
  ·rcases hget hy with⟨rfl,_⟩ | ⟨hxn,_,hy⟩
   ·rcases hadd _ j hj with⟨_,rfl⟩ | ⟨h',_⟩
    ·exact hwr.lo rb j _ hir g2
    ·exact absurd rfl h'
   ·rcases hadd x j hj with⟨h',_⟩ | ⟨_,hj⟩
    ·exact absurd h' hxn
    ·exact hw.lo x j y hj hy
  ·rw[hv']
   have:=af.iE (ρ:=ρ.add A.next ir) A.next 0 (len + m) ir (by simp[Ren.add]) hk'
   rw[Nat.zero_mul] at this ⊢
   rw[he']
   exact this
 -- the two roads
 subst hu1 hu2 hu3
 have hal:∀ (cap:Cap) (c:Nat),af ρl (.slc b 0 len cap) (.slice (some ⟨i.cb,i.sh + 0 * i.esz,none⟩) len (i.dC - 0)) →
   aJ ρl [.slc b 0 len cap,.sc u2,.slc bv ov m (.ex mc)] [.slice (some ⟨i.cb,i.sh + 0 * i.esz,none⟩) len (i.dC - 0),u2,.slice (some ⟨iv'.cb,iv'.sh + ov,none⟩) m mc]:=fun cap c h1 =>
  .cons _ _ _ _ h1 (.cons _ _ _ _ (.sc _ hpi) (.cons _ _ _ _ (.eH bv ov m mc iv' hρv) .nil))
 by_cases hroom:len + m≤i.dC
 ·
  have h1:af ρl (.slc b 0 len (.op esz)) (.slice (some ⟨i.cb,i.sh + 0 * i.esz,none⟩) len (i.dC - 0)):=by
   have:=af.iE (ρ:=ρl) b 0 len i hρb hk
   rw[Nat.zero_mul] at this ⊢
   rw[he]; exact this
  have hsz:i.sh + (len + m) * esz≤cb.size:=by
   rw[hcsz,he]
   have:=Nat.mul_le_mul_right i.esz hroom
   omega
  obtain⟨rb,Ar,kr,tr,zr,g1,_⟩:=xA hbig
  exact(hc f _ _ _ _ g1 ρl w _ (hal _ 0 h1) (QW _ hsz) hb).mono fun e w' hR=>finish _ hbig _ _ e w' g1 hR
 ·
  have hj:i.dC - len<m:=by omega
  have hs:=Be m hsmall (i.dC - len) hj
  have hlj:len + (i.dC - len)=i.dC:=by omega
  have h1:af ρl (.slc b 0 len (.ex (len + (i.dC - len)))) (.slice (some ⟨i.cb,i.sh + 0 * i.esz,none⟩) len (i.dC - 0)):=by
   rw[hlj]
   have:=af.eH (ρ:=ρl) b 0 len i.dC i hρb
   simpa using this
  obtain⟨rb,Ar,kr,tr,zr,g1,_⟩:=xA hs
  exact(hc f _ _ _ _ g1 ρl w _ (hal _ 0 h1) (QW _ (by have:=hrb.size; omega)) hb).mono fun e w' hR=>finish _ hs _ _ e w' g1 hR
end
end Go.Ab
namespace Go.Ab
open Go Go.RowKit Go.WideShapes Go.ChangeShapes
def Base.any (n:Nat) : Base:=⟨n,fun _=>True,fun _ _ _ _=>trivial⟩
section
variable {H:Type} {enc:TypeId × Value→H} {P:Program}
theorem JW {f:Func} {s:ChangeSpec} {apart fresh handsOn again:Bool} {W W' : World} {args:Array Value} {v:Value} {ds gs:List (DataW H)} {before pa pv:List MemPlace}
  (hW:DataW.Whole enc P f.params.toList s.vars apart W args.toList ds gs before)
  (hres:∀ (b:Nat) (sp:Nat→Bool) (hd:Bool),DataW.TrodAll enc P W' b sp hd f.resultTypes.toList (v.resultList f.resultTypes.size) (s.fn H (ds++gs)).results [])
  (hargs:∀ sp:Nat→Bool,(∀ p∈before,sp p.block=true)→DataW.TrodAll enc P W' 0 sp true f.params.toList args.toList (s.fn H (ds++gs)).args pa)
  (hvars:∀ sp:Nat→Bool,(∀ p∈before,sp p.block=true)→DataW.TrodVars enc P W' sp s.vars (s.fn H (ds++gs)).vars pv)
  (hps:before=pa++pv) (hb:Below W.heap.size W W')
  (hok:∀ (j:Nat) (t:TypeId) (r:Value),f.resultTypes[j]?=some t→(v.resultList f.resultTypes.size)[j]?=some r→Value.okWide P W' .any 0 t r) :
  s.post enc P f apart fresh handsOn again W args v W':=by
 have hlt:∀ p∈before,p.block<W.heap.size:=fun p hp=>hW.lt p hp
 have hold:∀ p∈before,(fun b=>decide (b<W.heap.size)) p.block=true:=fun p hp=>by simpa using hlt p hp
 refine⟨ds,gs,before,[],pa,pv,hW,hres _ _ _,hargs _ hold,hvars _ hold,World.keptBut_mono (fun p hp=>⟨hp, ?_⟩) (hb.frame (· ∈ before)),fun _=>?_⟩
 ·rw[hps,List.mem_append] at hp
  exact Or.inr hp
 ·obtain⟨_,_,_,_,_,hz,hn⟩:=hW
  refine⟨hok,_,_,([]++pa)++pv,⟨[]++pa,pv,trodAll_append (hargs _ (fun _ _=>rfl)) (hres _ _ _),hvars _ (fun _ _=>rfl),rfl, ?_, ?_⟩, ?_⟩
  ·intro b off hp
   have hin:MemPlace.cell b off∈before:=by rw[hps]; simpa using hp
   rw[hb.frozen (hlt _ hin)]
   exact hz b off hin
  ·intro ha
   have:=hn ha
   rw[hps] at this
   simpa using this
  ·intro p hp _
   rw[hps]
   simpa using hp
end
theorem Tx {P:Program} (h:(P.funcs.toList.all fun fn=>fn.name != "runtime.NumGoroutine")=true) (f:FuncId) (fn:Func) (hf:P.funcs[f]?=some fn) : fn.name ≠ "runtime.NumGoroutine" := by
 have:=List.all_eq_true.1 h fn (by rw[← Array.getElem?_toList] at hf; exact List.mem_of_getElem? hf)
 simpa using this
end Go.Ab
namespace Go.Ab
open Go Go.RowKit
inductive RB where
 | row (l:List AV) (opn:Bool) (elem:TypeId) (fz:Nat)
 | ro (c:Array Value)
 | map (es:List (AV × AV × Nat)) (clock:Nat)
 | iter (m:Option Nat) (since:Nat) (seen:List Nat) (stepped:Nat)
 | iM (s:List UInt8) (pos:Nat)
structure RM where
 next:Nat
 heap:Nat→Option RB
 base:Base
abbrev RM.lo (M:RM) : Nat:=M.base.n
def RM.push (M:RM) (x:RB) : RM := { M with next:=M.next + 1,heap:=fun c=>if c=M.next then some x else M.heap c }
def RM.put (M:RM) (b:Nat) (x:RB) : RM := { M with heap:=fun c=>if c=b then some x else M.heap c }
def RM.del (M:RM) (b:Nat) : RM := { M with heap:=fun c=>if c=b then none else M.heap c }
def nC (lo:Nat) : Value→AV
 | .pointer (some ⟨b,o,none⟩)=>if b<lo then .ptr b o else .top
 | .slice (some _) 0 0=>.emp 0
 | .slice (some ⟨b,o,none⟩) len cap=>if b<lo then .slc b o len (.ex cap) else .top
 | v=>(oD v).getD .top
def RM.cells (M:RM) (b:Nat) : Option (List AV) :=
 match M.heap b with
 | some (.row l _ _ _)=>some l
 | some (.ro c)=>some (c.toList.map (nC M.lo))
 | _=>none
def RM.loads (M:RM) (b o k:Nat) : Option (List AV) :=
 match M.cells b with
 | some l=>if o + k≤l.length then some ((l.drop o).take k) else none
 | none=>none
def RM.stores (M:RM) (b o:Nat) (vs:List AV) : Option RM :=
 match M.heap b with
 | some (.row l opn elem fz)=>if o + vs.length≤l.length∧fz≤o∧vs.all oneCell=true then some (M.put b (.row (l.take o++vs++l.drop (o + vs.length)) opn elem fz)) else none
 | _=>none
def uM:RB→dm→Prop
 | .row l opn elem fz,.row n tree zs Fu jy fz'=>l.length=n∧Fu=opn∧jy=elem∧fz'=fz∧∀ (k:Nat) (v:AV),l[k]?=some v→cellAt tree zs n k=some v
 | .map es c,.map es' c'=>es'=es∧c'=c
 | .iter a b c d,.iter a' b' c' d'=>a'=a∧b'=b∧c'=c∧d'=d
 | .iM s p,.iM s' p'=>s'=⟨⟨s⟩⟩∧p'=p
 | _,_=>False
structure qB (P:Program) (ρ:Ren) (M:RM) (w:World) (A:AW) : Prop where
 next:A.next=M.next
 rel:aX P M.base ρ A w
 size:M.lo≤w.heap.size
 blk:∀ b x,M.heap b=some x→(∃ y,A.heap.get b=some y∧uM x y)∨∃ c,x=.ro c∧b<M.lo∧∃ elem fr,w.heap[b]?=some (.cells c elem fr)
 old:∀ c,c<M.lo→ρ c=some ⟨c,0,0,0⟩
def bn (P:Program) (ρ:Ren) (M:RM) (w:World) : Prop:=∃ A,qB P ρ M w A
structure After (P:Program) (M:RM) (ρ:Ren) (w:World) (M' : RM) (ρ' : Ren) (w' : World) : Prop where
 step:Step M.lo M.next ρ w ρ' w'
 rel:bn P ρ' M' w'
 base:M'.base=M.base
 next:M.next≤M'.next
theorem After.lo {P:Program} {M M' : RM} {ρ ρ' : Ren} {w w' : World} (h:After P M ρ w M' ρ' w') : M'.lo=M.lo:=congrArg Base.n h.base
theorem Step.NH {M M0:RM} {n:Nat} {ρ ρ' : Ren} {w w' : World} (h:M.base=M0.base) (s:Step M.lo n ρ w ρ' w') : Step M0.lo n ρ w ρ' w':=by
 unfold RM.lo at *; rw[← h]; exact s
section
variable {P:Program} {ρ ρ' : Ren} {M M' : RM} {w w' : World} {A A' : AW}
theorem After.refl (h:bn P ρ M w) : After P M ρ w M ρ w:=⟨Step.refl _ _ _,h,rfl,Nat.le_refl _⟩
theorem After.trans {M1 M2:RM} {ρ1 ρ2:Ren} {w1 w2:World} (h:After P M ρ w M1 ρ1 w1) (k:After P M1 ρ1 w1 M2 ρ2 w2) : After P M ρ w M2 ρ2 w2 :=
 ⟨h.step.trans (h.lo▸k.step) h.next,k.rel,k.base.trans h.base,Nat.le_trans h.next k.next⟩
theorem After.le (h:After P M ρ w M' ρ' w') (hr:bn P ρ M w) : ρ.le ρ':=by
 obtain⟨A,hA⟩:=hr
 have:=h.step
 rw[← hA.next] at this
 exact this.le hA.rel
theorem bn.fresh (h:bn P ρ M w) {b:Nat} (hb:M.next≤b) : ρ b=none:=by
 obtain⟨A,hA⟩:=h
 exact hA.rel.fresh (by rw[hA.next]; exact hb)
theorem bn.lt (h:bn P ρ M w) {b:Nat} {i:eu} (hb:ρ b=some i) : b<M.next∧i.cb<w.heap.size:=by
 obtain⟨A,hA⟩:=h
 have:=hA.rel.dom b i hb
 rw[hA.next] at this; exact this
theorem bn.lo_le (h:bn P ρ M w) : M.lo≤M.next:=by
 rcases Nat.eq_zero_or_pos M.lo with e | e
 ·omega
 ·obtain⟨A,hA⟩:=h
  have:=hA.rel.dom (M.lo - 1) _ (hA.old _ (by omega))
  rw[hA.next] at this; omega
theorem bn.drew (h:bn P ρ M w) : bn P ρ M w.drew:=by
 obtain⟨A,hA⟩:=h
 exact⟨A,hA.next,hA.rel.drew,hA.size,hA.blk,hA.old⟩
theorem iF (h:qB P ρ M w A) (hst:Step M.lo A.next ρ w ρ' w') (hw:aX P M.base ρ' A' w') (hbase:M'.base=M.base) (hn:A'.next=M'.next) (hle:A.next≤A'.next)
  (hb:∀ b x,M'.heap b=some x→(∃ y,A'.heap.get b=some y∧uM x y)∨∃ c,x=.ro c∧M.heap b=some x) : After P M ρ w M' ρ' w':=by
 have hlo:M'.lo=M.lo:=congrArg Base.n hbase
 refine⟨h.next▸hst,⟨A',hn,hbase▸hw,by rw[hlo]; exact Nat.le_trans h.size hst.size,fun b x hx=>?_,fun c hc=>?_⟩,hbase,by rw[← h.next,← hn]; exact hle⟩
 ·rcases hb b x hx with h1 | ⟨c,rfl,h1⟩
  ·exact .inl h1
  ·rcases h.blk b _ h1 with⟨y,_,hy⟩ | ⟨c',e,hlt,elem,fr,hh⟩
   ·cases y <;> exact hy.elim
   ·cases e
    exact .inr ⟨c,rfl,by rw[hlo]; exact hlt,elem,fr,by rw[hst.low b hlt]; exact hh⟩
 ·rw[hlo] at hc
  have:=h.old c hc
  rw[hst.ext c (h.rel.dom c _ this).1]; exact this
theorem E9 {lo:Nat} (h:∀ c,c<lo→ρ c=some ⟨c,0,0,0⟩) (v:Value) : af ρ (nC lo v) v:=by
 unfold nC
 split
 ·split
  ·rename_i b o hb
   have:=af.ptr (ρ:=ρ) b o ⟨b,0,0,0⟩ (h b hb)
   simpa using this
  ·exact .top _
 ·exact .emp _ _ _
 ·split
  ·rename_i b o len cap _ hb
   have:=af.eH (ρ:=ρ) b o len cap ⟨b,0,0,0⟩ (h b hb)
   simpa using this
  ·exact .top _
 ·cases hv:oD v with
  | none=>exact .top _
  | some u=>exact yZ ρ hv
theorem Ae {tree:Tree AV} {zs:List AV} {n:Nat} {l:List AV} (h:∀ (k:Nat) (v:AV),l[k]?=some v→cellAt tree zs n k=some v) : ∀ (k o:Nat),o + k≤l.length→cells tree zs n o k=some ((l.drop o).take k)
 | 0,o,_=>by simp[cells]
 | k + 1,o,hk=>by
   have ho:o<l.length:=by omega
   simp only[cells]
   rw[h o l[o] (by simp[ho]),Ae h k (o + 1) (by omega)]
   simp only
   congr 1
   rw[List.drop_eq_getElem_cons ho,List.take_succ_cons]
theorem RM.fu (hw:bn P ρ M w) {b o k:Nat} {i:eu} {xs:List AV} (hb:ρ b=some i) (h:M.loads b o k=some xs) :
  ∃ vs,aJ ρ xs vs∧vs.length=k∧∀ j v,vs[j]?=some v→w.cell? ((⟨i.cb,i.sh + o,none⟩ : Addr).add j)=some v:=by
 obtain⟨A,hA⟩:=hw
 unfold RM.loads RM.cells at h
 split at h <;> first | (cases h; done) | skip
 rename_i l hl
 split at h <;> first | (cases h; done) | skip
 rename_i hok
 cases h
 split at hl <;> first | (cases hl; done) | skip
 ·rename_i l0 opn elem fz hh
  cases hl
  rcases hA.blk b _ hh with⟨y,hy,hle⟩ | ⟨c,e,_⟩
  ·cases y <;> first | exact hle.elim | skip
   obtain⟨h1,rfl,rfl,rfl,h5⟩:=hle
   refine Go.Ab.fu hA.rel hb ?_
   unfold AW.loads
   rw[hy]
   exact Ae h5 k o (by omega)
  ·cases e
 ·rename_i c hh
  cases hl
  rcases hA.blk b _ hh with⟨y,hy,hle⟩ | ⟨c,e,hlt,elem,fr,hc⟩
  ·cases y <;> exact hle.elim
  ·cases e
   rw[hA.old b hlt] at hb
   cases hb
   simp only[List.length_map,Array.length_toList] at hok
   refine⟨(c.toList.drop o).take k, ?_,by simp; omega,fun j v hj=>?_⟩
   ·rw[← List.map_drop,← List.map_take]
    generalize (c.toList.drop o).take k=vs
    induction vs with
    | nil=>exact .nil
    | cons v vs ih=>exact .cons _ _ _ _ (E9 hA.old v) ih
   ·rw[cZ,World.cell?,hc]
    rw[List.getElem?_take] at hj
    split at hj
    ·rw[List.getElem?_drop] at hj
     simp only[Nat.zero_add]
     simpa using hj
    ·cases hj
theorem RM.jw (hw:bn P ρ M w) {b o k:Nat} {i:eu} {xs:List AV} (hb:ρ b=some i) (h:M.loads b o k=some xs) :
  ∃ vs,aJ ρ xs vs∧vs.length=k∧(∀ j v,vs[j]?=some v→w.cell? ((⟨i.cb,i.sh + o,none⟩ : Addr).add j)=some v)∧(loadCells ⟨i.cb,i.sh + o,none⟩ k).run P w=.ok ⟨vs⟩ w:=by
 obtain⟨vs,h1,h2,h3⟩:=RM.fu hw hb h
 exact⟨vs,h1,h2,h3,by have:=run_loadCells_list (P:=P) w ⟨i.cb,i.sh + o,none⟩ vs h3; rw[h2] at this; exact this⟩
theorem jq:∀ (vs:List AV) (t:Tree AV) (o:Nat),vs.all oneCell=true→∃ t',jl t o vs=some t'
 | [],t,o,_=>⟨t,rfl⟩
 | v :: vs,t,o,h=>by
   simp only[List.all_cons,Bool.and_eq_true] at h
   obtain⟨t',ht⟩:=jq vs (t.set o v) (o + 1) h.2
   exact⟨t',by simp only[jl,h.1]; exact ht⟩
theorem RM.FH (h:qB P ρ M w A) {b o:Nat} {vs:List AV} (hs:M.stores b o vs=some M') :
  ∃ A',A.stores b o vs=some A'∧M'.base=M.base∧A'.next=M'.next∧M'.next=M.next ∧
    ∀ c x,M'.heap c=some x→(∃ y,A'.heap.get c=some y∧uM x y)∨∃ d,x=.ro d∧M.heap c=some x:=by
 unfold RM.stores at hs
 split at hs <;> first | (cases hs; done) | skip
 rename_i l opn elem fz hh
 split at hs <;> first | (cases hs; done) | skip
 rename_i hc
 obtain⟨c1,c2,c3⟩:=hc
 cases hs
 rcases h.blk b _ hh with⟨y,hy,hle⟩ | ⟨c,e,_⟩
 ·cases y <;> first | exact hle.elim | skip
  rename_i n tree zs Fu jy fz'
  obtain⟨h1,rfl,rfl,rfl,h5⟩:=hle
  obtain⟨t',ht⟩:=jq vs tree o c3
  obtain⟨_,hget⟩:=ed _ _ _ ht
  refine⟨{ A with heap:=A.heap.set b (.row n t' zs Fu jy fz') }, ?_,rfl,h.next,rfl,fun c x hx=>?_⟩
  ·unfold AW.stores
   rw[hy]
   simp only
   rw[aO.2 (by omega),aO.2 c2,ht]
  ·simp only[RM.put] at hx
   simp only[Tree.aT]
   by_cases e:c=b
   ·subst e
    rw[if_pos rfl] at hx ⊢
    cases hx
    refine .inl ⟨_,rfl, ?_,rfl,rfl,rfl,fun k v hk=>?_⟩
    ·simp; omega
    ·rw[ma hget]
     by_cases hin:o≤k∧k<o + vs.length
     ·rw[if_pos hin,if_pos (by omega)]
      rw[List.append_assoc,List.getElem?_append_right (by simp; omega),List.getElem?_append_left (by simp; omega)] at hk
      rw[← hk]; congr 1; simp; omega
     ·rw[if_neg hin]
      refine h5 k v ?_
      rw[← hk]
      by_cases hlt:k<o
      ·rw[List.append_assoc,List.getElem?_append_left (by simp; omega),List.getElem?_take,if_pos hlt]
      ·rw[List.getElem?_append_right (by simp; omega),List.getElem?_drop]
       congr 1; simp; omega
   ·rw[if_neg e] at hx ⊢
    rcases h.blk c x hx with⟨y,a,b⟩ | ⟨d,e',_⟩
    ·exact .inl ⟨y,a,b⟩
    ·exact .inr ⟨d,e',hx⟩
 ·cases e
theorem RM.xU (h:qB P ρ M w A) {x:RB} {y:dm} (hx:uM x y) :
  (M.push x).base=M.base∧(A.push y).next=(M.push x).next ∧
   ∀ c z,(M.push x).heap c=some z→(∃ u,(A.push y).heap.get c=some u∧uM z u)∨∃ d,z=.ro d∧M.heap c=some z:=by
 refine⟨rfl,by simp[AW.push,RM.push,h.next],fun c z hz=>?_⟩
 simp only[RM.push] at hz
 simp only[AW.push,Tree.aT,h.next]
 by_cases e:c=M.next
 ·subst e
  rw[if_pos rfl] at hz ⊢
  cases hz
  exact .inl ⟨y,rfl,hx⟩
 ·rw[if_neg e] at hz ⊢
  rcases h.blk c z hz with⟨u,a,b⟩ | ⟨d,e',_⟩
  ·exact .inl ⟨u,a,b⟩
  ·exact .inr ⟨d,e',hz⟩
theorem bn.VP (h:bn P ρ M w) (x:RB) (y:dm) (hx:uM x y) : bn P ρ (M.push x) w:=by
 obtain⟨A,hA⟩:=h
 obtain⟨h1,h2,h3⟩:=RM.xU hA hx
 refine⟨A.push y,h2,qo hA.rel y,hA.size,fun b z hz=>?_,hA.old⟩
 rcases h3 b z hz with k | ⟨d,rfl,k⟩
 ·exact .inl k
 ·rcases hA.blk b _ k with⟨u,_,hu⟩ | k2
  ·cases u <;> exact hu.elim
  ·exact .inr k2
end
abbrev N (k:IntKind) (n:Int) : AV:=.sc (.int k n)
abbrev Bo (b:Bool) : AV:=.sc (.bool b)
abbrev St (l:List UInt8) : AV:=.sc (.string ⟨⟨l⟩⟩)
def ug (op:BinOp) (k:IntKind) (a b:Int) : Option Value :=
 match op with
 | .add=>some (.int k (k.wrap (a + b)))
 | .sub=>some (.int k (k.wrap (a - b)))
 | .mul=>some (.int k (k.wrap (a * b)))
 | .quo=>if b=0 then none else some (.int k (k.wrap (a.tdiv b)))
 | .rem=>if b=0 then none else some (.int k (a.tmod b))
 | .and=>some (.int k (k.wrap (BitVec.ofInt k.bits a &&& BitVec.ofInt k.bits b).toNat))
 | .or=>some (.int k (k.wrap (BitVec.ofInt k.bits a ||| BitVec.ofInt k.bits b).toNat))
 | .xor=>some (.int k (k.wrap (BitVec.ofInt k.bits a ^^^ BitVec.ofInt k.bits b).toNat))
 | .andNot=>some (.int k (k.wrap (BitVec.ofInt k.bits a &&& ~~~BitVec.ofInt k.bits b).toNat))
 | .eql=>some (.bool (a == b))
 | .neq=>some (.bool (a != b))
 | .lss=>some (.bool (decide (a<b)))
 | .leq=>some (.bool (decide (a≤b)))
 | .gtr=>some (.bool (decide (a > b)))
 | .geq=>some (.bool (decide (a ≥ b)))
 | _=>none
def Gb (op:BinOp) (k:IntKind) (a b:Int) : Option Value :=
 if b<0 then none else
 match op with
 | .shl=>some (.int k (k.wrap (a * 2 ^ (min b.toNat k.bits))))
 | .shr=>some (.int k (a.fdiv (2 ^ (min b.toNat k.bits))))
 | _=>none
def ae (op:BinOp) (x y:AV) (K:AV→Prop) : Prop:=∃ k a b v,x=N k a∧y=N k b∧ug op k a b=some v∧K (.sc v)
def iG (op:BinOp) (x y:AV) (K:AV→Prop) : Prop:=∃ k a l b v,x=N k a∧y=N l b∧Gb op k a b=some v∧K (.sc v)
def iY (op:BinOp) (x y:AV) (K:AV→Prop) : Prop:=∃ a b v,x=St a∧y=St b∧zJ op a b=some v∧K v
def DL (neg:Bool) (x y:AV) (K:AV→Prop) : Prop:=∃ a b,x=Bo a∧y=Bo b∧K (Bo ((a == b) != neg))
def uV:AV→AV→Option Bool
 | .ptr b o,.ptr c p=>if b=c then some (decide (o=p)) else none
 | .ptr _ _,.sc (.pointer none)=>some false
 | .sc (.pointer none),.ptr _ _=>some false
 | .sc (.pointer none),.sc (.pointer none)=>some true
 | .slc _ _ _ _,.sc (.slice none 0 0)=>some false
 | .emp _,.sc (.slice none 0 0)=>some false
 | .sc (.slice none 0 0),.sc (.slice none 0 0)=>some true
 | .map _,.sc (.map none)=>some false
 | .sc (.map none),.sc (.map none)=>some true
 | .fn _ _ _,.sc .nilFunc=>some false
 | .sc .nilFunc,.sc .nilFunc=>some true
 | .ifc _ _,.sc .nilIface=>some false
 | _,_=>none
def xQ (P:Program) (t:TypeId) : Nat :=
 match P.underlying t with
 | some (.pointer el)=>match aV P el with | some (_ + 1)=>1 | _=>0
 | some (.slice _)=>2
 | some (.map _ _)=>3
 | some (.func _ _ _)=>4
 | some (.interface _)=>5
 | _=>0
def Kh:AV→Nat
 | .ptr _ _ | .sc (.pointer none)=>1
 | .slc _ _ _ _ | .emp _ | .sc (.slice none 0 0)=>2
 | .map _ | .sc (.map none)=>3
 | .fn _ _ _ | .sc .nilFunc=>4
 | .ifc _ _=>5
 | _=>6
def eZ (neg:Bool) (tag:Nat) (x y:AV) (K:AV→Prop) : Prop:=Kh x=tag∧∃ r,uV x y=some r∧K (Bo (r != neg))
def X6 (neg:Bool) (x y:AV) (K:AV→Prop) : Prop:=eZ neg 5 x y K∨(x=.sc .nilIface∧y=.sc .nilIface∧K (Bo (!neg)))
def Y1:Operand→Bool
 | .const _=>true
 | _=>false
def Gy (neg:Bool) (tag:Nat) (y:Operand) (x u:AV) (K:AV→Prop) : Prop:=match Nat.beq tag 5 && Y1 y with
 | true=>X6 neg x u K
 | false=>eZ neg tag x u K
def tN (P:Program) (g:TypeId→Option (List Nat)) : List Field→Nat→Option (List Nat)
 | [],_=>some []
 | f :: fs,off=>match f.name == "_",Nat.beq f.offset off,g f.type,aV P f.type with
   | false,true,some ks,some n=>match Nat.beq n ks.length,tN P g fs (off + n) with
     | true,some r=>some (ks++r)
     | _,_=>none
   | _,_,_,_=>none
def iB (P:Program) : Nat→TypeId→Option (List Nat)
 | 0,_=>none
 | d + 1,t=>match P.underlying t with
   | some (.int _)=>some [1]
   | some .string=>some [2]
   | some .bool=>some [3]
   | some (.struct fs)=>match P.stoodInHeld t with
     | true=>none
     | false=>tN P (iB P d) fs.toList 0
   | _=>none
def OE (P:Program) (t:TypeId) : Option (List Nat) :=
 match P.eqGuardType P.depth t with
 | true=>none
 | false=>iB P 10 t
def oh:Nat→AV→AV→Option Bool
 | 1,.sc (.int k a),.sc (.int l b)=>if k=l then some (a == b) else none
 | 2,.sc (.string a),.sc (.string b)=>some (a.data.toList == b.data.toList)
 | 3,.sc (.bool a),.sc (.bool b)=>some (a == b)
 | _,_,_=>none
def cK:List Nat→List AV→List AV→Option Bool
 | [],[],[]=>some true
 | k :: ks,x :: xs,y :: ys=>match oh k x y with
   | some true=>cK ks xs ys
   | some false=>some false
   | none=>none
 | _,_,_=>none
def Bn (neg:Bool) (ks:List Nat) (x y:AV) (K:AV→Prop) : Prop:=∃ cs ds r,x=.agg cs∧y=.agg ds∧cs.length=ks.length∧ds.length=ks.length∧cK ks cs ds=some r∧K (Bo (r != neg))
def aY (c a b:AV) (K:AV→Prop) : Prop:=∃ t,c=Bo t∧K (if t then a else b)
def ek (x:AV) (K:AV→Prop) : Prop:=∃ b o,x=.ptr b o∧K (.ptr b o)
def fe (x:AV) (n:Nat) (K:AV→Prop) : Prop:=∃ b o,x=.ptr b o∧K (.ptr b (o + n))
def aZ (x i:AV) (size:Nat) (K:AV→Prop) : Prop:=∃ b p len cap k n,x=.slc b p len cap∧i=N k n∧0≤n∧n<len∧K (.ptr b (p + n.toNat * size))
def bE (x i:AV) (len size:Nat) (K:AV→Prop) : Prop:=∃ b p k n,x=.ptr b p∧i=N k n∧0≤n∧n<len∧K (.ptr b (p + n.toNat * size))
def PQ (x:AV) (off:Nat) (K:AV→Prop) : Prop:=∃ cs v,x=.agg cs∧cs[off]?=some v∧K v
def Oy (x:AV) (off n:Nat) (K:AV→Prop) : Prop:=∃ cs,x=.agg cs∧off + n≤cs.length∧K (.agg ((cs.drop off).take n))
def G8 (x i:AV) (len:Nat) (K:AV→Prop) : Prop:=∃ cs k n v,x=.agg cs∧i=N k n∧0≤n∧n<len∧cs[n.toNat]?=some v∧K v
def Qd (x i:AV) (len size:Nat) (K:AV→Prop) : Prop:=∃ cs k n,x=.agg cs∧i=N k n∧0≤n∧n<len∧n.toNat * size + size≤cs.length∧K (.agg ((cs.drop (n.toNat * size)).take size))
def uK (x i:AV) (K:AV→Prop) : Prop:=∃ s k n b,x=St s∧i=N k n∧0≤n∧s[n.toNat]?=some b∧K (N .u8 b.toNat)
def bz (x:AV) (i:Nat) (K:AV→Prop) : Prop:=∃ vs v,x=.tup vs∧vs[i]?=some v∧K v
def bnd (d:Nat) : Option AV→Option Nat
 | none=>some d
 | some (.sc (.int _ n))=>if 0≤n then some n.toNat else none
 | _=>none
def dz (size:Nat) (x:AV) (lo hi mx:Option AV) : Option AV :=
 match x with
 | .slc b o len cap =>
   match bnd 0 lo,bnd len hi with
   | some l,some h =>
     match mx with
     | none=>match cap with
       | .ex c=>if l≤h∧h≤c then(if c=l then some (.slc b o 0 (.ex 0)) else some (.slc b (o + l * size) (h - l) (.ex (c - l)))) else none
       | .op esz=>if l≤h∧h≤len∧size=esz then(if len≤l then some (.emp b) else some (.slc b (o + l * size) (h - l) (.op esz))) else none
     | some y=>match hi,bnd 0 (some y) with
       | some _,some m=>if l≤h∧h≤m∧m≤(match cap with | .ex c=>c | .op _=>len) then(if m=l then some (.slc b o 0 (.ex 0)) else some (.slc b (o + l * size) (h - l) (.ex (m - l)))) else none
       | _,_=>none
   | _,_=>none
 | .emp b=>match bnd 0 lo,bnd 0 hi,mx with
   | some 0,some 0,none=>some (.emp b)
   | _,_,_=>none
 | .sc (.slice none 0 0)=>match bnd 0 lo,bnd 0 hi,mx with
   | some 0,some 0,none=>some x
   | some 0,some 0,some y=>match hi,bnd 0 (some y) with
     | some _,some 0=>some x
     | _,_=>none
   | _,_,_=>none
 | _=>none
def zF (n size:Nat) (x:AV) (lo hi:Option AV) : Option AV :=
 match x with
 | .ptr b o=>match bnd 0 lo,bnd n hi with
   | some l,some h=>if l≤h∧h≤n then(if n=l then some (.slc b o 0 (.ex 0)) else some (.slc b (o + l * size) (h - l) (.ex (n - l)))) else none
   | _,_=>none
 | _=>none
def QM (x:AV) (lo hi:Option AV) : Option AV :=
 match x with
 | .sc (.string s)=>match bnd 0 lo,bnd s.data.toList.length hi with
   | some l,some h=>if l≤h∧h≤s.data.toList.length then some (St ((s.data.toList.drop l).take (h - l))) else none
   | _,_=>none
 | _=>none
def iN (r:Option AV) (K:AV→Prop) : Prop:=∃ v,r=some v∧K v
def lc:List AV→List (Nat × Nat × AV)→Option (List AV)
 | cs,[]=>some cs
 | cs,(off,size,v) :: rest=>if known v=true∧v.cells.length=size∧off + size≤cs.length then lc (cs.take off++v.cells++cs.drop (off + size)) rest else none
def jf (cs:List AV) (parts:List (Nat × Nat × AV)) (K:AV→Prop) : Prop:=∃ cs',lc cs parts=some cs'∧K (.agg cs')
def dL (k:IntKind) (x:AV) (K:AV→Prop) : Prop:=∃ l n,x=N l n∧K (N k (k.wrap n))
def isStr (x:AV) (K:AV→Prop) : Prop:=∃ s,x=St s∧K (St s)
def Pz (x:AV) (K:AV→Prop) : Prop:=∃ l n,x=N l n∧K (St (Utf8.encode n).data.toList)
def Yw (M:RM) (x:AV) (K:AV→Prop) : Prop:=∃ b p l opn el fz,x=.ptr b p∧M.heap b=some (.row l opn el fz)∧p + 1≤l.length∧K (.ptr b p)
def YR (el cells:Nat) (M:RM) (x:AV) (K:AV→Prop) : Prop:=∃ b l opn fz,x=.ptr b 0∧M.heap b=some (.row l opn el fz)∧l.length=cells∧K (.ptr b 0)
def Rp (x:AV) (K:AV→Prop) : Prop :=
 match x with
 | .sc (.slice none 0 0)=>K (.sc (.pointer none))
 | .slc b p _ (.ex (_ + 1))=>K (.ptr b p)
 | .slc b p (_ + 1) (.op _)=>K (.ptr b p)
 | _=>False
def UH:AV→Option Nat
 | .slc _ _ n _=>some n
 | .emp _=>some 0
 | .sc (.slice none 0 0)=>some 0
 | _=>none
def bA (x:AV) (K:AV→Prop) : Prop:=∃ n:Nat,UH x=some n∧K (N .i64 n)
def CY (x:AV) (K:AV→Prop) : Prop:=∃ s,x=St s∧K (N .i64 s.length)
def Ms (x:AV) (K:AV→Prop) : Prop:=∃ n,(match x with | .slc _ _ _ (.ex c)=>some c | .sc (.slice none 0 0)=>some 0 | _=>none)=some n∧K (N .i64 (n:Nat))
def EC (mx:Bool) (x y:AV) (K:AV→Prop) : Prop:=∃ k a b,x=N k a∧y=N k b∧K (N k (if mx then(if b > a then b else a) else(if b<a then b else a)))
def kS (x:AV) (K:AV→Prop) : Prop:=∃ b,x=Bo b∧K (Bo (!b))
def CS (x:AV) (K:AV→Prop) : Prop:=∃ k n,x=N k n∧K (N k (k.wrap (BitVec.ofInt k.bits (if k.signed then -1 else k.max) ^^^ BitVec.ofInt k.bits n).toNat))
def OH (x:AV) (K:AV→Prop) : Prop:=∃ k n,x=N k n∧K (N k (k.wrap (0 - n)))
def Mq (n:Nat) (x:AV) (K:AV→Prop) : Prop:=∃ b p len cap,x=.slc b p len cap∧n≤len∧K (.ptr b p)
def ag (M:RM) (x:AV) (K:AV→Prop) : Prop:=∃ b o v,x=.ptr b o∧M.loads b o 1=some [v]∧K v
def dK (M:RM) (x:AV) (n:Nat) (K:AV→Prop) : Prop:=∃ b o vs,x=.ptr b o∧M.loads b o n=some vs∧K (.agg vs)
def zX (M:RM) (x:AV) : Option (List UInt8) :=
 match x with
 | .slc b p len _=>match M.loads b p len with
   | some vs=>bS byteOf vs
   | none=>none
 | .emp _=>some []
 | .sc (.slice none 0 0)=>some []
 | _=>none
def eD (M:RM) (x:AV) (K:AV→Prop) : Prop:=∃ s,zX M x=some s∧K (St s)
def LD (M:RM) (x:AV) (K:AV→Prop) : Prop:=∃ b m since seen es cl n e,x=.ptr b 0∧M.heap b=some (.iter (some m) since (seen++[n]) cl)∧M.heap m=some (.map es cl)∧es.find? (fun e=>e.2.2 == n)=some e∧K (.tup [e.1,e.2.1])
def Vw (t:TypeId) (ok:Bool) (x:AV) (K:AV→Prop) : Prop:=∃ v,x=.ifc t v∧K (if ok then .tup [v,Bo true] else v)
def V8 (M:RM) (x:AV) (K:AV→Prop) : Prop:=∃ b es c,x=.map b∧M.heap b=some (.map es c)∧K (N .i64 es.length)
def eG:Bool→AV→Option (List AV)
 | true,.agg cs=>some cs
 | true,_=>none
 | false,v=>some [v]
def jv (a:Bool) (ks:List Nat) (k:List AV) : List (AV × AV × Nat)→Nat→Option (Option (Nat × AV))
 | [],_=>some none
 | (ka,va,_) :: es,i=>match eG a ka with
   | some cs=>if cs.length=ks.length then match cK ks k cs with
     | some true=>some (some (i,va))
     | some false=>jv a ks k es (i + 1)
     | none=>none
     else none
   | none=>none
def iC (a:Bool) (ks:List Nat) (z:AV) (ok:Bool) (M:RM) (x k:AV) (K:AV→Prop) : Prop :=
 ∃ b es c kc r,x=.map b∧M.heap b=some (.map es c)∧eG a k=some kc∧kc.length=ks.length∧jv a ks kc es 0=some r∧K (match r with | some (_,va)=>gI va true ok | none=>gI z false ok)
def U2 (P:Program) (t:TypeId) : Option AV :=
 match bg P (zeroValue t) with
 | some z=>gV z
 | none=>none
def Qr (P:Program) (o:Oper) (e:Operand→AV) (K:AV→Prop) : Prop:=∃ v,aB P o e=some v∧K v
def dh (P:Program) (o:Oper) (e:Operand→AV) (M:RM) (K:AV→Prop) : Prop :=
 match o.op with
 | .move x | .assign x=>K (e x)
 | .pick c a b=>aY (e c) (e a) (e b) K
 | .nilCheck x=>ek (e x) K
 | .fieldAddr s x f=>match P.underlying s with
   | some (.struct fields)=>match fields[f]? with
     | some fd=>match aV P fd.type with
       | some (_ + 1)=>fe (e x) fd.offset K
       | _=>False
     | none=>False
   | _=>False
 | .indexAddr t x ix=>match P.underlying t with
   | some (.slice elem)=>match aV P elem with
     | some size=>aZ (e x) (e ix) size K
     | none=>False
   | some (.array len elem)=>match aV P elem with
     | some size=>bE (e x) (e ix) len size K
     | none=>False
   | _=>False
 | .field t x f=>match P.underlying t with
   | some (.struct fields)=>match fields[f]? with
     | some fd=>match bU P fd.type with
       | some false=>PQ (e x) fd.offset K
       | some true=>match aV P fd.type with
         | some n=>Oy (e x) fd.offset n K
         | none=>False
       | none=>False
     | none=>False
   | _=>False
 | .index t x ix=>match P.underlying t with
   | some .string=>uK (e x) (e ix) K
   | some (.array len elem)=>match bU P elem with
     | some false=>match aV P elem with
       | some 1=>G8 (e x) (e ix) len K
       | _=>False
     | some true=>match aV P elem with
       | some n=>Qd (e x) (e ix) len n K
       | none=>False
     | none=>False
   | _=>False
 | .slice t x lo hi mx=>match P.underlying t with
   | some .string=>match mx with
     | none=>iN (QM (e x) (lo.map e) (hi.map e)) K
     | some _=>False
   | some (.slice elem)=>match aV P elem with
     | some size=>iN (dz size (e x) (lo.map e) (hi.map e) (mx.map e)) K
     | none=>False
   | some (.array n elem)=>match aV P elem,mx with
     | some size,none=>iN (zF n size (e x) (lo.map e) (hi.map e)) K
     | _,_=>False
   | _=>False
 | .sliceToArrayPointer arr x=>match P.underlying arr with
   | some (.array n _)=>Mq n (e x) K
   | _=>False
 | .extract x i=>bz (e x) i K
 | .makeInterface t x=>match P.underlying t with
   | some (.interface _)=>False
   | some _=>K (.ifc t (e x))
   | none=>False
 | .makeFunc f first captured=>match f with
   | .yield _=>False
   | _=>K (.fn f (first.toList.map e) (captured.toList.map e))
 | .build t parts=>match P.info? t,P.underlying t with
   | some it,some (.array _ el)=>match it.zero,P.info? el with
     | some z,some ie=>match gV z with
       | some (.agg cs)=>jf cs (parts.toList.map fun p=>(p.1 * ie.size,ie.size,e p.2)) K
       | _=>False
     | _,_=>False
   | some it,some (.struct fields)=>match it.zero,fields.toList.mapM (fun f=>(P.info? f.type).map fun i=>(f.offset,i.size)) with
     | some z,some places=>match gV z,bS (fun(p:Nat × Operand)=>match nth places p.1 with | some pl=>some (pl.1,pl.2,e p.2) | none=>none) parts.toList with
       | some (.agg cs),some ps=>jf cs ps K
       | _,_=>False
     | _,_=>False
   | _,_=>False
 | .binOp op t x y _=>match P.underlying t with
   | some (.int _)=>match op with
     | .shl | .shr=>iG op (e x) (e y) K
     | _=>ae op (e x) (e y) K
   | some .string=>iY op (e x) (e y) K
   | some .bool=>match op with
     | .eql=>DL false (e x) (e y) K
     | .neq=>DL true (e x) (e y) K
     | _=>False
   | some (.struct _)=>match OE P t,op with
     | some ks,.eql=>Bn false ks (e x) (e y) K
     | some ks,.neq=>Bn true ks (e x) (e y) K
     | _,_=>False
   | some (.array _ _)=>Qr P o e K
   | _=>match op,xQ P t with
     | _,0=>Qr P o e K
     | .eql,tag=>Gy false tag y (e x) (e y) K
     | .neq,tag=>Gy true tag y (e x) (e y) K
     | _,_=>False
 | .convert src dst x=>match P.underlying src,P.underlying dst with
   | some (.int _),some (.int k)=>dL k (e x) K
   | some .string,some .string=>isStr (e x) K
   | some (.int _),some .string=>Pz (e x) K
   | some (.slice el),some .string=>match P.underlying el with
     | some (.int .u8)=>eD M (e x) K
     | _=>False
   | some (.pointer t),some .unsafePointer=>match aV P t with
     | some (_ + 1)=>Yw M (e x) K
     | _=>False
   | some .unsafePointer,some (.pointer u)=>match aV P u,Nat.ble 1 (P.cellsOf u),liesAt P P.depth u 1 0 u 1 with
     | some (_ + 1),true,true=>YR u (P.cellsOf u) M (e x) K
     | _,_,_=>False
   | _,_=>Qr P o e K
 | .call { callee:=.builtin .len,args,argTypes } => match argTypes[0]?,args[0]? with
   | some t,some x=>match P.underlying t with
     | some (.slice _)=>bA (e x) K
     | some .string=>CY (e x) K
     | some (.map _ _)=>V8 M (e x) K
     | _=>False
   | _,_=>False
 | .call { callee:=.builtin .cap,args,argTypes } => match argTypes[0]?,args[0]? with
   | some t,some x=>match P.underlying t with
     | some (.slice _)=>Ms (e x) K
     | _=>False
   | _,_=>False
 | .call { callee:=.builtin .unsafeSliceData,args,.. } => match args with
   | ⟨[x]⟩=>Rp (e x) K
   | _=>False
 | .call { callee:=.builtin .min,args,.. } => match args with
   | ⟨[x,y]⟩=>EC false (e x) (e y) K
   | _=>False
 | .call { callee:=.builtin .max,args,.. } => match args with
   | ⟨[x,y]⟩=>EC true (e x) (e y) K
   | _=>False
 | .unOp op _ x=>match op with
   | .not=>kS (e x) K
   | .neg=>OH (e x) K
   | .xor=>CS (e x) K
   | _=>Qr P o e K
 | .lookup t x k ok=>match P.underlying t with
   | some (.map kt et)=>match iB P 10 kt,bU P kt,U2 P et with
     | some ks,some a,some z=>iC a ks z ok M (e x) (e k) K
     | _,_,_=>False
   | _=>False
 | .entry it=>LD M (e it) K
 | .typeAssert x _ t ok=>match P.underlying t with
   | some (.interface _)=>False
   | some _=>Vw t ok (e x) K
   | none=>False
 | .load t x=>match bU P t with
   | some false=>ag M (e x) K
   | some true=>match aV P t with
     | some n=>dK M (e x) n K
     | none=>False
   | none=>False
 | _=>False
section
variable {P:Program} {ρ:Ren} {o:Oper} {e:Operand→AV} {c:Operand→Value} {M:RM} {K:AV→Prop}
def RM.Sub (M M' : RM) : Prop:=M'.base=M.base∧∀ b x,M.heap b=some x→M'.heap b=some x
theorem RM.Sub.refl (M:RM) : M.Sub M:=⟨rfl,fun _ _ h=>h⟩
theorem RM.Sub.trans {M M1 M2:RM} (h:M.Sub M1) (k:M1.Sub M2) : M.Sub M2:=⟨k.1.trans h.1,fun b x hx=>k.2 b x (h.2 b x hx)⟩
theorem RM.Sub.loads {M M' : RM} (h:M.Sub M') {b o k:Nat} {xs:List AV} (hl:M.loads b o k=some xs) : M'.loads b o k=some xs:=by
 unfold RM.loads RM.cells at hl ⊢
 cases hh:M.heap b with
 | none=>simp[hh] at hl
 | some x =>
   rw[hh] at hl
   have hlo:M'.lo=M.lo:=congrArg Base.n h.1
   rw[h.2 b x hh,hlo]
   exact hl
def ji (P:Program) (o:Oper) (e:Operand→AV) (M:RM) (v:AV) : Prop :=
 ∀ ρ w c M',M.Sub M'→bn P ρ M' w→(∀ x∈o.op.operands,af ρ (e x) (c x))→Ht P ρ w o c v
theorem aC {v:AV} (h:aB P o e=some v) : (∀ M',ji P o e M' v)∨(kindOf P o=.read∧ji P o e M v):=.inl fun _ _ w _ _ _ _ he=>(iV he h).at
theorem bu {α β:Type} : ∀ (s:Sem α) (f:α→Sem β) (a:α),bg P s=some a→bg P (s >>= f)=bg P (f a)
 | .pure b,f,a,h=>by simp[bg] at h; subst h; rfl
 | .program k,f,a,h=>by
   simp only[bg] at h
   exact bu (k P) f a h
 | .mark m k,f,a,h=>by
   simp only[bg] at h
   exact bu k f a h
 | .load ..,_,a,h | .store ..,_,a,h | .new ..,_,a,h | .shape ..,_,a,h | .freeze ..,_,a,h | .frozen ..,_,a,h | .getObj ..,_,a,h
 | .setObj ..,_,a,h | .choose ..,_,a,h | .sys ..,_,a,h | .halt ..,_,a,h=>by simp[bg] at h
theorem jZ {u:Value} {v:AV} {l:List Value} (hl:bS (fun x=>cz (e x)) o.op.operands.toList=some l)
  (h:bg P (execOp (fun x=>(cz (e x)).getD default) o)=some (.value u)) (hv:gV u=some v) : iJ P o e=some v:=by
 unfold iJ; rw[hl]; simp only[h,hv]
theorem jT {op:BinOp} {t yt:TypeId} {x y:Operand} {a b u:Value} (hop:o.op=.binOp op t x y yt) (hx:cz (e x)=some a) (hy:cz (e y)=some b)
  (hg:bg P (eqGuard op t x y a b)=some ()) (hb:bg P (binOp op t a b)=some u) {v:AV} (hv:gV u=some v) : iJ P o e=some v:=by
 refine jZ (l:=[a,b]) (by rw[hop]; simp[Op.operands,bS,hx,hy]) (u:=u) ?_ hv
 simp only[execOp,hop,hx,hy,Option.getD_some]
 have h1:bg P (do eqGuard op t x y a b; binOp op t a b)=some u:=by rw[bu _ _ () hg]; exact hb
 exact(bu _ _ _ h1)
theorem Ej {op:BinOp} {t:TypeId} {x y:Operand} {k l:IntKind} {a b:Int} : bg P (eqGuard op t x y (.int k a) (.int l b))=some ():=by
 cases op <;> rfl
theorem CX {op:BinOp} {t:TypeId} {x y:Operand} {a b:Bool} : bg P (eqGuard op t x y (.bool a) (.bool b))=some ():=by
 cases op <;> rfl
theorem V5 {op:BinOp} {t yt:TypeId} {x y:Operand} {k:IntKind} {a b:Int} {u:Value} (hop:o.op=.binOp op t x y yt) (hx:e x=N k a) (hy:e y=N k b) (h:ug op k a b=some u) :
  aB P o e=some (.sc u):=by
 have hb:bg P (binOp op t (.int k a) (.int k b))=some u:=by
  cases op <;> simp only[ug] at h <;> first | (cases h; done) | skip
  case quo=>split at h <;> first | (cases h; done) | skip
            rename_i h0; cases h; simp[binOp,Op.intDiv,h0]; rfl
  case rem=>split at h <;> first | (cases h; done) | skip
            rename_i h0; cases h; simp[binOp,Op.intDiv,h0]; rfl
  all_goals (cases h; simp[binOp,Op.intArith,Op.intBits,Op.intCmp]; rfl)
 have hv:gV u=some (.sc u):=by
  cases op <;> simp only[ug] at h <;> first | (cases h; done) | (cases h; rfl) | (split at h <;> first | (cases h; done) | (cases h; rfl))
 unfold aB
 simp only[hop,hx,hy]
 exact jT hop (a:=.int k a) (b:=.int k b) (by rw[hx]; rfl) (by rw[hy]; rfl) Ej hb hv
theorem Rq {op:BinOp} {t yt:TypeId} {x y:Operand} {k l:IntKind} {a b:Int} {u:Value} (hop:o.op=.binOp op t x y yt) (hx:e x=N k a) (hy:e y=N l b) (h:Gb op k a b=some u) :
  aB P o e=some (.sc u):=by
 unfold Gb at h
 split at h <;> first | (cases h; done) | skip
 rename_i h0
 have hb:bg P (binOp op t (.int k a) (.int l b))=some u:=by
  split at h <;> first | (cases h; done) | skip
  all_goals (cases h; simp[binOp,Op.shift,h0]; rfl)
 have hv:gV u=some (.sc u):=by
  split at h <;> first | (cases h; done) | (cases h; rfl)
 unfold aB
 simp only[hop,hx,hy]
 exact jT hop (a:=.int k a) (b:=.int l b) (by rw[hx]; rfl) (by rw[hy]; rfl) Ej hb hv
theorem dD {t:TypeId} {d:TypeDesc} (h:P.underlying t=some d) : bg P (underlying t)=some d:=by
 have e:underlying t=.program (fun p=>match p.underlying t with | some d=>Sem.pure d | none=>stuck "no such type"):=rfl
 rw[e]
 simp only[bg,h]
theorem FQ {op:BinOp} {t yt:TypeId} {x y:Operand} {a b neg:Bool} (hop:o.op=.binOp op t x y yt) (hx:e x=Bo a) (hy:e y=Bo b) (ht:P.underlying t=some .bool) (h:(op=.eql∧neg=false)∨(op=.neq∧neg=true)) :
  aB P o e=some (Bo ((a == b) != neg)):=by
 have h1:bg P (Op.equal t (.bool a) (.bool b))=some (a == b):=by
  have h0:bg P (underlying t)=some .bool:=dD ht
  show bg P (Op.equalIn (9999 + 1) t (.bool a) (.bool b))=_
  rw[Op.equalIn,bu _ _ _ h0]
  rfl
 rcases h with⟨rfl,rfl⟩ | ⟨rfl,rfl⟩
 ·have hb:bg P (binOp .eql t (.bool a) (.bool b))=some (.bool (a == b)):=bu _ _ _ h1
  have:=jT (P:=P) (e:=e) hop (a:=.bool a) (b:=.bool b) (by rw[hx]; rfl) (by rw[hy]; rfl) CX hb (v:=Bo (a == b)) rfl
  unfold aB
  simp only[hop,hx,hy]
  simp only[lg]
  simpa using this
 ·have hb:bg P (binOp .neq t (.bool a) (.bool b))=some (.bool (!(a == b))):=bu _ _ _ h1
  have:=jT (P:=P) (e:=e) hop (a:=.bool a) (b:=.bool b) (by rw[hx]; rfl) (by rw[hy]; rfl) CX hb (v:=Bo (!(a == b))) rfl
  unfold aB
  simp only[hop,hx,hy]
  simp only[lg]
  simpa using this
theorem pG {k:IntKind} {n:Int} (h:0≤n) : fq (N k n)=some n.toNat:=by
 cases n with
 | ofNat m=>rfl
 | negSucc m=>omega
theorem Vk {op:BinOp} {t yt:TypeId} {x y:Operand} {neg r:Bool} {tag:Nat} (hop:o.op=.binOp op t x y yt) (wW:(op=.eql∧neg=false)∨(op=.neq∧neg=true)) (htag:xQ P t=tag) (h0:tag≠0) (ht:Kh (e x)=tag)
  (h:uV (e x) (e y)=some r) : aB P o e=some (Bo (r != neg)):=by
 have key:(lg P t (e x) (e y)=some r∨(lg P t (e x) (e y)=none∧iJ P o e=some (Bo (r != neg))))→(∀ k a,e x≠N k a)→(∀ s,e x≠.sc (.string s))→aB P o e=some (Bo (r != neg)):=by
  intro hk hn hs
  unfold aB
  simp only[hop]
  split
  ·rename_i k _ _ _ he _; exact absurd he (hn _ _)
  ·rename_i he _; exact absurd he (hs _)
  ·rename_i he _; exact absurd he (hn _ _)
  ·rcases wW with⟨rfl,rfl⟩ | ⟨rfl,rfl⟩
   ·rcases hk with hk | ⟨hk,hg⟩
    ·simp only[hk]; cases r <;> rfl
    ·simp only[hk]; exact hg
   ·rcases hk with hk | ⟨hk,hg⟩
    ·simp only[hk]; cases r <;> rfl
    ·simp only[hk]; exact hg
 have gen:∀ (a b:Value),e x=.sc a→e y=.sc b→cz (.sc a)=some a→cz (.sc b)=some b→(∀ op',bg P (eqGuard op' t x y a b)=some ())→bg P (Op.equal t a b)=some r →
   (binOp .eql t a b=(do pure (.bool (← Op.equal t a b))))→(binOp .neq t a b=(do pure (.bool (!(← Op.equal t a b)))))→iJ P o e=some (Bo (r != neg)):=by
  intro a b hx hy ha hb hg heq h1 h2
  rcases wW with⟨rfl,rfl⟩ | ⟨rfl,rfl⟩
  ·exact jT (P:=P) (e:=e) hop (a:=a) (b:=b) (by rw[hx]; exact ha) (by rw[hy]; exact hb) (hg _) (u:=.bool r) (by rw[h1]; exact bu _ _ _ heq) (by cases r <;> rfl)
  ·exact jT (P:=P) (e:=e) hop (a:=a) (b:=b) (by rw[hx]; exact ha) (by rw[hy]; exact hb) (hg _) (u:=.bool (!r)) (by rw[h2]; exact bu _ _ _ heq) (by cases r <;> rfl)
 have aaf:∀ d,P.underlying t=some d→bg P (underlying t)=some d:=fun d hd=>dD hd
 unfold xQ at htag
 generalize hex:e x=ex at h ht key gen
 generalize hey:e y=ey at h key gen
 unfold uV at h
 split at h <;> first | (cases h; done) | skip
 all_goals first | (split at h <;> first | (cases h; done) | skip) | skip
 all_goals
  cases h
  simp only[Kh] at ht
  subst ht
  split at htag <;> first | (cases htag; done) | (split at htag <;> cases htag; done) | skip
 all_goals
  first
   | (rename_i hu
      refine key (.inl ?_) (by intro k a h; cases h) (by intro s h; cases h)
      simp only[lg,hu]
      done)
   | (rename_i hu
      refine key (.inr ⟨rfl, ?_⟩) (by intro k a h; cases h) (by intro s h; cases h)
      refine gen _ _ rfl rfl rfl rfl (fun op'=>by cases op' <;> rfl) ?_ rfl rfl
      show bg P (Op.equalIn (9999 + 1) t _ _)=_
      rw[Op.equalIn,bu _ _ _ (aaf _ hu)]
      rfl
      done)
   | skip
 ·rename_i heq _ el hu
  split at htag <;> first | (cases htag; done) | skip
  rename_i n hs
  refine key (.inl ?_) (by intro k a h; cases h) (by intro s h; cases h)
  subst heq
  simp only[lg,hu,hs,DD,decide_true]
theorem V4 {op:BinOp} {t yt:TypeId} {x y:Operand} {neg:Bool} (hop:o.op=.binOp op t x y yt) (wW:(op=.eql∧neg=false)∨(op=.neq∧neg=true)) (htag:xQ P t=5) (hc:Y1 y=true) (hx:e x=.sc .nilIface)
  (hy:e y=.sc .nilIface) : aB P o e=some (Bo (!neg)):=by
 obtain⟨v,rfl⟩ : ∃ v,y=.const v:=by cases y <;> first | exact⟨_,rfl⟩ | cases hc
 have hg:∀ op',bg P (eqGuard op' t x (.const v) .nilIface .nilIface)=some ():=by intro op'; cases op' <;> cases x <;> rfl
 have hu:∃ ms,P.underlying t=some (.interface ms):=by
  unfold xQ at htag
  split at htag <;> first | (split at htag <;> cases htag; done) | (cases htag; done) | skip
  rename_i ms hu
  exact⟨ms,hu⟩
 obtain⟨ms,hu⟩:=hu
 have heq:bg P (Op.equal t .nilIface .nilIface)=some true:=by
  show bg P (Op.equalIn (9999 + 1) t _ _)=_
  rw[Op.equalIn,bu _ _ _ (dD hu)]
  rfl
 have gen:iJ P o e=some (Bo (!neg)):=by
  rcases wW with⟨rfl,rfl⟩ | ⟨rfl,rfl⟩
  ·exact jT (P:=P) (e:=e) hop (a:=.nilIface) (b:=.nilIface) (by rw[hx]; rfl) (by rw[hy]; rfl) (hg _) (u:=.bool true) (by
    have e1:binOp .eql t .nilIface .nilIface=(do pure (Value.bool (← Op.equal t .nilIface .nilIface))):=rfl
    rw[e1]
    exact bu _ _ _ heq) rfl
  ·exact jT (P:=P) (e:=e) hop (a:=.nilIface) (b:=.nilIface) (by rw[hx]; rfl) (by rw[hy]; rfl) (hg _) (u:=.bool false) (by
    have e1:binOp .neq t .nilIface .nilIface=(do pure (Value.bool (!(← Op.equal t .nilIface .nilIface)))):=rfl
    rw[e1]
    exact bu _ _ _ heq) rfl
 unfold aB
 simp only[hop,hx,hy]
 rcases wW with⟨rfl,rfl⟩ | ⟨rfl,rfl⟩
 ·simp only[lg]; exact gen
 ·simp only[lg]; exact gen
theorem I9 {op:BinOp} {t yt:TypeId} {x y:Operand} {neg:Bool} {tag:Nat} {K:AV→Prop} (hop:o.op=.binOp op t x y yt) (wW:(op=.eql∧neg=false)∨(op=.neq∧neg=true)) (htag:xQ P t=tag) (h0:tag≠0)
  (h:Gy neg tag y (e x) (e y) K) : ∃ r,aB P o e=some r∧K r:=by
 have old:eZ neg tag (e x) (e y) K→∃ r,aB P o e=some r∧K r:=fun⟨ht,r,hr,hk⟩=>⟨_,Vk hop wW htag h0 ht hr,hk⟩
 unfold Gy at h
 split at h
 ·rename_i hc
  rw[Bool.and_eq_true] at hc
  have h5:tag=5:=Nat.eq_of_beq_eq_true hc.1
  subst h5
  rcases h with h | ⟨hx,hy,hk⟩
  ·exact old h
  ·exact⟨_,V4 hop wW htag hc.2 hx hy,hk⟩
 ·exact old h
end
section
variable {P:Program} {ρ:Ren} {o:Oper} {e:Operand→AV} {c:Operand→Value} {M:RM} {K:AV→Prop}
theorem nV (d:Nat) (x:Option Operand) : gH e d x=bnd d (x.map e):=by
 cases x with
 | none=>rfl
 | some x =>
   simp only[gH,Option.map_some]
   generalize e x=y
   cases y <;> try rfl
   rename_i v
   cases v <;> try rfl
   rename_i k n
   cases n with
   | ofNat n=>simp[fq,bnd]
   | negSucc n=>simp only[fq,bnd]; rw[if_neg (by omega)]
theorem RL {a b:Nat} (h:¬ a≤b) : Nat.ble a b=false:=by
 rcases hb:Nat.ble a b
 ·rfl
 ·exact absurd (aP hb) h
theorem mP {a b:Nat} (h:a=b) : Nat.beq a b=true:=by subst h; simp
theorem BB {a b:Nat} (h:¬ a=b) : Nat.beq a b=false:=by rw[DD]; simp[h]
theorem Rf (d:Nat) (x:Operand) : fq (e x)=bnd d (some (e x)):=nV d (some x)
theorem Pw {t elem:TypeId} {x:Operand} {lo hi mx:Option Operand} {size:Nat} {v:AV} (hu:P.underlying t=some (.slice elem)) (hs:aV P elem=some size)
  (h:dz size (e x) (lo.map e) (hi.map e) (mx.map e)=some v) : pM P e t x lo hi mx=some v:=by
 unfold pM
 unfold dz at h
 split at h <;> first | (cases h; done) | skip
 ·rename_i b o' len cap hex
  rw[hex]
  simp only[hu,hs,nV]
  split at h <;> first | (cases h; done) | skip
  rename_i l hh hl hhh
  simp only[hl,hhh]
  split at h
  ·rename_i hmx
   have hmx:mx=none:=by cases mx <;> simp at hmx; rfl
   subst hmx
   simp only
   split at h
   ·rename_i cc
    split at h <;> first | (cases h; done) | skip
    rename_i hc
    have e1:=aO.2 hc.1
    have e2:=aO.2 hc.2
    split at h
    ·rename_i hcl
     have e3:=mP hcl
     simp only[e1,e2,e3]
     exact h
    ·rename_i hcl
     have e3:=BB hcl
     simp only[e1,e2,e3]
     exact h
   ·rename_i esz
    split at h <;> first | (cases h; done) | skip
    rename_i hc
    have e1:=aO.2 hc.1
    have e2:=aO.2 hc.2.1
    have e4:=mP hc.2.2
    split at h
    ·rename_i hcl
     have e3:=aO.2 hcl
     simp only[e1,e2,e3,e4]
     exact h
    ·rename_i hcl
     have e3:=RL hcl
     simp only[e1,e2,e3,e4]
     exact h
  ·rename_i y hmx
   cases mx with
   | none=>cases hmx
   | some z =>
   cases hmx
   split at h <;> first | (cases h; done) | skip
   rename_i hy m hhi hm
   cases hi with
   | none=>cases hhi
   | some y2 =>
   simp only
   rw[Rf 0,hm]
   simp only
   cases cap with
   | ex cc =>
     simp only at h
     split at h <;> first | (cases h; done) | skip
     rename_i hc
     have e1:=aO.2 hc.1
     have e2:=aO.2 hc.2.1
     have e4:=aO.2 hc.2.2
     split at h
     ·rename_i hcl
      have e3:=mP hcl
      simp only[e1,e2,e3,e4]
      exact h
     ·rename_i hcl
      have e3:=BB hcl
      simp only[e1,e2,e3,e4]
      exact h
   | op esz =>
     simp only at h
     split at h <;> first | (cases h; done) | skip
     rename_i hc
     have e1:=aO.2 hc.1
     have e2:=aO.2 hc.2.1
     have e4:=aO.2 hc.2.2
     split at h
     ·rename_i hcl
      have e3:=mP hcl
      simp only[e1,e2,e3,e4]
      exact h
     ·rename_i hcl
      have e3:=BB hcl
      simp only[e1,e2,e3,e4]
      exact h
 ·rename_i b hex
  rw[hex]
  simp only[hu,hs,nV]
  split at h <;> first | (cases h; done) | skip
  rename_i hl hhh hmx
  have hmx:mx=none:=by cases mx <;> simp at hmx; rfl
  subst hmx
  simp only[hl,hhh]; exact h
 ·rename_i hex
  rw[hex]
  simp only[hu,hs,nV]
  split at h <;> first | (cases h; done) | skip
  ·rename_i hl hhh hmx
   have hmx:mx=none:=by cases mx <;> simp at hmx; rfl
   subst hmx
   have e3:bnd 0 (Option.map e none)=some 0:=rfl
   simp only[hl,hhh,e3]
   rw[hex] at h; exact h
  ·rename_i y hl hhh hmx
   cases mx with
   | none=>cases hmx
   | some z =>
   cases hmx
   split at h <;> first | (cases h; done) | skip
   rename_i hy hhi hm
   cases hi with
   | none=>cases hhi
   | some y2 =>
   have e3:bnd 0 (Option.map e (some z))=some 0:=hm
   simp only[hl,hhh,e3]
   rw[hex] at h; exact h
theorem Qz {t elem:TypeId} {n:Nat} {x:Operand} {lo hi:Option Operand} {size:Nat} {v:AV} (hu:P.underlying t=some (.array n elem)) (hs:aV P elem=some size)
  (h:zF n size (e x) (lo.map e) (hi.map e)=some v) : pM P e t x lo hi none=some v:=by
 unfold pM
 unfold zF at h
 split at h <;> first | (cases h; done) | skip
 rename_i b o' hex
 rw[hex]
 simp only[hu,hs,nV]
 split at h <;> first | (cases h; done) | skip
 rename_i l hh hl hhh
 simp only[hl,hhh]
 split at h <;> first | (cases h; done) | skip
 rename_i hc
 have e1:=aO.2 hc.1
 have e2:=aO.2 hc.2
 split at h
 ·rename_i hcl
  have e3:=mP hcl
  simp only[e1,e2,e3]
  exact h
 ·rename_i hcl
  have e3:=BB hcl
  simp only[e1,e2,e3]
  exact h
theorem IC {place:Nat→Option (Nat × Nat)} : ∀ (parts:List (Nat × AV)) (qs:List (Nat × Nat × AV)) (cs:List AV),(parts.map fun p=>(place p.1).map fun q=>(q.1,q.2,p.2))=qs.map some→vC place cs parts=lc cs qs
 | [],qs,cs,h=>by
   cases qs with
   | nil=>rfl
   | cons q qs=>simp at h
 | (i,v) :: parts,qs,cs,h=>by
   cases qs with
   | nil=>simp at h
   | cons q qs =>
     simp only[List.map_cons,List.cons.injEq] at h
     obtain⟨h1,h2⟩:=h
     cases hp:place i with
     | none=>simp[hp] at h1
     | some pl =>
       obtain⟨off,size⟩:=pl
       simp only[hp,Option.map_some,Option.some.injEq] at h1
       subst h1
       simp only[vC,hp,lc]
       by_cases hk:known v=true∧v.cells.length=size∧off + size≤cs.length
       ·rw[if_pos hk,hk.1]
        simp only[DD,hk.2.1,decide_true,aO.2 hk.2.2]
        rw[← IC parts qs _ h2]
       ·rw[if_neg hk]
        split
        ·rename_i a b d
         exact absurd ⟨a,aW b,aP d⟩ hk
        ·rfl
theorem CK {w:World} {b p:Nat} {i:eu} {v:AV} (hw:bn P ρ M w) (hb:ρ b=some i) (h:M.loads b p 1=some [v]) : ∃ u,af ρ v u∧w.cell? ⟨i.cb,i.sh + p,none⟩=some u:=by
 obtain⟨vs,hr,hlen,hcell⟩:=RM.fu hw hb h
 cases hr with
 | cons _ u _ us hu hn =>
 cases hn
 have hcell:=hcell 0 u (by simp)
 rw[cZ] at hcell
 exact⟨u,hu,by simpa using hcell⟩
theorem Az:∀ (ks rest:List Nat) (cs ds:List AV) {r:Bool},cK (ks++rest) cs ds=some r→(∃ r0,cK ks (cs.take ks.length) (ds.take ks.length)=some r0∧(r0=false→r=false)∧(r0=true→cK rest (cs.drop ks.length) (ds.drop ks.length)=some r))∨((cs.length<ks.length∨ds.length<ks.length)∧r=false)
 | [],rest,cs,ds,r,h=>.inl ⟨true,rfl,(fun h=>by cases h),fun _=>h⟩
 | k :: ks,rest,[],_,r,h=>by simp[cK] at h
 | k :: ks,rest,_ :: _,[],r,h=>by simp[cK] at h
 | k :: ks,rest,x :: cs,y :: ds,r,h=>by
   simp only[List.cons_append,cK] at h
   split at h
   ·rename_i hc
    rcases Az ks rest cs ds h with⟨r0,h1,h2,h3⟩ | ⟨h1,h2⟩
    ·exact .inl ⟨r0,by simp only[List.length_cons,List.take_succ_cons,cK,hc]; exact h1,h2,fun e=>by simpa using h3 e⟩
    ·exact .inr ⟨by simp; omega,h2⟩
   ·rename_i hc
    cases h
    exact .inl ⟨false,by simp only[List.length_cons,List.take_succ_cons,cK,hc],fun _=>rfl,fun h=>by cases h⟩
   ·cases h
theorem wR {t:TypeId} {us:List Value} {off:Nat} {u:Value} {w:World} (ha:bU P t=some false) (hu:us[off]?=some u) : (part t ⟨us⟩ off).run P w=.ok u w:=by
 simp only[part,Sem.run_bind,fB ha,Result.andThen_ok,Bool.false_eq_true,if_false]
 simp[hu]
theorem Kt {t:TypeId} {us:List Value} {off n:Nat} {w:World} (ha:bU P t=some true) (hs:aV P t=some n) : (part t ⟨us⟩ off).run P w=.ok (.agg ⟨(us.drop off).take n⟩) w:=by
 simp only[part,Sem.run_bind,fB ha,Result.andThen_ok,if_true,bJ hs,Sem.run_pure]
 simp[List.take_drop]
theorem LA:∀ (d:Nat) (t:TypeId) (ks:List Nat) (D:Nat),iB P d t=some ks→d≤D→∀ (cs ds:List AV) (us vs:List Value) (r:Bool) (w:World),aJ ρ cs us→aJ ρ ds vs→cs.length=ks.length→ds.length=ks.length→cK ks cs ds=some r →
  (bU P t=some true∧(Op.equalIn D t (.agg ⟨us⟩) (.agg ⟨vs⟩)).run P w=.ok r w)∨(bU P t=some false∧∃ u v,us=[u]∧vs=[v]∧(Op.equalIn D t u v).run P w=.ok r w):=by
 intro d
 induction d with
 | zero=>intro t ks D h; simp[iB] at h
 | succ d ih =>
   intro t ks D h hD cs ds us vs r w hc hd hlc hld he
   obtain⟨D,rfl⟩ : ∃ D',D=D' + 1:=⟨D - 1,by omega⟩
   simp only[iB] at h
   have one:∀ k,ks=[k]→∃ x y u v,cs=[x]∧ds=[y]∧us=[u]∧vs=[v]∧af ρ x u∧af ρ y v∧oh k x y=some r:=by
    intro k hk
    subst hk
    cases hc with
    | nil=>simp at hlc
    | cons x u cs us hx hc=>cases hc with
      | cons=>simp at hlc
      | nil=>cases hd with
        | nil=>simp at hld
        | cons y v ds vs hy hd=>cases hd with
          | cons=>simp at hld
          | nil =>
            refine⟨x,y,u,v,rfl,rfl,rfl,rfl,hx,hy, ?_⟩
            simp only[cK] at he
            split at he
            ·rename_i h1; cases he; exact h1
            ·rename_i h1; cases he; exact h1
            ·cases he
   split at h <;> first | (cases h; done) | skip
   ·rename_i k hu
    cases h
    obtain⟨x,y,u,v,rfl,rfl,rfl,rfl,hx,hy,hce⟩:=one 1 rfl
    refine .inr ⟨by simp[bU,hu],u,v,rfl,rfl, ?_⟩
    unfold oh at hce
    split at hce <;> first | (cases hce; done) | skip
    ·split at hce <;> first | (cases hce; done) | skip
     rename_i e0; subst e0
     cases hce
     rw[(aF hx).1,(aF hy).1]
     exact run_equalIn_int w D t _ _ _ _ hu
    all_goals (rename_i e0; cases e0)
   ·rename_i hu
    cases h
    obtain⟨x,y,u,v,rfl,rfl,rfl,rfl,hx,hy,hce⟩:=one 2 rfl
    refine .inr ⟨by simp[bU,hu],u,v,rfl,rfl, ?_⟩
    unfold oh at hce
    split at hce <;> first | (cases hce; done) | skip
    ·rename_i e0; cases e0
    ·cases hce
     rw[(aF hx).1,(aF hy).1,run_equalIn_string w D t _ _ hu,ByteArray.toList_eq,ByteArray.toList_eq]
    ·rename_i e0; cases e0
   ·rename_i hu
    cases h
    obtain⟨x,y,u,v,rfl,rfl,rfl,rfl,hx,hy,hce⟩:=one 3 rfl
    refine .inr ⟨by simp[bU,hu],u,v,rfl,rfl, ?_⟩
    unfold oh at hce
    split at hce <;> first | (cases hce; done) | skip
    ·rename_i e0; cases e0
    ·rename_i e0; cases e0
    ·cases hce
     rw[(aF hx).1,(aF hy).1]
     exact run_equalIn_bool' w D t _ _ hu
   ·rename_i fs hu
    split at h <;> first | (cases h; done) | skip
    rename_i hst
    refine .inl ⟨by simp[bU,hu], ?_⟩
    have hfs:P.underlying t=some (.struct (P.fieldsOf t)):=by simp[Program.fieldsOf,hu]
    rw[run_equalIn_struct w D t _ _ hfs hst]
    have hff:(P.fieldsOf t).toList=fs.toList:=by simp[Program.fieldsOf,hu]
    rw[hff]
    have key:∀ (l:List Field) (off:Nat) (kr:List Nat) (r:Bool),tN P (iB P d) l off=some kr→(cs.drop off).length=kr.length→(ds.drop off).length=kr.length→cK kr (cs.drop off) (ds.drop off)=some r→(Op.eqFields D ⟨us⟩ ⟨vs⟩ l).run P w=.ok r w:=by
     intro l
     induction l with
     | nil =>
       intro off kr r h h1 h2 h3
       simp only[tN] at h
       cases h
       have e1:=List.eq_nil_of_length_eq_zero h1
       have e2:=List.eq_nil_of_length_eq_zero h2
       rw[e1,e2] at h3
       simp only[cK] at h3
       cases h3
       rfl
     | cons f l ihl =>
       intro off kr r h h1 h2 h3
       simp only[tN] at h
       split at h <;> first | (cases h; done) | skip
       rename_i kf n hn hoff hkf hsz
       split at h <;> first | (cases h; done) | skip
       rename_i kr' hlen hrest
       cases h
       have hoff:=aW hoff
       have hlen:=aW hlen
       have hname:f.name ≠ "_" := by simpa using hn
       rw[List.length_append] at h1 h2
       rcases Az kf kr' _ _ h3 with⟨r0,g1,g2,g3⟩ | ⟨g,_⟩
       ·have hsub:=ih f.type kf D hkf (by omega) ((cs.drop off).take n) ((ds.drop off).take n) ((us.drop off).take n) ((vs.drop off).take n) r0 w ((hc.drop off).take n) ((hd.drop off).take n) (by simp at h1 ⊢; omega) (by simp at h2 ⊢; omega) (by rw[hlen]; exact g1)
        have hstep:(Op.eqFields D ⟨us⟩ ⟨vs⟩ (f :: l)).run P w=(if r0=false then .ok false w else(Op.eqFields D ⟨us⟩ ⟨vs⟩ l).run P w):=by
         simp only[Op.eqFields,if_pos hname]
         rcases hsub with⟨ha,hrun⟩ | ⟨ha,u,v,hu1,hv1,hrun⟩
         ·simp only[Sem.run_bind,hoff,Kt ha hsz,Result.andThen_ok,hrun]
          cases r0 <;> simp
         ·have hn1:n=1:=by
           have:=congrArg List.length hu1
           have hl:=hc.length
           simp at this h1; omega
          have p1:us[off]?=some u:=by
           have:((us.drop off).take n)[0]?=some u:=by rw[hu1]; rfl
           rw[List.getElem?_take,if_pos (by omega),List.getElem?_drop] at this
           simpa using this
          have p2:vs[off]?=some v:=by
           have:((vs.drop off).take n)[0]?=some v:=by rw[hv1]; rfl
           rw[List.getElem?_take,if_pos (by omega),List.getElem?_drop] at this
           simpa using this
          simp only[Sem.run_bind,hoff,wR ha p1,wR ha p2,Result.andThen_ok,hrun]
          cases r0 <;> simp
        rw[hstep]
        cases r0 with
        | false=>rw[g2 rfl]; simp
        | true =>
          simp only[Bool.true_eq_false,if_false]
          refine ihl (off + n) kr' r hrest (by simp at h1 ⊢; omega) (by simp at h2 ⊢; omega) ?_
          have:=g3 rfl
          rw[List.drop_drop,List.drop_drop,← hlen] at this
          exact this
       ·omega
    exact key fs.toList 0 ks r h (by simpa using hlc) (by simpa using hld) (by simpa using he)
theorem rO {w:World} {r clock:Nat} {fs:Array MapEntry} (h:w.heap[r]?=some (.map fs clock)) : (getObj r).run P w=.ok (.map fs clock) w:=by simp[getObj,Sem.run,h]
theorem ll {a:Bool} {k:AV} {kv:Value} {cs:List AV} (h:eG a k=some cs) (hk:af ρ k kv) : ∃ us,aJ ρ cs us∧(a=true→kv=.agg ⟨us⟩)∧(a=false→us=[kv]):=by
 cases a with
 | false =>
   simp only[eG] at h
   cases h
   exact⟨[kv],.cons _ _ _ _ hk .nil,(fun h=>by cases h),fun _=>rfl⟩
 | true =>
   unfold eG at h
   split at h <;> first | (cases h; done) | skip
   ·rename_i cs' _
    cases h
    cases hk with
    | agg _ us hr=>exact⟨us,hr,fun _=>rfl,fun h=>by cases h⟩
   ·rename_i e0; cases e0
theorem Jl {kt:TypeId} {ks:List Nat} {a r:Bool} {x y:AV} {xv yv:Value} {cs ds:List AV} (hf:iB P 10 kt=some ks) (ha:bU P kt=some a) (hx:eG a x=some cs) (hy:eG a y=some ds) (rx:af ρ x xv) (ry:af ρ y yv)
  (l1:cs.length=ks.length) (l2:ds.length=ks.length) (h:cK ks cs ds=some r) (w:World) : (Op.equal kt xv yv).run P w=.ok r w:=by
 obtain⟨us,r1,h1,h1'⟩:=ll hx rx
 obtain⟨vs,r2,h2,h2'⟩:=ll hy ry
 show(Op.equalIn 10000 kt xv yv).run P w=_
 rcases LA 10 kt ks 10000 hf (by decide) cs ds us vs r w r1 r2 l1 l2 h with⟨hg,hr⟩ | ⟨hg,u,v,e1,e2,hr⟩
 ·have:a=true:=Option.some.inj (ha.symm.trans hg)
  rw[h1 this,h2 this]; exact hr
 ·have:a=false:=Option.some.inj (ha.symm.trans hg)
  have e3:=h1' this
  have e4:=h2' this
  rw[e1] at e3; rw[e2] at e4
  cases e3; cases e4
  exact hr
theorem Jb {kt:TypeId} {ks:List Nat} {a:Bool} {k:AV} {kv:Value} {cs:List AV} {w:World} (hf:iB P 10 kt=some ks) (ha:bU P kt=some a) (hc:eG a k=some cs) (hl:cs.length=ks.length) (hk:af ρ k kv) :
  ∀ {es:List (AV × AV × Nat)} {fs:List MapEntry} {i:Nat} {r:Option (Nat × AV)},bD ρ es fs→jv a ks cs es i=some r→∃ r',(Instr.findAsking kt kv fs i).run P w=.ok r' w∧KI ρ r r'
 | [],[],i,r,_,h=>by
   simp[jv] at h; subst h
   exact⟨none,rfl,trivial⟩
 | [],_ :: _,_,_,h,_=>h.elim
 | _ :: _,[],_,_,h,_=>h.elim
 | (ka,va,n) :: es,f :: fs,i,r,⟨h1,h2,h3,h4⟩,h=>by
   simp only[jv] at h
   split at h <;> first | (cases h; done) | skip
   rename_i ds hds
   split at h <;> first | (cases h; done) | skip
   rename_i hdl
   simp only[Instr.findAsking]
   split at h <;> first | (cases h; done) | skip
   ·rename_i hn
    cases h
    refine⟨some (i,f.val), ?_,rfl,h2⟩
    rw[Sem.run_bind,Jl hf ha hc hds hk h1 hl hdl hn w,Result.andThen_ok]
    rfl
   ·rename_i hn
    obtain⟨r',hr,hfr⟩:=Jb hf ha hc hl hk h4 h
    refine⟨r', ?_,hfr⟩
    rw[Sem.run_bind,Jl hf ha hc hds hk h1 hl hdl hn w,Result.andThen_ok]
    exact hr
theorem G5 {kt:TypeId} {d:TypeDesc} {x y:Value} {s:Bool} (hd:P.underlying kt=some d) (h:Instr.sameNow d x y=some s) (w:World) : (Op.equal kt x y).run P w=.ok s w:=by
 show(Op.equalIn (9999 + 1) kt x y).run P w=_
 unfold Instr.sameNow at h
 split at h <;> first | (cases h; done) | skip
 ·split at h <;> first | (cases h; done) | skip
  rename_i e0
  subst e0
  cases h
  exact run_equalIn_int w _ kt _ _ _ _ hd
 ·cases h
  rw[run_equalIn_string w _ kt _ _ hd,ByteArray.toList_eq,ByteArray.toList_eq,← gW,← bytes_beq]
 ·cases h
  exact run_equalIn_bool' w _ kt _ _ hd
theorem AP {kt:TypeId} {d:TypeDesc} {kv:Value} {w:World} (hd:P.underlying kt=some d) : ∀ {fs:List MapEntry} {i:Nat} {r0 r' : Option (Nat × Value)},Instr.findNow d kv fs i=some r0→(Instr.findAsking kt kv fs i).run P w=.ok r' w→r0=r'
 | [],i,r0,r',h,h'=>by
   simp[Instr.findNow] at h
   subst h
   have h' : Result.ok none w=Result.ok r' w:=h'
   cases h'
   rfl
 | f :: fs,i,r0,r',h,h'=>by
   simp only[Instr.findNow] at h
   simp only[Instr.findAsking] at h'
   split at h <;> first | (cases h; done) | skip
   ·rename_i hs
    cases h
    rw[Sem.run_bind,G5 hd hs w,Result.andThen_ok] at h'
    have h' : Result.ok (some (i,f.val)) w=Result.ok r' w:=h'
    cases h'
    rfl
   ·rename_i hs
    rw[Sem.run_bind,G5 hd hs w,Result.andThen_ok] at h'
    exact AP hd h h'
theorem wJ {kt:TypeId} {ks:List Nat} {a:Bool} {k:AV} {kv:Value} {cs:List AV} {w:World} {es:List (AV × AV × Nat)} {fs:List MapEntry} {r:Option (Nat × AV)} (hf:iB P 10 kt=some ks) (ha:bU P kt=some a) (hc:eG a k=some cs) (hl:cs.length=ks.length) (hk:af ρ k kv)
  (he:bD ρ es fs) (h:jv a ks cs es 0=some r) : ∃ r',(Instr.findKey kt kv fs).run P w=.ok r' w∧KI ρ r r':=by
 obtain⟨r',h1,h2⟩:=Jb (w:=w) hf ha hc hl hk he h
 have hu:∃ d,P.underlying kt=some d:=by
  simp only[iB] at hf
  cases hu:P.underlying kt with
  | none=>rw[hu] at hf; cases hf
  | some d=>exact⟨d,rfl⟩
 obtain⟨d,hd⟩:=hu
 refine⟨r', ?_,h2⟩
 simp only[Instr.findKey,Sem.run_bind,run_underlying hd,Result.andThen_ok]
 cases hn:Instr.findNow d kv fs 0 with
 | none=>exact h1
 | some r0 =>
   have:=AP hd hn h1
   subst this
   rfl
theorem Qo:∀ (d:Nat) (t:TypeId) (ks:List Nat) (D:Nat) (em:Bool),iB P d t=some ks→d≤D→∀ (us:List Value) (w:World),us.length=ks.length →
  (bU P t=some true∧(Instr.checkKey em D t (.agg ⟨us⟩)).run P w=.ok () w)∨(bU P t=some false∧∃ u,us=[u]∧(Instr.checkKey em D t u).run P w=.ok () w):=by
 intro d
 induction d with
 | zero=>intro t ks D em h; simp[iB] at h
 | succ d ih =>
   intro t ks D em h hD us w hl
   obtain⟨D,rfl⟩ : ∃ D',D=D' + 1:=⟨D - 1,by omega⟩
   simp only[iB] at h
   have one:∀ k,ks=[k]→∃ u,us=[u]:=fun k hk=>by
    subst hk
    match us,hl with
    | [u],_=>exact⟨u,rfl⟩
   split at h <;> first | (cases h; done) | skip
   ·rename_i k hu
    cases h
    obtain⟨u,rfl⟩:=one 1 rfl
    refine .inr ⟨by simp[bU,hu],u,rfl, ?_⟩
    simp only[Instr.checkKey,Sem.run_bind,run_underlying hu,Result.andThen_ok]
    rfl
   ·rename_i hu
    cases h
    obtain⟨u,rfl⟩:=one 2 rfl
    refine .inr ⟨by simp[bU,hu],u,rfl, ?_⟩
    simp only[Instr.checkKey,Sem.run_bind,run_underlying hu,Result.andThen_ok]
    rfl
   ·rename_i hu
    cases h
    obtain⟨u,rfl⟩:=one 3 rfl
    refine .inr ⟨by simp[bU,hu],u,rfl, ?_⟩
    simp only[Instr.checkKey,Sem.run_bind,run_underlying hu,Result.andThen_ok]
    rfl
   ·rename_i fs hu
    split at h <;> first | (cases h; done) | skip
    refine .inl ⟨by simp[bU,hu], ?_⟩
    simp only[Instr.checkKey,Sem.run_bind,run_underlying hu,Result.andThen_ok]
    rw[← Array.forIn_toList]
    have key:∀ (l:List Field) (off:Nat) (kr:List Nat),tN P (iB P d) l off=some kr→(us.drop off).length=kr.length →
      ((forIn l PUnit.unit fun(f:Field) (_:PUnit)=>(do
        if f.name ≠ "_" then do
         let x ← part f.type ⟨us⟩ f.offset
         Instr.checkKey em D f.type x
         pure (ForInStep.yield PUnit.unit)
        else pure (ForInStep.yield PUnit.unit) : Sem (ForInStep PUnit)) : Sem PUnit).run P w=.ok PUnit.unit w):=by
     intro l
     induction l with
     | nil=>intro off kr _ _; rfl
     | cons f l ihl =>
       intro off kr h h1
       simp only[tN] at h
       split at h <;> first | (cases h; done) | skip
       rename_i kf n hn hoff hkf hsz
       split at h <;> first | (cases h; done) | skip
       rename_i kr' hlen hrest
       cases h
       have hoff:=aW hoff
       have hlen:=aW hlen
       have hname:f.name ≠ "_" := by simpa using hn
       rw[List.length_append] at h1
       have hsub:=ih f.type kf D em hkf (by omega) ((us.drop off).take n) w (by simp at h1 ⊢; omega)
       have hrec:=ihl (off + n) kr' hrest (by simp at h1 ⊢; omega)
       simp only[List.forIn_cons,Sem.run_bind,if_pos hname]
       rcases hsub with⟨ha,hrun⟩ | ⟨ha,u,hu1,hrun⟩
       ·simp only[hoff,Kt ha hsz,Result.andThen_ok,hrun,Sem.run_pure]
        exact hrec
       ·have hn1:n=1:=by
         have:=congrArg List.length hu1
         simp at this h1; omega
        have p1:us[off]?=some u:=by
         have:((us.drop off).take n)[0]?=some u:=by rw[hu1]; rfl
         rw[List.getElem?_take,if_pos (by omega),List.getElem?_drop] at this
         simpa using this
        simp only[hoff,wR ha p1,Result.andThen_ok,hrun,Sem.run_pure]
        exact hrec
    exact(congrArg (fun r=>Result.andThen r fun _ w'=>Sem.run P (pure ()) w') (key fs.toList 0 ks h (by simpa using hl))).trans rfl
theorem ui {kt:TypeId} {ks:List Nat} {a em:Bool} {k:AV} {kv:Value} {cs:List AV} {w:World} (hf:iB P 10 kt=some ks) (ha:bU P kt=some a) (hc:eG a k=some cs) (hl:cs.length=ks.length) (hk:af ρ k kv) :
  (Instr.checkKey em 10000 kt kv).run P w=.ok () w:=by
 obtain⟨us,r1,h1,h1'⟩:=ll hc hk
 rcases Qo 10 kt ks 10000 em hf (by decide) us w (by rw[← r1.length]; exact hl) with⟨hg,hr⟩ | ⟨hg,u,e1,hr⟩
 ·have:a=true:=Option.some.inj (ha.symm.trans hg)
  rw[h1 this]; exact hr
 ·have:a=false:=Option.some.inj (ha.symm.trans hg)
  have e3:=h1' this
  rw[e1] at e3
  cases e3
  exact hr
theorem NC {n:Nat} {en:AV × AV × Nat} : ∀ {es:List (AV × AV × Nat)} {fs:List MapEntry},bD ρ es fs→es.find? (fun e=>e.2.2 == n)=some en→∃ f,fs.find? (fun g=>g.born == n)=some f∧af ρ en.1 f.key∧af ρ en.2.1 f.val
 | [],[],_,h=>by cases h
 | (k,v,m) :: es,g :: fs,⟨a,b,c,d⟩,h=>by
   rw[List.find?_cons] at h ⊢
   rw[c]
   split at h
   ·rename_i hm
    cases h
    simp only at hm
    simp only[hm]
    exact⟨g,rfl,a,b⟩
   ·rename_i hm
    simp only at hm
    simp only[hm]
    exact NC d h
 | _ :: _,[],h,_=>h.elim
 | [],_ :: _,h,_=>h.elim
theorem wO (h:dh P o e M K) : ∃ v,((∀ M',ji P o e M' v)∨(kindOf P o=.read∧ji P o e M v))∧K v:=by
 cases hop:o.op
 case move x=>simp only[dh,hop] at h; exact⟨_,aC (by simp only[aB,hop]),h⟩
 case assign x=>simp only[dh,hop] at h; exact⟨_,aC (by simp only[aB,hop]),h⟩
 case pick cn a b =>
  simp only[dh,hop] at h
  obtain⟨t,ht,hk⟩:=h
  exact⟨_,aC (by cases t <;> simp only[aB,hop,ht] <;> rfl),hk⟩
 case nilCheck x =>
  simp only[dh,hop] at h
  obtain⟨b,p,hx,hk⟩:=h
  exact⟨_,aC (by simp only[aB,hop,hx]),hk⟩
 case fieldAddr s x f =>
  simp only[dh,hop] at h
  split at h <;> first | (cases h; done) | skip
  rename_i fields hu
  split at h <;> first | (cases h; done) | skip
  rename_i fd hf
  split at h <;> first | (cases h; done) | skip
  rename_i n hs
  obtain⟨b,p,hx,hk⟩:=h
  exact⟨_,aC (by simp only[aB,hop,hu,hx,hf,hs]),hk⟩
 case indexAddr t x ix =>
  simp only[dh,hop] at h
  split at h <;> first | (cases h; done) | skip
  ·rename_i elem hu
   split at h <;> first | (cases h; done) | skip
   rename_i size hs
   obtain⟨b,p,len,cap,k,n,hx,hi,h0,h1,hk⟩:=h
   exact⟨_,aC (by simp only[aB,hop,hu,hx,hi,pG h0,aO.2 (show n.toNat + 1≤len by omega),hs]),hk⟩
  ·rename_i len elem hu
   split at h <;> first | (cases h; done) | skip
   rename_i size hs
   obtain⟨b,p,k,n,hx,hi,h0,h1,hk⟩:=h
   exact⟨_,aC (by simp only[aB,hop,hu,hx,hi,pG h0,aO.2 (show n.toNat + 1≤len by omega),hs]),hk⟩
 case field t x f =>
  simp only[dh,hop] at h
  split at h <;> first | (cases h; done) | skip
  rename_i fields hu
  split at h <;> first | (cases h; done) | skip
  rename_i fd hf
  split at h <;> first | (cases h; done) | skip
  ·rename_i ha
   obtain⟨cs,v,hx,hv,hk⟩:=h
   exact⟨_,aC (by simp only[aB,hop,hu,hx,hf,partOf,ha,bH]; exact hv),hk⟩
  ·rename_i ha
   split at h <;> first | (cases h; done) | skip
   rename_i n hs
   obtain⟨cs,hx,hv,hk⟩:=h
   exact⟨_,aC (by simp only[aB,hop,hu,hx,hf,partOf,ha,hs,aO.2 hv]),hk⟩
 case index t x ix =>
  simp only[dh,hop] at h
  split at h <;> first | (cases h; done) | skip
  ·rename_i hu
   obtain⟨s,k,n,b,hx,hi,h0,hb,hk⟩:=h
   exact⟨_,aC (by simp only[aB,hop,hu,hx,hi,pG h0,bH,hb]),hk⟩
  ·rename_i len elem hu
   split at h <;> first | (cases h; done) | skip
   ·rename_i ha
    split at h <;> first | (cases h; done) | skip
    rename_i hs
    obtain⟨cs,k,n,v,hx,hi,h0,h1,hv,hk⟩:=h
    exact⟨_,aC (by simp only[aB,hop,hu,hx,hi,pG h0,aO.2 (show n.toNat + 1≤len by omega),hs,partOf,ha,bH,Nat.mul_one]; exact hv),hk⟩
   ·rename_i ha
    split at h <;> first | (cases h; done) | skip
    rename_i size hs
    obtain⟨cs,k,n,hx,hi,h0,h1,hv,hk⟩:=h
    exact⟨_,aC (by simp only[aB,hop,hu,hx,hi,pG h0,aO.2 (show n.toNat + 1≤len by omega),hs,partOf,ha,aO.2 hv]),hk⟩
 case slice t x lo hi mx =>
  simp only[dh,hop] at h
  split at h <;> first | (cases h; done) | skip
  ·rename_i hu
   split at h <;> first | (cases h; done) | skip
   obtain⟨v,hv,hk⟩:=h
   refine⟨_,aC ?_,hk⟩
   unfold QM at hv
   split at hv <;> first | (cases hv; done) | skip
   rename_i s hex
   split at hv <;> first | (cases hv; done) | skip
   rename_i l hh hl hhh
   split at hv <;> first | (cases hv; done) | skip
   rename_i hc
   simp only[aB,hop,hex,DF,hu,nV,hl,hhh,aO.2 hc.1,aO.2 hc.2]
   exact hv
  ·rename_i elem hu
   split at h <;> first | (cases h; done) | skip
   rename_i size hs
   obtain⟨v,hv,hk⟩:=h
   have h1:=Pw hu hs hv
   refine⟨_,aC ?_,hk⟩
   simp only[aB,hop]
   split
   ·rename_i s hex
    simp[dz,hex] at hv
   ·exact h1
  ·rename_i n elem hu
   split at h <;> first | (cases h; done) | skip
   rename_i size hs
   obtain⟨v,hv,hk⟩:=h
   have h1:=Qz hu hs hv
   refine⟨_,aC ?_,hk⟩
   simp only[aB,hop]
   split
   ·rename_i s hex
    simp[zF,hex] at hv
   ·exact h1
 case sliceToArrayPointer arr x =>
  simp only[dh,hop] at h
  split at h <;> first | (cases h; done) | skip
  rename_i n elem hu
  obtain⟨b,p,len,cap,hx,hn,hk⟩:=h
  refine⟨_,.inl fun _ ρ w c M' _ hw he0=>?_,hk⟩
  have hxr:af ρ (e x) (c x):=he0 x (by rw[hop]; simp[Op.operands])
  rw[hx] at hxr
  obtain⟨i,cc,hb,hc⟩:=dP hxr
  refine⟨.pointer (some ⟨i.cb,i.sh + p,none⟩), ?_,.ptr _ _ _ hb⟩
  simp only[execOp,hop,hc,Instr.arrayAt,Sem.run_bind,run_underlying hu,Result.andThen_ok,if_neg (Nat.not_lt.2 hn),Sem.run_pure]
 case extract x i =>
  simp only[dh,hop] at h
  obtain⟨vs,v,hx,hv,hk⟩:=h
  exact⟨_,aC (by simp only[aB,hop,hx,bH]; exact hv),hk⟩
 case makeInterface t x =>
  simp only[dh,hop] at h
  split at h <;> first | (cases h; done) | skip
  rename_i d hne hu
  exact⟨_,aC (by simp only[aB,hop,hu]),h⟩
 case makeFunc f first captured =>
  simp only[dh,hop] at h
  split at h <;> first | (cases h; done) | skip
  exact⟨_,aC (by simp only[aB,hop]),h⟩
 case build t parts =>
  simp only[dh,hop] at h
  split at h <;> first | (cases h; done) | skip
  ·rename_i it n el hi hu
   split at h <;> first | (cases h; done) | skip
   rename_i z ie hz hie
   split at h <;> first | (cases h; done) | skip
   rename_i cs hcs
   obtain⟨cs',hf,hk⟩:=h
   refine⟨_,aC ?_,hk⟩
   simp only[aB,hop,hi,hu,hz,hie,hcs]
   rw[IC _ (parts.toList.map fun p=>(p.1 * ie.size,ie.size,e p.2)) _ (by simp),hf]
   rfl
  ·rename_i it fields hi hu
   split at h <;> first | (cases h; done) | skip
   rename_i z places hz hpl
   split at h <;> first | (cases h; done) | skip
   rename_i cs ps hcs hps
   obtain⟨cs',hf,hk⟩:=h
   refine⟨_,aC ?_,hk⟩
   simp only[aB,hop,hi,hu,hz,hpl,hcs]
   rw[IC _ ps _ ?_,hf]
   ·rfl
   ·rw[List.map_map]
    revert hps
    generalize parts.toList=pl
    intro hps
    induction pl generalizing ps cs cs' with
    | nil=>simp[bS] at hps; subst hps; rfl
    | cons p pl ih =>
      simp only[bS] at hps
      split at hps <;> first | (cases hps; done) | skip
      rename_i y hy
      split at hps <;> first | (cases hps; done) | skip
      rename_i ys hys
      cases hps
      simp only[List.map_cons,List.cons.injEq]
      refine⟨?_, ?_⟩
      ·split at hy <;> first | (cases hy; done) | skip
       rename_i q hq
       cases hy
       simp[hq]
      ·clear ih hf
       revert hys
       generalize ys=zs
       intro hys
       induction pl generalizing zs with
       | nil=>simp[bS] at hys; subst hys; rfl
       | cons p pl ih =>
         simp only[bS] at hys
         split at hys <;> first | (cases hys; done) | skip
         rename_i y' hy'
         split at hys <;> first | (cases hys; done) | skip
         rename_i ys' aae
         cases hys
         simp only[List.map_cons,List.cons.injEq]
         refine⟨?_,ih _ aae⟩
         split at hy' <;> first | (cases hy'; done) | skip
         rename_i q hq
         cases hy'
         simp[hq]
 case binOp op t x y yt =>
  simp only[dh,hop] at h
  split at h <;> first | (cases h; done) | skip
  ·split at h
   ·obtain⟨k,a,l,b,v,hx,hy,hv,hk⟩:=h
    exact⟨_,aC (Rq hop hx hy hv),hk⟩
   ·obtain⟨k,a,l,b,v,hx,hy,hv,hk⟩:=h
    exact⟨_,aC (Rq hop hx hy hv),hk⟩
   ·obtain⟨k,a,b,v,hx,hy,hv,hk⟩:=h
    exact⟨_,aC (V5 hop hx hy hv),hk⟩
  ·obtain⟨a,b,v,hx,hy,hv,hk⟩:=h
   exact⟨_,aC (by simp only[aB,hop,hx,hy]; exact hv),hk⟩
  ·rename_i hu
   split at h <;> first | (cases h; done) | skip
   ·obtain⟨a,b,hx,hy,hk⟩:=h
    exact⟨_,aC (FQ hop hx hy hu (.inl ⟨rfl,rfl⟩)),hk⟩
   ·obtain⟨a,b,hx,hy,hk⟩:=h
    exact⟨_,aC (FQ hop hx hy hu (.inr ⟨rfl,rfl⟩)),hk⟩
  ·rename_i fs hu
   have key:∀ (ks:List Nat) (neg:Bool),OE P t=some ks→Bn neg ks (e x) (e y) K→((op=.eql∧neg=false)∨(op=.neq∧neg=true))→∃ v,((∀ M',ji P o e M' v)∨(kindOf P o=.read∧ji P o e M v))∧K v:=by
    intro ks neg hf h wW
    obtain⟨cs,ds,r,hx,hy,hlc,hld,he,hk⟩:=h
    refine⟨_,.inl fun _ ρ w c M' _ hw he0=>⟨.bool (r != neg), ?_,.sc _ rfl⟩,hk⟩
    have hxr:af ρ (e x) (c x):=he0 x (by rw[hop]; simp[Op.operands])
    have hyr:af ρ (e y) (c y):=he0 y (by rw[hop]; simp[Op.operands])
    rw[hx] at hxr
    rw[hy] at hyr
    obtain⟨us,hcx,hru⟩:=sM hxr
    obtain⟨vs,hcy,hrv⟩:=sM hyr
    unfold OE at hf
    split at hf <;> first | (cases hf; done) | skip
    rename_i hg
    have hrun:(Op.equalIn 10000 t (.agg ⟨us⟩) (.agg ⟨vs⟩)).run P w=.ok r w:=by
     rcases LA 10 t ks 10000 hf (by omega) cs ds us vs r w hru hrv hlc hld he with⟨_,h1⟩ | ⟨h1,_⟩
     ·exact h1
     ·simp[bU,hu] at h1
    simp only[execOp,hop,hcx,hcy,Sem.run_bind,run_eqGuard_agg w op t x y _ _ hg,Result.andThen_ok]
    rcases wW with⟨rfl,rfl⟩ | ⟨rfl,rfl⟩
    ·rw[run_eql_struct,hrun]; cases r <;> rfl
    ·rw[run_neq_struct,hrun]; cases r <;> rfl
   split at h <;> first | (cases h; done) | skip
   ·exact key _ _ ‹_› h (.inl ⟨rfl,rfl⟩)
   ·exact key _ _ ‹_› h (.inr ⟨rfl,rfl⟩)
  ·obtain⟨v,hv,hk⟩:=h
   exact⟨_,aC hv,hk⟩
  ·split at h <;> first | (cases h; done) | skip
   ·obtain⟨v,hv,hk⟩:=h
    exact⟨_,aC hv,hk⟩
   ·rename_i h0
    obtain⟨r,hr,hk⟩:=I9 hop (.inl ⟨rfl,rfl⟩) rfl (fun e0=>h0 e0) h
    exact⟨_,aC hr,hk⟩
   ·rename_i h0
    obtain⟨r,hr,hk⟩:=I9 hop (.inr ⟨rfl,rfl⟩) rfl (fun e0=>h0 e0) h
    exact⟨_,aC hr,hk⟩
 case convert src dst x =>
  simp only[dh,hop] at h
  split at h <;> first | (cases h; done) | skip
  ·rename_i k hs hd
   obtain⟨l,n,hx,hk⟩:=h
   refine⟨_,aC ?_,hk⟩
   simp only[aB,hop]
   refine jZ (l:=[.int l n]) (by rw[hop]; simp[Op.operands,bS,hx,cz,toCell]) (u:=.int k (k.wrap n)) ?_ rfl
   simp only[execOp,hop,hx,cz,toCell,Option.getD_some]
   refine bu _ _ (Value.int k (k.wrap n)) ?_
   simp only[convert]
   rw[bu _ _ _ (dD hs),bu _ _ _ (dD hd)]
   rfl
  ·rename_i hs hd
   obtain⟨s,hx,hk⟩:=h
   refine⟨_,aC ?_,hk⟩
   simp only[aB,hop]
   refine jZ (l:=[.string ⟨⟨s⟩⟩]) (by rw[hop]; simp[Op.operands,bS,hx,cz,toCell]) (u:=.string ⟨⟨s⟩⟩) ?_ rfl
   simp only[execOp,hop,hx,cz,toCell,Option.getD_some]
   refine bu _ _ (Value.string ⟨⟨s⟩⟩) ?_
   simp only[convert]
   rw[bu _ _ _ (dD hs),bu _ _ _ (dD hd)]
   rfl
  ·rename_i k0 hs hd
   obtain⟨l,n,hx,hk⟩:=h
   refine⟨_,aC ?_,hk⟩
   simp only[aB,hop]
   refine jZ (l:=[.int l n]) (by rw[hop]; simp[Op.operands,bS,hx,cz,toCell]) (u:=.string (Utf8.encode n)) ?_ rfl
   simp only[execOp,hop,hx,cz,toCell,Option.getD_some]
   refine bu _ _ (Value.string (Utf8.encode n)) ?_
   simp only[convert]
   rw[bu _ _ _ (dD hs),bu _ _ _ (dD hd)]
   rfl
  ·rename_i el hs hd
   split at h <;> first | (cases h; done) | skip
   rename_i hel
   obtain⟨s,hx,hk⟩:=h
   refine⟨_,.inr ⟨by simp only[kindOf,hop,hs,hd],fun ρ w c M' hsub hw he=>?_⟩,hk⟩
   have hxr:af ρ (e x) (c x):=he x (by rw[hop]; simp[Op.operands])
   unfold zX at hx
   split at hx <;> first | (cases hx; done) | skip
   ·rename_i b p len cap hex
    split at hx <;> first | (cases hx; done) | skip
    rename_i xs hl
    rw[hex] at hxr
    obtain⟨i,cp,hbi,hc⟩:=dP hxr
    obtain⟨vs,hr,hlen,_,hrun⟩:=RM.jw (P:=P) hw hbi (hsub.loads hl)
    obtain⟨ns,rfl,rfl⟩:=qp hr hx
    refine⟨_, ?_,.sc _ rfl⟩
    simp only[execOp,hop,hc,Sem.run_bind]
    rw[run_convert_bytes_string w src dst el _ len cp hs hel hd,run_bytesToString w _ len cp ns (by rw[hrun]),foldl_push_bytes]
    have he0:ByteArray.empty.data = #[]:=rfl
    simp[he0]
   ·rename_i b hex
    cases hx
    rw[hex] at hxr
    generalize hcx:c x=cx at hxr
    cases hxr with
    | emp _ ad cp =>
    refine⟨_, ?_,.sc _ rfl⟩
    simp only[execOp,hop,hcx,Sem.run_bind]
    rw[run_convert_bytes_string w src dst el _ 0 cp hs hel hd,run_bytesToString w _ 0 cp [] (by rfl)]
    rfl
   ·rename_i hex
    cases hx
    rw[hex] at hxr
    refine⟨_, ?_,.sc _ rfl⟩
    simp only[execOp,hop,(aF hxr).1,Sem.run_bind]
    rw[run_convert_bytes_string w src dst el _ 0 0 hs hel hd]
    rfl
  ·rename_i t hs hd
   split at h <;> first | (cases h; done) | skip
   rename_i n hsz
   obtain⟨b,p,l,opn,el,fz,hex,hg,hle,hk⟩:=h
   refine⟨_,.inr ⟨by simp only[kindOf,hop,hs,hd],fun ρ w c M' hsub hw he=>?_⟩,hk⟩
   obtain⟨A,hA⟩:=hw
   rcases hA.blk b _ (hsub.2 b _ hg) with⟨y,hy,hr⟩ | ⟨_,e0,_⟩
   ·cases y <;> first | exact hr.elim | skip
    obtain⟨h1,rfl,rfl,rfl,h5⟩:=hr
    refine oG hA.rel he ?_
    simp only[ik,hop,hs,hd,hex,hy,hsz]
    rw[aO.2 (by omega)]
   ·cases e0
  ·rename_i u hs hd
   split at h <;> first | (cases h; done) | skip
   rename_i n hsz hc1 hli
   obtain⟨b,l,opn,fz,hex,hg,hle,hk⟩:=h
   have hc1:=aP hc1
   refine⟨_,.inr ⟨by simp only[kindOf,hop,hs,hd],fun ρ w c M' hsub hw he=>?_⟩,hk⟩
   obtain⟨A,hA⟩:=hw
   rcases hA.blk b _ (hsub.2 b _ hg) with⟨y,hy,hr⟩ | ⟨_,e0,_⟩
   ·cases y <;> first | exact hr.elim | skip
    rename_i nn tree zs Fu jy fz'
    obtain⟨h1,rfl,rfl,rfl,h5⟩:=hr
    refine oG hA.rel he ?_
    have hdiv:nn / P.cellsOf jy=1:=by rw[← h1,hle]; exact Nat.div_self (by omega)
    simp only[ik,hop,hs,hd,hex,hy,hsz,hdiv,hli]
   ·cases e0
  ·obtain⟨v,hv,hk⟩:=h
   exact⟨_,aC hv,hk⟩
 case unOp op t x =>
  simp only[dh,hop] at h
  split at h
  ·obtain⟨b,hx,hk⟩:=h
   refine⟨_,aC ?_,hk⟩
   simp only[aB,hop]
   refine jZ (l:=[.bool b]) (by rw[hop]; simp[Op.operands,bS,hx,cz,toCell]) (u:=.bool (!b)) ?_ rfl
   simp only[execOp,hop,hx,cz,toCell,Option.getD_some]
   rfl
  ·obtain⟨k,n,hx,hk⟩:=h
   refine⟨_,aC ?_,hk⟩
   simp only[aB,hop]
   refine jZ (l:=[.int k n]) (by rw[hop]; simp[Op.operands,bS,hx,cz,toCell]) (u:=.int k (k.wrap (0 - n))) ?_ rfl
   simp only[execOp,hop,hx,cz,toCell,Option.getD_some]
   rfl
  ·obtain⟨k,n,hx,hk⟩:=h
   refine⟨_,aC ?_,hk⟩
   simp only[aB,hop]
   refine jZ (l:=[.int k n]) (by rw[hop]; simp[Op.operands,bS,hx,cz,toCell]) (u:=.int k (k.wrap (BitVec.ofInt k.bits (if k.signed then -1 else k.max) ^^^ BitVec.ofInt k.bits n).toNat)) ?_ rfl
   simp only[execOp,hop,hx,cz,toCell,Option.getD_some]
   rfl
  ·obtain⟨v,hv,hk⟩:=h
   exact⟨_,aC hv,hk⟩
 case lookup t x k ok =>
  simp only[dh,hop] at h
  split at h <;> first | (cases h; done) | skip
  rename_i kt et hu
  split at h <;> first | (cases h; done) | skip
  rename_i ks a z hf ha hz
  obtain⟨b,es,cl,kc,r,hx,hg,hkc,hl,hr,hk⟩:=h
  refine⟨_,.inr ⟨by simp only[kindOf,hop],fun ρ w c M' hsub hw he=>?_⟩,hk⟩
  have hxr:af ρ (e x) (c x):=he x (by rw[hop]; simp[Op.operands])
  have hkr:af ρ (e k) (c k):=he k (by rw[hop]; simp[Op.operands])
  rw[hx] at hxr
  generalize hcx:c x=cx at hxr
  cases hxr with
  | map _ i hb =>
  obtain⟨A,hA⟩:=hw
  rcases hA.blk b _ (hsub.2 _ _ hg) with⟨y,hy,hle⟩ | ⟨_,e0,_⟩
  ·cases y <;> first | exact hle.elim | skip
   obtain⟨rfl,rfl⟩:=hle
   obtain⟨ob,hob,fs,rfl,hfs⟩:=hA.rel.blk b i _ hb hy
   have hgo:=rO (P:=P) hob
   obtain⟨r',hr1,hr2⟩:=wJ (w:=w) hf ha hkc hl hkr hfs hr
   have hck:=ui (em:=fs.isEmpty) (w:=w) hf ha hkc hl hkr
   unfold U2 at hz
   split at hz <;> first | (cases hz; done) | skip
   rename_i z0 hz0
   have rT:∀ {u:Value},(Instr.lookup t (.map (some i.cb)) (c k) ok).run P w=.ok u w→(execOp c o).run P w=.ok (.value u) w:=fun {u} hrun=>by
    simp only[execOp,hop,hcx,Sem.run_bind,hrun,Result.andThen_ok,Sem.run_pure]
   cases r with
   | some p =>
     obtain⟨j,va⟩:=p
     cases r' with
     | none=>exact hr2.elim
     | some q =>
       obtain⟨j',vv⟩:=q
       refine⟨if ok then Value.tuple #[vv,.bool true] else vv,rT ?_, ?_⟩
       ·unfold Instr.lookup
        simp only[Sem.run_bind,run_underlying hu,Result.andThen_ok,hgo,hck,hr1,Sem.run_pure]
       ·cases ok
        ·exact hr2.2
        ·exact .tup _ _ (.cons _ _ _ _ hr2.2 (.cons _ _ _ _ (.sc _ rfl) .nil))
   | none =>
     cases r' with
     | some q=>exact hr2.elim
     | none =>
       refine⟨if ok then Value.tuple #[z0,.bool false] else z0,rT ?_, ?_⟩
       ·unfold Instr.lookup
        simp only[Sem.run_bind,run_underlying hu,Result.andThen_ok,hgo,hck,hr1,dV hz0 w,Sem.run_pure]
       ·cases ok
        ·exact fK hz
        ·exact .tup _ _ (.cons _ _ _ _ (fK hz) (.cons _ _ _ _ (.sc _ rfl) .nil))
  ·cases e0
 case entry it =>
  simp only[dh,hop] at h
  obtain⟨b,m,since,seen,es,cl,n,en,hx,hgb,hgm,hfe,hk⟩:=h
  refine⟨_,.inr ⟨by simp only[kindOf,hop],fun ρ w c M' hsub hw he=>?_⟩,hk⟩
  have hxr:af ρ (e it) (c it):=he it (by rw[hop]; simp[Op.operands])
  rw[hx] at hxr
  obtain⟨i,hb,hcx⟩:=bV hxr
  obtain⟨A,hA⟩:=hw
  rcases hA.blk b _ (hsub.2 _ _ hgb) with⟨y,hy,hle⟩ | ⟨_,e0,_⟩
  ·cases y <;> first | exact hle.elim | skip
   rename_i ya yb yc yd
   obtain⟨e1,e2,e3,e4⟩:=hle
   rw[e1,e2,e3,e4] at hy
   obtain⟨ob,hob,hsh,m',rfl,j,hj,rfl⟩:=hA.rel.blk b i _ hb hy
   rcases hA.blk m _ (hsub.2 _ _ hgm) with⟨y2,hy2,hle2⟩ | ⟨_,e0,_⟩
   ·cases y2 <;> first | exact hle2.elim | skip
    rename_i za zb
    obtain⟨f1,f2⟩:=hle2
    rw[f1,f2] at hy2
    obtain⟨ob2,aau,fs,rfl,hfs⟩:=hA.rel.blk m j _ hj hy2
    obtain⟨f,hff,hk1,hk2⟩:=NC hfs hfe
    have yN:c it=.pointer (some ⟨i.cb,0,none⟩):=by rw[hcx,hsh]
    have hget:(getObj i.cb).run P w=.ok (.mapIter (some j.cb) since ⟨seen++[n]⟩ cl) w:=by simp[getObj,Sem.run,hob]
    have OM:(getObj j.cb).run P w=.ok (.map fs cl) w:=by simp[getObj,Sem.run,aau]
    refine⟨.tuple #[f.key,f.val], ?_,.tup _ _ (.cons _ _ _ _ hk1 (.cons _ _ _ _ hk2 .nil))⟩
    have hback:(⟨seen++[n]⟩ : Array Nat).back?=some n:=by simp[Array.back?]
    have hfind:fs.find? (fun g=>g.born == n)=some f:=by rw[← Array.find?_toList]; exact hff
    simp only[execOp,hop,Instr.entry,yN,Sem.run_bind,hget,Result.andThen_ok,hback,OM,hfind,Sem.run_pure]
    simp[Sem.run_pure,Sem.run,Result.andThen]
   ·cases e0
  ·cases e0
 case typeAssert x xt t ok =>
  simp only[dh,hop] at h
  split at h <;> first | (cases h; done) | skip
  rename_i u hni hu
  obtain⟨v,hx,hk⟩:=h
  refine⟨_,.inl fun M' ρ w c M'' hsub hw he=>?_,hk⟩
  have hxr:af ρ (e x) (c x):=he x (by rw[hop]; simp[Op.operands])
  rw[hx] at hxr
  generalize hcx:c x=cx at hxr
  cases hxr with
  | ifc _ _ v' hv =>
  refine⟨if ok then .tuple #[v',.bool true] else v', ?_, ?_⟩
  ·have hrun:(Instr.typeAssert (.iface t v') xt t ok).run P w=.ok (if ok then .tuple #[v',.bool true] else v') w:=by
    simp only[Instr.typeAssert,Sem.run_bind,run_underlying hu,Result.andThen_ok]
    cases u <;> first | (exact absurd rfl (hni _)) | simp[Sem.run_pure]
   simp only[execOp,hop,hcx,Sem.run_bind,hrun,Result.andThen_ok,Sem.run_pure]
  ·cases ok with
   | true=>exact .tup _ _ (.cons _ _ _ _ hv (.cons _ _ _ _ (.sc _ rfl) .nil))
   | false=>exact hv
 case load t x =>
  simp only[dh,hop] at h
  split at h <;> first | (cases h; done) | skip
  ·rename_i ha
   obtain⟨b,p,v,hx,hl,hk⟩:=h
   refine⟨_,.inr ⟨by simp only[kindOf,hop],fun ρ w c M' hsub hw he=>?_⟩,hk⟩
   have hxr:af ρ (e x) (c x):=he x (by rw[hop]; simp[Op.operands])
   rw[hx] at hxr
   obtain⟨i,hb,hc⟩:=bV hxr
   obtain⟨u,hu,hcell⟩:=CK hw hb (hsub.loads hl)
   refine⟨u, ?_,hu⟩
   simp only[execOp,hop,Instr.loadAt,Instr.sureAddr,loadVar,hc,Sem.run_bind,Sem.run_pure,Result.andThen_ok,fB ha,Bool.false_eq_true,if_false,load,Sem.run]
   simp[hcell,Sem.run]
  ·rename_i ha
   split at h <;> first | (cases h; done) | skip
   rename_i n hs
   obtain⟨b,p,xs,hx,hl,hk⟩:=h
   refine⟨_,.inr ⟨by simp only[kindOf,hop],fun ρ w c M' hsub hw he=>?_⟩,hk⟩
   have hxr:af ρ (e x) (c x):=he x (by rw[hop]; simp[Op.operands])
   rw[hx] at hxr
   obtain⟨i,hb,hc⟩:=bV hxr
   obtain⟨vs,hr,hlen,_,hrun⟩:=RM.jw (P:=P) hw hb (hsub.loads hl)
   refine⟨.agg ⟨vs⟩, ?_,.agg _ _ hr⟩
   simp only[execOp,hop,Instr.loadAt,Instr.sureAddr,loadVar,hc,Sem.run_bind,Sem.run_pure,Result.andThen_ok,fB ha,if_true,bJ hs,hrun]
 case call cl =>
  obtain⟨callee,args,ts⟩:=cl
  cases callee with
  | builtin b =>
    cases b
    case len =>
     simp only[dh,hop] at h
     split at h <;> first | (cases h; done) | skip
     rename_i t x ht hx
     have rT:∀ {w:World} {c:Operand→Value} {n:Nat},(Builtin.len_ ts o.type (args.map c)).run P w=.ok (.int .i64 n) w→(execOp c o).run P w=.ok (.value (.int .i64 n)) w:=by
      intro w c n hrun
      simp only[execOp,hop,resolve,invoke,builtin,Sem.run_bind,Sem.run_pure,Result.andThen_ok,hrun]
     split at h <;> first | (cases h; done) | skip
     ·rename_i el hu
      obtain⟨n,hn,hk⟩:=h
      refine⟨_,.inl fun _ ρ w c M' _ hw he=>⟨.int .i64 n,rT ?_,.sc _ rfl⟩,hk⟩
      have hr:af ρ (e x) (c x):=he x (by rw[hop]; simp only[Op.operands,Call.operands,Array.empty_append]; exact Array.mem_of_getElem? hx)
      unfold UH at hn
      split at hn <;> first | (cases hn; done) | skip
      ·rename_i b p k cap hex
       cases hn
       rw[hex] at hr
       obtain⟨i,cp,hb,hc⟩:=dP hr
       simp only[Builtin.len_,ht,Array.getElem?_map,hx,Option.map_some,hc,Sem.run_bind,run_underlying hu,Result.andThen_ok,Sem.run_pure,goInt]
      ·rename_i b hex
       cases hn
       rw[hex] at hr
       generalize hcx:c x=cx at hr
       cases hr
       simp only[Builtin.len_,ht,Array.getElem?_map,hx,Option.map_some,hcx,Sem.run_bind,run_underlying hu,Result.andThen_ok,Sem.run_pure,goInt]
      ·rename_i hex
       cases hn
       rw[hex] at hr
       simp only[Builtin.len_,ht,Array.getElem?_map,hx,Option.map_some,(aF hr).1,Sem.run_bind,run_underlying hu,Result.andThen_ok,Sem.run_pure,goInt]
     ·rename_i hu
      obtain⟨s,hex,hk⟩:=h
      refine⟨_,.inl fun _ ρ w c M' _ hw he=>⟨.int .i64 s.length,rT ?_,.sc _ rfl⟩,hk⟩
      have hr:af ρ (e x) (c x):=he x (by rw[hop]; simp only[Op.operands,Call.operands,Array.empty_append]; exact Array.mem_of_getElem? hx)
      rw[hex] at hr
      simp only[Builtin.len_,ht,Array.getElem?_map,hx,Option.map_some,(aF hr).1,Sem.run_bind,run_underlying hu,Result.andThen_ok,Sem.run_pure,goInt]
      rfl
     ·rename_i kt et hu
      obtain⟨b,es,cl,hex,hg,hk⟩:=h
      refine⟨_,.inr ⟨by simp only[kindOf,hop,ht,hu],fun ρ w c M' hsub hw he=>⟨.int .i64 es.length,rT ?_,.sc _ rfl⟩⟩,hk⟩
      have hr:af ρ (e x) (c x):=he x (by rw[hop]; simp only[Op.operands,Call.operands,Array.empty_append]; exact Array.mem_of_getElem? hx)
      rw[hex] at hr
      generalize hcx:c x=cx at hr
      cases hr with
      | map _ i hb =>
      obtain⟨A,hA⟩:=hw
      rcases hA.blk b _ (hsub.2 _ _ hg) with⟨y,hy,hle⟩ | ⟨_,e0,_⟩
      ·cases y <;> first | exact hle.elim | skip
       obtain⟨rfl,rfl⟩:=hle
       obtain⟨ob,hob,fs,rfl,hfs⟩:=hA.rel.blk b i _ hb hy
       have hlen:∀ (es:List (AV × AV × Nat)) (fs:List MapEntry),bD ρ es fs→es.length=fs.length:=by
        intro es
        induction es with
        | nil=>intro fs h; cases fs <;> simp_all [bD]
        | cons a es ih =>
          intro fs h
          cases fs with
          | nil=>exact h.elim
          | cons f fs=>simp[ih fs h.2.2.2]
       simp only[Builtin.len_,ht,Array.getElem?_map,hx,Option.map_some,hcx,Sem.run_bind,run_underlying hu,Result.andThen_ok,getObj,Sem.run,hob]
       simp[goInt,hlen _ _ hfs]
      ·cases e0
    case cap =>
     simp only[dh,hop] at h
     split at h <;> first | (cases h; done) | skip
     rename_i t x ht hx
     split at h <;> first | (cases h; done) | skip
     rename_i el hu
     obtain⟨n,hn,hk⟩:=h
     refine⟨_,aC ?_,hk⟩
     split at hn <;> first | (cases hn; done) | skip
     ·rename_i b p k cc hex
      cases hn
      simp only[aB,hop,ht,hx,hu,hex]
     ·rename_i hex
      cases hn
      simp only[aB,hop,ht,hx,hu,hex]
      rfl
    case unsafeSliceData =>
     simp only[dh,hop] at h
     split at h <;> first | (cases h; done) | skip
     rename_i x
     unfold Rp at h
     split at h <;> first | (cases h; done) | skip
     ·rename_i hex; exact⟨_,aC (by simp only[aB,hop,hex]),h⟩
     ·rename_i hex; exact⟨_,aC (by simp only[aB,hop,hex]),h⟩
     ·rename_i hex; exact⟨_,aC (by simp only[aB,hop,hex]),h⟩
    case min =>
     simp only[dh,hop] at h
     split at h <;> first | (cases h; done) | skip
     rename_i x y
     obtain⟨k,a,b,hx,hy,hk⟩:=h
     refine⟨_,aC ?_,hk⟩
     simp only[aB,hop]
     refine jZ (l:=[.int k a,.int k b]) (by rw[hop]; simp[Op.operands,Call.operands,bS,hx,hy,cz,toCell]) (u:=.int k (if b<a then b else a)) ?_ rfl
     simp only[execOp,hop,resolve,invoke,builtin]
     rw[show(Array.map (fun x=>(cz (e x)).getD default) ⟨[x,y]⟩) = #[.int k a,.int k b] by simp[hx,hy,cz,toCell]]
     rfl
    case max =>
     simp only[dh,hop] at h
     split at h <;> first | (cases h; done) | skip
     rename_i x y
     obtain⟨k,a,b,hx,hy,hk⟩:=h
     refine⟨_,aC ?_,hk⟩
     simp only[aB,hop]
     refine jZ (l:=[.int k a,.int k b]) (by rw[hop]; simp[Op.operands,Call.operands,bS,hx,hy,cz,toCell]) (u:=.int k (if b > a then b else a)) ?_ rfl
     simp only[execOp,hop,resolve,invoke,builtin]
     rw[show(Array.map (fun x=>(cz (e x)).getD default) ⟨[x,y]⟩) = #[.int k a,.int k b] by simp[hx,hy,cz,toCell]]
     rfl
    all_goals (simp only[dh,hop] at h)
  | value f=>simp only[dh,hop] at h
  | invoke r m=>simp only[dh,hop] at h
 all_goals (simp only[dh,hop] at h)
end
def fP (zs:List AV) : Nat→List AV
 | 0=>[]
 | n + 1=>zs++fP zs n
theorem mO (zs:List AV) : ∀ n,(fP zs n).length=n * zs.length
 | 0=>by simp[fP]
 | n + 1=>by simp[fP,mO zs n,Nat.add_mul,Nat.add_comm]
theorem EL (zs:List AV) (h:0<zs.length) : ∀ (n k:Nat),k<n * zs.length→(fP zs n)[k]?=zs[k % zs.length]?
 | 0,k,hk=>by simp at hk
 | n + 1,k,hk=>by
   simp only[fP]
   by_cases h1:k<zs.length
   ·rw[List.getElem?_append_left h1,Nat.mod_eq_of_lt h1]
   ·rw[List.getElem?_append_right (by omega),EL zs h n _ (by rw[Nat.add_mul] at hk; omega)]
    congr 1
    have:k=(k - zs.length) + zs.length:=by omega
    rw[this,Nat.add_mod_right]; simp
theorem ER (zs:List AV) : ∀ n,lQ.Er zs n=fP zs n
 | 0=>rfl
 | n + 1=>by simp only[lQ.Er,fP,ER zs n]
def kC:List AV→List (Nat × Nat × AV)→Option (List AV)
 | cs,[]=>some cs
 | cs,(off,size,v) :: rest=>if v.cells.all oneCell=true∧v.cells.length=size∧off + size≤cs.length then kC (cs.take off++v.cells++cs.drop (off + size)) rest else none
def lL (t:TypeId) (x:AV) (K:RB→(Nat→AV)→Prop) : Prop:=x.cells.all oneCell=true∧1≤x.cells.length∧K (.row x.cells false t 0) (fun b=>.ptr b 0)
def bN (elem len:Nat) (zs:List AV) (parts:List (Nat × Nat × AV)) (K:RB→(Nat→AV)→Prop) : Prop :=
 ∃ l,kC (fP zs len) parts=some l∧K (.row l false elem 0) (fun b=>.slc b 0 len (.ex len))
def sK (elem bytes:Nat) (zs:List AV) (x y:AV) (K:RB→(Nat→AV)→Prop) : Prop :=
 ∃ kl kc l c,x=N kl l∧y=N kc c∧0≤l∧l≤c∧c.toNat * bytes≤140737488355328∧c.toNat≤140737488355328∧K (.row (fP zs c.toNat) false elem 0) (fun b=>.slc b 0 l.toNat (.ex c.toNat))
def GL (el:Nat) (x:AV) (K:RB→(Nat→AV)→Prop) : Prop :=
 ∃ s,x=St s∧K (.row (s.map fun b=>N .u8 b.toNat) true el 0) (fun b=>.slc b 0 s.length (.op 1))
def Xx (x:AV) (K:RB→(Nat→AV)→Prop) : Prop:=∃ s,x=St s∧K (.iM s 0) (fun b=>.ptr b 0)
def mU (P:Program) (o:Oper) (e:Operand→AV) (K:RB→(Nat→AV)→Prop) : Prop :=
 match o.op with
 | .alloc t=>match gP P t with
   | some zs=>match Nat.ble 1 zs.length with
     | true=>K (.row zs false t 0) (fun b=>.ptr b 0)
     | false=>False
   | none=>False
 | .box t x=>lL t (e x) K
 | .buildSlice t len parts=>match P.underlying t with
   | some (.slice elem)=>match aV P elem,gP P elem with
     | some size,some zs=>match Nat.ble 1 size,Nat.beq zs.length size,Nat.ble (len * size) 10000 with
       | true,true,true=>bN elem len zs (parts.toList.map fun p=>(p.1 * size,size,e p.2)) K
       | _,_,_=>False
     | _,_=>False
   | _=>False
 | .makeSlice t l c=>match P.underlying t with
   | some (.slice elem)=>match aV P elem,tZ P elem,gP P elem with
     | some size,some bytes,some zs=>match Nat.ble 1 size,Nat.beq zs.length size with
       | true,true=>sK elem bytes zs (e l) (e c) K
       | _,_=>False
     | _,_,_=>False
   | _=>False
 | .makeMap t r=>match r with
   | none=>K (.map [] 0) (fun b=>.map b)
   | some _=>False
 | .convert src dst x=>match P.underlying src,P.underlying dst with
   | some .string,some (.slice el)=>match P.underlying el,aV P el with
     | some (.int .u8),some 1=>GL el (e x) K
     | _,_=>False
   | _,_=>False
 | .range t x=>match P.underlying t with
   | some .string=>Xx (e x) K
   | _=>False
 | _=>False
section
variable {P:Program} {ρ:Ren} {o:Oper} {e:Operand→AV} {M:RM} {w:World}
def Bj (P:Program) (o:Oper) (e:Operand→AV) (x:RB) (mk:Nat→AV) : Prop:=∃ y,dQ P o e=some (y,mk)∧uM x y
theorem qy {tree:Tree AV} {zs:List AV} {n k:Nat} {v:AV} (hk:k<n) (h:tree.get k=some v) : cellAt tree zs n k=some v:=by
 unfold cellAt
 rw[aO.2 (by omega),h]
theorem uy {tree:Tree AV} {zs:List AV} {n k:Nat} {v:AV} (hk:k<n) (h:tree.get k=none) (hz:zs[k % zs.length]?=some v) : cellAt tree zs n k=some v:=by
 unfold cellAt
 rw[aO.2 (by omega),h]
 simp only
 split
 ·simp at hz
 ·rename_i z
  simp[Nat.mod_one] at hz
  rw[hz]
 ·rw[bH]; exact hz
theorem NE {size n:Nat} {zs:List AV} : ∀ (parts:List (Nat × AV)) (t:Tree AV) (l:List AV) {l' : List AV},l.length=n→(∀ (k:Nat) (v:AV),l[k]?=some v→cellAt t zs n k=some v) →
  kC l (parts.map fun p=>(p.1 * size,size,p.2))=some l'→∃ t',zP size n t parts=some t'∧l'.length=n∧∀ (k:Nat) (v:AV),l'[k]?=some v→cellAt t' zs n k=some v
 | [],t,l,l',hl,h,hf=>by
   simp only[List.map_nil,kC] at hf
   cases hf
   exact⟨t,rfl,hl,h⟩
 | (i,v) :: parts,t,l,l',hl,h,hf=>by
   simp only[List.map_cons,kC] at hf
   split at hf <;> first | (cases hf; done) | skip
   rename_i hc
   obtain⟨c1,c2,c3⟩:=hc
   obtain⟨t1,ht1⟩:=jq v.cells t (i * size) c1
   obtain⟨_,hget⟩:=ed _ _ _ ht1
   obtain⟨t',k1,k2,k3⟩:=NE (zs:=zs) parts t1 _ (n:=n) (by simp; omega) (fun k u hk=>by
    rw[ma hget]
    by_cases hin:i * size≤k∧k<i * size + v.cells.length
    ·rw[if_pos hin,if_pos (by omega)]
     rw[List.append_assoc,List.getElem?_append_right (by simp; omega),List.getElem?_append_left (by simp; omega)] at hk
     rw[← hk]; congr 1; simp; omega
    ·rw[if_neg hin]
     refine h k u ?_
     rw[← hk]
     by_cases hlt:k<i * size
     ·rw[List.append_assoc,List.getElem?_append_left (by simp; omega),List.getElem?_take,if_pos hlt]
     ·rw[List.getElem?_append_right (by simp; omega),List.getElem?_drop]
      congr 1; simp; omega) hf
   refine⟨t', ?_,k2,k3⟩
   simp only[zP,mP c2,aO.2 (show i * size + size≤n by omega),ht1]
   exact k1
theorem Mc {K:RB→(Nat→AV)→Prop} {x:RB} {mk:Nat→AV} {y:dm} (hk:K x mk) (ha:dQ P o e=some (y,mk)) (hl:uM x y) : ∃ x mk,Bj P o e x mk∧K x mk:=⟨x,mk,⟨y,ha,hl⟩,hk⟩
theorem wL {K:RB→(Nat→AV)→Prop} (h:mU P o e K) : ∃ x mk,Bj P o e x mk∧K x mk:=by
 cases hop:o.op
 case alloc t =>
  simp only[mU,hop] at h
  split at h <;> first | (cases h; done) | skip
  rename_i zs hz
  split at h <;> first | (cases h; done) | skip
  rename_i hb
  refine Mc h (y:=.row zs.length .leaf zs false t 0) (by simp only[dQ,hop,hz,hb]) ⟨rfl,rfl,rfl,rfl,fun k v hk=>?_⟩
  have hlt:=(List.getElem?_eq_some_iff.1 hk).1
  exact uy hlt (by simp[Tree.get]) (by rw[Nat.mod_eq_of_lt hlt]; exact hk)
 case box t x =>
  simp only[mU,hop] at h
  obtain⟨h1,h2,hk⟩:=h
  obtain⟨t',ht⟩:=jq (e x).cells .leaf 0 h1
  obtain⟨_,hget⟩:=ed _ _ _ ht
  refine Mc hk (y:=.row (e x).cells.length t' [] false t 0) (by simp only[dQ,hop,ht,aO.2 h2]) ⟨rfl,rfl,rfl,rfl,fun k v hk=>?_⟩
  have hlt:=(List.getElem?_eq_some_iff.1 hk).1
  exact qy hlt (by rw[hget,if_pos (by omega)]; simpa using hk)
 case buildSlice t len parts =>
  simp only[mU,hop] at h
  split at h <;> first | (cases h; done) | skip
  rename_i elem hu
  split at h <;> first | (cases h; done) | skip
  rename_i size zs hs hz
  split at h <;> first | (cases h; done) | skip
  rename_i h1 h2 h3
  obtain⟨l,hf,hk⟩:=h
  have h2':=aW h2
  have h1':=aP h1
  have e0:(parts.toList.map fun p=>(p.1 * size,size,e p.2))=(parts.toList.map fun p=>(p.1,e p.2)).map fun p=>(p.1 * size,size,p.2):=by simp
  rw[e0] at hf
  obtain⟨t',k1,k2,k3⟩:=NE (zs:=zs) (n:=len * size) _ .leaf _ (by rw[mO,h2']) (fun k v hk=>by
   have hlt:=(List.getElem?_eq_some_iff.1 hk).1
   rw[mO] at hlt
   rw[EL zs (by omega) len k hlt] at hk
   exact uy (by rw[← h2']; exact hlt) (by simp[Tree.get]) hk) hf
  exact Mc hk (y:=.row (len * size) t' zs false elem 0) (by simp only[dQ,hop,hu,hs,hz,h1,h2,h3,k1]) ⟨k2,rfl,rfl,rfl,k3⟩
 case makeSlice t l c =>
  simp only[mU,hop] at h
  split at h <;> first | (cases h; done) | skip
  rename_i elem hu
  split at h <;> first | (cases h; done) | skip
  rename_i size bytes zs hs hb hz
  split at h <;> first | (cases h; done) | skip
  rename_i h1 h2
  obtain⟨kl,kc,nl,nc,hl,hc,h3,h4,h5,h6,hk⟩:=h
  have h2':=aW h2
  have h1':=aP h1
  refine Mc hk (y:=.row (nc.toNat * size) .leaf zs false elem 0) ?_ ⟨by rw[mO,h2'],rfl,rfl,rfl,fun k v hk=>?_⟩
  ·simp only[dQ,hop,hu,hl,hc,pG h3,pG (show 0≤nc by omega),hs,hb,hz,h1,h2,aO.2 (show nl.toNat≤nc.toNat by omega),aO.2 h5,aO.2 h6]
  ·have hlt:=(List.getElem?_eq_some_iff.1 hk).1
   rw[mO] at hlt
   rw[EL zs (by omega) _ k hlt] at hk
   exact uy (by rw[← h2']; exact hlt) (by simp[Tree.get]) hk
 case makeMap t r =>
  simp only[mU,hop] at h
  split at h <;> first | (cases h; done) | skip
  exact Mc h (y:=.map [] 0) (by simp only[dQ,hop]) ⟨rfl,rfl⟩
 case convert src dst x =>
  simp only[mU,hop] at h
  split at h <;> first | (cases h; done) | skip
  rename_i el hs hd
  split at h <;> first | (cases h; done) | skip
  rename_i h1 h2
  obtain⟨s,hx,hk⟩:=h
  refine Mc hk (y:=.row s.length (Tree.ofList (s.map fun b=>N .u8 b.toNat) 0 .leaf) [] true el 0) (by simp only[dQ,hop,hs,hd,hx,h1,h2]) ⟨by simp,rfl,rfl,rfl,fun k v hk=>?_⟩
  have hlt:=(List.getElem?_eq_some_iff.1 hk).1
  exact qy (by simpa using hlt) (by rw[Tree.gY,if_pos (by omega)]; simpa using hk)
 case range t x =>
  simp only[mU,hop] at h
  split at h <;> first | (cases h; done) | skip
  rename_i hu
  obtain⟨s,hx,hk⟩:=h
  exact Mc hk (y:=.iM ⟨⟨s⟩⟩ 0) (by simp only[dQ,hop,hu,hx]) ⟨rfl,rfl⟩
 all_goals (simp only[mU,hop] at h)
theorem Nn {c:Operand→Value} {x:RB} {mk:Nat→AV} (hw:bn P ρ M w) (he:∀ x∈o.op.operands,af ρ (e x) (c x)) (h:Bj P o e x mk) :
  ∃ ρ' w' u,(execOp c o).run P w=.ok (.value u) w'∧After P M ρ w (M.push x) ρ' w'∧af ρ' (mk M.next) u:=by
 obtain⟨A,hA⟩:=hw
 obtain⟨y,ha,hle⟩:=h
 obtain⟨ρ',w',u,h1,h2,h3,h4⟩:=Jh hA.rel hA.size (nu he ha w)
 obtain⟨k1,k2,k3⟩:=RM.xU hA hle
 exact⟨ρ',w',u,h1,iF hA h3 h2 k1 k2 (by simp[AW.push]) k3,by rw[← hA.next]; exact h4⟩
end
end Go.Ab
