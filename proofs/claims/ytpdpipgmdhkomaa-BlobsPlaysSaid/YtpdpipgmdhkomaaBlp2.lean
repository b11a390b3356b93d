/- Part 2 of the ground of the proofs of this seat (texts Ab13 to R4). By an AI agent. -/
import Derived.Test.YtpdpipgmdhkomaaBlp1
import Derived.LoopN
import Derived.Below
import Derived.ChangeSame
import Derived.Laws.StructEq
set_option linter.unusedVariables false
set_option linter.unusedSimpArgs false
namespace Go.Ab
open Go Go.RowKit
theorem QK {v u:Value} (h:KD v u=true) : v=u:=by
 unfold KD at h
 split at h <;> first | rfl | (cases h; done) | skip
 ·simp at h; rw[h]
 ·simp at h; rw[h.1,h.2]
 ·rename_i a b
  simp only[decide_eq_true_eq] at h
  have:a.data=b.data:=Array.ext' h
  cases a; cases b; simp at this; rw[this]
theorem VO {a b:Cap} (h:RH a b=true) : a=b:=by
 unfold RH at h
 split at h <;> first | (cases h; done) | skip
 ·rw[bf h]
 ·rw[bf h]
theorem X8 {a b:Fn} (h:Vp a b=true) : a=b:=by
 unfold Vp at h
 split at h <;> first | (cases h; done) | skip
 rw[bf h]
mutual
theorem qM:∀ (x y:AV),lH x y=true→x=y
 | .top,y,h=>by cases y <;> simp[lH] at h; rfl
 | .atl k,y,h=>by
   cases y <;> simp only[lH] at h <;> first | (cases h; done) | skip
   rw[bf h]
 | .sc v,y,h=>by
   cases y <;> simp only[lH] at h <;> first | (cases h; done) | skip
   rw[QK h]
 | .ptr b o,y,h=>by
   cases y <;> simp only[lH,Bool.and_eq_true] at h <;> first | (cases h; done) | skip
   rw[bf h.1,bf h.2]
 | .slc b o l k,y,h=>by
   cases y <;> simp only[lH,Bool.and_eq_true] at h <;> first | (cases h; done) | skip
   rw[bf h.1.1.1,bf h.1.1.2,bf h.1.2,VO h.2]
 | .emp b,y,h=>by
   cases y <;> simp only[lH] at h <;> first | (cases h; done) | skip
   rw[bf h]
 | .map b,y,h=>by
   cases y <;> simp only[lH] at h <;> first | (cases h; done) | skip
   rw[bf h]
 | .fn f xs ys,y,h=>by
   cases y <;> simp only[lH,Bool.and_eq_true] at h <;> first | (cases h; done) | skip
   rw[X8 h.1.1,mJ _ _ h.1.2,mJ _ _ h.2]
 | .ifc t v,y,h=>by
   cases y <;> simp only[lH,Bool.and_eq_true] at h <;> first | (cases h; done) | skip
   rw[bf h.1,qM _ _ h.2]
 | .agg xs,y,h=>by
   cases y <;> simp only[lH] at h <;> first | (cases h; done) | skip
   rw[mJ _ _ h]
 | .tup xs,y,h=>by
   cases y <;> simp only[lH] at h <;> first | (cases h; done) | skip
   rw[mJ _ _ h]
theorem mJ:∀ (xs ys:List AV),oq xs ys=true→xs=ys
 | [],ys,h=>by cases ys <;> simp[oq] at h; rfl
 | x :: xs,ys,h=>by
   cases ys with
   | nil=>simp[oq] at h
   | cons y ys =>
     simp only[oq,Bool.and_eq_true] at h
     rw[qM _ _ h.1,mJ _ _ h.2]
end
theorem G6 {x y:Option AV} (h:Jz x y=true) : x=y:=by
 unfold Jz at h
 split at h <;> first | rfl | (cases h; done) | skip
 rw[qM _ _ h]
theorem Es:∀ (x y:Tree AV),wJ x y=true→x=y
 | .leaf,y,h=>by cases y <;> simp[wJ] at h; rfl
 | .node l v r,y,h=>by
   cases y with
   | leaf=>simp[wJ] at h
   | node l' v' r' =>
     simp only[wJ,Bool.and_eq_true] at h
     rw[G6 h.1.1,Es _ _ h.1.2,Es _ _ h.2]
theorem uU {x y:dU} (h:A9 x y=true) : x=y:=by
 unfold A9 at h
 split at h <;> first | (cases h; done) | skip
 ·simp only[Bool.and_eq_true,beq_iff_eq] at h
  rw[bf h.1.1.1.1.1,Es _ _ h.1.1.1.1.2,mJ _ _ h.1.1.1.2,h.1.1.2,bf h.1.2,bf h.2]
 ·rw[bf h]
theorem uB {acc:List Nat} {j:Nat} : ∀ (es:List Edge),Nat.testBit (kL acc es) j=true→∃ e∈es,Region.binds .any e=true∧(j=e.on∨∃ m,acc[e.on]?=some m∧Nat.testBit m j=true)
 | [],h=>by simp[kL] at h
 | e :: es,h=>by
   simp only[kL] at h
   split at h
   ·rename_i hb
    rw[Nat.testBit_or,Nat.testBit_or,Bool.or_eq_true,Bool.or_eq_true] at h
    rcases h with(h | h) | h
    ·rw[Nat.testBit_two_pow] at h
     have h:=of_decide_eq_true h
     exact⟨e,.head _,hb,.inl h.symm⟩
    ·rw[bQ] at h
     cases hm:acc[e.on]? with
     | none=>simp[hm] at h
     | some m=>exact⟨e,.head _,hb,.inr ⟨m,hm,by simpa [hm] using h⟩⟩
    ·obtain⟨e',h1,h2⟩:=uB es h
     exact⟨e',.tail _ h1,h2⟩
   ·obtain⟨e',h1,h2⟩:=uB es h
    exact⟨e',.tail _ h1,h2⟩
theorem uV:∀ (L:List Oper) (acc:List Nat),(∀ i,i<acc.length→(je L acc)[i]?=acc[i]?) ∧
  ∀ j o,L[j]?=some o→∃ pre,pre.length=acc.length + j∧(∀ i,i<acc.length + j→pre[i]?=(je L acc)[i]?)∧(je L acc)[acc.length + j]?=some (kL pre o.after.toList)
 | [],acc=>⟨fun _ _=>rfl,fun j o h=>by simp at h⟩
 | x :: L,acc=>by
   obtain⟨h1,h2⟩:=uV L (acc++[kL acc x.after.toList])
   simp only[je]
   have hpre:∀ i,i<acc.length→(je L (acc++[kL acc x.after.toList]))[i]?=acc[i]?:=fun i hi=>by
    rw[h1 i (by simp; omega),List.getElem?_append_left hi]
   refine⟨hpre,fun j o hj=>?_⟩
   cases j with
   | zero =>
     simp at hj; subst hj
     refine⟨acc,rfl,fun i hi=>(hpre i hi).symm, ?_⟩
     rw[Nat.add_zero,h1 acc.length (by simp)]
     simp
   | succ j =>
     obtain⟨pre,a,b,c⟩:=h2 j o (by simpa using hj)
     simp only[List.length_append,List.length_singleton] at a b c
     exact⟨pre,by omega,fun i hi=>b i (by omega),by rw[show acc.length + (j + 1)=acc.length + 1 + j by omega]; exact c⟩
section
variable {L:List Oper} {S:Nat→Prop}
def Closed (L:List Oper) (S:Nat→Prop) : Prop:=∀ i o,L[i]?=some o→S i→∀ e∈o.after.toList,Region.binds .any e=true→S e.on
theorem PI (hS:Closed L S) : ∀ (i:Nat) (m:Nat),(je L [])[i]?=some m→(∀ o,L[i]?=some o→∀ e∈o.after.toList,Region.binds .any e=true→S e.on)→i<L.length→∀ j,Nat.testBit m j=true→S j:=by
 intro i
 induction i using Nat.strongRecOn with
 | _ i ih =>
   intro m hm hd hi j hj
   obtain⟨pre,h1,h2,h3⟩:=(uV L []).2 i L[i] (by simp[hi])
   simp only[List.length_nil,Nat.zero_add] at h1 h2 h3
   rw[hm] at h3
   cases h3
   obtain⟨e,he,hb,hj⟩:=uB _ hj
   have hon:=hd L[i] (by simp[hi]) e he hb
   rcases hj with rfl | ⟨m',hm',hj⟩
   ·exact hon
   ·have hlt:e.on<i:=by
     rcases Nat.lt_or_ge e.on pre.length with h | h
     ·omega
     ·rw[List.getElem?_eq_none h] at hm'; cases hm'
    rw[h2 e.on hlt] at hm'
    exact ih e.on hlt m' hm' (fun o ho e' he' hb'=>hS e.on o ho hon e' he' hb') (by omega) j hj
end
theorem FK {P:Program} {es:List Nat} : ∀ (os:List Oper) (ms:List Nat) (i0 j:Nat) (r:Row),(nU P es os ms i0)[j]?=some r →
  ∃ o m,os[j]?=some o∧ms[j]?=some m∧r = { i:=i0 + j,o,m,lev:=jX m es 0 0,kd:=kindOf P o }
 | [],_,_,_,_,h=>by simp[nU] at h
 | _ :: _,[],_,_,_,h=>by simp[nU] at h
 | o :: os,m :: ms,i0,0,r,h=>by
   simp only[nU,List.getElem?_cons_zero,Option.some.injEq] at h
   exact⟨o,m,rfl,rfl,by rw[← h]; rfl⟩
 | o :: os,m :: ms,i0,j + 1,r,h=>by
   simp only[nU,List.getElem?_cons_succ] at h
   obtain⟨o',m',a,b,c⟩:=FK os ms (i0 + 1) j r h
   exact⟨o',m',by simpa using a,by simpa using b,by rw[c]; congr 1; omega⟩
theorem IL {P:Program} {es:List Nat} : ∀ (os:List Oper) (ms:List Nat) (i0 j:Nat) (o:Oper) (m:Nat),os[j]?=some o→ms[j]?=some m →
  (nU P es os ms i0)[j]?=some { i:=i0 + j,o,m,lev:=jX m es 0 0,kd:=kindOf P o }
 | [],_,_,_,_,_,h,_=>by simp at h
 | _ :: _,[],_,_,_,_,_,h=>by simp at h
 | o :: os,m :: ms,i0,0,o',m',h,h'=>by
   simp at h h'; subst h; subst h'; rfl
 | o :: os,m :: ms,i0,j + 1,o',m',h,h'=>by
   simp only[nU,List.getElem?_cons_succ]
   rw[IL os ms (i0 + 1) j o' m' (by simpa using h) (by simpa using h')]
   congr 2; omega
theorem zR:∀ (L:List Oper) (acc:List Nat),(je L acc).length=acc.length + L.length
 | [],acc=>by simp[je]
 | x :: L,acc=>by simp only[je,zR L,List.length_append,List.length_cons,List.length_nil]; omega
theorem nE {P:Program} : ∀ (L:List Oper) (i0 x:Nat),x∈sN P L i0↔∃ j o,L[j]?=some o∧x=i0 + j∧iP (kindOf P o)=true
 | [],i0,x=>by simp[sN]
 | o :: L,i0,x=>by
   have ih:=nE (P:=P) L (i0 + 1) x
   simp only[sN]
   split
   ·rename_i hk
    rw[List.mem_cons,ih]
    constructor
    ·rintro(rfl | ⟨j,o',a,b,c⟩)
     ·exact⟨0,o,rfl,rfl,hk⟩
     ·exact⟨j + 1,o',by simpa using a,by omega,c⟩
    ·rintro⟨j,o',a,b,c⟩
     cases j with
     | zero=>exact .inl (by omega)
     | succ j=>exact .inr ⟨j,o',by simpa using a,by omega,c⟩
   ·rename_i hk
    rw[ih]
    constructor
    ·rintro⟨j,o',a,b,c⟩
     exact⟨j + 1,o',by simpa using a,by omega,c⟩
    ·rintro⟨j,o',a,b,c⟩
     cases j with
     | zero=>simp at a; subst a; rw[hk] at c; cases c
     | succ j=>exact⟨j,o',by simpa using a,by omega,c⟩
theorem KO:∀ (L:List Oper) (i0:Nat) (t0:Tree Nat) (t j:Nat),(Tn L i0 t0).get t=some j→(∃ q o,L[q]?=some o∧j=i0 + q∧o.dst=some t)∨t0.get t=some j
 | [],_,_,_,_,h=>.inr h
 | o :: L,i0,t0,t,j,h=>by
   simp only[Tn] at h
   rcases KO L (i0 + 1) _ t j h with⟨q,o',a,b,c⟩ | h
   ·exact .inl ⟨q + 1,o',by simpa using a,by omega,c⟩
   ·cases hd:o.dst with
    | none=>rw[hd] at h; exact .inr h
    | some d =>
      rw[hd] at h
      simp only[Tree.aY] at h
      split at h
      ·rename_i e
       cases h
       exact .inl ⟨0,o,rfl,rfl,by rw[hd,e]⟩
      ·exact .inr h
theorem Eu:∀ (L:List Oper) (i0:Nat),Fs L i0=true→∀ j o,L[j]?=some o→∀ e∈o.after.toList,Region.binds .any e=true→e.on<i0 + j
 | [],_,_,_,_,h=>by simp at h
 | x :: L,i0,h,j,o,ho=>by
   simp only[Fs,Bool.and_eq_true,List.all_eq_true] at h
   cases j with
   | zero =>
     simp at ho; subst ho
     intro e he hb
     have:=h.1 e he
     rw[hb] at this
     simp only[Bool.not_true,Bool.false_or] at this
     have:=aW this
     omega
   | succ j =>
     intro e he hb
     have:=Eu L (i0 + 1) h.2 j o (by simpa using ho) e he hb
     omega
theorem Eh {ms:List Nat} : ∀ (es done:List Nat),Fg ms done es=true→∀ l1 x l2,es=l1++x :: l2→∀ y,y∈done∨y∈l1→Nat.testBit ((ms[x]?).getD 0) y=true
 | [],_,_,l1,x,l2,h=>by simp at h
 | z :: es,done,hc,l1,x,l2,he=>by
   simp only[Fg,Bool.and_eq_true,List.all_eq_true] at hc
   intro y hy
   cases l1 with
   | nil =>
     simp at he
     obtain⟨rfl,_⟩:=he
     rcases hy with hy | hy
     ·have:=hc.1 y hy; rwa [bQ] at this
     ·simp at hy
   | cons z' l1 =>
     simp at he
     obtain⟨rfl,he⟩:=he
     refine Eh es (z :: done) hc.2 l1 x l2 he y ?_
     rcases hy with hy | hy
     ·exact .inl (.tail _ hy)
     ·rcases List.mem_cons.1 hy with e | hy
      ·exact .inl (by rw[e]; exact .head _)
      ·exact .inr hy
theorem uq {m:Nat} : ∀ (es:List Nat) (r kE:Nat),jX m es r kE=kE∨∃ q x,es[q]?=some x∧Nat.testBit m x=true∧jX m es r kE=r + q + 1
 | [],_,_=>.inl rfl
 | x :: es,r,kE=>by
   simp only[jX]
   split
   ·rename_i hb
    rcases uq (m:=m) es (r + 1) (r + 1) with h | ⟨q,y,a,b,c⟩
    ·exact .inr ⟨0,x,rfl,hb,h⟩
    ·exact .inr ⟨q + 1,y,by simpa using a,b,by rw[c]; omega⟩
   ·rcases uq (m:=m) es (r + 1) kE with h | ⟨q,y,a,b,c⟩
    ·exact .inl h
    ·exact .inr ⟨q + 1,y,by simpa using a,b,by rw[c]; omega⟩
theorem zI {s:RS} : ∀ (rows:List Row) (seen:List Nat),DY s rows seen=true →
  (∀ (j:Nat) (r:Row) (b:Nat),rows[j]?=some r→s.bi.get r.i=some b→b ∉ seen) ∧
  ∀ (j1 j2:Nat) (r1 r2:Row) (b:Nat),rows[j1]?=some r1→rows[j2]?=some r2→s.bi.get r1.i=some b→s.bi.get r2.i=some b→j1=j2
 | [],_,_=>⟨fun j r b h=>by simp at h,fun j1 j2 r1 r2 b h=>by simp at h⟩
 | r :: rows,seen,h=>by
   simp only[DY] at h
   split at h
   ·rename_i hn
    obtain⟨h1,h2⟩:=zI rows seen h
    refine⟨fun j r' b hj hb=>?_,fun j1 j2 r1 r2 b a1 a2 b1 b2=>?_⟩
    ·cases j with
     | zero=>simp at hj; subst hj; rw[hn] at hb; cases hb
     | succ j=>exact h1 j r' b (by simpa using hj) hb
    ·cases j1 with
     | zero=>simp at a1; subst a1; rw[hn] at b1; cases b1
     | succ j1=>cases j2 with
       | zero=>simp at a2; subst a2; rw[hn] at b2; cases b2
       | succ j2=>rw[h2 j1 j2 r1 r2 b (by simpa using a1) (by simpa using a2) b1 b2]
   ·rename_i b0 hb0
    simp only[Bool.and_eq_true,Bool.not_eq_true',List.any_eq_false] at h
    obtain⟨h1,h2⟩:=zI rows (b0 :: seen) h.2
    have hns:b0 ∉ seen:=fun hm=>by
     have:=h.1 b0 hm
     rw[show Nat.beq b0 b0=true from by simp] at this
     exact this rfl
    refine⟨fun j r' b hj hb=>?_,fun j1 j2 r1 r2 b a1 a2 b1 b2=>?_⟩
    ·cases j with
     | zero=>simp at hj; subst hj; rw[hb0] at hb; cases hb; exact hns
     | succ j=>exact fun hm=>h1 j r' b (by simpa using hj) hb (.tail _ hm)
    ·cases j1 with
     | zero =>
       simp at a1; subst a1
       rw[hb0] at b1; cases b1
       cases j2 with
       | zero=>rfl
       | succ j2=>exact absurd (.head _) (h1 j2 r2 b0 (by simpa using a2) b2)
     | succ j1=>cases j2 with
       | zero =>
         simp at a2; subst a2
         rw[hb0] at b2; cases b2
         exact absurd (.head _) (h1 j1 r1 b0 (by simpa using a1) b1)
       | succ j2=>rw[h2 j1 j2 r1 r2 b (by simpa using a1) (by simpa using a2) b1 b2]
structure kG (P:Program) (nt:Nat) (ops:Array Oper) (ri:RI) : Prop where
 ms:ri.ms=je ops.toList []
 es:ri.es=sN P ops.toList 0
 rows:ri.rows=nU P ri.es ops.toList ri.ms 0
 uA:∀ (j:Nat) (o:Oper),ops.toList[j]?=some o→∀ e∈o.after.toList,Region.binds .any e=true→e.on<j
 chain:∀ l1 x l2,ri.es=l1++x :: l2→∀ y,y∈l1→Nat.testBit ((ri.ms[x]?).getD 0) y=true
 dst:∀ (j:Nat) (r:Row),ri.rows[j]?=some r→∀ d,r.o.dst=some d→ri.wr.get d=some r.i∧d<nt
 wrs:∀ t j,ri.wr.get t=some j→∃ o,ops.toList[j]?=some o∧o.dst=some t
theorem qJ {P:Program} {nt:Nat} {ops:Array Oper} {ri:RI} (h:qh P nt ops=some ri) : kG P nt ops ri:=by
 unfold qh at h
 simp only at h
 split at h <;> first | cases h | skip
 rename_i hc
 simp only[Bool.and_eq_true,List.all_eq_true] at hc
 obtain⟨⟨h1,h2⟩,h3⟩:=hc
 refine⟨rfl,rfl,rfl,fun j o ho e he hb=>?_,fun l1 x l2 he y hy=>?_,fun j r hr d hd=>?_,fun t j ht=>?_⟩
 ·have:=Eu _ _ h1 j o ho e he hb; omega
 ·exact Eh _ _ h2 l1 x l2 he y (.inr hy)
 ·have:=h3 r (List.mem_of_getElem? hr)
  rw[hd] at this
  simp only[Bool.and_eq_true] at this
  have h5:=aW this.2
  have h4:=this.1
  split at h4
  ·rename_i j' hj'; rw[hj',bf h4]; exact⟨rfl,h5⟩
  ·cases h4
 ·rcases KO _ _ _ _ _ ht with⟨q,o,a,b,c⟩ | h
  ·exact⟨o,by rw[b,Nat.zero_add]; exact a,c⟩
  ·simp[Tree.get] at h
section
variable {P:Program} {X:Ext} {base:Base} {nt:Nat} {ops:Array Oper} {ri:RI}
theorem kG.row (ht:kG P nt ops ri) {j:Nat} {r:Row} (h:ri.rows[j]?=some r) :
  r.i=j∧ops.toList[j]?=some r.o∧ri.ms[j]?=some r.m∧r.lev=jX r.m ri.es 0 0∧r.kd=kindOf P r.o:=by
 rw[ht.rows] at h
 obtain⟨o,m,a,b,rfl⟩:=FK _ _ _ _ _ h
 exact⟨by simp,a,b,rfl,rfl⟩
theorem kG.ex (ht:kG P nt ops ri) {j:Nat} {o:Oper} (h:ops.toList[j]?=some o) : ∃ r,ri.rows[j]?=some r∧r.o=o:=by
 have hl:ri.ms.length=ops.toList.length:=by rw[ht.ms,zR]; simp
 have hj:j<ri.ms.length:=by rw[hl]; exact(List.getElem?_eq_some_iff.1 h).1
 exact⟨_,by rw[ht.rows]; exact IL _ _ _ _ _ ri.ms[j] h (by simp[hj]),rfl⟩
theorem kG.nR (ht:kG P nt ops ri) {j:Nat} {r:Row} (h:ri.rows[j]?=some r) : j∈ri.es↔iP r.kd=true:=by
 obtain⟨h1,h2,h3,h4,h5⟩:=ht.row h
 rw[ht.es,nE,h5]
 constructor
 ·rintro⟨q,o,a,b,c⟩
  rw[Nat.zero_add] at b; subst b
  rw[h2] at a; cases a; exact c
 ·exact fun hk=>⟨j,r.o,h2,by simp,hk⟩
theorem kG.ahead (ht:kG P nt ops ri) {S:Nat→Prop} (hS:Closed ops.toList S) {j:Nat} {r:Row} (h:ri.rows[j]?=some r) (hr:∀ e∈r.o.after.toList,Region.binds .any e=true→S e.on) {q:Nat} (hq:Nat.testBit r.m q=true) : S q:=by
 obtain⟨h1,h2,h3,h4,h5⟩:=ht.row h
 exact PI hS j r.m (by rw[← ht.ms]; exact h3) (fun o ho=>by rw[h2] at ho; cases ho; exact hr) (List.getElem?_eq_some_iff.1 h2).1 q hq
theorem kG.zW (ht:kG P nt ops ri) {S:Nat→Prop} (hS:Closed ops.toList S) {j:Nat} (hj:S j) {o:Oper} (ho:ops.toList[j]?=some o) {q:Nat} (hq:Nat.testBit ((ri.ms[j]?).getD 0) q=true) : S q:=by
 obtain⟨r,hr,rfl⟩:=ht.ex ho
 obtain⟨h1,h2,h3,h4,h5⟩:=ht.row hr
 rw[h3] at hq
 exact ht.ahead hS hr (fun e he hb=>hS j _ h2 hj e he hb) hq
def ET (ρ:Ren) (T0:Tree AV) (wr:Tree Nat) (vals:Tree AV) (S:Nat→Prop) (a:Act) : Prop :=
 ∀ t,(∀ j,wr.get t=some j→S j→aj ρ ((vals.get j).getD .top) (a.tmps.getD t undef))∧((∀ j,wr.get t=some j→¬ S j)→aj ρ ((T0.get t).getD .top) (a.tmps.getD t undef))
structure Inv (P:Program) (base:Base) (nt:Nat) (ops:Array Oper) (ri:RI) (T0:Tree AV) (n0:Nat) (ρ0:Ren) (w0:World) (k:Nat) (done rest:List Nat) (s:RS) (S:Nat→Prop) (ρ:Ren) (a:Act) (w:World) : Prop where
 es:ri.es=done++rest
 len:done.length=k
 closed:Closed ops.toList S
 dn:∀ x∈done,S x
 rs:∀ x∈rest,¬ S x
 lev:∀ (j:Nat) (r:Row),ri.rows[j]?=some r→iP r.kd=false→S j→r.lev≤k
 size:a.tmps.size=nt
 defers:a.defers=[]
 slot:ET ρ T0 ri.wr s.vals S a
 jJ:bg P base ρ s.A w
 step:Step base n0 ρ0 w0 ρ w
 next:n0≤s.A.next
 bid:∀ j b,s.bi.get j=some b→n0≤b∧b<s.A.next∧(¬ S j→ρ b=none)∧j<ops.size
theorem rZ {T0:Tree AV} {wr:Tree Nat} {k:Nat} : ∀ (rows:List Row) (s s' : RS),vU P ops T0 wr k rows s=some s' →
  (∀ j,(∀ r∈rows,r.i=j→¬ (r.lev=k∧iP r.kd=false))→s'.vals.get j=s.vals.get j∧s'.bi.get j=s.bi.get j) ∧
  (∀ ρ w,bg P base ρ s.A w→bg P base ρ s'.A w)∧s.A.next≤s'.A.next∧(∀ j b,s'.bi.get j=some b→s.bi.get j=some b∨(s.A.next≤b∧b<s'.A.next∧∃ r∈rows,r.i=j))
 | [],s,s',h=>by
   simp only[vU] at h; cases h
   exact⟨fun _ _=>⟨rfl,rfl⟩,fun _ _ h=>h,Nat.le_refl _,fun _ _ h=>.inl h⟩
 | r :: rows,s,s',h=>by
   simp only[vU] at h
   split at h
   ·obtain⟨a,b,c,d⟩:=rZ rows s s' h
    exact⟨fun j hj=>a j fun r' hr'=>hj r' (.tail _ hr'),b,c,fun j b' hb'=>(d j b' hb').imp id fun⟨x,y,r',z,u⟩=>⟨x,y,r',.tail _ z,u⟩⟩
   ·rename_i hk
    simp only[Bool.and_eq_true,Bool.not_eq_true'] at hk
    have sV:=bf hk.1
    have key:∀ (v:AV),vU P ops T0 wr k rows { s with vals:=s.vals.set r.i v } = some s' →
      (∀ j,(∀ r'∈r :: rows,r'.i=j→¬ (r'.lev=k∧iP r'.kd=false))→s'.vals.get j=s.vals.get j∧s'.bi.get j=s.bi.get j) ∧
      (∀ ρ w,bg P base ρ s.A w→bg P base ρ s'.A w)∧s.A.next≤s'.A.next∧(∀ j b,s'.bi.get j=some b→s.bi.get j=some b∨(s.A.next≤b∧b<s'.A.next∧∃ r'∈r :: rows,r'.i=j)):=by
     intro v h
     obtain⟨a,b,c,d⟩:=rZ rows _ s' h
     refine⟨fun j hj=>?_,b,c,fun j b' hb'=>(d j b' hb').imp id fun⟨x,y,r',z,u⟩=>⟨x,y,r',.tail _ z,u⟩⟩
     obtain⟨e1,e2⟩:=a j fun r' hr'=>hj r' (.tail _ hr')
     refine⟨?_,e2⟩
     rw[e1]
     simp only[Tree.aY]
     rw[if_neg]
     intro e
     exact hj r (.head _) e.symm ⟨sV,hk.2⟩
    split at h <;> first | cases h | skip
    ·exact key _ h
    ·split at h <;> first | cases h | skip
     ·split at h <;> first | cases h | skip
      exact key _ h
     ·split at h <;> first | cases h | skip
      exact key _ h
     ·split at h <;> first | cases h | skip
      rename_i x mk hx
      obtain⟨a,b,c,d⟩:=rZ rows _ s' h
      simp only[AW.push] at c d
      refine⟨fun j hj=>?_,fun ρ w hw=>b ρ w (rP hw x),by omega,fun j b' hb'=>?_⟩
      ·obtain⟨e1,e2⟩:=a j fun r' hr'=>hj r' (.tail _ hr')
       have hne:j≠r.i:=fun e=>hj r (.head _) e.symm ⟨sV,hk.2⟩
       simp only[Tree.aY,if_neg hne] at e1 e2
       exact⟨e1,e2⟩
      ·rcases d j b' hb' with h | h
       ·rw[Tree.aY] at h
        split at h
        ·rename_i e; cases h; exact .inr ⟨Nat.le_refl _,by omega,r,.head _,e.symm⟩
        ·exact .inl h
       ·obtain⟨x1,x2,r',z,u⟩:=h
        exact .inr ⟨by omega,x2,r',.tail _ z,u⟩
variable {T0:Tree AV} {n0:Nat} {ρ0:Ren} {w0:World} {k:Nat} {done rest:List Nat} {s:RS} {S:Nat→Prop} {ρ:Ren} {a:Act} {w:World}
theorem Ou (ht:kG P nt ops ri) (hI:Inv P base nt ops ri T0 n0 ρ0 w0 k done rest s S ρ a w) {i:Nat} {r:Row} (hr:ri.rows[i]?=some r) (hns:¬ S i) (hd:∀ e∈r.o.after.toList,Region.binds .any e=true→S e.on)
  (hok:oO ri r=true) : ∀ x∈r.o.op.operands,aj ρ (gN T0 ri.wr s.vals r.m x) (a.eval x):=by
 intro x hx
 have hx' : Ej ri r x=true:=by
  unfold oO at hok
  exact List.all_eq_true.1 hok x (by simpa using hx)
 cases x with
 | tmp t =>
   obtain⟨h1,h2⟩:=hI.slot t
   simp only[gN,Act.eval]
   simp only[Ej] at hx'
   cases hw:ri.wr.get t with
   | none =>
     simp only
     exact h2 fun j hj=>by rw[hw] at hj; cases hj
   | some j =>
     rw[hw] at hx'
     simp only
     cases hb:Nat.testBit r.m j with
     | true =>
       simp only
       exact h1 j hw (ht.ahead hI.closed hr hd hb)
     | false =>
       simp only
       refine h2 fun j' hj'=>?_
       rw[hw] at hj'; cases hj'
       simp only[hb,Bool.false_or,Bool.or_eq_true] at hx'
       obtain⟨e1,_⟩:=ht.row hr
       rcases hx' with hx' | hx'
       ·rw[bf hx',e1]; exact hns
       ·intro hS
        rw[bQ,e1] at hx'
        obtain⟨o,ho,_⟩:=ht.wrs t j hw
        exact hns (ht.zW hI.closed hS ho hx')
 | const v =>
   simp only[gN,jm,Act.eval]
   cases hv:iQ v with
   | none=>exact .top _
   | some u=>exact gY hv
 | global g=>exact .top _
 | func f=>exact .fn _ _ _ _ _ rfl .nil .nil
theorem rH (ht:kG P nt ops ri) (hI:Inv P base nt ops ri T0 n0 ρ0 w0 k done rest s S ρ a w) {i:Nat} {r:Row} (hr:ri.rows[i]?=some r) (hd:∀ e∈r.o.after.toList,Region.binds .any e=true→S e.on) {b:Bool}
  (hw:Av ops ri.wr s.vals r=some b) : Region.wanted r.o (yielded ops a.tmps)=b:=by
 unfold Av at hw
 unfold Region.wanted
 split at hw
 ·rename_i hg; simp only[hg]; cases hw; rfl
 ·rename_i j want hg
  simp only[hg]
  split at hw <;> first | cases hw | skip
  rename_i d hdst
  split at hw <;> first | cases hw | skip
  rename_i j' hb hwr
  have hv:=(hI.slot d).1 j' hwr
  split at hw <;> first | cases hw | skip
  ·rename_i t he hval
   have he:=bf he
   subst he
   have hv:=hv (ht.ahead hI.closed hr hd hb)
   rw[hval] at hv
   have hc:=(aN hv).1
   have:a.tmps[d]?=some (.bool t):=by
    rw[Array.getD_eq_getD_getElem?] at hc
    cases hx:a.tmps[d]? with
    | none=>rw[hx] at hc; simp[undef] at hc
    | some y=>rw[hx] at hc; simp at hc; rw[hc]
   unfold yielded
   rw[hdst]
   simp[this]
  ·rename_i he hval
   have he:=bf he
   subst he
   have hv:=hv (ht.ahead hI.closed hr hd hb)
   rw[hval] at hv
   obtain⟨vs,hc,hrl⟩:=zV hv
   cases hrl
   have hn:∀ t,a.tmps[d]?≠some (.bool t):=by
    intro t hx
    rw[Array.getD_eq_getD_getElem?,hx] at hc
    simp at hc
   unfold yielded
   rw[hdst]
   simp only[Option.bind_some]
   first
    | rfl
    | (split
       ·rename_i hx; exact absurd hx (hn _)
       ·rfl)
theorem BQ (ht:kG P nt ops ri) {vals:Tree AV} (hs:ET ρ T0 ri.wr vals S a) (hsz:a.tmps.size=nt) {i:Nat} {r:Row} (hr:ri.rows[i]?=some r) {v:AV} {v' : Value} (hv:aj ρ v v') (hvi:vals.get i=some v) {S' : Nat→Prop} (hS' : ∀ j,S' j↔S j∨j=i) :
  ET ρ T0 ri.wr vals S' (a.put r.o.dst v'):=by
 obtain⟨e1,e2,_⟩:=ht.row hr
 intro t
 have hput:(a.put r.o.dst v').tmps.getD t undef=if r.o.dst=some t then v' else a.tmps.getD t undef:=by
  cases hd:r.o.dst with
  | none=>simp[Act.put]
  | some d =>
    have:=(ht.dst i r hr d hd).2
    simp only[Act.put]
    rw[NN _ _ _ _ (by rw[hsz]; exact this)]
    by_cases e:t=d
    ·subst e; simp
    ·rw[if_neg e,if_neg (by simpa using fun h=>e h.symm)]
 rw[hput]
 by_cases hd:r.o.dst=some t
 ·rw[if_pos hd]
  have hw:=(ht.dst i r hr t hd).1
  rw[e1] at hw
  refine⟨fun j hj _=>?_,fun h=>absurd ((hS' i).2 (.inr rfl)) (h i hw)⟩
  rw[hw] at hj; cases hj
  rw[hvi]; exact hv
 ·rw[if_neg hd]
  obtain⟨h1,h2⟩:=hs t
  have hne:∀ j,ri.wr.get t=some j→j≠i:=fun j hj e=>by
   subst e
   obtain⟨o,ho,hdo⟩:=ht.wrs t j hj
   rw[e2] at ho; cases ho
   exact hd hdo
  refine⟨fun j hj hS=>h1 j hj (((hS' j).1 hS).resolve_right (hne j hj)),fun h=>h2 fun j hj hS=>h j hj ((hS' j).2 (.inl hS))⟩
theorem Bq {vals:Tree AV} (t:Nat) (v:Value) : ∀ (rows:List Row) (T:Tree AV),(∀ r∈rows,r.o.dst=some t→aj ρ ((vals.get r.i).getD .top) v)→((∃ r∈rows,r.o.dst=some t)∨aj ρ ((T.get t).getD .top) v) →
  aj ρ (((yV T vals rows).get t).getD .top) v
 | [],T,_,h=>by
   rcases h with⟨r,hr,_⟩ | h
   ·cases hr
   ·exact h
 | r :: rows,T,h1,h2=>by
   simp only[yV]
   cases hd:r.o.dst with
   | none =>
     simp only
     refine Bq t v rows T (fun r' hr'=>h1 r' (.tail _ hr')) ?_
     rcases h2 with⟨r',hr',hd'⟩ | h2
     ·rcases List.mem_cons.1 hr' with e | hr'
      ·subst e; rw[hd] at hd'; cases hd'
      ·exact .inl ⟨r',hr',hd'⟩
     ·exact .inr h2
   | some d =>
     simp only
     refine Bq t v rows _ (fun r' hr'=>h1 r' (.tail _ hr')) ?_
     by_cases e:t=d
     ·subst e
      exact .inr (by rw[Tree.aY,if_pos rfl]; exact h1 r (.head _) hd)
     ·rcases h2 with⟨r',hr',hd'⟩ | h2
      ·rcases List.mem_cons.1 hr' with e' | hr'
       ·subst e'; rw[hd] at hd'; cases hd'; exact absurd rfl e
       ·exact .inl ⟨r',hr',hd'⟩
      ·exact .inr (by rw[Tree.aY,if_neg e]; exact h2)
end
section
variable {P:Program} {X:Ext} {base:Base} {nt:Nat} {ops:Array Oper} {ri:RI} {T0:Tree AV} {n0:Nat} {ρ0:Ren} {w0:World}
def dP (listed:Array Bool) (i:Nat) : Prop:=listed.getD i false=true
theorem oZ {listed:Array Bool} {i:Nat} (hi:i<listed.size) (j:Nat) : dP (listed.setIfInBounds i true) j↔dP listed j∨j=i:=by
 unfold dP
 simp only[Array.getD_eq_getD_getElem?,Array.getElem?_setIfInBounds]
 by_cases e:i=j
 ·subst e; simp[hi]
 ·simp[e]; intro h; exact absurd h.symm e
theorem count_set {listed:Array Bool} {i:Nat} (hi:i<listed.size) (h:¬ dP listed i) {fuel:Nat} (hc:listed.toList.count false≤fuel + 1) : (listed.setIfInBounds i true).toList.count false≤fuel:=by
 have hf:listed.toList[i]?=some false:=by
  unfold dP at h
  rw[Array.getElem?_toList]
  simp only[Array.getD_eq_getD_getElem?] at h
  rw[Array.getElem?_eq_getElem hi] at h ⊢
  simpa using h
 rw[Array.toList_setIfInBounds]
 obtain⟨hl,hv⟩:=List.getElem?_eq_some_iff.1 hf
 rw[List.count_set hl,hv]
 have:0<listed.toList.count false:=List.count_pos_iff.2 (hv▸List.getElem_mem hl)
 simp only[beq_self_eq_true,if_true,show((true:Bool) == false)=false from rfl,Bool.false_eq_true,if_false]
 omega
theorem Ju {listed:Array Bool} (h:listed.toList.count false=0) {i:Nat} (hi:i<listed.size) : dP listed i:=by
 unfold dP
 have hm:listed[i]∈listed.toList:=by simp
 have:false ∉ listed.toList:=List.count_eq_zero.1 h
 simp only[Array.getD_eq_getD_getElem?,Array.getElem?_eq_getElem hi]
 cases hb:listed[i] with
 | true=>rfl
 | false=>rw[hb] at hm; exact absurd hm this
theorem wW {listed:Array Bool} (hsz:listed.size=ops.size) {i:Nat} (h:i∈Region.ready .any ops listed) :
  i<ops.size∧¬ dP listed i∧∃ o,ops[i]?=some o∧∀ e∈o.after.toList,Region.binds .any e=true→dP listed e.on:=by
 unfold Region.ready at h
 obtain⟨h1,h2⟩:=List.mem_filter.1 h
 have hi:i<ops.size:=by simpa using h1
 simp only[Bool.and_eq_true,Bool.not_eq_true'] at h2
 obtain⟨h3,h4⟩:=h2
 refine⟨hi, ?_,ops[i],by simp[hi], ?_⟩
 ·unfold dP
  simp only[Array.getD_eq_getD_getElem?,Array.getElem?_eq_getElem (show i<listed.size by omega)] at h3 ⊢
  simp at h3; simp[h3]
 ·intro e he hb
  simp only[hi,getElem?_pos,Option.map_some,Option.getD_some,Array.all_eq_true'] at h4
  have:=h4 e (by simpa using he)
  rw[hb] at this
  unfold dP
  simpa using this
theorem mem_ready {listed:Array Bool} (hsz:listed.size=ops.size) {i:Nat} (hi:i<ops.size) (hn:¬ dP listed i) {o:Oper} (ho:ops[i]?=some o) (he:∀ e∈o.after.toList,Region.binds .any e=true→dP listed e.on) :
  i∈Region.ready .any ops listed:=by
 unfold Region.ready
 refine List.mem_filter.2 ⟨by simpa using hi, ?_⟩
 simp only[Bool.and_eq_true,Bool.not_eq_true',ho,Option.map_some,Option.getD_some,Array.all_eq_true']
 constructor
 ·unfold dP at hn
  simp only[Array.getD_eq_getD_getElem?,Array.getElem?_eq_getElem (show i<listed.size by omega)] at hn ⊢
  simpa using hn
 ·intro e hm
  cases hb:Region.binds .any e with
  | false=>rfl
  | true =>
    have:=he e (by simpa using hm) hb
    unfold dP at this
    simpa using this
theorem Cv (ht:kG P nt ops ri) {listed:Array Bool} (hsz:listed.size=ops.size) (h:Region.ready .any ops listed=[]) : ∀ i,i<ops.size→dP listed i:=by
 intro i
 induction i using Nat.strongRecOn with
 | _ i ih =>
   intro hi
   by_cases hl:dP listed i
   ·exact hl
   ·have hm:=mem_ready hsz hi hl (o:=ops[i]) (by simp[hi]) fun e he hb=>ih e.on (ht.uA i ops[i] (by simp[hi]) e he hb) (by have:=ht.uA i ops[i] (by simp[hi]) e he hb; omega)
    rw[h] at hm; cases hm
def Tp (P:Program) (X:Ext) (call:fG) (ops:Array Oper) (T0:Tree AV) (ri:RI) (k:Nat) (s:RS) (sF:RS) : List Nat→Prop
 | []=>s=sF
 | x :: rest=>∃ r s2,ri.rows[x]?=some r∧VY P X call ops T0 ri r s=some s2∧vD P X call ops T0 ri (k + 1) rest s2=some sF
theorem FX {call:fG} {k:Nat} {es:List Nat} {s sF:RS} (h:vD P X call ops T0 ri k es s=some sF) :
  ∃ s1,vU P ops T0 ri.wr k ri.rows s=some s1∧Au P ops T0 ri k s1=true∧Tp P X call ops T0 ri k s1 sF es:=by
 cases es with
 | nil =>
   rw[vD] at h
   dsimp only at h
   split at h <;> first | (cases h; done) | skip
   rename_i s1 h1
   split at h <;> first | (cases h; done) | skip
   rename_i h2
   cases h
   exact⟨_,h1,h2,rfl⟩
 | cons x rest =>
   rw[vD] at h
   dsimp only at h
   split at h <;> first | (cases h; done) | skip
   rename_i s1 h1
   split at h <;> first | (cases h; done) | skip
   rename_i h2
   split at h <;> first | (cases h; done) | skip
   rename_i r hr
   split at h <;> first | (cases h; done) | skip
   rename_i s2 hs2
   exact⟨_,h1,h2,r,s2,by rw[← bQ]; exact hr,hs2,h⟩
variable {k:Nat} {done rest:List Nat} {s sF:RS} {ρ:Ren} {a:Act} {w:World}
theorem XR (ht:kG P nt ops ri) {listed:Array Bool} (hsz:listed.size=ops.size) (hI:Inv P base nt ops ri T0 n0 ρ0 w0 k done rest s (dP listed) ρ a w) {i:Nat} {r:Row} (hi:i<ops.size) (hr:ri.rows[i]?=some r)
  (hd:∀ e∈r.o.after.toList,Region.binds .any e=true→dP listed e.on) (hk:iP r.kd=false) (sV:r.lev≤k) {v:AV} {v' : Value} {ρ' : Ren} {w' : World} (hvi:s.vals.get i=some v) (hv:aj ρ' v v') (hle:ρ.le ρ')
  (hw:bg P base ρ' s.A w') (hst:Step base n0 ρ w ρ' w') (We:∀ j b,s.bi.get j=some b→¬ dP (listed.setIfInBounds i true) j→ρ' b=none) :
  Inv P base nt ops ri T0 n0 ρ0 w0 k done rest s (dP (listed.setIfInBounds i true)) ρ' (a.put r.o.dst v') w':=by
 have hS:∀ j,dP (listed.setIfInBounds i true) j↔dP listed j∨j=i:=oZ (by omega)
 obtain⟨e1,e2,_⟩:=ht.row hr
 refine⟨hI.es,hI.len, ?_,fun x hx=>(hS x).2 (.inl (hI.dn x hx)), ?_, ?_, ?_, ?_, ?_,hw,hI.step.trans hst (Nat.le_refl _),hI.next,fun j b hb=>⟨(hI.bid j b hb).1,(hI.bid j b hb).2.1,We j b hb,(hI.bid j b hb).2.2.2⟩⟩
 ·intro j o ho hj e he hb
  rcases(hS j).1 hj with hj | rfl
  ·exact(hS _).2 (.inl (hI.closed j o ho hj e he hb))
  ·rw[e2] at ho; cases ho
   exact(hS _).2 (.inl (hd e he hb))
 ·intro x hx hl
  rcases(hS x).1 hl with hl | rfl
  ·exact hI.rs x hx hl
  ·have:x∈ri.es:=by rw[hI.es]; exact List.mem_append_right _ hx
   rw[ht.nR hr,hk] at this
   cases this
 ·intro j r' hr' hk' hj
  rcases(hS j).1 hj with hj | rfl
  ·exact hI.lev j r' hr' hk' hj
  ·rw[hr] at hr'; cases hr'; exact sV
 ·cases hdst:r.o.dst <;> simp[Act.put,hI.size]
 ·cases hdst:r.o.dst <;> simp[Act.put,hI.defers]
 ·exact BQ ht (fun t=>⟨fun j h1 h2=>((hI.slot t).1 j h1 h2).mono hle,fun h=>((hI.slot t).2 h).mono hle⟩) hI.size hr hv hvi hS
theorem Yy (ht:kG P nt ops ri) {call:fG} {listed:Array Bool} (hsz:listed.size=ops.size) {i:Nat} {rest' : List Nat} (hI:Inv P base nt ops ri T0 n0 ρ0 w0 k done (i :: rest') s (dP listed) ρ a w) {r:Row} (hi:i<ops.size) (hr:ri.rows[i]?=some r)
  (hd:∀ e∈r.o.after.toList,Region.binds .any e=true→dP listed e.on) (hnd:i ∉ rest') {v:AV} {v' : Value} {ρ' : Ren} {w' : World} {A' : AW} (hv:aj ρ' v v')
  (hw:bg P base ρ' A' w') (hst:Step base s.A.next ρ w ρ' w') (hn:s.A.next≤A'.next) (hcont:vD P X call ops T0 ri (k + 1) rest' { s with vals:=s.vals.set i v,A:=A' } = some sF) :
  ∃ s3,Inv P base nt ops ri T0 n0 ρ0 w0 (k + 1) (done++[i]) rest' s3 (dP (listed.setIfInBounds i true)) ρ' (a.put r.o.dst v') w'∧Au P ops T0 ri (k + 1) s3=true∧Tp P X call ops T0 ri (k + 1) s3 sF rest':=by
 obtain⟨s3,h1,h2,h3⟩:=FX hcont
 obtain⟨f1,f2,f3,f4⟩:=rZ (base:=base) _ _ _ h1
 have hS:∀ j,dP (listed.setIfInBounds i true) j↔dP listed j∨j=i:=oZ (by omega)
 obtain⟨e1,e2,_⟩:=ht.row hr
 have hmem:i∈ri.es:=by rw[hI.es]; simp
 have hke:=(ht.nR hr).1 hmem
 have hle:=hst.le hI.jJ
 have hkeep:∀ j,dP listed j∨j=i→s3.vals.get j=(s.vals.set i v).get j:=by
  intro j hj
  refine(f1 j fun r' hr' he=>?_).1
  rintro⟨hl,hk'⟩
  obtain⟨q,hq⟩:=List.mem_iff_getElem?.1 hr'
  obtain⟨g1,_⟩:=ht.row hq
  have hqj:q=j:=by omega
  subst hqj
  rcases hj with hj | rfl
  ·have:=hI.lev q r' hq hk' hj; omega
  ·rw[hr] at hq; cases hq; rw[hke] at hk'; cases hk'
 have hvi:s3.vals.get i=some v:=by rw[hkeep i (.inr rfl),Tree.aY,if_pos rfl]
 refine⟨s3,⟨by rw[hI.es]; simp,by simp[hI.len], ?_, ?_, ?_, ?_, ?_, ?_, ?_,f2 _ _ hw,hI.step.trans hst hI.next,Nat.le_trans hI.next (Nat.le_trans hn f3), ?_⟩,h2,h3⟩
 ·intro j o ho hj e he hb
  rcases(hS j).1 hj with hj | rfl
  ·exact(hS _).2 (.inl (hI.closed j o ho hj e he hb))
  ·rw[e2] at ho; cases ho
   exact(hS _).2 (.inl (hd e he hb))
 ·intro x hx
  rcases List.mem_append.1 hx with hx | hx
  ·exact(hS x).2 (.inl (hI.dn x hx))
  ·simp at hx; subst hx; exact(hS x).2 (.inr rfl)
 ·intro x hx hl
  rcases(hS x).1 hl with hl | rfl
  ·exact hI.rs x (.tail _ hx) hl
  ·exact hnd hx
 ·intro j r' hr' hk' hj
  rcases(hS j).1 hj with hj | rfl
  ·have:=hI.lev j r' hr' hk' hj; omega
  ·rw[hr] at hr'; cases hr'; rw[hke] at hk'; cases hk'
 ·cases hdst:r.o.dst <;> simp[Act.put,hI.size]
 ·cases hdst:r.o.dst <;> simp[Act.put,hI.defers]
 ·refine BQ ht (v:=v) (S:=dP listed) (fun t=>⟨fun j h1 h2=>?_,fun h=>((hI.slot t).2 h).mono hle⟩) hI.size hr hv hvi hS
  rw[hkeep j (.inl h2),Tree.aY]
  split
  ·rename_i e
   subst e
   exact absurd h2 (hI.rs j (.head _))
  ·exact((hI.slot t).1 j h1 h2).mono hle
 ·intro j b hb
  rcases f4 j b hb with h | ⟨h,h',r',hr',hj'⟩
  ·obtain⟨b1,b2,b3,b4⟩:=hI.bid j b h
   refine⟨b1,by simp only at f3; omega,fun hj=>?_,b4⟩
   rw[hst.ext b b2]
   exact b3 fun hl=>hj ((hS j).2 (.inl hl))
  ·refine⟨?_,h',fun _=>?_, ?_⟩
   ·have:=hI.next; simp only at h; omega
   ·exact hw.fresh h
   ·obtain⟨q,hq⟩:=List.mem_iff_getElem?.1 hr'
    obtain⟨g1,g2,_⟩:=ht.row hq
    have:=(List.getElem?_eq_some_iff.1 g2).1
    rw[Array.length_toList] at this
    omega
theorem WC (hng:EB P X) {call:fG} (hc:jk P base call) (ht:kG P nt ops ri) (hb0:base≤w0.heap.size) {Q:Exit→Act→World→Prop}
  (hQ:∀ ρ' a' w',Step base n0 ρ0 w0 ρ' w'→df ρ' nt (yV T0 sF.vals ri.rows) a'→bg P base ρ' sF.A w'→n0≤sF.A.next→Q .normal a' w') :
  ∀ (fuel:Nat) (listed:Array Bool) (k:Nat) (done rest:List Nat) (s:RS) (ρ:Ren) (a:Act) (w:World),listed.size=ops.size→listed.toList.count false≤fuel →
    Inv P base nt ops ri T0 n0 ρ0 w0 k done rest s (dP listed) ρ a w→Au P ops T0 ri k s=true→Tp P X call ops T0 ri k s sF rest→wpAny P .any ops Q fuel listed a w:=by
 have fin:∀ (listed:Array Bool) (k:Nat) (done rest:List Nat) (s:RS) (ρ:Ren) (a:Act) (w:World),listed.size=ops.size→(∀ i,i<ops.size→dP listed i) →
   Inv P base nt ops ri T0 n0 ρ0 w0 k done rest s (dP listed) ρ a w→Tp P X call ops T0 ri k s sF rest→Q .normal a w:=by
  intro listed k done rest s ρ a w hsz hall hI hcont
  have hrest:rest=[]:=by
   cases rest with
   | nil=>rfl
   | cons x rest =>
     have hx:x∈ri.es:=by rw[hI.es]; simp
     rw[ht.es,nE] at hx
     obtain⟨j,o,hj,rfl,_⟩:=hx
     have:=(List.getElem?_eq_some_iff.1 hj).1
     exact absurd (hall (0 + j) (by simpa using this)) (hI.rs _ (.head _))
  subst hrest
  have hcont:s=sF:=hcont
  subst hcont
  refine hQ ρ a w hI.step ⟨hI.size,fun t=>?_,hI.defers⟩ hI.jJ hI.next
  obtain⟨g1,g2⟩:=hI.slot t
  refine Bq t _ ri.rows T0 (fun r hr hd=>?_) ?_
  ·obtain⟨q,hq⟩:=List.mem_iff_getElem?.1 hr
   obtain⟨e1,e2,_⟩:=ht.row hq
   have hql:=(List.getElem?_eq_some_iff.1 e2).1
   have:=g1 r.i (ht.dst q r hq t hd).1 (by rw[e1]; exact hall q (by simpa using hql))
   exact this
  ·by_cases hex:∃ j,ri.wr.get t=some j
   ·obtain⟨j,hj⟩:=hex
    obtain⟨o,ho,hdo⟩:=ht.wrs t j hj
    obtain⟨r,hr,rfl⟩:=ht.ex ho
    exact .inl ⟨r,List.mem_of_getElem? hr,hdo⟩
   ·exact .inr (g2 fun j hj=>absurd ⟨j,hj⟩ hex)
 intro fuel
 induction fuel with
 | zero =>
   intro listed k done rest s ρ a w hsz hcnt hI pY hcont
   have hall:∀ i,i<ops.size→dP listed i:=fun i hi=>Ju (by omega) (by omega)
   refine⟨?_,fin listed k done rest s ρ a w hsz hall hI hcont⟩
   rw[List.eq_nil_iff_forall_not_mem]
   intro i hi
   obtain⟨h1,h2,_⟩:=wW hsz hi
   exact h2 (hall i h1)
 | succ fuel ih =>
   intro listed k done rest s ρ a w hsz hcnt hI pY hcont
   refine⟨fun hr=>fin listed k done rest s ρ a w hsz (Cv ht hsz hr) hI hcont,fun i hi=>?_⟩
   obtain⟨hilt,hnl,o,ho,hd⟩:=wW hsz hi
   obtain⟨r,hr,rfl⟩:=ht.ex (j:=i) (o:=o) (by rw[Array.getElem?_toList]; exact ho)
   obtain⟨e1,e2,e3,e4,e5⟩:=ht.row hr
   have hbase:base≤w.heap.size:=Nat.le_trans hb0 hI.step.size
   unfold wpOp
   simp only[ho]
   cases hk:iP r.kd with
   | false =>
     -- no effect: the checks of this stage
     unfold Au at pY
     simp only[Bool.and_eq_true,List.all_eq_true] at pY
     obtain⟨pY,Xt⟩:=pY
     have hall:iM ri.ms ri.es k r=true:=by
      unfold iM
      rw[Bool.and_eq_true,List.all_eq_true]
      constructor
      ·rw[aT,e4]
       rcases uq (m:=r.m) ri.es 0 0 with h | ⟨q,x,a1,a2,a3⟩
       ·omega
       ·have hx:=ht.ahead hI.closed hr hd a2
        rw[a3]
        rcases Nat.lt_or_ge q k with h | h
        ·omega
        ·rw[hI.es,List.getElem?_append_right (by rw[hI.len]; exact h)] at a1
         exact absurd hx (hI.rs x (List.mem_of_getElem? a1))
      ·intro x hx
       rw[hI.es,List.take_left' hI.len] at hx
       rw[Bool.not_eq_true',← Bool.not_eq_true,e1,bQ]
       intro hb
       have hxe:x∈ri.es:=by rw[hI.es]; exact List.mem_append_left _ hx
       rw[ht.es,nE] at hxe
       obtain⟨j,o',hj,hxj,_⟩:=hxe
       rw[Nat.zero_add] at hxj; subst hxj
       exact hnl (ht.zW hI.closed (hI.dn x hx) hj hb)
     have sV:r.lev≤k:=by
      unfold iM at hall
      rw[Bool.and_eq_true] at hall
      exact aW hall.1
     have hsame:Ti P ops T0 ri s r=true:=by
      have:=pY r (List.mem_of_getElem? hr)
      simpa [hk,hall] using this
     have hnb:∀ j b,s.bi.get j=some b→¬ dP (listed.setIfInBounds i true) j→ρ b=none:=fun j b hb hj =>
      (hI.bid j b hb).2.2.1 fun hl=>hj ((oZ (by omega) j).2 (.inl hl))
     have next:∀ {v:AV} {v' : Value} {ρ' : Ren} {w' : World},s.vals.get i=some v→aj ρ' v v'→ρ.le ρ'→bg P base ρ' s.A w'→Step base n0 ρ w ρ' w' →
       (∀ j b,s.bi.get j=some b→¬ dP (listed.setIfInBounds i true) j→ρ' b=none)→wpAny P .any ops Q fuel (listed.setIfInBounds i true) (a.put r.o.dst v') w':=by
      intro v v' ρ' w' hvi hv hle hw hst hb
      exact ih _ k done rest s ρ' _ w' (by simpa using hsz) (count_set (by omega) hnl hcnt) (XR ht hsz hI hilt hr hd hk sV hvi hv hle hw hst hb) (by unfold Au; simp only[Bool.and_eq_true,List.all_eq_true]; exact⟨pY,Xt⟩) hcont
     have ER:ρ.le ρ:=fun _ _ h=>h
     unfold Ti at hsame
     rw[e1] at hsame
     split at hsame <;> first | (cases hsame; done) | skip
     ·rename_i v hwant hvi
      rw[rH ht hI hr hd hwant]
      simp only[Bool.false_eq_true,if_false]
      have:=qM _ _ hsame
      subst this
      exact next hvi (.tup _ _ .nil) ER hI.jJ (Step.refl _ _ _) hnb
     ·rename_i v hwant hvi
      rw[rH ht hI hr hd hwant]
      simp only[if_true]
      rw[Bool.and_eq_true] at hsame
      obtain⟨qf,hsame⟩:=hsame
      have he:=Ou ht hI hr hnl hd qf
      refine .inl ?_
      split at hsame
      ·have hp:=G6 hsame
       obtain⟨v',h1,h2⟩:=jD he hp
       exact jF r.o (h1 w) (next hvi h2 ER hI.jJ (Step.refl _ _ _) hnb)
      ·have hp:=G6 hsame
       obtain⟨v',h1,h2⟩:=pQ hI.jJ he hp
       exact jF r.o h1 (next hvi h2 ER hI.jJ (Step.refl _ _ _) hnb)
      ·split at hsame <;> first | (cases hsame; done) | skip
       rename_i x mk b hx hbi
       split at hsame <;> first | (cases hsame; done) | skip
       rename_i y hy
       simp only[Bool.and_eq_true] at hsame
       have hxy:=uU hsame.1
       have hmk:=qM _ _ hsame.2
       subst hxy
       obtain⟨d,ob,u,inf,hrun,acn,hrel,VV⟩:=oh he hx w
       obtain⟨b1,b2,b3,b4⟩:=hI.bid i b hbi
       have hbn:=b3 hnl
       have hd' : bg P base ρ s.A (if d=true then w.drew else w):=by cases d <;> simp[hI.jJ,hI.jJ.drew]
       have hsz' : (if d=true then w.drew else w).heap.size=w.heap.size:=by cases d <;> simp
       have hst' : Step base n0 ρ w ρ (if d=true then w.drew else w):=by cases d <;> simp[Step.refl,Step.drew]
       obtain⟨h1,h2⟩:=GK hd' (by omega) (i:=inf) (by omega) hbn b2 hy (hrel.mono (Ren.nX hbn))
       refine jF r.o hrun (next hvi (hmk▸VV _ b (by simp[Ren.add])) (Ren.nX hbn) h1 (hst'.trans h2 b1) fun j b' hb' hj=>?_)
       have hne:b'≠b:=by
        intro e
        subst e
        have hji:j≠i:=fun e=>hj ((oZ (by omega) j).2 (.inr e))
        -- the rows of j and i
        have hjl:=(hI.bid j b' hb').2.2.2
        obtain⟨r',hr',_⟩:=ht.ex (j:=j) (o:=ops[j]) (by simp[hjl])
        obtain⟨g1,_⟩:=ht.row hr'
        have:=(zI _ _ Xt).2 j i r' r b' hr' hr (by rw[g1]; exact hb') (by rw[e1]; exact hbi)
        exact hji this
       unfold Ren.add
       rw[if_neg hne]
       exact hnb j b' hb' hj
      ·cases hsame
   | true =>
     have hie:i∈ri.es:=(ht.nR hr).2 hk
     rw[hI.es] at hie
     have hir:i∈rest:=by
      rcases List.mem_append.1 hie with h | h
      ·exact absurd (hI.dn i h) hnl
      ·exact h
     cases rest with
     | nil=>cases hir
     | cons x rest' =>
       have hxi:x=i:=by
        rcases List.mem_cons.1 hir with e | hm
        ·exact e.symm
        ·obtain⟨l1,l2,hl⟩:=List.append_of_mem hm
         have:=ht.chain (done++x :: l1) i l2 (by rw[hI.es,hl]; simp) x (by simp)
         rw[e3] at this
         exact absurd (ht.ahead hI.closed hr hd this) (hI.rs x (.head _))
       subst hxi
       have hnd:x ∉ rest':=by
        intro hm
        obtain⟨l1,l2,hl⟩:=List.append_of_mem hm
        have:=ht.chain (done++x :: l1) x l2 (by rw[hI.es,hl]; simp) x (by simp)
        rw[e3] at this
        exact hnl (ht.ahead hI.closed hr hd this)
       obtain⟨r',s2,hr',heff,MF⟩:=hcont
       rw[hr] at hr'; cases hr'
       have next:∀ {v:AV} {v' : Value} {ρ' : Ren} {w' : World} {A' : AW},aj ρ' v v'→bg P base ρ' A' w'→Step base s.A.next ρ w ρ' w'→s.A.next≤A'.next→s2 = { s with vals:=s.vals.set x v,A:=A' } →
         wpAny P .any ops Q fuel (listed.setIfInBounds x true) (a.put r.o.dst v') w':=by
        intro v v' ρ' w' A' hv hw hst hn hs2
        subst hs2
        obtain⟨s3,h1,h2,h3⟩:=Yy ht hsz hI hilt hr hd hnd hv hw hst hn MF
        exact ih _ (k + 1) _ rest' s3 ρ' _ w' (by simpa using hsz) (count_set (by omega) hnl hcnt) h1 h2 h3
       unfold VY at heff
       rw[e1] at heff
       split at heff <;> first | (cases heff; done) | skip
       ·rename_i hwant
        rw[rH ht hI hr hd hwant]
        simp only[Bool.false_eq_true,if_false]
        cases heff
        exact next (.tup _ _ .nil) hI.jJ (Step.refl _ _ _) (Nat.le_refl _) rfl
       ·rename_i hwant qf
        rw[rH ht hI hr hd hwant]
        simp only[if_true]
        have he:=Ou ht hI hr hnl hd qf
        refine .inl ?_
        split at heff <;> first | (cases heff; done) | skip
        ·rename_i v A1 hx
         cases heff
         obtain⟨ρ',w',h1,h2,h3,v',h4,h5⟩:=jw hng hI.jJ hbase he hx
         exact jF r.o h4 (next h5 h2 h1 h3 rfl)
        ·rename_i A1 hx
         cases heff
         obtain⟨ρ',w',h1,h2,h3,h4⟩:=jw hng hI.jJ hbase he hx
         exact GL r.o h4 (next (.tup _ _ .nil) h2 h1 h3 rfl)
        ·rename_i f args A1 hx
         split at heff <;> first | (cases heff; done) | skip
         rename_i v A2 hcall
         cases heff
         obtain⟨ρ',w',h1,h2,h3,us,h4,h5⟩:=jw hng hI.jJ hbase he hx
         refine Ey r.o h4 (hc f args A1 v A2 hcall ρ' w' us h5 h2 (Nat.le_trans hbase h1.size)) fun e w'' hR=>?_
         obtain⟨ρ2,v',rfl,k1,k2,k3,k4⟩:=hR
         exact⟨v',rfl,next k4 k2 (h1.trans k1 h3) (Nat.le_trans h3 k3) rfl⟩
end
section
variable {P:Program} {X:Ext} {base:Base} {nt:Nat}
def yD:Ex→Exit
 | .normal=>.normal
 | .exit id=>.exit id
 | .ret=>.ret
def Post (P:Program) (base:Base) (nt:Nat) (n0:Nat) (ρ0:Ren) (w0:World) (x:Ex) (T:Tree AV) (A:AW) (e:Exit) (a:Act) (w:World) : Prop :=
 e=yD x∧∃ ρ,Step base n0 ρ0 w0 ρ w∧df ρ nt T a∧bg P base ρ A w∧n0≤A.next
variable {n0:Nat} {ρ0:Ren} {w0:World} {ρ:Ren} {A:AW} {w:World} {T:Tree AV} {a:Act}
theorem Pj (hng:EB P X) (hm:P.follows .mixedOrders=true) {call:fG} (hc:jk P base call)
  (hb:base≤w0.heap.size) (hn:n0≤A.next) (hst:Step base n0 ρ0 w0 ρ w) (hA:df ρ nt T a) (hw:bg P base ρ A w) {id:Nat} {ops:Array Oper} {T' : Tree AV} {A' : AW}
  (h:Sw P X call nt ops T A=some (T',A')) : (Code.region id ops true).wp P (Post P base nt n0 ρ0 w0 .normal T' A') a w:=by
 unfold Sw at h
 split at h <;> first | (cases h; done) | skip
 rename_i ri hri
 split at h <;> first | (cases h; done) | skip
 rename_i s hs
 cases h
 have ht:=qJ hri
 obtain⟨s1,h1,h2,h3⟩:=FX hs
 obtain⟨f1,f2,f3,f4⟩:=rZ (base:=base) _ _ _ h1
 have hno:∀ i,¬ dP (Array.replicate ops.size false) i:=by
  intro i h
  unfold dP at h
  simp only[Array.getD_eq_getD_getElem?,Array.getElem?_replicate] at h
  split at h <;> simp at h
 refine wp_region_any hm (WC (n0:=n0) (ρ0:=ρ0) (w0:=w0) (sF:=s) hng hc ht hb (fun ρ' a' w' k1 k2 k3 k4=>⟨rfl,ρ',k1,k2,k3,k4⟩) ops.size _ 0 [] ri.es s1 ρ a _ (by simp) (by simp) ?_ h2 h3)
 refine⟨rfl,rfl,fun i o _ hi=>absurd hi (hno i),(fun x hx=>by cases hx),fun x _=>hno x,fun j r _ _ hj=>absurd hj (hno j),hA.size,hA.defers,fun t=>⟨fun j _ hj=>absurd hj (hno j),fun _=>hA.val t⟩,f2 ρ _ hw.drew,hst.trans (Step.drew (n:=n0)) (Nat.le_refl _),Nat.le_trans hn f3,fun j b hb'=>?_⟩
 rcases f4 j b hb' with h | ⟨h,h',r,hr,hj⟩
 ·simp[Tree.get] at h
 ·refine⟨Nat.le_trans hn h,h',fun _=>hw.fresh h, ?_⟩
  obtain⟨q,hq⟩:=List.mem_iff_getElem?.1 hr
  obtain⟨g1,g2,_⟩:=ht.row hq
  have:=(List.getElem?_eq_some_iff.1 g2).1
  rw[Array.length_toList] at this
  omega
theorem PQ (hng:EB P X) (hm:P.follows .mixedOrders=true) {call:fG} (hc:jk P base call) (hb:base≤w0.heap.size) :
  ∀ (f:Nat) (c:Code) (T:Tree AV) (A:AW) (x:Ex) (T' : Tree AV) (A' : AW),gK P X call nt f c T A=some (x,T',A') →
    (∀ (ρ:Ren) (a:Act) (w:World),n0≤A.next→Step base n0 ρ0 w0 ρ w→df ρ nt T a→bg P base ρ A w→c.wp P (Post P base nt n0 ρ0 w0 x T' A') a w) ∧
    (∀ b,c=.loop b→∀ (ρ:Ren) (a:Act) (w:World),n0≤A.next→Step base n0 ρ0 w0 ρ w→df ρ nt T a→bg P base ρ A w→Code.rounds P b (Post P base nt n0 ρ0 w0 x T' A') f a w):=by
 intro f
 induction f with
 | zero=>intro c T A x T' A' h; simp[gK] at h
 | succ f ih =>
   intro c T A x T' A' h
   cases c with
   | loop b =>
     simp only[gK] at h
     have key:∀ (ρ:Ren) (a:Act) (w:World),n0≤A.next→Step base n0 ρ0 w0 ρ w→df ρ nt T a→bg P base ρ A w→Code.rounds P b (Post P base nt n0 ρ0 w0 x T' A') (f + 1) a w:=by
      intro ρ a w hn hst hA hw
      rw[rounds_succ]
      split at h
      ·rename_i T1 A1 h1
       refine wp_mono ((ih b T A _ T1 A1 h1).1 ρ a w hn hst hA hw) fun e a' w' hp=>?_
       obtain⟨rfl,ρ',k1,k2,k3,k4⟩:=hp
       exact(ih (.loop b) T1 A1 x T' A' h).2 b rfl ρ' a' w' k4 k1 k2 k3
      ·rename_i hne
       refine wp_mono ((ih b T A x T' A' h).1 ρ a w hn hst hA hw) fun e a' w' hp=>?_
       obtain⟨rfl,hp2⟩:=hp
       cases x with
       | normal=>exact absurd h (hne T' A')
       | exit id=>exact⟨rfl,hp2⟩
       | ret=>exact⟨rfl,hp2⟩
     exact⟨fun ρ a w hn hst hA hw=>wp_loop_rounds (f + 1) (key ρ a w hn hst hA hw),fun b' hb'=>by cases hb'; exact key⟩
   | skip =>
     simp only[gK] at h; cases h
     exact⟨fun ρ a w hn hst hA hw=>wp_skip ⟨rfl,ρ,hst,hA,hw,hn⟩,fun b hb=>by cases hb⟩
   | region id ops d =>
     cases d with
     | false =>
       simp only[gK] at h
       split at h <;> first | (cases h; done) | skip
       rename_i T1 A1 h1
       cases h
       refine⟨fun ρ a w hn hst hA hw=>wp_region ?_,fun b hb=>by cases hb⟩
       have hbw:base≤w.heap.size:=Nat.le_trans hb hst.size
       have:=AY hng hc (ops:=ops) (Q:=Post P base nt n0 ρ0 w0 .normal T' A') ops.toList 0 (by simp) hA hw hbw h1 (fun ρ' a' w' k1 k2 k3 k4=>⟨rfl,ρ',hst.trans k1 hn,k2,k3,Nat.le_trans hn k4⟩)
       rw[Array.length_toList,← List.range_eq_range'] at this
       exact this
     | true =>
       simp only[gK] at h
       split at h <;> first | (cases h; done) | skip
       rename_i T1 A1 h1
       cases h
       exact⟨fun ρ a w hn hst hA hw=>Pj hng hm hc hb hn hst hA hw h1,fun b hb=>by cases hb⟩
   | seq c1 c2 =>
     simp only[gK] at h
     refine⟨fun ρ a w hn hst hA hw=>wp_seq ?_,fun b hb=>by cases hb⟩
     split at h
     ·rename_i T1 A1 h1
      refine wp_mono ((ih c1 T A _ T1 A1 h1).1 ρ a w hn hst hA hw) fun e a' w' hp=>?_
      obtain⟨rfl,ρ',k1,k2,k3,k4⟩:=hp
      exact(ih c2 T1 A1 x T' A' h).1 ρ' a' w' k4 k1 k2 k3
     ·rename_i hne
      refine wp_mono ((ih c1 T A x T' A' h).1 ρ a w hn hst hA hw) fun e a' w' hp=>?_
      obtain⟨rfl,hp2⟩:=hp
      cases x with
      | normal=>exact absurd h (hne T' A')
      | exit id=>exact⟨rfl,hp2⟩
      | ret=>exact⟨rfl,hp2⟩
   | cond cnd c1 c2 =>
     simp only[gK] at h
     refine⟨fun ρ a w hn hst hA hw=>?_,fun b hb=>by cases hb⟩
     have hv:=oQ hA cnd
     split at h <;> first | (cases h; done) | skip
     ·rename_i hc1
      rw[hc1] at hv
      exact wp_cond_true (aN hv).1 ((ih c1 T A x T' A' h).1 ρ a w hn hst hA hw)
     ·rename_i hc1
      rw[hc1] at hv
      exact wp_cond_false (aN hv).1 ((ih c2 T A x T' A' h).1 ρ a w hn hst hA hw)
   | block id c1 =>
     simp only[gK] at h
     refine⟨fun ρ a w hn hst hA hw=>wp_block ?_,fun b hb=>by cases hb⟩
     split at h
     ·rename_i id' T1 A1 h1
      split at h
      ·rename_i he
       cases h
       have he:=bf he
       subst he
       refine wp_mono ((ih c1 T A _ _ _ h1).1 ρ a w hn hst hA hw) fun e a' w' hp=>?_
       obtain⟨rfl,hp2⟩:=hp
       simp only[yD,Exit.inBlock,if_true]
       exact⟨rfl,hp2⟩
      ·rename_i he
       cases h
       have he:=ul he
       refine wp_mono ((ih c1 T A _ _ _ h1).1 ρ a w hn hst hA hw) fun e a' w' hp=>?_
       obtain⟨rfl,hp2⟩:=hp
       simp only[yD,Exit.inBlock,if_neg he]
       exact⟨rfl,hp2⟩
     ·rename_i hne
      refine wp_mono ((ih c1 T A x T' A' h).1 ρ a w hn hst hA hw) fun e a' w' hp=>?_
      obtain⟨rfl,hp2⟩:=hp
      cases x with
      | normal=>exact⟨rfl,hp2⟩
      | exit id'=>exact absurd h (hne id' T' A')
      | ret=>exact⟨rfl,hp2⟩
   | exit id =>
     simp only[gK] at h; cases h
     exact⟨fun ρ a w hn hst hA hw=>wp_exit ⟨rfl,ρ,hst,hA,hw,hn⟩,fun b hb=>by cases hb⟩
   | ret =>
     simp only[gK] at h; cases h
     exact⟨fun ρ a w hn hst hA hw=>wp_ret ⟨rfl,ρ,hst,hA,hw,hn⟩,fun b hb=>by cases hb⟩
   | rangeFunc=>simp[gK] at h
   | scope=>simp[gK] at h
   | label=>simp[gK] at h
   | goto=>simp[gK] at h
   | refuse=>simp[gK] at h
def ny (tmps:Array Value) : ResultVar→Sem Value
 | .tmp t=>pure (tmps.getD t undef)
 | .cell x t=>do loadVar t (← asAddr (tmps.getD x undef))
theorem L8 (hA:df ρ nt T a) (hw:bg P base ρ A w) {r:ResultVar} {v:AV} (h:zP P T A r=some v) :
  ∃ v',(ny a.tmps r).run P w=.ok v' w∧aj ρ v v':=by
 cases r with
 | tmp t =>
   simp only[zP] at h
   have:=hA.val t
   rw[h] at this
   exact⟨_,rfl,this⟩
 | cell x t =>
   simp only[zP] at h
   split at h <;> first | (cases h; done) | skip
   rename_i b p hx
   have hv:=hA.val x
   rw[hx] at hv
   obtain⟨i,hb,hc⟩:=dz hv
   simp only[ny,hc,asAddr,Sem.run_bind,Sem.run_pure,Result.andThen_ok,loadVar]
   split at h <;> first | (cases h; done) | skip
   ·rename_i ha
    split at h <;> first | (cases h; done) | skip
    rename_i hl
    cases h
    obtain⟨vs,hr,hlen,hcell⟩:=gu hw hb hl
    cases hr with
    | cons _ u _ us hu hn =>
    cases hn
    have hcell:=hcell 0 u (by simp)
    rw[dL,Nat.add_zero] at hcell
    exact⟨u,by simp only[gL ha,Result.andThen_ok,Bool.false_eq_true,if_false,load,Sem.run,hcell],hu⟩
   ·rename_i n ha hs
    split at h <;> first | (cases h; done) | skip
    rename_i xs hl
    cases h
    obtain⟨vs,hr,hlen,_,hrun⟩:=jV (P:=P) hw hb hl
    exact⟨.agg ⟨vs⟩,by simp only[gL ha,Result.andThen_ok,if_true,Sem.run_bind,bW hs,hrun,Sem.run_pure],.agg _ _ hr⟩
theorem qL (hA:df ρ nt T a) (hw:bg P base ρ A w) : ∀ (rs:List ResultVar) (vs:List AV),di (zP P T A) rs=some vs →
  ∃ us,(rs.mapM (ny a.tmps)).run P w=.ok us w∧aR ρ vs us
 | [],vs,h=>by
   simp[di] at h; subst h
   exact⟨[],by simp,.nil⟩
 | r :: rs,vs,h=>by
   simp only[di] at h
   split at h <;> first | (cases h; done) | skip
   rename_i v hv
   split at h <;> first | (cases h; done) | skip
   rename_i ys hys
   cases h
   obtain⟨v',h1,h2⟩:=L8 hA hw hv
   obtain⟨us,h3,h4⟩:=qL hA hw rs ys hys
   refine⟨v' :: us, ?_,.cons _ _ _ _ h2 h4⟩
   simp only[List.mapM_cons,Sem.run_bind,h1,Result.andThen_ok,h3,Sem.run_pure]
theorem Kg (hA:df ρ nt T a) (hw:bg P base ρ A w) {fn:Func} {v:AV} (h:BR P fn T A=some v) : ∃ v',(results fn a.tmps).run P w=.ok v' w∧aj ρ v v':=by
 unfold BR at h
 have key:∀ us:List Value,(fn.results.toList.mapM (ny a.tmps)).run P w=.ok us w →
   (results fn a.tmps).run P w=.ok (if h:(⟨us⟩ : Array Value).size=1 then(⟨us⟩ : Array Value)[0] else .tuple ⟨us⟩) w:=by
  intro us hu
  have e:results fn a.tmps=(fn.results.mapM (ny a.tmps) >>= fun vs=>pure (if h:vs.size=1 then vs[0] else .tuple vs)):=rfl
  rw[e,Array.mapM_eq_mapM_toList]
  simp only[Sem.run_bind,Sem.run_map,hu,Result.andThen_ok,Sem.run_pure]
 split at h <;> first | (cases h; done) | skip
 ·rename_i u hu
  cases h
  obtain⟨us,h1,h2⟩:=qL hA hw _ _ hu
  cases h2 with
  | cons _ u' _ us hu' hn =>
  cases hn
  exact⟨u',by rw[key _ h1]; rfl,hu'⟩
 ·rename_i vs hne hvs
  cases h
  obtain⟨us,h1,h2⟩:=qL hA hw _ _ hvs
  refine⟨.tuple ⟨us⟩, ?_,.tup _ _ h2⟩
  rw[key _ h1,dif_neg]
  intro h
  have hl:=h2.length
  have:us.length=1:=h
  cases vs with
  | nil=>simp at hl; omega
  | cons v vs=>cases vs with
    | nil=>exact hne v rfl
    | cons _ _=>simp at hl; omega
theorem FU (hng:EB P X) (hm:P.follows .mixedOrders=true) (L:Nat) {call:fG} (hc:jk P base call) : jk P base (Mj P X L call):=by
 intro f args A v A' h ρ w us hargs hw hb
 simp only[Mj] at h
 split at h <;> first | (cases h; done) | skip
 rename_i fn hfn
 split at h <;> first | (cases h; done) | skip
 rename_i c hbody
 have hlen:=hargs.length
 have hA:df ρ (args.length + (fn.ntmps - args.length)) (Tree.ofList args 0 .leaf) { tmps:=⟨us⟩++Array.replicate (fn.ntmps - (⟨us⟩ : Array Value).size) undef,defers:=[] } := by
  refine⟨by simp[hlen],fun t=>?_,rfl⟩
  rw[Tree.iR]
  by_cases ht:t<args.length
  ·rw[if_pos (by omega),Nat.sub_zero]
   obtain⟨u,hu,hv⟩:=hargs.get (n:=t) (x:=args[t]) (by simp[ht])
   rw[List.getElem?_eq_getElem ht]
   simp only[Option.getD_some]
   have:((⟨us⟩ : Array Value)++Array.replicate (fn.ntmps - (⟨us⟩ : Array Value).size) undef).getD t undef=u:=by
    rw[Array.getD_eq_getD_getElem?,Array.getElem?_append_left (by simp; omega)]
    simp[hu]
   rw[this]; exact hv
  ·rw[if_neg (by omega)]
   exact .top _
 have hret:∀ {ex:Ex} {T' : Tree AV} {A1:AW},(ex=.normal∨ex=.ret)→gK P X call (args.length + (fn.ntmps - args.length)) L c (Tree.ofList args 0 .leaf) A=some (ex,T',A1)→BR P fn T' A1=some v→A'=A1 →
   Calls P f ⟨us⟩ w fun e w'=>∃ ρ' v',e=.returned v'∧Step base A.next ρ w ρ' w'∧bg P base ρ' A' w'∧A.next≤A'.next∧aj ρ' v v':=by
  intro ex T' A1 hex hcode hres hA1
  subst hA1
  refine calls_of_wp hfn hbody (wp_mono ((PQ hng hm hc (n0:=A.next) (ρ0:=ρ) (w0:=w) hb L c _ A ex T' A' hcode).1 ρ _ w (Nat.le_refl _) (Step.refl _ _ _) hA hw) fun e a' w' hp=>?_)
  obtain⟨rfl,ρ',k1,k2,k3,k4⟩:=hp
  obtain⟨v',h1,h2⟩:=Kg k2 k3 hres
  rcases hex with rfl | rfl
  ·exact⟨k2.defers,v',h1,ρ',v',rfl,k1,k3,k4,h2⟩
  ·exact⟨k2.defers,v',h1,ρ',v',rfl,k1,k3,k4,h2⟩
 split at h <;> first | (cases h; done) | skip
 rename_i ex T' A1 hne hcode
 split at h <;> first | (cases h; done) | skip
 rename_i v1 hres
 cases h
 refine hret ?_ hcode hres rfl
 cases ex with
 | normal=>exact .inl rfl
 | ret=>exact .inr rfl
 | exit id=>exact(hne id rfl).elim
end
section
variable {P:Program} {X:Ext} {base:Base}
theorem N7 {ρ ρ' : Ren} {x:AV} {v:Value} (h:GV x=true) (hr:aj ρ x v) : aj ρ' x v:=by
 cases x <;> simp[GV] at h
 obtain⟨rfl,hp⟩:=aN hr
 exact .sc _ hp
theorem PE {l:List AV} {n k:Nat} {x:AV} (h:cellAt (Tree.ofList l 0 .leaf) [] n k=some x) : k<n∧l[k]?=some x:=by
 obtain⟨h1,h2⟩:=iJ h
 rw[Tree.iR] at h2
 split at h2
 ·exact⟨h1,by simpa using h2⟩
 ·simp[Tree.get] at h2
theorem yF {A:AW} {b k n:Nat} {tree:Tree AV} {zs xs:List AV} {opn:Bool} {el fz:Nat} (hg:A.heap.get b=some (.row n tree zs opn el fz)) (h:A.loads b 0 k=some xs) :
  xs.length=k∧∀ j x,xs[j]?=some x→cellAt tree zs n j=some x:=by
 unfold AW.loads at h
 rw[hg] at h
 obtain⟨h1,h2⟩:=xK k 0 h
 exact⟨h1,fun j x hx=>by have:=h2 j x hx; rwa [Nat.zero_add] at this⟩
theorem G7 {ρ ρ' : Ren} {i:fD} {n:Nat} {tree:Tree AV} {zs:List AV} {opn:Bool} {el fz:Nat} {c:Array Value} {fr:Nat × Nat} (h:vZ P ρ i n tree zs opn el fz c fr) {cs:List AV} {m:Nat} (hsc:cs.all GV=true)
  (hcs:∀ j x,cs[j]?=some x→cellAt tree zs n j=some x) (hm:i.sh + m≤c.size) : vZ P ρ' i m (Tree.ofList cs 0 .leaf) [] opn el fz c fr :=
 ⟨hm,fun k x hk=>by
  obtain⟨_,hk⟩:=PE hk
  obtain⟨v,h1,h2⟩:=h.val k x (hcs k x hk)
  exact⟨v,h1,N7 (List.all_eq_true.1 hsc x (List.mem_of_getElem? hk)) h2⟩,h.free,h.mark,h.opn,h.sh0⟩
theorem Dw {run:Nat→Option (List AV)} {C:List AV} : ∀ (n:Nat),sameAll run C n=true→∀ j,j<n→run j=some C
 | 0,_,j,hj=>by omega
 | n + 1,h,j,hj=>by
   simp only[sameAll] at h
   split at h <;> first | (cases h; done) | skip
   rename_i C' hC
   simp only[Bool.and_eq_true] at h
   by_cases e:j=n
   ·subst e; rw[hC,mJ _ _ h.1]
   ·exact Dw n h.2 j (by omega)
theorem zJ {A0:AW} {b bv esz el want:Nat} {pW:dU} {r:Option (AV × AW)} {C:List AV} (h:outcome A0 b bv esz el want pW r=some C) :
  ∃ rb A' kr tr zr,r=some (.slc rb 0 want (.op esz),A')∧A'.heap.get rb=some (.row kr tr zr true el 0)∧A'.heap.get bv=some pW∧A'.loads rb 0 (want * esz)=some C∧(rb=b∨A0.next≤rb)∧C.all GV=true:=by
 unfold outcome at h
 split at h <;> first | (cases h; done) | skip
 rename_i rb n e A'
 split at h <;> first | (cases h; done) | skip
 rename_i kr tr zr el' y C' hrb hbv hC
 split at h <;> first | (cases h; done) | skip
 rename_i hc
 cases h
 simp only[Bool.and_eq_true] at hc
 obtain⟨⟨⟨⟨⟨c1,c2⟩,c3⟩,c4⟩,c5⟩,c6⟩:=hc
 have c1:=bf c1; have c2:=bf c2; have c3:=bf c3; have c6:=uU c6
 subst c1; subst c2; subst c3; subst c6
 refine⟨rb,A',kr,tr,zr,rfl,hrb,hbv,hC, ?_,c5⟩
 rw[Bool.or_eq_true] at c4
 rcases c4 with c4 | c4
 ·exact .inl (bf c4)
 ·exact .inr (aW c4)
theorem Nj {run:fG} (hc:jk P base run) : jk P base (OX run):=by
 intro f args A v A' h ρ w us hargs hw hb
 unfold OX at h
 split at h
 case h_2=>exact hc f args A v A' h ρ w us hargs hw hb
 rename_i b len esz iv bv ov m mc
 split at h <;> first | (cases h; done) | skip
 rename_i kn tb zb el kv tv zv ev fv hgb hgv
 split at h <;> first | (cases h; done) | skip
 rename_i cs uv hcs huv
 split at h <;> first | (cases h; done) | skip
 rename_i hcond
 simp only[Bool.and_eq_true,Bool.not_eq_true'] at hcond
 obtain⟨⟨⟨⟨c1,c2⟩,c3⟩,c4⟩,c5⟩:=hcond
 have c1:=bf c1; have c2:=ul c2; have c3:=aW c3
 dsimp only at h
 split at h <;> first | (cases h; done) | skip
 rename_i C hbig
 split at h <;> first | (cases h; done) | skip
 rename_i hsmall
 cases h
 -- the arguments
 cases hargs with
 | cons _ u1 _ us1 r1 hargs =>
 cases hargs with
 | cons _ u2 _ us2 r2 hargs =>
 cases hargs with
 | cons _ u3 _ us3 r3 hargs =>
 cases hargs
 obtain⟨k,i,hbi,hp,he,hk,hu1⟩:=uR r1
 obtain⟨hu2,hpi⟩:=aN r2
 have r3':=r3
 generalize hu3:u3=u3' at r3'
 cases r3' with
 | fI _ _ _ _ iv' GN =>
 obtain⟨ob,hob,cb,frb,rfl,hrb⟩:=hw.blk b i _ hbi hgb
 obtain⟨ov',hov,cv,frv,rfl,hrv⟩:=hw.blk bv iv' _ GN hgv
 obtain⟨h0,hcsz,hels⟩:=hrb.opn rfl
 have hk0:k=0:=by
  rcases Nat.eq_zero_or_pos k with e | e
  ·exact e
  ·have:0<k * i.esz:=Nat.mul_pos e h0
   omega
 subst hk0
 obtain⟨hl1,hcell1⟩:=yF hgb hcs
 obtain⟨hl2,hcell2⟩:=yF hgv huv
 have hbn:=hw.dom b i hbi
 have hvn:=hw.dom bv iv' GN
 have Y5:i.cb≠iv'.cb:=fun e=>c2 (hw.sep _ _ _ _ _ _ hbi GN hgb hgv e)
 -- the two blocks alone
 let ρl:Ren:=fun x=>if x=b then some i else if x=bv then some iv' else none
 have hρb:ρl b=some i:=by simp[ρl]
 have hρv:ρl bv=some iv':=by simp only[ρl]; rw[if_neg (fun e=>c2 e.symm)]; simp
 have hρ:∀ x j,ρl x=some j→(x=b∧j=i)∨(x=bv∧j=iv'):=by
  intro x j hx
  simp only[ρl] at hx
  split at hx
  ·cases hx; exact .inl ⟨‹_›,rfl⟩
  ·split at hx
   ·cases hx; exact .inr ⟨‹_›,rfl⟩
   ·cases hx
 have Zr:∀ x j,ρl x=some j→ρ x=some j:=by
  intro x j hx
  rcases hρ x j hx with⟨rfl,rfl⟩ | ⟨rfl,rfl⟩
  ·exact hbi
  ·exact GN
 let pW:=dU.row kv (Tree.ofList uv 0 .leaf) [] false ev fv
 have UI:∀ (n:Nat),i.sh + n≤cb.size→bg P base ρl { next:=A.next,heap:=(Tree.leaf.set b (.row n (Tree.ofList cs 0 .leaf) [] true el 0)).set bv pW } w:=by
  intro n hn
  have hget:∀ x y,((Tree.leaf.set b (dU.row n (Tree.ofList cs 0 .leaf) [] true el 0)).set bv pW).get x=some y→(x=bv∧y=pW)∨(x=b∧y=dU.row n (Tree.ofList cs 0 .leaf) [] true el 0):=by
   intro x y h
   rw[Tree.aY] at h
   split at h
   ·cases h; exact .inl ⟨‹_›,rfl⟩
   ·rw[Tree.aY] at h
    split at h
    ·cases h; exact .inr ⟨‹_›,rfl⟩
    ·simp[Tree.get] at h
  refine⟨fun x j hx=>?_,fun x j y hx hy=>?_,fun x1 x2 j1 j2 y1 y2 h1 h2 _ _ e=>?_,fun x y hy=>?_,fun x j y hx hy=>?_,hw.inv⟩
  ·exact hw.dom x j (Zr x j hx)
  ·rcases hget x y hy with⟨rfl,rfl⟩ | ⟨rfl,rfl⟩
   ·rw[hρv] at hx; cases hx
    exact⟨_,hov,cv,frv,rfl,G7 hrv c5 hcell2 hrv.size⟩
   ·rw[hρb] at hx; cases hx
    exact⟨_,hob,cb,frb,rfl,G7 hrb c4 hcell1 hn⟩
  ·rcases hρ x1 j1 h1 with⟨rfl,rfl⟩ | ⟨rfl,rfl⟩ <;> rcases hρ x2 j2 h2 with⟨rfl,rfl⟩ | ⟨rfl,rfl⟩
   ·rfl
   ·exact absurd e Y5
   ·exact absurd e.symm Y5
   ·rfl
  ·rcases hget x y hy with⟨rfl,_⟩ | ⟨rfl,_⟩
   ·exact hvn.1
   ·exact hbn.1
  ·rcases hρ x j hx with⟨rfl,rfl⟩ | ⟨rfl,rfl⟩
   ·exact hw.lo _ _ _ hbi hgb
   ·exact hw.lo _ _ _ GN hgv
 -- whatever comes of it
 have finish:∀ (r:Option (AV × AW)),outcome A b bv esz el (len + m) pW r=some C→∀ (rr:AV) (Ar:AW) (e:Ending) (w' : World),r=some (rr,Ar) →
   (∃ ρ' v',e=.returned v'∧Step base A.next ρl w ρ' w'∧bg P base ρ' Ar w'∧A.next≤Ar.next∧aj ρ' rr v') →
   ∃ ρ' v',e=.returned v'∧Step base A.next ρ w ρ' w'∧bg P base ρ' { next:=A.next + 1,heap:=(A.heap.del b).set A.next (.row ((len + m) * esz) (Tree.ofList C 0 .leaf) [] true el 0) } w'∧A.next≤A.next + 1∧aj ρ' (.slc A.next 0 (len + m) (.op esz)) v':=by
  intro r hr rr Ar e w' hrr hR
  obtain⟨rb,Ar',kr,tr,zr,g1,g2,g3,g4,g5,g6⟩:=zJ hr
  rw[hrr] at g1
  cases g1
  obtain⟨ρ',v',rfl,hst,hwr,hnx,hv⟩:=hR
  obtain⟨k',ir,hir,hp',he',hk',hv'⟩:=uR hv
  obtain⟨obr,acy,cr,frr,rfl,Rc⟩:=hwr.blk rb ir _ hir g2
  obtain⟨hr0,hrcs,hrels⟩:=Rc.opn rfl
  have hk0' : k'=0:=by
   rcases Nat.eq_zero_or_pos k' with e | e
   ·exact e
   ·have:0<k' * ir.esz:=Nat.mul_pos e hr0
    omega
  subst hk0'
  have aas:ρ' bv=some iv':=by rw[hst.ext bv hvn.1]; exact hρv
  have adp:rb≠bv:=by
   rcases g5 with e | e
   ·rw[e]; exact c2
   ·have:=hvn.1; omega
  have aee:ir.cb≠iv'.cb:=fun e=>adp (hwr.sep _ _ _ _ _ _ hir aas g2 g3 e)
  obtain⟨hl3,UH⟩:=yF g2 g4
  have hfresh:ρ A.next=none:=hw.fresh (Nat.le_refl _)
  have hle:ρ.le (ρ.add A.next ir):=Ren.nX hfresh
  have ZR:=hwr.dom rb ir hir
  -- where the result's block lies
  have XK:ir.cb=i.cb∨w.heap.size≤ir.cb:=by
   rcases hst.fresh rb ir hir with⟨b0,i0,hb0,e0⟩ | h
   ·rcases hρ b0 i0 hb0 with⟨rfl,rfl⟩ | ⟨rfl,rfl⟩
    ·exact .inl e0.symm
    ·exact absurd e0.symm aee
   ·exact .inr h
  have hadd:∀ x j,ρ.add A.next ir x=some j→(x=A.next∧j=ir)∨(x≠A.next∧ρ x=some j):=by
   intro x j h
   unfold Ren.add at h
   split at h
   ·cases h; exact .inl ⟨‹_›,rfl⟩
   ·exact .inr ⟨‹_›,h⟩
  have hget:∀ {x y},((A.heap.del b).set A.next (dU.row ((len + m) * esz) (Tree.ofList C 0 .leaf) [] true el 0)).get x=some y→(x=A.next∧y=dU.row ((len + m) * esz) (Tree.ofList C 0 .leaf) [] true el 0)∨(x≠A.next∧x≠b∧A.heap.get x=some y):=by
   intro x y h
   rw[Tree.aY] at h
   split at h
   ·cases h; exact .inl ⟨‹_›,rfl⟩
   ·rw[Tree.qP] at h
    split at h
    ·cases h
    ·exact .inr ⟨‹_›,‹_›,h⟩
  have hnew:vZ P (ρ.add A.next ir) ir ((len + m) * esz) (Tree.ofList C 0 .leaf) [] true el 0 cr frr:=by
   refine G7 Rc g6 UH ?_
   rcases Nat.eq_zero_or_pos ((len + m) * esz) with e | e
   ·rw[e]; have:=Rc.size; omega
   ·have hj:(len + m) * esz - 1<C.length:=by omega
    have:=xI (UH ((len + m) * esz - 1) C[(len + m) * esz - 1] (by simp[hj]))
    have:=Rc.size
    omega
  -- a block that stays
  have hkeep:∀ x j y,x≠b→ρ x=some j→A.heap.get x=some y→∃ o,w'.heap[j.cb]?=some o∧gW P ρ j y o:=by
   intro x j y hxb hx hy
   by_cases hxv:x=bv
   ·subst hxv
    rw[GN] at hx; cases hx
    rw[hgv] at hy; cases hy
    obtain⟨o,ho,cv',aed,rfl,JI⟩:=hwr.blk x iv' _ aas g3
    refine⟨_,ho,cv',aed,rfl,⟨JI.size,fun k x hk=>?_,JI.free,JI.mark,JI.opn,JI.sh0⟩⟩
    have Vv:=xI hk
    have hj:k<uv.length:=by omega
    have hcx:=hcell2 k uv[k] (by simp[hj])
    rw[hk] at hcx
    cases hcx
    obtain⟨v,hv1,hv2⟩:=JI.val k uv[k] (by
     unfold cellAt
     rw[aT.2 (show k + 1≤kv by omega)]
     rw[Tree.iR,if_pos (by omega)]
     simp[hj])
    exact⟨v,hv1,N7 (List.all_eq_true.1 c5 _ (List.getElem_mem _)) hv2⟩
   ·obtain⟨o,ho,hrel⟩:=hw.blk x j y hx hy
    refine⟨o, ?_,hrel⟩
    rw[hst.frame j.cb (hw.dom x j hx).2 fun b0 i0 hb0 e0=>?_]
    ·exact ho
    ·rcases hρ b0 i0 hb0 with⟨rfl,rfl⟩ | ⟨rfl,rfl⟩
     ·exact hxb (hw.sep _ _ _ _ _ _ hx hbi hy hgb e0.symm)
     ·exact hxv (hw.sep _ _ _ _ _ _ hx GN hy hgv e0.symm)
  have Jl:∀ x j y,x≠b→ρ x=some j→A.heap.get x=some y→j.cb≠ir.cb:=by
   intro x j y hxb hx hy e
   rcases XK with h | h
   ·exact hxb (hw.sep _ _ _ _ _ _ hx hbi hy hgb (by rw[e,h]))
   ·have:=(hw.dom x j hx).2; omega
  refine⟨ρ.add A.next ir,v',rfl,⟨hst.os,hst.tape,hst.output,hst.size,fun c hc hun=>hst.frame c hc fun b0 i0 hb0=>hun b0 i0 (Zr b0 i0 hb0),fun x hx=>?_,fun x j hj=>?_,hst.low⟩,⟨fun x j hj=>?_,fun x j y hj hy=>?_,fun x1 x2 j1 j2 y1 y2 hj1 hj2 hy1 hy2 he'=>?_,fun x y hy=>?_,fun x j y hj hy=>?_,hwr.inv⟩,by omega, ?_⟩
  ·unfold Ren.add; rw[if_neg (by omega)]
  ·rcases hadd x j hj with⟨rfl,rfl⟩ | ⟨_,hj⟩
   ·rcases XK with h | h
    ·exact .inl ⟨b,i,hbi,h.symm⟩
    ·exact .inr h
   ·exact .inl ⟨x,j,hj,rfl⟩
  ·rcases hadd x j hj with⟨rfl,rfl⟩ | ⟨_,hj⟩
   ·exact⟨by simp,ZR.2⟩
   ·have:=hw.dom x j hj
    exact⟨by show x<A.next + 1; omega,Nat.lt_of_lt_of_le this.2 hst.size⟩
  ·rcases hget hy with⟨rfl,rfl⟩ | ⟨hxn,hxb,hy⟩
   ·rcases hadd _ j hj with⟨_,rfl⟩ | ⟨h',_⟩
    ·exact⟨_,acy,cr,frr,rfl,hnew⟩
    ·exact absurd rfl h'
   ·rcases hadd x j hj with⟨h',_⟩ | ⟨_,hj⟩
    ·exact absurd h' hxn
    ·obtain⟨o,ho,hrel⟩:=hkeep x j y hxb hj hy
     exact⟨o,ho,hrel.mono hle⟩
  ·rcases hget hy1 with⟨e1,_⟩ | ⟨n1,nb1,hy1⟩ <;> rcases hget hy2 with⟨e2,_⟩ | ⟨n2,nb2,hy2⟩
   ·rw[e1,e2]
   ·rcases hadd x1 j1 hj1 with⟨_,f1⟩ | ⟨g1',_⟩
    ·rcases hadd x2 j2 hj2 with⟨g2',_⟩ | ⟨_,hj2⟩
     ·exact absurd g2' n2
     ·exact absurd (by rw[← he',f1]) (Jl x2 j2 y2 nb2 hj2 hy2)
    ·exact absurd e1 g1'
   ·rcases hadd x2 j2 hj2 with⟨_,f2⟩ | ⟨g2',_⟩
    ·rcases hadd x1 j1 hj1 with⟨g1',_⟩ | ⟨_,hj1⟩
     ·exact absurd g1' n1
     ·exact absurd (by rw[he',f2]) (Jl x1 j1 y1 nb1 hj1 hy1)
    ·exact absurd e2 g2'
   ·rcases hadd x1 j1 hj1 with⟨g1',_⟩ | ⟨_,hj1⟩
    ·exact absurd g1' n1
    ·rcases hadd x2 j2 hj2 with⟨g2',_⟩ | ⟨_,hj2⟩
     ·exact absurd g2' n2
     ·exact hw.sep _ _ _ _ _ _ hj1 hj2 hy1 hy2 he'
  ·rcases hget hy with⟨rfl,_⟩ | ⟨_,_,hy⟩
   ·simp
   ·have:=hw.top x y hy; show x<A.next + 1; omega
  ·rcases hget hy with⟨rfl,_⟩ | ⟨hxn,_,hy⟩
   ·rcases hadd _ j hj with⟨_,rfl⟩ | ⟨h',_⟩
    ·exact hwr.lo rb j _ hir g2
    ·exact absurd rfl h'
   ·rcases hadd x j hj with⟨h',_⟩ | ⟨_,hj⟩
    ·exact absurd h' hxn
    ·exact hw.lo x j y hj hy
  ·rw[hv']
   have:=aj.jh (ρ:=ρ.add A.next ir) A.next 0 (len + m) ir (by simp[Ren.add]) hk'
   rw[Nat.zero_mul] at this ⊢
   rw[he']
   exact this
 -- the two roads
 subst hu1 hu2 hu3
 have hal:∀ (cap:Cap) (c:Nat),aj ρl (.slc b 0 len cap) (.slice (some ⟨i.cb,i.sh + 0 * i.esz,none⟩) len (i.eu - 0)) →
   aR ρl [.slc b 0 len cap,.sc u2,.slc bv ov m (.ex mc)] [.slice (some ⟨i.cb,i.sh + 0 * i.esz,none⟩) len (i.eu - 0),u2,.slice (some ⟨iv'.cb,iv'.sh + ov,none⟩) m mc]:=fun cap c h1 =>
  .cons _ _ _ _ h1 (.cons _ _ _ _ (.sc _ hpi) (.cons _ _ _ _ (.fI bv ov m mc iv' hρv) .nil))
 by_cases hroom:len + m≤i.eu
 ·
  have h1:aj ρl (.slc b 0 len (.op esz)) (.slice (some ⟨i.cb,i.sh + 0 * i.esz,none⟩) len (i.eu - 0)):=by
   have:=aj.jh (ρ:=ρl) b 0 len i hρb hk
   rw[Nat.zero_mul] at this ⊢
   rw[he]; exact this
  have hsz:i.sh + (len + m) * esz≤cb.size:=by
   rw[hcsz,he]
   have:=Nat.mul_le_mul_right i.esz hroom
   omega
  obtain⟨rb,Ar,kr,tr,zr,g1,_⟩:=zJ hbig
  exact(hc f _ _ _ _ g1 ρl w _ (hal _ 0 h1) (UI _ hsz) hb).mono fun e w' hR=>finish _ hbig _ _ e w' g1 hR
 ·
  have hj:i.eu - len<m:=by omega
  have hs:=Dw m hsmall (i.eu - len) hj
  have hlj:len + (i.eu - len)=i.eu:=by omega
  have h1:aj ρl (.slc b 0 len (.ex (len + (i.eu - len)))) (.slice (some ⟨i.cb,i.sh + 0 * i.esz,none⟩) len (i.eu - 0)):=by
   rw[hlj]
   have:=aj.fI (ρ:=ρl) b 0 len i.eu i hρb
   simpa using this
  obtain⟨rb,Ar,kr,tr,zr,g1,_⟩:=zJ hs
  exact(hc f _ _ _ _ g1 ρl w _ (hal _ 0 h1) (UI _ (by have:=hrb.size; omega)) hb).mono fun e w' hR=>finish _ hs _ _ e w' g1 hR
end
end Go.Ab
namespace Go.Ab
open Go Go.RowKit Go.WideShapes Go.ChangeShapes
def Base.any (n:Nat) : Base:=⟨n,fun _=>True,fun _ _ _ _=>trivial⟩
section
variable {H:Type} {enc:TypeId × Value→H} {P:Program}
theorem LW {f:Func} {s:ChangeSpec} {apart fresh handsOn again:Bool} {W W' : World} {args:Array Value} {v:Value} {ds gs:List (DataW H)} {before pa pv:List MemPlace}
  (hW:DataW.Whole enc P f.params.toList s.vars apart W args.toList ds gs before)
  (hres:∀ (b:Nat) (sp:Nat→Bool) (hd:Bool),DataW.TrodAll enc P W' b sp hd f.resultTypes.toList (v.resultList f.resultTypes.size) (s.fn H (ds++gs)).results [])
  (hargs:∀ sp:Nat→Bool,(∀ p∈before,sp p.block=true)→DataW.TrodAll enc P W' 0 sp true f.params.toList args.toList (s.fn H (ds++gs)).args pa)
  (hvars:∀ sp:Nat→Bool,(∀ p∈before,sp p.block=true)→DataW.TrodVars enc P W' sp s.vars (s.fn H (ds++gs)).vars pv)
  (hps:before=pa++pv) (hb:Below W.heap.size W W')
  (hok:∀ (j:Nat) (t:TypeId) (r:Value),f.resultTypes[j]?=some t→(v.resultList f.resultTypes.size)[j]?=some r→Value.okWide P W' .any 0 t r) :
  s.post enc P f apart fresh handsOn again W args v W':=by
 have hlt:∀ p∈before,p.block<W.heap.size:=fun p hp=>hW.lt p hp
 have hold:∀ p∈before,(fun b=>decide (b<W.heap.size)) p.block=true:=fun p hp=>by simpa using hlt p hp
 refine⟨ds,gs,before,[],pa,pv,hW,hres _ _ _,hargs _ hold,hvars _ hold,World.keptBut_mono (fun p hp=>⟨hp, ?_⟩) (hb.frame (· ∈ before)),fun _=>?_⟩
 ·rw[hps,List.mem_append] at hp
  exact Or.inr hp
 ·obtain⟨_,_,_,_,_,hz,hn⟩:=hW
  refine⟨hok,_,_,([]++pa)++pv,⟨[]++pa,pv,trodAll_append (hargs _ (fun _ _=>rfl)) (hres _ _ _),hvars _ (fun _ _=>rfl),rfl, ?_, ?_⟩, ?_⟩
  ·intro b off hp
   have hin:MemPlace.cell b off∈before:=by rw[hps]; simpa using hp
   rw[hb.frozen (hlt _ hin)]
   exact hz b off hin
  ·intro ha
   have:=hn ha
   rw[hps] at this
   simpa using this
  ·intro p hp _
   rw[hps]
   simpa using hp
end
theorem VN {P:Program} (h:(P.funcs.toList.all fun fn=>fn.name != "runtime.NumGoroutine")=true) (f:FuncId) (fn:Func) (hf:P.funcs[f]?=some fn) : fn.name ≠ "runtime.NumGoroutine" := by
 have:=List.all_eq_true.1 h fn (by rw[← Array.getElem?_toList] at hf; exact List.mem_of_getElem? hf)
 simpa using this
end Go.Ab
namespace Go.Ab
open Go Go.RowKit
inductive RB where
 | row (l:List AV) (opn:Bool) (elem:TypeId) (fz:Nat)
 | ro (c:Array Value)
 | map (es:List (AV × AV × Nat)) (clock:Nat)
 | iter (m:Option Nat) (since:Nat) (seen:List Nat) (stepped:Nat)
 | jq (s:List UInt8) (pos:Nat)
structure RM where
 next:Nat
 heap:Nat→Option RB
 base:Base
abbrev RM.lo (M:RM) : Nat:=M.base.n
def RM.push (M:RM) (x:RB) : RM := { M with next:=M.next + 1,heap:=fun c=>if c=M.next then some x else M.heap c }
def RM.put (M:RM) (b:Nat) (x:RB) : RM := { M with heap:=fun c=>if c=b then some x else M.heap c }
def RM.del (M:RM) (b:Nat) : RM := { M with heap:=fun c=>if c=b then none else M.heap c }
def oF (lo:Nat) : Value→AV
 | .pointer (some ⟨b,o,none⟩)=>if b<lo then .ptr b o else .top
 | .slice (some _) 0 0=>.emp 0
 | .slice (some ⟨b,o,none⟩) len cap=>if b<lo then .slc b o len (.ex cap) else .top
 | v=>(pO v).getD .top
def RM.cells (M:RM) (b:Nat) : Option (List AV) :=
 match M.heap b with
 | some (.row l _ _ _)=>some l
 | some (.ro c)=>some (c.toList.map (oF M.lo))
 | _=>none
def RM.loads (M:RM) (b o k:Nat) : Option (List AV) :=
 match M.cells b with
 | some l=>if o + k≤l.length then some ((l.drop o).take k) else none
 | none=>none
def RM.stores (M:RM) (b o:Nat) (vs:List AV) : Option RM :=
 match M.heap b with
 | some (.row l opn elem fz)=>if o + vs.length≤l.length∧fz≤o∧vs.all oneCell=true then some (M.put b (.row (l.take o++vs++l.drop (o + vs.length)) opn elem fz)) else none
 | _=>none
def vP:RB→dU→Prop
 | .row l opn elem fz,.row n tree zs Gh jY fz'=>l.length=n∧Gh=opn∧jY=elem∧fz'=fz∧∀ (k:Nat) (v:AV),l[k]?=some v→cellAt tree zs n k=some v
 | .map es c,.map es' c'=>es'=es∧c'=c
 | .iter a b c d,.iter a' b' c' d'=>a'=a∧b'=b∧c'=c∧d'=d
 | .jq s p,.jq s' p'=>s'=⟨⟨s⟩⟩∧p'=p
 | _,_=>False
structure rO (P:Program) (ρ:Ren) (M:RM) (w:World) (A:AW) : Prop where
 next:A.next=M.next
 rel:bg P M.base ρ A w
 size:M.lo≤w.heap.size
 blk:∀ b x,M.heap b=some x→(∃ y,A.heap.get b=some y∧vP x y)∨∃ c,x=.ro c∧b<M.lo∧∃ elem fr,w.heap[b]?=some (.cells c elem fr)
 old:∀ c,c<M.lo→ρ c=some ⟨c,0,0,0⟩
def bC (P:Program) (ρ:Ren) (M:RM) (w:World) : Prop:=∃ A,rO P ρ M w A
structure After (P:Program) (M:RM) (ρ:Ren) (w:World) (M' : RM) (ρ' : Ren) (w' : World) : Prop where
 step:Step M.lo M.next ρ w ρ' w'
 rel:bC P ρ' M' w'
 base:M'.base=M.base
 next:M.next≤M'.next
theorem After.lo {P:Program} {M M' : RM} {ρ ρ' : Ren} {w w' : World} (h:After P M ρ w M' ρ' w') : M'.lo=M.lo:=congrArg Base.n h.base
theorem Step.PW {M M0:RM} {n:Nat} {ρ ρ' : Ren} {w w' : World} (h:M.base=M0.base) (s:Step M.lo n ρ w ρ' w') : Step M0.lo n ρ w ρ' w':=by
 unfold RM.lo at *; rw[← h]; exact s
section
variable {P:Program} {ρ ρ' : Ren} {M M' : RM} {w w' : World} {A A' : AW}
theorem After.refl (h:bC P ρ M w) : After P M ρ w M ρ w:=⟨Step.refl _ _ _,h,rfl,Nat.le_refl _⟩
theorem After.trans {M1 M2:RM} {ρ1 ρ2:Ren} {w1 w2:World} (h:After P M ρ w M1 ρ1 w1) (k:After P M1 ρ1 w1 M2 ρ2 w2) : After P M ρ w M2 ρ2 w2 :=
 ⟨h.step.trans (h.lo▸k.step) h.next,k.rel,k.base.trans h.base,Nat.le_trans h.next k.next⟩
theorem After.le (h:After P M ρ w M' ρ' w') (hr:bC P ρ M w) : ρ.le ρ':=by
 obtain⟨A,hA⟩:=hr
 have:=h.step
 rw[← hA.next] at this
 exact this.le hA.rel
theorem bC.fresh (h:bC P ρ M w) {b:Nat} (hb:M.next≤b) : ρ b=none:=by
 obtain⟨A,hA⟩:=h
 exact hA.rel.fresh (by rw[hA.next]; exact hb)
theorem bC.lt (h:bC P ρ M w) {b:Nat} {i:fD} (hb:ρ b=some i) : b<M.next∧i.cb<w.heap.size:=by
 obtain⟨A,hA⟩:=h
 have:=hA.rel.dom b i hb
 rw[hA.next] at this; exact this
theorem bC.lo_le (h:bC P ρ M w) : M.lo≤M.next:=by
 rcases Nat.eq_zero_or_pos M.lo with e | e
 ·omega
 ·obtain⟨A,hA⟩:=h
  have:=hA.rel.dom (M.lo - 1) _ (hA.old _ (by omega))
  rw[hA.next] at this; omega
theorem bC.drew (h:bC P ρ M w) : bC P ρ M w.drew:=by
 obtain⟨A,hA⟩:=h
 exact⟨A,hA.next,hA.rel.drew,hA.size,hA.blk,hA.old⟩
theorem jg (h:rO P ρ M w A) (hst:Step M.lo A.next ρ w ρ' w') (hw:bg P M.base ρ' A' w') (hbase:M'.base=M.base) (hn:A'.next=M'.next) (hle:A.next≤A'.next)
  (hb:∀ b x,M'.heap b=some x→(∃ y,A'.heap.get b=some y∧vP x y)∨∃ c,x=.ro c∧M.heap b=some x) : After P M ρ w M' ρ' w':=by
 have hlo:M'.lo=M.lo:=congrArg Base.n hbase
 refine⟨h.next▸hst,⟨A',hn,hbase▸hw,by rw[hlo]; exact Nat.le_trans h.size hst.size,fun b x hx=>?_,fun c hc=>?_⟩,hbase,by rw[← h.next,← hn]; exact hle⟩
 ·rcases hb b x hx with h1 | ⟨c,rfl,h1⟩
  ·exact .inl h1
  ·rcases h.blk b _ h1 with⟨y,_,hy⟩ | ⟨c',e,hlt,elem,fr,hh⟩
   ·cases y <;> exact hy.elim
   ·cases e
    exact .inr ⟨c,rfl,by rw[hlo]; exact hlt,elem,fr,by rw[hst.low b hlt]; exact hh⟩
 ·rw[hlo] at hc
  have:=h.old c hc
  rw[hst.ext c (h.rel.dom c _ this).1]; exact this
theorem Gm {lo:Nat} (h:∀ c,c<lo→ρ c=some ⟨c,0,0,0⟩) (v:Value) : aj ρ (oF lo v) v:=by
 unfold oF
 split
 ·split
  ·rename_i b o hb
   have:=aj.ptr (ρ:=ρ) b o ⟨b,0,0,0⟩ (h b hb)
   simpa using this
  ·exact .top _
 ·exact .emp _ _ _
 ·split
  ·rename_i b o len cap _ hb
   have:=aj.fI (ρ:=ρ) b o len cap ⟨b,0,0,0⟩ (h b hb)
   simpa using this
  ·exact .top _
 ·cases hv:pO v with
  | none=>exact .top _
  | some u=>exact BB ρ hv
theorem Bj {tree:Tree AV} {zs:List AV} {n:Nat} {l:List AV} (h:∀ (k:Nat) (v:AV),l[k]?=some v→cellAt tree zs n k=some v) : ∀ (k o:Nat),o + k≤l.length→cells tree zs n o k=some ((l.drop o).take k)
 | 0,o,_=>by simp[cells]
 | k + 1,o,hk=>by
   have ho:o<l.length:=by omega
   simp only[cells]
   rw[h o l[o] (by simp[ho]),Bj h k (o + 1) (by omega)]
   simp only
   congr 1
   rw[List.drop_eq_getElem_cons ho,List.take_succ_cons]
theorem RM.gu (hw:bC P ρ M w) {b o k:Nat} {i:fD} {xs:List AV} (hb:ρ b=some i) (h:M.loads b o k=some xs) :
  ∃ vs,aR ρ xs vs∧vs.length=k∧∀ j v,vs[j]?=some v→w.cell? ((⟨i.cb,i.sh + o,none⟩ : Addr).add j)=some v:=by
 obtain⟨A,hA⟩:=hw
 unfold RM.loads RM.cells at h
 split at h <;> first | (cases h; done) | skip
 rename_i l hl
 split at h <;> first | (cases h; done) | skip
 rename_i hok
 cases h
 split at hl <;> first | (cases hl; done) | skip
 ·rename_i l0 opn elem fz hh
  cases hl
  rcases hA.blk b _ hh with⟨y,hy,hle⟩ | ⟨c,e,_⟩
  ·cases y <;> first | exact hle.elim | skip
   obtain⟨h1,rfl,rfl,rfl,h5⟩:=hle
   refine Go.Ab.gu hA.rel hb ?_
   unfold AW.loads
   rw[hy]
   exact Bj h5 k o (by omega)
  ·cases e
 ·rename_i c hh
  cases hl
  rcases hA.blk b _ hh with⟨y,hy,hle⟩ | ⟨c,e,hlt,elem,fr,hc⟩
  ·cases y <;> exact hle.elim
  ·cases e
   rw[hA.old b hlt] at hb
   cases hb
   simp only[List.length_map,Array.length_toList] at hok
   refine⟨(c.toList.drop o).take k, ?_,by simp; omega,fun j v hj=>?_⟩
   ·rw[← List.map_drop,← List.map_take]
    generalize (c.toList.drop o).take k=vs
    induction vs with
    | nil=>exact .nil
    | cons v vs ih=>exact .cons _ _ _ _ (Gm hA.old v) ih
   ·rw[dL,World.cell?,hc]
    rw[List.getElem?_take] at hj
    split at hj
    ·rw[List.getElem?_drop] at hj
     simp only[Nat.zero_add]
     simpa using hj
    ·cases hj
theorem RM.jV (hw:bC P ρ M w) {b o k:Nat} {i:fD} {xs:List AV} (hb:ρ b=some i) (h:M.loads b o k=some xs) :
  ∃ vs,aR ρ xs vs∧vs.length=k∧(∀ j v,vs[j]?=some v→w.cell? ((⟨i.cb,i.sh + o,none⟩ : Addr).add j)=some v)∧(loadCells ⟨i.cb,i.sh + o,none⟩ k).run P w=.ok ⟨vs⟩ w:=by
 obtain⟨vs,h1,h2,h3⟩:=RM.gu hw hb h
 exact⟨vs,h1,h2,h3,by have:=run_loadCells_list (P:=P) w ⟨i.cb,i.sh + o,none⟩ vs h3; rw[h2] at this; exact this⟩
theorem jQ:∀ (vs:List AV) (t:Tree AV) (o:Nat),vs.all oneCell=true→∃ t',jW t o vs=some t'
 | [],t,o,_=>⟨t,rfl⟩
 | v :: vs,t,o,h=>by
   simp only[List.all_cons,Bool.and_eq_true] at h
   obtain⟨t',ht⟩:=jQ vs (t.set o v) (o + 1) h.2
   exact⟨t',by simp only[jW,h.1]; exact ht⟩
theorem RM.Gt (h:rO P ρ M w A) {b o:Nat} {vs:List AV} (hs:M.stores b o vs=some M') :
  ∃ A',A.stores b o vs=some A'∧M'.base=M.base∧A'.next=M'.next∧M'.next=M.next ∧
    ∀ c x,M'.heap c=some x→(∃ y,A'.heap.get c=some y∧vP x y)∨∃ d,x=.ro d∧M.heap c=some x:=by
 unfold RM.stores at hs
 split at hs <;> first | (cases hs; done) | skip
 rename_i l opn elem fz hh
 split at hs <;> first | (cases hs; done) | skip
 rename_i hc
 obtain⟨c1,c2,c3⟩:=hc
 cases hs
 rcases h.blk b _ hh with⟨y,hy,hle⟩ | ⟨c,e,_⟩
 ·cases y <;> first | exact hle.elim | skip
  rename_i n tree zs Gh jY fz'
  obtain⟨h1,rfl,rfl,rfl,h5⟩:=hle
  obtain⟨t',ht⟩:=jQ vs tree o c3
  obtain⟨_,hget⟩:=fC _ _ _ ht
  refine⟨{ A with heap:=A.heap.set b (.row n t' zs Gh jY fz') }, ?_,rfl,h.next,rfl,fun c x hx=>?_⟩
  ·unfold AW.stores
   rw[hy]
   simp only
   rw[aT.2 (by omega),aT.2 c2,ht]
  ·simp only[RM.put] at hx
   simp only[Tree.aY]
   by_cases e:c=b
   ·subst e
    rw[if_pos rfl] at hx ⊢
    cases hx
    refine .inl ⟨_,rfl, ?_,rfl,rfl,rfl,fun k v hk=>?_⟩
    ·simp; omega
    ·rw[nu hget]
     by_cases hin:o≤k∧k<o + vs.length
     ·rw[if_pos hin,if_pos (by omega)]
      rw[List.append_assoc,List.getElem?_append_right (by simp; omega),List.getElem?_append_left (by simp; omega)] at hk
      rw[← hk]; congr 1; simp; omega
     ·rw[if_neg hin]
      refine h5 k v ?_
      rw[← hk]
      by_cases hlt:k<o
      ·rw[List.append_assoc,List.getElem?_append_left (by simp; omega),List.getElem?_take,if_pos hlt]
      ·rw[List.getElem?_append_right (by simp; omega),List.getElem?_drop]
       congr 1; simp; omega
   ·rw[if_neg e] at hx ⊢
    rcases h.blk c x hx with⟨y,a,b⟩ | ⟨d,e',_⟩
    ·exact .inl ⟨y,a,b⟩
    ·exact .inr ⟨d,e',hx⟩
 ·cases e
theorem RM.Ag (h:rO P ρ M w A) {x:RB} {y:dU} (hx:vP x y) :
  (M.push x).base=M.base∧(A.push y).next=(M.push x).next ∧
   ∀ c z,(M.push x).heap c=some z→(∃ u,(A.push y).heap.get c=some u∧vP z u)∨∃ d,z=.ro d∧M.heap c=some z:=by
 refine⟨rfl,by simp[AW.push,RM.push,h.next],fun c z hz=>?_⟩
 simp only[RM.push] at hz
 simp only[AW.push,Tree.aY,h.next]
 by_cases e:c=M.next
 ·subst e
  rw[if_pos rfl] at hz ⊢
  cases hz
  exact .inl ⟨y,rfl,hx⟩
 ·rw[if_neg e] at hz ⊢
  rcases h.blk c z hz with⟨u,a,b⟩ | ⟨d,e',_⟩
  ·exact .inl ⟨u,a,b⟩
  ·exact .inr ⟨d,e',hz⟩
theorem bC.XV (h:bC P ρ M w) (x:RB) (y:dU) (hx:vP x y) : bC P ρ (M.push x) w:=by
 obtain⟨A,hA⟩:=h
 obtain⟨h1,h2,h3⟩:=RM.Ag hA hx
 refine⟨A.push y,h2,rP hA.rel y,hA.size,fun b z hz=>?_,hA.old⟩
 rcases h3 b z hz with k | ⟨d,rfl,k⟩
 ·exact .inl k
 ·rcases hA.blk b _ k with⟨u,_,hu⟩ | k2
  ·cases u <;> exact hu.elim
  ·exact .inr k2
end
abbrev N (k:IntKind) (n:Int) : AV:=.sc (.int k n)
abbrev Bo (b:Bool) : AV:=.sc (.bool b)
abbrev St (l:List UInt8) : AV:=.sc (.string ⟨⟨l⟩⟩)
def wE (op:BinOp) (k:IntKind) (a b:Int) : Option Value :=
 match op with
 | .add=>some (.int k (k.wrap (a + b)))
 | .sub=>some (.int k (k.wrap (a - b)))
 | .mul=>some (.int k (k.wrap (a * b)))
 | .quo=>if b=0 then none else some (.int k (k.wrap (a.tdiv b)))
 | .rem=>if b=0 then none else some (.int k (a.tmod b))
 | .and=>some (.int k (k.wrap (BitVec.ofInt k.bits a &&& BitVec.ofInt k.bits b).toNat))
 | .or=>some (.int k (k.wrap (BitVec.ofInt k.bits a ||| BitVec.ofInt k.bits b).toNat))
 | .xor=>some (.int k (k.wrap (BitVec.ofInt k.bits a ^^^ BitVec.ofInt k.bits b).toNat))
 | .andNot=>some (.int k (k.wrap (BitVec.ofInt k.bits a &&& ~~~BitVec.ofInt k.bits b).toNat))
 | .eql=>some (.bool (a == b))
 | .neq=>some (.bool (a != b))
 | .lss=>some (.bool (decide (a<b)))
 | .leq=>some (.bool (decide (a≤b)))
 | .gtr=>some (.bool (decide (a > b)))
 | .geq=>some (.bool (decide (a ≥ b)))
 | _=>none
def Jg (op:BinOp) (k:IntKind) (a b:Int) : Option Value :=
 if b<0 then none else
 match op with
 | .shl=>some (.int k (k.wrap (a * 2 ^ (min b.toNat k.bits))))
 | .shr=>some (.int k (a.fdiv (2 ^ (min b.toNat k.bits))))
 | _=>none
def af (op:BinOp) (x y:AV) (K:AV→Prop) : Prop:=∃ k a b v,x=N k a∧y=N k b∧wE op k a b=some v∧K (.sc v)
def iX (op:BinOp) (x y:AV) (K:AV→Prop) : Prop:=∃ k a l b v,x=N k a∧y=N l b∧Jg op k a b=some v∧K (.sc v)
def iN (op:BinOp) (x y:AV) (K:AV→Prop) : Prop:=∃ a b v,x=St a∧y=St b∧BO op a b=some v∧K v
def uL (neg:Bool) (x y:AV) (K:AV→Prop) : Prop:=∃ a b,x=Bo a∧y=Bo b∧K (Bo ((a == b) != neg))
def xS:AV→AV→Option Bool
 | .ptr b o,.ptr c p=>if b=c then some (decide (o=p)) else none
 | .ptr _ _,.sc (.pointer none)=>some false
 | .sc (.pointer none),.ptr _ _=>some false
 | .sc (.pointer none),.sc (.pointer none)=>some true
 | .slc _ _ _ _,.sc (.slice none 0 0)=>some false
 | .emp _,.sc (.slice none 0 0)=>some false
 | .sc (.slice none 0 0),.sc (.slice none 0 0)=>some true
 | .map _,.sc (.map none)=>some false
 | .sc (.map none),.sc (.map none)=>some true
 | .fn _ _ _,.sc .nilFunc=>some false
 | .sc .nilFunc,.sc .nilFunc=>some true
 | .ifc _ _,.sc .nilIface=>some false
 | _,_=>none
def Al (P:Program) (t:TypeId) : Nat :=
 match P.underlying t with
 | some (.pointer el)=>match aZ P el with | some (_ + 1)=>1 | _=>0
 | some (.slice _)=>2
 | some (.map _ _)=>3
 | some (.func _ _ _)=>4
 | some (.interface _)=>5
 | _=>0
def L9:AV→Nat
 | .ptr _ _ | .sc (.pointer none)=>1
 | .slc _ _ _ _ | .emp _ | .sc (.slice none 0 0)=>2
 | .map _ | .sc (.map none)=>3
 | .fn _ _ _ | .sc .nilFunc=>4
 | .ifc _ _=>5
 | _=>6
def fU (neg:Bool) (tag:Nat) (x y:AV) (K:AV→Prop) : Prop:=L9 x=tag∧∃ r,xS x y=some r∧K (Bo (r != neg))
def Z4 (neg:Bool) (x y:AV) (K:AV→Prop) : Prop:=fU neg 5 x y K∨(x=.sc .nilIface∧y=.sc .nilIface∧K (Bo (!neg)))
def isC:Operand→Bool
 | .const _=>true
 | _=>false
def Jf (neg:Bool) (tag:Nat) (y:Operand) (x u:AV) (K:AV→Prop) : Prop:=match Nat.beq tag 5 && isC y with
 | true=>Z4 neg x u K
 | false=>fU neg tag x u K
def wG (P:Program) (g:TypeId→Option (List Nat)) : List Field→Nat→Option (List Nat)
 | [],_=>some []
 | f :: fs,off=>match f.name == "_",Nat.beq f.offset off,g f.type,aZ P f.type with
   | false,true,some ks,some n=>match Nat.beq n ks.length,wG P g fs (off + n) with
     | true,some r=>some (ks++r)
     | _,_=>none
   | _,_,_,_=>none
def ja (P:Program) : Nat→TypeId→Option (List Nat)
 | 0,_=>none
 | d + 1,t=>match P.underlying t with
   | some (.int _)=>some [1]
   | some .string=>some [2]
   | some .bool=>some [3]
   | some (.struct fs)=>match P.stoodInHeld t with
     | true=>none
     | false=>wG P (ja P d) fs.toList 0
   | _=>none
def Td (P:Program) (t:TypeId) : Option (List Nat) :=
 match P.eqGuardType P.depth t with
 | true=>none
 | false=>ja P 10 t
def pV:Nat→AV→AV→Option Bool
 | 1,.sc (.int k a),.sc (.int l b)=>if k=l then some (a == b) else none
 | 2,.sc (.string a),.sc (.string b)=>some (a.data.toList == b.data.toList)
 | 3,.sc (.bool a),.sc (.bool b)=>some (a == b)
 | _,_,_=>none
def dJ:List Nat→List AV→List AV→Option Bool
 | [],[],[]=>some true
 | k :: ks,x :: xs,y :: ys=>match pV k x y with
   | some true=>dJ ks xs ys
   | some false=>some false
   | none=>none
 | _,_,_=>none
def Ep (neg:Bool) (ks:List Nat) (x y:AV) (K:AV→Prop) : Prop:=∃ cs ds r,x=.agg cs∧y=.agg ds∧cs.length=ks.length∧ds.length=ks.length∧dJ ks cs ds=some r∧K (Bo (r != neg))
def aV (c a b:AV) (K:AV→Prop) : Prop:=∃ t,c=Bo t∧K (if t then a else b)
def fF (x:AV) (K:AV→Prop) : Prop:=∃ b o,x=.ptr b o∧K (.ptr b o)
def bT (x:AV) (n:Nat) (K:AV→Prop) : Prop:=∃ b o,x=.ptr b o∧K (.ptr b (o + n))
def aI (x i:AV) (size:Nat) (K:AV→Prop) : Prop:=∃ b p len cap k n,x=.slc b p len cap∧i=N k n∧0≤n∧n<len∧K (.ptr b (p + n.toNat * size))
def bN (x i:AV) (len size:Nat) (K:AV→Prop) : Prop:=∃ b p k n,x=.ptr b p∧i=N k n∧0≤n∧n<len∧K (.ptr b (p + n.toNat * size))
def QX (x:AV) (off:Nat) (K:AV→Prop) : Prop:=∃ cs v,x=.agg cs∧cs[off]?=some v∧K v
def Sz (x:AV) (off n:Nat) (K:AV→Prop) : Prop:=∃ cs,x=.agg cs∧off + n≤cs.length∧K (.agg ((cs.drop off).take n))
def Jn (x i:AV) (len:Nat) (K:AV→Prop) : Prop:=∃ cs k n v,x=.agg cs∧i=N k n∧0≤n∧n<len∧cs[n.toNat]?=some v∧K v
def Tg (x i:AV) (len size:Nat) (K:AV→Prop) : Prop:=∃ cs k n,x=.agg cs∧i=N k n∧0≤n∧n<len∧n.toNat * size + size≤cs.length∧K (.agg ((cs.drop (n.toNat * size)).take size))
def nM (x i:AV) (K:AV→Prop) : Prop:=∃ s k n b,x=St s∧i=N k n∧0≤n∧s[n.toNat]?=some b∧K (N .u8 b.toNat)
def bB (x:AV) (i:Nat) (K:AV→Prop) : Prop:=∃ vs v,x=.tup vs∧vs[i]?=some v∧K v
def bnd (d:Nat) : Option AV→Option Nat
 | none=>some d
 | some (.sc (.int _ n))=>if 0≤n then some n.toNat else none
 | _=>none
def bK (size:Nat) (x:AV) (lo hi mx:Option AV) : Option AV :=
 match x with
 | .slc b o len cap =>
   match bnd 0 lo,bnd len hi with
   | some l,some h =>
     match mx with
     | none=>match cap with
       | .ex c=>if l≤h∧h≤c then(if c=l then some (.slc b o 0 (.ex 0)) else some (.slc b (o + l * size) (h - l) (.ex (c - l)))) else none
       | .op esz=>if l≤h∧h≤len∧size=esz then(if len≤l then some (.emp b) else some (.slc b (o + l * size) (h - l) (.op esz))) else none
     | some y=>match hi,bnd 0 (some y) with
       | some _,some m=>if l≤h∧h≤m∧m≤(match cap with | .ex c=>c | .op _=>len) then(if m=l then some (.slc b o 0 (.ex 0)) else some (.slc b (o + l * size) (h - l) (.ex (m - l)))) else none
       | _,_=>none
   | _,_=>none
 | .emp b=>match bnd 0 lo,bnd 0 hi,mx with
   | some 0,some 0,none=>some (.emp b)
   | _,_,_=>none
 | .sc (.slice none 0 0)=>match bnd 0 lo,bnd 0 hi,mx with
   | some 0,some 0,none=>some x
   | some 0,some 0,some y=>match hi,bnd 0 (some y) with
     | some _,some 0=>some x
     | _,_=>none
   | _,_,_=>none
 | _=>none
def BI (n size:Nat) (x:AV) (lo hi:Option AV) : Option AV :=
 match x with
 | .ptr b o=>match bnd 0 lo,bnd n hi with
   | some l,some h=>if l≤h∧h≤n then(if n=l then some (.slc b o 0 (.ex 0)) else some (.slc b (o + l * size) (h - l) (.ex (n - l)))) else none
   | _,_=>none
 | _=>none
def UR (x:AV) (lo hi:Option AV) : Option AV :=
 match x with
 | .sc (.string s)=>match bnd 0 lo,bnd s.data.toList.length hi with
   | some l,some h=>if l≤h∧h≤s.data.toList.length then some (St ((s.data.toList.drop l).take (h - l))) else none
   | _,_=>none
 | _=>none
def gQ (r:Option AV) (K:AV→Prop) : Prop:=∃ v,r=some v∧K v
def lm:List AV→List (Nat × Nat × AV)→Option (List AV)
 | cs,[]=>some cs
 | cs,(off,size,v) :: rest=>if known v=true∧v.cells.length=size∧off + size≤cs.length then lm (cs.take off++v.cells++cs.drop (off + size)) rest else none
def jG (cs:List AV) (parts:List (Nat × Nat × AV)) (K:AV→Prop) : Prop:=∃ cs',lm cs parts=some cs'∧K (.agg cs')
def eD (k:IntKind) (x:AV) (K:AV→Prop) : Prop:=∃ l n,x=N l n∧K (N k (k.wrap n))
def isStr (x:AV) (K:AV→Prop) : Prop:=∃ s,x=St s∧K (St s)
def QT (x:AV) (K:AV→Prop) : Prop:=∃ l n,x=N l n∧K (St (Utf8.encode n).data.toList)
def abk (M:RM) (x:AV) (K:AV→Prop) : Prop:=∃ b p l opn el fz,x=.ptr b p∧M.heap b=some (.row l opn el fz)∧p + 1≤l.length∧K (.ptr b p)
def aby (el cells:Nat) (M:RM) (x:AV) (K:AV→Prop) : Prop:=∃ b l opn fz,x=.ptr b 0∧M.heap b=some (.row l opn el fz)∧l.length=cells∧K (.ptr b 0)
def Uh (x:AV) (K:AV→Prop) : Prop :=
 match x with
 | .sc (.slice none 0 0)=>K (.sc (.pointer none))
 | .slc b p _ (.ex (_ + 1))=>K (.ptr b p)
 | .slc b p (_ + 1) (.op _)=>K (.ptr b p)
 | _=>False
def XQ:AV→Option Nat
 | .slc _ _ n _=>some n
 | .emp _=>some 0
 | .sc (.slice none 0 0)=>some 0
 | _=>none
def aU (x:AV) (K:AV→Prop) : Prop:=∃ n:Nat,XQ x=some n∧K (N .i64 n)
def vO (x:AV) (K:AV→Prop) : Prop:=∃ s,x=St s∧K (N .i64 s.length)
def OG (x:AV) (K:AV→Prop) : Prop:=∃ n,(match x with | .slc _ _ _ (.ex c)=>some c | .sc (.slice none 0 0)=>some 0 | _=>none)=some n∧K (N .i64 (n:Nat))
def Gj (mx:Bool) (x y:AV) (K:AV→Prop) : Prop:=∃ k a b,x=N k a∧y=N k b∧K (N k (if mx then(if b > a then b else a) else(if b<a then b else a)))
def ji (x:AV) (K:AV→Prop) : Prop:=∃ b,x=Bo b∧K (Bo (!b))
def DR (x:AV) (K:AV→Prop) : Prop:=∃ k n,x=N k n∧K (N k (k.wrap (BitVec.ofInt k.bits (if k.signed then -1 else k.max) ^^^ BitVec.ofInt k.bits n).toNat))
def QP (x:AV) (K:AV→Prop) : Prop:=∃ k n,x=N k n∧K (N k (k.wrap (0 - n)))
def Oo (n:Nat) (x:AV) (K:AV→Prop) : Prop:=∃ b p len cap,x=.slc b p len cap∧n≤len∧K (.ptr b p)
def ag (M:RM) (x:AV) (K:AV→Prop) : Prop:=∃ b o v,x=.ptr b o∧M.loads b o 1=some [v]∧K v
def dE (M:RM) (x:AV) (n:Nat) (K:AV→Prop) : Prop:=∃ b o vs,x=.ptr b o∧M.loads b o n=some vs∧K (.agg vs)
def Bu (M:RM) (x:AV) : Option (List UInt8) :=
 match x with
 | .slc b p len _=>match M.loads b p len with
   | some vs=>di byteOf vs
   | none=>none
 | .emp _=>some []
 | .sc (.slice none 0 0)=>some []
 | _=>none
def iC (M:RM) (x:AV) (K:AV→Prop) : Prop:=∃ s,Bu M x=some s∧K (St s)
def OT (M:RM) (x:AV) (K:AV→Prop) : Prop:=∃ b m since seen es cl n e,x=.ptr b 0∧M.heap b=some (.iter (some m) since (seen++[n]) cl)∧M.heap m=some (.map es cl)∧es.find? (fun e=>e.2.2 == n)=some e∧K (.tup [e.1,e.2.1])
def YA (t:TypeId) (ok:Bool) (x:AV) (K:AV→Prop) : Prop:=∃ v,x=.ifc t v∧K (if ok then .tup [v,Bo true] else v)
def YO (M:RM) (x:AV) (K:AV→Prop) : Prop:=∃ b es c,x=.map b∧M.heap b=some (.map es c)∧K (N .i64 es.length)
def fJ:Bool→AV→Option (List AV)
 | true,.agg cs=>some cs
 | true,_=>none
 | false,v=>some [v]
def jO (a:Bool) (ks:List Nat) (k:List AV) : List (AV × AV × Nat)→Nat→Option (Option (Nat × AV))
 | [],_=>some none
 | (ka,va,_) :: es,i=>match fJ a ka with
   | some cs=>if cs.length=ks.length then match dJ ks k cs with
     | some true=>some (some (i,va))
     | some false=>jO a ks k es (i + 1)
     | none=>none
     else none
   | none=>none
def jf (a:Bool) (ks:List Nat) (z:AV) (ok:Bool) (M:RM) (x k:AV) (K:AV→Prop) : Prop :=
 ∃ b es c kc r,x=.map b∧M.heap b=some (.map es c)∧fJ a k=some kc∧kc.length=ks.length∧jO a ks kc es 0=some r∧K (match r with | some (_,va)=>iI va true ok | none=>iI z false ok)
def XD (P:Program) (t:TypeId) : Option AV :=
 match bq P (zeroValue t) with
 | some z=>iQ z
 | none=>none
def Sr (P:Program) (o:Oper) (e:Operand→AV) (K:AV→Prop) : Prop:=∃ v,aH P o e=some v∧K v
def dR (P:Program) (o:Oper) (e:Operand→AV) (M:RM) (K:AV→Prop) : Prop :=
 match o.op with
 | .move x | .assign x=>K (e x)
 | .pick c a b=>aV (e c) (e a) (e b) K
 | .nilCheck x=>fF (e x) K
 | .fieldAddr s x f=>match P.underlying s with
   | some (.struct fields)=>match fields[f]? with
     | some fd=>match aZ P fd.type with
       | some (_ + 1)=>bT (e x) fd.offset K
       | _=>False
     | none=>False
   | _=>False
 | .indexAddr t x ix=>match P.underlying t with
   | some (.slice elem)=>match aZ P elem with
     | some size=>aI (e x) (e ix) size K
     | none=>False
   | some (.array len elem)=>match aZ P elem with
     | some size=>bN (e x) (e ix) len size K
     | none=>False
   | _=>False
 | .field t x f=>match P.underlying t with
   | some (.struct fields)=>match fields[f]? with
     | some fd=>match dm P fd.type with
       | some false=>QX (e x) fd.offset K
       | some true=>match aZ P fd.type with
         | some n=>Sz (e x) fd.offset n K
         | none=>False
       | none=>False
     | none=>False
   | _=>False
 | .index t x ix=>match P.underlying t with
   | some .string=>nM (e x) (e ix) K
   | some (.array len elem)=>match dm P elem with
     | some false=>match aZ P elem with
       | some 1=>Jn (e x) (e ix) len K
       | _=>False
     | some true=>match aZ P elem with
       | some n=>Tg (e x) (e ix) len n K
       | none=>False
     | none=>False
   | _=>False
 | .slice t x lo hi mx=>match P.underlying t with
   | some .string=>match mx with
     | none=>gQ (UR (e x) (lo.map e) (hi.map e)) K
     | some _=>False
   | some (.slice elem)=>match aZ P elem with
     | some size=>gQ (bK size (e x) (lo.map e) (hi.map e) (mx.map e)) K
     | none=>False
   | some (.array n elem)=>match aZ P elem,mx with
     | some size,none=>gQ (BI n size (e x) (lo.map e) (hi.map e)) K
     | _,_=>False
   | _=>False
 | .sliceToArrayPointer arr x=>match P.underlying arr with
   | some (.array n _)=>Oo n (e x) K
   | _=>False
 | .extract x i=>bB (e x) i K
 | .makeInterface t x=>match P.underlying t with
   | some (.interface _)=>False
   | some _=>K (.ifc t (e x))
   | none=>False
 | .makeFunc f first captured=>match f with
   | .yield _=>False
   | _=>K (.fn f (first.toList.map e) (captured.toList.map e))
 | .build t parts=>match P.info? t,P.underlying t with
   | some it,some (.array _ el)=>match it.zero,P.info? el with
     | some z,some ie=>match iQ z with
       | some (.agg cs)=>jG cs (parts.toList.map fun p=>(p.1 * ie.size,ie.size,e p.2)) K
       | _=>False
     | _,_=>False
   | some it,some (.struct fields)=>match it.zero,fields.toList.mapM (fun f=>(P.info? f.type).map fun i=>(f.offset,i.size)) with
     | some z,some places=>match iQ z,di (fun(p:Nat × Operand)=>match nth places p.1 with | some pl=>some (pl.1,pl.2,e p.2) | none=>none) parts.toList with
       | some (.agg cs),some ps=>jG cs ps K
       | _,_=>False
     | _,_=>False
   | _,_=>False
 | .binOp op t x y _=>match P.underlying t with
   | some (.int _)=>match op with
     | .shl | .shr=>iX op (e x) (e y) K
     | _=>af op (e x) (e y) K
   | some .string=>iN op (e x) (e y) K
   | some .bool=>match op with
     | .eql=>uL false (e x) (e y) K
     | .neq=>uL true (e x) (e y) K
     | _=>False
   | some (.struct _)=>match Td P t,op with
     | some ks,.eql=>Ep false ks (e x) (e y) K
     | some ks,.neq=>Ep true ks (e x) (e y) K
     | _,_=>False
   | some (.array _ _)=>Sr P o e K
   | _=>match op,Al P t with
     | _,0=>Sr P o e K
     | .eql,tag=>Jf false tag y (e x) (e y) K
     | .neq,tag=>Jf true tag y (e x) (e y) K
     | _,_=>False
 | .convert src dst x=>match P.underlying src,P.underlying dst with
   | some (.int _),some (.int k)=>eD k (e x) K
   | some .string,some .string=>isStr (e x) K
   | some (.int _),some .string=>QT (e x) K
   | some (.slice el),some .string=>match P.underlying el with
     | some (.int .u8)=>iC M (e x) K
     | _=>False
   | some (.pointer t),some .unsafePointer=>match aZ P t with
     | some (_ + 1)=>abk M (e x) K
     | _=>False
   | some .unsafePointer,some (.pointer u)=>match aZ P u,Nat.ble 1 (P.cellsOf u),liesAt P P.depth u 1 0 u 1 with
     | some (_ + 1),true,true=>aby u (P.cellsOf u) M (e x) K
     | _,_,_=>False
   | _,_=>Sr P o e K
 | .call { callee:=.builtin .len,args,argTypes } => match argTypes[0]?,args[0]? with
   | some t,some x=>match P.underlying t with
     | some (.slice _)=>aU (e x) K
     | some .string=>vO (e x) K
     | some (.map _ _)=>YO M (e x) K
     | _=>False
   | _,_=>False
 | .call { callee:=.builtin .cap,args,argTypes } => match argTypes[0]?,args[0]? with
   | some t,some x=>match P.underlying t with
     | some (.slice _)=>OG (e x) K
     | _=>False
   | _,_=>False
 | .call { callee:=.builtin .unsafeSliceData,args,.. } => match args with
   | ⟨[x]⟩=>Uh (e x) K
   | _=>False
 | .call { callee:=.builtin .min,args,.. } => match args with
   | ⟨[x,y]⟩=>Gj false (e x) (e y) K
   | _=>False
 | .call { callee:=.builtin .max,args,.. } => match args with
   | ⟨[x,y]⟩=>Gj true (e x) (e y) K
   | _=>False
 | .unOp op _ x=>match op with
   | .not=>ji (e x) K
   | .neg=>QP (e x) K
   | .xor=>DR (e x) K
   | _=>Sr P o e K
 | .lookup t x k ok=>match P.underlying t with
   | some (.map kt et)=>match ja P 10 kt,dm P kt,XD P et with
     | some ks,some a,some z=>jf a ks z ok M (e x) (e k) K
     | _,_,_=>False
   | _=>False
 | .entry it=>OT M (e it) K
 | .typeAssert x _ t ok=>match P.underlying t with
   | some (.interface _)=>False
   | some _=>YA t ok (e x) K
   | none=>False
 | .load t x=>match dm P t with
   | some false=>ag M (e x) K
   | some true=>match aZ P t with
     | some n=>dE M (e x) n K
     | none=>False
   | none=>False
 | _=>False
section
variable {P:Program} {ρ:Ren} {o:Oper} {e:Operand→AV} {c:Operand→Value} {M:RM} {K:AV→Prop}
def RM.Sub (M M' : RM) : Prop:=M'.base=M.base∧∀ b x,M.heap b=some x→M'.heap b=some x
theorem RM.Sub.refl (M:RM) : M.Sub M:=⟨rfl,fun _ _ h=>h⟩
theorem RM.Sub.trans {M M1 M2:RM} (h:M.Sub M1) (k:M1.Sub M2) : M.Sub M2:=⟨k.1.trans h.1,fun b x hx=>k.2 b x (h.2 b x hx)⟩
theorem RM.Sub.loads {M M' : RM} (h:M.Sub M') {b o k:Nat} {xs:List AV} (hl:M.loads b o k=some xs) : M'.loads b o k=some xs:=by
 unfold RM.loads RM.cells at hl ⊢
 cases hh:M.heap b with
 | none=>simp[hh] at hl
 | some x =>
   rw[hh] at hl
   have hlo:M'.lo=M.lo:=congrArg Base.n h.1
   rw[h.2 b x hh,hlo]
   exact hl
def jR (P:Program) (o:Oper) (e:Operand→AV) (M:RM) (v:AV) : Prop :=
 ∀ ρ w c M',M.Sub M'→bC P ρ M' w→(∀ x∈o.op.operands,aj ρ (e x) (c x))→Kb P ρ w o c v
theorem aK {v:AV} (h:aH P o e=some v) : (∀ M',jR P o e M' v)∨(kindOf P o=.read∧jR P o e M v):=.inl fun _ _ w _ _ _ _ he=>(jD he h).at
theorem bG {α β:Type} : ∀ (s:Sem α) (f:α→Sem β) (a:α),bq P s=some a→bq P (s >>= f)=bq P (f a)
 | .pure b,f,a,h=>by simp[bq] at h; subst h; rfl
 | .program k,f,a,h=>by
   simp only[bq] at h
   exact bG (k P) f a h
 | .mark m k,f,a,h=>by
   simp only[bq] at h
   exact bG k f a h
 | .load ..,_,a,h | .store ..,_,a,h | .new ..,_,a,h | .shape ..,_,a,h | .freeze ..,_,a,h | .frozen ..,_,a,h | .getObj ..,_,a,h
 | .setObj ..,_,a,h | .choose ..,_,a,h | .sys ..,_,a,h | .halt ..,_,a,h=>by simp[bq] at h
theorem lu {u:Value} {v:AV} {l:List Value} (hl:di (fun x=>dI (e x)) o.op.operands.toList=some l)
  (h:bq P (execOp (fun x=>(dI (e x)).getD default) o)=some (.value u)) (hv:iQ u=some v) : jl P o e=some v:=by
 unfold jl; rw[hl]; simp only[h,hv]
theorem kZ {op:BinOp} {t yt:TypeId} {x y:Operand} {a b u:Value} (hop:o.op=.binOp op t x y yt) (hx:dI (e x)=some a) (hy:dI (e y)=some b)
  (hg:bq P (eqGuard op t x y a b)=some ()) (hb:bq P (binOp op t a b)=some u) {v:AV} (hv:iQ u=some v) : jl P o e=some v:=by
 refine lu (l:=[a,b]) (by rw[hop]; simp[Op.operands,di,hx,hy]) (u:=u) ?_ hv
 simp only[execOp,hop,hx,hy,Option.getD_some]
 have h1:bq P (do eqGuard op t x y a b; binOp op t a b)=some u:=by rw[bG _ _ () hg]; exact hb
 exact(bG _ _ _ h1)
theorem Gb {op:BinOp} {t:TypeId} {x y:Operand} {k l:IntKind} {a b:Int} : bq P (eqGuard op t x y (.int k a) (.int l b))=some ():=by
 cases op <;> rfl
theorem Eo {op:BinOp} {t:TypeId} {x y:Operand} {a b:Bool} : bq P (eqGuard op t x y (.bool a) (.bool b))=some ():=by
 cases op <;> rfl
theorem X3 {op:BinOp} {t yt:TypeId} {x y:Operand} {k:IntKind} {a b:Int} {u:Value} (hop:o.op=.binOp op t x y yt) (hx:e x=N k a) (hy:e y=N k b) (h:wE op k a b=some u) :
  aH P o e=some (.sc u):=by
 have hb:bq P (binOp op t (.int k a) (.int k b))=some u:=by
  cases op <;> simp only[wE] at h <;> first | (cases h; done) | skip
  case quo=>split at h <;> first | (cases h; done) | skip
            rename_i h0; cases h; simp[binOp,Op.intDiv,h0]; rfl
  case rem=>split at h <;> first | (cases h; done) | skip
            rename_i h0; cases h; simp[binOp,Op.intDiv,h0]; rfl
  all_goals (cases h; simp[binOp,Op.intArith,Op.intBits,Op.intCmp]; rfl)
 have hv:iQ u=some (.sc u):=by
  cases op <;> simp only[wE] at h <;> first | (cases h; done) | (cases h; rfl) | (split at h <;> first | (cases h; done) | (cases h; rfl))
 unfold aH
 simp only[hop,hx,hy]
 exact kZ hop (a:=.int k a) (b:=.int k b) (by rw[hx]; rfl) (by rw[hy]; rfl) Gb hb hv
theorem Ve {op:BinOp} {t yt:TypeId} {x y:Operand} {k l:IntKind} {a b:Int} {u:Value} (hop:o.op=.binOp op t x y yt) (hx:e x=N k a) (hy:e y=N l b) (h:Jg op k a b=some u) :
  aH P o e=some (.sc u):=by
 unfold Jg at h
 split at h <;> first | (cases h; done) | skip
 rename_i h0
 have hb:bq P (binOp op t (.int k a) (.int l b))=some u:=by
  split at h <;> first | (cases h; done) | skip
  all_goals (cases h; simp[binOp,Op.shift,h0]; rfl)
 have hv:iQ u=some (.sc u):=by
  split at h <;> first | (cases h; done) | (cases h; rfl)
 unfold aH
 simp only[hop,hx,hy]
 exact kZ hop (a:=.int k a) (b:=.int l b) (by rw[hx]; rfl) (by rw[hy]; rfl) Gb hb hv
theorem dZ {t:TypeId} {d:TypeDesc} (h:P.underlying t=some d) : bq P (underlying t)=some d:=by
 have e:underlying t=.program (fun p=>match p.underlying t with | some d=>Sem.pure d | none=>stuck "no such type"):=rfl
 rw[e]
 simp only[bq,h]
theorem IJ {op:BinOp} {t yt:TypeId} {x y:Operand} {a b neg:Bool} (hop:o.op=.binOp op t x y yt) (hx:e x=Bo a) (hy:e y=Bo b) (ht:P.underlying t=some .bool) (h:(op=.eql∧neg=false)∨(op=.neq∧neg=true)) :
  aH P o e=some (Bo ((a == b) != neg)):=by
 have h1:bq P (Op.equal t (.bool a) (.bool b))=some (a == b):=by
  have h0:bq P (underlying t)=some .bool:=dZ ht
  show bq P (Op.equalIn (9999 + 1) t (.bool a) (.bool b))=_
  rw[Op.equalIn,bG _ _ _ h0]
  rfl
 rcases h with⟨rfl,rfl⟩ | ⟨rfl,rfl⟩
 ·have hb:bq P (binOp .eql t (.bool a) (.bool b))=some (.bool (a == b)):=bG _ _ _ h1
  have:=kZ (P:=P) (e:=e) hop (a:=.bool a) (b:=.bool b) (by rw[hx]; rfl) (by rw[hy]; rfl) Eo hb (v:=Bo (a == b)) rfl
  unfold aH
  simp only[hop,hx,hy]
  simp only[mg]
  simpa using this
 ·have hb:bq P (binOp .neq t (.bool a) (.bool b))=some (.bool (!(a == b))):=bG _ _ _ h1
  have:=kZ (P:=P) (e:=e) hop (a:=.bool a) (b:=.bool b) (by rw[hx]; rfl) (by rw[hy]; rfl) Eo hb (v:=Bo (!(a == b))) rfl
  unfold aH
  simp only[hop,hx,hy]
  simp only[mg]
  simpa using this
theorem qO {k:IntKind} {n:Int} (h:0≤n) : gz (N k n)=some n.toNat:=by
 cases n with
 | ofNat m=>rfl
 | negSucc m=>omega
theorem Yl {op:BinOp} {t yt:TypeId} {x y:Operand} {neg r:Bool} {tag:Nat} (hop:o.op=.binOp op t x y yt) (yZ:(op=.eql∧neg=false)∨(op=.neq∧neg=true)) (htag:Al P t=tag) (h0:tag≠0) (ht:L9 (e x)=tag)
  (h:xS (e x) (e y)=some r) : aH P o e=some (Bo (r != neg)):=by
 have key:(mg P t (e x) (e y)=some r∨(mg P t (e x) (e y)=none∧jl P o e=some (Bo (r != neg))))→(∀ k a,e x≠N k a)→(∀ s,e x≠.sc (.string s))→aH P o e=some (Bo (r != neg)):=by
  intro hk hn hs
  unfold aH
  simp only[hop]
  split
  ·rename_i k _ _ _ he _; exact absurd he (hn _ _)
  ·rename_i he _; exact absurd he (hs _)
  ·rename_i he _; exact absurd he (hn _ _)
  ·rcases yZ with⟨rfl,rfl⟩ | ⟨rfl,rfl⟩
   ·rcases hk with hk | ⟨hk,hg⟩
    ·simp only[hk]; cases r <;> rfl
    ·simp only[hk]; exact hg
   ·rcases hk with hk | ⟨hk,hg⟩
    ·simp only[hk]; cases r <;> rfl
    ·simp only[hk]; exact hg
 have gen:∀ (a b:Value),e x=.sc a→e y=.sc b→dI (.sc a)=some a→dI (.sc b)=some b→(∀ op',bq P (eqGuard op' t x y a b)=some ())→bq P (Op.equal t a b)=some r →
   (binOp .eql t a b=(do pure (.bool (← Op.equal t a b))))→(binOp .neq t a b=(do pure (.bool (!(← Op.equal t a b)))))→jl P o e=some (Bo (r != neg)):=by
  intro a b hx hy ha hb hg heq h1 h2
  rcases yZ with⟨rfl,rfl⟩ | ⟨rfl,rfl⟩
  ·exact kZ (P:=P) (e:=e) hop (a:=a) (b:=b) (by rw[hx]; exact ha) (by rw[hy]; exact hb) (hg _) (u:=.bool r) (by rw[h1]; exact bG _ _ _ heq) (by cases r <;> rfl)
  ·exact kZ (P:=P) (e:=e) hop (a:=a) (b:=b) (by rw[hx]; exact ha) (by rw[hy]; exact hb) (hg _) (u:=.bool (!r)) (by rw[h2]; exact bG _ _ _ heq) (by cases r <;> rfl)
 have acx:∀ d,P.underlying t=some d→bq P (underlying t)=some d:=fun d hd=>dZ hd
 unfold Al at htag
 generalize hex:e x=ex at h ht key gen
 generalize hey:e y=ey at h key gen
 unfold xS at h
 split at h <;> first | (cases h; done) | skip
 all_goals first | (split at h <;> first | (cases h; done) | skip) | skip
 all_goals
  cases h
  simp only[L9] at ht
  subst ht
  split at htag <;> first | (cases htag; done) | (split at htag <;> cases htag; done) | skip
 all_goals
  first
   | (rename_i hu
      refine key (.inl ?_) (by intro k a h; cases h) (by intro s h; cases h)
      simp only[mg,hu]
      done)
   | (rename_i hu
      refine key (.inr ⟨rfl, ?_⟩) (by intro k a h; cases h) (by intro s h; cases h)
      refine gen _ _ rfl rfl rfl rfl (fun op'=>by cases op' <;> rfl) ?_ rfl rfl
      show bq P (Op.equalIn (9999 + 1) t _ _)=_
      rw[Op.equalIn,bG _ _ _ (acx _ hu)]
      rfl
      done)
   | skip
 ·rename_i heq _ el hu
  split at htag <;> first | (cases htag; done) | skip
  rename_i n hs
  refine key (.inl ?_) (by intro k a h; cases h) (by intro s h; cases h)
  subst heq
  simp only[mg,hu,hs,Fu,decide_true]
theorem YV {op:BinOp} {t yt:TypeId} {x y:Operand} {neg:Bool} (hop:o.op=.binOp op t x y yt) (yZ:(op=.eql∧neg=false)∨(op=.neq∧neg=true)) (htag:Al P t=5) (hc:isC y=true) (hx:e x=.sc .nilIface)
  (hy:e y=.sc .nilIface) : aH P o e=some (Bo (!neg)):=by
 obtain⟨v,rfl⟩ : ∃ v,y=.const v:=by cases y <;> first | exact⟨_,rfl⟩ | cases hc
 have hg:∀ op',bq P (eqGuard op' t x (.const v) .nilIface .nilIface)=some ():=by intro op'; cases op' <;> cases x <;> rfl
 have hu:∃ ms,P.underlying t=some (.interface ms):=by
  unfold Al at htag
  split at htag <;> first | (split at htag <;> cases htag; done) | (cases htag; done) | skip
  rename_i ms hu
  exact⟨ms,hu⟩
 obtain⟨ms,hu⟩:=hu
 have heq:bq P (Op.equal t .nilIface .nilIface)=some true:=by
  show bq P (Op.equalIn (9999 + 1) t _ _)=_
  rw[Op.equalIn,bG _ _ _ (dZ hu)]
  rfl
 have gen:jl P o e=some (Bo (!neg)):=by
  rcases yZ with⟨rfl,rfl⟩ | ⟨rfl,rfl⟩
  ·exact kZ (P:=P) (e:=e) hop (a:=.nilIface) (b:=.nilIface) (by rw[hx]; rfl) (by rw[hy]; rfl) (hg _) (u:=.bool true) (by
    have e1:binOp .eql t .nilIface .nilIface=(do pure (Value.bool (← Op.equal t .nilIface .nilIface))):=rfl
    rw[e1]
    exact bG _ _ _ heq) rfl
  ·exact kZ (P:=P) (e:=e) hop (a:=.nilIface) (b:=.nilIface) (by rw[hx]; rfl) (by rw[hy]; rfl) (hg _) (u:=.bool false) (by
    have e1:binOp .neq t .nilIface .nilIface=(do pure (Value.bool (!(← Op.equal t .nilIface .nilIface)))):=rfl
    rw[e1]
    exact bG _ _ _ heq) rfl
 unfold aH
 simp only[hop,hx,hy]
 rcases yZ with⟨rfl,rfl⟩ | ⟨rfl,rfl⟩
 ·simp only[mg]; exact gen
 ·simp only[mg]; exact gen
theorem KL {op:BinOp} {t yt:TypeId} {x y:Operand} {neg:Bool} {tag:Nat} {K:AV→Prop} (hop:o.op=.binOp op t x y yt) (yZ:(op=.eql∧neg=false)∨(op=.neq∧neg=true)) (htag:Al P t=tag) (h0:tag≠0)
  (h:Jf neg tag y (e x) (e y) K) : ∃ r,aH P o e=some r∧K r:=by
 have old:fU neg tag (e x) (e y) K→∃ r,aH P o e=some r∧K r:=fun⟨ht,r,hr,hk⟩=>⟨_,Yl hop yZ htag h0 ht hr,hk⟩
 unfold Jf at h
 split at h
 ·rename_i hc
  rw[Bool.and_eq_true] at hc
  have h5:tag=5:=Nat.eq_of_beq_eq_true hc.1
  subst h5
  rcases h with h | ⟨hx,hy,hk⟩
  ·exact old h
  ·exact⟨_,YV hop yZ htag hc.2 hx hy,hk⟩
 ·exact old h
end
section
variable {P:Program} {ρ:Ren} {o:Oper} {e:Operand→AV} {c:Operand→Value} {M:RM} {K:AV→Prop}
theorem pg (d:Nat) (x:Option Operand) : iH e d x=bnd d (x.map e):=by
 cases x with
 | none=>rfl
 | some x =>
   simp only[iH,Option.map_some]
   generalize e x=y
   cases y <;> try rfl
   rename_i v
   cases v <;> try rfl
   rename_i k n
   cases n with
   | ofNat n=>simp[gz,bnd]
   | negSucc n=>simp only[gz,bnd]; rw[if_neg (by omega)]
theorem Uy {a b:Nat} (h:¬ a≤b) : Nat.ble a b=false:=by
 rcases hb:Nat.ble a b
 ·rfl
 ·exact absurd (aW hb) h
theorem nS {a b:Nat} (h:a=b) : Nat.beq a b=true:=by subst h; simp
theorem CV {a b:Nat} (h:¬ a=b) : Nat.beq a b=false:=by rw[Fu]; simp[h]
theorem Va (d:Nat) (x:Operand) : gz (e x)=bnd d (some (e x)):=pg d (some x)
theorem QU {t elem:TypeId} {x:Operand} {lo hi mx:Option Operand} {size:Nat} {v:AV} (hu:P.underlying t=some (.slice elem)) (hs:aZ P elem=some size)
  (h:bK size (e x) (lo.map e) (hi.map e) (mx.map e)=some v) : qW P e t x lo hi mx=some v:=by
 unfold qW
 unfold bK at h
 split at h <;> first | (cases h; done) | skip
 ·rename_i b o' len cap hex
  rw[hex]
  simp only[hu,hs,pg]
  split at h <;> first | (cases h; done) | skip
  rename_i l hh hl hhh
  simp only[hl,hhh]
  split at h
  ·rename_i hmx
   have hmx:mx=none:=by cases mx <;> simp at hmx; rfl
   subst hmx
   simp only
   split at h
   ·rename_i cc
    split at h <;> first | (cases h; done) | skip
    rename_i hc
    have e1:=aT.2 hc.1
    have e2:=aT.2 hc.2
    split at h
    ·rename_i hcl
     have e3:=nS hcl
     simp only[e1,e2,e3]
     exact h
    ·rename_i hcl
     have e3:=CV hcl
     simp only[e1,e2,e3]
     exact h
   ·rename_i esz
    split at h <;> first | (cases h; done) | skip
    rename_i hc
    have e1:=aT.2 hc.1
    have e2:=aT.2 hc.2.1
    have e4:=nS hc.2.2
    split at h
    ·rename_i hcl
     have e3:=aT.2 hcl
     simp only[e1,e2,e3,e4]
     exact h
    ·rename_i hcl
     have e3:=Uy hcl
     simp only[e1,e2,e3,e4]
     exact h
  ·rename_i y hmx
   cases mx with
   | none=>cases hmx
   | some z =>
   cases hmx
   split at h <;> first | (cases h; done) | skip
   rename_i hy m hhi hm
   cases hi with
   | none=>cases hhi
   | some y2 =>
   simp only
   rw[Va 0,hm]
   simp only
   cases cap with
   | ex cc =>
     simp only at h
     split at h <;> first | (cases h; done) | skip
     rename_i hc
     have e1:=aT.2 hc.1
     have e2:=aT.2 hc.2.1
     have e4:=aT.2 hc.2.2
     split at h
     ·rename_i hcl
      have e3:=nS hcl
      simp only[e1,e2,e3,e4]
      exact h
     ·rename_i hcl
      have e3:=CV hcl
      simp only[e1,e2,e3,e4]
      exact h
   | op esz =>
     simp only at h
     split at h <;> first | (cases h; done) | skip
     rename_i hc
     have e1:=aT.2 hc.1
     have e2:=aT.2 hc.2.1
     have e4:=aT.2 hc.2.2
     split at h
     ·rename_i hcl
      have e3:=nS hcl
      simp only[e1,e2,e3,e4]
      exact h
     ·rename_i hcl
      have e3:=CV hcl
      simp only[e1,e2,e3,e4]
      exact h
 ·rename_i b hex
  rw[hex]
  simp only[hu,hs,pg]
  split at h <;> first | (cases h; done) | skip
  rename_i hl hhh hmx
  have hmx:mx=none:=by cases mx <;> simp at hmx; rfl
  subst hmx
  simp only[hl,hhh]; exact h
 ·rename_i hex
  rw[hex]
  simp only[hu,hs,pg]
  split at h <;> first | (cases h; done) | skip
  ·rename_i hl hhh hmx
   have hmx:mx=none:=by cases mx <;> simp at hmx; rfl
   subst hmx
   have e3:bnd 0 (Option.map e none)=some 0:=rfl
   simp only[hl,hhh,e3]
   rw[hex] at h; exact h
  ·rename_i y hl hhh hmx
   cases mx with
   | none=>cases hmx
   | some z =>
   cases hmx
   split at h <;> first | (cases h; done) | skip
   rename_i hy hhi hm
   cases hi with
   | none=>cases hhi
   | some y2 =>
   have e3:bnd 0 (Option.map e (some z))=some 0:=hm
   simp only[hl,hhh,e3]
   rw[hex] at h; exact h
theorem RU {t elem:TypeId} {n:Nat} {x:Operand} {lo hi:Option Operand} {size:Nat} {v:AV} (hu:P.underlying t=some (.array n elem)) (hs:aZ P elem=some size)
  (h:BI n size (e x) (lo.map e) (hi.map e)=some v) : qW P e t x lo hi none=some v:=by
 unfold qW
 unfold BI at h
 split at h <;> first | (cases h; done) | skip
 rename_i b o' hex
 rw[hex]
 simp only[hu,hs,pg]
 split at h <;> first | (cases h; done) | skip
 rename_i l hh hl hhh
 simp only[hl,hhh]
 split at h <;> first | (cases h; done) | skip
 rename_i hc
 have e1:=aT.2 hc.1
 have e2:=aT.2 hc.2
 split at h
 ·rename_i hcl
  have e3:=nS hcl
  simp only[e1,e2,e3]
  exact h
 ·rename_i hcl
  have e3:=CV hcl
  simp only[e1,e2,e3]
  exact h
theorem Kr {place:Nat→Option (Nat × Nat)} : ∀ (parts:List (Nat × AV)) (qs:List (Nat × Nat × AV)) (cs:List AV),(parts.map fun p=>(place p.1).map fun q=>(q.1,q.2,p.2))=qs.map some→xP place cs parts=lm cs qs
 | [],qs,cs,h=>by
   cases qs with
   | nil=>rfl
   | cons q qs=>simp at h
 | (i,v) :: parts,qs,cs,h=>by
   cases qs with
   | nil=>simp at h
   | cons q qs =>
     simp only[List.map_cons,List.cons.injEq] at h
     obtain⟨h1,h2⟩:=h
     cases hp:place i with
     | none=>simp[hp] at h1
     | some pl =>
       obtain⟨off,size⟩:=pl
       simp only[hp,Option.map_some,Option.some.injEq] at h1
       subst h1
       simp only[xP,hp,lm]
       by_cases hk:known v=true∧v.cells.length=size∧off + size≤cs.length
       ·rw[if_pos hk,hk.1]
        simp only[Fu,hk.2.1,decide_true,aT.2 hk.2.2]
        rw[← Kr parts qs _ h2]
       ·rw[if_neg hk]
        split
        ·rename_i a b d
         exact absurd ⟨a,bf b,aW d⟩ hk
        ·rfl
theorem Dv {w:World} {b p:Nat} {i:fD} {v:AV} (hw:bC P ρ M w) (hb:ρ b=some i) (h:M.loads b p 1=some [v]) : ∃ u,aj ρ v u∧w.cell? ⟨i.cb,i.sh + p,none⟩=some u:=by
 obtain⟨vs,hr,hlen,hcell⟩:=RM.gu hw hb h
 cases hr with
 | cons _ u _ us hu hn =>
 cases hn
 have hcell:=hcell 0 u (by simp)
 rw[dL] at hcell
 exact⟨u,hu,by simpa using hcell⟩
theorem Cn:∀ (ks rest:List Nat) (cs ds:List AV) {r:Bool},dJ (ks++rest) cs ds=some r→(∃ r0,dJ ks (cs.take ks.length) (ds.take ks.length)=some r0∧(r0=false→r=false)∧(r0=true→dJ rest (cs.drop ks.length) (ds.drop ks.length)=some r))∨((cs.length<ks.length∨ds.length<ks.length)∧r=false)
 | [],rest,cs,ds,r,h=>.inl ⟨true,rfl,(fun h=>by cases h),fun _=>h⟩
 | k :: ks,rest,[],_,r,h=>by simp[dJ] at h
 | k :: ks,rest,_ :: _,[],r,h=>by simp[dJ] at h
 | k :: ks,rest,x :: cs,y :: ds,r,h=>by
   simp only[List.cons_append,dJ] at h
   split at h
   ·rename_i hc
    rcases Cn ks rest cs ds h with⟨r0,h1,h2,h3⟩ | ⟨h1,h2⟩
    ·exact .inl ⟨r0,by simp only[List.length_cons,List.take_succ_cons,dJ,hc]; exact h1,h2,fun e=>by simpa using h3 e⟩
    ·exact .inr ⟨by simp; omega,h2⟩
   ·rename_i hc
    cases h
    exact .inl ⟨false,by simp only[List.length_cons,List.take_succ_cons,dJ,hc],fun _=>rfl,fun h=>by cases h⟩
   ·cases h
theorem yE {t:TypeId} {us:List Value} {off:Nat} {u:Value} {w:World} (ha:dm P t=some false) (hu:us[off]?=some u) : (part t ⟨us⟩ off).run P w=.ok u w:=by
 simp only[part,Sem.run_bind,gL ha,Result.andThen_ok,Bool.false_eq_true,if_false]
 simp[hu]
theorem NC {t:TypeId} {us:List Value} {off n:Nat} {w:World} (ha:dm P t=some true) (hs:aZ P t=some n) : (part t ⟨us⟩ off).run P w=.ok (.agg ⟨(us.drop off).take n⟩) w:=by
 simp only[part,Sem.run_bind,gL ha,Result.andThen_ok,if_true,bW hs,Sem.run_pure]
 simp[List.take_drop]
theorem Nl:∀ (d:Nat) (t:TypeId) (ks:List Nat) (D:Nat),ja P d t=some ks→d≤D→∀ (cs ds:List AV) (us vs:List Value) (r:Bool) (w:World),aR ρ cs us→aR ρ ds vs→cs.length=ks.length→ds.length=ks.length→dJ ks cs ds=some r →
  (dm P t=some true∧(Op.equalIn D t (.agg ⟨us⟩) (.agg ⟨vs⟩)).run P w=.ok r w)∨(dm P t=some false∧∃ u v,us=[u]∧vs=[v]∧(Op.equalIn D t u v).run P w=.ok r w):=by
 intro d
 induction d with
 | zero=>intro t ks D h; simp[ja] at h
 | succ d ih =>
   intro t ks D h hD cs ds us vs r w hc hd hlc hld he
   obtain⟨D,rfl⟩ : ∃ D',D=D' + 1:=⟨D - 1,by omega⟩
   simp only[ja] at h
   have one:∀ k,ks=[k]→∃ x y u v,cs=[x]∧ds=[y]∧us=[u]∧vs=[v]∧aj ρ x u∧aj ρ y v∧pV k x y=some r:=by
    intro k hk
    subst hk
    cases hc with
    | nil=>simp at hlc
    | cons x u cs us hx hc=>cases hc with
      | cons=>simp at hlc
      | nil=>cases hd with
        | nil=>simp at hld
        | cons y v ds vs hy hd=>cases hd with
          | cons=>simp at hld
          | nil =>
            refine⟨x,y,u,v,rfl,rfl,rfl,rfl,hx,hy, ?_⟩
            simp only[dJ] at he
            split at he
            ·rename_i h1; cases he; exact h1
            ·rename_i h1; cases he; exact h1
            ·cases he
   split at h <;> first | (cases h; done) | skip
   ·rename_i k hu
    cases h
    obtain⟨x,y,u,v,rfl,rfl,rfl,rfl,hx,hy,hce⟩:=one 1 rfl
    refine .inr ⟨by simp[dm,hu],u,v,rfl,rfl, ?_⟩
    unfold pV at hce
    split at hce <;> first | (cases hce; done) | skip
    ·split at hce <;> first | (cases hce; done) | skip
     rename_i e0; subst e0
     cases hce
     rw[(aN hx).1,(aN hy).1]
     exact run_equalIn_int w D t _ _ _ _ hu
    all_goals (rename_i e0; cases e0)
   ·rename_i hu
    cases h
    obtain⟨x,y,u,v,rfl,rfl,rfl,rfl,hx,hy,hce⟩:=one 2 rfl
    refine .inr ⟨by simp[dm,hu],u,v,rfl,rfl, ?_⟩
    unfold pV at hce
    split at hce <;> first | (cases hce; done) | skip
    ·rename_i e0; cases e0
    ·cases hce
     rw[(aN hx).1,(aN hy).1,run_equalIn_string w D t _ _ hu,ByteArray.toList_eq,ByteArray.toList_eq]
    ·rename_i e0; cases e0
   ·rename_i hu
    cases h
    obtain⟨x,y,u,v,rfl,rfl,rfl,rfl,hx,hy,hce⟩:=one 3 rfl
    refine .inr ⟨by simp[dm,hu],u,v,rfl,rfl, ?_⟩
    unfold pV at hce
    split at hce <;> first | (cases hce; done) | skip
    ·rename_i e0; cases e0
    ·rename_i e0; cases e0
    ·cases hce
     rw[(aN hx).1,(aN hy).1]
     exact run_equalIn_bool' w D t _ _ hu
   ·rename_i fs hu
    split at h <;> first | (cases h; done) | skip
    rename_i hst
    refine .inl ⟨by simp[dm,hu], ?_⟩
    have hfs:P.underlying t=some (.struct (P.fieldsOf t)):=by simp[Program.fieldsOf,hu]
    rw[run_equalIn_struct w D t _ _ hfs hst]
    have hff:(P.fieldsOf t).toList=fs.toList:=by simp[Program.fieldsOf,hu]
    rw[hff]
    have key:∀ (l:List Field) (off:Nat) (kr:List Nat) (r:Bool),wG P (ja P d) l off=some kr→(cs.drop off).length=kr.length→(ds.drop off).length=kr.length→dJ kr (cs.drop off) (ds.drop off)=some r→(Op.eqFields D ⟨us⟩ ⟨vs⟩ l).run P w=.ok r w:=by
     intro l
     induction l with
     | nil =>
       intro off kr r h h1 h2 h3
       simp only[wG] at h
       cases h
       have e1:=List.eq_nil_of_length_eq_zero h1
       have e2:=List.eq_nil_of_length_eq_zero h2
       rw[e1,e2] at h3
       simp only[dJ] at h3
       cases h3
       rfl
     | cons f l ihl =>
       intro off kr r h h1 h2 h3
       simp only[wG] at h
       split at h <;> first | (cases h; done) | skip
       rename_i kf n hn hoff hkf hsz
       split at h <;> first | (cases h; done) | skip
       rename_i kr' hlen hrest
       cases h
       have hoff:=bf hoff
       have hlen:=bf hlen
       have hname:f.name ≠ "_" := by simpa using hn
       rw[List.length_append] at h1 h2
       rcases Cn kf kr' _ _ h3 with⟨r0,g1,g2,g3⟩ | ⟨g,_⟩
       ·have hsub:=ih f.type kf D hkf (by omega) ((cs.drop off).take n) ((ds.drop off).take n) ((us.drop off).take n) ((vs.drop off).take n) r0 w ((hc.drop off).take n) ((hd.drop off).take n) (by simp at h1 ⊢; omega) (by simp at h2 ⊢; omega) (by rw[hlen]; exact g1)
        have hstep:(Op.eqFields D ⟨us⟩ ⟨vs⟩ (f :: l)).run P w=(if r0=false then .ok false w else(Op.eqFields D ⟨us⟩ ⟨vs⟩ l).run P w):=by
         simp only[Op.eqFields,if_pos hname]
         rcases hsub with⟨ha,hrun⟩ | ⟨ha,u,v,hu1,hv1,hrun⟩
         ·simp only[Sem.run_bind,hoff,NC ha hsz,Result.andThen_ok,hrun]
          cases r0 <;> simp
         ·have hn1:n=1:=by
           have:=congrArg List.length hu1
           have hl:=hc.length
           simp at this h1; omega
          have p1:us[off]?=some u:=by
           have:((us.drop off).take n)[0]?=some u:=by rw[hu1]; rfl
           rw[List.getElem?_take,if_pos (by omega),List.getElem?_drop] at this
           simpa using this
          have p2:vs[off]?=some v:=by
           have:((vs.drop off).take n)[0]?=some v:=by rw[hv1]; rfl
           rw[List.getElem?_take,if_pos (by omega),List.getElem?_drop] at this
           simpa using this
          simp only[Sem.run_bind,hoff,yE ha p1,yE ha p2,Result.andThen_ok,hrun]
          cases r0 <;> simp
        rw[hstep]
        cases r0 with
        | false=>rw[g2 rfl]; simp
        | true =>
          simp only[Bool.true_eq_false,if_false]
          refine ihl (off + n) kr' r hrest (by simp at h1 ⊢; omega) (by simp at h2 ⊢; omega) ?_
          have:=g3 rfl
          rw[List.drop_drop,List.drop_drop,← hlen] at this
          exact this
       ·omega
    exact key fs.toList 0 ks r h (by simpa using hlc) (by simpa using hld) (by simpa using he)
theorem uF {w:World} {r clock:Nat} {fs:Array MapEntry} (h:w.heap[r]?=some (.map fs clock)) : (getObj r).run P w=.ok (.map fs clock) w:=by simp[getObj,Sem.run,h]
theorem mq {a:Bool} {k:AV} {kv:Value} {cs:List AV} (h:fJ a k=some cs) (hk:aj ρ k kv) : ∃ us,aR ρ cs us∧(a=true→kv=.agg ⟨us⟩)∧(a=false→us=[kv]):=by
 cases a with
 | false =>
   simp only[fJ] at h
   cases h
   exact⟨[kv],.cons _ _ _ _ hk .nil,(fun h=>by cases h),fun _=>rfl⟩
 | true =>
   unfold fJ at h
   split at h <;> first | (cases h; done) | skip
   ·rename_i cs' _
    cases h
    cases hk with
    | agg _ us hr=>exact⟨us,hr,fun _=>rfl,fun h=>by cases h⟩
   ·rename_i e0; cases e0
theorem KE {kt:TypeId} {ks:List Nat} {a r:Bool} {x y:AV} {xv yv:Value} {cs ds:List AV} (hf:ja P 10 kt=some ks) (ha:dm P kt=some a) (hx:fJ a x=some cs) (hy:fJ a y=some ds) (rx:aj ρ x xv) (ry:aj ρ y yv)
  (l1:cs.length=ks.length) (l2:ds.length=ks.length) (h:dJ ks cs ds=some r) (w:World) : (Op.equal kt xv yv).run P w=.ok r w:=by
 obtain⟨us,r1,h1,h1'⟩:=mq hx rx
 obtain⟨vs,r2,h2,h2'⟩:=mq hy ry
 show(Op.equalIn 10000 kt xv yv).run P w=_
 rcases Nl 10 kt ks 10000 hf (by decide) cs ds us vs r w r1 r2 l1 l2 h with⟨hg,hr⟩ | ⟨hg,u,v,e1,e2,hr⟩
 ·have:a=true:=Option.some.inj (ha.symm.trans hg)
  rw[h1 this,h2 this]; exact hr
 ·have:a=false:=Option.some.inj (ha.symm.trans hg)
  have e3:=h1' this
  have e4:=h2' this
  rw[e1] at e3; rw[e2] at e4
  cases e3; cases e4
  exact hr
theorem LF {kt:TypeId} {ks:List Nat} {a:Bool} {k:AV} {kv:Value} {cs:List AV} {w:World} (hf:ja P 10 kt=some ks) (ha:dm P kt=some a) (hc:fJ a k=some cs) (hl:cs.length=ks.length) (hk:aj ρ k kv) :
  ∀ {es:List (AV × AV × Nat)} {fs:List MapEntry} {i:Nat} {r:Option (Nat × AV)},bJ ρ es fs→jO a ks cs es i=some r→∃ r',(Instr.findAsking kt kv fs i).run P w=.ok r' w∧Na ρ r r'
 | [],[],i,r,_,h=>by
   simp[jO] at h; subst h
   exact⟨none,rfl,trivial⟩
 | [],_ :: _,_,_,h,_=>h.elim
 | _ :: _,[],_,_,h,_=>h.elim
 | (ka,va,n) :: es,f :: fs,i,r,⟨h1,h2,h3,h4⟩,h=>by
   simp only[jO] at h
   split at h <;> first | (cases h; done) | skip
   rename_i ds hds
   split at h <;> first | (cases h; done) | skip
   rename_i hdl
   simp only[Instr.findAsking]
   split at h <;> first | (cases h; done) | skip
   ·rename_i hn
    cases h
    refine⟨some (i,f.val), ?_,rfl,h2⟩
    rw[Sem.run_bind,KE hf ha hc hds hk h1 hl hdl hn w,Result.andThen_ok]
    rfl
   ·rename_i hn
    obtain⟨r',hr,hfr⟩:=LF hf ha hc hl hk h4 h
    refine⟨r', ?_,hfr⟩
    rw[Sem.run_bind,KE hf ha hc hds hk h1 hl hdl hn w,Result.andThen_ok]
    exact hr
theorem IM {kt:TypeId} {d:TypeDesc} {x y:Value} {s:Bool} (hd:P.underlying kt=some d) (h:Instr.sameNow d x y=some s) (w:World) : (Op.equal kt x y).run P w=.ok s w:=by
 show(Op.equalIn (9999 + 1) kt x y).run P w=_
 unfold Instr.sameNow at h
 split at h <;> first | (cases h; done) | skip
 ·split at h <;> first | (cases h; done) | skip
  rename_i e0
  subst e0
  cases h
  exact run_equalIn_int w _ kt _ _ _ _ hd
 ·cases h
  rw[run_equalIn_string w _ kt _ _ hd,ByteArray.toList_eq,ByteArray.toList_eq,← iO,← bytes_beq]
 ·cases h
  exact run_equalIn_bool' w _ kt _ _ hd
theorem Cz {kt:TypeId} {d:TypeDesc} {kv:Value} {w:World} (hd:P.underlying kt=some d) : ∀ {fs:List MapEntry} {i:Nat} {r0 r' : Option (Nat × Value)},Instr.findNow d kv fs i=some r0→(Instr.findAsking kt kv fs i).run P w=.ok r' w→r0=r'
 | [],i,r0,r',h,h'=>by
   simp[Instr.findNow] at h
   subst h
   have h' : Result.ok none w=Result.ok r' w:=h'
   cases h'
   rfl
 | f :: fs,i,r0,r',h,h'=>by
   simp only[Instr.findNow] at h
   simp only[Instr.findAsking] at h'
   split at h <;> first | (cases h; done) | skip
   ·rename_i hs
    cases h
    rw[Sem.run_bind,IM hd hs w,Result.andThen_ok] at h'
    have h' : Result.ok (some (i,f.val)) w=Result.ok r' w:=h'
    cases h'
    rfl
   ·rename_i hs
    rw[Sem.run_bind,IM hd hs w,Result.andThen_ok] at h'
    exact Cz hd h h'
theorem yR {kt:TypeId} {ks:List Nat} {a:Bool} {k:AV} {kv:Value} {cs:List AV} {w:World} {es:List (AV × AV × Nat)} {fs:List MapEntry} {r:Option (Nat × AV)} (hf:ja P 10 kt=some ks) (ha:dm P kt=some a) (hc:fJ a k=some cs) (hl:cs.length=ks.length) (hk:aj ρ k kv)
  (he:bJ ρ es fs) (h:jO a ks cs es 0=some r) : ∃ r',(Instr.findKey kt kv fs).run P w=.ok r' w∧Na ρ r r':=by
 obtain⟨r',h1,h2⟩:=LF (w:=w) hf ha hc hl hk he h
 have hu:∃ d,P.underlying kt=some d:=by
  simp only[ja] at hf
  cases hu:P.underlying kt with
  | none=>rw[hu] at hf; cases hf
  | some d=>exact⟨d,rfl⟩
 obtain⟨d,hd⟩:=hu
 refine⟨r', ?_,h2⟩
 simp only[Instr.findKey,Sem.run_bind,run_underlying hd,Result.andThen_ok]
 cases hn:Instr.findNow d kv fs 0 with
 | none=>exact h1
 | some r0 =>
   have:=Cz hd hn h1
   subst this
   rfl
theorem QJ:∀ (d:Nat) (t:TypeId) (ks:List Nat) (D:Nat) (em:Bool),ja P d t=some ks→d≤D→∀ (us:List Value) (w:World),us.length=ks.length →
  (dm P t=some true∧(Instr.checkKey em D t (.agg ⟨us⟩)).run P w=.ok () w)∨(dm P t=some false∧∃ u,us=[u]∧(Instr.checkKey em D t u).run P w=.ok () w):=by
 intro d
 induction d with
 | zero=>intro t ks D em h; simp[ja] at h
 | succ d ih =>
   intro t ks D em h hD us w hl
   obtain⟨D,rfl⟩ : ∃ D',D=D' + 1:=⟨D - 1,by omega⟩
   simp only[ja] at h
   have one:∀ k,ks=[k]→∃ u,us=[u]:=fun k hk=>by
    subst hk
    match us,hl with
    | [u],_=>exact⟨u,rfl⟩
   split at h <;> first | (cases h; done) | skip
   ·rename_i k hu
    cases h
    obtain⟨u,rfl⟩:=one 1 rfl
    refine .inr ⟨by simp[dm,hu],u,rfl, ?_⟩
    simp only[Instr.checkKey,Sem.run_bind,run_underlying hu,Result.andThen_ok]
    rfl
   ·rename_i hu
    cases h
    obtain⟨u,rfl⟩:=one 2 rfl
    refine .inr ⟨by simp[dm,hu],u,rfl, ?_⟩
    simp only[Instr.checkKey,Sem.run_bind,run_underlying hu,Result.andThen_ok]
    rfl
   ·rename_i hu
    cases h
    obtain⟨u,rfl⟩:=one 3 rfl
    refine .inr ⟨by simp[dm,hu],u,rfl, ?_⟩
    simp only[Instr.checkKey,Sem.run_bind,run_underlying hu,Result.andThen_ok]
    rfl
   ·rename_i fs hu
    split at h <;> first | (cases h; done) | skip
    refine .inl ⟨by simp[dm,hu], ?_⟩
    simp only[Instr.checkKey,Sem.run_bind,run_underlying hu,Result.andThen_ok]
    rw[← Array.forIn_toList]
    have key:∀ (l:List Field) (off:Nat) (kr:List Nat),wG P (ja P d) l off=some kr→(us.drop off).length=kr.length →
      ((forIn l PUnit.unit fun(f:Field) (_:PUnit)=>(do
        if f.name ≠ "_" then do
         let x ← part f.type ⟨us⟩ f.offset
         Instr.checkKey em D f.type x
         pure (ForInStep.yield PUnit.unit)
        else pure (ForInStep.yield PUnit.unit) : Sem (ForInStep PUnit)) : Sem PUnit).run P w=.ok PUnit.unit w):=by
     intro l
     induction l with
     | nil=>intro off kr _ _; rfl
     | cons f l ihl =>
       intro off kr h h1
       simp only[wG] at h
       split at h <;> first | (cases h; done) | skip
       rename_i kf n hn hoff hkf hsz
       split at h <;> first | (cases h; done) | skip
       rename_i kr' hlen hrest
       cases h
       have hoff:=bf hoff
       have hlen:=bf hlen
       have hname:f.name ≠ "_" := by simpa using hn
       rw[List.length_append] at h1
       have hsub:=ih f.type kf D em hkf (by omega) ((us.drop off).take n) w (by simp at h1 ⊢; omega)
       have hrec:=ihl (off + n) kr' hrest (by simp at h1 ⊢; omega)
       simp only[List.forIn_cons,Sem.run_bind,if_pos hname]
       rcases hsub with⟨ha,hrun⟩ | ⟨ha,u,hu1,hrun⟩
       ·simp only[hoff,NC ha hsz,Result.andThen_ok,hrun,Sem.run_pure]
        exact hrec
       ·have hn1:n=1:=by
         have:=congrArg List.length hu1
         simp at this h1; omega
        have p1:us[off]?=some u:=by
         have:((us.drop off).take n)[0]?=some u:=by rw[hu1]; rfl
         rw[List.getElem?_take,if_pos (by omega),List.getElem?_drop] at this
         simpa using this
        simp only[hoff,yE ha p1,Result.andThen_ok,hrun,Sem.run_pure]
        exact hrec
    exact(congrArg (fun r=>Result.andThen r fun _ w'=>Sem.run P (pure ()) w') (key fs.toList 0 ks h (by simpa using hl))).trans rfl
theorem vM {kt:TypeId} {ks:List Nat} {a em:Bool} {k:AV} {kv:Value} {cs:List AV} {w:World} (hf:ja P 10 kt=some ks) (ha:dm P kt=some a) (hc:fJ a k=some cs) (hl:cs.length=ks.length) (hk:aj ρ k kv) :
  (Instr.checkKey em 10000 kt kv).run P w=.ok () w:=by
 obtain⟨us,r1,h1,h1'⟩:=mq hc hk
 rcases QJ 10 kt ks 10000 em hf (by decide) us w (by rw[← r1.length]; exact hl) with⟨hg,hr⟩ | ⟨hg,u,e1,hr⟩
 ·have:a=true:=Option.some.inj (ha.symm.trans hg)
  rw[h1 this]; exact hr
 ·have:a=false:=Option.some.inj (ha.symm.trans hg)
  have e3:=h1' this
  rw[e1] at e3
  cases e3
  exact hr
theorem Qv {n:Nat} {en:AV × AV × Nat} : ∀ {es:List (AV × AV × Nat)} {fs:List MapEntry},bJ ρ es fs→es.find? (fun e=>e.2.2 == n)=some en→∃ f,fs.find? (fun g=>g.born == n)=some f∧aj ρ en.1 f.key∧aj ρ en.2.1 f.val
 | [],[],_,h=>by cases h
 | (k,v,m) :: es,g :: fs,⟨a,b,c,d⟩,h=>by
   rw[List.find?_cons] at h ⊢
   rw[c]
   split at h
   ·rename_i hm
    cases h
    simp only at hm
    simp only[hm]
    exact⟨g,rfl,a,b⟩
   ·rename_i hm
    simp only at hm
    simp only[hm]
    exact Qv d h
 | _ :: _,[],h,_=>h.elim
 | [],_ :: _,h,_=>h.elim
theorem zL (h:dR P o e M K) : ∃ v,((∀ M',jR P o e M' v)∨(kindOf P o=.read∧jR P o e M v))∧K v:=by
 cases hop:o.op
 case move x=>simp only[dR,hop] at h; exact⟨_,aK (by simp only[aH,hop]),h⟩
 case assign x=>simp only[dR,hop] at h; exact⟨_,aK (by simp only[aH,hop]),h⟩
 case pick cn a b =>
  simp only[dR,hop] at h
  obtain⟨t,ht,hk⟩:=h
  exact⟨_,aK (by cases t <;> simp only[aH,hop,ht] <;> rfl),hk⟩
 case nilCheck x =>
  simp only[dR,hop] at h
  obtain⟨b,p,hx,hk⟩:=h
  exact⟨_,aK (by simp only[aH,hop,hx]),hk⟩
 case fieldAddr s x f =>
  simp only[dR,hop] at h
  split at h <;> first | (cases h; done) | skip
  rename_i fields hu
  split at h <;> first | (cases h; done) | skip
  rename_i fd hf
  split at h <;> first | (cases h; done) | skip
  rename_i n hs
  obtain⟨b,p,hx,hk⟩:=h
  exact⟨_,aK (by simp only[aH,hop,hu,hx,hf,hs]),hk⟩
 case indexAddr t x ix =>
  simp only[dR,hop] at h
  split at h <;> first | (cases h; done) | skip
  ·rename_i elem hu
   split at h <;> first | (cases h; done) | skip
   rename_i size hs
   obtain⟨b,p,len,cap,k,n,hx,hi,h0,h1,hk⟩:=h
   exact⟨_,aK (by simp only[aH,hop,hu,hx,hi,qO h0,aT.2 (show n.toNat + 1≤len by omega),hs]),hk⟩
  ·rename_i len elem hu
   split at h <;> first | (cases h; done) | skip
   rename_i size hs
   obtain⟨b,p,k,n,hx,hi,h0,h1,hk⟩:=h
   exact⟨_,aK (by simp only[aH,hop,hu,hx,hi,qO h0,aT.2 (show n.toNat + 1≤len by omega),hs]),hk⟩
 case field t x f =>
  simp only[dR,hop] at h
  split at h <;> first | (cases h; done) | skip
  rename_i fields hu
  split at h <;> first | (cases h; done) | skip
  rename_i fd hf
  split at h <;> first | (cases h; done) | skip
  ·rename_i ha
   obtain⟨cs,v,hx,hv,hk⟩:=h
   exact⟨_,aK (by simp only[aH,hop,hu,hx,hf,partOf,ha,bQ]; exact hv),hk⟩
  ·rename_i ha
   split at h <;> first | (cases h; done) | skip
   rename_i n hs
   obtain⟨cs,hx,hv,hk⟩:=h
   exact⟨_,aK (by simp only[aH,hop,hu,hx,hf,partOf,ha,hs,aT.2 hv]),hk⟩
 case index t x ix =>
  simp only[dR,hop] at h
  split at h <;> first | (cases h; done) | skip
  ·rename_i hu
   obtain⟨s,k,n,b,hx,hi,h0,hb,hk⟩:=h
   exact⟨_,aK (by simp only[aH,hop,hu,hx,hi,qO h0,bQ,hb]),hk⟩
  ·rename_i len elem hu
   split at h <;> first | (cases h; done) | skip
   ·rename_i ha
    split at h <;> first | (cases h; done) | skip
    rename_i hs
    obtain⟨cs,k,n,v,hx,hi,h0,h1,hv,hk⟩:=h
    exact⟨_,aK (by simp only[aH,hop,hu,hx,hi,qO h0,aT.2 (show n.toNat + 1≤len by omega),hs,partOf,ha,bQ,Nat.mul_one]; exact hv),hk⟩
   ·rename_i ha
    split at h <;> first | (cases h; done) | skip
    rename_i size hs
    obtain⟨cs,k,n,hx,hi,h0,h1,hv,hk⟩:=h
    exact⟨_,aK (by simp only[aH,hop,hu,hx,hi,qO h0,aT.2 (show n.toNat + 1≤len by omega),hs,partOf,ha,aT.2 hv]),hk⟩
 case slice t x lo hi mx =>
  simp only[dR,hop] at h
  split at h <;> first | (cases h; done) | skip
  ·rename_i hu
   split at h <;> first | (cases h; done) | skip
   obtain⟨v,hv,hk⟩:=h
   refine⟨_,aK ?_,hk⟩
   unfold UR at hv
   split at hv <;> first | (cases hv; done) | skip
   rename_i s hex
   split at hv <;> first | (cases hv; done) | skip
   rename_i l hh hl hhh
   split at hv <;> first | (cases hv; done) | skip
   rename_i hc
   simp only[aH,hop,hex,EX,hu,pg,hl,hhh,aT.2 hc.1,aT.2 hc.2]
   exact hv
  ·rename_i elem hu
   split at h <;> first | (cases h; done) | skip
   rename_i size hs
   obtain⟨v,hv,hk⟩:=h
   have h1:=QU hu hs hv
   refine⟨_,aK ?_,hk⟩
   simp only[aH,hop]
   split
   ·rename_i s hex
    simp[bK,hex] at hv
   ·exact h1
  ·rename_i n elem hu
   split at h <;> first | (cases h; done) | skip
   rename_i size hs
   obtain⟨v,hv,hk⟩:=h
   have h1:=RU hu hs hv
   refine⟨_,aK ?_,hk⟩
   simp only[aH,hop]
   split
   ·rename_i s hex
    simp[BI,hex] at hv
   ·exact h1
 case sliceToArrayPointer arr x =>
  simp only[dR,hop] at h
  split at h <;> first | (cases h; done) | skip
  rename_i n elem hu
  obtain⟨b,p,len,cap,hx,hn,hk⟩:=h
  refine⟨_,.inl fun _ ρ w c M' _ hw he0=>?_,hk⟩
  have hxr:aj ρ (e x) (c x):=he0 x (by rw[hop]; simp[Op.operands])
  rw[hx] at hxr
  obtain⟨i,cc,hb,hc⟩:=eX hxr
  refine⟨.pointer (some ⟨i.cb,i.sh + p,none⟩), ?_,.ptr _ _ _ hb⟩
  simp only[execOp,hop,hc,Instr.arrayAt,Sem.run_bind,run_underlying hu,Result.andThen_ok,if_neg (Nat.not_lt.2 hn),Sem.run_pure]
 case extract x i =>
  simp only[dR,hop] at h
  obtain⟨vs,v,hx,hv,hk⟩:=h
  exact⟨_,aK (by simp only[aH,hop,hx,bQ]; exact hv),hk⟩
 case makeInterface t x =>
  simp only[dR,hop] at h
  split at h <;> first | (cases h; done) | skip
  rename_i d hne hu
  exact⟨_,aK (by simp only[aH,hop,hu]),h⟩
 case makeFunc f first captured =>
  simp only[dR,hop] at h
  split at h <;> first | (cases h; done) | skip
  exact⟨_,aK (by simp only[aH,hop]),h⟩
 case build t parts =>
  simp only[dR,hop] at h
  split at h <;> first | (cases h; done) | skip
  ·rename_i it n el hi hu
   split at h <;> first | (cases h; done) | skip
   rename_i z ie hz hie
   split at h <;> first | (cases h; done) | skip
   rename_i cs hcs
   obtain⟨cs',hf,hk⟩:=h
   refine⟨_,aK ?_,hk⟩
   simp only[aH,hop,hi,hu,hz,hie,hcs]
   rw[Kr _ (parts.toList.map fun p=>(p.1 * ie.size,ie.size,e p.2)) _ (by simp),hf]
   rfl
  ·rename_i it fields hi hu
   split at h <;> first | (cases h; done) | skip
   rename_i z places hz hpl
   split at h <;> first | (cases h; done) | skip
   rename_i cs ps hcs hps
   obtain⟨cs',hf,hk⟩:=h
   refine⟨_,aK ?_,hk⟩
   simp only[aH,hop,hi,hu,hz,hpl,hcs]
   rw[Kr _ ps _ ?_,hf]
   ·rfl
   ·rw[List.map_map]
    revert hps
    generalize parts.toList=pl
    intro hps
    induction pl generalizing ps cs cs' with
    | nil=>simp[di] at hps; subst hps; rfl
    | cons p pl ih =>
      simp only[di] at hps
      split at hps <;> first | (cases hps; done) | skip
      rename_i y hy
      split at hps <;> first | (cases hps; done) | skip
      rename_i ys hys
      cases hps
      simp only[List.map_cons,List.cons.injEq]
      refine⟨?_, ?_⟩
      ·split at hy <;> first | (cases hy; done) | skip
       rename_i q hq
       cases hy
       simp[hq]
      ·clear ih hf
       revert hys
       generalize ys=zs
       intro hys
       induction pl generalizing zs with
       | nil=>simp[di] at hys; subst hys; rfl
       | cons p pl ih =>
         simp only[di] at hys
         split at hys <;> first | (cases hys; done) | skip
         rename_i y' hy'
         split at hys <;> first | (cases hys; done) | skip
         rename_i ys' ad4
         cases hys
         simp only[List.map_cons,List.cons.injEq]
         refine⟨?_,ih _ ad4⟩
         split at hy' <;> first | (cases hy'; done) | skip
         rename_i q hq
         cases hy'
         simp[hq]
 case binOp op t x y yt =>
  simp only[dR,hop] at h
  split at h <;> first | (cases h; done) | skip
  ·split at h
   ·obtain⟨k,a,l,b,v,hx,hy,hv,hk⟩:=h
    exact⟨_,aK (Ve hop hx hy hv),hk⟩
   ·obtain⟨k,a,l,b,v,hx,hy,hv,hk⟩:=h
    exact⟨_,aK (Ve hop hx hy hv),hk⟩
   ·obtain⟨k,a,b,v,hx,hy,hv,hk⟩:=h
    exact⟨_,aK (X3 hop hx hy hv),hk⟩
  ·obtain⟨a,b,v,hx,hy,hv,hk⟩:=h
   exact⟨_,aK (by simp only[aH,hop,hx,hy]; exact hv),hk⟩
  ·rename_i hu
   split at h <;> first | (cases h; done) | skip
   ·obtain⟨a,b,hx,hy,hk⟩:=h
    exact⟨_,aK (IJ hop hx hy hu (.inl ⟨rfl,rfl⟩)),hk⟩
   ·obtain⟨a,b,hx,hy,hk⟩:=h
    exact⟨_,aK (IJ hop hx hy hu (.inr ⟨rfl,rfl⟩)),hk⟩
  ·rename_i fs hu
   have key:∀ (ks:List Nat) (neg:Bool),Td P t=some ks→Ep neg ks (e x) (e y) K→((op=.eql∧neg=false)∨(op=.neq∧neg=true))→∃ v,((∀ M',jR P o e M' v)∨(kindOf P o=.read∧jR P o e M v))∧K v:=by
    intro ks neg hf h yZ
    obtain⟨cs,ds,r,hx,hy,hlc,hld,he,hk⟩:=h
    refine⟨_,.inl fun _ ρ w c M' _ hw he0=>⟨.bool (r != neg), ?_,.sc _ rfl⟩,hk⟩
    have hxr:aj ρ (e x) (c x):=he0 x (by rw[hop]; simp[Op.operands])
    have hyr:aj ρ (e y) (c y):=he0 y (by rw[hop]; simp[Op.operands])
    rw[hx] at hxr
    rw[hy] at hyr
    obtain⟨us,hcx,hru⟩:=uO hxr
    obtain⟨vs,hcy,hrv⟩:=uO hyr
    unfold Td at hf
    split at hf <;> first | (cases hf; done) | skip
    rename_i hg
    have hrun:(Op.equalIn 10000 t (.agg ⟨us⟩) (.agg ⟨vs⟩)).run P w=.ok r w:=by
     rcases Nl 10 t ks 10000 hf (by omega) cs ds us vs r w hru hrv hlc hld he with⟨_,h1⟩ | ⟨h1,_⟩
     ·exact h1
     ·simp[dm,hu] at h1
    simp only[execOp,hop,hcx,hcy,Sem.run_bind,run_eqGuard_agg w op t x y _ _ hg,Result.andThen_ok]
    rcases yZ with⟨rfl,rfl⟩ | ⟨rfl,rfl⟩
    ·rw[run_eql_struct,hrun]; cases r <;> rfl
    ·rw[run_neq_struct,hrun]; cases r <;> rfl
   split at h <;> first | (cases h; done) | skip
   ·exact key _ _ ‹_› h (.inl ⟨rfl,rfl⟩)
   ·exact key _ _ ‹_› h (.inr ⟨rfl,rfl⟩)
  ·obtain⟨v,hv,hk⟩:=h
   exact⟨_,aK hv,hk⟩
  ·split at h <;> first | (cases h; done) | skip
   ·obtain⟨v,hv,hk⟩:=h
    exact⟨_,aK hv,hk⟩
   ·rename_i h0
    obtain⟨r,hr,hk⟩:=KL hop (.inl ⟨rfl,rfl⟩) rfl (fun e0=>h0 e0) h
    exact⟨_,aK hr,hk⟩
   ·rename_i h0
    obtain⟨r,hr,hk⟩:=KL hop (.inr ⟨rfl,rfl⟩) rfl (fun e0=>h0 e0) h
    exact⟨_,aK hr,hk⟩
 case convert src dst x =>
  simp only[dR,hop] at h
  split at h <;> first | (cases h; done) | skip
  ·rename_i k hs hd
   obtain⟨l,n,hx,hk⟩:=h
   refine⟨_,aK ?_,hk⟩
   simp only[aH,hop]
   refine lu (l:=[.int l n]) (by rw[hop]; simp[Op.operands,di,hx,dI,toCell]) (u:=.int k (k.wrap n)) ?_ rfl
   simp only[execOp,hop,hx,dI,toCell,Option.getD_some]
   refine bG _ _ (Value.int k (k.wrap n)) ?_
   simp only[convert]
   rw[bG _ _ _ (dZ hs),bG _ _ _ (dZ hd)]
   rfl
  ·rename_i hs hd
   obtain⟨s,hx,hk⟩:=h
   refine⟨_,aK ?_,hk⟩
   simp only[aH,hop]
   refine lu (l:=[.string ⟨⟨s⟩⟩]) (by rw[hop]; simp[Op.operands,di,hx,dI,toCell]) (u:=.string ⟨⟨s⟩⟩) ?_ rfl
   simp only[execOp,hop,hx,dI,toCell,Option.getD_some]
   refine bG _ _ (Value.string ⟨⟨s⟩⟩) ?_
   simp only[convert]
   rw[bG _ _ _ (dZ hs),bG _ _ _ (dZ hd)]
   rfl
  ·rename_i k0 hs hd
   obtain⟨l,n,hx,hk⟩:=h
   refine⟨_,aK ?_,hk⟩
   simp only[aH,hop]
   refine lu (l:=[.int l n]) (by rw[hop]; simp[Op.operands,di,hx,dI,toCell]) (u:=.string (Utf8.encode n)) ?_ rfl
   simp only[execOp,hop,hx,dI,toCell,Option.getD_some]
   refine bG _ _ (Value.string (Utf8.encode n)) ?_
   simp only[convert]
   rw[bG _ _ _ (dZ hs),bG _ _ _ (dZ hd)]
   rfl
  ·rename_i el hs hd
   split at h <;> first | (cases h; done) | skip
   rename_i hel
   obtain⟨s,hx,hk⟩:=h
   refine⟨_,.inr ⟨by simp only[kindOf,hop,hs,hd],fun ρ w c M' hsub hw he=>?_⟩,hk⟩
   have hxr:aj ρ (e x) (c x):=he x (by rw[hop]; simp[Op.operands])
   unfold Bu at hx
   split at hx <;> first | (cases hx; done) | skip
   ·rename_i b p len cap hex
    split at hx <;> first | (cases hx; done) | skip
    rename_i xs hl
    rw[hex] at hxr
    obtain⟨i,cp,hbi,hc⟩:=eX hxr
    obtain⟨vs,hr,hlen,_,hrun⟩:=RM.jV (P:=P) hw hbi (hsub.loads hl)
    obtain⟨ns,rfl,rfl⟩:=rT hr hx
    refine⟨_, ?_,.sc _ rfl⟩
    simp only[execOp,hop,hc,Sem.run_bind]
    rw[run_convert_bytes_string w src dst el _ len cp hs hel hd,run_bytesToString w _ len cp ns (by rw[hrun]),foldl_push_bytes]
    have he0:ByteArray.empty.data = #[]:=rfl
    simp[he0]
   ·rename_i b hex
    cases hx
    rw[hex] at hxr
    generalize hcx:c x=cx at hxr
    cases hxr with
    | emp _ ad cp =>
    refine⟨_, ?_,.sc _ rfl⟩
    simp only[execOp,hop,hcx,Sem.run_bind]
    rw[run_convert_bytes_string w src dst el _ 0 cp hs hel hd,run_bytesToString w _ 0 cp [] (by rfl)]
    rfl
   ·rename_i hex
    cases hx
    rw[hex] at hxr
    refine⟨_, ?_,.sc _ rfl⟩
    simp only[execOp,hop,(aN hxr).1,Sem.run_bind]
    rw[run_convert_bytes_string w src dst el _ 0 0 hs hel hd]
    rfl
  ·rename_i t hs hd
   split at h <;> first | (cases h; done) | skip
   rename_i n hsz
   obtain⟨b,p,l,opn,el,fz,hex,hg,hle,hk⟩:=h
   refine⟨_,.inr ⟨by simp only[kindOf,hop,hs,hd],fun ρ w c M' hsub hw he=>?_⟩,hk⟩
   obtain⟨A,hA⟩:=hw
   rcases hA.blk b _ (hsub.2 b _ hg) with⟨y,hy,hr⟩ | ⟨_,e0,_⟩
   ·cases y <;> first | exact hr.elim | skip
    obtain⟨h1,rfl,rfl,rfl,h5⟩:=hr
    refine pQ hA.rel he ?_
    simp only[iV,hop,hs,hd,hex,hy,hsz]
    rw[aT.2 (by omega)]
   ·cases e0
  ·rename_i u hs hd
   split at h <;> first | (cases h; done) | skip
   rename_i n hsz hc1 hli
   obtain⟨b,l,opn,fz,hex,hg,hle,hk⟩:=h
   have hc1:=aW hc1
   refine⟨_,.inr ⟨by simp only[kindOf,hop,hs,hd],fun ρ w c M' hsub hw he=>?_⟩,hk⟩
   obtain⟨A,hA⟩:=hw
   rcases hA.blk b _ (hsub.2 b _ hg) with⟨y,hy,hr⟩ | ⟨_,e0,_⟩
   ·cases y <;> first | exact hr.elim | skip
    rename_i nn tree zs Gh jY fz'
    obtain⟨h1,rfl,rfl,rfl,h5⟩:=hr
    refine pQ hA.rel he ?_
    have hdiv:nn / P.cellsOf jY=1:=by rw[← h1,hle]; exact Nat.div_self (by omega)
    simp only[iV,hop,hs,hd,hex,hy,hsz,hdiv,hli]
   ·cases e0
  ·obtain⟨v,hv,hk⟩:=h
   exact⟨_,aK hv,hk⟩
 case unOp op t x =>
  simp only[dR,hop] at h
  split at h
  ·obtain⟨b,hx,hk⟩:=h
   refine⟨_,aK ?_,hk⟩
   simp only[aH,hop]
   refine lu (l:=[.bool b]) (by rw[hop]; simp[Op.operands,di,hx,dI,toCell]) (u:=.bool (!b)) ?_ rfl
   simp only[execOp,hop,hx,dI,toCell,Option.getD_some]
   rfl
  ·obtain⟨k,n,hx,hk⟩:=h
   refine⟨_,aK ?_,hk⟩
   simp only[aH,hop]
   refine lu (l:=[.int k n]) (by rw[hop]; simp[Op.operands,di,hx,dI,toCell]) (u:=.int k (k.wrap (0 - n))) ?_ rfl
   simp only[execOp,hop,hx,dI,toCell,Option.getD_some]
   rfl
  ·obtain⟨k,n,hx,hk⟩:=h
   refine⟨_,aK ?_,hk⟩
   simp only[aH,hop]
   refine lu (l:=[.int k n]) (by rw[hop]; simp[Op.operands,di,hx,dI,toCell]) (u:=.int k (k.wrap (BitVec.ofInt k.bits (if k.signed then -1 else k.max) ^^^ BitVec.ofInt k.bits n).toNat)) ?_ rfl
   simp only[execOp,hop,hx,dI,toCell,Option.getD_some]
   rfl
  ·obtain⟨v,hv,hk⟩:=h
   exact⟨_,aK hv,hk⟩
 case lookup t x k ok =>
  simp only[dR,hop] at h
  split at h <;> first | (cases h; done) | skip
  rename_i kt et hu
  split at h <;> first | (cases h; done) | skip
  rename_i ks a z hf ha hz
  obtain⟨b,es,cl,kc,r,hx,hg,hkc,hl,hr,hk⟩:=h
  refine⟨_,.inr ⟨by simp only[kindOf,hop],fun ρ w c M' hsub hw he=>?_⟩,hk⟩
  have hxr:aj ρ (e x) (c x):=he x (by rw[hop]; simp[Op.operands])
  have hkr:aj ρ (e k) (c k):=he k (by rw[hop]; simp[Op.operands])
  rw[hx] at hxr
  generalize hcx:c x=cx at hxr
  cases hxr with
  | map _ i hb =>
  obtain⟨A,hA⟩:=hw
  rcases hA.blk b _ (hsub.2 _ _ hg) with⟨y,hy,hle⟩ | ⟨_,e0,_⟩
  ·cases y <;> first | exact hle.elim | skip
   obtain⟨rfl,rfl⟩:=hle
   obtain⟨ob,hob,fs,rfl,hfs⟩:=hA.rel.blk b i _ hb hy
   have hgo:=uF (P:=P) hob
   obtain⟨r',hr1,hr2⟩:=yR (w:=w) hf ha hkc hl hkr hfs hr
   have hck:=vM (em:=fs.isEmpty) (w:=w) hf ha hkc hl hkr
   unfold XD at hz
   split at hz <;> first | (cases hz; done) | skip
   rename_i z0 hz0
   have uf:∀ {u:Value},(Instr.lookup t (.map (some i.cb)) (c k) ok).run P w=.ok u w→(execOp c o).run P w=.ok (.value u) w:=fun {u} hrun=>by
    simp only[execOp,hop,hcx,Sem.run_bind,hrun,Result.andThen_ok,Sem.run_pure]
   cases r with
   | some p =>
     obtain⟨j,va⟩:=p
     cases r' with
     | none=>exact hr2.elim
     | some q =>
       obtain⟨j',vv⟩:=q
       refine⟨if ok then Value.tuple #[vv,.bool true] else vv,uf ?_, ?_⟩
       ·unfold Instr.lookup
        simp only[Sem.run_bind,run_underlying hu,Result.andThen_ok,hgo,hck,hr1,Sem.run_pure]
       ·cases ok
        ·exact hr2.2
        ·exact .tup _ _ (.cons _ _ _ _ hr2.2 (.cons _ _ _ _ (.sc _ rfl) .nil))
   | none =>
     cases r' with
     | some q=>exact hr2.elim
     | none =>
       refine⟨if ok then Value.tuple #[z0,.bool false] else z0,uf ?_, ?_⟩
       ·unfold Instr.lookup
        simp only[Sem.run_bind,run_underlying hu,Result.andThen_ok,hgo,hck,hr1,fu hz0 w,Sem.run_pure]
       ·cases ok
        ·exact gY hz
        ·exact .tup _ _ (.cons _ _ _ _ (gY hz) (.cons _ _ _ _ (.sc _ rfl) .nil))
  ·cases e0
 case entry it =>
  simp only[dR,hop] at h
  obtain⟨b,m,since,seen,es,cl,n,en,hx,hgb,hgm,hfe,hk⟩:=h
  refine⟨_,.inr ⟨by simp only[kindOf,hop],fun ρ w c M' hsub hw he=>?_⟩,hk⟩
  have hxr:aj ρ (e it) (c it):=he it (by rw[hop]; simp[Op.operands])
  rw[hx] at hxr
  obtain⟨i,hb,hcx⟩:=dz hxr
  obtain⟨A,hA⟩:=hw
  rcases hA.blk b _ (hsub.2 _ _ hgb) with⟨y,hy,hle⟩ | ⟨_,e0,_⟩
  ·cases y <;> first | exact hle.elim | skip
   rename_i ya yb yc yd
   obtain⟨e1,e2,e3,e4⟩:=hle
   rw[e1,e2,e3,e4] at hy
   obtain⟨ob,hob,hsh,m',rfl,j,hj,rfl⟩:=hA.rel.blk b i _ hb hy
   rcases hA.blk m _ (hsub.2 _ _ hgm) with⟨y2,hy2,hle2⟩ | ⟨_,e0,_⟩
   ·cases y2 <;> first | exact hle2.elim | skip
    rename_i za zb
    obtain⟨f1,f2⟩:=hle2
    rw[f1,f2] at hy2
    obtain⟨ob2,adi,fs,rfl,hfs⟩:=hA.rel.blk m j _ hj hy2
    obtain⟨f,hff,hk1,hk2⟩:=Qv hfs hfe
    have Bh:c it=.pointer (some ⟨i.cb,0,none⟩):=by rw[hcx,hsh]
    have hget:(getObj i.cb).run P w=.ok (.mapIter (some j.cb) since ⟨seen++[n]⟩ cl) w:=by simp[getObj,Sem.run,hob]
    have SF:(getObj j.cb).run P w=.ok (.map fs cl) w:=by simp[getObj,Sem.run,adi]
    refine⟨.tuple #[f.key,f.val], ?_,.tup _ _ (.cons _ _ _ _ hk1 (.cons _ _ _ _ hk2 .nil))⟩
    have hback:(⟨seen++[n]⟩ : Array Nat).back?=some n:=by simp[Array.back?]
    have hfind:fs.find? (fun g=>g.born == n)=some f:=by rw[← Array.find?_toList]; exact hff
    simp only[execOp,hop,Instr.entry,Bh,Sem.run_bind,hget,Result.andThen_ok,hback,SF,hfind,Sem.run_pure]
    simp[Sem.run_pure,Sem.run,Result.andThen]
   ·cases e0
  ·cases e0
 case typeAssert x xt t ok =>
  simp only[dR,hop] at h
  split at h <;> first | (cases h; done) | skip
  rename_i u hni hu
  obtain⟨v,hx,hk⟩:=h
  refine⟨_,.inl fun M' ρ w c M'' hsub hw he=>?_,hk⟩
  have hxr:aj ρ (e x) (c x):=he x (by rw[hop]; simp[Op.operands])
  rw[hx] at hxr
  generalize hcx:c x=cx at hxr
  cases hxr with
  | ifc _ _ v' hv =>
  refine⟨if ok then .tuple #[v',.bool true] else v', ?_, ?_⟩
  ·have hrun:(Instr.typeAssert (.iface t v') xt t ok).run P w=.ok (if ok then .tuple #[v',.bool true] else v') w:=by
    simp only[Instr.typeAssert,Sem.run_bind,run_underlying hu,Result.andThen_ok]
    cases u <;> first | (exact absurd rfl (hni _)) | simp[Sem.run_pure]
   simp only[execOp,hop,hcx,Sem.run_bind,hrun,Result.andThen_ok,Sem.run_pure]
  ·cases ok with
   | true=>exact .tup _ _ (.cons _ _ _ _ hv (.cons _ _ _ _ (.sc _ rfl) .nil))
   | false=>exact hv
 case load t x =>
  simp only[dR,hop] at h
  split at h <;> first | (cases h; done) | skip
  ·rename_i ha
   obtain⟨b,p,v,hx,hl,hk⟩:=h
   refine⟨_,.inr ⟨by simp only[kindOf,hop],fun ρ w c M' hsub hw he=>?_⟩,hk⟩
   have hxr:aj ρ (e x) (c x):=he x (by rw[hop]; simp[Op.operands])
   rw[hx] at hxr
   obtain⟨i,hb,hc⟩:=dz hxr
   obtain⟨u,hu,hcell⟩:=Dv hw hb (hsub.loads hl)
   refine⟨u, ?_,hu⟩
   simp only[execOp,hop,Instr.loadAt,Instr.sureAddr,loadVar,hc,Sem.run_bind,Sem.run_pure,Result.andThen_ok,gL ha,Bool.false_eq_true,if_false,load,Sem.run]
   simp[hcell,Sem.run]
  ·rename_i ha
   split at h <;> first | (cases h; done) | skip
   rename_i n hs
   obtain⟨b,p,xs,hx,hl,hk⟩:=h
   refine⟨_,.inr ⟨by simp only[kindOf,hop],fun ρ w c M' hsub hw he=>?_⟩,hk⟩
   have hxr:aj ρ (e x) (c x):=he x (by rw[hop]; simp[Op.operands])
   rw[hx] at hxr
   obtain⟨i,hb,hc⟩:=dz hxr
   obtain⟨vs,hr,hlen,_,hrun⟩:=RM.jV (P:=P) hw hb (hsub.loads hl)
   refine⟨.agg ⟨vs⟩, ?_,.agg _ _ hr⟩
   simp only[execOp,hop,Instr.loadAt,Instr.sureAddr,loadVar,hc,Sem.run_bind,Sem.run_pure,Result.andThen_ok,gL ha,if_true,bW hs,hrun]
 case call cl =>
  obtain⟨callee,args,ts⟩:=cl
  cases callee with
  | builtin b =>
    cases b
    case len =>
     simp only[dR,hop] at h
     split at h <;> first | (cases h; done) | skip
     rename_i t x ht hx
     have uf:∀ {w:World} {c:Operand→Value} {n:Nat},(Builtin.len_ ts o.type (args.map c)).run P w=.ok (.int .i64 n) w→(execOp c o).run P w=.ok (.value (.int .i64 n)) w:=by
      intro w c n hrun
      simp only[execOp,hop,resolve,invoke,builtin,Sem.run_bind,Sem.run_pure,Result.andThen_ok,hrun]
     split at h <;> first | (cases h; done) | skip
     ·rename_i el hu
      obtain⟨n,hn,hk⟩:=h
      refine⟨_,.inl fun _ ρ w c M' _ hw he=>⟨.int .i64 n,uf ?_,.sc _ rfl⟩,hk⟩
      have hr:aj ρ (e x) (c x):=he x (by rw[hop]; simp only[Op.operands,Call.operands,Array.empty_append]; exact Array.mem_of_getElem? hx)
      unfold XQ at hn
      split at hn <;> first | (cases hn; done) | skip
      ·rename_i b p k cap hex
       cases hn
       rw[hex] at hr
       obtain⟨i,cp,hb,hc⟩:=eX hr
       simp only[Builtin.len_,ht,Array.getElem?_map,hx,Option.map_some,hc,Sem.run_bind,run_underlying hu,Result.andThen_ok,Sem.run_pure,goInt]
      ·rename_i b hex
       cases hn
       rw[hex] at hr
       generalize hcx:c x=cx at hr
       cases hr
       simp only[Builtin.len_,ht,Array.getElem?_map,hx,Option.map_some,hcx,Sem.run_bind,run_underlying hu,Result.andThen_ok,Sem.run_pure,goInt]
      ·rename_i hex
       cases hn
       rw[hex] at hr
       simp only[Builtin.len_,ht,Array.getElem?_map,hx,Option.map_some,(aN hr).1,Sem.run_bind,run_underlying hu,Result.andThen_ok,Sem.run_pure,goInt]
     ·rename_i hu
      obtain⟨s,hex,hk⟩:=h
      refine⟨_,.inl fun _ ρ w c M' _ hw he=>⟨.int .i64 s.length,uf ?_,.sc _ rfl⟩,hk⟩
      have hr:aj ρ (e x) (c x):=he x (by rw[hop]; simp only[Op.operands,Call.operands,Array.empty_append]; exact Array.mem_of_getElem? hx)
      rw[hex] at hr
      simp only[Builtin.len_,ht,Array.getElem?_map,hx,Option.map_some,(aN hr).1,Sem.run_bind,run_underlying hu,Result.andThen_ok,Sem.run_pure,goInt]
      rfl
     ·rename_i kt et hu
      obtain⟨b,es,cl,hex,hg,hk⟩:=h
      refine⟨_,.inr ⟨by simp only[kindOf,hop,ht,hu],fun ρ w c M' hsub hw he=>⟨.int .i64 es.length,uf ?_,.sc _ rfl⟩⟩,hk⟩
      have hr:aj ρ (e x) (c x):=he x (by rw[hop]; simp only[Op.operands,Call.operands,Array.empty_append]; exact Array.mem_of_getElem? hx)
      rw[hex] at hr
      generalize hcx:c x=cx at hr
      cases hr with
      | map _ i hb =>
      obtain⟨A,hA⟩:=hw
      rcases hA.blk b _ (hsub.2 _ _ hg) with⟨y,hy,hle⟩ | ⟨_,e0,_⟩
      ·cases y <;> first | exact hle.elim | skip
       obtain⟨rfl,rfl⟩:=hle
       obtain⟨ob,hob,fs,rfl,hfs⟩:=hA.rel.blk b i _ hb hy
       have hlen:∀ (es:List (AV × AV × Nat)) (fs:List MapEntry),bJ ρ es fs→es.length=fs.length:=by
        intro es
        induction es with
        | nil=>intro fs h; cases fs <;> simp_all [bJ]
        | cons a es ih =>
          intro fs h
          cases fs with
          | nil=>exact h.elim
          | cons f fs=>simp[ih fs h.2.2.2]
       simp only[Builtin.len_,ht,Array.getElem?_map,hx,Option.map_some,hcx,Sem.run_bind,run_underlying hu,Result.andThen_ok,getObj,Sem.run,hob]
       simp[goInt,hlen _ _ hfs]
      ·cases e0
    case cap =>
     simp only[dR,hop] at h
     split at h <;> first | (cases h; done) | skip
     rename_i t x ht hx
     split at h <;> first | (cases h; done) | skip
     rename_i el hu
     obtain⟨n,hn,hk⟩:=h
     refine⟨_,aK ?_,hk⟩
     split at hn <;> first | (cases hn; done) | skip
     ·rename_i b p k cc hex
      cases hn
      simp only[aH,hop,ht,hx,hu,hex]
     ·rename_i hex
      cases hn
      simp only[aH,hop,ht,hx,hu,hex]
      rfl
    case unsafeSliceData =>
     simp only[dR,hop] at h
     split at h <;> first | (cases h; done) | skip
     rename_i x
     unfold Uh at h
     split at h <;> first | (cases h; done) | skip
     ·rename_i hex; exact⟨_,aK (by simp only[aH,hop,hex]),h⟩
     ·rename_i hex; exact⟨_,aK (by simp only[aH,hop,hex]),h⟩
     ·rename_i hex; exact⟨_,aK (by simp only[aH,hop,hex]),h⟩
    case min =>
     simp only[dR,hop] at h
     split at h <;> first | (cases h; done) | skip
     rename_i x y
     obtain⟨k,a,b,hx,hy,hk⟩:=h
     refine⟨_,aK ?_,hk⟩
     simp only[aH,hop]
     refine lu (l:=[.int k a,.int k b]) (by rw[hop]; simp[Op.operands,Call.operands,di,hx,hy,dI,toCell]) (u:=.int k (if b<a then b else a)) ?_ rfl
     simp only[execOp,hop,resolve,invoke,builtin]
     rw[show(Array.map (fun x=>(dI (e x)).getD default) ⟨[x,y]⟩) = #[.int k a,.int k b] by simp[hx,hy,dI,toCell]]
     rfl
    case max =>
     simp only[dR,hop] at h
     split at h <;> first | (cases h; done) | skip
     rename_i x y
     obtain⟨k,a,b,hx,hy,hk⟩:=h
     refine⟨_,aK ?_,hk⟩
     simp only[aH,hop]
     refine lu (l:=[.int k a,.int k b]) (by rw[hop]; simp[Op.operands,Call.operands,di,hx,hy,dI,toCell]) (u:=.int k (if b > a then b else a)) ?_ rfl
     simp only[execOp,hop,resolve,invoke,builtin]
     rw[show(Array.map (fun x=>(dI (e x)).getD default) ⟨[x,y]⟩) = #[.int k a,.int k b] by simp[hx,hy,dI,toCell]]
     rfl
    all_goals (simp only[dR,hop] at h)
  | value f=>simp only[dR,hop] at h
  | invoke r m=>simp only[dR,hop] at h
 all_goals (simp only[dR,hop] at h)
end
def ig (zs:List AV) : Nat→List AV
 | 0=>[]
 | n + 1=>zs++ig zs n
theorem nP (zs:List AV) : ∀ n,(ig zs n).length=n * zs.length
 | 0=>by simp[ig]
 | n + 1=>by simp[ig,nP zs n,Nat.add_mul,Nat.add_comm]
theorem Hq (zs:List AV) (h:0<zs.length) : ∀ (n k:Nat),k<n * zs.length→(ig zs n)[k]?=zs[k % zs.length]?
 | 0,k,hk=>by simp at hk
 | n + 1,k,hk=>by
   simp only[ig]
   by_cases h1:k<zs.length
   ·rw[List.getElem?_append_left h1,Nat.mod_eq_of_lt h1]
   ·rw[List.getElem?_append_right (by omega),Hq zs h n _ (by rw[Nat.add_mul] at hk; omega)]
    congr 1
    have:k=(k - zs.length) + zs.length:=by omega
    rw[this,Nat.add_mod_right]; simp
theorem GX (zs:List AV) : ∀ n,mU.FQ zs n=ig zs n
 | 0=>rfl
 | n + 1=>by simp only[mU.FQ,ig,GX zs n]
def lG:List AV→List (Nat × Nat × AV)→Option (List AV)
 | cs,[]=>some cs
 | cs,(off,size,v) :: rest=>if v.cells.all oneCell=true∧v.cells.length=size∧off + size≤cs.length then lG (cs.take off++v.cells++cs.drop (off + size)) rest else none
def mO (t:TypeId) (x:AV) (K:RB→(Nat→AV)→Prop) : Prop:=x.cells.all oneCell=true∧1≤x.cells.length∧K (.row x.cells false t 0) (fun b=>.ptr b 0)
def bn (elem len:Nat) (zs:List AV) (parts:List (Nat × Nat × AV)) (K:RB→(Nat→AV)→Prop) : Prop :=
 ∃ l,lG (ig zs len) parts=some l∧K (.row l false elem 0) (fun b=>.slc b 0 len (.ex len))
def qm (elem bytes:Nat) (zs:List AV) (x y:AV) (K:RB→(Nat→AV)→Prop) : Prop :=
 ∃ kl kc l c,x=N kl l∧y=N kc c∧0≤l∧l≤c∧c.toNat * bytes≤140737488355328∧c.toNat≤140737488355328∧K (.row (ig zs c.toNat) false elem 0) (fun b=>.slc b 0 l.toNat (.ex c.toNat))
def OO (el:Nat) (x:AV) (K:RB→(Nat→AV)→Prop) : Prop :=
 ∃ s,x=St s∧K (.row (s.map fun b=>N .u8 b.toNat) true el 0) (fun b=>.slc b 0 s.length (.op 1))
def ZU (x:AV) (K:RB→(Nat→AV)→Prop) : Prop:=∃ s,x=St s∧K (.jq s 0) (fun b=>.ptr b 0)
def oo (P:Program) (o:Oper) (e:Operand→AV) (K:RB→(Nat→AV)→Prop) : Prop :=
 match o.op with
 | .alloc t=>match iK P t with
   | some zs=>match Nat.ble 1 zs.length with
     | true=>K (.row zs false t 0) (fun b=>.ptr b 0)
     | false=>False
   | none=>False
 | .box t x=>mO t (e x) K
 | .buildSlice t len parts=>match P.underlying t with
   | some (.slice elem)=>match aZ P elem,iK P elem with
     | some size,some zs=>match Nat.ble 1 size,Nat.beq zs.length size,Nat.ble (len * size) 10000 with
       | true,true,true=>bn elem len zs (parts.toList.map fun p=>(p.1 * size,size,e p.2)) K
       | _,_,_=>False
     | _,_=>False
   | _=>False
 | .makeSlice t l c=>match P.underlying t with
   | some (.slice elem)=>match aZ P elem,wH P elem,iK P elem with
     | some size,some bytes,some zs=>match Nat.ble 1 size,Nat.beq zs.length size with
       | true,true=>qm elem bytes zs (e l) (e c) K
       | _,_=>False
     | _,_,_=>False
   | _=>False
 | .makeMap t r=>match r with
   | none=>K (.map [] 0) (fun b=>.map b)
   | some _=>False
 | .convert src dst x=>match P.underlying src,P.underlying dst with
   | some .string,some (.slice el)=>match P.underlying el,aZ P el with
     | some (.int .u8),some 1=>OO el (e x) K
     | _,_=>False
   | _,_=>False
 | .range t x=>match P.underlying t with
   | some .string=>ZU (e x) K
   | _=>False
 | _=>False
section
variable {P:Program} {ρ:Ren} {o:Oper} {e:Operand→AV} {M:RM} {w:World}
def DJ (P:Program) (o:Oper) (e:Operand→AV) (x:RB) (mk:Nat→AV) : Prop:=∃ y,eY P o e=some (y,mk)∧vP x y
theorem rR {tree:Tree AV} {zs:List AV} {n k:Nat} {v:AV} (hk:k<n) (h:tree.get k=some v) : cellAt tree zs n k=some v:=by
 unfold cellAt
 rw[aT.2 (by omega),h]
theorem wK {tree:Tree AV} {zs:List AV} {n k:Nat} {v:AV} (hk:k<n) (h:tree.get k=none) (hz:zs[k % zs.length]?=some v) : cellAt tree zs n k=some v:=by
 unfold cellAt
 rw[aT.2 (by omega),h]
 simp only
 split
 ·simp at hz
 ·rename_i z
  simp[Nat.mod_one] at hz
  rw[hz]
 ·rw[bQ]; exact hz
theorem Qx {size n:Nat} {zs:List AV} : ∀ (parts:List (Nat × AV)) (t:Tree AV) (l:List AV) {l' : List AV},l.length=n→(∀ (k:Nat) (v:AV),l[k]?=some v→cellAt t zs n k=some v) →
  lG l (parts.map fun p=>(p.1 * size,size,p.2))=some l'→∃ t',BU size n t parts=some t'∧l'.length=n∧∀ (k:Nat) (v:AV),l'[k]?=some v→cellAt t' zs n k=some v
 | [],t,l,l',hl,h,hf=>by
   simp only[List.map_nil,lG] at hf
   cases hf
   exact⟨t,rfl,hl,h⟩
 | (i,v) :: parts,t,l,l',hl,h,hf=>by
   simp only[List.map_cons,lG] at hf
   split at hf <;> first | (cases hf; done) | skip
   rename_i hc
   obtain⟨c1,c2,c3⟩:=hc
   obtain⟨t1,ht1⟩:=jQ v.cells t (i * size) c1
   obtain⟨_,hget⟩:=fC _ _ _ ht1
   obtain⟨t',k1,k2,k3⟩:=Qx (zs:=zs) parts t1 _ (n:=n) (by simp; omega) (fun k u hk=>by
    rw[nu hget]
    by_cases hin:i * size≤k∧k<i * size + v.cells.length
    ·rw[if_pos hin,if_pos (by omega)]
     rw[List.append_assoc,List.getElem?_append_right (by simp; omega),List.getElem?_append_left (by simp; omega)] at hk
     rw[← hk]; congr 1; simp; omega
    ·rw[if_neg hin]
     refine h k u ?_
     rw[← hk]
     by_cases hlt:k<i * size
     ·rw[List.append_assoc,List.getElem?_append_left (by simp; omega),List.getElem?_take,if_pos hlt]
     ·rw[List.getElem?_append_right (by simp; omega),List.getElem?_drop]
      congr 1; simp; omega) hf
   refine⟨t', ?_,k2,k3⟩
   simp only[BU,nS c2,aT.2 (show i * size + size≤n by omega),ht1]
   exact k1
theorem MG {K:RB→(Nat→AV)→Prop} {x:RB} {mk:Nat→AV} {y:dU} (hk:K x mk) (ha:eY P o e=some (y,mk)) (hl:vP x y) : ∃ x mk,DJ P o e x mk∧K x mk:=⟨x,mk,⟨y,ha,hl⟩,hk⟩
theorem zN {K:RB→(Nat→AV)→Prop} (h:oo P o e K) : ∃ x mk,DJ P o e x mk∧K x mk:=by
 cases hop:o.op
 case alloc t =>
  simp only[oo,hop] at h
  split at h <;> first | (cases h; done) | skip
  rename_i zs hz
  split at h <;> first | (cases h; done) | skip
  rename_i hb
  refine MG h (y:=.row zs.length .leaf zs false t 0) (by simp only[eY,hop,hz,hb]) ⟨rfl,rfl,rfl,rfl,fun k v hk=>?_⟩
  have hlt:=(List.getElem?_eq_some_iff.1 hk).1
  exact wK hlt (by simp[Tree.get]) (by rw[Nat.mod_eq_of_lt hlt]; exact hk)
 case box t x =>
  simp only[oo,hop] at h
  obtain⟨h1,h2,hk⟩:=h
  obtain⟨t',ht⟩:=jQ (e x).cells .leaf 0 h1
  obtain⟨_,hget⟩:=fC _ _ _ ht
  refine MG hk (y:=.row (e x).cells.length t' [] false t 0) (by simp only[eY,hop,ht,aT.2 h2]) ⟨rfl,rfl,rfl,rfl,fun k v hk=>?_⟩
  have hlt:=(List.getElem?_eq_some_iff.1 hk).1
  exact rR hlt (by rw[hget,if_pos (by omega)]; simpa using hk)
 case buildSlice t len parts =>
  simp only[oo,hop] at h
  split at h <;> first | (cases h; done) | skip
  rename_i elem hu
  split at h <;> first | (cases h; done) | skip
  rename_i size zs hs hz
  split at h <;> first | (cases h; done) | skip
  rename_i h1 h2 h3
  obtain⟨l,hf,hk⟩:=h
  have h2':=bf h2
  have h1':=aW h1
  have e0:(parts.toList.map fun p=>(p.1 * size,size,e p.2))=(parts.toList.map fun p=>(p.1,e p.2)).map fun p=>(p.1 * size,size,p.2):=by simp
  rw[e0] at hf
  obtain⟨t',k1,k2,k3⟩:=Qx (zs:=zs) (n:=len * size) _ .leaf _ (by rw[nP,h2']) (fun k v hk=>by
   have hlt:=(List.getElem?_eq_some_iff.1 hk).1
   rw[nP] at hlt
   rw[Hq zs (by omega) len k hlt] at hk
   exact wK (by rw[← h2']; exact hlt) (by simp[Tree.get]) hk) hf
  exact MG hk (y:=.row (len * size) t' zs false elem 0) (by simp only[eY,hop,hu,hs,hz,h1,h2,h3,k1]) ⟨k2,rfl,rfl,rfl,k3⟩
 case makeSlice t l c =>
  simp only[oo,hop] at h
  split at h <;> first | (cases h; done) | skip
  rename_i elem hu
  split at h <;> first | (cases h; done) | skip
  rename_i size bytes zs hs hb hz
  split at h <;> first | (cases h; done) | skip
  rename_i h1 h2
  obtain⟨kl,kc,nl,nc,hl,hc,h3,h4,h5,h6,hk⟩:=h
  have h2':=bf h2
  have h1':=aW h1
  refine MG hk (y:=.row (nc.toNat * size) .leaf zs false elem 0) ?_ ⟨by rw[nP,h2'],rfl,rfl,rfl,fun k v hk=>?_⟩
  ·simp only[eY,hop,hu,hl,hc,qO h3,qO (show 0≤nc by omega),hs,hb,hz,h1,h2,aT.2 (show nl.toNat≤nc.toNat by omega),aT.2 h5,aT.2 h6]
  ·have hlt:=(List.getElem?_eq_some_iff.1 hk).1
   rw[nP] at hlt
   rw[Hq zs (by omega) _ k hlt] at hk
   exact wK (by rw[← h2']; exact hlt) (by simp[Tree.get]) hk
 case makeMap t r =>
  simp only[oo,hop] at h
  split at h <;> first | (cases h; done) | skip
  exact MG h (y:=.map [] 0) (by simp only[eY,hop]) ⟨rfl,rfl⟩
 case convert src dst x =>
  simp only[oo,hop] at h
  split at h <;> first | (cases h; done) | skip
  rename_i el hs hd
  split at h <;> first | (cases h; done) | skip
  rename_i h1 h2
  obtain⟨s,hx,hk⟩:=h
  refine MG hk (y:=.row s.length (Tree.ofList (s.map fun b=>N .u8 b.toNat) 0 .leaf) [] true el 0) (by simp only[eY,hop,hs,hd,hx,h1,h2]) ⟨by simp,rfl,rfl,rfl,fun k v hk=>?_⟩
  have hlt:=(List.getElem?_eq_some_iff.1 hk).1
  exact rR (by simpa using hlt) (by rw[Tree.iR,if_pos (by omega)]; simpa using hk)
 case range t x =>
  simp only[oo,hop] at h
  split at h <;> first | (cases h; done) | skip
  rename_i hu
  obtain⟨s,hx,hk⟩:=h
  exact MG hk (y:=.jq ⟨⟨s⟩⟩ 0) (by simp only[eY,hop,hu,hx]) ⟨rfl,rfl⟩
 all_goals (simp only[oo,hop] at h)
theorem O6 {c:Operand→Value} {x:RB} {mk:Nat→AV} (hw:bC P ρ M w) (he:∀ x∈o.op.operands,aj ρ (e x) (c x)) (h:DJ P o e x mk) :
  ∃ ρ' w' u,(execOp c o).run P w=.ok (.value u) w'∧After P M ρ w (M.push x) ρ' w'∧aj ρ' (mk M.next) u:=by
 obtain⟨A,hA⟩:=hw
 obtain⟨y,ha,hle⟩:=h
 obtain⟨ρ',w',u,h1,h2,h3,h4⟩:=KH hA.rel hA.size (oh he ha w)
 obtain⟨k1,k2,k3⟩:=RM.Ag hA hle
 exact⟨ρ',w',u,h1,jg hA h3 h2 k1 k2 (by simp[AW.push]) k3,by rw[← hA.next]; exact h4⟩
end
end Go.Ab
