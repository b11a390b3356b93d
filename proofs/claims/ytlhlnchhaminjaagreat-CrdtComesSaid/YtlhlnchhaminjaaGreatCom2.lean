/- Part 2 of the ground of the proofs of this seat (texts Ab13 to R6). By an AI agent. -/
import Derived.Test.YtlhlnchhaminjaaGreatCom1
import Derived.LoopN
import Derived.Below
import Derived.ChangeSame
import Derived.Laws.StructEq
import Derived.Lib.UnsafeStr
set_option linter.unusedVariables false
set_option linter.unusedSimpArgs false
namespace Go.Ab
open Go Go.RowKit
theorem adx {v u:Value} (h:TW v u=true) : v=u:=by
 unfold TW at h
 split at h <;> first | rfl | (cases h; done) | skip
 ·simp at h; rw[h]
 ·simp at h; rw[h.1,h.2]
 ·rename_i a b
  simp only[decide_eq_true_eq] at h
  have:a.data=b.data:=Array.ext' h
  cases a; cases b; simp at this; rw[this]
theorem ah3 {a b:Cap} (h:adq a b=true) : a=b:=by
 unfold adq at h
 split at h <;> first | (cases h; done) | skip
 ·rw[bS h]
 ·rw[bS h]
theorem ale {a b:Fn} (h:agd a b=true) : a=b:=by
 unfold agd at h
 split at h <;> first | (cases h; done) | skip
 rw[bS h]
mutual
theorem yD:∀ (x y:AV),qQ x y=true→x=y
 | .top,y,h=>by cases y <;> simp[qQ] at h; rfl
 | .atl k,y,h=>by
   cases y <;> simp only[qQ] at h <;> first | (cases h; done) | skip
   rw[bS h]
 | .sc v,y,h=>by
   cases y <;> simp only[qQ] at h <;> first | (cases h; done) | skip
   rw[adx h]
 | .ptr b o,y,h=>by
   cases y <;> simp only[qQ,Bool.and_eq_true] at h <;> first | (cases h; done) | skip
   rw[bS h.1,bS h.2]
 | .slc b o l k,y,h=>by
   cases y <;> simp only[qQ,Bool.and_eq_true] at h <;> first | (cases h; done) | skip
   rw[bS h.1.1.1,bS h.1.1.2,bS h.1.2,ah3 h.2]
 | .emp b,y,h=>by
   cases y <;> simp only[qQ] at h <;> first | (cases h; done) | skip
   rw[bS h]
 | .map b,y,h=>by
   cases y <;> simp only[qQ] at h <;> first | (cases h; done) | skip
   rw[bS h]
 | .fn f xs ys,y,h=>by
   cases y <;> simp only[qQ,Bool.and_eq_true] at h <;> first | (cases h; done) | skip
   rw[ale h.1.1,sQ _ _ h.1.2,sQ _ _ h.2]
 | .ifc t v,y,h=>by
   cases y <;> simp only[qQ,Bool.and_eq_true] at h <;> first | (cases h; done) | skip
   rw[bS h.1,yD _ _ h.2]
 | .agg xs,y,h=>by
   cases y <;> simp only[qQ] at h <;> first | (cases h; done) | skip
   rw[sQ _ _ h]
 | .tup xs,y,h=>by
   cases y <;> simp only[qQ] at h <;> first | (cases h; done) | skip
   rw[sQ _ _ h]
theorem sQ:∀ (xs ys:List AV),uZ xs ys=true→xs=ys
 | [],ys,h=>by cases ys <;> simp[uZ] at h; rfl
 | x :: xs,ys,h=>by
   cases ys with
   | nil=>simp[uZ] at h
   | cons y ys =>
     simp only[uZ,Bool.and_eq_true] at h
     rw[yD _ _ h.1,sQ _ _ h.2]
end
theorem NU {x y:Option AV} (h:PY x y=true) : x=y:=by
 unfold PY at h
 split at h <;> first | rfl | (cases h; done) | skip
 rw[yD _ _ h]
theorem K5:∀ (x y:Tree AV),CW x y=true→x=y
 | .leaf,y,h=>by cases y <;> simp[CW] at h; rfl
 | .node l v r,y,h=>by
   cases y with
   | leaf=>simp[CW] at h
   | node l' v' r' =>
     simp only[CW,Bool.and_eq_true] at h
     rw[NU h.1.1,K5 _ _ h.1.2,K5 _ _ h.2]
theorem Bp {x y:dw} (h:Ij x y=true) : x=y:=by
 unfold Ij at h
 split at h <;> first | (cases h; done) | skip
 ·simp only[Bool.and_eq_true,beq_iff_eq] at h
  rw[bS h.1.1.1.1.1,K5 _ _ h.1.1.1.1.2,sQ _ _ h.1.1.1.2,h.1.1.2,bS h.1.2,bS h.2]
 ·rw[bS h]
theorem A7 {acc:List Nat} {j:Nat} : ∀ (es:List Edge),Nat.testBit (pR acc es) j=true→∃ e∈es,Region.binds .any e=true∧(j=e.on∨∃ m,acc[e.on]?=some m∧Nat.testBit m j=true)
 | [],h=>by simp[pR] at h
 | e :: es,h=>by
   simp only[pR] at h
   split at h
   ·rename_i hb
    rw[Nat.testBit_or,Nat.testBit_or,Bool.or_eq_true,Bool.or_eq_true] at h
    rcases h with(h | h) | h
    ·rw[Nat.testBit_two_pow] at h
     have h:=of_decide_eq_true h
     exact⟨e,.head _,hb,.inl h.symm⟩
    ·rw[dP] at h
     cases hm:acc[e.on]? with
     | none=>simp[hm] at h
     | some m=>exact⟨e,.head _,hb,.inr ⟨m,hm,by simpa [hm] using h⟩⟩
    ·obtain⟨e',h1,h2⟩:=A7 es h
     exact⟨e',.tail _ h1,h2⟩
   ·obtain⟨e',h1,h2⟩:=A7 es h
    exact⟨e',.tail _ h1,h2⟩
theorem Cc:∀ (L:List Oper) (acc:List Nat),(∀ i,i<acc.length→(oh L acc)[i]?=acc[i]?) ∧
  ∀ j o,L[j]?=some o→∃ pre,pre.length=acc.length + j∧(∀ i,i<acc.length + j→pre[i]?=(oh L acc)[i]?)∧(oh L acc)[acc.length + j]?=some (pR pre o.after.toList)
 | [],acc=>⟨fun _ _=>rfl,fun j o h=>by simp at h⟩
 | x :: L,acc=>by
   obtain⟨h1,h2⟩:=Cc L (acc++[pR acc x.after.toList])
   simp only[oh]
   have hpre:∀ i,i<acc.length→(oh L (acc++[pR acc x.after.toList]))[i]?=acc[i]?:=fun i hi=>by
    rw[h1 i (by simp; omega),List.getElem?_append_left hi]
   refine⟨hpre,fun j o hj=>?_⟩
   cases j with
   | zero =>
     simp at hj; subst hj
     refine⟨acc,rfl,fun i hi=>(hpre i hi).symm, ?_⟩
     rw[Nat.add_zero,h1 acc.length (by simp)]
     simp
   | succ j =>
     obtain⟨pre,a,b,c⟩:=h2 j o (by simpa using hj)
     simp only[List.length_append,List.length_singleton] at a b c
     exact⟨pre,by omega,fun i hi=>b i (by omega),by rw[show acc.length + (j + 1)=acc.length + 1 + j by omega]; exact c⟩
section
variable {L:List Oper} {S:Nat→Prop}
def Closed (L:List Oper) (S:Nat→Prop) : Prop:=∀ i o,L[i]?=some o→S i→∀ e∈o.after.toList,Region.binds .any e=true→S e.on
theorem ZW (hS:Closed L S) : ∀ (i:Nat) (m:Nat),(oh L [])[i]?=some m→(∀ o,L[i]?=some o→∀ e∈o.after.toList,Region.binds .any e=true→S e.on)→i<L.length→∀ j,Nat.testBit m j=true→S j:=by
 intro i
 induction i using Nat.strongRecOn with
 | _ i ih =>
   intro m hm hd hi j hj
   obtain⟨pre,h1,h2,h3⟩:=(Cc L []).2 i L[i] (by simp[hi])
   simp only[List.length_nil,Nat.zero_add] at h1 h2 h3
   rw[hm] at h3
   cases h3
   obtain⟨e,he,hb,hj⟩:=A7 _ hj
   have hon:=hd L[i] (by simp[hi]) e he hb
   rcases hj with rfl | ⟨m',hm',hj⟩
   ·exact hon
   ·have hlt:e.on<i:=by
     rcases Nat.lt_or_ge e.on pre.length with h | h
     ·omega
     ·rw[List.getElem?_eq_none h] at hm'; cases hm'
    rw[h2 e.on hlt] at hm'
    exact ih e.on hlt m' hm' (fun o ho e' he' hb'=>hS e.on o ho hon e' he' hb') (by omega) j hj
end
theorem MH {P:Program} {es:List Nat} : ∀ (os:List Oper) (ms:List Nat) (i0 j:Nat) (r:Row),(uW P es os ms i0)[j]?=some r →
  ∃ o m,os[j]?=some o∧ms[j]?=some m∧r = { i:=i0 + j,o,m,lev:=oH m es 0 0,kd:=kindOf P o }
 | [],_,_,_,_,h=>by simp[uW] at h
 | _ :: _,[],_,_,_,h=>by simp[uW] at h
 | o :: os,m :: ms,i0,0,r,h=>by
   simp only[uW,List.getElem?_cons_zero,Option.some.injEq] at h
   exact⟨o,m,rfl,rfl,by rw[← h]; rfl⟩
 | o :: os,m :: ms,i0,j + 1,r,h=>by
   simp only[uW,List.getElem?_cons_succ] at h
   obtain⟨o',m',a,b,c⟩:=MH os ms (i0 + 1) j r h
   exact⟨o',m',by simpa using a,by simpa using b,by rw[c]; congr 1; omega⟩
theorem Pz {P:Program} {es:List Nat} : ∀ (os:List Oper) (ms:List Nat) (i0 j:Nat) (o:Oper) (m:Nat),os[j]?=some o→ms[j]?=some m →
  (uW P es os ms i0)[j]?=some { i:=i0 + j,o,m,lev:=oH m es 0 0,kd:=kindOf P o }
 | [],_,_,_,_,_,h,_=>by simp at h
 | _ :: _,[],_,_,_,_,_,h=>by simp at h
 | o :: os,m :: ms,i0,0,o',m',h,h'=>by
   simp at h h'; subst h; subst h'; rfl
 | o :: os,m :: ms,i0,j + 1,o',m',h,h'=>by
   simp only[uW,List.getElem?_cons_succ]
   rw[Pz os ms (i0 + 1) j o' m' (by simpa using h) (by simpa using h')]
   congr 2; omega
theorem Gd:∀ (L:List Oper) (acc:List Nat),(oh L acc).length=acc.length + L.length
 | [],acc=>by simp[oh]
 | x :: L,acc=>by simp only[oh,Gd L,List.length_append,List.length_cons,List.length_nil]; omega
theorem uo {P:Program} : ∀ (L:List Oper) (i0 x:Nat),x∈BI P L i0↔∃ j o,L[j]?=some o∧x=i0 + j∧lI (kindOf P o)=true
 | [],i0,x=>by simp[BI]
 | o :: L,i0,x=>by
   have ih:=uo (P:=P) L (i0 + 1) x
   simp only[BI]
   split
   ·rename_i hk
    rw[List.mem_cons,ih]
    constructor
    ·rintro(rfl | ⟨j,o',a,b,c⟩)
     ·exact⟨0,o,rfl,rfl,hk⟩
     ·exact⟨j + 1,o',by simpa using a,by omega,c⟩
    ·rintro⟨j,o',a,b,c⟩
     cases j with
     | zero=>exact .inl (by omega)
     | succ j=>exact .inr ⟨j,o',by simpa using a,by omega,c⟩
   ·rename_i hk
    rw[ih]
    constructor
    ·rintro⟨j,o',a,b,c⟩
     exact⟨j + 1,o',by simpa using a,by omega,c⟩
    ·rintro⟨j,o',a,b,c⟩
     cases j with
     | zero=>simp at a; subst a; rw[hk] at c; cases c
     | succ j=>exact⟨j,o',by simpa using a,by omega,c⟩
theorem UY:∀ (L:List Oper) (i0:Nat) (t0:Tree Nat) (t j:Nat),(abF L i0 t0).get t=some j→(∃ q o,L[q]?=some o∧j=i0 + q∧o.dst=some t)∨t0.get t=some j
 | [],_,_,_,_,h=>.inr h
 | o :: L,i0,t0,t,j,h=>by
   simp only[abF] at h
   rcases UY L (i0 + 1) _ t j h with⟨q,o',a,b,c⟩ | h
   ·exact .inl ⟨q + 1,o',by simpa using a,by omega,c⟩
   ·cases hd:o.dst with
    | none=>rw[hd] at h; exact .inr h
    | some d =>
      rw[hd] at h
      simp only[Tree.bQ] at h
      split at h
      ·rename_i e
       cases h
       exact .inl ⟨0,o,rfl,rfl,by rw[hd,e]⟩
      ·exact .inr h
theorem Kg:∀ (L:List Oper) (i0:Nat),Ls L i0=true→∀ j o,L[j]?=some o→∀ e∈o.after.toList,Region.binds .any e=true→e.on<i0 + j
 | [],_,_,_,_,h=>by simp at h
 | x :: L,i0,h,j,o,ho=>by
   simp only[Ls,Bool.and_eq_true,List.all_eq_true] at h
   cases j with
   | zero =>
     simp at ho; subst ho
     intro e he hb
     have:=h.1 e he
     rw[hb] at this
     simp only[Bool.not_true,Bool.false_or] at this
     have:=bL this
     omega
   | succ j =>
     intro e he hb
     have:=Kg L (i0 + 1) h.2 j o (by simpa using ho) e he hb
     omega
theorem Jp {ms:List Nat} : ∀ (es done:List Nat),LQ ms done es=true→∀ l1 x l2,es=l1++x :: l2→∀ y,y∈done∨y∈l1→Nat.testBit ((ms[x]?).getD 0) y=true
 | [],_,_,l1,x,l2,h=>by simp at h
 | z :: es,done,hc,l1,x,l2,he=>by
   simp only[LQ,Bool.and_eq_true,List.all_eq_true] at hc
   intro y hy
   cases l1 with
   | nil =>
     simp at he
     obtain⟨rfl,_⟩:=he
     rcases hy with hy | hy
     ·have:=hc.1 y hy; rwa [dP] at this
     ·simp at hy
   | cons z' l1 =>
     simp at he
     obtain⟨rfl,he⟩:=he
     refine Jp es (z :: done) hc.2 l1 x l2 he y ?_
     rcases hy with hy | hy
     ·exact .inl (.tail _ hy)
     ·rcases List.mem_cons.1 hy with e | hy
      ·exact .inl (by rw[e]; exact .head _)
      ·exact .inr hy
theorem Ap {m:Nat} : ∀ (es:List Nat) (r oW:Nat),oH m es r oW=oW∨∃ q x,es[q]?=some x∧Nat.testBit m x=true∧oH m es r oW=r + q + 1
 | [],_,_=>.inl rfl
 | x :: es,r,oW=>by
   simp only[oH]
   split
   ·rename_i hb
    rcases Ap (m:=m) es (r + 1) (r + 1) with h | ⟨q,y,a,b,c⟩
    ·exact .inr ⟨0,x,rfl,hb,h⟩
    ·exact .inr ⟨q + 1,y,by simpa using a,b,by rw[c]; omega⟩
   ·rcases Ap (m:=m) es (r + 1) oW with h | ⟨q,y,a,b,c⟩
    ·exact .inl h
    ·exact .inr ⟨q + 1,y,by simpa using a,b,by rw[c]; omega⟩
theorem Ew {s:RS} : ∀ (rows:List Row) (seen:List Nat),Jq s rows seen=true →
  (∀ (j:Nat) (r:Row) (b:Nat),rows[j]?=some r→s.bY.get r.i=some b→b ∉ seen) ∧
  ∀ (j1 j2:Nat) (r1 r2:Row) (b:Nat),rows[j1]?=some r1→rows[j2]?=some r2→s.bY.get r1.i=some b→s.bY.get r2.i=some b→j1=j2
 | [],_,_=>⟨fun j r b h=>by simp at h,fun j1 j2 r1 r2 b h=>by simp at h⟩
 | r :: rows,seen,h=>by
   simp only[Jq] at h
   split at h
   ·rename_i hn
    obtain⟨h1,h2⟩:=Ew rows seen h
    refine⟨fun j r' b hj hb=>?_,fun j1 j2 r1 r2 b a1 a2 b1 b2=>?_⟩
    ·cases j with
     | zero=>simp at hj; subst hj; rw[hn] at hb; cases hb
     | succ j=>exact h1 j r' b (by simpa using hj) hb
    ·cases j1 with
     | zero=>simp at a1; subst a1; rw[hn] at b1; cases b1
     | succ j1=>cases j2 with
       | zero=>simp at a2; subst a2; rw[hn] at b2; cases b2
       | succ j2=>rw[h2 j1 j2 r1 r2 b (by simpa using a1) (by simpa using a2) b1 b2]
   ·rename_i b0 hb0
    simp only[Bool.and_eq_true,Bool.not_eq_true',List.any_eq_false] at h
    obtain⟨h1,h2⟩:=Ew rows (b0 :: seen) h.2
    have hns:b0 ∉ seen:=fun hm=>by
     have:=h.1 b0 hm
     rw[show Nat.beq b0 b0=true from by simp] at this
     exact this rfl
    refine⟨fun j r' b hj hb=>?_,fun j1 j2 r1 r2 b a1 a2 b1 b2=>?_⟩
    ·cases j with
     | zero=>simp at hj; subst hj; rw[hb0] at hb; cases hb; exact hns
     | succ j=>exact fun hm=>h1 j r' b (by simpa using hj) hb (.tail _ hm)
    ·cases j1 with
     | zero =>
       simp at a1; subst a1
       rw[hb0] at b1; cases b1
       cases j2 with
       | zero=>rfl
       | succ j2=>exact absurd (.head _) (h1 j2 r2 b0 (by simpa using a2) b2)
     | succ j1=>cases j2 with
       | zero =>
         simp at a2; subst a2
         rw[hb0] at b2; cases b2
         exact absurd (.head _) (h1 j1 r1 b0 (by simpa using a1) b1)
       | succ j2=>rw[h2 j1 j2 r1 r2 b (by simpa using a1) (by simpa using a2) b1 b2]
structure pF (P:Program) (nt:Nat) (ops:Array Oper) (ri:RI) : Prop where
 ms:ri.ms=oh ops.toList []
 es:ri.es=BI P ops.toList 0
 rows:ri.rows=uW P ri.es ops.toList ri.ms 0
 AR:∀ (j:Nat) (o:Oper),ops.toList[j]?=some o→∀ e∈o.after.toList,Region.binds .any e=true→e.on<j
 chain:∀ l1 x l2,ri.es=l1++x :: l2→∀ y,y∈l1→Nat.testBit ((ri.ms[x]?).getD 0) y=true
 dst:∀ (j:Nat) (r:Row),ri.rows[j]?=some r→∀ d,r.o.dst=some d→ri.wr.get d=some r.i∧d<nt
 wrs:∀ t j,ri.wr.get t=some j→∃ o,ops.toList[j]?=some o∧o.dst=some t
theorem FD {P:Program} {nt:Nat} {ops:Array Oper} {ri:RI} (h:Az P nt ops=some ri) : pF P nt ops ri:=by
 unfold Az at h
 simp only at h
 split at h <;> first | cases h | skip
 rename_i hc
 simp only[Bool.and_eq_true,List.all_eq_true] at hc
 obtain⟨⟨h1,h2⟩,h3⟩:=hc
 refine⟨rfl,rfl,rfl,fun j o ho e he hb=>?_,fun l1 x l2 he y hy=>?_,fun j r hr d hd=>?_,fun t j ht=>?_⟩
 ·have:=Kg _ _ h1 j o ho e he hb; omega
 ·exact Jp _ _ h2 l1 x l2 he y (.inr hy)
 ·have:=h3 r (List.mem_of_getElem? hr)
  rw[hd] at this
  simp only[Bool.and_eq_true] at this
  have h5:=bL this.2
  have h4:=this.1
  split at h4
  ·rename_i j' hj'; rw[hj',bS h4]; exact⟨rfl,h5⟩
  ·cases h4
 ·rcases UY _ _ _ _ _ ht with⟨q,o,a,b,c⟩ | h
  ·exact⟨o,by rw[b,Nat.zero_add]; exact a,c⟩
  ·simp[Tree.get] at h
section
variable {P:Program} {X:Ext} {base:Base} {nt:Nat} {ops:Array Oper} {ri:RI}
theorem pF.row (ht:pF P nt ops ri) {j:Nat} {r:Row} (h:ri.rows[j]?=some r) :
  r.i=j∧ops.toList[j]?=some r.o∧ri.ms[j]?=some r.m∧r.lev=oH r.m ri.es 0 0∧r.kd=kindOf P r.o:=by
 rw[ht.rows] at h
 obtain⟨o,m,a,b,rfl⟩:=MH _ _ _ _ _ h
 exact⟨by simp,a,b,rfl,rfl⟩
theorem pF.ex (ht:pF P nt ops ri) {j:Nat} {o:Oper} (h:ops.toList[j]?=some o) : ∃ r,ri.rows[j]?=some r∧r.o=o:=by
 have hl:ri.ms.length=ops.toList.length:=by rw[ht.ms,Gd]; simp
 have hj:j<ri.ms.length:=by rw[hl]; exact(List.getElem?_eq_some_iff.1 h).1
 exact⟨_,by rw[ht.rows]; exact Pz _ _ _ _ _ ri.ms[j] h (by simp[hj]),rfl⟩
theorem pF.wC (ht:pF P nt ops ri) {j:Nat} {r:Row} (h:ri.rows[j]?=some r) : j∈ri.es↔lI r.kd=true:=by
 obtain⟨h1,h2,h3,h4,h5⟩:=ht.row h
 rw[ht.es,uo,h5]
 constructor
 ·rintro⟨q,o,a,b,c⟩
  rw[Nat.zero_add] at b; subst b
  rw[h2] at a; cases a; exact c
 ·exact fun hk=>⟨j,r.o,h2,by simp,hk⟩
theorem pF.ahead (ht:pF P nt ops ri) {S:Nat→Prop} (hS:Closed ops.toList S) {j:Nat} {r:Row} (h:ri.rows[j]?=some r) (hr:∀ e∈r.o.after.toList,Region.binds .any e=true→S e.on) {q:Nat} (hq:Nat.testBit r.m q=true) : S q:=by
 obtain⟨h1,h2,h3,h4,h5⟩:=ht.row h
 exact ZW hS j r.m (by rw[← ht.ms]; exact h3) (fun o ho=>by rw[h2] at ho; cases ho; exact hr) (List.getElem?_eq_some_iff.1 h2).1 q hq
theorem pF.Fv (ht:pF P nt ops ri) {S:Nat→Prop} (hS:Closed ops.toList S) {j:Nat} (hj:S j) {o:Oper} (ho:ops.toList[j]?=some o) {q:Nat} (hq:Nat.testBit ((ri.ms[j]?).getD 0) q=true) : S q:=by
 obtain⟨r,hr,rfl⟩:=ht.ex ho
 obtain⟨h1,h2,h3,h4,h5⟩:=ht.row hr
 rw[h3] at hq
 exact ht.ahead hS hr (fun e he hb=>hS j _ h2 hj e he hb) hq
def LV (ρ:Ren) (T0:Tree AV) (wr:Tree Nat) (vals:Tree AV) (S:Nat→Prop) (a:Act) : Prop :=
 ∀ t,(∀ j,wr.get t=some j→S j→az ρ ((vals.get j).getD .top) (a.tmps.getD t undef))∧((∀ j,wr.get t=some j→¬ S j)→az ρ ((T0.get t).getD .top) (a.tmps.getD t undef))
structure Inv (P:Program) (base:Base) (nt:Nat) (ops:Array Oper) (ri:RI) (T0:Tree AV) (n0:Nat) (ρ0:Ren) (w0:World) (k:Nat) (done rest:List Nat) (s:RS) (S:Nat→Prop) (ρ:Ren) (a:Act) (w:World) : Prop where
 es:ri.es=done++rest
 len:done.length=k
 closed:Closed ops.toList S
 dn:∀ x∈done,S x
 rs:∀ x∈rest,¬ S x
 lev:∀ (j:Nat) (r:Row),ri.rows[j]?=some r→lI r.kd=false→S j→r.lev≤k
 size:a.tmps.size=nt
 defers:a.defers=[]
 slot:LV ρ T0 ri.wr s.vals S a
 nX:bX P base ρ s.A w
 step:Step base n0 ρ0 w0 ρ w
 next:n0≤s.A.next
 bid:∀ j b,s.bY.get j=some b→n0≤b∧b<s.A.next∧(¬ S j→ρ b=none)∧j<ops.size
theorem zF {T0:Tree AV} {wr:Tree Nat} {k:Nat} : ∀ (rows:List Row) (s s' : RS),Ca P ops T0 wr k rows s=some s' →
  (∀ j,(∀ r∈rows,r.i=j→¬ (r.lev=k∧lI r.kd=false))→s'.vals.get j=s.vals.get j∧s'.bY.get j=s.bY.get j) ∧
  (∀ ρ w,bX P base ρ s.A w→bX P base ρ s'.A w)∧s.A.next≤s'.A.next∧(∀ j b,s'.bY.get j=some b→s.bY.get j=some b∨(s.A.next≤b∧b<s'.A.next∧∃ r∈rows,r.i=j))
 | [],s,s',h=>by
   simp only[Ca] at h; cases h
   exact⟨fun _ _=>⟨rfl,rfl⟩,fun _ _ h=>h,Nat.le_refl _,fun _ _ h=>.inl h⟩
 | r :: rows,s,s',h=>by
   simp only[Ca] at h
   split at h
   ·obtain⟨a,b,c,d⟩:=zF rows s s' h
    exact⟨fun j hj=>a j fun r' hr'=>hj r' (.tail _ hr'),b,c,fun j b' hb'=>(d j b' hb').imp id fun⟨x,y,r',z,u⟩=>⟨x,y,r',.tail _ z,u⟩⟩
   ·rename_i hk
    simp only[Bool.and_eq_true,Bool.not_eq_true'] at hk
    have Ae:=bS hk.1
    have key:∀ (v:AV),Ca P ops T0 wr k rows { s with vals:=s.vals.set r.i v } = some s' →
      (∀ j,(∀ r'∈r :: rows,r'.i=j→¬ (r'.lev=k∧lI r'.kd=false))→s'.vals.get j=s.vals.get j∧s'.bY.get j=s.bY.get j) ∧
      (∀ ρ w,bX P base ρ s.A w→bX P base ρ s'.A w)∧s.A.next≤s'.A.next∧(∀ j b,s'.bY.get j=some b→s.bY.get j=some b∨(s.A.next≤b∧b<s'.A.next∧∃ r'∈r :: rows,r'.i=j)):=by
     intro v h
     obtain⟨a,b,c,d⟩:=zF rows _ s' h
     refine⟨fun j hj=>?_,b,c,fun j b' hb'=>(d j b' hb').imp id fun⟨x,y,r',z,u⟩=>⟨x,y,r',.tail _ z,u⟩⟩
     obtain⟨e1,e2⟩:=a j fun r' hr'=>hj r' (.tail _ hr')
     refine⟨?_,e2⟩
     rw[e1]
     simp only[Tree.bQ]
     rw[if_neg]
     intro e
     exact hj r (.head _) e.symm ⟨Ae,hk.2⟩
    split at h <;> first | cases h | skip
    ·exact key _ h
    ·split at h <;> first | cases h | skip
     ·split at h <;> first | cases h | skip
      exact key _ h
     ·split at h <;> first | cases h | skip
      exact key _ h
     ·split at h <;> first | cases h | skip
      rename_i x mk hx
      obtain⟨a,b,c,d⟩:=zF rows _ s' h
      simp only[AW.push] at c d
      refine⟨fun j hj=>?_,fun ρ w hw=>b ρ w (EC hw x),by omega,fun j b' hb'=>?_⟩
      ·obtain⟨e1,e2⟩:=a j fun r' hr'=>hj r' (.tail _ hr')
       have hne:j≠r.i:=fun e=>hj r (.head _) e.symm ⟨Ae,hk.2⟩
       simp only[Tree.bQ,if_neg hne] at e1 e2
       exact⟨e1,e2⟩
      ·rcases d j b' hb' with h | h
       ·rw[Tree.bQ] at h
        split at h
        ·rename_i e; cases h; exact .inr ⟨Nat.le_refl _,by omega,r,.head _,e.symm⟩
        ·exact .inl h
       ·obtain⟨x1,x2,r',z,u⟩:=h
        exact .inr ⟨by omega,x2,r',.tail _ z,u⟩
variable {T0:Tree AV} {n0:Nat} {ρ0:Ren} {w0:World} {k:Nat} {done rest:List Nat} {s:RS} {S:Nat→Prop} {ρ:Ren} {a:Act} {w:World}
theorem X5 (ht:pF P nt ops ri) (hI:Inv P base nt ops ri T0 n0 ρ0 w0 k done rest s S ρ a w) {i:Nat} {r:Row} (hr:ri.rows[i]?=some r) (hns:¬ S i) (hd:∀ e∈r.o.after.toList,Region.binds .any e=true→S e.on)
  (hok:wJ ri r=true) : ∀ x∈r.o.op.operands,az ρ (jD T0 ri.wr s.vals r.m x) (a.eval x):=by
 intro x hx
 have hx' : Kz ri r x=true:=by
  unfold wJ at hok
  exact List.all_eq_true.1 hok x (by simpa using hx)
 cases x with
 | tmp t =>
   obtain⟨h1,h2⟩:=hI.slot t
   simp only[jD,Act.eval]
   simp only[Kz] at hx'
   cases hw:ri.wr.get t with
   | none =>
     simp only
     exact h2 fun j hj=>by rw[hw] at hj; cases hj
   | some j =>
     rw[hw] at hx'
     simp only
     cases hb:Nat.testBit r.m j with
     | true =>
       simp only
       exact h1 j hw (ht.ahead hI.closed hr hd hb)
     | false =>
       simp only
       refine h2 fun j' hj'=>?_
       rw[hw] at hj'; cases hj'
       simp only[hb,Bool.false_or,Bool.or_eq_true] at hx'
       obtain⟨e1,_⟩:=ht.row hr
       rcases hx' with hx' | hx'
       ·rw[bS hx',e1]; exact hns
       ·intro hS
        rw[dP,e1] at hx'
        obtain⟨o,ho,_⟩:=ht.wrs t j hw
        exact hns (ht.Fv hI.closed hS ho hx')
 | const v =>
   simp only[jD,pO,Act.eval]
   cases hv:lH v with
   | none=>exact .top _
   | some u=>exact jK hv
 | global g=>exact .top _
 | func f=>exact .fn _ _ _ _ _ rfl .nil .nil
theorem zk (ht:pF P nt ops ri) (hI:Inv P base nt ops ri T0 n0 ρ0 w0 k done rest s S ρ a w) {i:Nat} {r:Row} (hr:ri.rows[i]?=some r) (hd:∀ e∈r.o.after.toList,Region.binds .any e=true→S e.on) {b:Bool}
  (hw:FU ops ri.wr s.vals r=some b) : Region.wanted r.o (yielded ops a.tmps)=b:=by
 unfold FU at hw
 unfold Region.wanted
 split at hw
 ·rename_i hg; simp only[hg]; cases hw; rfl
 ·rename_i j want hg
  simp only[hg]
  split at hw <;> first | cases hw | skip
  rename_i d hdst
  split at hw <;> first | cases hw | skip
  rename_i j' hb hwr
  have hv:=(hI.slot d).1 j' hwr
  split at hw <;> first | cases hw | skip
  ·rename_i t he hval
   have he:=bS he
   subst he
   have hv:=hv (ht.ahead hI.closed hr hd hb)
   rw[hval] at hv
   have hc:=(bu hv).1
   have:a.tmps[d]?=some (.bool t):=by
    rw[Array.getD_eq_getD_getElem?] at hc
    cases hx:a.tmps[d]? with
    | none=>rw[hx] at hc; simp[undef] at hc
    | some y=>rw[hx] at hc; simp at hc; rw[hc]
   unfold yielded
   rw[hdst]
   simp[this]
  ·rename_i he hval
   have he:=bS he
   subst he
   have hv:=hv (ht.ahead hI.closed hr hd hb)
   rw[hval] at hv
   obtain⟨vs,hc,hrl⟩:=Ga hv
   cases hrl
   have hn:∀ t,a.tmps[d]?≠some (.bool t):=by
    intro t hx
    rw[Array.getD_eq_getD_getElem?,hx] at hc
    simp at hc
   unfold yielded
   rw[hdst]
   simp only[Option.bind_some]
   first
    | rfl
    | (split
       ·rename_i hx; exact absurd hx (hn _)
       ·rfl)
theorem IC (ht:pF P nt ops ri) {vals:Tree AV} (hs:LV ρ T0 ri.wr vals S a) (hsz:a.tmps.size=nt) {i:Nat} {r:Row} (hr:ri.rows[i]?=some r) {v:AV} {v' : Value} (hv:az ρ v v') (hvi:vals.get i=some v) {S' : Nat→Prop} (hS' : ∀ j,S' j↔S j∨j=i) :
  LV ρ T0 ri.wr vals S' (a.put r.o.dst v'):=by
 obtain⟨e1,e2,_⟩:=ht.row hr
 intro t
 have hput:(a.put r.o.dst v').tmps.getD t undef=if r.o.dst=some t then v' else a.tmps.getD t undef:=by
  cases hd:r.o.dst with
  | none=>simp[Act.put]
  | some d =>
    have:=(ht.dst i r hr d hd).2
    simp only[Act.put]
    rw[Wh _ _ _ _ (by rw[hsz]; exact this)]
    by_cases e:t=d
    ·subst e; simp
    ·rw[if_neg e,if_neg (by simpa using fun h=>e h.symm)]
 rw[hput]
 by_cases hd:r.o.dst=some t
 ·rw[if_pos hd]
  have hw:=(ht.dst i r hr t hd).1
  rw[e1] at hw
  refine⟨fun j hj _=>?_,fun h=>absurd ((hS' i).2 (.inr rfl)) (h i hw)⟩
  rw[hw] at hj; cases hj
  rw[hvi]; exact hv
 ·rw[if_neg hd]
  obtain⟨h1,h2⟩:=hs t
  have hne:∀ j,ri.wr.get t=some j→j≠i:=fun j hj e=>by
   subst e
   obtain⟨o,ho,hdo⟩:=ht.wrs t j hj
   rw[e2] at ho; cases ho
   exact hd hdo
  refine⟨fun j hj hS=>h1 j hj (((hS' j).1 hS).resolve_right (hne j hj)),fun h=>h2 fun j hj hS=>h j hj ((hS' j).2 (.inl hS))⟩
theorem IM {vals:Tree AV} (t:Nat) (v:Value) : ∀ (rows:List Row) (T:Tree AV),(∀ r∈rows,r.o.dst=some t→az ρ ((vals.get r.i).getD .top) v)→((∃ r∈rows,r.o.dst=some t)∨az ρ ((T.get t).getD .top) v) →
  az ρ (((ES T vals rows).get t).getD .top) v
 | [],T,_,h=>by
   rcases h with⟨r,hr,_⟩ | h
   ·cases hr
   ·exact h
 | r :: rows,T,h1,h2=>by
   simp only[ES]
   cases hd:r.o.dst with
   | none =>
     simp only
     refine IM t v rows T (fun r' hr'=>h1 r' (.tail _ hr')) ?_
     rcases h2 with⟨r',hr',hd'⟩ | h2
     ·rcases List.mem_cons.1 hr' with e | hr'
      ·subst e; rw[hd] at hd'; cases hd'
      ·exact .inl ⟨r',hr',hd'⟩
     ·exact .inr h2
   | some d =>
     simp only
     refine IM t v rows _ (fun r' hr'=>h1 r' (.tail _ hr')) ?_
     by_cases e:t=d
     ·subst e
      exact .inr (by rw[Tree.bQ,if_pos rfl]; exact h1 r (.head _) hd)
     ·rcases h2 with⟨r',hr',hd'⟩ | h2
      ·rcases List.mem_cons.1 hr' with e' | hr'
       ·subst e'; rw[hd] at hd'; cases hd'; exact absurd rfl e
       ·exact .inl ⟨r',hr',hd'⟩
      ·exact .inr (by rw[Tree.bQ,if_neg e]; exact h2)
end
section
variable {P:Program} {X:Ext} {base:Base} {nt:Nat} {ops:Array Oper} {ri:RI} {T0:Tree AV} {n0:Nat} {ρ0:Ren} {w0:World}
def gm (listed:Array Bool) (i:Nat) : Prop:=listed.getD i false=true
theorem wI {listed:Array Bool} {i:Nat} (hi:i<listed.size) (j:Nat) : gm (listed.setIfInBounds i true) j↔gm listed j∨j=i:=by
 unfold gm
 simp only[Array.getD_eq_getD_getElem?,Array.getElem?_setIfInBounds]
 by_cases e:i=j
 ·subst e; simp[hi]
 ·simp[e]; intro h; exact absurd h.symm e
theorem count_set {listed:Array Bool} {i:Nat} (hi:i<listed.size) (h:¬ gm listed i) {fuel:Nat} (hc:listed.toList.count false≤fuel + 1) : (listed.setIfInBounds i true).toList.count false≤fuel:=by
 have hf:listed.toList[i]?=some false:=by
  unfold gm at h
  rw[Array.getElem?_toList]
  simp only[Array.getD_eq_getD_getElem?] at h
  rw[Array.getElem?_eq_getElem hi] at h ⊢
  simpa using h
 rw[Array.toList_setIfInBounds]
 obtain⟨hl,hv⟩:=List.getElem?_eq_some_iff.1 hf
 rw[List.count_set hl,hv]
 have:0<listed.toList.count false:=List.count_pos_iff.2 (hv▸List.getElem_mem hl)
 simp only[beq_self_eq_true,if_true,show((true:Bool) == false)=false from rfl,Bool.false_eq_true,if_false]
 omega
theorem Pv {listed:Array Bool} (h:listed.toList.count false=0) {i:Nat} (hi:i<listed.size) : gm listed i:=by
 unfold gm
 have hm:listed[i]∈listed.toList:=by simp
 have:false ∉ listed.toList:=List.count_eq_zero.1 h
 simp only[Array.getD_eq_getD_getElem?,Array.getElem?_eq_getElem hi]
 cases hb:listed[i] with
 | true=>rfl
 | false=>rw[hb] at hm; exact absurd hm this
theorem DW {listed:Array Bool} (hsz:listed.size=ops.size) {i:Nat} (h:i∈Region.ready .any ops listed) :
  i<ops.size∧¬ gm listed i∧∃ o,ops[i]?=some o∧∀ e∈o.after.toList,Region.binds .any e=true→gm listed e.on:=by
 unfold Region.ready at h
 obtain⟨h1,h2⟩:=List.mem_filter.1 h
 have hi:i<ops.size:=by simpa using h1
 simp only[Bool.and_eq_true,Bool.not_eq_true'] at h2
 obtain⟨h3,h4⟩:=h2
 refine⟨hi, ?_,ops[i],by simp[hi], ?_⟩
 ·unfold gm
  simp only[Array.getD_eq_getD_getElem?,Array.getElem?_eq_getElem (show i<listed.size by omega)] at h3 ⊢
  simp at h3; simp[h3]
 ·intro e he hb
  simp only[hi,getElem?_pos,Option.map_some,Option.getD_some,Array.all_eq_true'] at h4
  have:=h4 e (by simpa using he)
  rw[hb] at this
  unfold gm
  simpa using this
theorem mem_ready {listed:Array Bool} (hsz:listed.size=ops.size) {i:Nat} (hi:i<ops.size) (hn:¬ gm listed i) {o:Oper} (ho:ops[i]?=some o) (he:∀ e∈o.after.toList,Region.binds .any e=true→gm listed e.on) :
  i∈Region.ready .any ops listed:=by
 unfold Region.ready
 refine List.mem_filter.2 ⟨by simpa using hi, ?_⟩
 simp only[Bool.and_eq_true,Bool.not_eq_true',ho,Option.map_some,Option.getD_some,Array.all_eq_true']
 constructor
 ·unfold gm at hn
  simp only[Array.getD_eq_getD_getElem?,Array.getElem?_eq_getElem (show i<listed.size by omega)] at hn ⊢
  simpa using hn
 ·intro e hm
  cases hb:Region.binds .any e with
  | false=>rfl
  | true =>
    have:=he e (by simpa using hm) hb
    unfold gm at this
    simpa using this
theorem I1 (ht:pF P nt ops ri) {listed:Array Bool} (hsz:listed.size=ops.size) (h:Region.ready .any ops listed=[]) : ∀ i,i<ops.size→gm listed i:=by
 intro i
 induction i using Nat.strongRecOn with
 | _ i ih =>
   intro hi
   by_cases hl:gm listed i
   ·exact hl
   ·have hm:=mem_ready hsz hi hl (o:=ops[i]) (by simp[hi]) fun e he hb=>ih e.on (ht.AR i ops[i] (by simp[hi]) e he hb) (by have:=ht.AR i ops[i] (by simp[hi]) e he hb; omega)
    rw[h] at hm; cases hm
def ab7 (P:Program) (X:Ext) (call:iO) (ops:Array Oper) (T0:Tree AV) (ri:RI) (k:Nat) (s:RS) (sF:RS) : List Nat→Prop
 | []=>s=sF
 | x :: rest=>∃ r s2,ri.rows[x]?=some r∧ai4 P X call ops T0 ri r s=some s2∧CO P X call ops T0 ri (k + 1) rest s2=some sF
theorem Mx {call:iO} {k:Nat} {es:List Nat} {s sF:RS} (h:CO P X call ops T0 ri k es s=some sF) :
  ∃ s1,Ca P ops T0 ri.wr k ri.rows s=some s1∧Fz P ops T0 ri k s1=true∧ab7 P X call ops T0 ri k s1 sF es:=by
 cases es with
 | nil =>
   rw[CO] at h
   dsimp only at h
   split at h <;> first | (cases h; done) | skip
   rename_i s1 h1
   split at h <;> first | (cases h; done) | skip
   rename_i h2
   cases h
   exact⟨_,h1,h2,rfl⟩
 | cons x rest =>
   rw[CO] at h
   dsimp only at h
   split at h <;> first | (cases h; done) | skip
   rename_i s1 h1
   split at h <;> first | (cases h; done) | skip
   rename_i h2
   split at h <;> first | (cases h; done) | skip
   rename_i r hr
   split at h <;> first | (cases h; done) | skip
   rename_i s2 hs2
   exact⟨_,h1,h2,r,s2,by rw[← dP]; exact hr,hs2,h⟩
variable {k:Nat} {done rest:List Nat} {s sF:RS} {ρ:Ren} {a:Act} {w:World}
theorem alS (ht:pF P nt ops ri) {listed:Array Bool} (hsz:listed.size=ops.size) (hI:Inv P base nt ops ri T0 n0 ρ0 w0 k done rest s (gm listed) ρ a w) {i:Nat} {r:Row} (hi:i<ops.size) (hr:ri.rows[i]?=some r)
  (hd:∀ e∈r.o.after.toList,Region.binds .any e=true→gm listed e.on) (hk:lI r.kd=false) (Ae:r.lev≤k) {v:AV} {v' : Value} {ρ' : Ren} {w' : World} (hvi:s.vals.get i=some v) (hv:az ρ' v v') (hle:ρ.le ρ')
  (hw:bX P base ρ' s.A w') (hst:Step base n0 ρ w ρ' w') (ahE:∀ j b,s.bY.get j=some b→¬ gm (listed.setIfInBounds i true) j→ρ' b=none) :
  Inv P base nt ops ri T0 n0 ρ0 w0 k done rest s (gm (listed.setIfInBounds i true)) ρ' (a.put r.o.dst v') w':=by
 have hS:∀ j,gm (listed.setIfInBounds i true) j↔gm listed j∨j=i:=wI (by omega)
 obtain⟨e1,e2,_⟩:=ht.row hr
 refine⟨hI.es,hI.len, ?_,fun x hx=>(hS x).2 (.inl (hI.dn x hx)), ?_, ?_, ?_, ?_, ?_,hw,hI.step.trans hst (Nat.le_refl _),hI.next,fun j b hb=>⟨(hI.bid j b hb).1,(hI.bid j b hb).2.1,ahE j b hb,(hI.bid j b hb).2.2.2⟩⟩
 ·intro j o ho hj e he hb
  rcases(hS j).1 hj with hj | rfl
  ·exact(hS _).2 (.inl (hI.closed j o ho hj e he hb))
  ·rw[e2] at ho; cases ho
   exact(hS _).2 (.inl (hd e he hb))
 ·intro x hx hl
  rcases(hS x).1 hl with hl | rfl
  ·exact hI.rs x hx hl
  ·have:x∈ri.es:=by rw[hI.es]; exact List.mem_append_right _ hx
   rw[ht.wC hr,hk] at this
   cases this
 ·intro j r' hr' hk' hj
  rcases(hS j).1 hj with hj | rfl
  ·exact hI.lev j r' hr' hk' hj
  ·rw[hr] at hr'; cases hr'; exact Ae
 ·cases hdst:r.o.dst <;> simp[Act.put,hI.size]
 ·cases hdst:r.o.dst <;> simp[Act.put,hI.defers]
 ·exact IC ht (fun t=>⟨fun j h1 h2=>((hI.slot t).1 j h1 h2).mono hle,fun h=>((hI.slot t).2 h).mono hle⟩) hI.size hr hv hvi hS
theorem ak1 (ht:pF P nt ops ri) {call:iO} {listed:Array Bool} (hsz:listed.size=ops.size) {i:Nat} {rest' : List Nat} (hI:Inv P base nt ops ri T0 n0 ρ0 w0 k done (i :: rest') s (gm listed) ρ a w) {r:Row} (hi:i<ops.size) (hr:ri.rows[i]?=some r)
  (hd:∀ e∈r.o.after.toList,Region.binds .any e=true→gm listed e.on) (hnd:i ∉ rest') {v:AV} {v' : Value} {ρ' : Ren} {w' : World} {A' : AW} (hv:az ρ' v v')
  (hw:bX P base ρ' A' w') (hst:Step base s.A.next ρ w ρ' w') (hn:s.A.next≤A'.next) (hcont:CO P X call ops T0 ri (k + 1) rest' { s with vals:=s.vals.set i v,A:=A' } = some sF) :
  ∃ s3,Inv P base nt ops ri T0 n0 ρ0 w0 (k + 1) (done++[i]) rest' s3 (gm (listed.setIfInBounds i true)) ρ' (a.put r.o.dst v') w'∧Fz P ops T0 ri (k + 1) s3=true∧ab7 P X call ops T0 ri (k + 1) s3 sF rest':=by
 obtain⟨s3,h1,h2,h3⟩:=Mx hcont
 obtain⟨f1,f2,f3,f4⟩:=zF (base:=base) _ _ _ h1
 have hS:∀ j,gm (listed.setIfInBounds i true) j↔gm listed j∨j=i:=wI (by omega)
 obtain⟨e1,e2,_⟩:=ht.row hr
 have hmem:i∈ri.es:=by rw[hI.es]; simp
 have hke:=(ht.wC hr).1 hmem
 have hle:=hst.le hI.nX
 have hkeep:∀ j,gm listed j∨j=i→s3.vals.get j=(s.vals.set i v).get j:=by
  intro j hj
  refine(f1 j fun r' hr' he=>?_).1
  rintro⟨hl,hk'⟩
  obtain⟨q,hq⟩:=List.mem_iff_getElem?.1 hr'
  obtain⟨g1,_⟩:=ht.row hq
  have hqj:q=j:=by omega
  subst hqj
  rcases hj with hj | rfl
  ·have:=hI.lev q r' hq hk' hj; omega
  ·rw[hr] at hq; cases hq; rw[hke] at hk'; cases hk'
 have hvi:s3.vals.get i=some v:=by rw[hkeep i (.inr rfl),Tree.bQ,if_pos rfl]
 refine⟨s3,⟨by rw[hI.es]; simp,by simp[hI.len], ?_, ?_, ?_, ?_, ?_, ?_, ?_,f2 _ _ hw,hI.step.trans hst hI.next,Nat.le_trans hI.next (Nat.le_trans hn f3), ?_⟩,h2,h3⟩
 ·intro j o ho hj e he hb
  rcases(hS j).1 hj with hj | rfl
  ·exact(hS _).2 (.inl (hI.closed j o ho hj e he hb))
  ·rw[e2] at ho; cases ho
   exact(hS _).2 (.inl (hd e he hb))
 ·intro x hx
  rcases List.mem_append.1 hx with hx | hx
  ·exact(hS x).2 (.inl (hI.dn x hx))
  ·simp at hx; subst hx; exact(hS x).2 (.inr rfl)
 ·intro x hx hl
  rcases(hS x).1 hl with hl | rfl
  ·exact hI.rs x (.tail _ hx) hl
  ·exact hnd hx
 ·intro j r' hr' hk' hj
  rcases(hS j).1 hj with hj | rfl
  ·have:=hI.lev j r' hr' hk' hj; omega
  ·rw[hr] at hr'; cases hr'; rw[hke] at hk'; cases hk'
 ·cases hdst:r.o.dst <;> simp[Act.put,hI.size]
 ·cases hdst:r.o.dst <;> simp[Act.put,hI.defers]
 ·refine IC ht (v:=v) (S:=gm listed) (fun t=>⟨fun j h1 h2=>?_,fun h=>((hI.slot t).2 h).mono hle⟩) hI.size hr hv hvi hS
  rw[hkeep j (.inl h2),Tree.bQ]
  split
  ·rename_i e
   subst e
   exact absurd h2 (hI.rs j (.head _))
  ·exact((hI.slot t).1 j h1 h2).mono hle
 ·intro j b hb
  rcases f4 j b hb with h | ⟨h,h',r',hr',hj'⟩
  ·obtain⟨b1,b2,b3,b4⟩:=hI.bid j b h
   refine⟨b1,by simp only at f3; omega,fun hj=>?_,b4⟩
   rw[hst.ext b b2]
   exact b3 fun hl=>hj ((hS j).2 (.inl hl))
  ·refine⟨?_,h',fun _=>?_, ?_⟩
   ·have:=hI.next; simp only at h; omega
   ·exact hw.fresh h
   ·obtain⟨q,hq⟩:=List.mem_iff_getElem?.1 hr'
    obtain⟨g1,g2,_⟩:=ht.row hq
    have:=(List.getElem?_eq_some_iff.1 g2).1
    rw[Array.length_toList] at this
    omega
theorem ajy (hng:I4 P X) {call:iO} (hc:mF P base call) (ht:pF P nt ops ri) (hb0:base≤w0.heap.size) {Q:Exit→Act→World→Prop}
  (hQ:∀ ρ' a' w',Step base n0 ρ0 w0 ρ' w'→iC ρ' nt (ES T0 sF.vals ri.rows) a'→bX P base ρ' sF.A w'→n0≤sF.A.next→Q .normal a' w') :
  ∀ (fuel:Nat) (listed:Array Bool) (k:Nat) (done rest:List Nat) (s:RS) (ρ:Ren) (a:Act) (w:World),listed.size=ops.size→listed.toList.count false≤fuel →
    Inv P base nt ops ri T0 n0 ρ0 w0 k done rest s (gm listed) ρ a w→Fz P ops T0 ri k s=true→ab7 P X call ops T0 ri k s sF rest→wpAny P .any ops Q fuel listed a w:=by
 have fin:∀ (listed:Array Bool) (k:Nat) (done rest:List Nat) (s:RS) (ρ:Ren) (a:Act) (w:World),listed.size=ops.size→(∀ i,i<ops.size→gm listed i) →
   Inv P base nt ops ri T0 n0 ρ0 w0 k done rest s (gm listed) ρ a w→ab7 P X call ops T0 ri k s sF rest→Q .normal a w:=by
  intro listed k done rest s ρ a w hsz hall hI hcont
  have hrest:rest=[]:=by
   cases rest with
   | nil=>rfl
   | cons x rest =>
     have hx:x∈ri.es:=by rw[hI.es]; simp
     rw[ht.es,uo] at hx
     obtain⟨j,o,hj,rfl,_⟩:=hx
     have:=(List.getElem?_eq_some_iff.1 hj).1
     exact absurd (hall (0 + j) (by simpa using this)) (hI.rs _ (.head _))
  subst hrest
  have hcont:s=sF:=hcont
  subst hcont
  refine hQ ρ a w hI.step ⟨hI.size,fun t=>?_,hI.defers⟩ hI.nX hI.next
  obtain⟨g1,g2⟩:=hI.slot t
  refine IM t _ ri.rows T0 (fun r hr hd=>?_) ?_
  ·obtain⟨q,hq⟩:=List.mem_iff_getElem?.1 hr
   obtain⟨e1,e2,_⟩:=ht.row hq
   have hql:=(List.getElem?_eq_some_iff.1 e2).1
   have:=g1 r.i (ht.dst q r hq t hd).1 (by rw[e1]; exact hall q (by simpa using hql))
   exact this
  ·by_cases hex:∃ j,ri.wr.get t=some j
   ·obtain⟨j,hj⟩:=hex
    obtain⟨o,ho,hdo⟩:=ht.wrs t j hj
    obtain⟨r,hr,rfl⟩:=ht.ex ho
    exact .inl ⟨r,List.mem_of_getElem? hr,hdo⟩
   ·exact .inr (g2 fun j hj=>absurd ⟨j,hj⟩ hex)
 intro fuel
 induction fuel with
 | zero =>
   intro listed k done rest s ρ a w hsz hcnt hI xm hcont
   have hall:∀ i,i<ops.size→gm listed i:=fun i hi=>Pv (by omega) (by omega)
   refine⟨?_,fin listed k done rest s ρ a w hsz hall hI hcont⟩
   rw[List.eq_nil_iff_forall_not_mem]
   intro i hi
   obtain⟨h1,h2,_⟩:=DW hsz hi
   exact h2 (hall i h1)
 | succ fuel ih =>
   intro listed k done rest s ρ a w hsz hcnt hI xm hcont
   refine⟨fun hr=>fin listed k done rest s ρ a w hsz (I1 ht hsz hr) hI hcont,fun i hi=>?_⟩
   obtain⟨hilt,hnl,o,ho,hd⟩:=DW hsz hi
   obtain⟨r,hr,rfl⟩:=ht.ex (j:=i) (o:=o) (by rw[Array.getElem?_toList]; exact ho)
   obtain⟨e1,e2,e3,e4,e5⟩:=ht.row hr
   have hbase:base≤w.heap.size:=Nat.le_trans hb0 hI.step.size
   unfold wpOp
   simp only[ho]
   cases hk:lI r.kd with
   | false =>
     -- no effect: the checks of this stage
     unfold Fz at xm
     simp only[Bool.and_eq_true,List.all_eq_true] at xm
     obtain⟨xm,akB⟩:=xm
     have hall:lZ ri.ms ri.es k r=true:=by
      unfold lZ
      rw[Bool.and_eq_true,List.all_eq_true]
      constructor
      ·rw[bJ,e4]
       rcases Ap (m:=r.m) ri.es 0 0 with h | ⟨q,x,a1,a2,a3⟩
       ·omega
       ·have hx:=ht.ahead hI.closed hr hd a2
        rw[a3]
        rcases Nat.lt_or_ge q k with h | h
        ·omega
        ·rw[hI.es,List.getElem?_append_right (by rw[hI.len]; exact h)] at a1
         exact absurd hx (hI.rs x (List.mem_of_getElem? a1))
      ·intro x hx
       rw[hI.es,List.take_left' hI.len] at hx
       rw[Bool.not_eq_true',← Bool.not_eq_true,e1,dP]
       intro hb
       have hxe:x∈ri.es:=by rw[hI.es]; exact List.mem_append_left _ hx
       rw[ht.es,uo] at hxe
       obtain⟨j,o',hj,hxj,_⟩:=hxe
       rw[Nat.zero_add] at hxj; subst hxj
       exact hnl (ht.Fv hI.closed (hI.dn x hx) hj hb)
     have Ae:r.lev≤k:=by
      unfold lZ at hall
      rw[Bool.and_eq_true] at hall
      exact bL hall.1
     have hsame:aci P ops T0 ri s r=true:=by
      have:=xm r (List.mem_of_getElem? hr)
      simpa [hk,hall] using this
     have hnb:∀ j b,s.bY.get j=some b→¬ gm (listed.setIfInBounds i true) j→ρ b=none:=fun j b hb hj =>
      (hI.bid j b hb).2.2.1 fun hl=>hj ((wI (by omega) j).2 (.inl hl))
     have next:∀ {v:AV} {v' : Value} {ρ' : Ren} {w' : World},s.vals.get i=some v→az ρ' v v'→ρ.le ρ'→bX P base ρ' s.A w'→Step base n0 ρ w ρ' w' →
       (∀ j b,s.bY.get j=some b→¬ gm (listed.setIfInBounds i true) j→ρ' b=none)→wpAny P .any ops Q fuel (listed.setIfInBounds i true) (a.put r.o.dst v') w':=by
      intro v v' ρ' w' hvi hv hle hw hst hb
      exact ih _ k done rest s ρ' _ w' (by simpa using hsz) (count_set (by omega) hnl hcnt) (alS ht hsz hI hilt hr hd hk Ae hvi hv hle hw hst hb) (by unfold Fz; simp only[Bool.and_eq_true,List.all_eq_true]; exact⟨xm,akB⟩) hcont
     have L9:ρ.le ρ:=fun _ _ h=>h
     unfold aci at hsame
     rw[e1] at hsame
     split at hsame <;> first | (cases hsame; done) | skip
     ·rename_i v hwant hvi
      rw[zk ht hI hr hd hwant]
      simp only[Bool.false_eq_true,if_false]
      have:=yD _ _ hsame
      subst this
      exact next hvi (.tup _ _ .nil) L9 hI.nX (Step.refl _ _ _) hnb
     ·rename_i v hwant hvi
      rw[zk ht hI hr hd hwant]
      simp only[if_true]
      rw[Bool.and_eq_true] at hsame
      obtain⟨Da,hsame⟩:=hsame
      have he:=X5 ht hI hr hnl hd Da
      refine .inl ?_
      split at hsame
      ·have hp:=NU hsame
       obtain⟨v',h1,h2⟩:=nK he hp
       exact nu r.o (h1 w) (next hvi h2 L9 hI.nX (Step.refl _ _ _) hnb)
      ·have hp:=NU hsame
       obtain⟨v',h1,h2⟩:=wW hI.nX he hp
       exact nu r.o h1 (next hvi h2 L9 hI.nX (Step.refl _ _ _) hnb)
      ·split at hsame <;> first | (cases hsame; done) | skip
       rename_i x mk b hx hbi
       split at hsame <;> first | (cases hsame; done) | skip
       rename_i y hy
       simp only[Bool.and_eq_true] at hsame
       have hxy:=Bp hsame.1
       have hmk:=yD _ _ hsame.2
       subst hxy
       obtain⟨d,ob,u,inf,hrun,ayq,hrel,aiE⟩:=vk he hx w
       obtain⟨b1,b2,b3,b4⟩:=hI.bid i b hbi
       have hbn:=b3 hnl
       have hd' : bX P base ρ s.A (if d=true then w.drew else w):=by cases d <;> simp[hI.nX,hI.nX.drew]
       have hsz' : (if d=true then w.drew else w).heap.size=w.heap.size:=by cases d <;> simp
       have hst' : Step base n0 ρ w ρ (if d=true then w.drew else w):=by cases d <;> simp[Step.refl,Step.drew]
       obtain⟨h1,h2⟩:=OQ hd' (by omega) (i:=inf) (by omega) hbn b2 hy (hrel.mono (Ren.xI hbn))
       refine nu r.o hrun (next hvi (hmk▸aiE _ b (by simp[Ren.add])) (Ren.xI hbn) h1 (hst'.trans h2 b1) fun j b' hb' hj=>?_)
       have hne:b'≠b:=by
        intro e
        subst e
        have hji:j≠i:=fun e=>hj ((wI (by omega) j).2 (.inr e))
        -- the rows of j and i
        have hjl:=(hI.bid j b' hb').2.2.2
        obtain⟨r',hr',_⟩:=ht.ex (j:=j) (o:=ops[j]) (by simp[hjl])
        obtain⟨g1,_⟩:=ht.row hr'
        have:=(Ew _ _ akB).2 j i r' r b' hr' hr (by rw[g1]; exact hb') (by rw[e1]; exact hbi)
        exact hji this
       unfold Ren.add
       rw[if_neg hne]
       exact hnb j b' hb' hj
      ·cases hsame
   | true =>
     have hie:i∈ri.es:=(ht.wC hr).2 hk
     rw[hI.es] at hie
     have hir:i∈rest:=by
      rcases List.mem_append.1 hie with h | h
      ·exact absurd (hI.dn i h) hnl
      ·exact h
     cases rest with
     | nil=>cases hir
     | cons x rest' =>
       have hxi:x=i:=by
        rcases List.mem_cons.1 hir with e | hm
        ·exact e.symm
        ·obtain⟨l1,l2,hl⟩:=List.append_of_mem hm
         have:=ht.chain (done++x :: l1) i l2 (by rw[hI.es,hl]; simp) x (by simp)
         rw[e3] at this
         exact absurd (ht.ahead hI.closed hr hd this) (hI.rs x (.head _))
       subst hxi
       have hnd:x ∉ rest':=by
        intro hm
        obtain⟨l1,l2,hl⟩:=List.append_of_mem hm
        have:=ht.chain (done++x :: l1) x l2 (by rw[hI.es,hl]; simp) x (by simp)
        rw[e3] at this
        exact hnl (ht.ahead hI.closed hr hd this)
       obtain⟨r',s2,hr',heff,Xx⟩:=hcont
       rw[hr] at hr'; cases hr'
       have next:∀ {v:AV} {v' : Value} {ρ' : Ren} {w' : World} {A' : AW},az ρ' v v'→bX P base ρ' A' w'→Step base s.A.next ρ w ρ' w'→s.A.next≤A'.next→s2 = { s with vals:=s.vals.set x v,A:=A' } →
         wpAny P .any ops Q fuel (listed.setIfInBounds x true) (a.put r.o.dst v') w':=by
        intro v v' ρ' w' A' hv hw hst hn hs2
        subst hs2
        obtain⟨s3,h1,h2,h3⟩:=ak1 ht hsz hI hilt hr hd hnd hv hw hst hn Xx
        exact ih _ (k + 1) _ rest' s3 ρ' _ w' (by simpa using hsz) (count_set (by omega) hnl hcnt) h1 h2 h3
       unfold ai4 at heff
       rw[e1] at heff
       split at heff <;> first | (cases heff; done) | skip
       ·rename_i hwant
        rw[zk ht hI hr hd hwant]
        simp only[Bool.false_eq_true,if_false]
        cases heff
        exact next (.tup _ _ .nil) hI.nX (Step.refl _ _ _) (Nat.le_refl _) rfl
       ·rename_i hwant Da
        rw[zk ht hI hr hd hwant]
        simp only[if_true]
        have he:=X5 ht hI hr hnl hd Da
        refine .inl ?_
        split at heff <;> first | (cases heff; done) | skip
        ·rename_i v A1 hx
         cases heff
         obtain⟨ρ',w',h1,h2,h3,v',h4,h5⟩:=mV hng hI.nX hbase he hx
         exact nu r.o h4 (next h5 h2 h1 h3 rfl)
        ·rename_i A1 hx
         cases heff
         obtain⟨ρ',w',h1,h2,h3,h4⟩:=mV hng hI.nX hbase he hx
         exact Oy r.o h4 (next (.tup _ _ .nil) h2 h1 h3 rfl)
        ·rename_i f args A1 hx
         split at heff <;> first | (cases heff; done) | skip
         rename_i v A2 hcall
         cases heff
         obtain⟨ρ',w',h1,h2,h3,us,h4,h5⟩:=mV hng hI.nX hbase he hx
         refine J7 r.o h4 (hc f args A1 v A2 hcall ρ' w' us h5 h2 (Nat.le_trans hbase h1.size)) fun e w'' hR=>?_
         obtain⟨ρ2,v',rfl,k1,k2,k3,k4⟩:=hR
         exact⟨v',rfl,next k4 k2 (h1.trans k1 h3) (Nat.le_trans h3 k3) rfl⟩
end
section
variable {P:Program} {X:Ext} {base:Base} {nt:Nat}
def Sw:Ex→Exit
 | .normal=>.normal
 | .exit id=>.exit id
 | .ret=>.ret
def Post (P:Program) (base:Base) (nt:Nat) (n0:Nat) (ρ0:Ren) (w0:World) (x:Ex) (T:Tree AV) (A:AW) (e:Exit) (a:Act) (w:World) : Prop :=
 e=Sw x∧∃ ρ,Step base n0 ρ0 w0 ρ w∧iC ρ nt T a∧bX P base ρ A w∧n0≤A.next
variable {n0:Nat} {ρ0:Ren} {w0:World} {ρ:Ren} {A:AW} {w:World} {T:Tree AV} {a:Act}
theorem aav (hng:I4 P X) (hm:P.follows .mixedOrders=true) {call:iO} (hc:mF P base call)
  (hb:base≤w0.heap.size) (hn:n0≤A.next) (hst:Step base n0 ρ0 w0 ρ w) (hA:iC ρ nt T a) (hw:bX P base ρ A w) {id:Nat} {ops:Array Oper} {T' : Tree AV} {A' : AW}
  (h:adw P X call nt ops T A=some (T',A')) : (Code.region id ops true).wp P (Post P base nt n0 ρ0 w0 .normal T' A') a w:=by
 unfold adw at h
 split at h <;> first | (cases h; done) | skip
 rename_i ri hri
 split at h <;> first | (cases h; done) | skip
 rename_i s hs
 cases h
 have ht:=FD hri
 obtain⟨s1,h1,h2,h3⟩:=Mx hs
 obtain⟨f1,f2,f3,f4⟩:=zF (base:=base) _ _ _ h1
 have hno:∀ i,¬ gm (Array.replicate ops.size false) i:=by
  intro i h
  unfold gm at h
  simp only[Array.getD_eq_getD_getElem?,Array.getElem?_replicate] at h
  split at h <;> simp at h
 refine wp_region_any hm (ajy (n0:=n0) (ρ0:=ρ0) (w0:=w0) (sF:=s) hng hc ht hb (fun ρ' a' w' k1 k2 k3 k4=>⟨rfl,ρ',k1,k2,k3,k4⟩) ops.size _ 0 [] ri.es s1 ρ a _ (by simp) (by simp) ?_ h2 h3)
 refine⟨rfl,rfl,fun i o _ hi=>absurd hi (hno i),(fun x hx=>by cases hx),fun x _=>hno x,fun j r _ _ hj=>absurd hj (hno j),hA.size,hA.defers,fun t=>⟨fun j _ hj=>absurd hj (hno j),fun _=>hA.val t⟩,f2 ρ _ hw.drew,hst.trans (Step.drew (n:=n0)) (Nat.le_refl _),Nat.le_trans hn f3,fun j b hb'=>?_⟩
 rcases f4 j b hb' with h | ⟨h,h',r,hr,hj⟩
 ·simp[Tree.get] at h
 ·refine⟨Nat.le_trans hn h,h',fun _=>hw.fresh h, ?_⟩
  obtain⟨q,hq⟩:=List.mem_iff_getElem?.1 hr
  obtain⟨g1,g2,_⟩:=ht.row hq
  have:=(List.getElem?_eq_some_iff.1 g2).1
  rw[Array.length_toList] at this
  omega
theorem Z5 (hng:I4 P X) (hm:P.follows .mixedOrders=true) {call:iO} (hc:mF P base call) (hb:base≤w0.heap.size) :
  ∀ (f:Nat) (c:Code) (T:Tree AV) (A:AW) (x:Ex) (T' : Tree AV) (A' : AW),jw P X call nt f c T A=some (x,T',A') →
    (∀ (ρ:Ren) (a:Act) (w:World),n0≤A.next→Step base n0 ρ0 w0 ρ w→iC ρ nt T a→bX P base ρ A w→c.wp P (Post P base nt n0 ρ0 w0 x T' A') a w) ∧
    (∀ b,c=.loop b→∀ (ρ:Ren) (a:Act) (w:World),n0≤A.next→Step base n0 ρ0 w0 ρ w→iC ρ nt T a→bX P base ρ A w→Code.rounds P b (Post P base nt n0 ρ0 w0 x T' A') f a w):=by
 intro f
 induction f with
 | zero=>intro c T A x T' A' h; simp[jw] at h
 | succ f ih =>
   intro c T A x T' A' h
   cases c with
   | loop b =>
     simp only[jw] at h
     have key:∀ (ρ:Ren) (a:Act) (w:World),n0≤A.next→Step base n0 ρ0 w0 ρ w→iC ρ nt T a→bX P base ρ A w→Code.rounds P b (Post P base nt n0 ρ0 w0 x T' A') (f + 1) a w:=by
      intro ρ a w hn hst hA hw
      rw[rounds_succ]
      split at h
      ·rename_i T1 A1 h1
       refine wp_mono ((ih b T A _ T1 A1 h1).1 ρ a w hn hst hA hw) fun e a' w' hp=>?_
       obtain⟨rfl,ρ',k1,k2,k3,k4⟩:=hp
       exact(ih (.loop b) T1 A1 x T' A' h).2 b rfl ρ' a' w' k4 k1 k2 k3
      ·rename_i hne
       refine wp_mono ((ih b T A x T' A' h).1 ρ a w hn hst hA hw) fun e a' w' hp=>?_
       obtain⟨rfl,hp2⟩:=hp
       cases x with
       | normal=>exact absurd h (hne T' A')
       | exit id=>exact⟨rfl,hp2⟩
       | ret=>exact⟨rfl,hp2⟩
     exact⟨fun ρ a w hn hst hA hw=>wp_loop_rounds (f + 1) (key ρ a w hn hst hA hw),fun b' hb'=>by cases hb'; exact key⟩
   | skip =>
     simp only[jw] at h; cases h
     exact⟨fun ρ a w hn hst hA hw=>wp_skip ⟨rfl,ρ,hst,hA,hw,hn⟩,fun b hb=>by cases hb⟩
   | region id ops d =>
     cases d with
     | false =>
       simp only[jw] at h
       split at h <;> first | (cases h; done) | skip
       rename_i T1 A1 h1
       cases h
       refine⟨fun ρ a w hn hst hA hw=>wp_region ?_,fun b hb=>by cases hb⟩
       have hbw:base≤w.heap.size:=Nat.le_trans hb hst.size
       have:=Iz hng hc (ops:=ops) (Q:=Post P base nt n0 ρ0 w0 .normal T' A') ops.toList 0 (by simp) hA hw hbw h1 (fun ρ' a' w' k1 k2 k3 k4=>⟨rfl,ρ',hst.trans k1 hn,k2,k3,Nat.le_trans hn k4⟩)
       rw[Array.length_toList,← List.range_eq_range'] at this
       exact this
     | true =>
       simp only[jw] at h
       split at h <;> first | (cases h; done) | skip
       rename_i T1 A1 h1
       cases h
       exact⟨fun ρ a w hn hst hA hw=>aav hng hm hc hb hn hst hA hw h1,fun b hb=>by cases hb⟩
   | seq c1 c2 =>
     simp only[jw] at h
     refine⟨fun ρ a w hn hst hA hw=>wp_seq ?_,fun b hb=>by cases hb⟩
     split at h
     ·rename_i T1 A1 h1
      refine wp_mono ((ih c1 T A _ T1 A1 h1).1 ρ a w hn hst hA hw) fun e a' w' hp=>?_
      obtain⟨rfl,ρ',k1,k2,k3,k4⟩:=hp
      exact(ih c2 T1 A1 x T' A' h).1 ρ' a' w' k4 k1 k2 k3
     ·rename_i hne
      refine wp_mono ((ih c1 T A x T' A' h).1 ρ a w hn hst hA hw) fun e a' w' hp=>?_
      obtain⟨rfl,hp2⟩:=hp
      cases x with
      | normal=>exact absurd h (hne T' A')
      | exit id=>exact⟨rfl,hp2⟩
      | ret=>exact⟨rfl,hp2⟩
   | cond cnd c1 c2 =>
     simp only[jw] at h
     refine⟨fun ρ a w hn hst hA hw=>?_,fun b hb=>by cases hb⟩
     have hv:=DD hA cnd
     split at h <;> first | (cases h; done) | skip
     ·rename_i hc1
      rw[hc1] at hv
      exact wp_cond_true (bu hv).1 ((ih c1 T A x T' A' h).1 ρ a w hn hst hA hw)
     ·rename_i hc1
      rw[hc1] at hv
      exact wp_cond_false (bu hv).1 ((ih c2 T A x T' A' h).1 ρ a w hn hst hA hw)
   | block id c1 =>
     simp only[jw] at h
     refine⟨fun ρ a w hn hst hA hw=>wp_block ?_,fun b hb=>by cases hb⟩
     split at h
     ·rename_i id' T1 A1 h1
      split at h
      ·rename_i he
       cases h
       have he:=bS he
       subst he
       refine wp_mono ((ih c1 T A _ _ _ h1).1 ρ a w hn hst hA hw) fun e a' w' hp=>?_
       obtain⟨rfl,hp2⟩:=hp
       simp only[Sw,Exit.inBlock,if_true]
       exact⟨rfl,hp2⟩
      ·rename_i he
       cases h
       have he:=DI he
       refine wp_mono ((ih c1 T A _ _ _ h1).1 ρ a w hn hst hA hw) fun e a' w' hp=>?_
       obtain⟨rfl,hp2⟩:=hp
       simp only[Sw,Exit.inBlock,if_neg he]
       exact⟨rfl,hp2⟩
     ·rename_i hne
      refine wp_mono ((ih c1 T A x T' A' h).1 ρ a w hn hst hA hw) fun e a' w' hp=>?_
      obtain⟨rfl,hp2⟩:=hp
      cases x with
      | normal=>exact⟨rfl,hp2⟩
      | exit id'=>exact absurd h (hne id' T' A')
      | ret=>exact⟨rfl,hp2⟩
   | exit id =>
     simp only[jw] at h; cases h
     exact⟨fun ρ a w hn hst hA hw=>wp_exit ⟨rfl,ρ,hst,hA,hw,hn⟩,fun b hb=>by cases hb⟩
   | ret =>
     simp only[jw] at h; cases h
     exact⟨fun ρ a w hn hst hA hw=>wp_ret ⟨rfl,ρ,hst,hA,hw,hn⟩,fun b hb=>by cases hb⟩
   | rangeFunc=>simp[jw] at h
   | scope=>simp[jw] at h
   | label=>simp[jw] at h
   | goto=>simp[jw] at h
   | refuse=>simp[jw] at h
def xc (tmps:Array Value) : ResultVar→Sem Value
 | .tmp t=>pure (tmps.getD t undef)
 | .cell x t=>do loadVar t (← asAddr (tmps.getD x undef))
theorem VD (hA:iC ρ nt T a) (hw:bX P base ρ A w) {r:ResultVar} {v:AV} (h:FI P T A r=some v) :
  ∃ v',(xc a.tmps r).run P w=.ok v' w∧az ρ v v':=by
 cases r with
 | tmp t =>
   simp only[FI] at h
   have:=hA.val t
   rw[h] at this
   exact⟨_,rfl,this⟩
 | cell x t =>
   simp only[FI] at h
   split at h <;> first | (cases h; done) | skip
   rename_i b p hx
   have hv:=hA.val x
   rw[hx] at hv
   obtain⟨i,hb,hc⟩:=fQ hv
   simp only[xc,hc,asAddr,Sem.run_bind,Sem.run_pure,Result.andThen_ok,loadVar]
   split at h <;> first | (cases h; done) | skip
   ·rename_i ha
    split at h <;> first | (cases h; done) | skip
    rename_i hl
    cases h
    obtain⟨vs,hr,hlen,hcell⟩:=jM hw hb hl
    cases hr with
    | cons _ u _ us hu hn =>
    cases hn
    have hcell:=hcell 0 u (by simp)
    rw[gM,Nat.add_zero] at hcell
    exact⟨u,by simp only[jr ha,Result.andThen_ok,Bool.false_eq_true,if_false,load,Sem.run,hcell],hu⟩
   ·rename_i n ha hs
    split at h <;> first | (cases h; done) | skip
    rename_i xs hl
    cases h
    obtain⟨vs,hr,hlen,_,hrun⟩:=oI (P:=P) hw hb hl
    exact⟨.agg ⟨vs⟩,by simp only[jr ha,Result.andThen_ok,if_true,Sem.run_bind,eD hs,hrun,Sem.run_pure],.agg _ _ hr⟩
theorem yO (hA:iC ρ nt T a) (hw:bX P base ρ A w) : ∀ (rs:List ResultVar) (vs:List AV),eX (FI P T A) rs=some vs →
  ∃ us,(rs.mapM (xc a.tmps)).run P w=.ok us w∧bF ρ vs us
 | [],vs,h=>by
   simp[eX] at h; subst h
   exact⟨[],by simp,.nil⟩
 | r :: rs,vs,h=>by
   simp only[eX] at h
   split at h <;> first | (cases h; done) | skip
   rename_i v hv
   split at h <;> first | (cases h; done) | skip
   rename_i ys hys
   cases h
   obtain⟨v',h1,h2⟩:=VD hA hw hv
   obtain⟨us,h3,h4⟩:=yO hA hw rs ys hys
   refine⟨v' :: us, ?_,.cons _ _ _ _ h2 h4⟩
   simp only[List.mapM_cons,Sem.run_bind,h1,Result.andThen_ok,h3,Sem.run_pure]
theorem Su (hA:iC ρ nt T a) (hw:bX P base ρ A w) {fn:Func} {v:AV} (h:H9 P fn T A=some v) : ∃ v',(results fn a.tmps).run P w=.ok v' w∧az ρ v v':=by
 unfold H9 at h
 have key:∀ us:List Value,(fn.results.toList.mapM (xc a.tmps)).run P w=.ok us w →
   (results fn a.tmps).run P w=.ok (if h:(⟨us⟩ : Array Value).size=1 then(⟨us⟩ : Array Value)[0] else .tuple ⟨us⟩) w:=by
  intro us hu
  have e:results fn a.tmps=(fn.results.mapM (xc a.tmps) >>= fun vs=>pure (if h:vs.size=1 then vs[0] else .tuple vs)):=rfl
  rw[e,Array.mapM_eq_mapM_toList]
  simp only[Sem.run_bind,Sem.run_map,hu,Result.andThen_ok,Sem.run_pure]
 split at h <;> first | (cases h; done) | skip
 ·rename_i u hu
  cases h
  obtain⟨us,h1,h2⟩:=yO hA hw _ _ hu
  cases h2 with
  | cons _ u' _ us hu' hn =>
  cases hn
  exact⟨u',by rw[key _ h1]; rfl,hu'⟩
 ·rename_i vs hne hvs
  cases h
  obtain⟨us,h1,h2⟩:=yO hA hw _ _ hvs
  refine⟨.tuple ⟨us⟩, ?_,.tup _ _ h2⟩
  rw[key _ h1,dif_neg]
  intro h
  have hl:=h2.length
  have:us.length=1:=h
  cases vs with
  | nil=>simp at hl; omega
  | cons v vs=>cases vs with
    | nil=>exact hne v rfl
    | cons _ _=>simp at hl; omega
theorem Mv (hng:I4 P X) (hm:P.follows .mixedOrders=true) (L:Nat) {call:iO} (hc:mF P base call) : mF P base (VG P X L call):=by
 intro f args A v A' h ρ w us hargs hw hb
 simp only[VG] at h
 split at h <;> first | (cases h; done) | skip
 rename_i fn hfn
 split at h <;> first | (cases h; done) | skip
 rename_i c hbody
 have hlen:=hargs.length
 have hA:iC ρ (args.length + (fn.ntmps - args.length)) (Tree.ofList args 0 .leaf) { tmps:=⟨us⟩++Array.replicate (fn.ntmps - (⟨us⟩ : Array Value).size) undef,defers:=[] } := by
  refine⟨by simp[hlen],fun t=>?_,rfl⟩
  rw[Tree.mK]
  by_cases ht:t<args.length
  ·rw[if_pos (by omega),Nat.sub_zero]
   obtain⟨u,hu,hv⟩:=hargs.get (n:=t) (x:=args[t]) (by simp[ht])
   rw[List.getElem?_eq_getElem ht]
   simp only[Option.getD_some]
   have:((⟨us⟩ : Array Value)++Array.replicate (fn.ntmps - (⟨us⟩ : Array Value).size) undef).getD t undef=u:=by
    rw[Array.getD_eq_getD_getElem?,Array.getElem?_append_left (by simp; omega)]
    simp[hu]
   rw[this]; exact hv
  ·rw[if_neg (by omega)]
   exact .top _
 have hret:∀ {ex:Ex} {T' : Tree AV} {A1:AW},(ex=.normal∨ex=.ret)→jw P X call (args.length + (fn.ntmps - args.length)) L c (Tree.ofList args 0 .leaf) A=some (ex,T',A1)→H9 P fn T' A1=some v→A'=A1 →
   Calls P f ⟨us⟩ w fun e w'=>∃ ρ' v',e=.returned v'∧Step base A.next ρ w ρ' w'∧bX P base ρ' A' w'∧A.next≤A'.next∧az ρ' v v':=by
  intro ex T' A1 hex hcode hres hA1
  subst hA1
  refine calls_of_wp hfn hbody (wp_mono ((Z5 hng hm hc (n0:=A.next) (ρ0:=ρ) (w0:=w) hb L c _ A ex T' A' hcode).1 ρ _ w (Nat.le_refl _) (Step.refl _ _ _) hA hw) fun e a' w' hp=>?_)
  obtain⟨rfl,ρ',k1,k2,k3,k4⟩:=hp
  obtain⟨v',h1,h2⟩:=Su k2 k3 hres
  rcases hex with rfl | rfl
  ·exact⟨k2.defers,v',h1,ρ',v',rfl,k1,k3,k4,h2⟩
  ·exact⟨k2.defers,v',h1,ρ',v',rfl,k1,k3,k4,h2⟩
 split at h <;> first | (cases h; done) | skip
 rename_i ex T' A1 hne hcode
 split at h <;> first | (cases h; done) | skip
 rename_i v1 hres
 cases h
 refine hret ?_ hcode hres rfl
 cases ex with
 | normal=>exact .inl rfl
 | ret=>exact .inr rfl
 | exit id=>exact(hne id rfl).elim
end
section
variable {P:Program} {X:Ext} {base:Base}
theorem Ws {ρ ρ' : Ren} {x:AV} {v:Value} (h:OC x=true) (hr:az ρ x v) : az ρ' x v:=by
 cases x <;> simp[OC] at h
 obtain⟨rfl,hp⟩:=bu hr
 exact .sc _ hp
theorem aaf {l:List AV} {n k:Nat} {x:AV} (h:cellAt (Tree.ofList l 0 .leaf) [] n k=some x) : k<n∧l[k]?=some x:=by
 obtain⟨h1,h2⟩:=mX h
 rw[Tree.mK] at h2
 split at h2
 ·exact⟨h1,by simpa using h2⟩
 ·simp[Tree.get] at h2
theorem ET {A:AW} {b k n:Nat} {tree:Tree AV} {zs xs:List AV} {opn:Bool} {el fz:Nat} (hg:A.heap.get b=some (.row n tree zs opn el fz)) (h:A.loads b 0 k=some xs) :
  xs.length=k∧∀ j x,xs[j]?=some x→cellAt tree zs n j=some x:=by
 unfold AW.loads at h
 rw[hg] at h
 obtain⟨h1,h2⟩:=Dq k 0 h
 exact⟨h1,fun j x hx=>by have:=h2 j x hx; rwa [Nat.zero_add] at this⟩
theorem Pb {ρ ρ' : Ren} {i:jf} {n:Nat} {tree:Tree AV} {zs:List AV} {opn:Bool} {el fz:Nat} {c:Array Value} {fr:Nat × Nat} (h:Bz P ρ i n tree zs opn el fz c fr) {cs:List AV} {m:Nat} (hsc:cs.all OC=true)
  (hcs:∀ j x,cs[j]?=some x→cellAt tree zs n j=some x) (hm:i.sh + m≤c.size) : Bz P ρ' i m (Tree.ofList cs 0 .leaf) [] opn el fz c fr :=
 ⟨hm,fun k x hk=>by
  obtain⟨_,hk⟩:=aaf hk
  obtain⟨v,h1,h2⟩:=h.val k x (hcs k x hk)
  exact⟨v,h1,Ws (List.all_eq_true.1 hsc x (List.mem_of_getElem? hk)) h2⟩,h.free,h.mark,h.opn,h.sh0⟩
theorem JL {run:Nat→Option (List AV)} {C:List AV} : ∀ (n:Nat),sameAll run C n=true→∀ j,j<n→run j=some C
 | 0,_,j,hj=>by omega
 | n + 1,h,j,hj=>by
   simp only[sameAll] at h
   split at h <;> first | (cases h; done) | skip
   rename_i C' hC
   simp only[Bool.and_eq_true] at h
   by_cases e:j=n
   ·subst e; rw[hC,sQ _ _ h.1]
   ·exact JL n h.2 j (by omega)
theorem Ez {A0:AW} {b bv esz el want:Nat} {wZ:dw} {r:Option (AV × AW)} {C:List AV} (h:outcome A0 b bv esz el want wZ r=some C) :
  ∃ rb A' kr tr zr,r=some (.slc rb 0 want (.op esz),A')∧A'.heap.get rb=some (.row kr tr zr true el 0)∧A'.heap.get bv=some wZ∧A'.loads rb 0 (want * esz)=some C∧(rb=b∨A0.next≤rb)∧C.all OC=true:=by
 unfold outcome at h
 split at h <;> first | (cases h; done) | skip
 rename_i rb n e A'
 split at h <;> first | (cases h; done) | skip
 rename_i kr tr zr el' y C' hrb hbv hC
 split at h <;> first | (cases h; done) | skip
 rename_i hc
 cases h
 simp only[Bool.and_eq_true] at hc
 obtain⟨⟨⟨⟨⟨c1,c2⟩,c3⟩,c4⟩,c5⟩,c6⟩:=hc
 have c1:=bS c1; have c2:=bS c2; have c3:=bS c3; have c6:=Bp c6
 subst c1; subst c2; subst c3; subst c6
 refine⟨rb,A',kr,tr,zr,rfl,hrb,hbv,hC, ?_,c5⟩
 rw[Bool.or_eq_true] at c4
 rcases c4 with c4 | c4
 ·exact .inl (bS c4)
 ·exact .inr (bL c4)
theorem Zn {run:iO} (hc:mF P base run) : mF P base (YU run):=by
 intro f args A v A' h ρ w us hargs hw hb
 unfold YU at h
 split at h
 case h_2=>exact hc f args A v A' h ρ w us hargs hw hb
 rename_i b len esz iv bv ov m mc
 split at h <;> first | (cases h; done) | skip
 rename_i kn tb zb el kv tv zv ev fv hgb hgv
 split at h <;> first | (cases h; done) | skip
 rename_i cs uv hcs huv
 split at h <;> first | (cases h; done) | skip
 rename_i hcond
 simp only[Bool.and_eq_true,Bool.not_eq_true'] at hcond
 obtain⟨⟨⟨⟨c1,c2⟩,c3⟩,c4⟩,c5⟩:=hcond
 have c1:=bS c1; have c2:=DI c2; have c3:=bL c3
 dsimp only at h
 split at h <;> first | (cases h; done) | skip
 rename_i C hbig
 split at h <;> first | (cases h; done) | skip
 rename_i hsmall
 cases h
 -- the arguments
 cases hargs with
 | cons _ u1 _ us1 r1 hargs =>
 cases hargs with
 | cons _ u2 _ us2 r2 hargs =>
 cases hargs with
 | cons _ u3 _ us3 r3 hargs =>
 cases hargs
 obtain⟨k,i,hbi,hp,he,hk,hu1⟩:=Cb r1
 obtain⟨hu2,hpi⟩:=bu r2
 have r3':=r3
 generalize hu3:u3=u3' at r3'
 cases r3' with
 | jB _ _ _ _ iv' Ob =>
 obtain⟨ob,hob,cb,frb,rfl,hrb⟩:=hw.blk b i _ hbi hgb
 obtain⟨ov',hov,cv,frv,rfl,hrv⟩:=hw.blk bv iv' _ Ob hgv
 obtain⟨h0,hcsz,hels⟩:=hrb.opn rfl
 have hk0:k=0:=by
  rcases Nat.eq_zero_or_pos k with e | e
  ·exact e
  ·have:0<k * i.esz:=Nat.mul_pos e h0
   omega
 subst hk0
 obtain⟨hl1,hcell1⟩:=ET hgb hcs
 obtain⟨hl2,hcell2⟩:=ET hgv huv
 have hbn:=hw.dom b i hbi
 have hvn:=hw.dom bv iv' Ob
 have am6:i.cb≠iv'.cb:=fun e=>c2 (hw.sep _ _ _ _ _ _ hbi Ob hgb hgv e)
 -- the two blocks alone
 let ρl:Ren:=fun x=>if x=b then some i else if x=bv then some iv' else none
 have hρb:ρl b=some i:=by simp[ρl]
 have hρv:ρl bv=some iv':=by simp only[ρl]; rw[if_neg (fun e=>c2 e.symm)]; simp
 have hρ:∀ x j,ρl x=some j→(x=b∧j=i)∨(x=bv∧j=iv'):=by
  intro x j hx
  simp only[ρl] at hx
  split at hx
  ·cases hx; exact .inl ⟨‹_›,rfl⟩
  ·split at hx
   ·cases hx; exact .inr ⟨‹_›,rfl⟩
   ·cases hx
 have aua:∀ x j,ρl x=some j→ρ x=some j:=by
  intro x j hx
  rcases hρ x j hx with⟨rfl,rfl⟩ | ⟨rfl,rfl⟩
  ·exact hbi
  ·exact Ob
 let wZ:=dw.row kv (Tree.ofList uv 0 .leaf) [] false ev fv
 have afc:∀ (n:Nat),i.sh + n≤cb.size→bX P base ρl { next:=A.next,heap:=(Tree.leaf.set b (.row n (Tree.ofList cs 0 .leaf) [] true el 0)).set bv wZ } w:=by
  intro n hn
  have hget:∀ x y,((Tree.leaf.set b (dw.row n (Tree.ofList cs 0 .leaf) [] true el 0)).set bv wZ).get x=some y→(x=bv∧y=wZ)∨(x=b∧y=dw.row n (Tree.ofList cs 0 .leaf) [] true el 0):=by
   intro x y h
   rw[Tree.bQ] at h
   split at h
   ·cases h; exact .inl ⟨‹_›,rfl⟩
   ·rw[Tree.bQ] at h
    split at h
    ·cases h; exact .inr ⟨‹_›,rfl⟩
    ·simp[Tree.get] at h
  refine⟨fun x j hx=>?_,fun x j y hx hy=>?_,fun x1 x2 j1 j2 y1 y2 h1 h2 _ _ e=>?_,fun x y hy=>?_,fun x j y hx hy=>?_,hw.inv⟩
  ·exact hw.dom x j (aua x j hx)
  ·rcases hget x y hy with⟨rfl,rfl⟩ | ⟨rfl,rfl⟩
   ·rw[hρv] at hx; cases hx
    exact⟨_,hov,cv,frv,rfl,Pb hrv c5 hcell2 hrv.size⟩
   ·rw[hρb] at hx; cases hx
    exact⟨_,hob,cb,frb,rfl,Pb hrb c4 hcell1 hn⟩
  ·rcases hρ x1 j1 h1 with⟨rfl,rfl⟩ | ⟨rfl,rfl⟩ <;> rcases hρ x2 j2 h2 with⟨rfl,rfl⟩ | ⟨rfl,rfl⟩
   ·rfl
   ·exact absurd e am6
   ·exact absurd e.symm am6
   ·rfl
  ·rcases hget x y hy with⟨rfl,_⟩ | ⟨rfl,_⟩
   ·exact hvn.1
   ·exact hbn.1
  ·rcases hρ x j hx with⟨rfl,rfl⟩ | ⟨rfl,rfl⟩
   ·exact hw.lo _ _ _ hbi hgb
   ·exact hw.lo _ _ _ Ob hgv
 -- whatever comes of it
 have finish:∀ (r:Option (AV × AW)),outcome A b bv esz el (len + m) wZ r=some C→∀ (rr:AV) (Ar:AW) (e:Ending) (w' : World),r=some (rr,Ar) →
   (∃ ρ' v',e=.returned v'∧Step base A.next ρl w ρ' w'∧bX P base ρ' Ar w'∧A.next≤Ar.next∧az ρ' rr v') →
   ∃ ρ' v',e=.returned v'∧Step base A.next ρ w ρ' w'∧bX P base ρ' { next:=A.next + 1,heap:=(A.heap.del b).set A.next (.row ((len + m) * esz) (Tree.ofList C 0 .leaf) [] true el 0) } w'∧A.next≤A.next + 1∧az ρ' (.slc A.next 0 (len + m) (.op esz)) v':=by
  intro r hr rr Ar e w' hrr hR
  obtain⟨rb,Ar',kr,tr,zr,g1,g2,g3,g4,g5,g6⟩:=Ez hr
  rw[hrr] at g1
  cases g1
  obtain⟨ρ',v',rfl,hst,hwr,hnx,hv⟩:=hR
  obtain⟨k',ir,hir,hp',he',hk',hv'⟩:=Cb hv
  obtain⟨obr,azT,cr,frr,rfl,abP⟩:=hwr.blk rb ir _ hir g2
  obtain⟨hr0,hrcs,hrels⟩:=abP.opn rfl
  have hk0' : k'=0:=by
   rcases Nat.eq_zero_or_pos k' with e | e
   ·exact e
   ·have:0<k' * ir.esz:=Nat.mul_pos e hr0
    omega
  subst hk0'
  have aqW:ρ' bv=some iv':=by rw[hst.ext bv hvn.1]; exact hρv
  have azI:rb≠bv:=by
   rcases g5 with e | e
   ·rw[e]; exact c2
   ·have:=hvn.1; omega
  have ayE:ir.cb≠iv'.cb:=fun e=>azI (hwr.sep _ _ _ _ _ _ hir aqW g2 g3 e)
  obtain⟨hl3,aeM⟩:=ET g2 g4
  have hfresh:ρ A.next=none:=hw.fresh (Nat.le_refl _)
  have hle:ρ.le (ρ.add A.next ir):=Ren.xI hfresh
  have an1:=hwr.dom rb ir hir
  -- where the result's block lies
  have aki:ir.cb=i.cb∨w.heap.size≤ir.cb:=by
   rcases hst.fresh rb ir hir with⟨b0,i0,hb0,e0⟩ | h
   ·rcases hρ b0 i0 hb0 with⟨rfl,rfl⟩ | ⟨rfl,rfl⟩
    ·exact .inl e0.symm
    ·exact absurd e0.symm ayE
   ·exact .inr h
  have hadd:∀ x j,ρ.add A.next ir x=some j→(x=A.next∧j=ir)∨(x≠A.next∧ρ x=some j):=by
   intro x j h
   unfold Ren.add at h
   split at h
   ·cases h; exact .inl ⟨‹_›,rfl⟩
   ·exact .inr ⟨‹_›,h⟩
  have hget:∀ {x y},((A.heap.del b).set A.next (dw.row ((len + m) * esz) (Tree.ofList C 0 .leaf) [] true el 0)).get x=some y→(x=A.next∧y=dw.row ((len + m) * esz) (Tree.ofList C 0 .leaf) [] true el 0)∨(x≠A.next∧x≠b∧A.heap.get x=some y):=by
   intro x y h
   rw[Tree.bQ] at h
   split at h
   ·cases h; exact .inl ⟨‹_›,rfl⟩
   ·rw[Tree.yK] at h
    split at h
    ·cases h
    ·exact .inr ⟨‹_›,‹_›,h⟩
  have hnew:Bz P (ρ.add A.next ir) ir ((len + m) * esz) (Tree.ofList C 0 .leaf) [] true el 0 cr frr:=by
   refine Pb abP g6 aeM ?_
   rcases Nat.eq_zero_or_pos ((len + m) * esz) with e | e
   ·rw[e]; have:=abP.size; omega
   ·have hj:(len + m) * esz - 1<C.length:=by omega
    have:=DX (aeM ((len + m) * esz - 1) C[(len + m) * esz - 1] (by simp[hj]))
    have:=abP.size
    omega
  -- a block that stays
  have hkeep:∀ x j y,x≠b→ρ x=some j→A.heap.get x=some y→∃ o,w'.heap[j.cb]?=some o∧kT P ρ j y o:=by
   intro x j y hxb hx hy
   by_cases hxv:x=bv
   ·subst hxv
    rw[Ob] at hx; cases hx
    rw[hgv] at hy; cases hy
    obtain⟨o,ho,cv',azi,rfl,Ug⟩:=hwr.blk x iv' _ aqW g3
    refine⟨_,ho,cv',azi,rfl,⟨Ug.size,fun k x hk=>?_,Ug.free,Ug.mark,Ug.opn,Ug.sh0⟩⟩
    have aji:=DX hk
    have hj:k<uv.length:=by omega
    have hcx:=hcell2 k uv[k] (by simp[hj])
    rw[hk] at hcx
    cases hcx
    obtain⟨v,hv1,hv2⟩:=Ug.val k uv[k] (by
     unfold cellAt
     rw[bJ.2 (show k + 1≤kv by omega)]
     rw[Tree.mK,if_pos (by omega)]
     simp[hj])
    exact⟨v,hv1,Ws (List.all_eq_true.1 c5 _ (List.getElem_mem _)) hv2⟩
   ·obtain⟨o,ho,hrel⟩:=hw.blk x j y hx hy
    refine⟨o, ?_,hrel⟩
    rw[hst.frame j.cb (hw.dom x j hx).2 fun b0 i0 hb0 e0=>?_]
    ·exact ho
    ·rcases hρ b0 i0 hb0 with⟨rfl,rfl⟩ | ⟨rfl,rfl⟩
     ·exact hxb (hw.sep _ _ _ _ _ _ hx hbi hy hgb e0.symm)
     ·exact hxv (hw.sep _ _ _ _ _ _ hx Ob hy hgv e0.symm)
  have Rn:∀ x j y,x≠b→ρ x=some j→A.heap.get x=some y→j.cb≠ir.cb:=by
   intro x j y hxb hx hy e
   rcases aki with h | h
   ·exact hxb (hw.sep _ _ _ _ _ _ hx hbi hy hgb (by rw[e,h]))
   ·have:=(hw.dom x j hx).2; omega
  refine⟨ρ.add A.next ir,v',rfl,⟨hst.os,hst.tape,hst.output,hst.size,fun c hc hun=>hst.frame c hc fun b0 i0 hb0=>hun b0 i0 (aua b0 i0 hb0),fun x hx=>?_,fun x j hj=>?_,hst.low⟩,⟨fun x j hj=>?_,fun x j y hj hy=>?_,fun x1 x2 j1 j2 y1 y2 hj1 hj2 hy1 hy2 he'=>?_,fun x y hy=>?_,fun x j y hj hy=>?_,hwr.inv⟩,by omega, ?_⟩
  ·unfold Ren.add; rw[if_neg (by omega)]
  ·rcases hadd x j hj with⟨rfl,rfl⟩ | ⟨_,hj⟩
   ·rcases aki with h | h
    ·exact .inl ⟨b,i,hbi,h.symm⟩
    ·exact .inr h
   ·exact .inl ⟨x,j,hj,rfl⟩
  ·rcases hadd x j hj with⟨rfl,rfl⟩ | ⟨_,hj⟩
   ·exact⟨by simp,an1.2⟩
   ·have:=hw.dom x j hj
    exact⟨by show x<A.next + 1; omega,Nat.lt_of_lt_of_le this.2 hst.size⟩
  ·rcases hget hy with⟨rfl,rfl⟩ | ⟨hxn,hxb,hy⟩
   ·rcases hadd _ j hj with⟨_,rfl⟩ | ⟨h',_⟩
    ·exact⟨_,azT,cr,frr,rfl,hnew⟩
    ·exact absurd rfl h'
   ·rcases hadd x j hj with⟨h',_⟩ | ⟨_,hj⟩
    ·exact absurd h' hxn
    ·obtain⟨o,ho,hrel⟩:=hkeep x j y hxb hj hy
     exact⟨o,ho,hrel.mono hle⟩
  ·rcases hget hy1 with⟨e1,_⟩ | ⟨n1,nb1,hy1⟩ <;> rcases hget hy2 with⟨e2,_⟩ | ⟨n2,nb2,hy2⟩
   ·rw[e1,e2]
   ·rcases hadd x1 j1 hj1 with⟨_,f1⟩ | ⟨g1',_⟩
    ·rcases hadd x2 j2 hj2 with⟨g2',_⟩ | ⟨_,hj2⟩
     ·exact absurd g2' n2
     ·exact absurd (by rw[← he',f1]) (Rn x2 j2 y2 nb2 hj2 hy2)
    ·exact absurd e1 g1'
   ·rcases hadd x2 j2 hj2 with⟨_,f2⟩ | ⟨g2',_⟩
    ·rcases hadd x1 j1 hj1 with⟨g1',_⟩ | ⟨_,hj1⟩
     ·exact absurd g1' n1
     ·exact absurd (by rw[he',f2]) (Rn x1 j1 y1 nb1 hj1 hy1)
    ·exact absurd e2 g2'
   ·rcases hadd x1 j1 hj1 with⟨g1',_⟩ | ⟨_,hj1⟩
    ·exact absurd g1' n1
    ·rcases hadd x2 j2 hj2 with⟨g2',_⟩ | ⟨_,hj2⟩
     ·exact absurd g2' n2
     ·exact hw.sep _ _ _ _ _ _ hj1 hj2 hy1 hy2 he'
  ·rcases hget hy with⟨rfl,_⟩ | ⟨_,_,hy⟩
   ·simp
   ·have:=hw.top x y hy; show x<A.next + 1; omega
  ·rcases hget hy with⟨rfl,_⟩ | ⟨hxn,_,hy⟩
   ·rcases hadd _ j hj with⟨_,rfl⟩ | ⟨h',_⟩
    ·exact hwr.lo rb j _ hir g2
    ·exact absurd rfl h'
   ·rcases hadd x j hj with⟨h',_⟩ | ⟨_,hj⟩
    ·exact absurd h' hxn
    ·exact hw.lo x j y hj hy
  ·rw[hv']
   have:=az.mO (ρ:=ρ.add A.next ir) A.next 0 (len + m) ir (by simp[Ren.add]) hk'
   rw[Nat.zero_mul] at this ⊢
   rw[he']
   exact this
 -- the two roads
 subst hu1 hu2 hu3
 have hal:∀ (cap:Cap) (c:Nat),az ρl (.slc b 0 len cap) (.slice (some ⟨i.cb,i.sh + 0 * i.esz,none⟩) len (i.gL - 0)) →
   bF ρl [.slc b 0 len cap,.sc u2,.slc bv ov m (.ex mc)] [.slice (some ⟨i.cb,i.sh + 0 * i.esz,none⟩) len (i.gL - 0),u2,.slice (some ⟨iv'.cb,iv'.sh + ov,none⟩) m mc]:=fun cap c h1 =>
  .cons _ _ _ _ h1 (.cons _ _ _ _ (.sc _ hpi) (.cons _ _ _ _ (.jB bv ov m mc iv' hρv) .nil))
 by_cases hroom:len + m≤i.gL
 ·
  have h1:az ρl (.slc b 0 len (.op esz)) (.slice (some ⟨i.cb,i.sh + 0 * i.esz,none⟩) len (i.gL - 0)):=by
   have:=az.mO (ρ:=ρl) b 0 len i hρb hk
   rw[Nat.zero_mul] at this ⊢
   rw[he]; exact this
  have hsz:i.sh + (len + m) * esz≤cb.size:=by
   rw[hcsz,he]
   have:=Nat.mul_le_mul_right i.esz hroom
   omega
  obtain⟨rb,Ar,kr,tr,zr,g1,_⟩:=Ez hbig
  exact(hc f _ _ _ _ g1 ρl w _ (hal _ 0 h1) (afc _ hsz) hb).mono fun e w' hR=>finish _ hbig _ _ e w' g1 hR
 ·
  have hj:i.gL - len<m:=by omega
  have hs:=JL m hsmall (i.gL - len) hj
  have hlj:len + (i.gL - len)=i.gL:=by omega
  have h1:az ρl (.slc b 0 len (.ex (len + (i.gL - len)))) (.slice (some ⟨i.cb,i.sh + 0 * i.esz,none⟩) len (i.gL - 0)):=by
   rw[hlj]
   have:=az.jB (ρ:=ρl) b 0 len i.gL i hρb
   simpa using this
  obtain⟨rb,Ar,kr,tr,zr,g1,_⟩:=Ez hs
  exact(hc f _ _ _ _ g1 ρl w _ (hal _ 0 h1) (afc _ (by have:=hrb.size; omega)) hb).mono fun e w' hR=>finish _ hs _ _ e w' g1 hR
end
end Go.Ab
namespace Go.Ab
open Go Go.RowKit Go.WideShapes Go.ChangeShapes
def Base.any (n:Nat) : Base:=⟨n,fun _=>True,fun _ _ _ _=>trivial⟩
section
variable {H:Type} {enc:TypeId × Value→H} {P:Program}
theorem Vq {f:Func} {s:ChangeSpec} {apart fresh handsOn again:Bool} {W W' : World} {args:Array Value} {v:Value} {ds gs:List (DataW H)} {before pa pv:List MemPlace}
  (hW:DataW.Whole enc P f.params.toList s.vars apart W args.toList ds gs before)
  (hres:∀ (b:Nat) (sp:Nat→Bool) (hd:Bool),DataW.TrodAll enc P W' b sp hd f.resultTypes.toList (v.resultList f.resultTypes.size) (s.fn H (ds++gs)).results [])
  (hargs:∀ sp:Nat→Bool,(∀ p∈before,sp p.block=true)→DataW.TrodAll enc P W' 0 sp true f.params.toList args.toList (s.fn H (ds++gs)).args pa)
  (hvars:∀ sp:Nat→Bool,(∀ p∈before,sp p.block=true)→DataW.TrodVars enc P W' sp s.vars (s.fn H (ds++gs)).vars pv)
  (hps:before=pa++pv) (hb:Below W.heap.size W W')
  (hok:∀ (j:Nat) (t:TypeId) (r:Value),f.resultTypes[j]?=some t→(v.resultList f.resultTypes.size)[j]?=some r→Value.okWide P W' .any 0 t r) :
  s.post enc P f apart fresh handsOn again W args v W':=by
 have hlt:∀ p∈before,p.block<W.heap.size:=fun p hp=>hW.lt p hp
 have hold:∀ p∈before,(fun b=>decide (b<W.heap.size)) p.block=true:=fun p hp=>by simpa using hlt p hp
 refine⟨ds,gs,before,[],pa,pv,hW,hres _ _ _,hargs _ hold,hvars _ hold,World.keptBut_mono (fun p hp=>⟨hp, ?_⟩) (hb.frame (· ∈ before)),fun _=>?_⟩
 ·rw[hps,List.mem_append] at hp
  exact Or.inr hp
 ·obtain⟨_,_,_,_,_,hz,hn⟩:=hW
  refine⟨hok,_,_,([]++pa)++pv,⟨[]++pa,pv,trodAll_append (hargs _ (fun _ _=>rfl)) (hres _ _ _),hvars _ (fun _ _=>rfl),rfl, ?_, ?_⟩, ?_⟩
  ·intro b off hp
   have hin:MemPlace.cell b off∈before:=by rw[hps]; simpa using hp
   rw[hb.frozen (hlt _ hin)]
   exact hz b off hin
  ·intro ha
   have:=hn ha
   rw[hps] at this
   simpa using this
  ·intro p hp _
   rw[hps]
   simpa using hp
end
theorem V6 {P:Program} (h:(P.funcs.toList.all fun fn=>fn.name != "runtime.NumGoroutine")=true) (f:FuncId) (fn:Func) (hf:P.funcs[f]?=some fn) : fn.name ≠ "runtime.NumGoroutine" := by
 have:=List.all_eq_true.1 h fn (by rw[← Array.getElem?_toList] at hf; exact List.mem_of_getElem? hf)
 simpa using this
end Go.Ab
namespace Go.Ab
open Go Go.RowKit
inductive RB where
 | row (l:List AV) (opn:Bool) (elem:TypeId) (fz:Nat)
 | ro (c:Array Value)
 | map (es:List (AV × AV × Nat)) (clock:Nat)
 | iter (m:Option Nat) (since:Nat) (seen:List Nat) (stepped:Nat)
 | nN (s:List UInt8) (pos:Nat)
structure RM where
 next:Nat
 heap:Nat→Option RB
 base:Base
abbrev RM.lo (M:RM) : Nat:=M.base.n
def RM.push (M:RM) (x:RB) : RM := { M with next:=M.next + 1,heap:=fun c=>if c=M.next then some x else M.heap c }
def RM.put (M:RM) (b:Nat) (x:RB) : RM := { M with heap:=fun c=>if c=b then some x else M.heap c }
def RM.del (M:RM) (b:Nat) : RM := { M with heap:=fun c=>if c=b then none else M.heap c }
def vF (lo:Nat) : Value→AV
 | .pointer (some ⟨b,o,none⟩)=>if b<lo then .ptr b o else .top
 | .slice (some _) 0 0=>.emp 0
 | .slice (some ⟨b,o,none⟩) len cap=>if b<lo then .slc b o len (.ex cap) else .top
 | v=>(wR v).getD .top
def RM.cells (M:RM) (b:Nat) : Option (List AV) :=
 match M.heap b with
 | some (.row l _ _ _)=>some l
 | some (.ro c)=>some (c.toList.map (vF M.lo))
 | _=>none
def RM.loads (M:RM) (b o k:Nat) : Option (List AV) :=
 match M.cells b with
 | some l=>if o + k≤l.length then some ((l.drop o).take k) else none
 | none=>none
def RM.stores (M:RM) (b o:Nat) (vs:List AV) : Option RM :=
 match M.heap b with
 | some (.row l opn elem fz)=>if o + vs.length≤l.length∧fz≤o∧vs.all oneCell=true then some (M.put b (.row (l.take o++vs++l.drop (o + vs.length)) opn elem fz)) else none
 | _=>none
def CY:RB→dw→Prop
 | .row l opn elem fz,.row n tree zs N9 ol fz'=>l.length=n∧N9=opn∧ol=elem∧fz'=fz∧∀ (k:Nat) (v:AV),l[k]?=some v→cellAt tree zs n k=some v
 | .map es c,.map es' c'=>es'=es∧c'=c
 | .iter a b c d,.iter a' b' c' d'=>a'=a∧b'=b∧c'=c∧d'=d
 | .nN s p,.nN s' p'=>s'=⟨⟨s⟩⟩∧p'=p
 | _,_=>False
structure Ay (P:Program) (ρ:Ren) (M:RM) (w:World) (A:AW) : Prop where
 next:A.next=M.next
 rel:bX P M.base ρ A w
 size:M.lo≤w.heap.size
 blk:∀ b x,M.heap b=some x→(∃ y,A.heap.get b=some y∧CY x y)∨∃ c,x=.ro c∧b<M.lo∧∃ elem fr,w.heap[b]?=some (.cells c elem fr)
 old:∀ c,c<M.lo→ρ c=some ⟨c,0,0,0⟩
def fF (P:Program) (ρ:Ren) (M:RM) (w:World) : Prop:=∃ A,Ay P ρ M w A
structure After (P:Program) (M:RM) (ρ:Ren) (w:World) (M' : RM) (ρ' : Ren) (w' : World) : Prop where
 step:Step M.lo M.next ρ w ρ' w'
 rel:fF P ρ' M' w'
 base:M'.base=M.base
 next:M.next≤M'.next
theorem After.lo {P:Program} {M M' : RM} {ρ ρ' : Ren} {w w' : World} (h:After P M ρ w M' ρ' w') : M'.lo=M.lo:=congrArg Base.n h.base
theorem Step.aaR {M M0:RM} {n:Nat} {ρ ρ' : Ren} {w w' : World} (h:M.base=M0.base) (s:Step M.lo n ρ w ρ' w') : Step M0.lo n ρ w ρ' w':=by
 unfold RM.lo at *; rw[← h]; exact s
section
variable {P:Program} {ρ ρ' : Ren} {M M' : RM} {w w' : World} {A A' : AW}
theorem After.refl (h:fF P ρ M w) : After P M ρ w M ρ w:=⟨Step.refl _ _ _,h,rfl,Nat.le_refl _⟩
theorem After.trans {M1 M2:RM} {ρ1 ρ2:Ren} {w1 w2:World} (h:After P M ρ w M1 ρ1 w1) (k:After P M1 ρ1 w1 M2 ρ2 w2) : After P M ρ w M2 ρ2 w2 :=
 ⟨h.step.trans (h.lo▸k.step) h.next,k.rel,k.base.trans h.base,Nat.le_trans h.next k.next⟩
theorem After.le (h:After P M ρ w M' ρ' w') (hr:fF P ρ M w) : ρ.le ρ':=by
 obtain⟨A,hA⟩:=hr
 have:=h.step
 rw[← hA.next] at this
 exact this.le hA.rel
theorem fF.fresh (h:fF P ρ M w) {b:Nat} (hb:M.next≤b) : ρ b=none:=by
 obtain⟨A,hA⟩:=h
 exact hA.rel.fresh (by rw[hA.next]; exact hb)
theorem fF.lt (h:fF P ρ M w) {b:Nat} {i:jf} (hb:ρ b=some i) : b<M.next∧i.cb<w.heap.size:=by
 obtain⟨A,hA⟩:=h
 have:=hA.rel.dom b i hb
 rw[hA.next] at this; exact this
theorem fF.lo_le (h:fF P ρ M w) : M.lo≤M.next:=by
 rcases Nat.eq_zero_or_pos M.lo with e | e
 ·omega
 ·obtain⟨A,hA⟩:=h
  have:=hA.rel.dom (M.lo - 1) _ (hA.old _ (by omega))
  rw[hA.next] at this; omega
theorem fF.drew (h:fF P ρ M w) : fF P ρ M w.drew:=by
 obtain⟨A,hA⟩:=h
 exact⟨A,hA.next,hA.rel.drew,hA.size,hA.blk,hA.old⟩
theorem oL (h:Ay P ρ M w A) (hst:Step M.lo A.next ρ w ρ' w') (hw:bX P M.base ρ' A' w') (hbase:M'.base=M.base) (hn:A'.next=M'.next) (hle:A.next≤A'.next)
  (hb:∀ b x,M'.heap b=some x→(∃ y,A'.heap.get b=some y∧CY x y)∨∃ c,x=.ro c∧M.heap b=some x) : After P M ρ w M' ρ' w':=by
 have hlo:M'.lo=M.lo:=congrArg Base.n hbase
 refine⟨h.next▸hst,⟨A',hn,hbase▸hw,by rw[hlo]; exact Nat.le_trans h.size hst.size,fun b x hx=>?_,fun c hc=>?_⟩,hbase,by rw[← h.next,← hn]; exact hle⟩
 ·rcases hb b x hx with h1 | ⟨c,rfl,h1⟩
  ·exact .inl h1
  ·rcases h.blk b _ h1 with⟨y,_,hy⟩ | ⟨c',e,hlt,elem,fr,hh⟩
   ·cases y <;> exact hy.elim
   ·cases e
    exact .inr ⟨c,rfl,by rw[hlo]; exact hlt,elem,fr,by rw[hst.low b hlt]; exact hh⟩
 ·rw[hlo] at hc
  have:=h.old c hc
  rw[hst.ext c (h.rel.dom c _ this).1]; exact this
theorem Om {lo:Nat} (h:∀ c,c<lo→ρ c=some ⟨c,0,0,0⟩) (v:Value) : az ρ (vF lo v) v:=by
 unfold vF
 split
 ·split
  ·rename_i b o hb
   have:=az.ptr (ρ:=ρ) b o ⟨b,0,0,0⟩ (h b hb)
   simpa using this
  ·exact .top _
 ·exact .emp _ _ _
 ·split
  ·rename_i b o len cap _ hb
   have:=az.jB (ρ:=ρ) b o len cap ⟨b,0,0,0⟩ (h b hb)
   simpa using this
  ·exact .top _
 ·cases hv:wR v with
  | none=>exact .top _
  | some u=>exact Ik ρ hv
theorem Ia {tree:Tree AV} {zs:List AV} {n:Nat} {l:List AV} (h:∀ (k:Nat) (v:AV),l[k]?=some v→cellAt tree zs n k=some v) : ∀ (k o:Nat),o + k≤l.length→cells tree zs n o k=some ((l.drop o).take k)
 | 0,o,_=>by simp[cells]
 | k + 1,o,hk=>by
   have ho:o<l.length:=by omega
   simp only[cells]
   rw[h o l[o] (by simp[ho]),Ia h k (o + 1) (by omega)]
   simp only
   congr 1
   rw[List.drop_eq_getElem_cons ho,List.take_succ_cons]
theorem RM.jM (hw:fF P ρ M w) {b o k:Nat} {i:jf} {xs:List AV} (hb:ρ b=some i) (h:M.loads b o k=some xs) :
  ∃ vs,bF ρ xs vs∧vs.length=k∧∀ j v,vs[j]?=some v→w.cell? ((⟨i.cb,i.sh + o,none⟩ : Addr).add j)=some v:=by
 obtain⟨A,hA⟩:=hw
 unfold RM.loads RM.cells at h
 split at h <;> first | (cases h; done) | skip
 rename_i l hl
 split at h <;> first | (cases h; done) | skip
 rename_i hok
 cases h
 split at hl <;> first | (cases hl; done) | skip
 ·rename_i l0 opn elem fz hh
  cases hl
  rcases hA.blk b _ hh with⟨y,hy,hle⟩ | ⟨c,e,_⟩
  ·cases y <;> first | exact hle.elim | skip
   obtain⟨h1,rfl,rfl,rfl,h5⟩:=hle
   refine Go.Ab.jM hA.rel hb ?_
   unfold AW.loads
   rw[hy]
   exact Ia h5 k o (by omega)
  ·cases e
 ·rename_i c hh
  cases hl
  rcases hA.blk b _ hh with⟨y,hy,hle⟩ | ⟨c,e,hlt,elem,fr,hc⟩
  ·cases y <;> exact hle.elim
  ·cases e
   rw[hA.old b hlt] at hb
   cases hb
   simp only[List.length_map,Array.length_toList] at hok
   refine⟨(c.toList.drop o).take k, ?_,by simp; omega,fun j v hj=>?_⟩
   ·rw[← List.map_drop,← List.map_take]
    generalize (c.toList.drop o).take k=vs
    induction vs with
    | nil=>exact .nil
    | cons v vs ih=>exact .cons _ _ _ _ (Om hA.old v) ih
   ·rw[gM,World.cell?,hc]
    rw[List.getElem?_take] at hj
    split at hj
    ·rw[List.getElem?_drop] at hj
     simp only[Nat.zero_add]
     simpa using hj
    ·cases hj
theorem RM.oI (hw:fF P ρ M w) {b o k:Nat} {i:jf} {xs:List AV} (hb:ρ b=some i) (h:M.loads b o k=some xs) :
  ∃ vs,bF ρ xs vs∧vs.length=k∧(∀ j v,vs[j]?=some v→w.cell? ((⟨i.cb,i.sh + o,none⟩ : Addr).add j)=some v)∧(loadCells ⟨i.cb,i.sh + o,none⟩ k).run P w=.ok ⟨vs⟩ w:=by
 obtain⟨vs,h1,h2,h3⟩:=RM.jM hw hb h
 exact⟨vs,h1,h2,h3,by have:=run_loadCells_list (P:=P) w ⟨i.cb,i.sh + o,none⟩ vs h3; rw[h2] at this; exact this⟩
theorem qH:∀ (vs:List AV) (t:Tree AV) (o:Nat),vs.all oneCell=true→∃ t',om t o vs=some t'
 | [],t,o,_=>⟨t,rfl⟩
 | v :: vs,t,o,h=>by
   simp only[List.all_cons,Bool.and_eq_true] at h
   obtain⟨t',ht⟩:=qH vs (t.set o v) (o + 1) h.2
   exact⟨t',by simp only[om,h.1]; exact ht⟩
theorem RM.NT (h:Ay P ρ M w A) {b o:Nat} {vs:List AV} (hs:M.stores b o vs=some M') :
  ∃ A',A.stores b o vs=some A'∧M'.base=M.base∧A'.next=M'.next∧M'.next=M.next ∧
    ∀ c x,M'.heap c=some x→(∃ y,A'.heap.get c=some y∧CY x y)∨∃ d,x=.ro d∧M.heap c=some x:=by
 unfold RM.stores at hs
 split at hs <;> first | (cases hs; done) | skip
 rename_i l opn elem fz hh
 split at hs <;> first | (cases hs; done) | skip
 rename_i hc
 obtain⟨c1,c2,c3⟩:=hc
 cases hs
 rcases h.blk b _ hh with⟨y,hy,hle⟩ | ⟨c,e,_⟩
 ·cases y <;> first | exact hle.elim | skip
  rename_i n tree zs N9 ol fz'
  obtain⟨h1,rfl,rfl,rfl,h5⟩:=hle
  obtain⟨t',ht⟩:=qH vs tree o c3
  obtain⟨_,hget⟩:=ja _ _ _ ht
  refine⟨{ A with heap:=A.heap.set b (.row n t' zs N9 ol fz') }, ?_,rfl,h.next,rfl,fun c x hx=>?_⟩
  ·unfold AW.stores
   rw[hy]
   simp only
   rw[bJ.2 (by omega),bJ.2 c2,ht]
  ·simp only[RM.put] at hx
   simp only[Tree.bQ]
   by_cases e:c=b
   ·subst e
    rw[if_pos rfl] at hx ⊢
    cases hx
    refine .inl ⟨_,rfl, ?_,rfl,rfl,rfl,fun k v hk=>?_⟩
    ·simp; omega
    ·rw[tO hget]
     by_cases hin:o≤k∧k<o + vs.length
     ·rw[if_pos hin,if_pos (by omega)]
      rw[List.append_assoc,List.getElem?_append_right (by simp; omega),List.getElem?_append_left (by simp; omega)] at hk
      rw[← hk]; congr 1; simp; omega
     ·rw[if_neg hin]
      refine h5 k v ?_
      rw[← hk]
      by_cases hlt:k<o
      ·rw[List.append_assoc,List.getElem?_append_left (by simp; omega),List.getElem?_take,if_pos hlt]
      ·rw[List.getElem?_append_right (by simp; omega),List.getElem?_drop]
       congr 1; simp; omega
   ·rw[if_neg e] at hx ⊢
    rcases h.blk c x hx with⟨y,a,b⟩ | ⟨d,e',_⟩
    ·exact .inl ⟨y,a,b⟩
    ·exact .inr ⟨d,e',hx⟩
 ·cases e
theorem RM.QX (h:Ay P ρ M w A) {x:RB} {y:dw} (hx:CY x y) :
  (M.push x).base=M.base∧(A.push y).next=(M.push x).next ∧
   ∀ c z,(M.push x).heap c=some z→(∃ u,(A.push y).heap.get c=some u∧CY z u)∨∃ d,z=.ro d∧M.heap c=some z:=by
 refine⟨rfl,by simp[AW.push,RM.push,h.next],fun c z hz=>?_⟩
 simp only[RM.push] at hz
 simp only[AW.push,Tree.bQ,h.next]
 by_cases e:c=M.next
 ·subst e
  rw[if_pos rfl] at hz ⊢
  cases hz
  exact .inl ⟨y,rfl,hx⟩
 ·rw[if_neg e] at hz ⊢
  rcases h.blk c z hz with⟨u,a,b⟩ | ⟨d,e',_⟩
  ·exact .inl ⟨u,a,b⟩
  ·exact .inr ⟨d,e',hz⟩
theorem fF.akX (h:fF P ρ M w) (x:RB) (y:dw) (hx:CY x y) : fF P ρ (M.push x) w:=by
 obtain⟨A,hA⟩:=h
 obtain⟨h1,h2,h3⟩:=RM.QX hA hx
 refine⟨A.push y,h2,EC hA.rel y,hA.size,fun b z hz=>?_,hA.old⟩
 rcases h3 b z hz with k | ⟨d,rfl,k⟩
 ·exact .inl k
 ·rcases hA.blk b _ k with⟨u,_,hu⟩ | k2
  ·cases u <;> exact hu.elim
  ·exact .inr k2
end
abbrev N (k:IntKind) (n:Int) : AV:=.sc (.int k n)
abbrev Bo (b:Bool) : AV:=.sc (.bool b)
abbrev St (l:List UInt8) : AV:=.sc (.string ⟨⟨l⟩⟩)
def Cn (op:BinOp) (k:IntKind) (a b:Int) : Option Value :=
 match op with
 | .add=>some (.int k (k.wrap (a + b)))
 | .sub=>some (.int k (k.wrap (a - b)))
 | .mul=>some (.int k (k.wrap (a * b)))
 | .quo=>if b=0 then none else some (.int k (k.wrap (a.tdiv b)))
 | .rem=>if b=0 then none else some (.int k (a.tmod b))
 | .and=>some (.int k (k.wrap (BitVec.ofInt k.bits a &&& BitVec.ofInt k.bits b).toNat))
 | .or=>some (.int k (k.wrap (BitVec.ofInt k.bits a ||| BitVec.ofInt k.bits b).toNat))
 | .xor=>some (.int k (k.wrap (BitVec.ofInt k.bits a ^^^ BitVec.ofInt k.bits b).toNat))
 | .andNot=>some (.int k (k.wrap (BitVec.ofInt k.bits a &&& ~~~BitVec.ofInt k.bits b).toNat))
 | .eql=>some (.bool (a == b))
 | .neq=>some (.bool (a != b))
 | .lss=>some (.bool (decide (a<b)))
 | .leq=>some (.bool (decide (a≤b)))
 | .gtr=>some (.bool (decide (a > b)))
 | .geq=>some (.bool (decide (a ≥ b)))
 | _=>none
def Ro (op:BinOp) (k:IntKind) (a b:Int) : Option Value :=
 if b<0 then none else
 match op with
 | .shl=>some (.int k (k.wrap (a * 2 ^ (min b.toNat k.bits))))
 | .shr=>some (.int k (a.fdiv (2 ^ (min b.toNat k.bits))))
 | _=>none
def af (op:BinOp) (x y:AV) (K:AV→Prop) : Prop:=∃ k a b v,x=N k a∧y=N k b∧Cn op k a b=some v∧K (.sc v)
def BH (op:BinOp) (x y:AV) (K:AV→Prop) : Prop:=∃ k a l b v,x=N k a∧y=N l b∧Ro op k a b=some v∧K (.sc v)
def iT (op:BinOp) (x y:AV) (K:AV→Prop) : Prop:=∃ a b v,x=St a∧y=St b∧Hu op a b=some v∧K v
def Be (neg:Bool) (x y:AV) (K:AV→Prop) : Prop:=∃ a b,x=Bo a∧y=Bo b∧K (Bo ((a == b) != neg))
def Lr:AV→AV→Option Bool
 | .ptr b o,.ptr c p=>if b=c then some (decide (o=p)) else none
 | .ptr _ _,.sc (.pointer none)=>some false
 | .sc (.pointer none),.ptr _ _=>some false
 | .sc (.pointer none),.sc (.pointer none)=>some true
 | .slc _ _ _ _,.sc (.slice none 0 0)=>some false
 | .emp _,.sc (.slice none 0 0)=>some false
 | .sc (.slice none 0 0),.sc (.slice none 0 0)=>some true
 | .map _,.sc (.map none)=>some false
 | .sc (.map none),.sc (.map none)=>some true
 | .fn _ _ _,.sc .nilFunc=>some false
 | .sc .nilFunc,.sc .nilFunc=>some true
 | .ifc _ _,.sc .nilIface=>some false
 | _,_=>none
def WA (P:Program) (t:TypeId) : Nat :=
 match P.underlying t with
 | some (.pointer el)=>match bP P el with | some (_ + 1)=>1 | _=>0
 | some (.slice _)=>2
 | some (.map _ _)=>3
 | some (.func _ _ _)=>4
 | some (.interface _)=>5
 | _=>0
def VK:AV→Nat
 | .ptr _ _ | .sc (.pointer none)=>1
 | .slc _ _ _ _ | .emp _ | .sc (.slice none 0 0)=>2
 | .map _ | .sc (.map none)=>3
 | .fn _ _ _ | .sc .nilFunc=>4
 | .ifc _ _=>5
 | _=>6
def lJ (neg:Bool) (tag:Nat) (x y:AV) (K:AV→Prop) : Prop:=VK x=tag∧∃ r,Lr x y=some r∧K (Bo (r != neg))
def Cg (P:Program) (g:TypeId→Option (List Nat)) : List Field→Nat→Option (List Nat)
 | [],_=>some []
 | f :: fs,off=>match f.name == "_",Nat.beq f.offset off,g f.type,bP P f.type with
   | false,true,some ks,some n=>match Nat.beq n ks.length,Cg P g fs (off + n) with
     | true,some r=>some (ks++r)
     | _,_=>none
   | _,_,_,_=>none
def l6 (P:Program) : Nat→TypeId→Option (List Nat)
 | 0,_=>none
 | d + 1,t=>match P.underlying t with
   | some (.int _)=>some [1]
   | some .string=>some [2]
   | some .bool=>some [3]
   | some (.struct fs)=>match P.stoodInHeld t with
     | true=>none
     | false=>Cg P (l6 P d) fs.toList 0
   | _=>none
def ach (P:Program) (t:TypeId) : Option (List Nat) :=
 match P.eqGuardType P.depth t with
 | true=>none
 | false=>l6 P 10 t
def xO:Nat→AV→AV→Option Bool
 | 1,.sc (.int k a),.sc (.int l b)=>if k=l then some (a == b) else none
 | 2,.sc (.string a),.sc (.string b)=>some (a.data.toList == b.data.toList)
 | 3,.sc (.bool a),.sc (.bool b)=>some (a == b)
 | _,_,_=>none
def eH:List Nat→List AV→List AV→Option Bool
 | [],[],[]=>some true
 | k :: ks,x :: xs,y :: ys=>match xO k x y with
   | some true=>eH ks xs ys
   | some false=>some false
   | none=>none
 | _,_,_=>none
def nE (neg:Bool) (ks:List Nat) (x y:AV) (K:AV→Prop) : Prop:=∃ cs ds r,x=.agg cs∧y=.agg ds∧cs.length=ks.length∧ds.length=ks.length∧eH ks cs ds=some r∧K (Bo (r != neg))
def aJ (c a b:AV) (K:AV→Prop) : Prop:=∃ t,c=Bo t∧K (if t then a else b)
def aZ (x:AV) (K:AV→Prop) : Prop:=∃ b o,x=.ptr b o∧K (.ptr b o)
def aA (x:AV) (n:Nat) (K:AV→Prop) : Prop:=∃ b o,x=.ptr b o∧K (.ptr b (o + n))
def ax (x i:AV) (size:Nat) (K:AV→Prop) : Prop:=∃ b p len cap k n,x=.slc b p len cap∧i=N k n∧0≤n∧n<len∧K (.ptr b (p + n.toNat * size))
def Ih (x i:AV) (len size:Nat) (K:AV→Prop) : Prop:=∃ b p k n,x=.ptr b p∧i=N k n∧0≤n∧n<len∧K (.ptr b (p + n.toNat * size))
def ab4 (x:AV) (off:Nat) (K:AV→Prop) : Prop:=∃ cs v,x=.agg cs∧cs[off]?=some v∧K v
def ad1 (x:AV) (off n:Nat) (K:AV→Prop) : Prop:=∃ cs,x=.agg cs∧off + n≤cs.length∧K (.agg ((cs.drop off).take n))
def adC (x i:AV) (len:Nat) (K:AV→Prop) : Prop:=∃ cs k n v,x=.agg cs∧i=N k n∧0≤n∧n<len∧cs[n.toNat]?=some v∧K v
def Lv (x i:AV) (len size:Nat) (K:AV→Prop) : Prop:=∃ cs k n,x=.agg cs∧i=N k n∧0≤n∧n<len∧n.toNat * size + size≤cs.length∧K (.agg ((cs.drop (n.toNat * size)).take size))
def Yh (x i:AV) (K:AV→Prop) : Prop:=∃ s k n b,x=St s∧i=N k n∧0≤n∧s[n.toNat]?=some b∧K (N .u8 b.toNat)
def fI (x:AV) (i:Nat) (K:AV→Prop) : Prop:=∃ vs v,x=.tup vs∧vs[i]?=some v∧K v
def bnd (d:Nat) : Option AV→Option Nat
 | none=>some d
 | some (.sc (.int _ n))=>if 0≤n then some n.toNat else none
 | _=>none
def bB (size:Nat) (x:AV) (lo hi mx:Option AV) : Option AV :=
 match x with
 | .slc b o len cap =>
   match bnd 0 lo,bnd len hi with
   | some l,some h =>
     match mx with
     | none=>match cap with
       | .ex c=>if l≤h∧h≤c then(if c=l then some (.slc b o 0 (.ex 0)) else some (.slc b (o + l * size) (h - l) (.ex (c - l)))) else none
       | .op esz=>if l≤h∧h≤len∧size=esz then(if len≤l then some (.emp b) else some (.slc b (o + l * size) (h - l) (.op esz))) else none
     | some y=>match hi,bnd 0 (some y) with
       | some _,some m=>if l≤h∧h≤m∧m≤(match cap with | .ex c=>c | .op _=>len) then(if m=l then some (.slc b o 0 (.ex 0)) else some (.slc b (o + l * size) (h - l) (.ex (m - l)))) else none
       | _,_=>none
   | _,_=>none
 | .emp b=>match bnd 0 lo,bnd 0 hi,mx with
   | some 0,some 0,none=>some (.emp b)
   | _,_,_=>none
 | .sc (.slice none 0 0)=>match bnd 0 lo,bnd 0 hi,mx with
   | some 0,some 0,none=>some x
   | some 0,some 0,some y=>match hi,bnd 0 (some y) with
     | some _,some 0=>some x
     | _,_=>none
   | _,_,_=>none
 | _=>none
def ac8 (n size:Nat) (x:AV) (lo hi:Option AV) : Option AV :=
 match x with
 | .ptr b o=>match bnd 0 lo,bnd n hi with
   | some l,some h=>if l≤h∧h≤n then(if n=l then some (.slc b o 0 (.ex 0)) else some (.slc b (o + l * size) (h - l) (.ex (n - l)))) else none
   | _,_=>none
 | _=>none
def aem (x:AV) (lo hi:Option AV) : Option AV :=
 match x with
 | .sc (.string s)=>match bnd 0 lo,bnd s.data.toList.length hi with
   | some l,some h=>if l≤h∧h≤s.data.toList.length then some (St ((s.data.toList.drop l).take (h - l))) else none
   | _,_=>none
 | _=>none
def eT (r:Option AV) (K:AV→Prop) : Prop:=∃ v,r=some v∧K v
def sZ:List AV→List (Nat × Nat × AV)→Option (List AV)
 | cs,[]=>some cs
 | cs,(off,size,v) :: rest=>if known v=true∧v.cells.length=size∧off + size≤cs.length then sZ (cs.take off++v.cells++cs.drop (off + size)) rest else none
def lX (cs:List AV) (parts:List (Nat × Nat × AV)) (K:AV→Prop) : Prop:=∃ cs',sZ cs parts=some cs'∧K (.agg cs')
def iE (k:IntKind) (x:AV) (K:AV→Prop) : Prop:=∃ l n,x=N l n∧K (N k (k.wrap n))
def isStr (x:AV) (K:AV→Prop) : Prop:=∃ s,x=St s∧K (St s)
def ab6 (x:AV) (K:AV→Prop) : Prop:=∃ l n,x=N l n∧K (St (Utf8.encode n).data.toList)
def avY (M:RM) (x:AV) (K:AV→Prop) : Prop:=∃ b p l opn el fz,x=.ptr b p∧M.heap b=some (.row l opn el fz)∧p + 1≤l.length∧K (.ptr b p)
def awL (el cells:Nat) (M:RM) (x:AV) (K:AV→Prop) : Prop:=∃ b l opn fz,x=.ptr b 0∧M.heap b=some (.row l opn el fz)∧l.length=cells∧K (.ptr b 0)
def aeF (x:AV) (K:AV→Prop) : Prop :=
 match x with
 | .sc (.slice none 0 0)=>K (.sc (.pointer none))
 | .slc b p _ (.ex (_ + 1))=>K (.ptr b p)
 | .slc b p (_ + 1) (.op _)=>K (.ptr b p)
 | _=>False
def ajF:AV→Option Nat
 | .slc _ _ n _=>some n
 | .emp _=>some 0
 | .sc (.slice none 0 0)=>some 0
 | _=>none
def bD (x:AV) (K:AV→Prop) : Prop:=∃ n:Nat,ajF x=some n∧K (N .i64 n)
def qi (x:AV) (K:AV→Prop) : Prop:=∃ s,x=St s∧K (N .i64 s.length)
def EU (x:AV) (K:AV→Prop) : Prop:=∃ n,(match x with | .slc _ _ _ (.ex c)=>some c | .sc (.slice none 0 0)=>some 0 | _=>none)=some n∧K (N .i64 (n:Nat))
def NA (mx:Bool) (x y:AV) (K:AV→Prop) : Prop:=∃ k a b,x=N k a∧y=N k b∧K (N k (if mx then(if b > a then b else a) else(if b<a then b else a)))
def eG (x:AV) (K:AV→Prop) : Prop:=∃ b,x=Bo b∧K (Bo (!b))
def ahV (x:AV) (K:AV→Prop) : Prop:=∃ k n,x=N k n∧K (N k (k.wrap (0 - n)))
def ai (M:RM) (x:AV) (K:AV→Prop) : Prop:=∃ b o v,x=.ptr b o∧M.loads b o 1=some [v]∧K v
def aI (M:RM) (x:AV) (n:Nat) (K:AV→Prop) : Prop:=∃ b o vs,x=.ptr b o∧M.loads b o n=some vs∧K (.agg vs)
def GQ (M:RM) (x:AV) : Option (List UInt8) :=
 match x with
 | .slc b p len _=>match M.loads b p len with
   | some vs=>eX byteOf vs
   | none=>none
 | .emp _=>some []
 | .sc (.slice none 0 0)=>some []
 | _=>none
def jL (M:RM) (x:AV) (K:AV→Prop) : Prop:=∃ s,GQ M x=some s∧K (St s)
def amn (M:RM) (x:AV) (K:AV→Prop) : Prop:=∃ b es c,x=.map b∧M.heap b=some (.map es c)∧K (N .i64 es.length)
def jg:Bool→AV→Option (List AV)
 | true,.agg cs=>some cs
 | true,_=>none
 | false,v=>some [v]
def tX (a:Bool) (ks:List Nat) (k:List AV) : List (AV × AV × Nat)→Nat→Option (Option (Nat × AV))
 | [],_=>some none
 | (ka,va,_) :: es,i=>match jg a ka with
   | some cs=>if cs.length=ks.length then match eH ks k cs with
     | some true=>some (some (i,va))
     | some false=>tX a ks k es (i + 1)
     | none=>none
     else none
   | none=>none
def Tm (a:Bool) (ks:List Nat) (z:AV) (ok:Bool) (M:RM) (x k:AV) (K:AV→Prop) : Prop :=
 ∃ b es c kc r,x=.map b∧M.heap b=some (.map es c)∧jg a k=some kc∧kc.length=ks.length∧tX a ks kc es 0=some r∧K (match r with | some (_,va)=>CZ va true ok | none=>CZ z false ok)
def akr (P:Program) (t:TypeId) : Option AV :=
 match cZ P (zeroValue t) with
 | some z=>lH z
 | none=>none
def acA (P:Program) (o:Oper) (e:Operand→AV) (K:AV→Prop) : Prop:=∃ v,aW P o e=some v∧K v
def gI (P:Program) (o:Oper) (e:Operand→AV) (M:RM) (K:AV→Prop) : Prop :=
 match o.op with
 | .move x | .assign x=>K (e x)
 | .pick c a b=>aJ (e c) (e a) (e b) K
 | .nilCheck x=>aZ (e x) K
 | .fieldAddr s x f=>match P.underlying s with
   | some (.struct fields)=>match fields[f]? with
     | some fd=>match bP P fd.type with
       | some (_ + 1)=>aA (e x) fd.offset K
       | _=>False
     | none=>False
   | _=>False
 | .indexAddr t x ix=>match P.underlying t with
   | some (.slice elem)=>match bP P elem with
     | some size=>ax (e x) (e ix) size K
     | none=>False
   | some (.array len elem)=>match bP P elem with
     | some size=>Ih (e x) (e ix) len size K
     | none=>False
   | _=>False
 | .field t x f=>match P.underlying t with
   | some (.struct fields)=>match fields[f]? with
     | some fd=>match fe P fd.type with
       | some false=>ab4 (e x) fd.offset K
       | some true=>match bP P fd.type with
         | some n=>ad1 (e x) fd.offset n K
         | none=>False
       | none=>False
     | none=>False
   | _=>False
 | .index t x ix=>match P.underlying t with
   | some .string=>Yh (e x) (e ix) K
   | some (.array len elem)=>match fe P elem with
     | some false=>match bP P elem with
       | some 1=>adC (e x) (e ix) len K
       | _=>False
     | some true=>match bP P elem with
       | some n=>Lv (e x) (e ix) len n K
       | none=>False
     | none=>False
   | _=>False
 | .slice t x lo hi mx=>match P.underlying t with
   | some .string=>match mx with
     | none=>eT (aem (e x) (lo.map e) (hi.map e)) K
     | some _=>False
   | some (.slice elem)=>match bP P elem with
     | some size=>eT (bB size (e x) (lo.map e) (hi.map e) (mx.map e)) K
     | none=>False
   | some (.array n elem)=>match bP P elem,mx with
     | some size,none=>eT (ac8 n size (e x) (lo.map e) (hi.map e)) K
     | _,_=>False
   | _=>False
 | .extract x i=>fI (e x) i K
 | .makeInterface t x=>match P.underlying t with
   | some (.interface _)=>False
   | some _=>K (.ifc t (e x))
   | none=>False
 | .makeFunc f first captured=>match f with
   | .yield _=>False
   | _=>K (.fn f (first.toList.map e) (captured.toList.map e))
 | .build t parts=>match P.info? t,P.underlying t with
   | some it,some (.array _ el)=>match it.zero,P.info? el with
     | some z,some ie=>match lH z with
       | some (.agg cs)=>lX cs (parts.toList.map fun p=>(p.1 * ie.size,ie.size,e p.2)) K
       | _=>False
     | _,_=>False
   | some it,some (.struct fields)=>match it.zero,fields.toList.mapM (fun f=>(P.info? f.type).map fun i=>(f.offset,i.size)) with
     | some z,some places=>match lH z,eX (fun(p:Nat × Operand)=>match nth places p.1 with | some pl=>some (pl.1,pl.2,e p.2) | none=>none) parts.toList with
       | some (.agg cs),some ps=>lX cs ps K
       | _,_=>False
     | _,_=>False
   | _,_=>False
 | .binOp op t x y _=>match P.underlying t with
   | some (.int _)=>match op with
     | .shl | .shr=>BH op (e x) (e y) K
     | _=>af op (e x) (e y) K
   | some .string=>iT op (e x) (e y) K
   | some .bool=>match op with
     | .eql=>Be false (e x) (e y) K
     | .neq=>Be true (e x) (e y) K
     | _=>False
   | some (.struct _)=>match ach P t,op with
     | some ks,.eql=>nE false ks (e x) (e y) K
     | some ks,.neq=>nE true ks (e x) (e y) K
     | _,_=>False
   | some (.array _ _)=>acA P o e K
   | _=>match op,WA P t with
     | _,0=>acA P o e K
     | .eql,tag=>lJ false tag (e x) (e y) K
     | .neq,tag=>lJ true tag (e x) (e y) K
     | _,_=>False
 | .convert src dst x=>match P.underlying src,P.underlying dst with
   | some (.int _),some (.int k)=>iE k (e x) K
   | some .string,some .string=>isStr (e x) K
   | some (.int _),some .string=>ab6 (e x) K
   | some (.slice el),some .string=>match P.underlying el with
     | some (.int .u8)=>jL M (e x) K
     | _=>False
   | some (.pointer t),some .unsafePointer=>match bP P t with
     | some (_ + 1)=>avY M (e x) K
     | _=>False
   | some .unsafePointer,some (.pointer u)=>match bP P u,Nat.ble 1 (P.cellsOf u),liesAt P P.depth u 1 0 u 1 with
     | some (_ + 1),true,true=>awL u (P.cellsOf u) M (e x) K
     | _,_,_=>False
   | _,_=>acA P o e K
 | .call { callee:=.builtin .len,args,argTypes } => match argTypes[0]?,args[0]? with
   | some t,some x=>match P.underlying t with
     | some (.slice _)=>bD (e x) K
     | some .string=>qi (e x) K
     | some (.map _ _)=>amn M (e x) K
     | _=>False
   | _,_=>False
 | .call { callee:=.builtin .cap,args,argTypes } => match argTypes[0]?,args[0]? with
   | some t,some x=>match P.underlying t with
     | some (.slice _)=>EU (e x) K
     | _=>False
   | _,_=>False
 | .call { callee:=.builtin .unsafeSliceData,args,.. } => match args with
   | ⟨[x]⟩=>aeF (e x) K
   | _=>False
 | .call { callee:=.builtin .min,args,.. } => match args with
   | ⟨[x,y]⟩=>NA false (e x) (e y) K
   | _=>False
 | .call { callee:=.builtin .max,args,.. } => match args with
   | ⟨[x,y]⟩=>NA true (e x) (e y) K
   | _=>False
 | .unOp op _ x=>match op with
   | .not=>eG (e x) K
   | .neg=>ahV (e x) K
   | _=>acA P o e K
 | .lookup t x k ok=>match P.underlying t with
   | some (.map kt et)=>match l6 P 10 kt,fe P kt,akr P et with
     | some ks,some a,some z=>Tm a ks z ok M (e x) (e k) K
     | _,_,_=>False
   | _=>False
 | .load t x=>match fe P t with
   | some false=>ai M (e x) K
   | some true=>match bP P t with
     | some n=>aI M (e x) n K
     | none=>False
   | none=>False
 | _=>False
section
variable {P:Program} {ρ:Ren} {o:Oper} {e:Operand→AV} {c:Operand→Value} {M:RM} {K:AV→Prop}
def RM.Sub (M M' : RM) : Prop:=M'.base=M.base∧∀ b x,M.heap b=some x→M'.heap b=some x
theorem RM.Sub.refl (M:RM) : M.Sub M:=⟨rfl,fun _ _ h=>h⟩
theorem RM.Sub.trans {M M1 M2:RM} (h:M.Sub M1) (k:M1.Sub M2) : M.Sub M2:=⟨k.1.trans h.1,fun b x hx=>k.2 b x (h.2 b x hx)⟩
theorem RM.Sub.loads {M M' : RM} (h:M.Sub M') {b o k:Nat} {xs:List AV} (hl:M.loads b o k=some xs) : M'.loads b o k=some xs:=by
 unfold RM.loads RM.cells at hl ⊢
 cases hh:M.heap b with
 | none=>simp[hh] at hl
 | some x =>
   rw[hh] at hl
   have hlo:M'.lo=M.lo:=congrArg Base.n h.1
   rw[h.2 b x hh,hlo]
   exact hl
def ou (P:Program) (o:Oper) (e:Operand→AV) (M:RM) (v:AV) : Prop :=
 ∀ ρ w c M',M.Sub M'→fF P ρ M' w→(∀ x∈o.op.operands,az ρ (e x) (c x))→Sj P ρ w o c v
theorem aX {v:AV} (h:aW P o e=some v) : (∀ M',ou P o e M' v)∨(kindOf P o=.read∧ou P o e M v):=.inl fun _ _ w _ _ _ _ he=>(nK he h).at
theorem dW {α β:Type} : ∀ (s:Sem α) (f:α→Sem β) (a:α),cZ P s=some a→cZ P (s >>= f)=cZ P (f a)
 | .pure b,f,a,h=>by simp[cZ] at h; subst h; rfl
 | .program k,f,a,h=>by
   simp only[cZ] at h
   exact dW (k P) f a h
 | .mark m k,f,a,h=>by
   simp only[cZ] at h
   exact dW k f a h
 | .load ..,_,a,h | .store ..,_,a,h | .new ..,_,a,h | .shape ..,_,a,h | .freeze ..,_,a,h | .frozen ..,_,a,h | .getObj ..,_,a,h
 | .setObj ..,_,a,h | .choose ..,_,a,h | .sys ..,_,a,h | .halt ..,_,a,h=>by simp[cZ] at h
theorem rH {u:Value} {v:AV} {l:List Value} (hl:eX (fun x=>fK (e x)) o.op.operands.toList=some l)
  (h:cZ P (execOp (fun x=>(fK (e x)).getD default) o)=some (.value u)) (hv:lH u=some v) : nM P o e=some v:=by
 unfold nM; rw[hl]; simp only[h,hv]
theorem wL {op:BinOp} {t yt:TypeId} {x y:Operand} {a b u:Value} (hop:o.op=.binOp op t x y yt) (hx:fK (e x)=some a) (hy:fK (e y)=some b)
  (hg:cZ P (eqGuard op t x y a b)=some ()) (hb:cZ P (binOp op t a b)=some u) {v:AV} (hv:lH u=some v) : nM P o e=some v:=by
 refine rH (l:=[a,b]) (by rw[hop]; simp[Op.operands,eX,hx,hy]) (u:=u) ?_ hv
 simp only[execOp,hop,hx,hy,Option.getD_some]
 have h1:cZ P (do eqGuard op t x y a b; binOp op t a b)=some u:=by rw[dW _ _ () hg]; exact hb
 exact(dW _ _ _ h1)
theorem Mq {op:BinOp} {t:TypeId} {x y:Operand} {k l:IntKind} {a b:Int} : cZ P (eqGuard op t x y (.int k a) (.int l b))=some ():=by
 cases op <;> rfl
theorem KE {op:BinOp} {t:TypeId} {x y:Operand} {a b:Bool} : cZ P (eqGuard op t x y (.bool a) (.bool b))=some ():=by
 cases op <;> rfl
theorem alL {op:BinOp} {t yt:TypeId} {x y:Operand} {k:IntKind} {a b:Int} {u:Value} (hop:o.op=.binOp op t x y yt) (hx:e x=N k a) (hy:e y=N k b) (h:Cn op k a b=some u) :
  aW P o e=some (.sc u):=by
 have hb:cZ P (binOp op t (.int k a) (.int k b))=some u:=by
  cases op <;> simp only[Cn] at h <;> first | (cases h; done) | skip
  case quo=>split at h <;> first | (cases h; done) | skip
            rename_i h0; cases h; simp[binOp,Op.intDiv,h0]; rfl
  case rem=>split at h <;> first | (cases h; done) | skip
            rename_i h0; cases h; simp[binOp,Op.intDiv,h0]; rfl
  all_goals (cases h; simp[binOp,Op.intArith,Op.intBits,Op.intCmp]; rfl)
 have hv:lH u=some (.sc u):=by
  cases op <;> simp only[Cn] at h <;> first | (cases h; done) | (cases h; rfl) | (split at h <;> first | (cases h; done) | (cases h; rfl))
 unfold aW
 simp only[hop,hx,hy]
 exact wL hop (a:=.int k a) (b:=.int k b) (by rw[hx]; rfl) (by rw[hy]; rfl) Mq hb hv
theorem ae3 {op:BinOp} {t yt:TypeId} {x y:Operand} {k l:IntKind} {a b:Int} {u:Value} (hop:o.op=.binOp op t x y yt) (hx:e x=N k a) (hy:e y=N l b) (h:Ro op k a b=some u) :
  aW P o e=some (.sc u):=by
 unfold Ro at h
 split at h <;> first | (cases h; done) | skip
 rename_i h0
 have hb:cZ P (binOp op t (.int k a) (.int l b))=some u:=by
  split at h <;> first | (cases h; done) | skip
  all_goals (cases h; simp[binOp,Op.shift,h0]; rfl)
 have hv:lH u=some (.sc u):=by
  split at h <;> first | (cases h; done) | (cases h; rfl)
 unfold aW
 simp only[hop,hx,hy]
 exact wL hop (a:=.int k a) (b:=.int l b) (by rw[hx]; rfl) (by rw[hy]; rfl) Mq hb hv
theorem gZ {t:TypeId} {d:TypeDesc} (h:P.underlying t=some d) : cZ P (underlying t)=some d:=by
 have e:underlying t=.program (fun p=>match p.underlying t with | some d=>Sem.pure d | none=>stuck "no such type"):=rfl
 rw[e]
 simp only[cZ,h]
theorem QM {op:BinOp} {t yt:TypeId} {x y:Operand} {a b neg:Bool} (hop:o.op=.binOp op t x y yt) (hx:e x=Bo a) (hy:e y=Bo b) (ht:P.underlying t=some .bool) (h:(op=.eql∧neg=false)∨(op=.neq∧neg=true)) :
  aW P o e=some (Bo ((a == b) != neg)):=by
 have h1:cZ P (Op.equal t (.bool a) (.bool b))=some (a == b):=by
  have h0:cZ P (underlying t)=some .bool:=gZ ht
  show cZ P (Op.equalIn (9999 + 1) t (.bool a) (.bool b))=_
  rw[Op.equalIn,dW _ _ _ h0]
  rfl
 rcases h with⟨rfl,rfl⟩ | ⟨rfl,rfl⟩
 ·have hb:cZ P (binOp .eql t (.bool a) (.bool b))=some (.bool (a == b)):=dW _ _ _ h1
  have:=wL (P:=P) (e:=e) hop (a:=.bool a) (b:=.bool b) (by rw[hx]; rfl) (by rw[hy]; rfl) KE hb (v:=Bo (a == b)) rfl
  unfold aW
  simp only[hop,hx,hy]
  simp only[ve]
  simpa using this
 ·have hb:cZ P (binOp .neq t (.bool a) (.bool b))=some (.bool (!(a == b))):=dW _ _ _ h1
  have:=wL (P:=P) (e:=e) hop (a:=.bool a) (b:=.bool b) (by rw[hx]; rfl) (by rw[hy]; rfl) KE hb (v:=Bo (!(a == b))) rfl
  unfold aW
  simp only[hop,hx,hy]
  simp only[ve]
  simpa using this
theorem yT {k:IntKind} {n:Int} (h:0≤n) : ji (N k n)=some n.toNat:=by
 cases n with
 | ofNat m=>rfl
 | negSucc m=>omega
theorem aaW {op:BinOp} {t yt:TypeId} {x y:Operand} {neg r:Bool} {tag:Nat} (hop:o.op=.binOp op t x y yt) (acL:(op=.eql∧neg=false)∨(op=.neq∧neg=true)) (htag:WA P t=tag) (h0:tag≠0) (ht:VK (e x)=tag)
  (h:Lr (e x) (e y)=some r) : aW P o e=some (Bo (r != neg)):=by
 have key:(ve P t (e x) (e y)=some r∨(ve P t (e x) (e y)=none∧nM P o e=some (Bo (r != neg))))→(∀ k a,e x≠N k a)→(∀ s,e x≠.sc (.string s))→aW P o e=some (Bo (r != neg)):=by
  intro hk hn hs
  unfold aW
  simp only[hop]
  split
  ·rename_i k _ _ _ he _; exact absurd he (hn _ _)
  ·rename_i he _; exact absurd he (hs _)
  ·rename_i he _; exact absurd he (hn _ _)
  ·rcases acL with⟨rfl,rfl⟩ | ⟨rfl,rfl⟩
   ·rcases hk with hk | ⟨hk,hg⟩
    ·simp only[hk]; cases r <;> rfl
    ·simp only[hk]; exact hg
   ·rcases hk with hk | ⟨hk,hg⟩
    ·simp only[hk]; cases r <;> rfl
    ·simp only[hk]; exact hg
 have gen:∀ (a b:Value),e x=.sc a→e y=.sc b→fK (.sc a)=some a→fK (.sc b)=some b→(∀ op',cZ P (eqGuard op' t x y a b)=some ())→cZ P (Op.equal t a b)=some r →
   (binOp .eql t a b=(do pure (.bool (← Op.equal t a b))))→(binOp .neq t a b=(do pure (.bool (!(← Op.equal t a b)))))→nM P o e=some (Bo (r != neg)):=by
  intro a b hx hy ha hb hg heq h1 h2
  rcases acL with⟨rfl,rfl⟩ | ⟨rfl,rfl⟩
  ·exact wL (P:=P) (e:=e) hop (a:=a) (b:=b) (by rw[hx]; exact ha) (by rw[hy]; exact hb) (hg _) (u:=.bool r) (by rw[h1]; exact dW _ _ _ heq) (by cases r <;> rfl)
  ·exact wL (P:=P) (e:=e) hop (a:=a) (b:=b) (by rw[hx]; exact ha) (by rw[hy]; exact hb) (hg _) (u:=.bool (!r)) (by rw[h2]; exact dW _ _ _ heq) (by cases r <;> rfl)
 have ay1:∀ d,P.underlying t=some d→cZ P (underlying t)=some d:=fun d hd=>gZ hd
 unfold WA at htag
 generalize hex:e x=ex at h ht key gen
 generalize hey:e y=ey at h key gen
 unfold Lr at h
 split at h <;> first | (cases h; done) | skip
 all_goals first | (split at h <;> first | (cases h; done) | skip) | skip
 all_goals
  cases h
  simp only[VK] at ht
  subst ht
  split at htag <;> first | (cases htag; done) | (split at htag <;> cases htag; done) | skip
 all_goals
  first
   | (rename_i hu
      refine key (.inl ?_) (by intro k a h; cases h) (by intro s h; cases h)
      simp only[ve,hu]
      done)
   | (rename_i hu
      refine key (.inr ⟨rfl, ?_⟩) (by intro k a h; cases h) (by intro s h; cases h)
      refine gen _ _ rfl rfl rfl rfl (fun op'=>by cases op' <;> rfl) ?_ rfl rfl
      show cZ P (Op.equalIn (9999 + 1) t _ _)=_
      rw[Op.equalIn,dW _ _ _ (ay1 _ hu)]
      rfl
      done)
   | skip
 ·rename_i heq _ el hu
  split at htag <;> first | (cases htag; done) | skip
  rename_i n hs
  refine key (.inl ?_) (by intro k a h; cases h) (by intro s h; cases h)
  subst heq
  simp only[ve,hu,hs,LH,decide_true]
end
section
variable {P:Program} {ρ:Ren} {o:Oper} {e:Operand→AV} {c:Operand→Value} {M:RM} {K:AV→Prop}
theorem wF (d:Nat) (x:Option Operand) : kR e d x=bnd d (x.map e):=by
 cases x with
 | none=>rfl
 | some x =>
   simp only[kR,Option.map_some]
   generalize e x=y
   cases y <;> try rfl
   rename_i v
   cases v <;> try rfl
   rename_i k n
   cases n with
   | ofNat n=>simp[ji,bnd]
   | negSucc n=>simp only[ji,bnd]; rw[if_neg (by omega)]
theorem aeT {a b:Nat} (h:¬ a≤b) : Nat.ble a b=false:=by
 rcases hb:Nat.ble a b
 ·rfl
 ·exact absurd (bL hb) h
theorem uQ {a b:Nat} (h:a=b) : Nat.beq a b=true:=by subst h; simp
theorem KL {a b:Nat} (h:¬ a=b) : Nat.beq a b=false:=by rw[LH]; simp[h]
theorem aeg (d:Nat) (x:Operand) : ji (e x)=bnd d (some (e x)):=wF d (some x)
theorem ack {t elem:TypeId} {x:Operand} {lo hi mx:Option Operand} {size:Nat} {v:AV} (hu:P.underlying t=some (.slice elem)) (hs:bP P elem=some size)
  (h:bB size (e x) (lo.map e) (hi.map e) (mx.map e)=some v) : yw P e t x lo hi mx=some v:=by
 unfold yw
 unfold bB at h
 split at h <;> first | (cases h; done) | skip
 ·rename_i b o' len cap hex
  rw[hex]
  simp only[hu,hs,wF]
  split at h <;> first | (cases h; done) | skip
  rename_i l hh hl hhh
  simp only[hl,hhh]
  split at h
  ·rename_i hmx
   have hmx:mx=none:=by cases mx <;> simp at hmx; rfl
   subst hmx
   simp only
   split at h
   ·rename_i cc
    split at h <;> first | (cases h; done) | skip
    rename_i hc
    have e1:=bJ.2 hc.1
    have e2:=bJ.2 hc.2
    split at h
    ·rename_i hcl
     have e3:=uQ hcl
     simp only[e1,e2,e3]
     exact h
    ·rename_i hcl
     have e3:=KL hcl
     simp only[e1,e2,e3]
     exact h
   ·rename_i esz
    split at h <;> first | (cases h; done) | skip
    rename_i hc
    have e1:=bJ.2 hc.1
    have e2:=bJ.2 hc.2.1
    have e4:=uQ hc.2.2
    split at h
    ·rename_i hcl
     have e3:=bJ.2 hcl
     simp only[e1,e2,e3,e4]
     exact h
    ·rename_i hcl
     have e3:=aeT hcl
     simp only[e1,e2,e3,e4]
     exact h
  ·rename_i y hmx
   cases mx with
   | none=>cases hmx
   | some z =>
   cases hmx
   split at h <;> first | (cases h; done) | skip
   rename_i hy m hhi hm
   cases hi with
   | none=>cases hhi
   | some y2 =>
   simp only
   rw[aeg 0,hm]
   simp only
   cases cap with
   | ex cc =>
     simp only at h
     split at h <;> first | (cases h; done) | skip
     rename_i hc
     have e1:=bJ.2 hc.1
     have e2:=bJ.2 hc.2.1
     have e4:=bJ.2 hc.2.2
     split at h
     ·rename_i hcl
      have e3:=uQ hcl
      simp only[e1,e2,e3,e4]
      exact h
     ·rename_i hcl
      have e3:=KL hcl
      simp only[e1,e2,e3,e4]
      exact h
   | op esz =>
     simp only at h
     split at h <;> first | (cases h; done) | skip
     rename_i hc
     have e1:=bJ.2 hc.1
     have e2:=bJ.2 hc.2.1
     have e4:=bJ.2 hc.2.2
     split at h
     ·rename_i hcl
      have e3:=uQ hcl
      simp only[e1,e2,e3,e4]
      exact h
     ·rename_i hcl
      have e3:=KL hcl
      simp only[e1,e2,e3,e4]
      exact h
 ·rename_i b hex
  rw[hex]
  simp only[hu,hs,wF]
  split at h <;> first | (cases h; done) | skip
  rename_i hl hhh hmx
  have hmx:mx=none:=by cases mx <;> simp at hmx; rfl
  subst hmx
  simp only[hl,hhh]; exact h
 ·rename_i hex
  rw[hex]
  simp only[hu,hs,wF]
  split at h <;> first | (cases h; done) | skip
  ·rename_i hl hhh hmx
   have hmx:mx=none:=by cases mx <;> simp at hmx; rfl
   subst hmx
   have e3:bnd 0 (Option.map e none)=some 0:=rfl
   simp only[hl,hhh,e3]
   rw[hex] at h; exact h
  ·rename_i y hl hhh hmx
   cases mx with
   | none=>cases hmx
   | some z =>
   cases hmx
   split at h <;> first | (cases h; done) | skip
   rename_i hy hhi hm
   cases hi with
   | none=>cases hhi
   | some y2 =>
   have e3:bnd 0 (Option.map e (some z))=some 0:=hm
   simp only[hl,hhh,e3]
   rw[hex] at h; exact h
theorem aea {t elem:TypeId} {n:Nat} {x:Operand} {lo hi:Option Operand} {size:Nat} {v:AV} (hu:P.underlying t=some (.array n elem)) (hs:bP P elem=some size)
  (h:ac8 n size (e x) (lo.map e) (hi.map e)=some v) : yw P e t x lo hi none=some v:=by
 unfold yw
 unfold ac8 at h
 split at h <;> first | (cases h; done) | skip
 rename_i b o' hex
 rw[hex]
 simp only[hu,hs,wF]
 split at h <;> first | (cases h; done) | skip
 rename_i l hh hl hhh
 simp only[hl,hhh]
 split at h <;> first | (cases h; done) | skip
 rename_i hc
 have e1:=bJ.2 hc.1
 have e2:=bJ.2 hc.2
 split at h
 ·rename_i hcl
  have e3:=uQ hcl
  simp only[e1,e2,e3]
  exact h
 ·rename_i hcl
  have e3:=KL hcl
  simp only[e1,e2,e3]
  exact h
theorem Sr {place:Nat→Option (Nat × Nat)} : ∀ (parts:List (Nat × AV)) (qs:List (Nat × Nat × AV)) (cs:List AV),(parts.map fun p=>(place p.1).map fun q=>(q.1,q.2,p.2))=qs.map some→Eg place cs parts=sZ cs qs
 | [],qs,cs,h=>by
   cases qs with
   | nil=>rfl
   | cons q qs=>simp at h
 | (i,v) :: parts,qs,cs,h=>by
   cases qs with
   | nil=>simp at h
   | cons q qs =>
     simp only[List.map_cons,List.cons.injEq] at h
     obtain⟨h1,h2⟩:=h
     cases hp:place i with
     | none=>simp[hp] at h1
     | some pl =>
       obtain⟨off,size⟩:=pl
       simp only[hp,Option.map_some,Option.some.injEq] at h1
       subst h1
       simp only[Eg,hp,sZ]
       by_cases hk:known v=true∧v.cells.length=size∧off + size≤cs.length
       ·rw[if_pos hk,hk.1]
        simp only[LH,hk.2.1,decide_true,bJ.2 hk.2.2]
        rw[← Sr parts qs _ h2]
       ·rw[if_neg hk]
        split
        ·rename_i a b d
         exact absurd ⟨a,bS b,bL d⟩ hk
        ·rfl
theorem UO {w:World} {b p:Nat} {i:jf} {v:AV} (hw:fF P ρ M w) (hb:ρ b=some i) (h:M.loads b p 1=some [v]) : ∃ u,az ρ v u∧w.cell? ⟨i.cb,i.sh + p,none⟩=some u:=by
 obtain⟨vs,hr,hlen,hcell⟩:=RM.jM hw hb h
 cases hr with
 | cons _ u _ us hu hn =>
 cases hn
 have hcell:=hcell 0 u (by simp)
 rw[gM] at hcell
 exact⟨u,hu,by simpa using hcell⟩
theorem I6:∀ (ks rest:List Nat) (cs ds:List AV) {r:Bool},eH (ks++rest) cs ds=some r→(∃ r0,eH ks (cs.take ks.length) (ds.take ks.length)=some r0∧(r0=false→r=false)∧(r0=true→eH rest (cs.drop ks.length) (ds.drop ks.length)=some r))∨((cs.length<ks.length∨ds.length<ks.length)∧r=false)
 | [],rest,cs,ds,r,h=>.inl ⟨true,rfl,(fun h=>by cases h),fun _=>h⟩
 | k :: ks,rest,[],_,r,h=>by simp[eH] at h
 | k :: ks,rest,_ :: _,[],r,h=>by simp[eH] at h
 | k :: ks,rest,x :: cs,y :: ds,r,h=>by
   simp only[List.cons_append,eH] at h
   split at h
   ·rename_i hc
    rcases I6 ks rest cs ds h with⟨r0,h1,h2,h3⟩ | ⟨h1,h2⟩
    ·exact .inl ⟨r0,by simp only[List.length_cons,List.take_succ_cons,eH,hc]; exact h1,h2,fun e=>by simpa using h3 e⟩
    ·exact .inr ⟨by simp; omega,h2⟩
   ·rename_i hc
    cases h
    exact .inl ⟨false,by simp only[List.length_cons,List.take_succ_cons,eH,hc],fun _=>rfl,fun h=>by cases h⟩
   ·cases h
theorem E5 {t:TypeId} {us:List Value} {off:Nat} {u:Value} {w:World} (ha:fe P t=some false) (hu:us[off]?=some u) : (part t ⟨us⟩ off).run P w=.ok u w:=by
 simp only[part,Sem.run_bind,jr ha,Result.andThen_ok,Bool.false_eq_true,if_false]
 simp[hu]
theorem V5 {t:TypeId} {us:List Value} {off n:Nat} {w:World} (ha:fe P t=some true) (hs:bP P t=some n) : (part t ⟨us⟩ off).run P w=.ok (.agg ⟨(us.drop off).take n⟩) w:=by
 simp only[part,Sem.run_bind,jr ha,Result.andThen_ok,if_true,eD hs,Sem.run_pure]
 simp[List.take_drop]
theorem Xl:∀ (d:Nat) (t:TypeId) (ks:List Nat) (D:Nat),l6 P d t=some ks→d≤D→∀ (cs ds:List AV) (us vs:List Value) (r:Bool) (w:World),bF ρ cs us→bF ρ ds vs→cs.length=ks.length→ds.length=ks.length→eH ks cs ds=some r →
  (fe P t=some true∧(Op.equalIn D t (.agg ⟨us⟩) (.agg ⟨vs⟩)).run P w=.ok r w)∨(fe P t=some false∧∃ u v,us=[u]∧vs=[v]∧(Op.equalIn D t u v).run P w=.ok r w):=by
 intro d
 induction d with
 | zero=>intro t ks D h; simp[l6] at h
 | succ d ih =>
   intro t ks D h hD cs ds us vs r w hc hd hlc hld he
   obtain⟨D,rfl⟩ : ∃ D',D=D' + 1:=⟨D - 1,by omega⟩
   simp only[l6] at h
   have one:∀ k,ks=[k]→∃ x y u v,cs=[x]∧ds=[y]∧us=[u]∧vs=[v]∧az ρ x u∧az ρ y v∧xO k x y=some r:=by
    intro k hk
    subst hk
    cases hc with
    | nil=>simp at hlc
    | cons x u cs us hx hc=>cases hc with
      | cons=>simp at hlc
      | nil=>cases hd with
        | nil=>simp at hld
        | cons y v ds vs hy hd=>cases hd with
          | cons=>simp at hld
          | nil =>
            refine⟨x,y,u,v,rfl,rfl,rfl,rfl,hx,hy, ?_⟩
            simp only[eH] at he
            split at he
            ·rename_i h1; cases he; exact h1
            ·rename_i h1; cases he; exact h1
            ·cases he
   split at h <;> first | (cases h; done) | skip
   ·rename_i k hu
    cases h
    obtain⟨x,y,u,v,rfl,rfl,rfl,rfl,hx,hy,hce⟩:=one 1 rfl
    refine .inr ⟨by simp[fe,hu],u,v,rfl,rfl, ?_⟩
    unfold xO at hce
    split at hce <;> first | (cases hce; done) | skip
    ·split at hce <;> first | (cases hce; done) | skip
     rename_i e0; subst e0
     cases hce
     rw[(bu hx).1,(bu hy).1]
     exact run_equalIn_int w D t _ _ _ _ hu
    all_goals (rename_i e0; cases e0)
   ·rename_i hu
    cases h
    obtain⟨x,y,u,v,rfl,rfl,rfl,rfl,hx,hy,hce⟩:=one 2 rfl
    refine .inr ⟨by simp[fe,hu],u,v,rfl,rfl, ?_⟩
    unfold xO at hce
    split at hce <;> first | (cases hce; done) | skip
    ·rename_i e0; cases e0
    ·cases hce
     rw[(bu hx).1,(bu hy).1,run_equalIn_string w D t _ _ hu,ByteArray.toList_eq,ByteArray.toList_eq]
    ·rename_i e0; cases e0
   ·rename_i hu
    cases h
    obtain⟨x,y,u,v,rfl,rfl,rfl,rfl,hx,hy,hce⟩:=one 3 rfl
    refine .inr ⟨by simp[fe,hu],u,v,rfl,rfl, ?_⟩
    unfold xO at hce
    split at hce <;> first | (cases hce; done) | skip
    ·rename_i e0; cases e0
    ·rename_i e0; cases e0
    ·cases hce
     rw[(bu hx).1,(bu hy).1]
     exact run_equalIn_bool' w D t _ _ hu
   ·rename_i fs hu
    split at h <;> first | (cases h; done) | skip
    rename_i hst
    refine .inl ⟨by simp[fe,hu], ?_⟩
    have hfs:P.underlying t=some (.struct (P.fieldsOf t)):=by simp[Program.fieldsOf,hu]
    rw[run_equalIn_struct w D t _ _ hfs hst]
    have hff:(P.fieldsOf t).toList=fs.toList:=by simp[Program.fieldsOf,hu]
    rw[hff]
    have key:∀ (l:List Field) (off:Nat) (kr:List Nat) (r:Bool),Cg P (l6 P d) l off=some kr→(cs.drop off).length=kr.length→(ds.drop off).length=kr.length→eH kr (cs.drop off) (ds.drop off)=some r→(Op.eqFields D ⟨us⟩ ⟨vs⟩ l).run P w=.ok r w:=by
     intro l
     induction l with
     | nil =>
       intro off kr r h h1 h2 h3
       simp only[Cg] at h
       cases h
       have e1:=List.eq_nil_of_length_eq_zero h1
       have e2:=List.eq_nil_of_length_eq_zero h2
       rw[e1,e2] at h3
       simp only[eH] at h3
       cases h3
       rfl
     | cons f l ihl =>
       intro off kr r h h1 h2 h3
       simp only[Cg] at h
       split at h <;> first | (cases h; done) | skip
       rename_i kf n hn hoff hkf hsz
       split at h <;> first | (cases h; done) | skip
       rename_i kr' hlen hrest
       cases h
       have hoff:=bS hoff
       have hlen:=bS hlen
       have hname:f.name ≠ "_" := by simpa using hn
       rw[List.length_append] at h1 h2
       rcases I6 kf kr' _ _ h3 with⟨r0,g1,g2,g3⟩ | ⟨g,_⟩
       ·have hsub:=ih f.type kf D hkf (by omega) ((cs.drop off).take n) ((ds.drop off).take n) ((us.drop off).take n) ((vs.drop off).take n) r0 w ((hc.drop off).take n) ((hd.drop off).take n) (by simp at h1 ⊢; omega) (by simp at h2 ⊢; omega) (by rw[hlen]; exact g1)
        have hstep:(Op.eqFields D ⟨us⟩ ⟨vs⟩ (f :: l)).run P w=(if r0=false then .ok false w else(Op.eqFields D ⟨us⟩ ⟨vs⟩ l).run P w):=by
         simp only[Op.eqFields,if_pos hname]
         rcases hsub with⟨ha,hrun⟩ | ⟨ha,u,v,hu1,hv1,hrun⟩
         ·simp only[Sem.run_bind,hoff,V5 ha hsz,Result.andThen_ok,hrun]
          cases r0 <;> simp
         ·have hn1:n=1:=by
           have:=congrArg List.length hu1
           have hl:=hc.length
           simp at this h1; omega
          have p1:us[off]?=some u:=by
           have:((us.drop off).take n)[0]?=some u:=by rw[hu1]; rfl
           rw[List.getElem?_take,if_pos (by omega),List.getElem?_drop] at this
           simpa using this
          have p2:vs[off]?=some v:=by
           have:((vs.drop off).take n)[0]?=some v:=by rw[hv1]; rfl
           rw[List.getElem?_take,if_pos (by omega),List.getElem?_drop] at this
           simpa using this
          simp only[Sem.run_bind,hoff,E5 ha p1,E5 ha p2,Result.andThen_ok,hrun]
          cases r0 <;> simp
        rw[hstep]
        cases r0 with
        | false=>rw[g2 rfl]; simp
        | true =>
          simp only[Bool.true_eq_false,if_false]
          refine ihl (off + n) kr' r hrest (by simp at h1 ⊢; omega) (by simp at h2 ⊢; omega) ?_
          have:=g3 rfl
          rw[List.drop_drop,List.drop_drop,← hlen] at this
          exact this
       ·omega
    exact key fs.toList 0 ks r h (by simpa using hlc) (by simpa using hld) (by simpa using he)
theorem GK {w:World} {r clock:Nat} {fs:Array MapEntry} (h:w.heap[r]?=some (.map fs clock)) : (getObj r).run P w=.ok (.map fs clock) w:=by simp[getObj,Sem.run,h]
theorem sS {a:Bool} {k:AV} {kv:Value} {cs:List AV} (h:jg a k=some cs) (hk:az ρ k kv) : ∃ us,bF ρ cs us∧(a=true→kv=.agg ⟨us⟩)∧(a=false→us=[kv]):=by
 cases a with
 | false =>
   simp only[jg] at h
   cases h
   exact⟨[kv],.cons _ _ _ _ hk .nil,(fun h=>by cases h),fun _=>rfl⟩
 | true =>
   unfold jg at h
   split at h <;> first | (cases h; done) | skip
   ·rename_i cs' _
    cases h
    cases hk with
    | agg _ us hr=>exact⟨us,hr,fun _=>rfl,fun h=>by cases h⟩
   ·rename_i e0; cases e0
theorem UQ {kt:TypeId} {ks:List Nat} {a r:Bool} {x y:AV} {xv yv:Value} {cs ds:List AV} (hf:l6 P 10 kt=some ks) (ha:fe P kt=some a) (hx:jg a x=some cs) (hy:jg a y=some ds) (rx:az ρ x xv) (ry:az ρ y yv)
  (l1:cs.length=ks.length) (l2:ds.length=ks.length) (h:eH ks cs ds=some r) (w:World) : (Op.equal kt xv yv).run P w=.ok r w:=by
 obtain⟨us,r1,h1,h1'⟩:=sS hx rx
 obtain⟨vs,r2,h2,h2'⟩:=sS hy ry
 show(Op.equalIn 10000 kt xv yv).run P w=_
 rcases Xl 10 kt ks 10000 hf (by decide) cs ds us vs r w r1 r2 l1 l2 h with⟨hg,hr⟩ | ⟨hg,u,v,e1,e2,hr⟩
 ·have:a=true:=Option.some.inj (ha.symm.trans hg)
  rw[h1 this,h2 this]; exact hr
 ·have:a=false:=Option.some.inj (ha.symm.trans hg)
  have e3:=h1' this
  have e4:=h2' this
  rw[e1] at e3; rw[e2] at e4
  cases e3; cases e4
  exact hr
theorem UU {kt:TypeId} {ks:List Nat} {a:Bool} {k:AV} {kv:Value} {cs:List AV} {w:World} (hf:l6 P 10 kt=some ks) (ha:fe P kt=some a) (hc:jg a k=some cs) (hl:cs.length=ks.length) (hk:az ρ k kv) :
  ∀ {es:List (AV × AV × Nat)} {fs:List MapEntry} {i:Nat} {r:Option (Nat × AV)},dS ρ es fs→tX a ks cs es i=some r→∃ r',(Instr.findAsking kt kv fs i).run P w=.ok r' w∧Y2 ρ r r'
 | [],[],i,r,_,h=>by
   simp[tX] at h; subst h
   exact⟨none,rfl,trivial⟩
 | [],_ :: _,_,_,h,_=>h.elim
 | _ :: _,[],_,_,h,_=>h.elim
 | (ka,va,n) :: es,f :: fs,i,r,⟨h1,h2,h3,h4⟩,h=>by
   simp only[tX] at h
   split at h <;> first | (cases h; done) | skip
   rename_i ds hds
   split at h <;> first | (cases h; done) | skip
   rename_i hdl
   simp only[Instr.findAsking]
   split at h <;> first | (cases h; done) | skip
   ·rename_i hn
    cases h
    refine⟨some (i,f.val), ?_,rfl,h2⟩
    rw[Sem.run_bind,UQ hf ha hc hds hk h1 hl hdl hn w,Result.andThen_ok]
    rfl
   ·rename_i hn
    obtain⟨r',hr,hfr⟩:=UU hf ha hc hl hk h4 h
    refine⟨r', ?_,hfr⟩
    rw[Sem.run_bind,UQ hf ha hc hds hk h1 hl hdl hn w,Result.andThen_ok]
    exact hr
theorem QG {kt:TypeId} {d:TypeDesc} {x y:Value} {s:Bool} (hd:P.underlying kt=some d) (h:Instr.sameNow d x y=some s) (w:World) : (Op.equal kt x y).run P w=.ok s w:=by
 show(Op.equalIn (9999 + 1) kt x y).run P w=_
 unfold Instr.sameNow at h
 split at h <;> first | (cases h; done) | skip
 ·split at h <;> first | (cases h; done) | skip
  rename_i e0
  subst e0
  cases h
  exact run_equalIn_int w _ kt _ _ _ _ hd
 ·cases h
  rw[run_equalIn_string w _ kt _ _ hd,ByteArray.toList_eq,ByteArray.toList_eq,← lq,← bytes_beq]
 ·cases h
  exact run_equalIn_bool' w _ kt _ _ hd
theorem I7 {kt:TypeId} {d:TypeDesc} {kv:Value} {w:World} (hd:P.underlying kt=some d) : ∀ {fs:List MapEntry} {i:Nat} {r0 r' : Option (Nat × Value)},Instr.findNow d kv fs i=some r0→(Instr.findAsking kt kv fs i).run P w=.ok r' w→r0=r'
 | [],i,r0,r',h,h'=>by
   simp[Instr.findNow] at h
   subst h
   have h' : Result.ok none w=Result.ok r' w:=h'
   cases h'
   rfl
 | f :: fs,i,r0,r',h,h'=>by
   simp only[Instr.findNow] at h
   simp only[Instr.findAsking] at h'
   split at h <;> first | (cases h; done) | skip
   ·rename_i hs
    cases h
    rw[Sem.run_bind,QG hd hs w,Result.andThen_ok] at h'
    have h' : Result.ok (some (i,f.val)) w=Result.ok r' w:=h'
    cases h'
    rfl
   ·rename_i hs
    rw[Sem.run_bind,QG hd hs w,Result.andThen_ok] at h'
    exact I7 hd h h'
theorem EX {kt:TypeId} {ks:List Nat} {a:Bool} {k:AV} {kv:Value} {cs:List AV} {w:World} {es:List (AV × AV × Nat)} {fs:List MapEntry} {r:Option (Nat × AV)} (hf:l6 P 10 kt=some ks) (ha:fe P kt=some a) (hc:jg a k=some cs) (hl:cs.length=ks.length) (hk:az ρ k kv)
  (he:dS ρ es fs) (h:tX a ks cs es 0=some r) : ∃ r',(Instr.findKey kt kv fs).run P w=.ok r' w∧Y2 ρ r r':=by
 obtain⟨r',h1,h2⟩:=UU (w:=w) hf ha hc hl hk he h
 have hu:∃ d,P.underlying kt=some d:=by
  simp only[l6] at hf
  cases hu:P.underlying kt with
  | none=>rw[hu] at hf; cases hf
  | some d=>exact⟨d,rfl⟩
 obtain⟨d,hd⟩:=hu
 refine⟨r', ?_,h2⟩
 simp only[Instr.findKey,Sem.run_bind,run_underlying hd,Result.andThen_ok]
 cases hn:Instr.findNow d kv fs 0 with
 | none=>exact h1
 | some r0 =>
   have:=I7 hd hn h1
   subst this
   rfl
theorem acn:∀ (d:Nat) (t:TypeId) (ks:List Nat) (D:Nat) (em:Bool),l6 P d t=some ks→d≤D→∀ (us:List Value) (w:World),us.length=ks.length →
  (fe P t=some true∧(Instr.checkKey em D t (.agg ⟨us⟩)).run P w=.ok () w)∨(fe P t=some false∧∃ u,us=[u]∧(Instr.checkKey em D t u).run P w=.ok () w):=by
 intro d
 induction d with
 | zero=>intro t ks D em h; simp[l6] at h
 | succ d ih =>
   intro t ks D em h hD us w hl
   obtain⟨D,rfl⟩ : ∃ D',D=D' + 1:=⟨D - 1,by omega⟩
   simp only[l6] at h
   have one:∀ k,ks=[k]→∃ u,us=[u]:=fun k hk=>by
    subst hk
    match us,hl with
    | [u],_=>exact⟨u,rfl⟩
   split at h <;> first | (cases h; done) | skip
   ·rename_i k hu
    cases h
    obtain⟨u,rfl⟩:=one 1 rfl
    refine .inr ⟨by simp[fe,hu],u,rfl, ?_⟩
    simp only[Instr.checkKey,Sem.run_bind,run_underlying hu,Result.andThen_ok]
    rfl
   ·rename_i hu
    cases h
    obtain⟨u,rfl⟩:=one 2 rfl
    refine .inr ⟨by simp[fe,hu],u,rfl, ?_⟩
    simp only[Instr.checkKey,Sem.run_bind,run_underlying hu,Result.andThen_ok]
    rfl
   ·rename_i hu
    cases h
    obtain⟨u,rfl⟩:=one 3 rfl
    refine .inr ⟨by simp[fe,hu],u,rfl, ?_⟩
    simp only[Instr.checkKey,Sem.run_bind,run_underlying hu,Result.andThen_ok]
    rfl
   ·rename_i fs hu
    split at h <;> first | (cases h; done) | skip
    refine .inl ⟨by simp[fe,hu], ?_⟩
    simp only[Instr.checkKey,Sem.run_bind,run_underlying hu,Result.andThen_ok]
    rw[← Array.forIn_toList]
    have key:∀ (l:List Field) (off:Nat) (kr:List Nat),Cg P (l6 P d) l off=some kr→(us.drop off).length=kr.length →
      ((forIn l PUnit.unit fun(f:Field) (_:PUnit)=>(do
        if f.name ≠ "_" then do
         let x ← part f.type ⟨us⟩ f.offset
         Instr.checkKey em D f.type x
         pure (ForInStep.yield PUnit.unit)
        else pure (ForInStep.yield PUnit.unit) : Sem (ForInStep PUnit)) : Sem PUnit).run P w=.ok PUnit.unit w):=by
     intro l
     induction l with
     | nil=>intro off kr _ _; rfl
     | cons f l ihl =>
       intro off kr h h1
       simp only[Cg] at h
       split at h <;> first | (cases h; done) | skip
       rename_i kf n hn hoff hkf hsz
       split at h <;> first | (cases h; done) | skip
       rename_i kr' hlen hrest
       cases h
       have hoff:=bS hoff
       have hlen:=bS hlen
       have hname:f.name ≠ "_" := by simpa using hn
       rw[List.length_append] at h1
       have hsub:=ih f.type kf D em hkf (by omega) ((us.drop off).take n) w (by simp at h1 ⊢; omega)
       have hrec:=ihl (off + n) kr' hrest (by simp at h1 ⊢; omega)
       simp only[List.forIn_cons,Sem.run_bind,if_pos hname]
       rcases hsub with⟨ha,hrun⟩ | ⟨ha,u,hu1,hrun⟩
       ·simp only[hoff,V5 ha hsz,Result.andThen_ok,hrun,Sem.run_pure]
        exact hrec
       ·have hn1:n=1:=by
         have:=congrArg List.length hu1
         simp at this h1; omega
        have p1:us[off]?=some u:=by
         have:((us.drop off).take n)[0]?=some u:=by rw[hu1]; rfl
         rw[List.getElem?_take,if_pos (by omega),List.getElem?_drop] at this
         simpa using this
        simp only[hoff,E5 ha p1,Result.andThen_ok,hrun,Sem.run_pure]
        exact hrec
    exact(congrArg (fun r=>Result.andThen r fun _ w'=>Sem.run P (pure ()) w') (key fs.toList 0 ks h (by simpa using hl))).trans rfl
theorem Cr {kt:TypeId} {ks:List Nat} {a em:Bool} {k:AV} {kv:Value} {cs:List AV} {w:World} (hf:l6 P 10 kt=some ks) (ha:fe P kt=some a) (hc:jg a k=some cs) (hl:cs.length=ks.length) (hk:az ρ k kv) :
  (Instr.checkKey em 10000 kt kv).run P w=.ok () w:=by
 obtain⟨us,r1,h1,h1'⟩:=sS hc hk
 rcases acn 10 kt ks 10000 em hf (by decide) us w (by rw[← r1.length]; exact hl) with⟨hg,hr⟩ | ⟨hg,u,e1,hr⟩
 ·have:a=true:=Option.some.inj (ha.symm.trans hg)
  rw[h1 this]; exact hr
 ·have:a=false:=Option.some.inj (ha.symm.trans hg)
  have e3:=h1' this
  rw[e1] at e3
  cases e3
  exact hr
theorem Fh (h:gI P o e M K) : ∃ v,((∀ M',ou P o e M' v)∨(kindOf P o=.read∧ou P o e M v))∧K v:=by
 cases hop:o.op
 case move x=>simp only[gI,hop] at h; exact⟨_,aX (by simp only[aW,hop]),h⟩
 case assign x=>simp only[gI,hop] at h; exact⟨_,aX (by simp only[aW,hop]),h⟩
 case pick cn a b =>
  simp only[gI,hop] at h
  obtain⟨t,ht,hk⟩:=h
  exact⟨_,aX (by cases t <;> simp only[aW,hop,ht] <;> rfl),hk⟩
 case nilCheck x =>
  simp only[gI,hop] at h
  obtain⟨b,p,hx,hk⟩:=h
  exact⟨_,aX (by simp only[aW,hop,hx]),hk⟩
 case fieldAddr s x f =>
  simp only[gI,hop] at h
  split at h <;> first | (cases h; done) | skip
  rename_i fields hu
  split at h <;> first | (cases h; done) | skip
  rename_i fd hf
  split at h <;> first | (cases h; done) | skip
  rename_i n hs
  obtain⟨b,p,hx,hk⟩:=h
  exact⟨_,aX (by simp only[aW,hop,hu,hx,hf,hs]),hk⟩
 case indexAddr t x ix =>
  simp only[gI,hop] at h
  split at h <;> first | (cases h; done) | skip
  ·rename_i elem hu
   split at h <;> first | (cases h; done) | skip
   rename_i size hs
   obtain⟨b,p,len,cap,k,n,hx,hi,h0,h1,hk⟩:=h
   exact⟨_,aX (by simp only[aW,hop,hu,hx,hi,yT h0,bJ.2 (show n.toNat + 1≤len by omega),hs]),hk⟩
  ·rename_i len elem hu
   split at h <;> first | (cases h; done) | skip
   rename_i size hs
   obtain⟨b,p,k,n,hx,hi,h0,h1,hk⟩:=h
   exact⟨_,aX (by simp only[aW,hop,hu,hx,hi,yT h0,bJ.2 (show n.toNat + 1≤len by omega),hs]),hk⟩
 case field t x f =>
  simp only[gI,hop] at h
  split at h <;> first | (cases h; done) | skip
  rename_i fields hu
  split at h <;> first | (cases h; done) | skip
  rename_i fd hf
  split at h <;> first | (cases h; done) | skip
  ·rename_i ha
   obtain⟨cs,v,hx,hv,hk⟩:=h
   exact⟨_,aX (by simp only[aW,hop,hu,hx,hf,partOf,ha,dP]; exact hv),hk⟩
  ·rename_i ha
   split at h <;> first | (cases h; done) | skip
   rename_i n hs
   obtain⟨cs,hx,hv,hk⟩:=h
   exact⟨_,aX (by simp only[aW,hop,hu,hx,hf,partOf,ha,hs,bJ.2 hv]),hk⟩
 case index t x ix =>
  simp only[gI,hop] at h
  split at h <;> first | (cases h; done) | skip
  ·rename_i hu
   obtain⟨s,k,n,b,hx,hi,h0,hb,hk⟩:=h
   exact⟨_,aX (by simp only[aW,hop,hu,hx,hi,yT h0,dP,hb]),hk⟩
  ·rename_i len elem hu
   split at h <;> first | (cases h; done) | skip
   ·rename_i ha
    split at h <;> first | (cases h; done) | skip
    rename_i hs
    obtain⟨cs,k,n,v,hx,hi,h0,h1,hv,hk⟩:=h
    exact⟨_,aX (by simp only[aW,hop,hu,hx,hi,yT h0,bJ.2 (show n.toNat + 1≤len by omega),hs,partOf,ha,dP,Nat.mul_one]; exact hv),hk⟩
   ·rename_i ha
    split at h <;> first | (cases h; done) | skip
    rename_i size hs
    obtain⟨cs,k,n,hx,hi,h0,h1,hv,hk⟩:=h
    exact⟨_,aX (by simp only[aW,hop,hu,hx,hi,yT h0,bJ.2 (show n.toNat + 1≤len by omega),hs,partOf,ha,bJ.2 hv]),hk⟩
 case slice t x lo hi mx =>
  simp only[gI,hop] at h
  split at h <;> first | (cases h; done) | skip
  ·rename_i hu
   split at h <;> first | (cases h; done) | skip
   obtain⟨v,hv,hk⟩:=h
   refine⟨_,aX ?_,hk⟩
   unfold aem at hv
   split at hv <;> first | (cases hv; done) | skip
   rename_i s hex
   split at hv <;> first | (cases hv; done) | skip
   rename_i l hh hl hhh
   split at hv <;> first | (cases hv; done) | skip
   rename_i hc
   simp only[aW,hop,hex,LU,hu,wF,hl,hhh,bJ.2 hc.1,bJ.2 hc.2]
   exact hv
  ·rename_i elem hu
   split at h <;> first | (cases h; done) | skip
   rename_i size hs
   obtain⟨v,hv,hk⟩:=h
   have h1:=ack hu hs hv
   refine⟨_,aX ?_,hk⟩
   simp only[aW,hop]
   split
   ·rename_i s hex
    simp[bB,hex] at hv
   ·exact h1
  ·rename_i n elem hu
   split at h <;> first | (cases h; done) | skip
   rename_i size hs
   obtain⟨v,hv,hk⟩:=h
   have h1:=aea hu hs hv
   refine⟨_,aX ?_,hk⟩
   simp only[aW,hop]
   split
   ·rename_i s hex
    simp[ac8,hex] at hv
   ·exact h1
 case extract x i =>
  simp only[gI,hop] at h
  obtain⟨vs,v,hx,hv,hk⟩:=h
  exact⟨_,aX (by simp only[aW,hop,hx,dP]; exact hv),hk⟩
 case makeInterface t x =>
  simp only[gI,hop] at h
  split at h <;> first | (cases h; done) | skip
  rename_i d hne hu
  exact⟨_,aX (by simp only[aW,hop,hu]),h⟩
 case makeFunc f first captured =>
  simp only[gI,hop] at h
  split at h <;> first | (cases h; done) | skip
  exact⟨_,aX (by simp only[aW,hop]),h⟩
 case build t parts =>
  simp only[gI,hop] at h
  split at h <;> first | (cases h; done) | skip
  ·rename_i it n el hi hu
   split at h <;> first | (cases h; done) | skip
   rename_i z ie hz hie
   split at h <;> first | (cases h; done) | skip
   rename_i cs hcs
   obtain⟨cs',hf,hk⟩:=h
   refine⟨_,aX ?_,hk⟩
   simp only[aW,hop,hi,hu,hz,hie,hcs]
   rw[Sr _ (parts.toList.map fun p=>(p.1 * ie.size,ie.size,e p.2)) _ (by simp),hf]
   rfl
  ·rename_i it fields hi hu
   split at h <;> first | (cases h; done) | skip
   rename_i z places hz hpl
   split at h <;> first | (cases h; done) | skip
   rename_i cs ps hcs hps
   obtain⟨cs',hf,hk⟩:=h
   refine⟨_,aX ?_,hk⟩
   simp only[aW,hop,hi,hu,hz,hpl,hcs]
   rw[Sr _ ps _ ?_,hf]
   ·rfl
   ·rw[List.map_map]
    revert hps
    generalize parts.toList=pl
    intro hps
    induction pl generalizing ps cs cs' with
    | nil=>simp[eX] at hps; subst hps; rfl
    | cons p pl ih =>
      simp only[eX] at hps
      split at hps <;> first | (cases hps; done) | skip
      rename_i y hy
      split at hps <;> first | (cases hps; done) | skip
      rename_i ys hys
      cases hps
      simp only[List.map_cons,List.cons.injEq]
      refine⟨?_, ?_⟩
      ·split at hy <;> first | (cases hy; done) | skip
       rename_i q hq
       cases hy
       simp[hq]
      ·clear ih hf
       revert hys
       generalize ys=zs
       intro hys
       induction pl generalizing zs with
       | nil=>simp[eX] at hys; subst hys; rfl
       | cons p pl ih =>
         simp only[eX] at hys
         split at hys <;> first | (cases hys; done) | skip
         rename_i y' hy'
         split at hys <;> first | (cases hys; done) | skip
         rename_i ys' ayP
         cases hys
         simp only[List.map_cons,List.cons.injEq]
         refine⟨?_,ih _ ayP⟩
         split at hy' <;> first | (cases hy'; done) | skip
         rename_i q hq
         cases hy'
         simp[hq]
 case binOp op t x y yt =>
  simp only[gI,hop] at h
  split at h <;> first | (cases h; done) | skip
  ·split at h
   ·obtain⟨k,a,l,b,v,hx,hy,hv,hk⟩:=h
    exact⟨_,aX (ae3 hop hx hy hv),hk⟩
   ·obtain⟨k,a,l,b,v,hx,hy,hv,hk⟩:=h
    exact⟨_,aX (ae3 hop hx hy hv),hk⟩
   ·obtain⟨k,a,b,v,hx,hy,hv,hk⟩:=h
    exact⟨_,aX (alL hop hx hy hv),hk⟩
  ·obtain⟨a,b,v,hx,hy,hv,hk⟩:=h
   exact⟨_,aX (by simp only[aW,hop,hx,hy]; exact hv),hk⟩
  ·rename_i hu
   split at h <;> first | (cases h; done) | skip
   ·obtain⟨a,b,hx,hy,hk⟩:=h
    exact⟨_,aX (QM hop hx hy hu (.inl ⟨rfl,rfl⟩)),hk⟩
   ·obtain⟨a,b,hx,hy,hk⟩:=h
    exact⟨_,aX (QM hop hx hy hu (.inr ⟨rfl,rfl⟩)),hk⟩
  ·rename_i fs hu
   have key:∀ (ks:List Nat) (neg:Bool),ach P t=some ks→nE neg ks (e x) (e y) K→((op=.eql∧neg=false)∨(op=.neq∧neg=true))→∃ v,((∀ M',ou P o e M' v)∨(kindOf P o=.read∧ou P o e M v))∧K v:=by
    intro ks neg hf h acL
    obtain⟨cs,ds,r,hx,hy,hlc,hld,he,hk⟩:=h
    refine⟨_,.inl fun _ ρ w c M' _ hw he0=>⟨.bool (r != neg), ?_,.sc _ rfl⟩,hk⟩
    have hxr:az ρ (e x) (c x):=he0 x (by rw[hop]; simp[Op.operands])
    have hyr:az ρ (e y) (c y):=he0 y (by rw[hop]; simp[Op.operands])
    rw[hx] at hxr
    rw[hy] at hyr
    obtain⟨us,hcx,hru⟩:=Bg hxr
    obtain⟨vs,hcy,hrv⟩:=Bg hyr
    unfold ach at hf
    split at hf <;> first | (cases hf; done) | skip
    rename_i hg
    have hrun:(Op.equalIn 10000 t (.agg ⟨us⟩) (.agg ⟨vs⟩)).run P w=.ok r w:=by
     rcases Xl 10 t ks 10000 hf (by omega) cs ds us vs r w hru hrv hlc hld he with⟨_,h1⟩ | ⟨h1,_⟩
     ·exact h1
     ·simp[fe,hu] at h1
    simp only[execOp,hop,hcx,hcy,Sem.run_bind,run_eqGuard_agg w op t x y _ _ hg,Result.andThen_ok]
    rcases acL with⟨rfl,rfl⟩ | ⟨rfl,rfl⟩
    ·rw[run_eql_struct,hrun]; cases r <;> rfl
    ·rw[run_neq_struct,hrun]; cases r <;> rfl
   split at h <;> first | (cases h; done) | skip
   ·exact key _ _ ‹_› h (.inl ⟨rfl,rfl⟩)
   ·exact key _ _ ‹_› h (.inr ⟨rfl,rfl⟩)
  ·obtain⟨v,hv,hk⟩:=h
   exact⟨_,aX hv,hk⟩
  ·split at h <;> first | (cases h; done) | skip
   ·obtain⟨v,hv,hk⟩:=h
    exact⟨_,aX hv,hk⟩
   ·rename_i h0
    obtain⟨htag,r,hr,hk⟩:=h
    exact⟨_,aX (aaW hop (.inl ⟨rfl,rfl⟩) rfl (fun e0=>h0 e0) htag hr),hk⟩
   ·rename_i h0
    obtain⟨htag,r,hr,hk⟩:=h
    exact⟨_,aX (aaW hop (.inr ⟨rfl,rfl⟩) rfl (fun e0=>h0 e0) htag hr),hk⟩
 case convert src dst x =>
  simp only[gI,hop] at h
  split at h <;> first | (cases h; done) | skip
  ·rename_i k hs hd
   obtain⟨l,n,hx,hk⟩:=h
   refine⟨_,aX ?_,hk⟩
   simp only[aW,hop]
   refine rH (l:=[.int l n]) (by rw[hop]; simp[Op.operands,eX,hx,fK,toCell]) (u:=.int k (k.wrap n)) ?_ rfl
   simp only[execOp,hop,hx,fK,toCell,Option.getD_some]
   refine dW _ _ (Value.int k (k.wrap n)) ?_
   simp only[convert]
   rw[dW _ _ _ (gZ hs),dW _ _ _ (gZ hd)]
   rfl
  ·rename_i hs hd
   obtain⟨s,hx,hk⟩:=h
   refine⟨_,aX ?_,hk⟩
   simp only[aW,hop]
   refine rH (l:=[.string ⟨⟨s⟩⟩]) (by rw[hop]; simp[Op.operands,eX,hx,fK,toCell]) (u:=.string ⟨⟨s⟩⟩) ?_ rfl
   simp only[execOp,hop,hx,fK,toCell,Option.getD_some]
   refine dW _ _ (Value.string ⟨⟨s⟩⟩) ?_
   simp only[convert]
   rw[dW _ _ _ (gZ hs),dW _ _ _ (gZ hd)]
   rfl
  ·rename_i k0 hs hd
   obtain⟨l,n,hx,hk⟩:=h
   refine⟨_,aX ?_,hk⟩
   simp only[aW,hop]
   refine rH (l:=[.int l n]) (by rw[hop]; simp[Op.operands,eX,hx,fK,toCell]) (u:=.string (Utf8.encode n)) ?_ rfl
   simp only[execOp,hop,hx,fK,toCell,Option.getD_some]
   refine dW _ _ (Value.string (Utf8.encode n)) ?_
   simp only[convert]
   rw[dW _ _ _ (gZ hs),dW _ _ _ (gZ hd)]
   rfl
  ·rename_i el hs hd
   split at h <;> first | (cases h; done) | skip
   rename_i hel
   obtain⟨s,hx,hk⟩:=h
   refine⟨_,.inr ⟨by simp only[kindOf,hop,hs,hd],fun ρ w c M' hsub hw he=>?_⟩,hk⟩
   have hxr:az ρ (e x) (c x):=he x (by rw[hop]; simp[Op.operands])
   unfold GQ at hx
   split at hx <;> first | (cases hx; done) | skip
   ·rename_i b p len cap hex
    split at hx <;> first | (cases hx; done) | skip
    rename_i xs hl
    rw[hex] at hxr
    obtain⟨i,cp,hbi,hc⟩:=iF hxr
    obtain⟨vs,hr,hlen,_,hrun⟩:=RM.oI (P:=P) hw hbi (hsub.loads hl)
    obtain⟨ns,rfl,rfl⟩:=zl hr hx
    refine⟨_, ?_,.sc _ rfl⟩
    simp only[execOp,hop,hc,Sem.run_bind]
    rw[run_convert_bytes_string w src dst el _ len cp hs hel hd,run_bytesToString w _ len cp ns (by rw[hrun]),foldl_push_bytes]
    have he0:ByteArray.empty.data = #[]:=rfl
    simp[he0]
   ·rename_i b hex
    cases hx
    rw[hex] at hxr
    generalize hcx:c x=cx at hxr
    cases hxr with
    | emp _ ad cp =>
    refine⟨_, ?_,.sc _ rfl⟩
    simp only[execOp,hop,hcx,Sem.run_bind]
    rw[run_convert_bytes_string w src dst el _ 0 cp hs hel hd,run_bytesToString w _ 0 cp [] (by rfl)]
    rfl
   ·rename_i hex
    cases hx
    rw[hex] at hxr
    refine⟨_, ?_,.sc _ rfl⟩
    simp only[execOp,hop,(bu hxr).1,Sem.run_bind]
    rw[run_convert_bytes_string w src dst el _ 0 0 hs hel hd]
    rfl
  ·rename_i t hs hd
   split at h <;> first | (cases h; done) | skip
   rename_i n hsz
   obtain⟨b,p,l,opn,el,fz,hex,hg,hle,hk⟩:=h
   refine⟨_,.inr ⟨by simp only[kindOf,hop,hs,hd],fun ρ w c M' hsub hw he=>?_⟩,hk⟩
   obtain⟨A,hA⟩:=hw
   rcases hA.blk b _ (hsub.2 b _ hg) with⟨y,hy,hr⟩ | ⟨_,e0,_⟩
   ·cases y <;> first | exact hr.elim | skip
    obtain⟨h1,rfl,rfl,rfl,h5⟩:=hr
    refine wW hA.rel he ?_
    simp only[lM,hop,hs,hd,hex,hy,hsz]
    rw[bJ.2 (by omega)]
   ·cases e0
  ·rename_i u hs hd
   split at h <;> first | (cases h; done) | skip
   rename_i n hsz hc1 hli
   obtain⟨b,l,opn,fz,hex,hg,hle,hk⟩:=h
   have hc1:=bL hc1
   refine⟨_,.inr ⟨by simp only[kindOf,hop,hs,hd],fun ρ w c M' hsub hw he=>?_⟩,hk⟩
   obtain⟨A,hA⟩:=hw
   rcases hA.blk b _ (hsub.2 b _ hg) with⟨y,hy,hr⟩ | ⟨_,e0,_⟩
   ·cases y <;> first | exact hr.elim | skip
    rename_i nn tree zs N9 ol fz'
    obtain⟨h1,rfl,rfl,rfl,h5⟩:=hr
    refine wW hA.rel he ?_
    have hdiv:nn / P.cellsOf ol=1:=by rw[← h1,hle]; exact Nat.div_self (by omega)
    simp only[lM,hop,hs,hd,hex,hy,hsz,hdiv,hli]
   ·cases e0
  ·obtain⟨v,hv,hk⟩:=h
   exact⟨_,aX hv,hk⟩
 case unOp op t x =>
  simp only[gI,hop] at h
  split at h
  ·obtain⟨b,hx,hk⟩:=h
   refine⟨_,aX ?_,hk⟩
   simp only[aW,hop]
   refine rH (l:=[.bool b]) (by rw[hop]; simp[Op.operands,eX,hx,fK,toCell]) (u:=.bool (!b)) ?_ rfl
   simp only[execOp,hop,hx,fK,toCell,Option.getD_some]
   rfl
  ·obtain⟨k,n,hx,hk⟩:=h
   refine⟨_,aX ?_,hk⟩
   simp only[aW,hop]
   refine rH (l:=[.int k n]) (by rw[hop]; simp[Op.operands,eX,hx,fK,toCell]) (u:=.int k (k.wrap (0 - n))) ?_ rfl
   simp only[execOp,hop,hx,fK,toCell,Option.getD_some]
   rfl
  ·obtain⟨v,hv,hk⟩:=h
   exact⟨_,aX hv,hk⟩
 case lookup t x k ok =>
  simp only[gI,hop] at h
  split at h <;> first | (cases h; done) | skip
  rename_i kt et hu
  split at h <;> first | (cases h; done) | skip
  rename_i ks a z hf ha hz
  obtain⟨b,es,cl,kc,r,hx,hg,hkc,hl,hr,hk⟩:=h
  refine⟨_,.inr ⟨by simp only[kindOf,hop],fun ρ w c M' hsub hw he=>?_⟩,hk⟩
  have hxr:az ρ (e x) (c x):=he x (by rw[hop]; simp[Op.operands])
  have hkr:az ρ (e k) (c k):=he k (by rw[hop]; simp[Op.operands])
  rw[hx] at hxr
  generalize hcx:c x=cx at hxr
  cases hxr with
  | map _ i hb =>
  obtain⟨A,hA⟩:=hw
  rcases hA.blk b _ (hsub.2 _ _ hg) with⟨y,hy,hle⟩ | ⟨_,e0,_⟩
  ·cases y <;> first | exact hle.elim | skip
   obtain⟨rfl,rfl⟩:=hle
   obtain⟨ob,hob,fs,rfl,hfs⟩:=hA.rel.blk b i _ hb hy
   have hgo:=GK (P:=P) hob
   obtain⟨r',hr1,hr2⟩:=EX (w:=w) hf ha hkc hl hkr hfs hr
   have hck:=Cr (em:=fs.isEmpty) (w:=w) hf ha hkc hl hkr
   unfold akr at hz
   split at hz <;> first | (cases hz; done) | skip
   rename_i z0 hz0
   have rG:∀ {u:Value},(Instr.lookup t (.map (some i.cb)) (c k) ok).run P w=.ok u w→(execOp c o).run P w=.ok (.value u) w:=fun {u} hrun=>by
    simp only[execOp,hop,hcx,Sem.run_bind,hrun,Result.andThen_ok,Sem.run_pure]
   cases r with
   | some p =>
     obtain⟨j,va⟩:=p
     cases r' with
     | none=>exact hr2.elim
     | some q =>
       obtain⟨j',vv⟩:=q
       refine⟨if ok then Value.tuple #[vv,.bool true] else vv,rG ?_, ?_⟩
       ·unfold Instr.lookup
        simp only[Sem.run_bind,run_underlying hu,Result.andThen_ok,hgo,hck,hr1,Sem.run_pure]
       ·cases ok
        ·exact hr2.2
        ·exact .tup _ _ (.cons _ _ _ _ hr2.2 (.cons _ _ _ _ (.sc _ rfl) .nil))
   | none =>
     cases r' with
     | some q=>exact hr2.elim
     | none =>
       refine⟨if ok then Value.tuple #[z0,.bool false] else z0,rG ?_, ?_⟩
       ·unfold Instr.lookup
        simp only[Sem.run_bind,run_underlying hu,Result.andThen_ok,hgo,hck,hr1,iG hz0 w,Sem.run_pure]
       ·cases ok
        ·exact jK hz
        ·exact .tup _ _ (.cons _ _ _ _ (jK hz) (.cons _ _ _ _ (.sc _ rfl) .nil))
  ·cases e0
 case load t x =>
  simp only[gI,hop] at h
  split at h <;> first | (cases h; done) | skip
  ·rename_i ha
   obtain⟨b,p,v,hx,hl,hk⟩:=h
   refine⟨_,.inr ⟨by simp only[kindOf,hop],fun ρ w c M' hsub hw he=>?_⟩,hk⟩
   have hxr:az ρ (e x) (c x):=he x (by rw[hop]; simp[Op.operands])
   rw[hx] at hxr
   obtain⟨i,hb,hc⟩:=fQ hxr
   obtain⟨u,hu,hcell⟩:=UO hw hb (hsub.loads hl)
   refine⟨u, ?_,hu⟩
   simp only[execOp,hop,Instr.loadAt,Instr.sureAddr,loadVar,hc,Sem.run_bind,Sem.run_pure,Result.andThen_ok,jr ha,Bool.false_eq_true,if_false,load,Sem.run]
   simp[hcell,Sem.run]
  ·rename_i ha
   split at h <;> first | (cases h; done) | skip
   rename_i n hs
   obtain⟨b,p,xs,hx,hl,hk⟩:=h
   refine⟨_,.inr ⟨by simp only[kindOf,hop],fun ρ w c M' hsub hw he=>?_⟩,hk⟩
   have hxr:az ρ (e x) (c x):=he x (by rw[hop]; simp[Op.operands])
   rw[hx] at hxr
   obtain⟨i,hb,hc⟩:=fQ hxr
   obtain⟨vs,hr,hlen,_,hrun⟩:=RM.oI (P:=P) hw hb (hsub.loads hl)
   refine⟨.agg ⟨vs⟩, ?_,.agg _ _ hr⟩
   simp only[execOp,hop,Instr.loadAt,Instr.sureAddr,loadVar,hc,Sem.run_bind,Sem.run_pure,Result.andThen_ok,jr ha,if_true,eD hs,hrun]
 case call cl =>
  obtain⟨callee,args,ts⟩:=cl
  cases callee with
  | builtin b =>
    cases b
    case len =>
     simp only[gI,hop] at h
     split at h <;> first | (cases h; done) | skip
     rename_i t x ht hx
     have rG:∀ {w:World} {c:Operand→Value} {n:Nat},(Builtin.len_ ts o.type (args.map c)).run P w=.ok (.int .i64 n) w→(execOp c o).run P w=.ok (.value (.int .i64 n)) w:=by
      intro w c n hrun
      simp only[execOp,hop,resolve,invoke,builtin,Sem.run_bind,Sem.run_pure,Result.andThen_ok,hrun]
     split at h <;> first | (cases h; done) | skip
     ·rename_i el hu
      obtain⟨n,hn,hk⟩:=h
      refine⟨_,.inl fun _ ρ w c M' _ hw he=>⟨.int .i64 n,rG ?_,.sc _ rfl⟩,hk⟩
      have hr:az ρ (e x) (c x):=he x (by rw[hop]; simp only[Op.operands,Call.operands,Array.empty_append]; exact Array.mem_of_getElem? hx)
      unfold ajF at hn
      split at hn <;> first | (cases hn; done) | skip
      ·rename_i b p k cap hex
       cases hn
       rw[hex] at hr
       obtain⟨i,cp,hb,hc⟩:=iF hr
       simp only[Builtin.len_,ht,Array.getElem?_map,hx,Option.map_some,hc,Sem.run_bind,run_underlying hu,Result.andThen_ok,Sem.run_pure,goInt]
      ·rename_i b hex
       cases hn
       rw[hex] at hr
       generalize hcx:c x=cx at hr
       cases hr
       simp only[Builtin.len_,ht,Array.getElem?_map,hx,Option.map_some,hcx,Sem.run_bind,run_underlying hu,Result.andThen_ok,Sem.run_pure,goInt]
      ·rename_i hex
       cases hn
       rw[hex] at hr
       simp only[Builtin.len_,ht,Array.getElem?_map,hx,Option.map_some,(bu hr).1,Sem.run_bind,run_underlying hu,Result.andThen_ok,Sem.run_pure,goInt]
     ·rename_i hu
      obtain⟨s,hex,hk⟩:=h
      refine⟨_,.inl fun _ ρ w c M' _ hw he=>⟨.int .i64 s.length,rG ?_,.sc _ rfl⟩,hk⟩
      have hr:az ρ (e x) (c x):=he x (by rw[hop]; simp only[Op.operands,Call.operands,Array.empty_append]; exact Array.mem_of_getElem? hx)
      rw[hex] at hr
      simp only[Builtin.len_,ht,Array.getElem?_map,hx,Option.map_some,(bu hr).1,Sem.run_bind,run_underlying hu,Result.andThen_ok,Sem.run_pure,goInt]
      rfl
     ·rename_i kt et hu
      obtain⟨b,es,cl,hex,hg,hk⟩:=h
      refine⟨_,.inr ⟨by simp only[kindOf,hop,ht,hu],fun ρ w c M' hsub hw he=>⟨.int .i64 es.length,rG ?_,.sc _ rfl⟩⟩,hk⟩
      have hr:az ρ (e x) (c x):=he x (by rw[hop]; simp only[Op.operands,Call.operands,Array.empty_append]; exact Array.mem_of_getElem? hx)
      rw[hex] at hr
      generalize hcx:c x=cx at hr
      cases hr with
      | map _ i hb =>
      obtain⟨A,hA⟩:=hw
      rcases hA.blk b _ (hsub.2 _ _ hg) with⟨y,hy,hle⟩ | ⟨_,e0,_⟩
      ·cases y <;> first | exact hle.elim | skip
       obtain⟨rfl,rfl⟩:=hle
       obtain⟨ob,hob,fs,rfl,hfs⟩:=hA.rel.blk b i _ hb hy
       have hlen:∀ (es:List (AV × AV × Nat)) (fs:List MapEntry),dS ρ es fs→es.length=fs.length:=by
        intro es
        induction es with
        | nil=>intro fs h; cases fs <;> simp_all [dS]
        | cons a es ih =>
          intro fs h
          cases fs with
          | nil=>exact h.elim
          | cons f fs=>simp[ih fs h.2.2.2]
       simp only[Builtin.len_,ht,Array.getElem?_map,hx,Option.map_some,hcx,Sem.run_bind,run_underlying hu,Result.andThen_ok,getObj,Sem.run,hob]
       simp[goInt,hlen _ _ hfs]
      ·cases e0
    case cap =>
     simp only[gI,hop] at h
     split at h <;> first | (cases h; done) | skip
     rename_i t x ht hx
     split at h <;> first | (cases h; done) | skip
     rename_i el hu
     obtain⟨n,hn,hk⟩:=h
     refine⟨_,aX ?_,hk⟩
     split at hn <;> first | (cases hn; done) | skip
     ·rename_i b p k cc hex
      cases hn
      simp only[aW,hop,ht,hx,hu,hex]
     ·rename_i hex
      cases hn
      simp only[aW,hop,ht,hx,hu,hex]
      rfl
    case unsafeSliceData =>
     simp only[gI,hop] at h
     split at h <;> first | (cases h; done) | skip
     rename_i x
     unfold aeF at h
     split at h <;> first | (cases h; done) | skip
     ·rename_i hex; exact⟨_,aX (by simp only[aW,hop,hex]),h⟩
     ·rename_i hex; exact⟨_,aX (by simp only[aW,hop,hex]),h⟩
     ·rename_i hex; exact⟨_,aX (by simp only[aW,hop,hex]),h⟩
    case min =>
     simp only[gI,hop] at h
     split at h <;> first | (cases h; done) | skip
     rename_i x y
     obtain⟨k,a,b,hx,hy,hk⟩:=h
     refine⟨_,aX ?_,hk⟩
     simp only[aW,hop]
     refine rH (l:=[.int k a,.int k b]) (by rw[hop]; simp[Op.operands,Call.operands,eX,hx,hy,fK,toCell]) (u:=.int k (if b<a then b else a)) ?_ rfl
     simp only[execOp,hop,resolve,invoke,builtin]
     rw[show(Array.map (fun x=>(fK (e x)).getD default) ⟨[x,y]⟩) = #[.int k a,.int k b] by simp[hx,hy,fK,toCell]]
     rfl
    case max =>
     simp only[gI,hop] at h
     split at h <;> first | (cases h; done) | skip
     rename_i x y
     obtain⟨k,a,b,hx,hy,hk⟩:=h
     refine⟨_,aX ?_,hk⟩
     simp only[aW,hop]
     refine rH (l:=[.int k a,.int k b]) (by rw[hop]; simp[Op.operands,Call.operands,eX,hx,hy,fK,toCell]) (u:=.int k (if b > a then b else a)) ?_ rfl
     simp only[execOp,hop,resolve,invoke,builtin]
     rw[show(Array.map (fun x=>(fK (e x)).getD default) ⟨[x,y]⟩) = #[.int k a,.int k b] by simp[hx,hy,fK,toCell]]
     rfl
    all_goals (simp only[gI,hop] at h)
  | value f=>simp only[gI,hop] at h
  | invoke r m=>simp only[gI,hop] at h
 all_goals (simp only[gI,hop] at h)
end
def bW (zs:List AV) : Nat→List AV
 | 0=>[]
 | n + 1=>zs++bW zs n
theorem uV (zs:List AV) : ∀ n,(bW zs n).length=n * zs.length
 | 0=>by simp[bW]
 | n + 1=>by simp[bW,uV zs n,Nat.add_mul,Nat.add_comm]
theorem Oa (zs:List AV) (h:0<zs.length) : ∀ (n k:Nat),k<n * zs.length→(bW zs n)[k]?=zs[k % zs.length]?
 | 0,k,hk=>by simp at hk
 | n + 1,k,hk=>by
   simp only[bW]
   by_cases h1:k<zs.length
   ·rw[List.getElem?_append_left h1,Nat.mod_eq_of_lt h1]
   ·rw[List.getElem?_append_right (by omega),Oa zs h n _ (by rw[Nat.add_mul] at hk; omega)]
    congr 1
    have:k=(k - zs.length) + zs.length:=by omega
    rw[this,Nat.add_mod_right]; simp
theorem O8 (zs:List AV) : ∀ n,rR.Cf zs n=bW zs n
 | 0=>rfl
 | n + 1=>by simp only[rR.Cf,bW,O8 zs n]
def AZ:List AV→List (Nat × Nat × AV)→Option (List AV)
 | cs,[]=>some cs
 | cs,(off,size,v) :: rest=>if v.cells.all oneCell=true∧v.cells.length=size∧off + size≤cs.length then AZ (cs.take off++v.cells++cs.drop (off + size)) rest else none
def iW (t:TypeId) (x:AV) (K:RB→(Nat→AV)→Prop) : Prop:=x.cells.all oneCell=true∧1≤x.cells.length∧K (.row x.cells false t 0) (fun b=>.ptr b 0)
def dH (elem len:Nat) (zs:List AV) (parts:List (Nat × Nat × AV)) (K:RB→(Nat→AV)→Prop) : Prop :=
 ∃ l,AZ (bW zs len) parts=some l∧K (.row l false elem 0) (fun b=>.slc b 0 len (.ex len))
def LW (elem bytes:Nat) (zs:List AV) (x y:AV) (K:RB→(Nat→AV)→Prop) : Prop :=
 ∃ kl kc l c,x=N kl l∧y=N kc c∧0≤l∧l≤c∧c.toNat * bytes≤140737488355328∧c.toNat≤140737488355328∧K (.row (bW zs c.toNat) false elem 0) (fun b=>.slc b 0 l.toNat (.ex c.toNat))
def PR (el:Nat) (x:AV) (K:RB→(Nat→AV)→Prop) : Prop :=
 ∃ s,x=St s∧K (.row (s.map fun b=>N .u8 b.toNat) true el 0) (fun b=>.slc b 0 s.length (.op 1))
def aoG (x:AV) (K:RB→(Nat→AV)→Prop) : Prop:=∃ s,x=St s∧K (.nN s 0) (fun b=>.ptr b 0)
def vC (P:Program) (o:Oper) (e:Operand→AV) (K:RB→(Nat→AV)→Prop) : Prop :=
 match o.op with
 | .alloc t=>match ll P t with
   | some zs=>match Nat.ble 1 zs.length with
     | true=>K (.row zs false t 0) (fun b=>.ptr b 0)
     | false=>False
   | none=>False
 | .box t x=>iW t (e x) K
 | .buildSlice t len parts=>match P.underlying t with
   | some (.slice elem)=>match bP P elem,ll P elem with
     | some size,some zs=>match Nat.ble 1 size,Nat.beq zs.length size,Nat.ble (len * size) 10000 with
       | true,true,true=>dH elem len zs (parts.toList.map fun p=>(p.1 * size,size,e p.2)) K
       | _,_,_=>False
     | _,_=>False
   | _=>False
 | .makeSlice t l c=>match P.underlying t with
   | some (.slice elem)=>match bP P elem,BD P elem,ll P elem with
     | some size,some bytes,some zs=>match Nat.ble 1 size,Nat.beq zs.length size with
       | true,true=>LW elem bytes zs (e l) (e c) K
       | _,_=>False
     | _,_,_=>False
   | _=>False
 | .makeMap t r=>match r with
   | none=>K (.map [] 0) (fun b=>.map b)
   | some _=>False
 | .convert src dst x=>match P.underlying src,P.underlying dst with
   | some .string,some (.slice el)=>match P.underlying el,bP P el with
     | some (.int .u8),some 1=>PR el (e x) K
     | _,_=>False
   | _,_=>False
 | .range t x=>match P.underlying t with
   | some .string=>aoG (e x) K
   | _=>False
 | _=>False
section
variable {P:Program} {ρ:Ren} {o:Oper} {e:Operand→AV} {M:RM} {w:World}
def JV (P:Program) (o:Oper) (e:Operand→AV) (x:RB) (mk:Nat→AV) : Prop:=∃ y,il P o e=some (y,mk)∧CY x y
theorem zm {tree:Tree AV} {zs:List AV} {n k:Nat} {v:AV} (hk:k<n) (h:tree.get k=some v) : cellAt tree zs n k=some v:=by
 unfold cellAt
 rw[bJ.2 (by omega),h]
theorem Cu {tree:Tree AV} {zs:List AV} {n k:Nat} {v:AV} (hk:k<n) (h:tree.get k=none) (hz:zs[k % zs.length]?=some v) : cellAt tree zs n k=some v:=by
 unfold cellAt
 rw[bJ.2 (by omega),h]
 simp only
 split
 ·simp at hz
 ·rename_i z
  simp[Nat.mod_one] at hz
  rw[hz]
 ·rw[dP]; exact hz
theorem abe {size n:Nat} {zs:List AV} : ∀ (parts:List (Nat × AV)) (t:Tree AV) (l:List AV) {l' : List AV},l.length=n→(∀ (k:Nat) (v:AV),l[k]?=some v→cellAt t zs n k=some v) →
  AZ l (parts.map fun p=>(p.1 * size,size,p.2))=some l'→∃ t',IL size n t parts=some t'∧l'.length=n∧∀ (k:Nat) (v:AV),l'[k]?=some v→cellAt t' zs n k=some v
 | [],t,l,l',hl,h,hf=>by
   simp only[List.map_nil,AZ] at hf
   cases hf
   exact⟨t,rfl,hl,h⟩
 | (i,v) :: parts,t,l,l',hl,h,hf=>by
   simp only[List.map_cons,AZ] at hf
   split at hf <;> first | (cases hf; done) | skip
   rename_i hc
   obtain⟨c1,c2,c3⟩:=hc
   obtain⟨t1,ht1⟩:=qH v.cells t (i * size) c1
   obtain⟨_,hget⟩:=ja _ _ _ ht1
   obtain⟨t',k1,k2,k3⟩:=abe (zs:=zs) parts t1 _ (n:=n) (by simp; omega) (fun k u hk=>by
    rw[tO hget]
    by_cases hin:i * size≤k∧k<i * size + v.cells.length
    ·rw[if_pos hin,if_pos (by omega)]
     rw[List.append_assoc,List.getElem?_append_right (by simp; omega),List.getElem?_append_left (by simp; omega)] at hk
     rw[← hk]; congr 1; simp; omega
    ·rw[if_neg hin]
     refine h k u ?_
     rw[← hk]
     by_cases hlt:k<i * size
     ·rw[List.append_assoc,List.getElem?_append_left (by simp; omega),List.getElem?_take,if_pos hlt]
     ·rw[List.getElem?_append_right (by simp; omega),List.getElem?_drop]
      congr 1; simp; omega) hf
   refine⟨t', ?_,k2,k3⟩
   simp only[IL,uQ c2,bJ.2 (show i * size + size≤n by omega),ht1]
   exact k1
theorem Ww {K:RB→(Nat→AV)→Prop} {x:RB} {mk:Nat→AV} {y:dw} (hk:K x mk) (ha:il P o e=some (y,mk)) (hl:CY x y) : ∃ x mk,JV P o e x mk∧K x mk:=⟨x,mk,⟨y,ha,hl⟩,hk⟩
theorem EB {K:RB→(Nat→AV)→Prop} (h:vC P o e K) : ∃ x mk,JV P o e x mk∧K x mk:=by
 cases hop:o.op
 case alloc t =>
  simp only[vC,hop] at h
  split at h <;> first | (cases h; done) | skip
  rename_i zs hz
  split at h <;> first | (cases h; done) | skip
  rename_i hb
  refine Ww h (y:=.row zs.length .leaf zs false t 0) (by simp only[il,hop,hz,hb]) ⟨rfl,rfl,rfl,rfl,fun k v hk=>?_⟩
  have hlt:=(List.getElem?_eq_some_iff.1 hk).1
  exact Cu hlt (by simp[Tree.get]) (by rw[Nat.mod_eq_of_lt hlt]; exact hk)
 case box t x =>
  simp only[vC,hop] at h
  obtain⟨h1,h2,hk⟩:=h
  obtain⟨t',ht⟩:=qH (e x).cells .leaf 0 h1
  obtain⟨_,hget⟩:=ja _ _ _ ht
  refine Ww hk (y:=.row (e x).cells.length t' [] false t 0) (by simp only[il,hop,ht,bJ.2 h2]) ⟨rfl,rfl,rfl,rfl,fun k v hk=>?_⟩
  have hlt:=(List.getElem?_eq_some_iff.1 hk).1
  exact zm hlt (by rw[hget,if_pos (by omega)]; simpa using hk)
 case buildSlice t len parts =>
  simp only[vC,hop] at h
  split at h <;> first | (cases h; done) | skip
  rename_i elem hu
  split at h <;> first | (cases h; done) | skip
  rename_i size zs hs hz
  split at h <;> first | (cases h; done) | skip
  rename_i h1 h2 h3
  obtain⟨l,hf,hk⟩:=h
  have h2':=bS h2
  have h1':=bL h1
  have e0:(parts.toList.map fun p=>(p.1 * size,size,e p.2))=(parts.toList.map fun p=>(p.1,e p.2)).map fun p=>(p.1 * size,size,p.2):=by simp
  rw[e0] at hf
  obtain⟨t',k1,k2,k3⟩:=abe (zs:=zs) (n:=len * size) _ .leaf _ (by rw[uV,h2']) (fun k v hk=>by
   have hlt:=(List.getElem?_eq_some_iff.1 hk).1
   rw[uV] at hlt
   rw[Oa zs (by omega) len k hlt] at hk
   exact Cu (by rw[← h2']; exact hlt) (by simp[Tree.get]) hk) hf
  exact Ww hk (y:=.row (len * size) t' zs false elem 0) (by simp only[il,hop,hu,hs,hz,h1,h2,h3,k1]) ⟨k2,rfl,rfl,rfl,k3⟩
 case makeSlice t l c =>
  simp only[vC,hop] at h
  split at h <;> first | (cases h; done) | skip
  rename_i elem hu
  split at h <;> first | (cases h; done) | skip
  rename_i size bytes zs hs hb hz
  split at h <;> first | (cases h; done) | skip
  rename_i h1 h2
  obtain⟨kl,kc,nl,nc,hl,hc,h3,h4,h5,h6,hk⟩:=h
  have h2':=bS h2
  have h1':=bL h1
  refine Ww hk (y:=.row (nc.toNat * size) .leaf zs false elem 0) ?_ ⟨by rw[uV,h2'],rfl,rfl,rfl,fun k v hk=>?_⟩
  ·simp only[il,hop,hu,hl,hc,yT h3,yT (show 0≤nc by omega),hs,hb,hz,h1,h2,bJ.2 (show nl.toNat≤nc.toNat by omega),bJ.2 h5,bJ.2 h6]
  ·have hlt:=(List.getElem?_eq_some_iff.1 hk).1
   rw[uV] at hlt
   rw[Oa zs (by omega) _ k hlt] at hk
   exact Cu (by rw[← h2']; exact hlt) (by simp[Tree.get]) hk
 case makeMap t r =>
  simp only[vC,hop] at h
  split at h <;> first | (cases h; done) | skip
  exact Ww h (y:=.map [] 0) (by simp only[il,hop]) ⟨rfl,rfl⟩
 case convert src dst x =>
  simp only[vC,hop] at h
  split at h <;> first | (cases h; done) | skip
  rename_i el hs hd
  split at h <;> first | (cases h; done) | skip
  rename_i h1 h2
  obtain⟨s,hx,hk⟩:=h
  refine Ww hk (y:=.row s.length (Tree.ofList (s.map fun b=>N .u8 b.toNat) 0 .leaf) [] true el 0) (by simp only[il,hop,hs,hd,hx,h1,h2]) ⟨by simp,rfl,rfl,rfl,fun k v hk=>?_⟩
  have hlt:=(List.getElem?_eq_some_iff.1 hk).1
  exact zm (by simpa using hlt) (by rw[Tree.mK,if_pos (by omega)]; simpa using hk)
 case range t x =>
  simp only[vC,hop] at h
  split at h <;> first | (cases h; done) | skip
  rename_i hu
  obtain⟨s,hx,hk⟩:=h
  exact Ww hk (y:=.nN ⟨⟨s⟩⟩ 0) (by simp only[il,hop,hu,hx]) ⟨rfl,rfl⟩
 all_goals (simp only[vC,hop] at h)
theorem Z0 {c:Operand→Value} {x:RB} {mk:Nat→AV} (hw:fF P ρ M w) (he:∀ x∈o.op.operands,az ρ (e x) (c x)) (h:JV P o e x mk) :
  ∃ ρ' w' u,(execOp c o).run P w=.ok (.value u) w'∧After P M ρ w (M.push x) ρ' w'∧az ρ' (mk M.next) u:=by
 obtain⟨A,hA⟩:=hw
 obtain⟨y,ha,hle⟩:=h
 obtain⟨ρ',w',u,h1,h2,h3,h4⟩:=Vl hA.rel hA.size (vk he ha w)
 obtain⟨k1,k2,k3⟩:=RM.QX hA hle
 exact⟨ρ',w',u,h1,oL hA h3 h2 k1 k2 (by simp[AW.push]) k3,by rw[← hA.next]; exact h4⟩
end
abbrev ak:=AV→RM→Prop
def LD (P:Program) (f:FuncId) : Prop:=∃ fn c,P.funcs[f]?=some fn∧fn.body=some c
def jH (P:Program) (f:FuncId) (args:List AV) (M:RM) (Q:ak) : Prop :=
 LD P f∧∀ (ρ:Ren) (w:World) (us:List Value),bF ρ args us→fF P ρ M w →
  Calls P f ⟨us⟩ w fun e w'=>∃ v' v M' ρ',e=.returned v'∧After P M ρ w M' ρ' w'∧az ρ' v v'∧Q v M'
theorem jH.mono {P:Program} {f:FuncId} {args:List AV} {M:RM} {Q Q' : ak} (h:jH P f args M Q) (hq:∀ v M',Q v M'→Q' v M') : jH P f args M Q' :=
 ⟨h.1,fun ρ w us a b=>(h.2 ρ w us a b).mono fun e w' ⟨v',v,M',ρ',c,d,f,g⟩=>⟨v',v,M',ρ',c,d,f,hq _ _ g⟩⟩
def ul (P:Program) (o:Oper) (e:Operand→AV) (M:RM) (K:ak) : Prop :=
 ∀ (ρ:Ren) (w:World) (c:Operand→Value),fF P ρ M w→(∀ x∈o.op.operands,az ρ (e x) (c x))→∃ M' ρ' w',After P M ρ w M' ρ' w' ∧
   ((∃ v' v,(execOp c o).run P w=.ok (.value v') w'∧az ρ' v v'∧K v M')∨((execOp c o).run P w=.ok .skip w'∧K .undef M') ∨
     ∃ f args us,(execOp c o).run P w=.ok (.enter f ⟨us⟩) w'∧bF ρ' args us∧jH P f args M' K)
def aL (M:RM) (a x:AV) (n:Nat) (K:RM→Prop) : Prop:=∃ b p M',a=.ptr b p∧x.cells.length=n∧M.stores b p x.cells=some M'∧K M'
def nQ (M:RM) (size:Nat) (zs:List AV) (zeros:Bool) (x:AV) : Option (Nat × List AV) :=
 match zeros with
 | true=>match x with
   | .sc (.int _ n)=>if 0≤n then some (n.toNat,bW zs n.toNat) else none
   | _=>none
 | false=>match x with
   | .slc b o len _=>match M.loads b o (len * size) with
     | some vs=>some (len,vs)
     | none=>none
   | .emp _=>some (0,[])
   | .sc (.slice none 0 0)=>some (0,[])
   | .sc (.string s)=>if size=1 then some (s.data.toList.length,s.data.toList.map fun b=>N .u8 b.toNat) else none
   | _=>none
def qK (elem size bytes n:Nat) (new:List AV) (s:AV) (M:RM) : Option (AV × RM) :=
 match s with
 | .sc (.slice none 0 0)=>if n=0 then some (s,M) else if new.all oneCell=true then some (.slc M.next 0 n (.op size),M.push (.row new true elem 0)) else none
 | .emp _=>if n=0 then some (s,M) else none
 | .slc b o len (.ex c)=>if n=0 then(if len≤c then some (s,M) else none) else if len + n≤c then(match M.stores b (o + len * size) new with
   | some M'=>some (.slc b o (len + n) (.ex c),M')
   | none=>none)
   else match M.loads b o (len * size) with
    | some old=>if (len + n) * bytes≤140737488355328∧len + n≤140737488355328∧(old++new).all oneCell=true then some (.slc M.next 0 (len + n) (.op size),M.push (.row (old++new) true elem 0)) else none
    | none=>none
 | .slc b o len (.op esz)=>if n=0 then some (s,M) else match M.heap b with
   | some (.row l opn el fz)=>if opn=true∧esz=size then
     (if o + (len + n) * size≤l.length then(match M.stores b (o + len * size) new with
      | some M'=>some (.slc b o (len + n) (.op esz),M')
      | none=>none)
     else if el=elem∧(len + n) * bytes≤140737488355328∧len + n≤140737488355328∧o=0∧l.length=len * size∧fz≤len * size∧new.all oneCell=true then
      some (.slc M.next 0 (len + n) (.op size),(M.del b).push (.row (l++new) true elem fz)) else none) else none
   | _=>none
 | _=>none
def appW (elem size bytes:Nat) (zs:List AV) (zeros:Bool) (s x:AV) (M:RM) (K:ak) : Prop :=
 ∃ n new,nQ M size zs zeros x=some (n,new)∧n * bytes≤140737488355328∧n≤140737488355328∧∃ v M',qK elem size bytes n new s M=some (v,M')∧K v M'
def firstM (M:RM) (size k:Nat) : AV→Option (List AV)
 | .slc b o _ _=>M.loads b o (k * size)
 | .sc (.string s)=>if size=1 then some ((s.data.toList.take k).map fun b=>N .u8 b.toNat) else none
 | _=>none
def RF (size:Nat) (d x:AV) (M:RM) : Option (AV × RM) :=
 match d with
 | .slc b o dn _=>match EK x with
   | some sn=>if Nat.min sn dn=0 then some (N .i64 0,M) else match firstM M size (Nat.min sn dn) x with
     | some vs=>match M.stores b o vs with
       | some M'=>some (N .i64 (Nat.min sn dn:Nat),M')
       | none=>none
     | none=>none
   | none=>none
 | .emp _ | .sc (.slice none 0 0)=>match EK x with
   | some _=>some (N .i64 0,M)
   | none=>none
 | _=>none
def Dw (size:Nat) (d x:AV) (M:RM) (K:ak) : Prop:=∃ v M',RF size d x M=some (v,M')∧K v M'
def Qu (zs:List AV) (x:AV) (M:RM) (K:ak) : Prop :=
 (∃ b p n cap M',x=.slc b p n cap∧M.stores b p (bW zs n)=some M'∧K .undef M')∨(∃ b,x=.emp b∧K .undef M)∨(x=.sc (.slice none 0 0)∧K .undef M)
def gW (C:FuncId→List AV→RM→ak→Prop) (f:AV) (args:List AV) (M:RM) (K:ak) : Prop:=∃ g first cap,f=.fn (.func g) first cap∧C g (first++args++cap) M K
def alp (P:Program) (g:FuncId) (args:List AV) (M:RM) (v:AV) : Prop :=
 ∀ (ρ:Ren) (w:World) (us:List Value),bF ρ args us→fF P ρ M w→∃ u,(callFunc g ⟨us⟩).run P w=.ok (.value u) w∧az ρ v u
def adt (P:Program) (g:FuncId) (args:List AV) (M:RM) (K:ak) : Prop :=
 (∃ v,Pn P g args=some (.value v)∧K v M) ∨
 ((∃ fn t elem size tr,P.funcs[g]?=some fn∧fn.body=none∧Extern.findNext fn=none∧Extern.find fn=some (Extern.SlicesOverlaps.overlaps #[t,t] #[tr])∧P.underlying t=some (.slice elem)∧bP P elem=some size) ∧
   (∃ ba oa na ca bb ob nb cb la ea fa lb opb eb fb,args=[.slc ba oa na ca,.slc bb ob nb cb]∧ba≠bb∧M.heap ba=some (.row la false ea fa)∧M.heap bb=some (.row lb opb eb fb)∧fa=0∧oa + 1≤la.length∧1≤lb.length)∧K (Bo false) M) ∨
 ((∃ fn,P.funcs[g]?=some fn∧fn.body=none∧Extern.findNext fn=none∧Extern.find fn=some Extern.AbiNoEscape.same)∧∃ v,args=[v]∧K v M) ∨
 ∃ v,alp P g args M v∧K v M
def auM (x:AV) (M:RM) (K:ak) : Prop:=∃ b s pos,x=.ptr b 0∧M.heap b=some (.nN s pos) ∧
 if pos<s.length then K (.tup [Bo true,N .i64 pos,N .i32 (Utf8.decode ⟨⟨s⟩⟩ pos).1]) (M.put b (.nN s (pos + (Utf8.decode ⟨⟨s⟩⟩ pos).2))) else K (.tup [Bo false]) M
def awF (x:AV) (M:RM) (K:ak) : Prop:=∃ b p n c l el,x=.slc b p n (.ex c)∧M.heap b=some (.row l false el 0)∧K x (M.put b (.row l false el (l.length + 1)))
def avM (el:Nat) (x n:AV) (M:RM) (K:ak) : Prop :=
 (∃ b k l opn fz s,x=.ptr b 0∧n=N .i64 ((k + 1:Nat) : Int)∧k≤4611686018427387904∧M.heap b=some (.row l opn el fz)∧k + 1≤l.length∧eX byteOf (l.take (k + 1))=some s∧K (St s) (M.del b)) ∨
 (x=.sc (.pointer none)∧n=N .i64 0∧K (St []) M)
def X4 (k v:AV) : List (AV × AV × Nat)→Nat→List (AV × AV × Nat)
 | [],_=>[]
 | (_,_,n) :: es,0=>(k,v,n) :: es
 | x :: es,i + 1=>x :: X4 k v es i
def ay2 (es:List (AV × AV × Nat)) (c:Nat) (k v:AV) : Option (Nat × AV)→RB
 | some (i,_)=>.map (X4 k v es i) c
 | none=>.map (es++[(k,v,c)]) (c + 1)
def LA (a:Bool) (ks:List Nat) (M:RM) (m k v:AV) (K:RM→Prop) : Prop :=
 ∃ b es c kc r,m=.map b∧M.heap b=some (.map es c)∧jg a k=some kc∧kc.length=ks.length∧tX a ks kc es 0=some r∧K (M.put b (ay2 es c k v r))
def aym (es:List (AV × AV × Nat)) (c:Nat) : Option (Nat × AV)→RB
 | some (i,_)=>.map (es.eraseIdx i) c
 | none=>.map es c
def aa6 (a:Bool) (ks:List Nat) (M:RM) (m k:AV) (K:ak) : Prop :=
 ∃ b es c kc r,m=.map b∧M.heap b=some (.map es c)∧jg a k=some kc∧kc.length=ks.length∧tX a ks kc es 0=some r∧K (.tup []) (M.put b (aym es c r))
def lG (P:Program) (o:Oper) (e:Operand→AV) (M:RM) (K:ak) : Prop :=
 match o.op with
 | .store t a x=>match bP P t with
   | some n=>aL M (e a) (e x) n (K .undef)
   | none=>False
 | .call { callee:=.builtin .append,args,argTypes } => match argTypes[0]?,args with
   | some t,⟨[s,x]⟩=>match P.underlying t,qP P argTypes with
     | some (.slice elem),some zeros=>match bP P elem,BD P elem,ll P elem with
       | some size,some bytes,some zs=>match Nat.ble 1 size,Nat.beq zs.length size with
         | true,true=>appW elem size bytes zs zeros (e s) (e x) M K
         | _,_=>False
       | _,_,_=>False
     | _,_=>False
   | _,_=>False
 | .call { callee:=.builtin .copy,args,argTypes } => match argTypes[0]?,args with
   | some t,⟨[s,x]⟩=>match P.underlying t with
     | some (.slice elem)=>match bP P elem with
       | some size=>Dw size (e s) (e x) M K
       | none=>False
     | _=>False
   | _,_=>False
 | .call { callee:=.builtin .clear,args,argTypes } => match argTypes[0]?,args with
   | some t,⟨[x]⟩=>match P.underlying t with
     | some (.slice elem)=>match bP P elem,ll P elem with
       | some size,some zs=>match Nat.ble 1 size,Nat.beq zs.length size with
         | true,true=>Qu zs (e x) M K
         | _,_=>False
       | _,_=>False
     | _=>False
   | _,_=>False
 | .call { callee:=.builtin .unsafeString,args,argTypes } => match argTypes[0]?,args with
   | some t,⟨[x,n]⟩=>match P.underlying t with
     | some (.pointer el)=>match P.underlying el,Nat.beq (P.cellsOf el) 1 with
       | some (.int .u8),true=>avM el (e x) (e n) M K
       | _,_=>False
     | _=>False
   | _,_=>False
 | .call { callee:=.value (.func g),args,.. } => match P.funcs[g]? with
   | some fn=>match fn.body with
     | some _=>jH P g (args.toList.map e) M K
     | none=>adt P g (args.toList.map e) M K
   | none=>False
 | .call { callee:=.value f,args,.. } => gW (jH P) (e f) (args.toList.map e) M K
 | .next it true=>auM (e it) M K
 | .mapUpdate t m k x=>match P.underlying t with
   | some (.map kt _)=>match l6 P 10 kt,fe P kt with
     | some ks,some a=>LA a ks M (e m) (e k) (e x) (K .undef)
     | _,_=>False
   | _=>False
 | .call { callee:=.builtin .delete,args,argTypes } => match argTypes[0]?,args with
   | some t,⟨[m,k]⟩=>match P.underlying t with
     | some (.map kt _)=>match l6 P 10 kt,fe P kt with
       | some ks,some a=>aa6 a ks M (e m) (e k) K
       | _,_=>False
     | _=>False
   | _,_=>False
 | .convert src dst x=>match Nat.beq src dst,P.underlying src with
   | true,some (.slice el)=>match P.underlying el with
     | some (.int .u8)=>awF (e x) M K
     | _=>False
   | _,_=>False
 | _=>False
section
variable {P:Program} {ρ:Ren} {o:Oper} {e:Operand→AV} {c:Operand→Value} {M:RM} {w:World} {K:ak}
structure Q0 (P:Program) : Prop where
 ng:∀ (f:FuncId) (fn:Func),P.funcs[f]?=some fn→fn.name ≠ "runtime.NumGoroutine"
 mixed:P.follows .mixedOrders=true
theorem agh (hw:fF P ρ M w) {elem size:Nat} {zs:List AV} {zeros:Bool} {x:AV} {u:Value} {n:Nat} {new:List AV} (hx:az ρ x u) (hzs:ll P elem=some zs) (h1:1≤size) (h2:zs.length=size)
  (h:nQ M size zs zeros x=some (n,new)) : ∃ us,NP P ρ w elem size zeros u n new us:=by
 unfold nQ at h
 split at h
 ·split at h <;> first | (cases h; done) | skip
  rename_i k m
  split at h <;> first | (cases h; done) | skip
  rename_i hm
  cases h
  obtain⟨it,z,hi,hz,hr⟩:=lF (ρ:=ρ) hzs
  obtain⟨rfl,_⟩:=bu hx
  have hl:=hr.length
  simp only[Array.length_toList] at hl
  refine⟨(Builtin.zeroCells z.cells m.toNat).toList,by rw[← O8]; exact FL hr (by omega) _,by rw[Array.length_toList,size_zeroCells,← hl,h2],(by simp only[if_true]; exact⟨k,by congr 1; omega⟩),(fun e=>by cases e),fun _=>⟨it,z,hi,hz,rfl⟩⟩
 ·split at h <;> first | (cases h; done) | skip
  ·rename_i b o len cap
   split at h <;> first | (cases h; done) | skip
   rename_i xs hl
   cases h
   obtain⟨i,cp,hb,rfl⟩:=iF hx
   obtain⟨vs,hr,hlen,hcell⟩:=RM.jM hw hb hl
   refine⟨vs,hr,hlen,by simp[Builtin.lenOf],fun _ w' hw'=>?_,fun e=>by cases e⟩
   have:=run_loadCells_list (P:=P) w' ⟨i.cb,i.sh + o,none⟩ vs (fun j v hj=>by rw[← hcell j v hj]; simp[World.cell?,hw'])
   rw[hlen] at this
   simp[Builtin.firstCells,this]
  ·cases h
   cases hx with
   | emp b ad c =>
   exact⟨[],.nil,by simp,by simp[Builtin.lenOf],fun _ _ _=>by simp[Builtin.firstCells,loadCells,loadCellsFrom],fun e=>by cases e⟩
  ·cases h
   obtain⟨rfl,_⟩:=bu hx
   exact⟨[],.nil,by simp,by simp[Builtin.lenOf],fun _ _ _=>by simp[Builtin.firstCells],fun e=>by cases e⟩
  ·rename_i s
   split at h <;> first | (cases h; done) | skip
   rename_i hsz
   cases h
   subst hsz
   obtain⟨rfl,_⟩:=bu hx
   refine⟨_,Uz s,by simp,by simp[Builtin.lenOf],fun _ _ _=>?_,fun e=>by cases e⟩
   simp only[Builtin.firstCells,Sem.run_pure]
   congr 1
   have:(s.extract 0 s.data.toList.length)=s:=by
    have h:s.data.toList.length=s.size:=by rw[Array.length_toList]; rfl
    rw[h]; simp
   rw[this]
   apply Array.ext'
   simp
def DoesM (P:Program) (ρ:Ren) (M:RM) (w:World) (run:World→Result Value) (v:AV) (M' : RM) : Prop :=
 ∃ ρ' w' v',run w=.ok v' w'∧After P M ρ w M' ρ' w'∧az ρ' v v'
variable {A:AW} {M' : RM} {A' : AW}
theorem Xm (h:Ay P ρ M w A) {run:World→Result Value} {v:AV} (hd:Hz P M.base ρ A w run v A') (hlo:M'.base=M.base) (hn:A'.next=M'.next)
  (hb:∀ b x,M'.heap b=some x→(∃ y,A'.heap.get b=some y∧CY x y)∨∃ c,x=.ro c∧M.heap b=some x) : DoesM P ρ M w run v M':=by
 obtain⟨ρ',w',v',h1,h2,h3,h4,h5⟩:=hd
 exact⟨ρ',w',v',h1,oL h h2 h3 hlo hn h4 hb,h5⟩
theorem qI (h:Ay P ρ M w A) : ∀ b x,M.heap b=some x→(∃ y,A.heap.get b=some y∧CY x y)∨∃ c,x=.ro c∧M.heap b=some x:=by
 intro b x hx
 rcases h.blk b x hx with h1 | ⟨c,rfl,_⟩
 ·exact .inl h1
 ·exact .inr ⟨c,rfl,hx⟩
theorem Mr {l:List AV} {t:Tree AV} (h:om .leaf 0 l=some t) : CY (.row l true 0 0) (.row l.length t [] true 0 0)∧∀ (k:Nat) (v:AV),l[k]?=some v→cellAt t [] l.length k=some v:=by
 obtain⟨_,hget⟩:=ja _ _ _ h
 have:∀ (k:Nat) (v:AV),l[k]?=some v→cellAt t [] l.length k=some v:=fun k v hk=>by
  have hlt:=(List.getElem?_eq_some_iff.1 hk).1
  exact zm hlt (by rw[hget,if_pos (by omega)]; simpa using hk)
 exact⟨⟨rfl,rfl,rfl,rfl,this⟩,this⟩
theorem abV (h:Ay P ρ M w A) {elem size bytes n:Nat} {zeros:Bool} {x:Value} {new:List AV} {us:List Value} (h1:1≤size) {s v:AV} {u:Value} (hs:az ρ s u) (hn:NP P ρ w elem size zeros x n new us)
  {t:TypeId} {ts:Array TypeId} {ty:TypeId} (ht:ts[0]?=some t) (hu:P.underlying t=some (.slice elem)) (hzs:qP P ts=some zeros)
  {it:TypeInfo} {z:Value} (hi:P.info? elem=some it) (hz:it.zero=some z) (hsi:it.size=size) (hzc:z.cells.size=size) (hb:it.bytes=bytes) (hnb:n * bytes≤140737488355328) (hnl:n≤140737488355328)
  (ha:qK elem size bytes n new s M=some (v,M')) : DoesM P ρ M w (fun w=>(Builtin.append_ ts ty #[u,x]).run P w) v M':=by
 have key:∀ {A' : AW},qg elem size bytes n new s A=some (v,A')→M'.base=M.base→A'.next=M'.next →
   (∀ b x,M'.heap b=some x→(∃ y,A'.heap.get b=some y∧CY x y)∨∃ c,x=.ro c∧M.heap b=some x)→DoesM P ρ M w (fun w=>(Builtin.append_ ts ty #[u,x]).run P w) v M' :=
  fun hA a b c=>Xm h (IY h.rel h.size h1 hs hn ht hu hzs hi hz hsi hzc hb hnb hnl hA) a b c
 have hnw:new.length=n * size:=by rw[hn.rel.length,hn.len]
 unfold qK at ha
 split at ha
 ·split at ha
  ·rename_i h0
   cases ha
   exact key (by simp only[qg,h0]) rfl h.next (qI h)
  ·rename_i h0
   split at ha <;> first | (cases ha; done) | skip
   rename_i hall
   cases ha
   obtain⟨tr,htr⟩:=qH new .leaf 0 hall
   obtain⟨_,hcell⟩:=Mr htr
   cases n with
   | zero=>exact absurd rfl h0
   | succ n =>
   obtain⟨k1,k2,k3⟩:=RM.QX h (x:=.row new true elem 0) (y:=.row ((n + 1) * size) tr [] true elem 0) ⟨hnw,rfl,rfl,rfl,fun k v hk=>by rw[← hnw]; exact hcell k v hk⟩
   exact key (by simp only[qg,htr,h.next]) k1 k2 k3
 ·split at ha <;> first | (cases ha; done) | skip
  rename_i h0
  cases ha
  exact key (by simp only[qg,h0]) rfl h.next (qI h)
 ·rename_i b o len cc
  split at ha
  ·rename_i h0
   split at ha <;> first | (cases ha; done) | skip
   rename_i hle
   cases ha
   subst h0
   cases hs with
   | jB _ _ _ _ i hbi =>
   have hus:us=[]:=List.eq_nil_of_length_eq_zero (by simpa using hn.len)
   refine⟨ρ,w,_,CV hn ht hu hzs hi hsi hb hnb hnl (by omega) (w1:=w) (by simp[hus,storeCells]),After.refl ⟨A,h⟩, ?_⟩
   exact .jB _ _ _ _ i hbi
  rename_i hn0
  split at ha
  ·rename_i hle
   split at ha <;> first | (cases ha; done) | skip
   rename_i M1 hst
   cases ha
   obtain⟨A1,a1,a2,a3,a4,a5⟩:=RM.NT h hst
   exact key (by simp only[qg,bJ.2 hle,a1]) a2 a3 a5
  ·rename_i hle
   split at ha <;> first | (cases ha; done) | skip
   rename_i old hl
   split at ha <;> first | (cases ha; done) | skip
   rename_i hcond
   obtain⟨c1,c2,c3⟩:=hcond
   cases ha
   cases hs with
   | jB _ _ _ _ i hbi =>
   obtain⟨vs,hr,hlen,hcell⟩:=RM.jM ⟨A,h⟩ hbi hl
   obtain⟨tr,htr⟩:=qH (old++new) .leaf 0 c3
   obtain⟨_,hget⟩:=ja _ _ _ htr
   obtain⟨_,hrow⟩:=Mr htr
   have hol:old.length=len * size:=by rw[hr.length,hlen]
   have htot:(old++new).length=(len + n) * size:=by rw[List.length_append,hol,hnw,← Nat.add_mul]
   have hr2:=OH hn (ty:=ty) ht hu hzs hi hz hsi hb hnb hnl hle c1 c2 (ad:=some ⟨i.cb,i.sh + o,none⟩) (vs:=vs) (fun w' hw'=>by
    have:=run_loadCells_list (P:=P) w' ⟨i.cb,i.sh + o,none⟩ vs (fun j v hj=>by rw[← hcell j v hj]; simp[World.cell?,hw'])
    rw[hlen] at this
    simp[Builtin.firstCells,this])
   have hge:=grownCap_ge w (len + n) cc elem
   have wU:=hn.len
   obtain⟨k1,k2,k3⟩:=RM.QX h (x:=.row (old++new) true elem 0) (y:=.row ((len + n) * size) tr [] true elem 0) ⟨htot,rfl,rfl,rfl,fun k v hk=>by rw[← htot]; exact hrow k v hk⟩
   have hsz:bP P elem=some size:=by simp[bP,hi,hsi]
   have hd:=Ip h.rel h.size h1 hsz (cap:=grownCap w (len + n) cc elem) (need:=len + n) (tree:=tr) (z:=[]) (fz:=0) (cs:=⟨vs⟩++⟨us⟩++Builtin.zeroCells z.cells (grownCap w (len + n) cc elem - (len + n)))
    (run:=fun w=>(Builtin.append_ ts ty #[.slice (some ⟨i.cb,i.sh + o,none⟩) len cc,x]).run P w) (by
     simp only[Array.size_append,List.size_toArray,size_zeroCells,hzc,hlen,wU,← Nat.add_mul]
     congr 1; omega) hge (fun k y hk=>by
     obtain⟨hk1,hk2⟩:=mX hk
     rw[hget,if_pos (by omega),Nat.sub_zero] at hk2
     rw[yM]
     by_cases hlt:k<vs.length
     ·rw[if_pos hlt]
      rw[List.getElem?_append_left (by omega)] at hk2
      exact hr.get hk2
     ·rw[if_neg hlt,if_pos (by rw[hlen,wU,← Nat.add_mul]; omega)]
      rw[List.getElem?_append_right (by omega),hr.length] at hk2
      exact hn.rel.get hk2) hr2
   rw[h.next] at hd
   exact Xm h hd k1 k2 k3
 ·rename_i b o len esz
  split at ha
  ·rename_i h0
   cases ha
   exact key (by simp only[qg,h0]) rfl h.next (qI h)
  ·rename_i h0
   cases n with
   | zero=>exact absurd rfl h0
   | succ n =>
   split at ha <;> first | (cases ha; done) | skip
   rename_i l opn el fz hh
   split at ha <;> first | (cases ha; done) | skip
   rename_i hc
   obtain⟨rfl,rfl⟩:=hc
   rcases h.blk b _ hh with⟨y,hy,hle⟩ | ⟨c,e,_⟩
   ·cases y <;> first | exact hle.elim | skip
    rename_i kn tree zs N9 ol fz'
    obtain⟨q1,rfl,rfl,rfl,q5⟩:=hle
    have hbo:(true && Nat.beq esz esz)=true:=by simp
    split at ha
    ·rename_i hroom
     split at ha <;> first | (cases ha; done) | skip
     rename_i M1 hst
     cases ha
     obtain⟨A1,a1,a2,a3,a4,a5⟩:=RM.NT h hst
     exact key (by simp only[qg,hy,hbo,bJ.2 (show o + (len + (n + 1)) * esz≤kn by omega),a1]) a2 a3 a5
    ·rename_i hroom
     split at ha <;> first | (cases ha; done) | skip
     rename_i hcond
     obtain⟨rfl,c2,c3,rfl,c5,c6,c8⟩:=hcond
     cases ha
     obtain⟨tr,htr⟩:=qH new tree (len * esz) c8
     obtain⟨_,hget⟩:=ja _ _ _ htr
     have hl:A.loads b 0 (len * esz)=some ((l.drop 0).take (len * esz)):=by
      unfold AW.loads; rw[hy]; exact Ia q5 _ _ (by omega)
     refine key (A' := { next:=A.next + 1,heap:=(A.heap.del b).set A.next (.row ((len + (n + 1)) * esz) tr zs true ol fz') }) ?_ rfl (by simp[RM.push,RM.del,h.next]) ?_
     ·simp only[qg,hy,hbo,aeT (show ¬ 0 + (len + (n + 1)) * esz≤kn by omega),hl,htr,h.next]
      rw[uQ rfl,bJ.2 c2,bJ.2 c3,uQ rfl,uQ (show kn=len * esz by omega),bJ.2 c6]
      rfl
     ·intro d y hd
      change (if d=M.next then some (RB.row (l++new) true ol fz') else if d=b then none else M.heap d)=some y at hd
      simp only[Tree.bQ,Tree.yK,h.next]
      by_cases e1:d=M.next
      ·subst e1
       rw[if_pos rfl] at hd ⊢
       cases hd
       refine .inl ⟨_,rfl,by rw[List.length_append,c5,hnw,← Nat.add_mul],rfl,rfl,rfl,fun k v hk=>?_⟩
       rw[tO hget]
       by_cases hin:len * esz≤k∧k<len * esz + new.length
       ·rw[if_pos hin,if_pos (by rw[Nat.add_mul]; omega)]
        rw[List.getElem?_append_right (by omega),c5] at hk
        exact hk
       ·rw[if_neg hin]
        have hkl:k<l.length:=by
         have:=(List.getElem?_eq_some_iff.1 hk).1
         rw[List.length_append] at this; omega
        rw[List.getElem?_append_left hkl] at hk
        rw[← q5 k v hk]
        exact Jo (by rw[Nat.add_mul]; omega) (by omega)
      ·rw[if_neg e1] at hd ⊢
       by_cases e2:d=b
       ·subst e2; rw[if_pos rfl] at hd; cases hd
       ·rw[if_neg e2] at hd ⊢
        exact qI h d y hd
   ·cases e
 ·cases ha
theorem ac3 {run:World→Result Value} {v:AV} (h:DoesM P ρ M w run v M') (hr:∀ v' w',run w=.ok v' w'→(execOp c o).run P w=.ok (.value v') w') (hk:K v M') :
  ∃ M' ρ' w',After P M ρ w M' ρ' w' ∧
  ((∃ v' v,(execOp c o).run P w=.ok (.value v') w'∧az ρ' v v'∧K v M')∨((execOp c o).run P w=.ok .skip w'∧K .undef M') ∨
    ∃ f args us,(execOp c o).run P w=.ok (.enter f ⟨us⟩) w'∧bF ρ' args us∧jH P f args M' K):=by
 obtain⟨ρ',w',v',h1,h2,h3⟩:=h
 exact⟨M',ρ',w',h2,.inl ⟨v',v,hr _ _ h1,h3,hk⟩⟩
theorem Sb (hw:fF P ρ M w) {b p:Nat} {i:jf} {xs:List AV} {vs:List Value} (hb:ρ b=some i) (hv:bF ρ xs vs) (h:M.stores b p xs=some M') :
  ∃ w',(∀ off,off=i.sh + p→(storeCells ⟨i.cb,off,none⟩ vs).run P w=.ok () w')∧After P M ρ w M' ρ w':=by
 obtain⟨A,hA⟩:=hw
 obtain⟨A1,a1,a2,a3,a4,a5⟩:=RM.NT hA h
 obtain⟨w1,hrun,hw1,hstep,hnext⟩:=uw hA.rel hb hv a1
 exact⟨w1,hrun,oL hA hstep hw1 a2 a3 (by omega) a5⟩
theorem aat {x:AV} {M' : RM} {b p:Nat} (h:M.stores b p x.cells=some M') : ∀ (_:x=.top),False:=by
 intro e0
 unfold RM.stores at h
 split at h <;> first | (cases h; done) | skip
 split at h <;> first | (cases h; done) | skip
 rename_i hc
 rw[e0] at hc
 simp[AV.cells,oneCell] at hc
theorem acP {t:TypeId} {a x:Operand} (hop:o.op=.store t a x) {n:Nat} (hs:bP P t=some n) {K:RM→Prop} (h:aL M (e a) (e x) n K) : ul P o e M (fun _ M'=>K M'):=by
 obtain⟨b,p,M',hea,hn,hst,hk⟩:=h
 intro ρ w c hw he
 have ha:az ρ (e a) (c a):=he a (by rw[hop]; simp[Op.operands])
 have hx:az ρ (e x) (c x):=he x (by rw[hop]; simp[Op.operands])
 rw[hea] at ha
 obtain⟨i,hb,hc⟩:=fQ ha
 have hcl:=hx.cells (aat hst)
 have hlen:=hcl.length
 simp only[Array.length_toList] at hlen
 obtain⟨w1,hrun,haft⟩:=Sb hw hb hcl hst
 refine⟨M',ρ,w1,haft,.inr (.inl ⟨?_,hk⟩)⟩
 simp only[execOp,hop,Instr.storeAt,Instr.sureAddr,hc,Sem.run_bind,Sem.run_pure,Result.andThen_ok,storeVar,eD hs]
 rw[if_neg (by omega)]
 rw[hrun _ rfl]
 rfl
theorem ul.mono (h:ul P o e M K) {K' : ak} (hk:∀ v M',K v M'→K' v M') : ul P o e M K':=by
 intro ρ w c hw he
 obtain⟨M',ρ',w',h1,h2⟩:=h ρ w c hw he
 refine⟨M',ρ',w',h1, ?_⟩
 rcases h2 with⟨v',v,a,b,d⟩ | ⟨a,b⟩ | ⟨f,args,us,a,b,d⟩
 ·exact .inl ⟨v',v,a,b,hk _ _ d⟩
 ·exact .inr (.inl ⟨a,hk _ _ b⟩)
 ·exact .inr (.inr ⟨f,args,us,a,b,d.mono hk⟩)
theorem acD (hw:fF P ρ M w) {x:AV} {u:Value} {size k:Nat} {vs:List AV} (hx:az ρ x u) (h:firstM M size k x=some vs) : ∃ us,bF ρ vs us∧(Builtin.firstCells size k u).run P w=.ok ⟨us⟩ w:=by
 unfold firstM at h
 split at h <;> first | (cases h; done) | skip
 ·obtain⟨i,cp,hb,rfl⟩:=iF hx
  obtain⟨us,hr,hlen,_,hrun⟩:=RM.oI (P:=P) hw hb h
  exact⟨us,hr,by simp only[Builtin.firstCells]; exact hrun⟩
 ·rename_i s
  split at h <;> first | (cases h; done) | skip
  cases h
  obtain⟨rfl,_⟩:=bu hx
  have hr:bF ρ ((s.data.toList.take k).map fun b=>AV.sc (.int .u8 b.toNat)) ((s.data.toList.take k).map fun b=>Value.int .u8 b.toNat):=by
   generalize s.data.toList.take k=l
   induction l with
   | nil=>exact .nil
   | cons b l ih=>exact .cons _ _ _ _ (.sc _ rfl) ih
  refine⟨_,hr, ?_⟩
  simp only[Builtin.firstCells,Sem.run_pure]
  congr 1
  apply Array.ext'
  simp[ByteArray.data_extract]
theorem aeo {t elem:TypeId} {d x:Operand} {ts:Array TypeId} (hop:o.op=.call { callee:=.builtin .copy,args:=⟨[d,x]⟩,argTypes:=ts }) (ht:ts[0]?=some t) (hu:P.underlying t=some (.slice elem))
  {size:Nat} (hs:bP P elem=some size) {v:AV} (h:RF size (e d) (e x) M=some (v,M')) (hk:K v M') : ul P o e M K:=by
 intro ρ w c hw he
 have hd:az ρ (e d) (c d):=he d (by rw[hop]; simp[Op.operands,Call.operands])
 have hx:az ρ (e x) (c x):=he x (by rw[hop]; simp[Op.operands,Call.operands])
 have key:∀ {dA:Option Addr} {dl dc sn:Nat} {us:List Value} {w1:World},c d=.slice dA dl dc→(Builtin.lenOf (c x)).run P w=.ok sn w→(Builtin.firstCells size (Nat.min sn dl) (c x)).run P w=.ok ⟨us⟩ w →
   (match dA with | some a=>(storeCells a us).run P w=.ok () w1 | none=>w1=w)→(execOp c o).run P w=.ok (.value (.int .i64 (Nat.min sn dl:Nat))) w1:=by
  intro dA dl dc sn us w1 hcd hl hf hst
  have:(Builtin.copy_ ts o.type #[c d,c x]).run P w=.ok (.int .i64 (Nat.min sn dl:Nat)) w1:=by
   simp only[Builtin.copy_,ht,List.getElem?_toArray,List.getElem?_cons_zero,List.getElem?_cons_succ,Sem.run_bind,run_underlying hu,Result.andThen_ok,hcd,hl,eD hs,hf]
   cases dA with
   | none=>simp only at hst; subst hst; rfl
   | some a=>simp only at hst; simp only[Sem.run_bind,hst,Result.andThen_ok,Sem.run_pure,goInt]
  simp only[execOp,hop,resolve,invoke,builtin,Sem.run_bind,Sem.run_pure,Result.andThen_ok]
  rw[show(Array.map c ⟨[d,x]⟩) = #[c d,c x] by simp,this]
  rfl
 unfold RF at h
 split at h <;> first | (cases h; done) | skip
 ·rename_i b p dn cap hed
  rw[hed] at hd
  obtain⟨i,cp,hb,hcd⟩:=iF hd
  split at h <;> first | (cases h; done) | skip
  rename_i sn hsn
  have hl:=yF (P:=P) hx hsn w
  split at h
  ·rename_i hm
   cases h
   refine⟨M,ρ,w,After.refl hw,.inl ⟨_,_,key hcd hl (by rw[hm]; exact mf hx hsn w) (w1:=w) rfl, ?_,hk⟩⟩
   rw[hm]; exact .sc _ rfl
  ·split at h <;> first | (cases h; done) | skip
   rename_i vs hvs
   split at h <;> first | (cases h; done) | skip
   rename_i M1 hst
   cases h
   obtain⟨us,hr,hf⟩:=acD hw hx hvs
   obtain⟨w1,hrun,haft⟩:=Sb hw hb hr hst
   exact⟨M',ρ,w1,haft,.inl ⟨_,_,key hcd hl hf (w1:=w1) (hrun _ rfl),.sc _ rfl,hk⟩⟩
 ·rename_i b hed
  rw[hed] at hd
  generalize hcd:c d=cd at hd
  cases hd with
  | emp _ ad cp =>
  split at h <;> first | (cases h; done) | skip
  rename_i sn hsn
  cases h
  have hl:=yF (P:=P) hx hsn w
  have hm:Nat.min sn 0=0:=Nat.min_zero _
  refine⟨M,ρ,w,After.refl hw,.inl ⟨_,_,key hcd hl (by rw[hm]; exact mf hx hsn w) (w1:=w) rfl, ?_,hk⟩⟩
  rw[hm]; exact .sc _ rfl
 ·rename_i hed
  rw[hed] at hd
  have hcd:=(bu hd).1
  split at h <;> first | (cases h; done) | skip
  rename_i sn hsn
  cases h
  have hl:=yF (P:=P) hx hsn w
  have hm:Nat.min sn 0=0:=Nat.min_zero _
  refine⟨M,ρ,w,After.refl hw,.inl ⟨_,_,key hcd hl (by rw[hm]; exact mf hx hsn w) (w1:=w) rfl, ?_,hk⟩⟩
  rw[hm]; exact .sc _ rfl
theorem abA {t elem:TypeId} {x:Operand} {ts:Array TypeId} (hop:o.op=.call { callee:=.builtin .clear,args:=⟨[x]⟩,argTypes:=ts }) (ht:ts[0]?=some t) (hu:P.underlying t=some (.slice elem))
  {size:Nat} {zs:List AV} (hs:bP P elem=some size) (hzs:ll P elem=some zs) (c1:1≤size) (c2:zs.length=size) (h:Qu zs (e x) M K) : ul P o e M K:=by
 intro ρ w c hw he
 have hx:az ρ (e x) (c x):=he x (by rw[hop]; simp[Op.operands,Call.operands])
 rcases h with⟨b,p,n,cap,M',hex,hst,hk⟩ | ⟨b,hex,hk⟩ | ⟨hex,hk⟩
 ·obtain⟨it,z,hi,hz,hr⟩:=lF (ρ:=ρ) hzs
  have hl:=hr.length
  simp only[Array.length_toList] at hl
  rw[hex] at hx
  obtain⟨i,cp,hb,hcx⟩:=iF hx
  have hrel:=FL hr (by omega) n
  rw[O8] at hrel
  obtain⟨w1,hrun,haft⟩:=Sb hw hb hrel hst
  refine⟨M',ρ,w1,haft,.inl ⟨.tuple #[],.undef,zL (t:=t) hop ?_,.tup _ _ .nil,hk⟩⟩
  have hrun:=hrun _ rfl
  cases n with
  | zero =>
    have he:(Builtin.zeroCells z.cells 0).toList=[]:=by simp[Builtin.zeroCells]
    rw[he] at hrun
    simp only[storeCells,Sem.run_pure] at hrun
    cases hrun
    simp only[Builtin.clear_,ht,List.getElem?_toArray,List.getElem?_cons_zero,Sem.run_bind,run_underlying hu,Result.andThen_ok,hcx,Sem.run_pure]
  | succ n =>
    simp only[Builtin.clear_,ht,List.getElem?_toArray,List.getElem?_cons_zero,Sem.run_bind,run_underlying hu,Result.andThen_ok,hcx,zeroValue,typeInfo,run_program,hi,hz,Sem.run_pure,hrun]
 ·rw[hex] at hx
  generalize hcx:c x=cx at hx
  cases hx with
  | emp _ ad cp =>
  refine⟨M,ρ,w,After.refl hw,.inl ⟨.tuple #[],.undef,zL (t:=t) hop ?_,.tup _ _ .nil,hk⟩⟩
  simp only[Builtin.clear_,ht,List.getElem?_toArray,List.getElem?_cons_zero,Sem.run_bind,run_underlying hu,Result.andThen_ok,hcx,Sem.run_pure]
 ·rw[hex] at hx
  refine⟨M,ρ,w,After.refl hw,.inl ⟨.tuple #[],.undef,zL (t:=t) hop ?_,.tup _ _ .nil,hk⟩⟩
  simp only[Builtin.clear_,ht,List.getElem?_toArray,List.getElem?_cons_zero,Sem.run_bind,run_underlying hu,Result.andThen_ok,(bu hx).1,Sem.run_pure]
theorem akm:∀ {xs:List AV} {us vs:List Value},bF ρ xs vs→eX fK xs=some us→vs=us
 | [],us,_,h,hu=>by simp[eX] at hu; subst hu; exact h.wm
 | x :: xs,us,_,.cons _ v _ vs a b,hu=>by
   simp only[eX] at hu
   split at hu
   ·rename_i y hy
    split at hu
    ·rename_i ys hys
     cases hu
     rw[oF a hy,akm b hys]
    ·cases hu
   ·cases hu
theorem Sd {m:Nat} : ∀ {ks:List Nat} {cs ds:List AV} {us vs:List Value},bF ρ cs us→bF ρ ds vs→cs.length=ks.length→ds.length=ks.length→eH ks cs ds=some true→us.length=vs.length∧(vs.zip us).all (fun(x,y)=>Instr.sameBits m x y)=true
 | [],[],[],[],[],_,_,_,_,_=>⟨rfl,rfl⟩
 | [],_ :: _,_,_,_,_,_,h,_,_=>by simp at h
 | [],[],_ :: _,_,_,_,_,_,h,_=>by simp at h
 | _ :: _,[],_,_,_,_,_,h,_,_=>by simp at h
 | _ :: _,_ :: _,[],_,_,_,_,_,h,_=>by simp at h
 | k :: ks,x :: cs,y :: ds,_,_,.cons _ u _ us hx hc,.cons _ v _ vs hy hd,h1,h2,h=>by
   simp only[eH] at h
   split at h <;> first | (cases h; done) | skip
   rename_i hce
   obtain⟨i1,i2⟩:=Sd (m:=m) hc hd (by simpa using h1) (by simpa using h2) h
   refine⟨by simp[i1], ?_⟩
   rw[List.zip_cons_cons,List.all_cons,i2,Bool.and_true]
   unfold xO at hce
   split at hce <;> first | (cases hce; done) | skip
   ·split at hce <;> first | (cases hce; done) | skip
    rename_i e0
    subst e0
    rw[(bu hx).1,(bu hy).1]
    simp only[Option.some.injEq] at hce
    have hce:=eq_of_beq hce
    subst hce
    simp[Instr.sameBits]
   ·rw[(bu hx).1,(bu hy).1]
    simp only[Option.some.injEq] at hce
    simp only[Instr.sameBits]
    rw[bytes_beq,lq]
    have hce:=eq_of_beq hce
    rw[hce]; simp
   ·rw[(bu hx).1,(bu hy).1]
    simp only[Option.some.injEq] at hce
    have hce:=eq_of_beq hce
    subst hce
    simp[Instr.sameBits]
theorem aiA {a:Bool} {ks:List Nat} {x y:AV} {xv yv:Value} {cs ds:List AV} (hx:jg a x=some cs) (hy:jg a y=some ds) (rx:az ρ x xv) (ry:az ρ y yv) (l1:cs.length=ks.length) (l2:ds.length=ks.length) (h:eH ks cs ds=some true) : Instr.sameBits 10000 yv xv=true:=by
 obtain⟨us,r1,h1,h1'⟩:=sS hx rx
 obtain⟨vs,r2,h2,h2'⟩:=sS hy ry
 cases a with
 | true =>
   rw[h1 rfl,h2 rfl]
   obtain⟨i1,i2⟩:=Sd (m:=9999) r1 r2 l1 l2 h
   show(_ && _)=true
   rw[Bool.and_eq_true]
   exact⟨by simp[i1],i2⟩
 | false =>
   have e1:=h1' rfl
   have e2:=h2' rfl
   subst e1 e2
   have:=(Sd (m:=10000) r1 r2 l1 l2 h).2
   simpa using this
theorem OI {a:Bool} {ks:List Nat} {cs:List AV} : ∀ {es:List (AV × AV × Nat)} {fs:List MapEntry} {i j:Nat} {va:AV},dS ρ es fs→tX a ks cs es i=some (some (j,va))→∃ n f ka ds,j=i + n∧fs[n]?=some f∧az ρ ka f.key∧jg a ka=some ds∧ds.length=ks.length∧eH ks cs ds=some true
 | [],_,_,_,_,_,h=>by simp[tX] at h
 | _ :: _,[],_,_,_,h,_=>h.elim
 | (ka,v,n) :: es,f :: fs,i,j,va,⟨h1,h2,h3,h4⟩,h=>by
   simp only[tX] at h
   split at h <;> first | (cases h; done) | skip
   rename_i ds hds
   split at h <;> first | (cases h; done) | skip
   rename_i hdl
   split at h <;> first | (cases h; done) | skip
   ·rename_i hn
    simp only[Option.some.injEq,Prod.mk.injEq] at h
    obtain⟨rfl,rfl⟩:=h
    exact⟨0,f,ka,ds,rfl,rfl,h1,hds,hdl,hn⟩
   ·obtain⟨m,g,kb,d2,e1,e2,e3⟩:=OI h4 h
    exact⟨m + 1,g,kb,d2,by omega,by simpa using e2,e3⟩
theorem Yo {k v:AV} {kv vv:Value} (hk:az ρ k kv) (hv:az ρ v vv) : ∀ {es:List (AV × AV × Nat)} {fs:List MapEntry} {i:Nat},dS ρ es fs→dS ρ (X4 k v es i) (fs.modify i fun e => { e with key:=kv,val:=vv })
 | [],[],_,_=>by simp[X4]; trivial
 | [],_ :: _,_,h=>h.elim
 | _ :: _,[],_,h=>h.elim
 | (a,b,n) :: es,g :: fs,0,h=>⟨hk,hv,h.2.2.1,h.2.2.2⟩
 | (a,b,n) :: es,g :: fs,i + 1,h=>⟨h.1,h.2.1,h.2.2.1,Yo hk hv h.2.2.2⟩
theorem Vf:∀ {es:List (AV × AV × Nat)} {fs:List MapEntry} {i:Nat},dS ρ es fs→dS ρ (es.eraseIdx i) (fs.eraseIdx i)
 | [],[],_,_=>trivial
 | [],_ :: _,_,h=>h.elim
 | _ :: _,[],_,h=>h.elim
 | _ :: _,_ :: _,0,h=>h.2.2.2
 | (a,b,n) :: es,g :: fs,i + 1,h=>⟨h.1,h.2.1,h.2.2.1,Vf h.2.2.2⟩
theorem AU {r clock:Nat} {fs:Array MapEntry} (o:Obj) (h:w.heap[r]?=some (.map fs clock)) : (setObj r o).run P w=.ok () { w with heap:=w.heap.setIfInBounds r o } := by
 simp only[setObj,Sem.run,h]
theorem map_set (hA:Ay P ρ M w A) {b:Nat} {i:jf} {es es' : List (AV × AV × Nat)} {cl cl' : Nat} {fs fs' : Array MapEntry} (hb:ρ b=some i) (hg:M.heap b=some (.map es cl)) (hob:w.heap[i.cb]?=some (.map fs cl)) (he:dS ρ es' fs'.toList) :
  After P M ρ w (M.put b (.map es' cl')) ρ { w with heap:=w.heap.setIfInBounds i.cb (.map fs' cl') } := by
 rcases hA.blk b _ hg with⟨y,hy,hle⟩ | ⟨_,e0,_⟩
 ·obtain⟨q1,q2⟩:=tL hA.rel (x:=.map es' cl') hb hy (w' := { w with heap:=w.heap.setIfInBounds i.cb (.map fs' cl') }) rfl rfl rfl (by simp)
   (fun j hj=>by simp[Array.getElem?_setIfInBounds,Ne.symm hj]) (by
    have:=(Array.getElem?_eq_some_iff.1 hob).1
    simp[Array.getElem?_setIfInBounds,this]) ⟨fs',rfl,he⟩
  refine oL hA q2 q1 rfl hA.next (Nat.le_refl _) ?_
  intro d y hd
  simp only[RM.put] at hd
  simp only[Tree.bQ]
  by_cases e2:d=b
  ·subst e2; rw[if_pos rfl] at hd ⊢; cases hd; exact .inl ⟨_,rfl,rfl,rfl⟩
  ·rw[if_neg e2] at hd ⊢; exact qI hA d y hd
 ·cases e0
theorem afs (hA:Ay P ρ M w A) {b:Nat} {i:jf} {es:List (AV × AV × Nat)} {cl:Nat} (hb:ρ b=some i) (hg:M.heap b=some (.map es cl)) : ∃ fs:Array MapEntry,w.heap[i.cb]?=some (.map fs cl)∧dS ρ es fs.toList:=by
 rcases hA.blk b _ hg with⟨y,hy,hle⟩ | ⟨_,e0,_⟩
 ·cases y <;> first | exact hle.elim | skip
  obtain⟨rfl,rfl⟩:=hle
  obtain⟨ob,hob,fs,rfl,hfs⟩:=hA.rel.blk b i _ hb hy
  exact⟨fs,hob,hfs⟩
 ·cases e0
theorem aar {t kt et:TypeId} {m k x:Operand} (hop:o.op=.mapUpdate t m k x) (hu:P.underlying t=some (.map kt et)) {ks:List Nat} {a:Bool} (hf:l6 P 10 kt=some ks) (ha:fe P kt=some a) (h:LA a ks M (e m) (e k) (e x) (K .undef)) : ul P o e M K:=by
 obtain⟨b,es,cl,kc,r,hem,hg,hkc,hl,hr,hk⟩:=h
 intro ρ w c hw he
 have hm:az ρ (e m) (c m):=he m (by rw[hop]; simp[Op.operands])
 have hkr:az ρ (e k) (c k):=he k (by rw[hop]; simp[Op.operands])
 have hx:az ρ (e x) (c x):=he x (by rw[hop]; simp[Op.operands])
 rw[hem] at hm
 generalize hcm:c m=um at hm
 cases hm with
 | map _ i hb =>
 obtain⟨A,hA⟩:=hw
 obtain⟨fs,hob,hfs⟩:=afs hA hb hg
 obtain⟨r',hr1,hr2⟩:=EX (w:=w) hf ha hkc hl hkr hfs hr
 have hck:=Cr (em:=false) (w:=w) hf ha hkc hl hkr
 have hgo:=GK (P:=P) hob
 cases r with
 | some p =>
   obtain⟨j,va⟩:=p
   cases r' with
   | none=>exact hr2.elim
   | some q =>
     obtain⟨j',vv⟩:=q
     obtain⟨rfl,_⟩:=hr2
     obtain⟨n,f,ka,ds,hj,hfn,hka,hds,hdl,hfe⟩:=OI hfs hr
     rw[Nat.zero_add] at hj
     subst hj
     have hfj:fs[j']?=some f:=by rw[← Array.getElem?_toList]; exact hfn
     have hsame:=aiA hkc hds hkr hka hl hdl hfe
     refine⟨_,ρ,_,map_set hA (es':=X4 (e k) (e x) es j') (cl':=cl) (fs':=fs.modify j' fun e => { e with key:=c k,val:=c x }) hb hg hob (by rw[Array.toList_modify]; exact Yo hkr hx hfs),.inr (.inl ⟨?_,hk⟩)⟩
     simp only[execOp,hop,hcm,Instr.mapUpdate,Sem.run_bind,run_underlying hu,Result.andThen_ok,hgo,hck,hr1,hfj,Option.map_some,Option.getD_some,Instr.keyThatStays,hsame,if_true,Sem.run_pure,AU _ hob]
 | none =>
   cases r' with
   | some q=>exact hr2.elim
   | none =>
     refine⟨_,ρ,_,map_set hA (es':=es++[(e k,e x,cl)]) (cl':=cl + 1) (fs':=fs.push { key:=c k,val:=c x,born:=cl }) hb hg hob (by rw[Array.toList_push]; exact Nf (f := { key:=c k,val:=c x,born:=cl }) hkr hx hfs),.inr (.inl ⟨?_,hk⟩)⟩
     simp only[execOp,hop,hcm,Instr.mapUpdate,Sem.run_bind,run_underlying hu,Result.andThen_ok,hgo,hck,hr1,Sem.run_pure,AU _ hob]
theorem aae {t kt et:TypeId} {m k:Operand} {ts:Array TypeId} (hop:o.op=.call { callee:=.builtin .delete,args:=⟨[m,k]⟩,argTypes:=ts }) (ht:ts[0]?=some t) (hu:P.underlying t=some (.map kt et)) {ks:List Nat} {a:Bool} (hf:l6 P 10 kt=some ks) (ha:fe P kt=some a) (h:aa6 a ks M (e m) (e k) K) : ul P o e M K:=by
 obtain⟨b,es,cl,kc,r,hem,hg,hkc,hl,hr,hk⟩:=h
 intro ρ w c hw he
 have hm:az ρ (e m) (c m):=he m (by rw[hop]; simp[Op.operands,Call.operands])
 have hkr:az ρ (e k) (c k):=he k (by rw[hop]; simp[Op.operands,Call.operands])
 rw[hem] at hm
 generalize hcm:c m=um at hm
 cases hm with
 | map _ i hb =>
 obtain⟨A,hA⟩:=hw
 obtain⟨fs,hob,hfs⟩:=afs hA hb hg
 obtain⟨r',hr1,hr2⟩:=EX (w:=w) hf ha hkc hl hkr hfs hr
 have hck:=Cr (em:=fs.isEmpty) (w:=w) hf ha hkc hl hkr
 have hgo:=GK (P:=P) hob
 have rG:∀ {w' : World},(Builtin.delete_ ts o.type #[.map (some i.cb),c k]).run P w=.ok (.tuple #[]) w'→(execOp c o).run P w=.ok (.value (.tuple #[])) w':=fun {w'} hrun=>by
  simp only[execOp,hop,resolve,invoke,builtin,Sem.run_bind,Sem.run_pure,Result.andThen_ok,List.map_toArray,List.map_cons,List.map_nil,hcm,hrun]
 cases r with
 | some p =>
   obtain⟨j,va⟩:=p
   cases r' with
   | none=>exact hr2.elim
   | some q =>
     obtain⟨j',vv⟩:=q
     obtain⟨rfl,_⟩:=hr2
     obtain⟨n,f,ka,ds,hj,hfn,hka,hds,hdl,hfe⟩:=OI hfs hr
     rw[Nat.zero_add] at hj
     subst hj
     refine⟨_,ρ,_,map_set hA (es':=es.eraseIdx j') (cl':=cl) (fs':=fs.eraseIdxIfInBounds j') hb hg hob (by rw[show(fs.eraseIdxIfInBounds j').toList=fs.toList.eraseIdx j' by simp]; exact Vf hfs),.inl ⟨_,.tup [],rG ?_,.tup _ _ .nil,hk⟩⟩
     simp only[Builtin.delete_,ht,Sem.run_bind,run_underlying hu,Result.andThen_ok,hgo,hck,hr1,Sem.run_pure,AU _ hob,List.getElem?_toArray,List.getElem?_cons_zero,List.getElem?_cons_succ]
 | none =>
   cases r' with
   | some q=>exact hr2.elim
   | none =>
     refine⟨_,ρ,_,map_set hA (es':=es) (cl':=cl) (fs':=fs) hb hg hob hfs,.inl ⟨_,.tup [],rG ?_,.tup _ _ .nil,hk⟩⟩
     simp only[Builtin.delete_,ht,Sem.run_bind,run_underlying hu,Result.andThen_ok,hgo,hck,hr1,Sem.run_pure,AU _ hob,List.getElem?_toArray,List.getElem?_cons_zero,List.getElem?_cons_succ]
theorem MQ (hP:Q0 P) (he0:∀ g,e (.func g)=.fn (.func g) [] []) (h:lG P o e M K) : ul P o e M K:=by
 cases hop:o.op
 case store t a x =>
  simp only[lG,hop] at h
  split at h <;> first | (cases h; done) | skip
  rename_i n hs
  intro ρ w c hw he
  obtain⟨M',ρ',w',h1,h2⟩:=acP hop hs h ρ w c hw he
  obtain⟨b,p,M1,hea,hn,hst,hk⟩:=h
  refine⟨M',ρ',w',h1, ?_⟩
  rcases h2 with⟨v',v,a1,b1,d1⟩ | ⟨a1,b1⟩ | ⟨f,args,us,a1,b1,d1⟩
  ·exfalso
   have hz:=a1
   simp only[execOp,hop,Sem.run_bind] at hz
   revert hz
   generalize (Instr.storeAt t (c a) (c x)).run P w=r
   cases r <;> simp[Result.andThen]
  ·exact .inr (.inl ⟨a1,b1⟩)
  ·exfalso
   have hz:=a1
   simp only[execOp,hop,Sem.run_bind] at hz
   revert hz
   generalize (Instr.storeAt t (c a) (c x)).run P w=r
   cases r <;> simp[Result.andThen]
 case mapUpdate t m k x =>
  simp only[lG,hop] at h
  split at h <;> first | (cases h; done) | skip
  rename_i kt et hu
  split at h <;> first | (cases h; done) | skip
  rename_i ks a hf ha
  exact aar hop hu hf ha h
 case next it str =>
  cases str
  ·simp only[lG,hop] at h
  simp only[lG,hop] at h
  obtain⟨b,s,pos,hex,hg,hk⟩:=h
  intro ρ w c hw he
  have hx:az ρ (e it) (c it):=he it (by rw[hop]; simp[Op.operands])
  rw[hex] at hx
  obtain⟨i,hb,hcx⟩:=fQ hx
  obtain⟨A,hA⟩:=hw
  rcases hA.blk b _ hg with⟨y,hy,hle⟩ | ⟨_,e0,_⟩
  ·cases y <;> first | exact hle.elim | skip
   obtain⟨rfl,rfl⟩:=hle
   rename_i pos
   obtain⟨ob,hob,hsh,rfl⟩:=hA.rel.blk b i _ hb hy
   have hget:(getObj i.cb).run P w=.ok (.stringIter ⟨⟨s⟩⟩ pos) w:=by simp[getObj,Sem.run,hob]
   have X0:c it=.pointer (some ⟨i.cb,0,none⟩):=by rw[hcx,hsh]
   by_cases hlt:pos<s.length
   ·rw[if_pos hlt] at hk
    have hlt' : pos<(⟨⟨s⟩⟩ : ByteArray).size:=hlt
    obtain⟨q1,q2⟩:=tL hA.rel (x:=.nN ⟨⟨s⟩⟩ (pos + (Utf8.decode ⟨⟨s⟩⟩ pos).2)) hb hy (w' := { w with heap:=w.heap.setIfInBounds i.cb (.stringIter ⟨⟨s⟩⟩ (pos + (Utf8.decode ⟨⟨s⟩⟩ pos).2)) }) rfl rfl rfl (by simp)
     (fun j hj=>by simp[Array.getElem?_setIfInBounds,Ne.symm hj]) (by
      have:=(Array.getElem?_eq_some_iff.1 hob).1
      simp[Array.getElem?_setIfInBounds,this]) ⟨hsh,rfl⟩
    refine⟨M.put b (.nN s (pos + (Utf8.decode ⟨⟨s⟩⟩ pos).2)),ρ,_,oL hA q2 q1 rfl hA.next (Nat.le_refl _) ?_,.inl ⟨.tuple #[.bool true,.int .i64 pos,.int .i32 (Utf8.decode ⟨⟨s⟩⟩ pos).1],_, ?_,.tup _ _ (.cons _ _ _ _ (.sc _ rfl) (.cons _ _ _ _ (.sc _ rfl) (.cons _ _ _ _ (.sc _ rfl) .nil))),hk⟩⟩
    ·intro d y hd
     simp only[RM.put] at hd
     simp only[Tree.bQ]
     by_cases e2:d=b
     ·subst e2; rw[if_pos rfl] at hd ⊢; cases hd; exact .inl ⟨_,rfl,rfl,rfl⟩
     ·rw[if_neg e2] at hd ⊢; exact qI hA d y hd
    ·simp only[execOp,hop,Instr.next,X0,Sem.run_bind,hget,Result.andThen_ok]
     rw[if_pos hlt']
     simp only[Sem.run_bind,setObj,Sem.run,hob,Result.andThen_ok,Sem.run_pure,goInt]
   ·rw[if_neg hlt] at hk
    have hlt' : ¬ pos<(⟨⟨s⟩⟩ : ByteArray).size:=hlt
    refine⟨M,ρ,w,After.refl ⟨A,hA⟩,.inl ⟨.tuple #[.bool false],_, ?_,.tup _ _ (.cons _ _ _ _ (.sc _ rfl) .nil),hk⟩⟩
    simp only[execOp,hop,Instr.next,X0,Sem.run_bind,hget,Result.andThen_ok]
    rw[if_neg hlt']
    rfl
  ·cases e0
 case convert src dst x =>
  simp only[lG,hop] at h
  split at h <;> first | (cases h; done) | skip
  rename_i el hsd hu
  split at h <;> first | (cases h; done) | skip
  rename_i hel
  obtain⟨b,p,n,cp,l,elem,hex,hg,hk⟩:=h
  have hsd:=bS hsd
  subst hsd
  intro ρ w c hw he
  have hx:az ρ (e x) (c x):=he x (by rw[hop]; simp[Op.operands])
  obtain⟨A,hA⟩:=hw
  rcases hA.blk b _ hg with⟨y,hy,hle⟩ | ⟨_,e0,_⟩
  ·cases y <;> first | exact hle.elim | skip
   rename_i nn tree zs N9 ol fz'
   obtain⟨h1,rfl,rfl,rfl,h5⟩:=hle
   have hx':=hx
   rw[hex] at hx
   obtain⟨i,cp',hb,hcx⟩:=iF hx
   obtain⟨ob,hob,cc,fr,rfl,hrow⟩:=hA.rel.blk b i _ hb hy
   obtain⟨hf1,hf2⟩:=hrow.mark rfl rfl
   obtain⟨hq1,_⟩:=aaX (P:=P) hob hf1 (e:=.slice (some ⟨i.cb,i.sh + p,none⟩) n cp') hu hel
   have hlt:=(Array.getElem?_eq_some_iff.1 hob).1
   obtain⟨q1,q2⟩:=tL hA.rel (x:=.row nn tree zs false ol (nn + 1)) (ob:=.cells cc ol (cc.size,cc.size + 1)) hb hy (w' := { w with heap:=w.heap.setIfInBounds i.cb (.cells cc ol (cc.size,cc.size + 1)) }) rfl rfl rfl (by simp)
    (fun j hj=>by simp[Array.getElem?_setIfInBounds,Ne.symm hj]) (by simp[Array.getElem?_setIfInBounds,hlt])
    ⟨cc,_,rfl,⟨hrow.size,hrow.val,fun k _ hk h2=>by omega,fun _ h0=>by omega,hrow.opn,hrow.sh0⟩⟩
   refine⟨M.put b (.row l false ol (l.length + 1)),ρ,_,oL hA q2 q1 rfl hA.next (Nat.le_refl _) ?_,.inl ⟨_,_,by simp only[execOp,hop,Sem.run_bind,hcx,hq1,Result.andThen_ok,Sem.run_pure],hcx▸hx',hk⟩⟩
   intro d y hd
   simp only[RM.put] at hd
   simp only[Tree.bQ]
   by_cases e2:d=b
   ·subst e2; rw[if_pos rfl] at hd ⊢; cases hd; exact .inl ⟨_,rfl,h1,rfl,rfl,by rw[h1],h5⟩
   ·rw[if_neg e2] at hd ⊢; exact qI hA d y hd
  ·cases e0
 case call cl =>
  obtain⟨callee,args,ts⟩:=cl
  cases callee with
  | builtin b =>
    cases b
    case unsafeString =>
     simp only[lG,hop] at h
     split at h <;> first | (cases h; done) | skip
     rename_i t x n ht
     split at h <;> first | (cases h; done) | skip
     rename_i el hu
     split at h <;> first | (cases h; done) | skip
     rename_i hel hc1
     have hc1:=bS hc1
     intro ρ w c hw he
     obtain⟨A,hA⟩:=hw
     have hX:I4 P ⟨[],[],[]⟩:=⟨hP.ng,fun f h=>(by cases h),fun f h=>(by cases h)⟩
     rcases h with⟨b,k,l,opn,fz,s,hex,hen,hk0,hg,hkl,hs,hk⟩ | ⟨hex,hen,hk⟩
     ·rcases hA.blk b _ hg with⟨y,hy,hle⟩ | ⟨_,e0,_⟩
      ·cases y <;> first | exact hle.elim | skip
       rename_i nn tree zs N9 ol fz'
       obtain⟨h1,rfl,rfl,rfl,h5⟩:=hle
       have hl:A.loads b 0 (k + 1)=some (l.take (k + 1)):=by
        unfold AW.loads
        rw[hy]
        simpa using Ia h5 (k + 1) 0 (by omega)
       have hlies:liesAt P P.depth ol (nn / P.cellsOf ol) 0 ol (k + 1)=true:=Lib.liesAt_bytes hc1 _ _ (by rw[hc1,Nat.div_one]; omega)
       have heff:l8 P ⟨[],[],[]⟩ o e A=some (.value (St s),{ A with heap:=A.heap.del b }):=by
        simp only[l8,hop,ht,hu,hel,hex,hen,ji,hy,hl,bytesOf,hs,hlies,bJ.2 hk0]
       obtain⟨ρ',w',q1,q2,q3,v',hrun,hv⟩:=mV hX hA.rel hA.size he heff
       refine⟨M.del b,ρ',w',oL hA q1 q2 rfl hA.next q3 fun d z hd=>?_,.inl ⟨v',_,hrun,hv,hk⟩⟩
       simp only[RM.del] at hd
       simp only[Tree.yK]
       by_cases e2:d=b
       ·rw[if_pos e2] at hd; cases hd
       ·rw[if_neg e2] at hd ⊢; exact qI hA d z hd
      ·cases e0
     ·have heff:l8 P ⟨[],[],[]⟩ o e A=some (.value (St []),A):=by
       simp only[l8,hop,ht,hu,hel,hex,hen,ji]
      obtain⟨ρ',w',q1,q2,q3,v',hrun,hv⟩:=mV hX hA.rel hA.size he heff
      exact⟨M,ρ',w',oL hA q1 q2 rfl hA.next q3 fun d z hd=>qI hA d z hd,.inl ⟨v',_,hrun,hv,hk⟩⟩
    case append =>
     simp only[lG,hop] at h
     split at h <;> first | (cases h; done) | skip
     rename_i t s x ht
     split at h <;> first | (cases h; done) | skip
     rename_i elem zeros hu hz
     split at h <;> first | (cases h; done) | skip
     rename_i size bytes zs hs1 hb1 hz1
     split at h <;> first | (cases h; done) | skip
     rename_i c1 c2
     have c1:=bL c1; have c2:=bS c2
     obtain⟨n,new,hnew,c3,c4,v,M',hM,hk⟩:=h
     intro ρ w c hw he
     have hs:az ρ (e s) (c s):=he s (by rw[hop]; simp[Op.operands,Call.operands])
     have hx:az ρ (e x) (c x):=he x (by rw[hop]; simp[Op.operands,Call.operands])
     obtain⟨us,hn⟩:=agh (P:=P) hw hx hz1 c1 c2 hnew
     obtain⟨it,z,hi,hzz,hr⟩:=lF (ρ:=ρ) hz1
     have hl:=hr.length
     simp only[Array.length_toList] at hl
     obtain⟨A,hA⟩:=hw
     refine ac3 (abV hA c1 hs hn (ty:=o.type) ht hu hz hi hzz (by simpa [bP,hi] using hs1) (by omega) (by simpa [BD,hi] using hb1) c3 c4 hM) (fun v' w' hr=>?_) hk
     simp only[execOp,hop,resolve,invoke,builtin,Sem.run_bind,Sem.run_pure,Result.andThen_ok]
     rw[show(Array.map c ⟨[s,x]⟩) = #[c s,c x] by simp,hr]
     rfl
    case copy =>
     simp only[lG,hop] at h
     split at h <;> first | (cases h; done) | skip
     rename_i t s x ht
     split at h <;> first | (cases h; done) | skip
     rename_i elem hu
     split at h <;> first | (cases h; done) | skip
     rename_i size hsz
     obtain⟨v,M',hM,hk⟩:=h
     exact aeo hop ht hu hsz hM hk
    case delete =>
     simp only[lG,hop] at h
     split at h <;> first | (cases h; done) | skip
     rename_i t m k ht
     split at h <;> first | (cases h; done) | skip
     rename_i kt et hu
     split at h <;> first | (cases h; done) | skip
     rename_i ks a hf ha
     exact aae hop ht hu hf ha h
    case clear =>
     simp only[lG,hop] at h
     split at h <;> first | (cases h; done) | skip
     rename_i t x ht
     split at h <;> first | (cases h; done) | skip
     rename_i elem hu
     split at h <;> first | (cases h; done) | skip
     rename_i size zs hs hzs
     split at h <;> first | (cases h; done) | skip
     rename_i c1 c2
     exact abA hop ht hu hs hzs (bL c1) (bS c2) h
    all_goals (simp only[lG,hop] at h)
  | value f =>
    have hrun:∀ {c:Operand→Value} {w:World} {g:FuncId} {us vs:List Value},c f=.func (.func g) ⟨us⟩ ⟨vs⟩→(execOp c o).run P w=(callFunc g ⟨us++args.toList.map c++vs⟩).run P w:=by
     intro c w g us vs hcf
     simp only[execOp,hop,resolve,hcf,Deferred.ofValue,invoke,Sem.run_bind,Sem.run_pure,Result.andThen_ok]
     congr 2
     apply Array.ext'
     simp
    have ha:∀ {ρ:Ren} {c:Operand→Value},(∀ x∈o.op.operands,az ρ (e x) (c x))→∀ x∈args.toList,az ρ (e x) (c x):=fun he x hx=>he x (by rw[hop]; simp[Op.operands,Call.operands]; exact .inr (by simpa using hx))
    have gen:∀ (g:FuncId) (first cap:List AV),e f=.fn (.func g) first cap→jH P g (first++args.toList.map e++cap) M K→ul P o e M K:=by
     intro g first cap hef hcall ρ w c hw he
     have hf:az ρ (e f) (c f):=he f (by rw[hop]; simp[Op.operands,Call.operands])
     rw[hef] at hf
     generalize hcf:c f=cf at hf
     cases hf with
     | fn _ _ _ us vs hp hfi hca =>
     obtain⟨⟨fn,cd,hfn,hcd⟩,hall⟩:=hcall
     refine⟨M,ρ,w,After.refl hw,.inr (.inr ⟨g,_,us++args.toList.map c++vs, ?_,(hfi.append (bF.A8 _ (ha he))).append hca,⟨⟨fn,cd,hfn,hcd⟩,hall⟩⟩)⟩
     rw[hrun hcf]
     exact WO hfn (hP.ng _ _ hfn) hcd w
    cases f with
    | func g =>
      simp only[lG,hop] at h
      split at h <;> first | (cases h; done) | skip
      rename_i fn hfn
      split at h
      ·rename_i cd hcd
       exact gen g [] [] (he0 g) (by simpa using h)
      ·rename_i hcd
       have start:∀ {ρ:Ren} {w:World} {c:Operand→Value},(∀ x∈o.op.operands,az ρ (e x) (c x))→(execOp c o).run P w=(callFunc g ⟨args.toList.map c⟩).run P w:=by
        intro ρ w c he
        have hf:az ρ (e (.func g)) (c (.func g)):=he _ (by rw[hop]; simp[Op.operands,Call.operands])
        rw[he0] at hf
        generalize hcf:c (.func g)=cf at hf
        cases hf with
        | fn _ _ _ us vs hp hfi hca =>
        cases hfi.wm
        cases hca.wm
        rw[hrun hcf]
        simp only[List.nil_append,List.append_nil]
       rcases h with⟨v,hv,hk⟩ | ⟨⟨fn',t,elem,size,tr,g1,g2,g3,g4,g5,g6⟩,⟨ba,oa,na,ca,bb,ob,nb,cb,la,ea,fa,lb,opb,eb,fb,hargs,hne,hla,hlb,q1,q2,q3⟩,hk⟩ | ⟨⟨fn',g1,g2,g3,g4⟩,v,hargs,hk⟩ | ⟨v,aAo,hk⟩
       ·intro ρ w c hw he
        unfold Pn at hv
        rw[hfn] at hv
        simp only[hcd] at hv
        split at hv <;> first | (cases hv; done) | skip
        rename_i h1
        split at hv <;> first | (cases hv; done) | skip
        rename_i s ws h2 hws
        split at hv <;> first | (cases hv; done) | skip
        rename_i u hu
        split at hv <;> first | (cases hv; done) | skip
        rename_i y hy
        cases hv
        have hval:=akm (bF.A8 _ (ha he)) hws
        refine⟨M,ρ,w,After.refl hw,.inl ⟨u,v, ?_,jK hy,hk⟩⟩
        rw[start he,hval]
        exact Ri hfn (hP.ng _ _ hfn) hcd h1 h2 (fun w=>iG hu w) w
       ·intro ρ w c hw he
        have hl:=bF.A8 _ (ha he)
        rw[hargs] at hl
        obtain⟨A,hA⟩:=hw
        rcases hA.blk ba _ hla with⟨ya,hya,ate⟩ | ⟨_,e0,_⟩
        ·rcases hA.blk bb _ hlb with⟨yb,hyb,apN⟩ | ⟨_,e0,_⟩
         ·cases ya <;> first | exact ate.elim | skip
          cases yb <;> first | exact apN.elim | skip
          obtain⟨r1,rfl,rfl,rfl,r5⟩:=ate
          obtain⟨s1,rfl,rfl,rfl,s5⟩:=apN
          have hov:zw A [.slc ba oa na ca,.slc bb ob nb cb]=some (.sc (.bool false)):=by
           simp only[zw,KL hne,hya,hyb]
           subst q1
           rw[bJ.2 (by omega),bJ.2 (by omega)]
           rfl
          obtain⟨_,hr⟩:=KD (tr:=tr) hA.rel hl hov g5 g6
          refine⟨M,ρ,w,After.refl ⟨A,hA⟩,.inl ⟨.bool false,Bo false, ?_,.sc _ rfl,hk⟩⟩
          rw[start he]
          exact wP g1 (hP.ng _ _ g1) g2 g3 g4 hr
         ·cases e0
        ·cases e0
       ·intro ρ w c hw he
        have hl:=bF.A8 _ (ha he)
        rw[hargs] at hl
        generalize hal:args.toList.map c=al at hl
        cases hl with
        | cons _ u _ us2 h1 hr =>
        cases hr
        refine⟨M,ρ,w,After.refl hw,.inl ⟨u,v, ?_,h1,hk⟩⟩
        rw[start he,hal]
        exact wP g1 (hP.ng _ _ g1) g2 g3 g4 rfl
       ·intro ρ w c hw he
        obtain⟨u,hrun,hv⟩:=aAo ρ w _ (bF.A8 _ (ha he)) hw
        exact⟨M,ρ,w,After.refl hw,.inl ⟨u,v,by rw[start he]; exact hrun,hv,hk⟩⟩
    | tmp t => 
      simp only[lG,hop] at h
      obtain⟨g,first,cap,hef,hcall⟩:=h
      exact gen g first cap hef hcall
    | const v =>
      simp only[lG,hop] at h
      obtain⟨g,first,cap,hef,hcall⟩:=h
      exact gen g first cap hef hcall
    | global v =>
      simp only[lG,hop] at h
      obtain⟨g,first,cap,hef,hcall⟩:=h
      exact gen g first cap hef hcall
  | invoke r m=>simp only[lG,hop] at h
 all_goals (simp only[lG,hop] at h)
end
def Zg (nt:Nat) (T:Tree AV) (d:Option Tmp) (v:AV) (K:Tree AV→Prop) : Prop :=
 match d with
 | none=>K T
 | some d=>match Nat.ble (d + 1) nt with
   | true=>K (T.set d v)
   | false=>False
def df (x:RB) (mk:Nat→AV) (M:RM) (K:ak) : Prop:=K (mk M.next) (M.push x)
def opW (P:Program) (o:Oper) (e:Operand→AV) (M:RM) (K:ak) : Prop :=
 match kindOf P o with
 | .pure | .read=>gI P o e M (fun v=>K v M)
 | .alloc=>vC P o e (fun x mk=>df x mk M K)
 | .wC=>lG P o e M K
def oG {α:Type} (x:AV) (want:Bool) (f g:α→Prop) (k:α) : Prop :=
 match x with
 | .sc (.bool b)=>if b=want then f k else g k
 | .tup []=>g k
 | _=>False
def TF (P:Program) (nt:Nat) (ops:Array Oper) : List Oper→Tree AV→RM→(Tree AV→RM→Prop)→Prop
 | [],T,M,K=>K T M
 | o :: rest,T,M,K=>match o.guard with
   | none=>opW P o (pO T) M (fun v M'=>Zg nt T o.dst v (fun T'=>TF P nt ops rest T' M' K))
   | some (j,want)=>match (ops[j]?).bind (·.dst) with
     | none=>False
     | some d=>oG ((T.get d).getD .top) want (opW P o (pO T) M) (fun k=>k .undef M) (fun v M'=>Zg nt T o.dst v (fun T'=>TF P nt ops rest T' M' K))
section
variable {P:Program} {ρ:Ren} {M:RM} {w:World} {nt:Nat} {T:Tree AV} {a:Act}
theorem Yb (h:iC ρ nt T a) {d:Option Tmp} {v:AV} {v' : Value} {K:Tree AV→Prop} (hv:az ρ v v') (hp:Zg nt T d v K) : ∃ T',iC ρ nt T' (a.put d v')∧K T'∧∀ t,d≠some t→T'.get t=T.get t:=by
 cases d with
 | none=>exact⟨T,Ll h hv rfl,hp,fun _ _=>rfl⟩
 | some d =>
   simp only[Zg] at hp
   split at hp
   ·rename_i hb
    exact⟨T.set d v,Ll h hv (by simp only[Tq,hb]),hp,fun t ht=>by rw[Tree.bQ,if_neg (fun e=>ht (by rw[e]))]⟩
   ·cases hp
theorem ahA (hP:Q0 P) {o:Oper} {e:Operand→AV} {K:ak} (he0:∀ g,e (.func g)=.fn (.func g) [] []) (h:opW P o e M K) : ul P o e M K:=by
 unfold opW at h
 have val:gI P o e M (fun v=>K v M)→ul P o e M K:=by
  intro h ρ w c hw he
  obtain⟨v,hg,hk⟩:=Fh h
  have hg:ou P o e M v:=by rcases hg with hg | ⟨_,hg⟩ <;> first | exact hg M | exact hg
  obtain⟨v',h1,h2⟩:=hg ρ w c M (RM.Sub.refl M) hw he
  exact⟨M,ρ,w,After.refl hw,.inl ⟨v',v,h1,h2,hk⟩⟩
 split at h
 ·exact val h
 ·exact val h
 ·obtain⟨x,mk,hm,hk⟩:=EB h
  intro ρ w c hw he
  obtain⟨ρ',w',u,h1,h2,h3⟩:=Z0 hw he hm
  exact⟨_,ρ',w',h2,.inl ⟨u,_,h1,h3,hk⟩⟩
 ·exact MQ hP he0 h
theorem aa4 {o:Oper} {e:Operand→AV} {K:ak} (h:ul P o e M K) (hw:fF P ρ M w) (he:∀ x∈o.op.operands,az ρ (e x) (a.eval x)) {K' : Act→World→Prop} {Q:Exit→Act→World→Prop}
  (hK:∀ v v' M' ρ' w',After P M ρ w M' ρ' w'→az ρ' v v'→K v M'→K' (a.put o.dst v') w') : o.wp P a w K' Q:=by
 obtain⟨M',ρ',w',haft,h2⟩:=h ρ w a.eval hw he
 rcases h2 with⟨v',v,h1,h3,hk⟩ | ⟨h1,hk⟩ | ⟨f,args,us,h1,h3,hb,hc⟩
 ·exact nu o h1 (hK _ _ _ _ _ haft h3 hk)
 ·exact Oy o h1 (hK _ _ _ _ _ haft (.tup _ _ .nil) hk)
 ·refine J7 o h1 (hc ρ' w' us h3 haft.rel) fun e w'' hR=>?_
  obtain⟨v',v,M2,ρ2,rfl,k1,k2,k3⟩:=hR
  exact⟨v',rfl,hK _ _ _ _ _ (haft.trans k1) k2 k3⟩
theorem acr {α:Type} {x:AV} {u:Value} {want:Bool} {f g:α→Prop} {k:α} (h:oG x want f g k) (hx:az ρ x u) : (u=.bool want∧f k)∨((∀ b,u=.bool b→b≠want)∧g k):=by
 unfold oG at h
 split at h <;> first | (cases h; done) | skip
 ·obtain⟨rfl,_⟩:=bu hx
  split at h
  ·rename_i e; subst e; exact .inl ⟨rfl,h⟩
  ·rename_i e; exact .inr ⟨fun b hb=>by cases hb; exact e,h⟩
 ·obtain⟨vs,rfl,hr⟩:=Ga hx
  exact .inr ⟨fun b hb=>(by cases hb),h⟩
theorem GU (hP:Q0 P) {ops:Array Oper} {Q:Exit→Act→World→Prop} {K:Tree AV→RM→Prop} {M0:RM} {ρ0:Ren} {w0:World} {T0:Tree AV}
  (hQ:∀ T' M' ρ' a' w',After P M0 ρ0 w0 M' ρ' w'→iC ρ' nt T' a'→K T' M'→(∀ t,(∀ o∈ops.toList,o.dst≠some t)→T'.get t=T0.get t)→Q .normal a' w') :
  ∀ (l:List Oper) (i:Nat) {ρ:Ren} {M:RM} {w:World} {T:Tree AV} {a:Act},ops.toList.drop i=l→iC ρ nt T a→After P M0 ρ0 w0 M ρ w→(∀ t,(∀ o∈ops.toList,o.dst≠some t)→T.get t=T0.get t)→TF P nt ops l T M K →
    wpOps P ops Q (List.range' i l.length) a w
 | [],i,ρ,M,w,T,a,_,hA,hw,hkp,h=>hQ T M ρ a w hw hA h hkp
 | o :: rest,i,ρ,M,w,T,a,hl,hA,hw,hkp,h=>by
   have ho:ops[i]?=some o:=by
    have:ops.toList[i]?=some o:=by
     have h0:(ops.toList.drop i)[0]?=some o:=by rw[hl]; rfl
     rw[List.getElem?_drop] at h0; exact h0
    rw[← Array.getElem?_toList]; exact this
   have hom:o∈ops.toList:=by
    have h1:ops.toList[i]?=some o:=by rw[Array.getElem?_toList]; exact ho
    exact List.mem_of_getElem? h1
   have hl' : ops.toList.drop (i + 1)=rest:=by
    rw[← List.drop_drop (i:=1) (j:=i)] <;> rw[hl]; rfl
   rw[List.length_cons,List.range'_succ,wpOps_cons]
   unfold wpOp
   simp only[ho]
   simp only[TF] at h
   have he:∀ x∈o.op.operands,az ρ (pO T x) (a.eval x):=fun x _=>DD hA x
   have next:opW P o (pO T) M (fun v M'=>Zg nt T o.dst v (fun T'=>TF P nt ops rest T' M' K))→o.wp P a w (wpOps P ops Q (List.range' (i + 1) rest.length)) Q:=by
    intro h
    refine aa4 (ahA hP (fun _=>rfl) h) hw.rel he fun v v' M' ρ' w' haft hv hk=>?_
    obtain⟨T',hT,hk,hkt⟩:=Yb (hA.mono (haft.le hw.rel)) hv hk
    exact GU hP hQ rest (i + 1) hl' hT (hw.trans haft) (fun t ht=>by rw[hkt t (ht o hom),hkp t ht]) hk
   split at h
   ·rename_i hg
    have:Region.wanted o (yielded ops a.tmps)=true:=by simp[Region.wanted,hg]
    rw[this]
    exact .inl (next h)
   ·rename_i j want hg
    split at h <;> first | (cases h; done) | skip
    rename_i d hd
    have hyv:yielded ops a.tmps j=match a.tmps[d]? with | some (.bool b)=>some b | _=>none:=by
     unfold yielded; rw[hd]; rfl
    have hget:∀ t:Bool,a.tmps.getD d undef=.bool t↔a.tmps[d]?=some (.bool t):=by
     intro t
     rw[Array.getD_eq_getD_getElem?]
     cases hx:a.tmps[d]? with
     | none=>simp[undef]
     | some y=>simp
    rcases acr h (hA.val d) with⟨hu,hf⟩ | ⟨hn,hk⟩
    ·have:Region.wanted o (yielded ops a.tmps)=true:=by
      simp only[Region.wanted,hg,hyv,(hget want).1 hu]; simp
     rw[this]
     exact .inl (next hf)
    ·have:Region.wanted o (yielded ops a.tmps)=false:=by
      simp only[Region.wanted,hg,hyv]
      cases hx:a.tmps[d]? with
      | none=>rfl
      | some y =>
        cases y <;> try rfl
        rename_i b
        have:=hn b ((hget b).2 hx)
        simpa using this
     rw[this]
     simp only[Bool.false_eq_true,if_false]
     obtain⟨T',hT,hk,hkt⟩:=Yb (v':=undef) hA (.tup _ _ .nil) hk
     exact GU hP hQ rest (i + 1) hl' hT hw (fun t ht=>by rw[hkt t (ht o hom),hkp t ht]) hk
end
end Go.Ab
