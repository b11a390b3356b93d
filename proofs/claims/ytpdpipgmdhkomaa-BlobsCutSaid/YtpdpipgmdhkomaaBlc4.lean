/- Part 4 of the ground of the proofs of this seat (texts Ab19 to Q2). By an AI agent. -/
import Derived.Test.YtpdpipgmdhkomaaBlc3
import Derived.Carry
import Derived.JoinedCond
import Derived.SizedLaws
import GoSem.Extern.Atomic
import GoSem.Extern.MapsClone
import Derived.Laws.AppendOwn
import Derived.Sort.AssemblyPlain
set_option linter.unusedVariables false
set_option linter.unusedSimpArgs false
namespace Go.Ab
open Go Go.RowKit
def Pn (tab run:eB) : eB:=fun f args A=>match tab f args A with
 | some r=>some r
 | none=>run f args A
def Db (P:Program) (X:Ext) (tab:eB) (L:Nat) : Nat→eB
 | 0,_,_,_=>none
 | n + 1,f,args,A=>match has X.split f with
   | true=>LM (J6 P X L (Pn tab (Db P X tab L n))) f args A
   | false=>J6 P X L (Pn tab (Db P X tab L n)) f args A
inductive Ans where
 | val (v:AV)
 | rows (n:Nat) (v:AV) (bs:List (Nat × dm)) (n' : Nat)
structure eF where
 args:List AV
 fp:List (Nat × dm):=[]
 dead:List Nat:=[]
 nx:Nat:=0
 ans:Ans
def qH:Tree dm→List (Nat × dm)→Tree dm
 | t,[]=>t
 | t,(b,x) :: r=>qH (t.set b x) r
def CU:Tree dm→List Nat→Tree dm
 | t,[]=>t
 | t,b :: r=>CU (t.del b) r
def Dq (A:AW) : List (Nat × dm)→Bool
 | []=>true
 | (b,x) :: r=>match A.heap.get b with
   | some y=>Ac x y && Dq A r
   | none=>false
def Uv (A:AW) (e:eF) : Option (AV × AW) :=
 match Dq A e.fp with
 | false=>none
 | true=>match e.ans with
   | .val v=>some (v,A)
   | .rows n v bs n'=>match Nat.beq n A.next with
     | true=>some (v,{ next:=n',heap:=qH (CU A.heap e.dead) bs })
     | false=>none
def Dz:List eF→List AV→AW→Option (AV × AW)
 | [],_,_=>none
 | e :: es,args,A=>match mX e.args args with
   | true=>match Uv A e with
     | some r=>some r
     | none=>Dz es args A
   | false=>Dz es args A
abbrev Table:=List (Nat × List eF)
def DI:Table→eB
 | [],_,_,_=>none
 | (g,es) :: T,f,args,A=>match Nat.beq g f with
   | true=>match Dz es args A with
     | some r=>some r
     | none=>DI T f args A
   | false=>DI T f args A
def FR:List Nat→Nat→Bool
 | [],_=>false
 | k :: ks,b=>match Nat.beq k b with
   | true=>true
   | false=>FR ks b
mutual
def within (ks:List Nat) : AV→Bool
 | .sc _ | .top | .atl _=>true
 | .ptr b _ | .slc b _ _ _ | .emp b | .map b=>FR ks b
 | .fn _ xs ys=>kJ ks xs && kJ ks ys
 | .ifc _ x=>within ks x
 | .agg xs | .tup xs=>kJ ks xs
def kJ (ks:List Nat) : List AV→Bool
 | []=>true
 | x :: xs=>within ks x && kJ ks xs
end
theorem lS {b:Nat} : ∀ {ks:List Nat},FR ks b=true↔b∈ks
 | []=>by simp[FR]
 | k :: ks=>by
   simp only[FR]
   split
   ·rename_i h
    simp[aW h]
   ·rename_i h
    rw[lS,List.mem_cons]
    constructor
    ·exact .inr
    ·rintro(e | e)
     ·exact absurd e.symm (rP h)
     ·exact e
mutual
theorem mg {ρ ρ' : Ren} {ks:List Nat} (hk:∀ b∈ks,∀ i,ρ b=some i→ρ' b=some i) : ∀ (x:AV) {v:Value},within ks x=true→af ρ x v→af ρ' x v
 | .top,v,_,_=>.top v
 | .atl k,v,_,hr=>by cases hr; exact .atl _ _ (by assumption)
 | .sc u,v,_,hr=>by cases hr; exact .sc _ (by assumption)
 | .ptr b o,v,h,hr=>by
   simp only[within] at h
   cases hr with
   | ptr _ _ i e=>exact .ptr _ _ i (hk b (lS.1 h) i e)
 | .slc b o l c,v,h,hr=>by
   simp only[within] at h
   cases hr with
   | eH _ _ _ c i e=>exact .eH _ _ _ c i (hk b (lS.1 h) i e)
   | iE _ k _ i e q=>exact .iE _ k _ i (hk b (lS.1 h) i e) q
 | .emp b,v,h,hr=>by
   simp only[within] at h
   cases hr with
   | emp _ a c=>exact .emp _ a c
 | .map b,v,h,hr=>by
   simp only[within] at h
   cases hr with
   | map _ i e=>exact .map _ i (hk b (lS.1 h) i e)
 | .fn f xs ys,v,h,hr=>by
   simp only[within,Bool.and_eq_true] at h
   cases hr with
   | fn _ _ _ us vs p a b=>exact .fn f xs ys us vs p (kM hk xs h.1 a) (kM hk ys h.2 b)
 | .ifc t x,v,h,hr=>by
   simp only[within] at h
   cases hr with
   | ifc _ _ v a=>exact .ifc t x v (mg hk x h a)
 | .agg xs,v,h,hr=>by
   simp only[within] at h
   cases hr with
   | agg _ vs a=>exact .agg xs vs (kM hk xs h a)
 | .tup xs,v,h,hr=>by
   simp only[within] at h
   cases hr with
   | tup _ vs a=>exact .tup xs vs (kM hk xs h a)
theorem kM {ρ ρ' : Ren} {ks:List Nat} (hk:∀ b∈ks,∀ i,ρ b=some i→ρ' b=some i) : ∀ (xs:List AV) {vs:List Value},kJ ks xs=true→aJ ρ xs vs→aJ ρ' xs vs
 | [],vs,_,hr=>by cases hr; exact .nil
 | x :: xs,vs,h,hr=>by
   simp only[kJ,Bool.and_eq_true] at h
   cases hr with
   | cons _ v _ vs a b=>exact .cons x v xs vs (mg hk x h.1 a) (kM hk xs h.2 b)
end
def xM (p:AV→Bool) : Tree AV→Bool
 | .leaf=>true
 | .node l v r=>(match v with
   | some x=>p x
   | none=>true) && xM p l && xM p r
theorem wG {p:AV→Bool} : ∀ {t:Tree AV} {k:Nat} {x:AV},xM p t=true→t.get k=some x→p x=true
 | .leaf,k,x,_,h=>by simp[Tree.get] at h
 | .node l v r,k,x,ha,h=>by
   simp only[xM,Bool.and_eq_true] at ha
   simp only[Tree.get] at h
   split at h
   ·rw[h] at ha; exact ha.1.1
   ·split at h
    ·exact wG ha.1.2 h
    ·exact wG ha.2 h
def GU (ks:List Nat) : List (AV × AV × Nat)→Bool
 | []=>true
 | (k,v,_) :: es=>within ks k && within ks v && GU ks es
def Kc (ks:List Nat) : dm→Bool
 | .row _ t zs _ _ _=>xM (within ks) t && kJ ks zs
 | .map es _=>GU ks es
 | .iter m _ _ _=>match m with
   | some b=>FR ks b
   | none=>true
 | .iM _ _=>true
theorem Eb {ks:List Nat} : ∀ {xs:List AV},kJ ks xs=true→∀ x∈xs,within ks x=true
 | [],_,x,h=>by cases h
 | y :: ys,h,x,hx=>by
   simp only[kJ,Bool.and_eq_true] at h
   rcases List.mem_cons.1 hx with e | hx
   ·rw[e]; exact h.1
   ·exact Eb h.2 x hx
theorem Oh {β:Type} : ∀ {l:List β} {n:Nat} {x:β},nth l n=some x→x∈l
 | [],_,_,h=>by simp[nth] at h
 | y :: ys,0,x,h=>by simp[nth] at h; simp[h]
 | y :: ys,n + 1,x,h=>by
   simp only[nth] at h
   exact List.mem_cons_of_mem _ (Oh h)
theorem RF {tree:Tree AV} {zs:List AV} {n k:Nat} {x:AV} (h:cellAt tree zs n k=some x) : tree.get k=some x∨x∈zs:=by
 unfold cellAt at h
 split at h
 ·cases h
 ·split at h
  ·rename_i v hv
   cases h
   exact .inl hv
  ·split at h
   ·cases h
   ·cases h
    exact .inr (List.mem_cons_self ..)
   ·exact .inr (Oh h)
theorem bD.restrict {ρ ρ' : Ren} {ks:List Nat} (hk:∀ b∈ks,∀ i,ρ b=some i→ρ' b=some i) : ∀ {es:List (AV × AV × Nat)} {fs:List MapEntry},GU ks es=true→bD ρ es fs→bD ρ' es fs
 | [],[],_,_=>trivial
 | [],_ :: _,_,h=>h.elim
 | _ :: _,[],_,h=>h.elim
 | (a,b,n) :: es,f :: fs,h,⟨h1,h2,h3,h4⟩=>by
   simp only[GU,Bool.and_eq_true] at h
   exact⟨mg hk a h.1.1 h1,mg hk b h.1.2 h2,h3,bD.restrict hk h.2 h4⟩
theorem fH.restrict {P:Program} {ρ ρ' : Ren} {ks:List Nat} (hk:∀ b∈ks,∀ i,ρ b=some i→ρ' b=some i) {i:eu} : ∀ {x:dm} {o:Obj},Kc ks x=true→fH P ρ i x o→fH P ρ' i x o
 | .row n t zs opn el fz,o,h,⟨c,fr,e,k⟩=>by
   simp only[Kc,Bool.and_eq_true] at h
   refine⟨c,fr,e,k.size,fun j x hx=>?_,k.free,k.mark,k.opn,k.sh0⟩
   obtain⟨v,h1,h2⟩:=k.val j x hx
   refine⟨v,h1,mg hk x ?_ h2⟩
   rcases RF hx with hx | hx
   ·exact wG h.1 hx
   ·exact Eb h.2 x hx
 | .map es clock,o,h,⟨fs,e,k⟩=>⟨fs,e,bD.restrict hk h k⟩
 | .iter m since seen st,o,h,⟨h0,m',e,k⟩=>by
   refine⟨h0,m',e, ?_⟩
   cases m with
   | none=>exact k
   | some b =>
     obtain⟨j,h1,h2⟩:=k
     exact⟨j,hk b (lS.1 h) j h1,h2⟩
 | .iM s pos,o,h,k=>k
section
variable {P:Program} {X:Ext}
theorem Gt {base:Base} {tab run:eB} (ht:iH P base tab) (hr:iH P base run) : iH P base (Pn tab run):=by
 intro f args A v A' h
 unfold Pn at h
 split at h
 ·rename_i r hr'
  cases h
  exact ht f args A v A' hr'
 ·exact hr f args A v A' h
theorem vW {base:Base} (hng:Ce P X) (hm:P.follows .mixedOrders=true) {tab:eB} (ht:iH P base tab) (L:Nat) : ∀ n,iH P base (Db P X tab L n)
 | 0=>by intro f args A v A' h; simp[Db] at h
 | n + 1=>by
   intro f args A v A' h
   simp only[Db] at h
   split at h
   ·exact KY (En hng hm L (Gt ht (vW hng hm ht L n))) f args A v A' h
   ·exact En hng hm L (Gt ht (vW hng hm ht L n)) f args A v A' h
def Qx (P:Program) (I:World→Prop) (f:Nat) (e:eF) : Prop :=
 ∀ (base:Base),(∀ w,base.inv w→I w)→∀ A v A',Uv A e=some (v,A')→∀ (ρ:Ren) (w:World) (us:List Value),aJ ρ e.args us→aX P base ρ A w→base≤w.heap.size →
   Calls P f ⟨us⟩ w fun r w'=>∃ ρ' v',r=.returned v'∧Step base A.next ρ w ρ' w'∧aX P base ρ' A' w'∧A.next≤A'.next∧af ρ' v v'
def DR (P:Program) (I:World→Prop) (T:Table) : Prop:=∀ g∈T,∀ e∈g.2,Qx P I g.1 e
theorem wQ {base:Base} {I:World→Prop} (hI:∀ w,base.inv w→I w) {f:Nat} : ∀ (es:List eF),(∀ e∈es,Qx P I f e)→∀ {args A v A'},Dz es args A=some (v,A')→∀ (ρ:Ren) (w:World) (us:List Value),aJ ρ args us→aX P base ρ A w→base≤w.heap.size →
  Calls P f ⟨us⟩ w fun r w'=>∃ ρ' v',r=.returned v'∧Step base A.next ρ w ρ' w'∧aX P base ρ' A' w'∧A.next≤A'.next∧af ρ' v v'
 | [],_,args,A,v,A',h=>by simp[Dz] at h
 | e :: es,hes,args,A,v,A',h=>by
   simp only[Dz] at h
   split at h
   ·rename_i hq
    have hq:=lu _ _ hq
    subst hq
    split at h
    ·rename_i r hr
     cases h
     exact hes e (List.mem_cons_self ..) base hI A v A' hr
    ·exact wQ hI es (fun e he=>hes e (List.mem_cons_of_mem _ he)) h
   ·exact wQ hI es (fun e he=>hes e (List.mem_cons_of_mem _ he)) h
theorem Ew {base:Base} {I:World→Prop} (hI:∀ w,base.inv w→I w) : ∀ (T:Table),DR P I T→iH P base (DI T)
 | [],_=>by intro f args A v A' h; simp[DI] at h
 | (g,es) :: T,hT=>by
   intro f args A v A' h
   have hrest:=Ew hI T (fun g hg=>hT g (List.mem_cons_of_mem _ hg))
   simp only[DI] at h
   split at h
   ·rename_i hq
    have hq:=aW hq
    subst hq
    split at h
    ·rename_i r hr
     cases h
     exact wQ hI es (hT (g,es) (List.mem_cons_self ..)) hr
    ·exact hrest g args A v A' h
   ·exact hrest f args A v A' h
theorem rV:∀ (bs:List (Nat × dm)) (t:Tree dm) {k:Nat} {x:dm},(qH t bs).get k=some x→(k,x)∈bs∨(t.get k=some x∧∀ y,(k,y) ∉ bs)
 | [],t,k,x,h=>.inr ⟨h,fun y hy=>by cases hy⟩
 | (b,y) :: r,t,k,x,h=>by
   simp only[qH] at h
   rcases rV r _ h with h | ⟨h,hn⟩
   ·exact .inl (List.mem_cons_of_mem _ h)
   ·rw[Tree.aT] at h
    split at h
    ·rename_i e
     cases h
     subst e
     exact .inl (List.mem_cons_self ..)
    ·rename_i hne
     refine .inr ⟨h,fun z hz=>?_⟩
     rcases List.mem_cons.1 hz with e | hz
     ·cases e; exact hne rfl
     ·exact hn z hz
theorem zY:∀ (ds:List Nat) (t:Tree dm) {k:Nat} {x:dm},(CU t ds).get k=some x→t.get k=some x∧k ∉ ds
 | [],t,k,x,h=>⟨h,by simp⟩
 | d :: r,t,k,x,h=>by
   simp only[CU] at h
   obtain⟨h1,h2⟩:=zY r _ h
   rw[Tree.qh] at h1
   split at h1
   ·cases h1
   ·rename_i hne
    exact⟨h1,by simp only[List.mem_cons,not_or]; exact⟨hne,h2⟩⟩
theorem BX {A:AW} : ∀ (l:List (Nat × dm)),Dq A l=true→∀ b x,(b,x)∈l→A.heap.get b=some x
 | [],_,b,x,hm=>by cases hm
 | (c,y) :: r,h,b,x,hm=>by
   simp only[Dq] at h
   split at h <;> first | (cases h; done) | skip
   rename_i z hz
   rw[Bool.and_eq_true] at h
   rcases List.mem_cons.1 hm with e | hm
   ·cases e
    rw[hz,uo h.1]
   ·exact BX r h.2 b x hm
def keysOf:List (Nat × dm)→List Nat
 | []=>[]
 | (b,_) :: r=>b :: keysOf r
theorem zS {b:Nat} : ∀ {l:List (Nat × dm)},b∈keysOf l↔∃ x,(b,x)∈l
 | []=>by simp[keysOf]
 | (c,y) :: r=>by
   simp only[keysOf,List.mem_cons,zS (l:=r)]
   constructor
   ·rintro(e | ⟨x,h⟩)
    ·subst e; exact⟨y,.inl rfl⟩
    ·exact⟨x,.inr h⟩
   ·rintro⟨x,h | h⟩
    ·cases h; exact .inl rfl
    ·exact .inr ⟨x,h⟩
def Oz (ks:List Nat) (n:Nat) : List (Nat × dm)→List Nat→Bool
 | [],_=>true
 | (b,x) :: r,seen=>Kc ks x && Nat.ble (b + 1) n && !FR seen b && Oz ks n r (b :: seen)
theorem Jy {ks:List Nat} {n:Nat} : ∀ (l:List (Nat × dm)) (seen:List Nat),Oz ks n l seen=true→(∀ b x,(b,x)∈l→Kc ks x=true∧b<n∧b ∉ seen)∧∀ b x y,(b,x)∈l→(b,y)∈l→x=y
 | [],_,_=>⟨fun b x h=>(by cases h),fun b x y h=>(by cases h)⟩
 | (c,z) :: r,seen,h=>by
   simp only[Oz,Bool.and_eq_true,Bool.not_eq_true'] at h
   obtain⟨⟨⟨h1,h2⟩,h3⟩,h4⟩:=h
   obtain⟨i1,i2⟩:=Jy r (c :: seen) h4
   have hc:c ∉ seen:=fun hm=>by rw[lS.2 hm] at h3; cases h3
   refine⟨fun b x hm=>?_,fun b x y hx hy=>?_⟩
   ·rcases List.mem_cons.1 hm with e | hm
    ·cases e; exact⟨h1,aP h2,hc⟩
    ·obtain⟨a1,a2,a3⟩:=i1 b x hm
     exact⟨a1,a2,fun h=>a3 (List.mem_cons_of_mem _ h)⟩
   ·rcases List.mem_cons.1 hx with e | hx <;> rcases List.mem_cons.1 hy with f | hy
    ·cases e; cases f; rfl
    ·cases e
     exact absurd (List.mem_cons_self ..) (i1 _ _ hy).2.2
    ·cases f
     exact absurd (List.mem_cons_self ..) (i1 _ _ hx).2.2
    ·exact i2 b x y hx hy
def Gi (ks:List Nat) (n:Nat) (A:AW) : List (Nat × dm)→Bool
 | []=>true
 | (b,x) :: r=>(Nat.ble n b || FR ks b) && (match A.heap.get b with
   | some y=>Ac x y
   | none=>false) && Gi ks n A r
def Bu (A:AW) (gone:List Nat) : List (Nat × dm)→Bool
 | []=>true
 | (b,x) :: r=>(FR gone b || (match A.heap.get b with
   | some y=>Ac x y
   | none=>false)) && Bu A gone r
def xO (e:eF) : Nat:=match e.ans with
 | .val _=>e.nx
 | .rows m _ _ _=>m
def Fa (P:Program) (X:Ext) (tab:eB) (L n:Nat) (f:Nat) (e:eF) : Bool :=
 match kJ (keysOf e.fp) e.args && Oz (keysOf e.fp) (xO e) e.fp [] with
 | false=>false
 | true=>match Db P X tab L n f e.args { next:=xO e,heap:=qH .leaf e.fp } with
   | none=>false
   | some (v',A')=>match e.ans with
     | .val v=>within [] v && jW v' v && Bu A' [] e.fp
     | .rows _ v bs m'=>jW v' v && Nat.beq A'.next m' && Gi (keysOf e.fp) (xO e) A' bs && Bu A' (keysOf bs++e.dead) e.fp
theorem Em {ks:List Nat} {n:Nat} {A:AW} : ∀ (bs:List (Nat × dm)),Gi ks n A bs=true→∀ b x,(b,x)∈bs→(n≤b∨b∈ks)∧A.heap.get b=some x
 | [],_,b,x,hm=>by cases hm
 | (c,y) :: r,h,b,x,hm=>by
   simp only[Gi,Bool.and_eq_true] at h
   obtain⟨⟨h1,h2⟩,h3⟩:=h
   rcases List.mem_cons.1 hm with e | hm
   ·cases e
    split at h2
    ·rename_i z hz
     rw[Bool.or_eq_true] at h1
     refine⟨?_, ?_⟩
     ·rcases h1 with h1 | h1
      ·exact .inl (aP h1)
      ·exact .inr (lS.1 h1)
     ·rw[hz,uo h2]
    ·cases h2
   ·exact Em r h3 b x hm
theorem wS {gone:List Nat} {A:AW} : ∀ (l:List (Nat × dm)),Bu A gone l=true→∀ b x,(b,x)∈l→b∈gone∨A.heap.get b=some x
 | [],_,b,x,hm=>by cases hm
 | (c,y) :: r,h,b,x,hm=>by
   simp only[Bu,Bool.and_eq_true] at h
   obtain⟨h1,h3⟩:=h
   rcases List.mem_cons.1 hm with e | hm
   ·cases e
    rw[Bool.or_eq_true] at h1
    rcases h1 with h1 | h1
    ·exact .inl (lS.1 h1)
    ·split at h1
     ·rename_i z hz
      rw[hz,uo h1]
      exact .inr rfl
     ·cases h1
   ·exact wS r h3 b x hm
theorem aX.none {P:Program} {base:Base} {n:Nat} {w:World} (hi:base.inv w) : aX P base (fun _=>none) { next:=n,heap:=.leaf } w :=
 ⟨fun _ _ h=>(by cases h),fun _ _ _ h=>(by cases h),fun _ _ _ _ _ _ h=>(by cases h),fun _ _ h=>(by simp[Tree.get] at h),fun _ _ _ h=>(by cases h),hi⟩
def only(ρ:Ren) (ks:List Nat) : Ren:=fun b=>if b∈ks then ρ b else none
theorem kL {ρ:Ren} {ks:List Nat} {b:Nat} {i:eu} (h:only ρ ks b=some i) : b∈ks∧ρ b=some i:=by
 unfold only at h
 split at h
 ·exact⟨‹_›,h⟩
 ·cases h
theorem xZ {ρ:Ren} {ks:List Nat} {b:Nat} (h:b∈ks) : only ρ ks b=ρ b:=by simp[only,h]
theorem H5 (hng:Ce P X) (hm:P.follows .mixedOrders=true) {I:World→Prop} {tab:eB} (ht:∀ base:Base,(∀ w,base.inv w→I w)→iH P base tab) {L n f:Nat} {e:eF} (h:Fa P X tab L n f e=true) : Qx P I f e:=by
 unfold Fa at h
 split at h <;> first | (cases h; done) | skip
 rename_i hfl
 rw[Bool.and_eq_true] at hfl
 obtain⟨hwi,hfp⟩:=hfl
 obtain⟨hf1,hf2⟩:=Jy _ _ hfp
 split at h <;> first | (cases h; done) | skip
 rename_i v1 A1 hc
 intro base hI A v A' ha ρ w us hargs hw hb
 unfold Uv at ha
 split at ha <;> first | (cases ha; done) | skip
 rename_i hhas
 have hrow:=BX _ hhas
 -- the blocks alone
 let ks:=keysOf e.fp
 have hks:∀ {b},b∈ks↔∃ x,(b,x)∈e.fp:=zS
 have hto:∀ b∈ks,∀ i,ρ b=some i→only ρ ks b=some i:=fun b hb i h=>by rw[xZ hb]; exact h
 have Wl:aJ (only ρ ks) e.args us:=kM hto _ hwi hargs
 have FZ:∀ b x,(qH .leaf e.fp).get b=some x→(b,x)∈e.fp:=fun b x h=>by
  rcases rV _ _ h with h | ⟨h,_⟩
  ·exact h
  ·simp[Tree.get] at h
 have hw0:aX P base (only ρ ks) { next:=xO e,heap:=qH .leaf e.fp } w:=by
  refine⟨fun b i h=>?_,fun b i x h hx=>?_,fun b b' i i' x x' h h' hx hx' he=>?_,fun b x hx=>?_,fun b i x h hx=>?_,hw.inv⟩
  ·obtain⟨hbk,hbi⟩:=kL h
   obtain⟨x,hx⟩:=hks.1 hbk
   exact⟨(hf1 b x hx).2.1,(hw.dom b i hbi).2⟩
  ·obtain⟨hbk,hbi⟩:=kL h
   have hm:=FZ b x hx
   obtain⟨o,ho,hrel⟩:=hw.blk b i x hbi (hrow b x hm)
   exact⟨o,ho,hrel.restrict hto (hf1 b x hm).1⟩
  ·exact hw.sep _ _ _ _ _ _ (kL h).2 (kL h').2 (hrow _ _ (FZ _ _ hx)) (hrow _ _ (FZ _ _ hx')) he
  ·exact(hf1 b x (FZ b x hx)).2.1
  ·exact hw.lo b i x (kL h).2 (hrow _ _ (FZ _ _ hx))
 have OQ:∀ b i,b ∉ ks→ρ b=some i→∀ x,A.heap.get b=some x→∀ b0 i0,only ρ ks b0=some i0→i0.cb≠i.cb:=by
  intro b i hbk hbi x hx b0 i0 h0 he
  obtain⟨h0k,h0i⟩:=kL h0
  obtain⟨x0,hx0⟩:=hks.1 h0k
  exact hbk (hw.sep _ _ _ _ _ _ h0i hbi (hrow _ _ hx0) hx he▸h0k)
 have main:=vW hng hm (ht base hI) L n f _ _ _ _ hc (only ρ ks) w us Wl hw0 hb
 split at ha
 ·
  rename_i v0 PR
  cases ha
  rw[PR] at h
  dsimp only at h
  simp only[Bool.and_eq_true] at h
  obtain⟨⟨h1,h2⟩,h3⟩:=h
  have hv1:=pX _ _ h2
  subst hv1
  have hkept:=wS _ h3
  refine main.mono fun r w' hR=>?_
  obtain⟨ρ',v',rfl,hst,hwr,hnx,hv⟩:=hR
  have hback:∀ b∈ks,∀ i,ρ' b=some i→ρ b=some i:=fun b hbk i h=>by
   obtain⟨x,hx⟩:=hks.1 hbk
   rw[hst.ext b (hf1 b x hx).2.1,xZ hbk] at h
   exact h
  refine⟨ρ,v',rfl,⟨hst.os,hst.tape,hst.output,hst.size,fun c hc hun=>hst.frame c hc fun b i hbi=>hun b i (kL hbi).2,fun _ _=>rfl,fun b i h=>.inl ⟨b,i,h,rfl⟩,hst.low⟩,⟨fun b i h=>?_,fun b i x hbi hx=>?_,hw.sep,hw.top,hw.lo,hwr.inv⟩,Nat.le_refl _,mg (ks:=[]) (fun b hb=>by cases hb) _ h1 hv⟩
  ·exact⟨(hw.dom b i h).1,Nat.lt_of_lt_of_le (hw.dom b i h).2 hst.size⟩
  ·by_cases hbk:b∈ks
   ·obtain⟨y,hy⟩:=hks.1 hbk
    have hxy:x=y:=by have:=hrow b y hy; rw[hx] at this; exact Option.some.inj this
    subst hxy
    rcases hkept b x hy with hg | hg
    ·cases hg
    ·have hρ' : ρ' b=some i:=by rw[hst.ext b (hf1 b x hy).2.1,xZ hbk]; exact hbi
     obtain⟨o,ho,hrel⟩:=hwr.blk b i x hρ' hg
     exact⟨o,ho,hrel.restrict hback (hf1 b x hy).1⟩
   ·obtain⟨o,ho,hrel⟩:=hw.blk b i x hbi hx
    exact⟨o,by rw[hst.frame _ (hw.dom b i hbi).2 (OQ b i hbk hbi x hx)]; exact ho,hrel⟩
 ·
  rename_i m v0 bs m' PR
  have hnext:xO e=m:=by unfold xO; rw[PR]
  rw[PR] at h
  dsimp only at h
  simp only[Bool.and_eq_true] at h
  obtain⟨⟨⟨h1,h2⟩,h3⟩,h4⟩:=h
  have hv1:=pX _ _ h1
  have h2:=aW h2
  subst hv1
  subst h2
  split at ha <;> first | (cases ha; done) | skip
  rename_i hn
  have hn:=aW hn
  rw[hnext,hn] at main hw0 hf1 h3
  cases ha
  have hrows:=Em bs h3
  have hkept:=wS _ h4
  refine main.mono fun r w' hR=>?_
  obtain⟨ρ',v',rfl,hst,hwr,hnx,hv⟩:=hR
  dsimp only at hst hnx
  let ρ2:Ren:=fun b=>if b<A.next then ρ b else ρ' b
  have hlo:∀ b,b<A.next→ρ2 b=ρ b:=fun b h=>by simp[ρ2,h]
  have hhi:∀ b,A.next≤b→ρ2 b=ρ' b:=fun b h=>by simp only[ρ2]; rw[if_neg (by omega)]
  have hold:∀ b i,b<A.next→ρ' b=some i→b∈ks∧ρ b=some i:=fun b i h hbi=>by
   rw[hst.ext b h] at hbi
   exact kL hbi
  have hle1:ρ.le ρ2:=fun b i h=>by rw[hlo b (hw.dom b i h).1]; exact h
  have hle2:ρ'.le ρ2:=fun b i h=>by
   rcases Nat.lt_or_ge b A.next with h' | h'
   ·rw[hlo b h']; exact(hold b i h' h).2
   ·rw[hhi b h']; exact h
  -- a row of the outcome: changed or new; or as it was
  have hget:∀ b i x,ρ2 b=some i→(qH (CU A.heap e.dead) bs).get b=some x→(ρ' b=some i∧A1.heap.get b=some x)∨(b ∉ ks∧b<A.next∧ρ b=some i∧A.heap.get b=some x):=by
   intro b i x hbi hx
   rcases rV bs _ hx with hx | ⟨hx,hnb⟩
   ·obtain⟨hwh,hx⟩:=hrows b x hx
    refine .inl ⟨?_,hx⟩
    rcases Nat.lt_or_ge b A.next with h' | h'
    ·rcases hwh with hwh | hwh
     ·omega
     ·rw[hst.ext b h',xZ hwh,← hlo b h']; exact hbi
    ·rw[← hhi b h']; exact hbi
   ·obtain⟨hx,hnd⟩:=zY _ _ hx
    have hbn:=hw.top b x hx
    rw[hlo b hbn] at hbi
    by_cases hbk:b∈ks
    ·obtain⟨y,hy⟩:=hks.1 hbk
     have hxy:x=y:=by have:=hrow b y hy; rw[hx] at this; exact Option.some.inj this
     subst hxy
     rcases hkept b x hy with hg | hg
     ·rcases List.mem_append.1 hg with hg | hg
      ·obtain⟨z,hz⟩:=zS.1 hg
       exact absurd hz (hnb z)
      ·exact absurd hg hnd
     ·exact .inl ⟨by rw[hst.ext b hbn,xZ hbk]; exact hbi,hg⟩
    ·exact .inr ⟨hbk,hbn,hbi,hx⟩
  have Hm:∀ b i x b' i' x',b ∉ ks→ρ b=some i→A.heap.get b=some x→ρ' b'=some i'→A1.heap.get b'=some x'→i.cb≠i'.cb:=by
   intro b i x b' i' x' hbk hbi hx hb' hx' he
   rcases hst.fresh b' i' hb' with⟨b0,i0,h0,e0⟩ | hge
   ·exact OQ b i hbk hbi x hx b0 i0 h0 (by rw[e0,he])
   ·have:=(hw.dom b i hbi).2; omega
  refine⟨ρ2,v',rfl,⟨hst.os,hst.tape,hst.output,hst.size,fun c hc hun=>hst.frame c hc fun b i hbi=>hun b i (kL hbi).2,fun b h=>hlo b h,fun b i h=>?_,hst.low⟩,⟨fun b i h=>?_,fun b i x h1 h2=>?_,fun b b' i i' x x' hb hb' hx hx' he=>?_,fun b x h=>?_,fun b i x h1 h2=>?_,hwr.inv⟩,hnx,hv.mono hle2⟩
  ·rcases Nat.lt_or_ge b A.next with h' | h'
   ·rw[hlo b h'] at h; exact .inl ⟨b,i,h,rfl⟩
   ·rw[hhi b h'] at h
    rcases hst.fresh b i h with⟨b0,i0,h0,e0⟩ | hge
    ·exact .inl ⟨b0,i0,(kL h0).2,e0⟩
    ·exact .inr hge
  ·rcases Nat.lt_or_ge b A.next with h' | h'
   ·rw[hlo b h'] at h
    exact⟨Nat.lt_of_lt_of_le (hw.dom b i h).1 hnx,Nat.lt_of_lt_of_le (hw.dom b i h).2 hst.size⟩
   ·rw[hhi b h'] at h
    exact hwr.dom b i h
  ·rcases hget b i x h1 h2 with⟨g1,g2⟩ | ⟨g1,g2,g3,g4⟩
   ·obtain⟨o,ho,hrel⟩:=hwr.blk b i x g1 g2
    exact⟨o,ho,hrel.mono hle2⟩
   ·obtain⟨o,ho,hrel⟩:=hw.blk b i x g3 g4
    exact⟨o,by rw[hst.frame _ (hw.dom b i g3).2 (OQ b i g1 g3 x g4)]; exact ho,hrel.mono hle1⟩
  ·rcases hget b i x hb hx with⟨g1,g2⟩ | ⟨g1,g2,g3,g4⟩ <;> rcases hget b' i' x' hb' hx' with⟨k1,k2⟩ | ⟨k1,k2,k3,k4⟩
   ·exact hwr.sep _ _ _ _ _ _ g1 k1 g2 k2 he
   ·exact absurd he.symm (Hm b' i' x' b i x k1 k3 k4 g1 g2)
   ·exact absurd he (Hm b i x b' i' x' g1 g3 g4 k1 k2)
   ·exact hw.sep _ _ _ _ _ _ g3 k3 g4 k4 he
  ·rcases rV bs _ h with h | ⟨h,_⟩
   ·exact hwr.top b x (hrows b x h).2
   ·exact Nat.lt_of_lt_of_le (hw.top b x (zY _ _ h).1) hnx
  ·rcases hget b i x h1 h2 with⟨g1,g2⟩ | ⟨g1,g2,g3,g4⟩
   ·exact hwr.lo b i x g1 g2
   ·exact hw.lo b i x g3 g4
def V6 (P:Program) (X:Ext) (T:Table) (L n:Nat) (B:Table) : Bool:=B.all fun g=>g.2.all (Fa P X (DI T) L n g.1)
theorem DR.nil {I:World→Prop} : DR P I []:=fun g hg=>by cases hg
theorem DR.add (hng:Ce P X) (hm:P.follows .mixedOrders=true) {I:World→Prop} {T B:Table} (hT:DR P I T) {L n:Nat} (h:V6 P X T L n B=true) : DR P I (B++T):=by
 intro g hg e he
 rcases List.mem_append.1 hg with hg | hg
 ·exact H5 hng hm (fun base hI=>Ew hI T hT) (List.all_eq_true.1 (List.all_eq_true.1 h g hg) e he)
 ·exact hT g hg e he
open Go.WideShapes Go.ChangeShapes in
open Go.WideShapes Go.ChangeShapes in
end
structure Enc (α:Type) where
 size:Nat
 cells:α→List AV
 len:∀ a,(cells a).length=size
 one:∀ a,(cells a).all oneCell=true
section
variable {α:Type} (E:Enc α)
def Enc.row (xs:List α) : List AV:=xs.flatMap E.cells
theorem Enc.gJ (x:α) (xs:List α) : E.row (x :: xs)=E.cells x++E.row xs:=rfl
theorem Enc.GZ (xs ys:List α) : E.row (xs++ys)=E.row xs++E.row ys:=by simp[Enc.row]
theorem Enc.row_one (x:α) : E.row [x]=E.cells x:=by simp[Enc.row]
theorem Enc.gT:∀ (xs:List α),(E.row xs).length=xs.length * E.size
 | []=>by simp[Enc.row]
 | x :: xs=>by rw[Enc.gJ,List.length_append,E.len,Enc.gT xs,List.length_cons,Nat.succ_mul,Nat.add_comm]
theorem Enc.bX:∀ (xs:List α),(E.row xs).all oneCell=true
 | []=>by simp[Enc.row]
 | x :: xs=>by rw[Enc.gJ,List.all_append,E.one,Enc.bX xs]; rfl
theorem Enc.tq:∀ (xs:List α) (i:Nat),(E.row xs).drop (i * E.size)=E.row (xs.drop i)
 | [],i=>by simp[Enc.row]
 | x :: xs,0=>by simp
 | x :: xs,i + 1=>by
   rw[Enc.gJ,Nat.succ_mul,Nat.add_comm,← List.drop_drop,List.drop_left' (E.len x),Enc.tq xs i]
   rfl
theorem Enc.uG:∀ (xs:List α) (i:Nat),(E.row xs).take (i * E.size)=E.row (xs.take i)
 | [],i=>by simp[Enc.row]
 | x :: xs,0=>by simp[Enc.row]
 | x :: xs,i + 1=>by
   rw[Enc.gJ,Nat.succ_mul,Nat.add_comm,List.take_append,List.take_of_length_le (by rw[E.len]; omega),E.len,Nat.add_sub_cancel_left,Enc.uG xs i]
   rfl
theorem Enc.Oe {xs:List α} {i:Nat} (hi:i<xs.length) : ((E.row xs).drop (i * E.size)).take E.size=E.cells xs[i]:=by
 rw[Enc.tq,List.drop_eq_getElem_cons hi,Enc.gJ]
 rw[List.take_append_of_le_length (by rw[E.len]; exact Nat.le_refl _),List.take_of_length_le (by rw[E.len]; exact Nat.le_refl _)]
abbrev Sl (M:RM) (v:AV) (xs:List α) : Prop:=aK M E.size v (E.row xs) xs.length
abbrev Ow (M:RM) (base el:Nat) (v:AV) (xs:List α) : Prop:=Own M base el E.size v (E.row xs) xs.length
variable {E} {M M' : RM} {v:AV} {xs:List α}
theorem Sl.elem (h:Sl E M v xs) {i:Nat} (hi:i<xs.length) : ∃ b o,b<M.next∧b∈ak v∧(∀ (kd:IntKind) (K:AV→Prop),aZ v (N kd (i:Int)) E.size K=K (.ptr b o))∧M.loads b o E.size=some (E.cells xs[i]):=by
 obtain⟨b,o,cap,rfl,hb,hl⟩:=h.pos (by omega)
 have hsum:i * E.size + E.size≤xs.length * E.size:=by rw[← Nat.succ_mul]; exact Nat.mul_le_mul_right _ hi
 refine⟨b,o + i * E.size,hb,by simp[ak],fun kd K=>?_, ?_⟩
 ·rw[uC]
  simp only[Int.toNat_natCast]
  exact propext ⟨fun h=>h.2.2,fun h=>⟨by omega,by omega,h⟩⟩
 ·rw[nS hl (i * E.size) E.size hsum,E.Oe hi]
theorem Sl.at (h:Sl E M v xs) {i:Nat} (sz:Nat) (j:Int) (hi:i<xs.length) (hsz:E.size=sz:=by rfl) (hj:j=(i:Int):=by rfl) : ∃ b o,b<M.next∧b∈ak v∧(∀ (kd:IntKind) (K:AV→Prop),aZ v (N kd j) sz K=K (.ptr b o))∧M.loads b o sz=some (E.cells xs[i]):=by
 subst hsz hj; exact h.elem hi
theorem JU {b o k:Nat} {cs:List AV} (h:M.loads b o k=some cs) {j:Nat} {x:AV} (hj:cs[j]?=some x) : M.cell b (o + j)=some x:=by
 have hlt:j<k:=by rw[← Jt h]; exact(List.getElem?_eq_some_iff.1 hj).1
 rw[Ry h j hlt,hj]
theorem yD {b o k:Nat} {cs:List AV} (h:M.loads b o k=some cs) {x:AV} (hj:cs[0]?=some x) : M.cell b o=some x:=JU h hj
theorem pI {base T bytes:Nat} {zs:List AV} {u:AV} {ys:List α} {K:aj} (ho:Ow E M base T v xs) (hb:base≤M.next) (hs:1≤E.size) (hu:Sl E M u ys)
  (hn:(xs.length + ys.length) * bytes≤140737488355328) (hn2:xs.length + ys.length≤140737488355328)
  (hK:∀ v' M',Ow E M' base T v' (xs++ys)→aa (ak v) M M'→M.next≤M'.next→(v'=v∨∀ b∈ak v',M.next≤b)→K v' M') :
  appW T E.size bytes zs false v u M K:=by
 refine sO ho hb hs (aK.mE hu _) (E.gT ys) (E.bX ys) hn hn2 ?_
 intro v' M' h1 h2 h3 h4
 refine hK v' M' ?_ h2 h3 h4
 rw[← E.GZ] at h1
 simpa [Ow] using h1
theorem Sl.new {T c:Nat} {p:Bool} (ys:List α) : Sl E (M.push (.row (E.row ys) p T 0)) (.slc M.next 0 ys.length (.ex c)) ys :=
 .slc _ _ _ _ _ (by simp[RM.push]) (by rw[RM.ig (RM.bI _) (by rw[E.gT]; omega),List.drop_zero,← E.gT,List.take_length])
theorem iw {base T bytes:Nat} {zs:List AV} {a:α} {K:aj} (ho:Ow E M base T v xs) (hb:base≤M.next) (hs:1≤E.size)
  (hn:(xs.length + 1) * bytes≤140737488355328) (hn2:xs.length + 1≤140737488355328)
  (hK:∀ v' M',Ow E M' base T v' (xs++[a])→aa (ak v) M M'→M.next≤M'.next→(v'=v∨∀ b∈ak v',M.next≤b)→K v' M') :
  appW T E.size bytes zs false v (.slc M.next 0 1 (.ex 1)) (M.push (.row (E.cells a) false T 0)) K:=by
 have hk:aa [] M (M.push (.row (E.cells a) false T 0)):=(aa.refl _ _).push _
 refine pI (ys:=[a]) (Own.keep ho hk (by simp)) (Nat.le_trans hb hk.next) hs (by rw[← E.row_one]; exact Sl.new [a]) hn hn2 ?_
 intro v' M' h1 h2 h3 h4
 exact hK v' M' h1 ((hk.mono (by simp)).trans h2) (Nat.le_trans hk.next h3) (h4.imp id fun h b hb=>Nat.le_trans hk.next (h b hb))
@[go_sem] theorem PN {T:Nat} {zs:List AV} {K:RB→(Nat→AV)→Prop} : bN T 0 zs [] K=K (.row [] false T 0) (fun b=>.slc b 0 0 (.ex 0)):=by
 apply propext; unfold bN
 constructor
 ·rintro⟨l,h,hk⟩; cases h; exact hk
 ·intro hk; exact⟨_,rfl,hk⟩
theorem iq {T size:Nat} {zs:List AV} {x:AV} {K:RB→(Nat→AV)→Prop} (h:x.cells.length=size) (h1:x.cells.all oneCell=true) (hz:zs.length=size) :
  bN T 1 zs [(0,size,x)] K=K (.row x.cells false T 0) (fun b=>.slc b 0 1 (.ex 1)):=by
 have:kC (fP zs 1) [(0,size,x)]=some x.cells:=by
  simp only[kC,fP,List.append_nil,h1,h,Nat.zero_add,hz,Nat.le_refl,and_self,if_true,List.take_zero,List.nil_append]
  rw[List.drop_of_length_le (by omega),List.append_nil]
 apply propext; unfold bN
 constructor
 ·rintro⟨l,h,hk⟩; rw[this] at h; cases h; exact hk
 ·intro hk; exact⟨_,this,hk⟩
theorem Ow.lit (E:Enc α) {T:Nat} (M:RM) : Ow E (M.push (.row [] false T 0)) M.next T (.slc M.next 0 0 (.ex 0)) []:=Own.lit M (Nat.le_refl _)
theorem lH {i:Nat} (h:i<9223372036854775807) : IntKind.wrap .i64 ((i:Int) + 1)=((i + 1:Nat) : Int):=by
 rw[aL (by omega) (by omega)]; rfl
end
@[go_sem] theorem Gp:cK [] [] []=some true:=rfl
@[go_sem] theorem Yt (ks:List Nat) (k:IntKind) (a b:Int) (xs ys:List AV) : cK (1 :: ks) (N k a :: xs) (N k b :: ys)=if a=b then cK ks xs ys else some false:=by
 simp only[cK,oh,if_true]
 by_cases h:a=b
 ·simp[h]
 ·have:(a == b)=false:=by simp[h]
  simp[this,h]
@[go_sem] theorem Ha (ks:List Nat) (a b:List UInt8) (xs ys:List AV) : cK (2 :: ks) (St a :: xs) (St b :: ys)=if a=b then cK ks xs ys else some false:=by
 simp only[cK,oh]
 by_cases h:a=b
 ·simp[h]
 ·have:(a == b)=false:=by simp[h]
  simp[this,h]
@[go_sem] theorem X9 (ks:List Nat) (a b:Bool) (xs ys:List AV) : cK (3 :: ks) (Bo a :: xs) (Bo b :: ys)=if a=b then cK ks xs ys else some false:=by
 simp only[cK,oh]
 by_cases h:a=b
 ·simp[h]
 ·have:(a == b)=false:=by simp[h]
  simp[this,h]
theorem ni (x:AV) (w:Bool) (f g:aj→Prop) (F G:AV→RM→aj→Prop) (k:aj) :
  ay x w f g (fun v M=>ay x w (F v M) (G v M) k)=ay x w (fun k'=>f fun v M=>F v M k') (fun k'=>g fun v M=>G v M k') k:=by
 unfold ay jg
 split
 ·split <;> simp_all
 ·rfl
 ·rfl
theorem yV (x:AV) (w:Bool) (f g:KR→Prop) (F G:AV→RM→Option Nat→KR→Prop) (k:KR) :
  aD x w f g (fun v M b=>aD x w (F v M b) (G v M b) k)=aD x w (fun k'=>f fun v M b=>F v M b k') (fun k'=>g fun v M b=>G v M b k') k:=by
 unfold aD jg
 split
 ·split <;> simp_all
 ·rfl
 ·rfl
theorem uh (x:AV) (w:Bool) (f g:KR→Prop) (F G:AV→RM→Option Nat→aj→Prop) (k:aj) :
  aD x w f g (fun v M b=>ay x w (F v M b) (G v M b) k)=ay x w (fun k'=>f fun v M b=>F v M b k') (fun k'=>g fun v M b=>G v M b k') k:=by
 unfold aD ay jg
 split
 ·split <;> simp_all
 ·rfl
 ·rfl
theorem uz (x:AV) (w:Bool) (f g:aj→Prop) (F G:AV→RM→KR→Prop) (k:KR) :
  ay x w f g (fun v M=>aD x w (F v M) (G v M) k)=aD x w (fun k'=>f fun v M=>F v M k') (fun k'=>g fun v M=>G v M k') k:=by
 unfold aD ay jg
 split
 ·split <;> simp_all
 ·rfl
 ·rfl
theorem aM {body:(List AV→RM→Prop)→List AV→RM→Prop} {xs:List AV} {M:RM} (I:Nat→List AV→RM→Prop) (n:Nat) (h0:I n xs M)
  (hb:∀ (next:List AV→RM→Prop) m ys M',(∀ m' zs M'',m'<m→I m' zs M''→next zs M'')→I m ys M'→body next ys M') : bC body xs M :=
 ⟨I,n,h0,fun m ys M' hI=>hb _ m ys M' (fun m' zs M'' hlt h=>⟨m',hlt,h⟩) hI⟩
abbrev By (b:UInt8) : AV:=N .u8 (b.toNat:Int)
def BY:Enc UInt8:=⟨1,fun b=>[By b],fun _=>rfl,fun _=>rfl⟩
theorem kG (s:List UInt8) : BY.row s=s.map By:=by
 induction s with
 | nil=>rfl
 | cons b s ih=>rw[Enc.gJ,ih]; rfl
def dU:Enc (List UInt8):=⟨1,fun s=>[St s],fun _=>rfl,fun _=>rfl⟩
theorem VR (s:List (List UInt8)) : dU.row s=s.map (fun s=>St s):=by
 induction s with
 | nil=>rfl
 | cons b s ih=>rw[Enc.gJ,ih]; rfl
def dY:Enc Nat:=⟨1,fun n=>[N .u64 (n:Int)],fun _=>rfl,fun _=>rfl⟩
theorem nU (s:List Nat) : dY.row s=s.map (fun(s:Nat)=>N .u64 (s:Int)):=by
 induction s with
 | nil=>rfl
 | cons b s ih=>rw[Enc.gJ,ih]; rfl
theorem GM:∀ (s:List UInt8),bS byteOf (s.map By)=some s
 | []=>rfl
 | b :: s=>by
   simp only[List.map_cons,bS,byteOf,GM s]
   simp
section
variable {α:Type} {E:Enc α} {M M' : RM} {v:AV} {xs:List α}
theorem Sl.str {s:List UInt8} (h:Sl BY M v s) {K:AV→Prop} : eD M v K=K (St s) :=
 MK (aK.zX h (by rw[kG]; exact GM s))
theorem Sl.Om (h:Sl E M v xs) {i:Nat} (j:Int) (hi:i<xs.length) (hsz:E.size=1:=by rfl) (hj:j=(i:Int):=by rfl) :
  ∃ b o,b<M.next∧b∈ak v∧(∀ (kd:IntKind) (K:AV→Prop),aZ v (N kd j) 1 K=K (.ptr b o))∧∀ x,E.cells xs[i]=[x]→M.cell b o=some x:=by
 obtain⟨b,o,h1,h2,h3,h4⟩:=Sl.at h 1 j hi hsz hj
 exact⟨b,o,h1,h2,h3,fun x hx=>yD h4 (by rw[hx]; rfl)⟩
structure Rw (E:Enc α) (M:RM) (b:Nat) (opn:Bool) (el:Nat) (xs:List α) : Prop where
 heap:M.heap b=some (.row (E.row xs) opn el 0)
 lt:b<M.next
theorem Rw.sl {b el:Nat} {p:Bool} {cap:Cap} (h:Rw E M b p el xs) : Sl E M (.slc b 0 xs.length cap) xs:=by
 refine .slc _ _ _ _ _ h.lt ?_
 rw[RM.ig h.heap (by rw[E.gT]; omega),List.drop_zero,← E.gT,List.take_length]
theorem Rw.keep {b el:Nat} {p:Bool} {bs:List Nat} (h:Rw E M b p el xs) (hk:aa bs M M') (hb:b ∉ bs) : Rw E M' b p el xs :=
 ⟨hk.az h.heap h.lt hb,Nat.lt_of_lt_of_le h.lt hk.next⟩
theorem Rw.new {el:Nat} {p:Bool} (M:RM) (xs:List α) : Rw E (M.push (.row (E.row xs) p el 0)) M.next p el xs :=
 ⟨RM.bI _,by simp[RM.push]⟩
theorem Rw.load {b el:Nat} {p:Bool} (h:Rw E M b p el xs) {i:Nat} (hi:i<xs.length) : M.loads b (i * E.size) E.size=some (E.cells xs[i]):=by
 have hsum:i * E.size + E.size≤xs.length * E.size:=by rw[← Nat.succ_mul]; exact Nat.mul_le_mul_right _ hi
 rw[RM.ig h.heap (by rw[E.gT]; exact hsum),E.Oe hi]
theorem Enc.Vy (E:Enc α) {xs:List α} {i:Nat} (hi:i<xs.length) (x:α) : E.row (xs.set i x)=(E.row xs).take (i * E.size)++E.cells x++(E.row xs).drop (i * E.size + E.size):=by
 rw[E.uG,← Nat.succ_mul,E.tq,List.set_eq_take_append_cons_drop,if_pos hi,E.GZ,E.gJ,List.append_assoc]
theorem Rw.store {b el:Nat} {p:Bool} (h:Rw E M b p el xs) {i:Nat} (hi:i<xs.length) (x:α) :
  M.stores b (i * E.size) (E.cells x)=some (M.put b (.row (E.row (xs.set i x)) p el 0))∧Rw E (M.put b (.row (E.row (xs.set i x)) p el 0)) b p el (xs.set i x):=by
 have hsum:i * E.size + E.size≤xs.length * E.size:=by rw[← Nat.succ_mul]; exact Nat.mul_le_mul_right _ hi
 refine⟨?_,RM.zW _ _,h.lt⟩
 rw[RM.Gg h.heap (by rw[E.len,E.gT]; exact hsum) (Nat.zero_le _) (E.one x),E.Vy hi,E.len]
theorem Rw.ag {b el:Nat} {p:Bool} (h:Rw E M b p el xs) {i:Nat} (hi:i<xs.length) (hsz:E.size=1:=by rfl) {x:AV} (hx:E.cells xs[i]=[x]:=by rfl) : M.cell b i=some x:=by
 have:=h.load hi
 rw[hsz,Nat.mul_one] at this
 exact yD this (by rw[hx]; rfl)
theorem Rw.QZ {b el:Nat} {p:Bool} (h:Rw E M b p el xs) {i:Nat} (hi:i<xs.length) (x:α) (hsz:E.size=1:=by rfl) {u:AV} (hx:E.cells x=[u]:=by rfl) :
  M.stores b i [u]=some (M.put b (.row (E.row (xs.set i x)) p el 0))∧Rw E (M.put b (.row (E.row (xs.set i x)) p el 0)) b p el (xs.set i x):=by
 have:=h.store hi x
 rw[hsz,Nat.mul_one,hx] at this
 exact this
end
@[go_sem] theorem Rs (el:Nat) (s:List UInt8) (K:RB→(Nat→AV)→Prop) : GL el (St s) K=K (.row (BY.row s) true el 0) (fun b=>.slc b 0 s.length (.op 1)):=by
 rw[kG]
 apply propext; unfold GL
 constructor
 ·rintro⟨s',h,hk⟩; cases h; exact hk
 ·intro hk; exact⟨s,rfl,hk⟩
def Zm (b:UInt8) : UInt8:=if 65≤b.toNat∧b.toNat≤90 then b + 32 else b
def low (s:List UInt8) : List UInt8:=s.map Zm
theorem Dj (b:UInt8) : b.toNat<256:=b.toNat_lt
structure oU (n:Nat) (bs:List Nat) (M M' : RM) : Prop where
 base:M'.base=M.base
 next:M.next≤M'.next
 heap:∀ c,c<n→c ∉ bs→M'.heap c=M.heap c
theorem oU.refl (n:Nat) (bs:List Nat) (M:RM) : oU n bs M M:=⟨rfl,Nat.le_refl _,fun _ _ _=>rfl⟩
theorem oU.trans {n:Nat} {bs:List Nat} {M M1 M2:RM} (h:oU n bs M M1) (k:oU n bs M1 M2) : oU n bs M M2 :=
 ⟨k.base.trans h.base,Nat.le_trans h.next k.next,fun c h1 h2=>(k.heap c h1 h2).trans (h.heap c h1 h2)⟩
theorem aa.to {bs cs:List Nat} {n:Nat} {M M' : RM} (h:aa bs M M') (hn:n≤M.next) (hb:∀ b∈bs,n≤b∨b∈cs) : oU n cs M M' :=
 ⟨h.base,h.next,fun c h1 h2=>h.heap c (Nat.lt_of_lt_of_le h1 hn) (fun hm=>by rcases hb c hm with h3 | h3; omega; exact h2 h3)⟩
theorem oU.az {n:Nat} {bs:List Nat} {M M' : RM} (h:oU n bs M M') {b:Nat} {x:RB} (hh:M.heap b=some x) (hlt:b<n) (hb:b ∉ bs) : M'.heap b=some x:=by rw[h.heap b hlt hb,hh]
theorem Own.same {M M' : RM} {n el size n0:Nat} {v:AV} {cs:List AV} (h:Own M n0 el size v cs n) (hn:M'.next=M.next) (hb:∀ c∈ak v,M'.heap c=M.heap c) (hbase:M'.base=M.base) : Own M' n0 el size v cs n:=by
 cases h with
 | nil=>exact .nil
 | ex0 b o h1 h2 h3=>exact .ex0 b o h1 (by omega) (by simpa [RM.Fq,hb b (by simp[ak]),RM.lo,hbase] using h3)
 | op b n cs h1 h2 h3 h4=>exact .op b n cs h1 (by omega) (by rw[hb b (by simp[ak]),h3]) h4
theorem Own.one {M:RM} {n el size n0:Nat} {v:AV} {cs:List AV} (h:Own M n0 el size v cs n) : oneCell v=true:=by
 cases h <;> rfl
def GJ (B:Base) (c:au) : Prop:=∀ {M:RM} {Q:aj},M.base=B→Q (Bo true) M→c [] M Q
theorem Own.cells {M:RM} {n el size n0:Nat} {v:AV} {cs:List AV} (h:Own M n0 el size v cs n) : v.cells=[v]:=by
 cases h <;> rfl
section
variable {P:Program} {ρ:Ren} {M:RM} {w w' : World}
theorem aX.below {base:Base} {A:AW} (h:aX P base ρ A w) (hb:Below w.heap.size w w') (hn:base.n≤w.heap.size) : aX P base ρ A w' where
 dom b i hbi:=⟨(h.dom b i hbi).1,Nat.lt_of_lt_of_le (h.dom b i hbi).2 hb.size⟩
 blk b i x hbi hx:=let ⟨o,ho,hr⟩:=h.blk b i x hbi hx; ⟨o,by rw[hb.block _ (h.dom b i hbi).2]; exact ho,hr⟩
 sep:=h.sep
 top:=h.top
 lo:=h.lo
 inv:=base.low w w' (fun c hc=>hb.block c (Nat.lt_of_lt_of_le hc hn)) h.inv
theorem Step.of_below {base n:Nat} (hb:Below w.heap.size w w') (hn:base≤w.heap.size) : Step base n ρ w ρ w' where
 os:=hb.os
 tape:=hb.tape
 output:=hb.output
 size:=hb.size
 frame c hc _:=hb.block c hc
 ext _ _:=rfl
 fresh b i h:=.inl ⟨b,i,h,rfl⟩
 low c hc:=hb.block c (Nat.lt_of_lt_of_le hc hn)
theorem After.below (h:bn P ρ M w) (hb:Below w.heap.size w w') : After P M ρ w M ρ w':=by
 obtain⟨A,hA⟩:=h
 refine iF hA (Step.of_below hb hA.size) (hA.rel.below hb hA.size) rfl hA.next (Nat.le_refl _) fun b x hx=>?_
 rcases hA.blk b x hx with h | ⟨c,rfl,_⟩
 ·exact .inl h
 ·exact .inr ⟨c,rfl,hx⟩
end
structure oV (α:Type) where
 size:Nat
 rel:RM→List AV→α→(Nat→Prop)→Prop
 len:∀ {M cs a S},rel M cs a S→cs.length=size
 one:∀ {M cs a S},rel M cs a S→cs.all oneCell=true
 mono:∀ {M cs a S S'},rel M cs a S→(∀ b,S b→S' b)→rel M cs a S'
 lt:∀ {M cs a S},rel M cs a S→rel M cs a (fun b=>S b∧b<M.next)
 keep:∀ {M M' cs a S bs},rel M cs a S→aa bs M M'→(∀ b∈bs,¬ S b)→rel M' cs a S
def Enc.Er {α:Type} (E:Enc α) : oV α where
 size:=E.size
 rel _ cs a _:=cs=E.cells a
 len h:=by subst h; exact E.len _
 one h:=by subst h; exact E.one _
 mono h _:=h
 lt h:=h
 keep h _ _:=h
inductive dW {α:Type} (R:oV α) (M:RM) (S:Nat→Prop) : List AV→List α→Prop
 | nil:dW R M S [] []
 | cons {cs ds:List AV} {a:α} {xs:List α} : R.rel M cs a S→dW R M S ds xs→dW R M S (cs++ds) (a :: xs)
section
variable {α:Type} {R:oV α} {M M' : RM} {S S' : Nat→Prop} {cs ds:List AV} {xs ys:List α} {a:α}
theorem dW.len (h:dW R M S cs xs) : cs.length=xs.length * R.size:=by
 induction h with
 | nil=>simp
 | cons h1 _ ih=>rw[List.length_append,R.len h1,ih,List.length_cons,Nat.succ_mul,Nat.add_comm]
theorem dW.one (h:dW R M S cs xs) : cs.all oneCell=true:=by
 induction h with
 | nil=>rfl
 | cons h1 _ ih=>rw[List.all_append,R.one h1,ih]; rfl
theorem dW.mono (h:dW R M S cs xs) (hs:∀ b,S b→S' b) : dW R M S' cs xs:=by
 induction h with
 | nil=>exact .nil
 | cons h1 _ ih=>exact .cons (R.mono h1 hs) ih
theorem dW.lt (h:dW R M S cs xs) : dW R M (fun b=>S b∧b<M.next) cs xs:=by
 induction h with
 | nil=>exact .nil
 | cons h1 _ ih=>exact .cons (R.lt h1) ih
theorem dW.keep {bs:List Nat} (h:dW R M S cs xs) (hk:aa bs M M') (hb:∀ b∈bs,¬ S b) : dW R M' S cs xs:=by
 induction h with
 | nil=>exact .nil
 | cons h1 _ ih=>exact .cons (R.keep h1 hk hb) ih
theorem dW.append (h:dW R M S cs xs) (k:dW R M S ds ys) : dW R M S (cs++ds) (xs++ys):=by
 induction h with
 | nil=>exact k
 | cons h1 _ ih=>rw[List.append_assoc]; exact .cons h1 ih
theorem dW.single (h:R.rel M cs a S) : dW R M S cs [a]:=by
 have:=dW.cons h .nil
 simpa using this
theorem dW.get (h:dW R M S cs xs) : ∀ {i:Nat} (hi:i<xs.length),R.rel M ((cs.drop (i * R.size)).take R.size) xs[i] S:=by
 induction h with
 | nil=>intro i hi; simp at hi
 | cons h1 h2 ih =>
   rename_i c1 d1 a1 x1
   intro i hi
   cases i with
   | zero =>
     rw[Nat.zero_mul,List.drop_zero,List.take_append_of_le_length (by rw[R.len h1]; exact Nat.le_refl _),List.take_of_length_le (by rw[R.len h1]; exact Nat.le_refl _)]
     exact h1
   | succ i =>
     rw[Nat.succ_mul,Nat.add_comm,← List.drop_drop,List.drop_left' (R.len h1)]
     exact ih (by simpa using hi)
theorem dW.take (h:dW R M S cs xs) : ∀ (k:Nat),dW R M S (cs.take (k * R.size)) (xs.take k):=by
 induction h with
 | nil=>intro k; simp; exact .nil
 | cons h1 h2 ih =>
   intro k
   cases k with
   | zero=>simp; exact .nil
   | succ k =>
     rw[Nat.succ_mul,Nat.add_comm,List.take_append,List.take_of_length_le (by rw[R.len h1]; omega),R.len h1,Nat.add_sub_cancel_left]
     exact .cons h1 (ih k)
theorem dW.drop (h:dW R M S cs xs) : ∀ (k:Nat),dW R M S (cs.drop (k * R.size)) (xs.drop k):=by
 induction h with
 | nil=>intro k; simp; exact .nil
 | cons h1 h2 ih =>
   intro k
   cases k with
   | zero=>simp; exact .cons h1 h2
   | succ k =>
     rw[Nat.succ_mul,Nat.add_comm,← List.drop_drop,List.drop_left' (R.len h1)]
     exact ih k
theorem dW.cells {E:Enc α} : ∀ {cs:List AV} {xs:List α},dW E.Er M S cs xs→cs=E.row xs
 | _,_,.nil=>rfl
 | _,_,.cons h1 h2=>by rw[Enc.gJ,dW.cells h2]; rw[show _=_ from h1]
def jI (R:oV α) (M:RM) (v:AV) (xs:List α) (S:Nat→Prop) : Prop :=
 ∃ cs,aK M R.size v cs xs.length∧(∀ b∈ak v,S b)∧dW R M S cs xs
theorem aK.lt {size n:Nat} {v:AV} (h:aK M size v cs n) : ∀ b∈ak v,b<M.next:=by
 cases h with
 | nil=>intro b hb; simp[ak] at hb
 | emp=>intro b hb; simp[ak] at hb
 | slc b o n cap cs hb _=>intro c hc; simp[ak] at hc; omega
theorem aK.one {size n:Nat} {v:AV} (h:aK M size v cs n) : oneCell v=true:=by
 cases h <;> rfl
theorem aK.cells {size n:Nat} {v:AV} (h:aK M size v cs n) : v.cells=[v]:=by
 cases h <;> rfl
variable {v:AV}
theorem jI.mono (h:jI R M v xs S) (hs:∀ b,S b→S' b) : jI R M v xs S':=let ⟨cs,h1,h2,h3⟩:=h; ⟨cs,h1,fun b hb=>hs b (h2 b hb),h3.mono hs⟩
theorem jI.lt (h:jI R M v xs S) : jI R M v xs (fun b=>S b∧b<M.next):=let ⟨cs,h1,h2,h3⟩:=h; ⟨cs,h1,fun b hb=>⟨h2 b hb,h1.lt b hb⟩,h3.lt⟩
theorem jI.keep {bs:List Nat} (h:jI R M v xs S) (hk:aa bs M M') (hb:∀ b∈bs,¬ S b) : jI R M' v xs S :=
 let ⟨cs,h1,h2,h3⟩:=h; ⟨cs,h1.keep hk (fun b hv hbs=>hb b hbs (h2 b hv)),h2,h3.keep hk hb⟩
theorem jI.len (h:jI R M v xs S) {K:AV→Prop} : bA v K=K (N .i64 xs.length):=let ⟨cs,h1,_,_⟩:=h; h1.len
theorem jI.one (h:jI R M v xs S) : oneCell v=true:=let ⟨cs,h1,_,_⟩:=h; h1.one
theorem jI.cells (h:jI R M v xs S) : v.cells=[v]:=let ⟨cs,h1,_,_⟩:=h; h1.cells
theorem jI.nil:jI R M bQ [] S:=⟨[],.nil,by simp[ak],.nil⟩
theorem jI.sl {E:Enc α} (h:jI E.Er M v xs S) : Sl E M v xs:=by
 obtain⟨cs,h1,h2,h3⟩:=h
 rw[h3.cells] at h1
 exact h1
theorem jI.at (h:jI R M v xs S) {i:Nat} (sz:Nat) (j:Int) (hi:i<xs.length) (hsz:R.size=sz:=by rfl) (hj:j=(i:Int):=by rfl) :
  ∃ b o cs,b<M.next∧b∈ak v∧(∀ (kd:IntKind) (K:AV→Prop),aZ v (N kd j) sz K=K (.ptr b o))∧M.loads b o sz=some cs∧R.rel M cs xs[i] S:=by
 subst hsz hj
 obtain⟨cs,h1,h2,h3⟩:=h
 obtain⟨b,o,cap,rfl,hb,hl⟩:=h1.pos (by omega)
 have hsum:i * R.size + R.size≤xs.length * R.size:=by rw[← Nat.succ_mul]; exact Nat.mul_le_mul_right _ hi
 refine⟨b,o + i * R.size,(cs.drop (i * R.size)).take R.size,hb,by simp[ak],fun kd K=>?_, ?_,h3.get hi⟩
 ·rw[uC]
  simp only[Int.toNat_natCast]
  exact propext ⟨fun h=>h.2.2,fun h=>⟨by omega,by omega,h⟩⟩
 ·rw[nS hl (i * R.size) R.size hsum]
def oV.slice (R:oV α) : oV (List α) where
 size:=1
 rel M cs xs S:=∃ v,cs=[v]∧jI R M v xs S
 len h:=by obtain⟨v,rfl,_⟩:=h; rfl
 one h:=by obtain⟨v,rfl,h⟩:=h; simp[h.one]
 mono h hs:=by obtain⟨v,rfl,h⟩:=h; exact⟨v,rfl,h.mono hs⟩
 lt h:=by obtain⟨v,rfl,h⟩:=h; exact⟨v,rfl,h.lt⟩
 keep h hk hb:=by obtain⟨v,rfl,h⟩:=h; exact⟨v,rfl,h.keep hk hb⟩
def gU (R:oV α) (M:RM) (base el:Nat) (v:AV) (xs:List α) (S:Nat→Prop) : Prop :=
 ∃ cs,Own M base el R.size v cs xs.length∧dW R M S cs xs
theorem gU.nil {base el:Nat} : gU R M base el bQ [] S:=⟨[],.nil,.nil⟩
theorem gU.mono {base el:Nat} (h:gU R M base el v xs S) (hs:∀ b,S b→S' b) : gU R M base el v xs S':=let ⟨cs,h1,h2⟩:=h; ⟨cs,h1,h2.mono hs⟩
theorem gU.lt {base el:Nat} (h:gU R M base el v xs S) : gU R M base el v xs (fun b=>S b∧b<M.next):=let ⟨cs,h1,h2⟩:=h; ⟨cs,h1,h2.lt⟩
theorem gU.keep {base el:Nat} {bs:List Nat} (h:gU R M base el v xs S) (hk:aa bs M M') (hb:∀ b∈bs,¬ S b) (hv:∀ b∈ak v,b ∉ bs) : gU R M' base el v xs S :=
 let ⟨cs,h1,h2⟩:=h; ⟨cs,h1.keep hk hv,h2.keep hk hb⟩
theorem gU.len {base el:Nat} (h:gU R M base el v xs S) {K:AV→Prop} : bA v K=K (N .i64 xs.length):=let ⟨cs,h1,_⟩:=h; h1.kY.len
theorem gU.blk {base el:Nat} (h:gU R M base el v xs S) : ∀ b∈ak v,base≤b∧b<M.next:=let ⟨cs,h1,_⟩:=h; h1.blk
theorem gU.Q9 {base el:Nat} (h:gU R M base el v xs S) (hs:∀ b,base≤b→b<M.next→S b) : jI R M v xs S :=
 let ⟨cs,h1,h2⟩:=h; ⟨cs,h1.kY,fun b hb=>hs b (h1.blk b hb).1 (h1.blk b hb).2,h2⟩
theorem gU.cells {base el:Nat} (h:gU R M base el v xs S) : v.cells=[v]:=let ⟨cs,h1,_⟩:=h; h1.cells
theorem gU.one {base el:Nat} (h:gU R M base el v xs S) : oneCell v=true:=let ⟨cs,h1,_⟩:=h; h1.one
theorem gU.app {base T bytes:Nat} {zs:List AV} {K:aj} (ho:gU R M base T v xs S) (ha:R.rel M cs a S) (hb:base≤M.next) (hs:1≤R.size)
  (hd:∀ b∈ak v,¬ S b) (hS:∀ b,S b→b<M.next)
  (hn:(xs.length + 1) * bytes≤140737488355328) (hn2:xs.length + 1≤140737488355328)
  (hK:∀ v' M',gU R M' base T v' (xs++[a]) S→aa (ak v) M M'→M.next≤M'.next→(v'=v∨∀ b∈ak v',M.next≤b)→(∀ b∈ak v',¬ S b)→K v' M') :
  appW T R.size bytes zs false v (.slc M.next 0 1 (.ex 1)) (M.push (.row cs false T 0)) K:=by
 obtain⟨ds,h1,h2⟩:=ho
 have hk:aa [] M (M.push (.row cs false T 0)):=(aa.refl _ _).push _
 have hl:=R.len ha
 have hnl:mE (M.push (.row cs false T 0)) R.size zs false (.slc M.next 0 1 (.ex 1))=some (1,cs):=by
  simp only[mE,Nat.one_mul]
  rw[RM.ig (RM.bI _) (by omega),List.drop_zero,← hl,List.take_length]
 refine sO (h1.keep hk (by simp)) (Nat.le_trans hb hk.next) hs hnl (by rw[hl,Nat.one_mul]) (R.one ha) hn hn2 ?_
 intro v' M' q1 q2 q3 q4
 have kk:aa (ak v) M M':=(hk.mono (by simp)).trans q2
 refine hK v' M' ⟨_,by simpa using q1, ?_⟩ kk (Nat.le_trans hk.next q3) (q4.imp id fun h b hb=>Nat.le_trans hk.next (h b hb)) ?_
 ·exact(h2.keep kk hd).append (dW.single (R.keep ha kk hd))
 ·rcases q4 with rfl | q4
  ·exact hd
  ·intro b hb hSb
   have:=q4 b hb
   have:=hS b hSb
   simp only[RM.push] at *
   omega
end
section
variable {M M' : RM} {b i n e f:Nat} {l:List AV} {p:Bool} {x:AV}
theorem aH {K:AV→Prop} (h:M.heap b=some (.row l p e f)) (hx:l[i]?=some x) : ag M (.ptr b i) K=K x:=by
 rw[fJ,RM.cell_of h,hx]; simp
theorem dX {K:AV→Prop} (h:M.heap b=some (.row l p e f)) (hn:l.length=n) : dK M (.ptr b 0) n K=K (.agg l):=by
 rw[BZ,RM.Mt h]
 have:tH (some l) 0 n=some l:=by simp[tH,← hn]
 rw[this]; simp
theorem Cn {K:RM→Prop} (h:M.heap b=some (.row l p e 0)) (hi:i<l.length) (hc:x.cells=[x]) (h1:oneCell x=true) : aU M (.ptr b i) x 1 K=K (M.put b (.row (l.set i x) p e 0)):=by
 rw[Hg,hc,RM.Je h,Cf (by simp only[List.length_cons,List.length_nil]; omega) (Nat.zero_le _) (by simp[h1])]
 have:l.take i++[x]++l.drop (i + 1)=l.set i x:=by
  rw[List.set_eq_take_append_cons_drop,if_pos hi]; simp
 simp[this]
theorem gB {K:RM→Prop} (l' : List AV) (h:M.heap b=some (.row l p e 0)) (hi:i<l.length) (hc:x.cells=[x]) (h1:oneCell x=true) (hl:l.set i x=l') : aU M (.ptr b i) x 1 K=K (M.put b (.row l' p e 0)):=by
 rw[Cn h hi hc h1,hl]
theorem wC {K:AV→Prop} : fe (.ptr b 0) n K=K (.ptr b n):=by rw[iW,Nat.zero_add]
theorem Qf {K:RM→Prop} (h:M.heap b=some (.row l p e 0)) (hn:x.cells.length=n) (hl:l.length=n) (h1:x.cells.all oneCell=true) : aU M (.ptr b 0) x n K=K (M.put b (.row x.cells p e 0)):=by
 rw[Hg,RM.Je h,JN (by rw[hn,hl]) h1]
 simp[hn]
theorem vS {c:Nat} {y z:RB} (h:M.heap b=some y) (hb:b≠c) : (M.put c z).heap b=some y:=by
 simp only[RM.put]; rw[if_neg hb]; exact h
theorem aG (y:RB) : (M.put b y).heap b=some y:=RM.zW _ _
theorem tJ {y z:RB} (h:M.heap b=some y) (hb:b<M.next) : (M.push z).heap b=some y:=by
 simp only[RM.push]; rw[if_neg (by omega)]; exact h
theorem dO (y:RB) : (M.push y).next=M.next + 1:=rfl
theorem Ag (c:Nat) (y:RB) : (M.put c y).next=M.next:=rfl
theorem aa.new {bs:List Nat} (h:aa bs M M') {b:Nat} (y:RB) (hb:M.next≤b) : aa bs M (M'.put b y):=h.put y (.inl hb)
end
variable {M:RM}
theorem bZ {a:AV} {l:List AV} {K:AV→Prop} : bz (.tup (a :: l)) 0 K=K a:=by rw[yR]; simp
theorem dG {a b:AV} {l:List AV} {K:AV→Prop} : bz (.tup (a :: b :: l)) 1 K=K b:=by rw[yR]; simp
theorem iI {a b c:AV} {l:List AV} {K:AV→Prop} : bz (.tup (a :: b :: c :: l)) 2 K=K c:=by rw[yR]; simp
theorem U9 {a b c d:AV} {l:List AV} {K:AV→Prop} : bz (.tup (a :: b :: c :: d :: l)) 3 K=K d:=by rw[yR]; simp
theorem gF {p q:Prop} : aA (Bo true) p q=p:=by simp[LB]
theorem fM {p q:Prop} : aA (Bo false) p q=q:=by simp[LB]
theorem aS {b:Bool} {p q:Prop} (h1:b=true→p) (h2:b=false→q) : aA (Bo b) p q:=⟨h1,h2⟩
theorem dN {f g:aj→Prop} {k:aj} : ay (Bo true) true f g k=f k:=rfl
theorem bP {f g:aj→Prop} {k:aj} : ay (Bo false) false f g k=f k:=rfl
theorem gD {f g:aj→Prop} {k:aj} : ay (Bo true) false f g k=g k:=rfl
theorem lK {f g:aj→Prop} {k:aj} : ay (Bo false) true f g k=g k:=rfl
theorem dM {f g:KR→Prop} {k:KR} : aD (Bo true) true f g k=f k:=rfl
theorem qM {f g:KR→Prop} {k:KR} : aD (Bo false) false f g k=f k:=rfl
theorem RU {f g:KR→Prop} {k:KR} : aD (Bo true) false f g k=g k:=rfl
theorem KF {w:Bool} {f g:aj→Prop} {k:aj} : ay .undef w f g k=g k:=rfl
theorem dF {a b:AV} {K:AV→Prop} : aY (Bo true) a b K=K a:=by rw[MI]; rfl
theorem fw {a b:AV} {K:AV→Prop} : aY (Bo false) a b K=K b:=by rw[MI]; rfl
theorem aK.known {size:Nat} {v:AV} {cs:List AV} {n:Nat} (h:aK M size v cs n) : known v=true:=by
 cases h <;> rfl
theorem jI.known {α:Type} {R:oV α} {v:AV} {xs:List α} {S:Nat→Prop} (h:jI R M v xs S) : known v=true:=let ⟨_,h1,_,_⟩:=h; h1.known
theorem lI {t:TypeId} {cs:List AV} {K:RB→(Nat→AV)→Prop} (h1:cs.all oneCell=true) (h2:1≤cs.length) : lL t (.agg cs) K=K (.row cs false t 0) (fun b=>.ptr b 0):=by
 unfold lL
 exact propext ⟨fun h=>h.2.2,fun h=>⟨h1,h2,h⟩⟩
def oV.pre {α β:Type} (E:Enc α) (R:oV β) : oV (α × β) where
 size:=E.size + R.size
 rel M cs a S:=∃ ds,cs=E.cells a.1++ds∧R.rel M ds a.2 S
 len h:=by obtain⟨ds,rfl,h⟩:=h; rw[List.length_append,E.len,R.len h]
 one h:=by obtain⟨ds,rfl,h⟩:=h; rw[List.all_append,E.one,R.one h]; rfl
 mono h hs:=by obtain⟨ds,rfl,h⟩:=h; exact⟨ds,rfl,R.mono h hs⟩
 lt h:=by obtain⟨ds,rfl,h⟩:=h; exact⟨ds,rfl,R.lt h⟩
 keep h hk hb:=by obtain⟨ds,rfl,h⟩:=h; exact⟨ds,rfl,R.keep h hk hb⟩
def oV.post {α β:Type} (R:oV α) (E:Enc β) : oV (α × β) where
 size:=R.size + E.size
 rel M cs a S:=∃ ds,cs=ds++E.cells a.2∧R.rel M ds a.1 S
 len h:=by obtain⟨ds,rfl,h⟩:=h; rw[List.length_append,E.len,R.len h]
 one h:=by obtain⟨ds,rfl,h⟩:=h; rw[List.all_append,E.one,R.one h]; rfl
 mono h hs:=by obtain⟨ds,rfl,h⟩:=h; exact⟨ds,rfl,R.mono h hs⟩
 lt h:=by obtain⟨ds,rfl,h⟩:=h; exact⟨ds,rfl,R.lt h⟩
 keep h hk hb:=by obtain⟨ds,rfl,h⟩:=h; exact⟨ds,rfl,R.keep h hk hb⟩
def oV.map {α β:Type} (R:oV α) (g:β→α) : oV β where
 size:=R.size
 rel M cs a S:=R.rel M cs (g a) S
 len h:=R.len h
 one h:=R.one h
 mono h hs:=R.mono h hs
 lt h:=R.lt h
 keep h hk hb:=R.keep h hk hb
end Go.Ab
namespace Go.Ab
open Go Go.RowKit Go.ChangeShapes
section
variable {H:Type} {enc:TypeId × Value→H} {P:Program} {w:World} {base:Nat} {spare:Nat→Bool} {held:Bool}
end
end Go.Ab
set_option maxRecDepth 10000
namespace Go.Ab
open Go Go.ChangeShapes
end Go.Ab
namespace Go.Ab
open Go Go.RowKit
section
variable {P:Program} {f:FuncId} {fn:Func} {w w' : World} {M:RM}
end
end Go.Ab
namespace Go.Ab.Sm
open Go Go.Ab
section
variable {i j:Nat} {K:AV→Prop}
theorem addN (h:i + j<4611686018427387904) : ae .add (N .i64 (i:Int)) (N .i64 (j:Int)) K=K (N .i64 ((i + j:Nat) : Int)):=by
 rw[bi,aL (by omega) (by omega),Int.natCast_add]
theorem add1 (h:i<4611686018427387904) : ae .add (N .i64 (i:Int)) (N .i64 1) K=K (N .i64 ((i + 1:Nat) : Int)):=by
 rw[bi,lH (by omega)]
theorem O1 (h:j≤i) (hb:i<4611686018427387904) : ae .sub (N .i64 (i:Int)) (N .i64 (j:Int)) K=K (N .i64 ((i - j:Nat) : Int)):=by
 rw[gq,aL (by omega) (by omega),show(i:Int) - (j:Int)=((i - j:Nat) : Int) by omega]
theorem jQ:ae .lss (N .i64 (i:Int)) (N .i64 (j:Int)) K=K (Bo (decide (i<j))):=by rw[gN,show decide ((i:Int)<(j:Int))=decide (i<j) by simp]
theorem Si:ae .gtr (N .i64 (i:Int)) (N .i64 (j:Int)) K=K (Bo (decide (i > j))):=by rw[gu,show decide ((i:Int) > (j:Int))=decide (i > j) by simp]
theorem Z8:ae .leq (N .i64 (i:Int)) (N .i64 (j:Int)) K=K (Bo (decide (i≤j))):=by rw[EU,show decide ((i:Int)≤(j:Int))=decide (i≤j) by simp]
theorem ZP:ae .eql (N .i64 (i:Int)) (N .i64 (j:Int)) K=K (Bo (decide (i=j))):=by
 rw[bK,show((i:Int) == (j:Int))=decide (i=j) by by_cases h:i=j <;> simp[h]; omega]
end
section
variable {M:RM} {c p:Bool} {f:aj→Prop} {P:RM→Prop} {G:AV→RM→Prop}
theorem UL (hf:c=true→∀ k:aj,k (Bo p) M→f k) (hG:G (Bo (c && p)) M) :
  ay (Bo c) true f (fun k=>k .undef M) (fun t M'=>aY (Bo c) t (Bo false) fun u=>G u M'):=by
 cases c with
 | false=>rw[lK]; dsimp only; rw[fw]; exact hG
 | true=>rw[dN]; exact hf rfl _ (by rw[dF]; exact hG)
theorem aax (hf:c=false→∀ k:aj,k (Bo p) M→f k) (hG:G (Bo (c || p)) M) :
  ay (Bo c) false f (fun k=>k .undef M) (fun t M'=>aY (Bo c) (Bo true) t fun u=>G u M'):=by
 cases c with
 | true=>rw[gD]; dsimp only; rw[dF]; exact hG
 | false=>rw[bP]; exact hf rfl _ (by rw[fw]; exact hG)
end
section
variable {M:RM} {c p:Bool} {f:KR→Prop} {G:AV→RM→Prop}
end
end Go.Ab.Sm
namespace Go.Ab
open Go Go.RowKit
inductive jH (B:Nat) (P:Program) (M:RM) : TypeId→List AV→Prop
 | bool (t:TypeId) (b:Bool) : P.underlying t=some .bool→jH B P M t [Bo b]
 | int (t:TypeId) (k:IntKind) (n:Int) : P.underlying t=some (.int k)→k.min≤n→n≤k.max→jH B P M t [N k n]
 | str (t:TypeId) (s:List UInt8) : P.underlying t=some .string→s.length≤B→jH B P M t [St s]
 | OP (t e:TypeId) : P.underlying t=some (.slice e)→jH B P M t [bQ]
 | emp (t e:TypeId) (b:Nat) : P.underlying t=some (.slice e)→jH B P M t [.emp b]
 | slc (t e:TypeId) (b o n c:Nat) (cs:List AV) : P.underlying t=some (.slice e)→b<M.next→n≤c→n≤B→M.loads b o (n * P.cellsOf e)=some cs →
   (∀ i,i<n→jH B P M e ((cs.drop (i * P.cellsOf e)).take (P.cellsOf e)))→jH B P M t [.slc b o n (.ex c)]
 | struct (t:TypeId) (fs:Array Field) (cs:List AV) : P.underlying t=some (.struct fs)→cs.length=P.cellsOf t →
   (∀ (i:Nat) (f:Field),fs[i]?=some f→jH B P M f.type ((cs.drop f.offset).take (P.cellsOf f.type)))→jH B P M t cs
 | array (t e:TypeId) (n:Nat) (cs:List AV) : P.underlying t=some (.array n e)→cs.length=P.cellsOf t →
   (∀ i,i<n→jH B P M e ((cs.drop (i * P.cellsOf e)).take (P.cellsOf e)))→jH B P M t cs
 | other (t:TypeId) (cs:List AV) : CW (P.underlying t)=true→jH B P M t cs
 | zero (t e:TypeId) (cs:List AV) : P.underlying t=some (.slice e)→P.cellsOf e=0→jH B P M t cs
section
variable {H:Type} {enc:TypeId × Value→H} {P:Program} {base:Base} {w:World}
variable {bulk:DataW H→Nat} {B:Nat}
structure abf (bulk:DataW H→Nat) : Prop where
 str:∀ bs:List UInt8,bs.length≤bulk (.lit (.string bs))
 len:∀ es sp:List (DataW H),es.length≤bulk (.slice es sp)
 elem:∀ (es sp:List (DataW H)) d,d∈es→bulk d≤bulk (.slice es sp)
 spare:∀ (es sp:List (DataW H)) d,d∈sp→bulk d≤bulk (.slice es sp)
 agg:∀ (ps:List (DataW H)) d,d∈ps→bulk d≤bulk (.agg ps)
end
section
variable {P:Program} {M:RM} {t:TypeId} {cs:List AV} {B:Nat}
def Bt:AV→Prop
 | .slc _ _ n (.ex c)=>n≤c
 | .slc _ _ _ (.op e)=>e=1
 | _=>True
end
def MG (B:Nat) (P:Program) (M:RM) (t:TypeId) (v:AV) : Prop :=
 match CG P t with
 | true=>∃ cs,v=.agg cs∧jH B P M t cs
 | false=>jH B P M t [v]
theorem MG.one {B:Nat} {P:Program} {M:RM} {t:TypeId} {v:AV} (h:MG B P M t v) (ha:CG P t=false) : jH B P M t [v]:=by
 unfold MG at h; rw[ha] at h; exact h
section
variable {H:Type} {enc:TypeId × Value→H} {P:Program} {base:Base} {w:World} {bulk:DataW H→Nat} {B:Nat}
end
section
variable {P:Program} {ρ:Ren} {M:RM} {w w' : World}
theorem QB {base:Base} {A:AW} (hw0:aX P base ρ A w) (hbl:Below w.heap.size w w') (hbase:base≤w.heap.size) {x:dm} {ob:Obj} {i:eu} (hge:w.heap.size≤i.cb) (hob:w'.heap[i.cb]?=some ob)
  (hrel:fH P (ρ.add A.next i) i x ob) : aX P base (ρ.add A.next i) (A.push x) w'∧Step base A.next ρ w (ρ.add A.next i) w':=by
 have hb:ρ A.next=none:=hw0.fresh (Nat.le_refl _)
 have hw:=qo hw0 x
 have hx:(A.push x).heap.get A.next=some x:=by simp[AW.push,Tree.aT]
 have hlt:A.next<(A.push x).next:=by simp[AW.push]
 have hle:=Ren.mM (i:=i) hb
 have hadd:∀ c j,ρ.add A.next i c=some j→(c=A.next∧j=i)∨(c≠A.next∧ρ c=some j):=by
  intro c j h
  unfold Ren.add at h
  split at h
  ·cases h; exact .inl ⟨‹_›,rfl⟩
  ·exact .inr ⟨‹_›,h⟩
 have hcb:i.cb<w'.heap.size:=(Array.getElem?_eq_some_iff.1 hob).1
 refine⟨⟨?_, ?_, ?_,hw.top, ?_,base.low w _ (fun c hc=>hbl.block c (by omega)) hw.inv⟩,⟨hbl.os,hbl.tape,hbl.output,hbl.size, ?_, ?_, ?_,fun c hc=>hbl.block c (by omega)⟩⟩
 ·intro c j h
  rcases hadd c j h with⟨rfl,rfl⟩ | ⟨_,h⟩
  ·exact⟨hlt,hcb⟩
  ·have:=hw.dom c j h; have:=hbl.size; omega
 ·intro c j y h hy
  rcases hadd c j h with⟨rfl,rfl⟩ | ⟨_,h⟩
  ·rw[hx] at hy; cases hy
   exact⟨ob,hob,hrel⟩
  ·obtain⟨o,ho,hr⟩:=hw.blk c j y h hy
   exact⟨o,by rw[hbl.block j.cb (hw.dom c j h).2]; exact ho,hr.mono hle⟩
 ·intro b1 b2 i1 i2 x1 x2 h1 h2 g1 g2 he
  rcases hadd _ _ h1 with⟨e1,f1⟩ | ⟨_,k1⟩ <;> rcases hadd _ _ h2 with⟨e2,f2⟩ | ⟨_,k2⟩
  ·rw[e1,e2]
  ·have:=(hw.dom _ _ k2).2; subst f1; omega
  ·have:=(hw.dom _ _ k1).2; subst f2; omega
  ·exact hw.sep _ _ _ _ _ _ k1 k2 g1 g2 he
 ·intro c j y h hy
  rcases hadd c j h with⟨rfl,rfl⟩ | ⟨_,h⟩
  ·omega
  ·exact hw.lo c j y h hy
 ·intro c hc _; exact hbl.block c hc
 ·intro c hc; unfold Ren.add; rw[if_neg (by omega)]
 ·intro c j h
  rcases hadd c j h with⟨rfl,rfl⟩ | ⟨_,h⟩
  ·exact .inr hge
  ·exact .inl ⟨c,j,h,rfl⟩
theorem gy.XE {f:FuncId} {args:List AV} {T n:Nat} {cs:List AV} {Q:aj} (hP:IV P f) (hsz:aV P T=some 1) (h1:cs.all oneCell=true) (hlen:cs.length=n)
  (h:∀ (ρ:Ren) (w:World) (us:List Value),aJ ρ args us→bn P ρ M w→Calls P f ⟨us⟩ w fun e w'=>∃ v xs,e=.returned v∧w'.ownsRow w.heap.size T 1 v n xs∧(∀ ρ',aJ ρ' cs xs)∧Below w.heap.size w w')
  (hQ:∀ v M',Own M' M.next T 1 v cs n→aa [] M M'→Q v M') : gy P f args M Q:=by
 refine⟨hP,fun ρ w us hargs hw=>(h ρ w us hargs hw).mono fun e w' hR=>?_⟩
 obtain⟨v,xs,rfl,⟨hxl,hrow⟩,hrel,hbl⟩:=hR
 rcases hrow with⟨rfl,h0⟩ | ⟨g,cap,cur,rfl,hge,hg,r1,r2,r3,r4⟩
 ·have:cs=[]:=List.length_eq_zero_iff.1 (by omega)
  subst this
  have hn:n=0:=h0
  subst hn
  exact⟨_,bQ,M,ρ,rfl,After.below hw hbl,.sc _ rfl,hQ _ _ .nil (aa.refl _ _)⟩
 ·obtain⟨A,hA⟩:=hw
  obtain⟨tr,htr⟩:=jq cs .leaf 0 h1
  obtain⟨_,hget⟩:=ed _ _ _ htr
  obtain⟨_,hcell⟩:=wX htr
  have hblk:fH P (ρ.add A.next ⟨g,0,cap,1⟩) ⟨g,0,cap,1⟩ (.row n tr [] true T 0) (.cells cur T (0,0)):=by
   refine⟨cur,(0,0),rfl,⟨by show 0 + n≤_; omega,fun k x hx=>?_,fun k _ _=>by simp,fun h=>(by cases h),fun _=>⟨Nat.one_pos,by show cur.size=0 + cap * 1; omega,hsz⟩,rfl⟩⟩
   obtain⟨hk1,hk2⟩:=gM hx
   rw[hget,if_pos (by omega),Nat.sub_zero] at hk2
   obtain⟨v,hv,hvr⟩:=(hrel (ρ.add A.next ⟨g,0,cap,1⟩)).get hk2
   refine⟨v, ?_,hvr⟩
   show cur[0 + k]?=some v
   rw[Nat.zero_add,← Array.getElem?_toList]
   rw[← r4,Nat.mul_one,List.getElem?_take_of_lt (by omega)] at hv
   exact hv
  obtain⟨q1,q2⟩:=QB hA.rel hbl (Nat.le_trans (show M.base.n≤M.lo from Nat.le_refl _) hA.size) (i:=⟨g,0,cap,1⟩) hge hg hblk
  obtain⟨k1,k2,k3⟩:=RM.xU hA (x:=.row cs true T 0) (y:=.row n tr [] true T 0) ⟨hlen,rfl,rfl,rfl,fun k v hk=>by rw[← hlen]; exact hcell k v hk⟩
  have hnx:=hA.next
  refine⟨_,.slc M.next 0 n (.op 1),M.push (.row cs true T 0),_,rfl,iF hA q2 q1 k1 k2 (by simp[AW.push]) k3, ?_,hQ _ _ (.op M.next n cs (Nat.le_refl _) (by simp[RM.push]) (RM.bI _) (by omega)) ((aa.refl _ _).push _)⟩
  have:=af.iE (ρ:=ρ.add A.next ⟨g,0,cap,1⟩) M.next 0 n ⟨g,0,cap,1⟩ (by rw[← hnx]; simp[Ren.add]) (by show 0 + n≤cap; omega)
  simpa using this
end
end Go.Ab
namespace Go.Ab.Sha
open Go Go.Ab
abbrev Str:=List UInt8
structure Bs (M:RM) (v:AV) (b:Str) : Prop where
 sl:Sl BY M v b
 cap:Bt v
theorem Bs.keep {M M' : RM} {v:AV} {b:Str} {bs:List Nat} (h:Bs M v b) (k:aa bs M M') (hb:∀ x∈ak v,x ∉ bs) : Bs M' v b:=⟨aK.keep h.sl k hb,h.cap⟩
theorem Bs.len {M:RM} {v:AV} {b:Str} (h:Bs M v b) {K:AV→Prop} : bA v K=K (N .i64 (b.length:Int)):=aK.len h.sl
theorem Bs.str {M:RM} {v:AV} {b:Str} (h:Bs M v b) {K:AV→Prop} : eD M v K=K (St b):=Sl.str h.sl
theorem NT {M:RM} {base T n:Nat} {v:AV} {cs:List AV} (h:Own M base T 1 v cs n) : Bt v:=by
 cases h with
 | nil=>trivial
 | ex0 b o _ _ _=>exact Nat.le_refl _
 | op b n cs _ _ _ _=>rfl
theorem Bs.own {M:RM} {base T:Nat} {v:AV} {b:Str} (h:Ow BY M base T v b) : Bs M v b:=⟨Own.kY h,NT h⟩
theorem yK {M:RM} {b o n:Nat} {x:Str} (h:M.loads b o (n * 1)=some (BY.row x)) {l u:Nat} (h1:l≤u) (h2:u≤n) : M.loads b (o + l * 1) ((u - l) * 1)=some (BY.row ((x.drop l).take (u - l))):=by
 have:=nS h (l * 1) ((u - l) * 1) (by omega)
 rw[this]
 congr 1
 have e1:=BY.tq x l
 have e2:=BY.uG (x.drop l) (u - l)
 rw[show l * 1=l * BY.size from rfl,e1,show(u - l) * 1=(u - l) * BY.size from rfl,e2]
theorem Bs.sub {M:RM} {v:AV} {b:Str} (h:Bs M v b) {lo hi:Option AV} {l u:Nat} (e1:bnd 0 lo=some l) (e2:bnd b.length hi=some u) (h1:l≤u) (h2:u≤b.length) {K:AV→Prop}
  (hK:∀ v',Bs M v' ((b.drop l).take (u - l))→(∀ x∈ak v',x∈ak v)→K v') : iN (dz 1 v lo hi none) K:=by
 obtain⟨hs,hc⟩:=h
 have hlen:((b.drop l).take (u - l)).length=u - l:=by simp; omega
 have zero:u=l→∀ {w:AV},aK M 1 w [] 0→Sl BY M w ((b.drop l).take (u - l)):=by
  intro e w hw
  subst e
  rw[Nat.sub_self,List.take_zero]
  exact hw
 unfold Sl at hs
 generalize hn:b.length=n at *
 generalize hcs:BY.row b=cs at *
 cases hs with
 | nil =>
   have l0:l=0:=by omega
   have u0:u=0:=by omega
   subst l0 u0
   exact⟨bQ,by simp only[dz,bQ,e1,e2],hK _ ⟨zero rfl .nil,trivial⟩ (fun x hx=>hx)⟩
 | emp b0 =>
   have l0:l=0:=by omega
   have u0:u=0:=by omega
   subst l0 u0
   exact⟨.emp b0,by simp only[dz,e1,e2],hK _ ⟨zero rfl (.emp _),trivial⟩ (fun x hx=>hx)⟩
 | slc b0 o _ cap cs hb hl =>
   subst hcs
   have hl':=yK hl h1 h2
   have whole:∀ cap',Bt (.slc b0 (o + l * 1) (u - l) cap')→(Bs M (.slc b0 (o + l * 1) (u - l) cap') ((b.drop l).take (u - l))):=fun cap' hcap=>⟨by
    unfold Sl; rw[hlen]; exact .slc _ _ _ _ _ hb hl',hcap⟩
   cases cap with
   | ex c =>
     have hcn:n≤c:=hc
     by_cases e:c=l
     ·subst e
      have hu:u=c:=by omega
      subst hu
      refine⟨.slc b0 o 0 (.ex 0),by simp only[dz,e1,e2]; rw[if_pos ⟨Nat.le_refl _,Nat.le_refl _⟩]; simp,hK _ ⟨zero rfl (.slc _ _ _ _ _ hb ?_),Nat.le_refl _⟩ (fun x hx=>hx)⟩
      have:=yK hl (Nat.le_refl 0) (Nat.zero_le n)
      simpa [BY,Enc.row] using this
     ·exact⟨_,by simp only[dz,e1,e2]; rw[if_pos ⟨h1,by omega⟩,if_neg e],hK _ (whole _ (by show u - l≤c - l; omega)) (fun x hx=>hx)⟩
   | op esz =>
     have he:esz=1:=hc
     subst he
     by_cases e:n≤l
     ·have hu:u=l:=by omega
      exact⟨.emp b0,by simp only[dz,e1,e2]; simp[h1,h2,e],hK _ ⟨zero hu (.emp _),trivial⟩ (fun x hx=>by simp[ak] at hx)⟩
     ·exact⟨_,by simp only[dz,e1,e2]; simp only[and_true]; rw[if_pos ⟨h1,h2⟩,if_neg e],hK _ (whole (.op 1) rfl) (fun x hx=>hx)⟩
theorem qc (d n:Nat) (k:IntKind) : bnd d (some (N k (n:Int)))=some n:=by simp[bnd]
theorem LQ (d:Nat) : bnd d none=some d:=rfl
theorem aa.own {bs:List Nat} {M M1 M2:RM} {v:AV} (k1:aa bs M M1) (k2:aa (ak v) M1 M2) (hv:∀ b∈ak v,M.next≤b) : aa bs M M2 :=
 ⟨k2.base.trans k1.base,Nat.le_trans k1.next k2.next,fun x hx hb=>by
  rw[k2.heap x (Nat.lt_of_lt_of_le hx k1.next) (fun h=>by have:=hv x h; omega),k1.heap x hx hb]⟩
theorem kH {M:RM} {b n:Nat} {l cs:List AV} {p:Bool} {e:Nat} {K:RM→Prop} (h:M.heap b=some (.row l p e 0)) (hn:cs.length=n) (hl:l.length=n) (h1:cs.all oneCell=true) :
  aU M (.ptr b 0) (.agg cs) n K=K (M.put b (.row cs p e 0)):=Qf (x:=.agg cs) h hn hl h1
theorem Bs.lt {M:RM} {v:AV} {b:Str} (h:Bs M v b) : ∀ x∈ak v,x<M.next:=aK.lt h.sl
theorem Ai {br:Nat} {M M0 M1:RM} (k0:aa [] M M0) (h:aa [br] M0 M1) (hb:M.next≤br) : aa [] M M1 :=
 ⟨h.base.trans k0.base,Nat.le_trans k0.next h.next,fun x hx _=>by rw[h.heap x (Nat.lt_of_lt_of_le hx k0.next) (fun e=>by simp at e; omega),k0.heap x hx (by simp)]⟩
theorem eY (s:Str) : (BY.row s).length=s.length:=by rw[Enc.gT]; simp[BY]
theorem Bs.read {M:RM} {v:AV} {b:Str} (h:Bs M v b) {i:Nat} (hi:i<b.length) {K:AV→Prop} : (aZ v (N .i64 (i:Int)) 1 fun t=>ag M t K)=K (By b[i]):=by
 obtain⟨c,o,_,_,hix,hld⟩:=h.sl.Om (i:Int) hi
 rw[hix,fJ,hld _ rfl]
 exact propext ⟨fun⟨v,e,k⟩=>by cases e; exact k,fun k=>⟨_,rfl,k⟩⟩
theorem Dm {T:Nat} {M:RM} {z cs:List AV} {K:AV→RM→Prop} (n:Nat) (hz:z.length=n) (hc:cs.length=n) (h1:cs.all oneCell=true)
  (hK:∀ M',aa [] M M'→M'.heap M.next=some (.row cs false T 0)→M.next<M'.next→K (.ptr M.next 0) M') :
  aQ (.row z false T 0) (fun b=>.ptr b 0) M fun t M1=>aU M1 t (.agg cs) n fun M2=>K t M2:=by
 simp only[aN]
 have n1:(M.push (.row z false T 0)).heap M.next=some (.row z false T 0):=by simp[RM.push]
 rw[kH n1 hc hz h1]
 exact hK _ (((aa.refl _ _).push _).new _ (Nat.le_refl _)) (aG _) (by simp[RM.push,RM.put])
theorem Uj {b n i:Nat} {c:Cap} {K:AV→Prop} (h:i<n) : aZ (.slc b 0 n c) (N .i64 (i:Int)) 1 K=K (.ptr b i):=by
 rw[uC,Nat.zero_add,Nat.mul_one,Int.toNat_natCast]
 apply propext
 constructor
 ·exact fun h=>h.2.2
 ·exact fun k=>⟨by omega,by omega,k⟩
def vL (f:(List AV→RM→Prop)→Prop) (g:List AV→RM→Prop) : Prop:=f g
theorem gz (f:(List AV→RM→Prop)→Prop) (g:List AV→RM→Prop) : fC f g=vL f g:=rfl
theorem fV {H:(List AV→RM→Prop)→Prop} {G:List AV→RM→Prop} (P:List AV→RM→Prop) (hT:∀ xs M,P xs M→G xs M)
  (hH:∀ J:List AV→RM→Prop,(∀ xs M,P xs M→J xs M)→H J) : vL H G:=hH G hT
theorem Iy {s:List UInt8} {i:Nat} (hi:i<s.length) (kd:IntKind) (K:AV→Prop) : uK (St s) (N kd (i:Int)) K=K (By s[i]):=by
 rw[VG]
 apply propext
 constructor
 ·rintro⟨_,b,hb,hk⟩
  rw[Int.toNat_natCast,List.getElem?_eq_getElem hi] at hb
  cases hb; exact hk
 ·intro hk; exact⟨by omega,s[i],by rw[Int.toNat_natCast,List.getElem?_eq_getElem hi],hk⟩
theorem Dt {T bytes:Nat} {zs:List AV} {K:RB→(Nat→AV)→Prop} (h:K (.row [] false T 0) (fun b=>.slc b 0 0 (.ex 0))) : sK T bytes zs (N .i64 0) (N .i64 0) K :=
 ⟨_,_,0,0,rfl,rfl,by omega,by omega,by simp,by simp,h⟩
theorem gm {k:IntKind} {a:Int} {K:AV→Prop} : CS (N k a) K=K (N k (CV k (if k.signed then -1 else k.max) a)):=by
 apply propext; unfold CS
 constructor
 ·rintro⟨k',a',h1,hk⟩; cases h1; exact hk
 ·intro hk; exact⟨k,a,rfl,hk⟩
set_option maxRecDepth 100000
def wI (p1:au) (p2:Nat) (p3:au) (a0:AV) (M0:RM) (Q:aj) : Prop:=p1 [a0] M0 fun j d=>aQ (.row [(N .u8 0),(N .u8 0),(N .u8 0),(N .u8 0),(N .u8 0),(N .u8 0),(N .u8 0),(N .u8 0),(N .u8 0),(N .u8 0),(N .u8 0),(N .u8 0),(N .u8 0),(N .u8 0),(N .u8 0),(N .u8 0),(N .u8 0),(N .u8 0),(N .u8 0),(N .u8 0),(N .u8 0),(N .u8 0),(N .u8 0),(N .u8 0),(N .u8 0),(N .u8 0),(N .u8 0),(N .u8 0),(N .u8 0),(N .u8 0),(N .u8 0),(N .u8 0)] false p2 0) (fun i=>.ptr i 0) d fun c e=>aU e c j 32 fun g=>iN (zF 32 1 c none none) fun l=>p3 [l] g fun m h=>Q m h
def Bp (p1:Nat) (p2:au) (p3:Nat) (p4:au) (p5:Nat) (p6 p7:au) (p8:Nat) (a0:AV) (M0:RM) (Q:aj) : Prop:=aQ (.row [(N .u8 0),(N .u8 0),(N .u8 0),(N .u8 0),(N .u8 0),(N .u8 0),(N .u8 0),(N .u8 0),(N .u8 0),(N .u8 0),(N .u8 0),(N .u8 0),(N .u8 0),(N .u8 0),(N .u8 0),(N .u8 0),(N .u8 0),(N .u8 0),(N .u8 0),(N .u8 0),(N .u8 0),(N .u8 0),(N .u8 0),(N .u8 0),(N .u8 0),(N .u8 0),(N .u8 0),(N .u8 0),(N .u8 0),(N .u8 0),(N .u8 0),(N .u8 0)] false p1 0) (fun c=>.ptr c 0) M0 fun u v=>p2 [] v fun vf w=>aQ (.row [(N .u32 0),(N .u32 0),(N .u32 0),(N .u32 0),(N .u32 0),(N .u32 0),(N .u32 0),(N .u32 0),(N .u32 0),(N .u32 0),(N .u32 0),(N .u32 0),(N .u32 0),(N .u32 0),(N .u32 0),(N .u32 0),(N .u32 0),(N .u32 0),(N .u32 0),(N .u32 0),(N .u32 0),(N .u32 0),(N .u32 0),(N .u32 0),(N .u32 0),(N .u32 0),(N .u32 0),(N .u32 0),(N .u32 0),(N .u32 0),(N .u32 0),(N .u32 0),(N .u32 0),(N .u32 0),(N .u32 0),(N .u32 0),(N .u32 0),(N .u32 0),(N .u32 0),(N .u32 0),(N .u32 0),(N .u32 0),(N .u32 0),(N .u32 0),(N .u32 0),(N .u32 0),(N .u32 0),(N .u32 0),(N .u32 0),(N .u32 0),(N .u32 0),(N .u32 0),(N .u32 0),(N .u32 0),(N .u32 0),(N .u32 0),(N .u32 0),(N .u32 0),(N .u32 0),(N .u32 0),(N .u32 0),(N .u32 0),(N .u32 0),(N .u32 0)] false p3 0) (fun c=>.ptr c 0) w fun l x=>aU x l vf 64 fun B=>p4 [] B fun vg G=>aQ (.row [(N .u32 0),(N .u32 0),(N .u32 0),(N .u32 0),(N .u32 0),(N .u32 0),(N .u32 0),(N .u32 0)] false p5 0) (fun c=>.ptr c 0) G fun h I=>aU I h vg 8 fun L=>bA a0 fun vh=>ae .quo vh (N .i64 64) fun vi=>ae .mul vi (N .i64 64) fun t=>bC (fun W i r=>ae .lss (ah i 0) t fun vj=>aA vj ( ae .add (ah i 0) (N .i64 64) fun vl=>iN (dz 1 a0 (some (ah i 0)) (some vl) none) fun vm=>p6 [h,vm,l] r fun wo O=>ae .add (ah i 0) (N .i64 64) fun vk=>W [vk] O) ( iN (dz 1 a0 (some t) none none) fun vn=>p7 [vn] r fun vo P=>bN p8 1 [(N .u8 0)] [(0,1,(N .u8 128))] fun vb S=>aQ vb S P fun vp R=>appW p8 1 1 [(N .u8 0)] false vo vp R fun vq y=>bC (fun X m n=>bA (ah m 0) fun vr=>ae .rem vr (N .i64 64) fun vs=>ae .neq vs (N .i64 56) fun vt=>aA vt ( bN p8 1 [(N .u8 0)] [(0,1,(N .u8 0))] fun vc U=>aQ vc U n fun vu z=>appW p8 1 1 [(N .u8 0)] false (ah m 0) vu z fun vv A=>X [vv] A) ( bC (fun Y d o=>ae .lss (ah d 1) (N .i64 8) fun vw=>aA vw ( bA a0 fun vx=>dL .u64 vx fun vy=>ae .mul vy (N .u64 8) fun vz=>ae .mul (N .i64 8) (ah d 1) fun v0=>ae .sub (N .i64 56) v0 fun v1=>iG .shr vz v1 fun v2=>dL .u8 v2 fun v3=>bN p8 1 [(N .u8 0)] [(0,1,v3)] fun vd V=>aQ vd V o fun v4 C=>appW p8 1 1 [(N .u8 0)] false (ah d 0) v4 C fun v5 D=>ae .add (ah d 1) (N .i64 1) fun v6=>Y [v5,v6] D) ( bC (fun Z j p=>bA (ah d 0) fun v7=>ae .lss (ah j 0) v7 fun v8=>aA v8 ( ae .add (ah j 0) (N .i64 64) fun wa=>iN (dz 1 (ah d 0) (some (ah j 0)) (some wa) none) fun wb=>p6 [h,wb,l] p fun wp E=>ae .add (ah j 0) (N .i64 64) fun v9=>Z [v9] E) ( aQ (.row [(N .u8 0),(N .u8 0),(N .u8 0),(N .u8 0),(N .u8 0),(N .u8 0),(N .u8 0),(N .u8 0),(N .u8 0),(N .u8 0),(N .u8 0),(N .u8 0),(N .u8 0),(N .u8 0),(N .u8 0),(N .u8 0),(N .u8 0),(N .u8 0),(N .u8 0),(N .u8 0),(N .u8 0),(N .u8 0),(N .u8 0),(N .u8 0),(N .u8 0),(N .u8 0),(N .u8 0),(N .u8 0),(N .u8 0),(N .u8 0),(N .u8 0),(N .u8 0)] false p1 0) (fun c=>.ptr c 0) p fun s F=>bC (fun va e g=>ae .lss (ah e 0) (N .i64 32) fun wc=>aA wc ( ae .quo (ah e 0) (N .i64 4) fun wd=>bE h wd 8 1 fun we=>ag g we fun wf=>ae .rem (ah e 0) (N .i64 4) fun wg=>ae .mul (N .i64 8) wg fun wh=>ae .sub (N .i64 24) wh fun wi=>iG .shr wf wi fun wj=>dL .u8 wj fun wk=>bE s (ah e 0) 32 1 fun wl=>aU g wl wk 1 fun H=>ae .add (ah e 0) (N .i64 1) fun wm=>va [wm] H) ( dK g s 32 fun wn=>aU g u wn 32 fun q=>dK q u 32 fun ve=>Q ve q)) [(N .i64 0)] F)) [(N .i64 0)] o)) [(ah m 0),(N .i64 0)] n)) [vq] y)) [(N .i64 0)] L
def BP (p1 p2:Nat) (a0:AV) (M0:RM) (Q:aj) : Prop:=lL p1 a0 fun n j=>aQ n j M0 fun p e=>dK e p 32 fun y=>bC (fun m c d=>ae .lss (ah c 1) (N .i64 32) fun z=>aA z ( G8 y (ah c 1) 32 fun g=>iG .shr g (N .u64 4) fun q=>uK (St [48,49,50,51,52,53,54,55,56,57,97,98,99,100,101,102]) q fun r=>ae .and g (N .u8 15) fun s=>uK (St [48,49,50,51,52,53,54,55,56,57,97,98,99,100,101,102]) s fun t=>bN p2 2 [(N .u8 0)] [(0,1,r),(1,1,t)] fun o l=>FI o l d fun u h A=>appW p2 1 1 [(N .u8 0)] false (ah c 0) u h fun v i=>ae .add (ah c 1) (N .i64 1) fun w=>m [v,w] i) ( eD d (ah c 0) fun x=>Q x d)) [(.sc (.slice none 0 0)),(N .i64 0)] e
def Av (p1:Nat) (p2:au) (p3:Nat) (p4:au) (a0:AV) (M0:RM) (Q:aj) : Prop:=aQ (.row [(N .u8 0),(N .u8 0),(N .u8 0),(N .u8 0),(N .u8 0),(N .u8 0),(N .u8 0),(N .u8 0),(N .u8 0),(N .u8 0),(N .u8 0),(N .u8 0),(N .u8 0),(N .u8 0),(N .u8 0),(N .u8 0),(N .u8 0),(N .u8 0),(N .u8 0),(N .u8 0),(N .u8 0),(N .u8 0),(N .u8 0),(N .u8 0),(N .u8 0),(N .u8 0),(N .u8 0),(N .u8 0),(N .u8 0),(N .u8 0),(N .u8 0),(N .u8 0)] false p1 0) (fun h=>.ptr h 0) M0 fun p r=>p2 [] r fun o s=>bz o 0 fun X=>bz o 1 fun Y=>bN p3 0 [(N .u8 0)] [] fun R E=>aQ R E s fun Z t=>appW p3 1 1 [(N .u8 0)] false Z a0 t fun va y=>bN p3 1 [(N .u8 0)] [(0,1,(N .u8 128))] fun U G=>aQ U G y fun vb C=>appW p3 1 1 [(N .u8 0)] false va vb C fun vc D=>bC (fun I i n=>bA (ah i 0) fun vd=>ae .rem vd (N .i64 64) fun ve=>ae .neq ve (N .i64 56) fun vf=>aA vf ( bN p3 1 [(N .u8 0)] [(0,1,(N .u8 0))] fun V H=>aQ V H n fun vg u=>appW p3 1 1 [(N .u8 0)] false (ah i 0) vg u fun vh v=>I [vh] v) ( bA a0 fun vi=>dL .u64 vi fun vj=>ae .mul vj (N .u64 8) fun vk=>bC (fun L c j=>ae .geq (ah c 1) (N .i64 0) fun vl=>aA vl ( ae .mul (N .i64 8) (ah c 1) fun vn=>dL .u64 vn fun vo=>iG .shr vk vo fun vp=>dL .u8 vp fun vq=>bN p3 1 [(N .u8 0)] [(0,1,vq)] fun S F=>aQ S F j fun vr w=>appW p3 1 1 [(N .u8 0)] false (ah c 0) vr w fun vs x=>ae .sub (ah c 1) (N .i64 1) fun vm=>L [vs,vm] x) ( bC (fun O d l=>bA (ah c 0) fun vt=>ae .lss (ah d 1) vt fun vu=>aA vu ( ae .add (ah d 1) (N .i64 64) fun vw=>iN (dz 1 (ah c 0) (some (ah d 1)) (some vw) none) fun vx=>p4 [(ah d 0),Y,vx] l fun vy z=>ae .add (ah d 1) (N .i64 64) fun vv=>O [vy,vv] z) ( aQ (.row [(N .u8 0),(N .u8 0),(N .u8 0),(N .u8 0),(N .u8 0),(N .u8 0),(N .u8 0),(N .u8 0),(N .u8 0),(N .u8 0),(N .u8 0),(N .u8 0),(N .u8 0),(N .u8 0),(N .u8 0),(N .u8 0),(N .u8 0),(N .u8 0),(N .u8 0),(N .u8 0),(N .u8 0),(N .u8 0),(N .u8 0),(N .u8 0),(N .u8 0),(N .u8 0),(N .u8 0),(N .u8 0),(N .u8 0),(N .u8 0),(N .u8 0),(N .u8 0)] false p1 0) (fun h=>.ptr h 0) l fun q A=>bC (fun P e g=>ae .lss (ah e 0) (N .i64 32) fun vz=>aA vz ( ae .quo (ah e 0) (N .i64 4) fun v1=>aZ (ah d 0) v1 1 fun v2=>ag g v2 fun v3=>ae .rem (ah e 0) (N .i64 4) fun v4=>ae .mul (N .i64 8) v4 fun v5=>ae .sub (N .i64 24) v5 fun v6=>dL .u64 v6 fun v7=>iG .shr v3 v7 fun v8=>dL .u8 v8 fun v9=>bE q (ah e 0) 32 1 fun wa=>aU g wa v9 1 fun B=>ae .add (ah e 0) (N .i64 1) fun v0=>P [v0] B) ( dK g q 32 fun wb=>aU g p wb 32 fun m=>dK m p 32 fun W=>Q W m)) [(N .i64 0)] A)) [X,(N .i64 0)] j)) [(ah i 0),(N .i64 7)] n)) [vc] D
def yG (p1:Nat) (a0:AV) (M0:RM) (Q:aj) : Prop:=sK p1 1 [(N .u8 0)] (N .i64 0) (N .i64 0) fun m i=>aQ m i M0 fun A e=>bC (fun l c d=>bA a0 fun B=>ae .lss (ah c 1) B fun C=>aA C ( aZ a0 (ah c 1) 1 fun p=>ag d p fun q=>iG .shr q (N .u64 4) fun r=>uK (St [48,49,50,51,52,53,54,55,56,57,97,98,99,100,101,102]) r fun s=>aZ a0 (ah c 1) 1 fun t=>ag d t fun u=>ae .and u (N .u8 15) fun v=>uK (St [48,49,50,51,52,53,54,55,56,57,97,98,99,100,101,102]) v fun w=>bN p1 2 [(N .u8 0)] [(0,1,s),(1,1,w)] fun n j=>FI n j d fun x g D=>appW p1 1 1 [(N .u8 0)] false (ah c 0) x g fun y h=>ae .add (ah c 1) (N .i64 1) fun o=>l [y,o] h) ( eD d (ah c 0) fun z=>Q z d)) [A,(N .i64 0)] e
def yT (p1:Nat) (p2:au) (a0:AV) (M0:RM) (Q:aj) : Prop:=aQ (.row [(N .u8 0),(N .u8 0),(N .u8 0),(N .u8 0),(N .u8 0),(N .u8 0),(N .u8 0),(N .u8 0),(N .u8 0),(N .u8 0),(N .u8 0),(N .u8 0),(N .u8 0),(N .u8 0),(N .u8 0),(N .u8 0),(N .u8 0),(N .u8 0),(N .u8 0),(N .u8 0),(N .u8 0),(N .u8 0),(N .u8 0),(N .u8 0),(N .u8 0),(N .u8 0),(N .u8 0),(N .u8 0),(N .u8 0),(N .u8 0),(N .u8 0),(N .u8 0)] false p1 0) (fun i=>.ptr i 0) M0 fun c u=>aQ (.row [(N .u8 0),(N .u8 0),(N .u8 0),(N .u8 0),(N .u8 0),(N .u8 0),(N .u8 0),(N .u8 0),(N .u8 0),(N .u8 0),(N .u8 0),(N .u8 0),(N .u8 0),(N .u8 0),(N .u8 0),(N .u8 0),(N .u8 0),(N .u8 0),(N .u8 0),(N .u8 0),(N .u8 0),(N .u8 0),(N .u8 0),(N .u8 0),(N .u8 0),(N .u8 0),(N .u8 0),(N .u8 0),(N .u8 0),(N .u8 0),(N .u8 0),(N .u8 0)] false p1 0) (fun i=>.ptr i 0) u fun l g=>CY a0 fun va=>ae .neq va (N .i64 64) fun C=>aA C ( dK g l 32 fun D=>aU g c D 32 fun m=>dK m c 32 fun z=>Q (.tup [z,(N .i64 14)]) m) ( bC (fun y e h=>ae .lss (ah e 0) (N .i64 32) fun E=>aA E ( ae .mul (N .i64 2) (ah e 0) fun F=>uK a0 F fun G=>ae .mul (N .i64 2) (ah e 0) fun H=>ae .add H (N .i64 1) fun I=>uK a0 I fun L=>p2 [G] h fun s w=>p2 [L] w fun t o=>ae .gtr s (N .u8 15) fun j=>ay j false (fun d=>d t o) (fun d=>d .undef o) fun O p=>ay j false (fun x=>ae .gtr O (N .u8 15) fun P=>x P p) (fun d=>d .undef p) fun R q=>aY j (Bo true) R fun S=>aA S ( jf [(N .u8 0),(N .u8 0),(N .u8 0),(N .u8 0),(N .u8 0),(N .u8 0),(N .u8 0),(N .u8 0),(N .u8 0),(N .u8 0),(N .u8 0),(N .u8 0),(N .u8 0),(N .u8 0),(N .u8 0),(N .u8 0),(N .u8 0),(N .u8 0),(N .u8 0),(N .u8 0),(N .u8 0),(N .u8 0),(N .u8 0),(N .u8 0),(N .u8 0),(N .u8 0),(N .u8 0),(N .u8 0),(N .u8 0),(N .u8 0),(N .u8 0),(N .u8 0)] [] fun U=>aU q c U 32 fun r=>dK r c 32 fun A=>Q (.tup [A,(N .i64 14)]) r) ( iG .shl s (N .u64 4) fun V=>ae .or V t fun W=>bE l (ah e 0) 32 1 fun X=>aU q X W 1 fun v=>ae .add (ah e 0) (N .i64 1) fun Y=>y [Y] v)) ( dK h l 32 fun Z=>aU h c Z 32 fun n=>dK n c 32 fun B=>Q (.tup [B,(N .i64 0)]) n)) [(N .i64 0)] g)
def oK (p1:Nat) (M0:RM) (Q:aj) : Prop:=aQ (.row [(N .u32 0),(N .u32 0),(N .u32 0),(N .u32 0),(N .u32 0),(N .u32 0),(N .u32 0),(N .u32 0),(N .u32 0),(N .u32 0),(N .u32 0),(N .u32 0),(N .u32 0),(N .u32 0),(N .u32 0),(N .u32 0),(N .u32 0),(N .u32 0),(N .u32 0),(N .u32 0),(N .u32 0),(N .u32 0),(N .u32 0),(N .u32 0),(N .u32 0),(N .u32 0),(N .u32 0),(N .u32 0),(N .u32 0),(N .u32 0),(N .u32 0),(N .u32 0),(N .u32 0),(N .u32 0),(N .u32 0),(N .u32 0),(N .u32 0),(N .u32 0),(N .u32 0),(N .u32 0),(N .u32 0),(N .u32 0),(N .u32 0),(N .u32 0),(N .u32 0),(N .u32 0),(N .u32 0),(N .u32 0),(N .u32 0),(N .u32 0),(N .u32 0),(N .u32 0),(N .u32 0),(N .u32 0),(N .u32 0),(N .u32 0),(N .u32 0),(N .u32 0),(N .u32 0),(N .u32 0),(N .u32 0),(N .u32 0),(N .u32 0),(N .u32 0)] false p1 0) (fun g=>.ptr g 0) M0 fun d e=>jf [(N .u32 0),(N .u32 0),(N .u32 0),(N .u32 0),(N .u32 0),(N .u32 0),(N .u32 0),(N .u32 0),(N .u32 0),(N .u32 0),(N .u32 0),(N .u32 0),(N .u32 0),(N .u32 0),(N .u32 0),(N .u32 0),(N .u32 0),(N .u32 0),(N .u32 0),(N .u32 0),(N .u32 0),(N .u32 0),(N .u32 0),(N .u32 0),(N .u32 0),(N .u32 0),(N .u32 0),(N .u32 0),(N .u32 0),(N .u32 0),(N .u32 0),(N .u32 0),(N .u32 0),(N .u32 0),(N .u32 0),(N .u32 0),(N .u32 0),(N .u32 0),(N .u32 0),(N .u32 0),(N .u32 0),(N .u32 0),(N .u32 0),(N .u32 0),(N .u32 0),(N .u32 0),(N .u32 0),(N .u32 0),(N .u32 0),(N .u32 0),(N .u32 0),(N .u32 0),(N .u32 0),(N .u32 0),(N .u32 0),(N .u32 0),(N .u32 0),(N .u32 0),(N .u32 0),(N .u32 0),(N .u32 0),(N .u32 0),(N .u32 0),(N .u32 0)] [(0,1,(N .u32 1116352408)),(1,1,(N .u32 1899447441)),(2,1,(N .u32 3049323471)),(3,1,(N .u32 3921009573)),(4,1,(N .u32 961987163)),(5,1,(N .u32 1508970993)),(6,1,(N .u32 2453635748)),(7,1,(N .u32 2870763221)),(8,1,(N .u32 3624381080)),(9,1,(N .u32 310598401)),(10,1,(N .u32 607225278)),(11,1,(N .u32 1426881987)),(12,1,(N .u32 1925078388)),(13,1,(N .u32 2162078206)),(14,1,(N .u32 2614888103)),(15,1,(N .u32 3248222580)),(16,1,(N .u32 3835390401)),(17,1,(N .u32 4022224774)),(18,1,(N .u32 264347078)),(19,1,(N .u32 604807628)),(20,1,(N .u32 770255983)),(21,1,(N .u32 1249150122)),(22,1,(N .u32 1555081692)),(23,1,(N .u32 1996064986)),(24,1,(N .u32 2554220882)),(25,1,(N .u32 2821834349)),(26,1,(N .u32 2952996808)),(27,1,(N .u32 3210313671)),(28,1,(N .u32 3336571891)),(29,1,(N .u32 3584528711)),(30,1,(N .u32 113926993)),(31,1,(N .u32 338241895)),(32,1,(N .u32 666307205)),(33,1,(N .u32 773529912)),(34,1,(N .u32 1294757372)),(35,1,(N .u32 1396182291)),(36,1,(N .u32 1695183700)),(37,1,(N .u32 1986661051)),(38,1,(N .u32 2177026350)),(39,1,(N .u32 2456956037)),(40,1,(N .u32 2730485921)),(41,1,(N .u32 2820302411)),(42,1,(N .u32 3259730800)),(43,1,(N .u32 3345764771)),(44,1,(N .u32 3516065817)),(45,1,(N .u32 3600352804)),(46,1,(N .u32 4094571909)),(47,1,(N .u32 275423344)),(48,1,(N .u32 430227734)),(49,1,(N .u32 506948616)),(50,1,(N .u32 659060556)),(51,1,(N .u32 883997877)),(52,1,(N .u32 958139571)),(53,1,(N .u32 1322822218)),(54,1,(N .u32 1537002063)),(55,1,(N .u32 1747873779)),(56,1,(N .u32 1955562222)),(57,1,(N .u32 2024104815)),(58,1,(N .u32 2227730452)),(59,1,(N .u32 2361852424)),(60,1,(N .u32 2428436474)),(61,1,(N .u32 2756734187)),(62,1,(N .u32 3204031479)),(63,1,(N .u32 3329325298))] fun i=>aU e d i 64 fun c=>dK c d 64 fun h=>Q h c
def wY (p1:Nat) (M0:RM) (Q:aj) : Prop:=aQ (.row [(N .u32 0),(N .u32 0),(N .u32 0),(N .u32 0),(N .u32 0),(N .u32 0),(N .u32 0),(N .u32 0)] false p1 0) (fun g=>.ptr g 0) M0 fun d e=>jf [(N .u32 0),(N .u32 0),(N .u32 0),(N .u32 0),(N .u32 0),(N .u32 0),(N .u32 0),(N .u32 0)] [(0,1,(N .u32 1779033703)),(1,1,(N .u32 3144134277)),(2,1,(N .u32 1013904242)),(3,1,(N .u32 2773480762)),(4,1,(N .u32 1359893119)),(5,1,(N .u32 2600822924)),(6,1,(N .u32 528734635)),(7,1,(N .u32 1541459225))] fun i=>aU e d i 8 fun c=>dK c d 8 fun h=>Q h c
def nE (p1:Nat) (p2:au) (p3:Nat) (a0 a1 a2:AV) (M0:RM) (Q:aj) : Prop:=aQ (.row [(N .u32 0),(N .u32 0),(N .u32 0),(N .u32 0),(N .u32 0),(N .u32 0),(N .u32 0),(N .u32 0),(N .u32 0),(N .u32 0),(N .u32 0),(N .u32 0),(N .u32 0),(N .u32 0),(N .u32 0),(N .u32 0),(N .u32 0),(N .u32 0),(N .u32 0),(N .u32 0),(N .u32 0),(N .u32 0),(N .u32 0),(N .u32 0),(N .u32 0),(N .u32 0),(N .u32 0),(N .u32 0),(N .u32 0),(N .u32 0),(N .u32 0),(N .u32 0),(N .u32 0),(N .u32 0),(N .u32 0),(N .u32 0),(N .u32 0),(N .u32 0),(N .u32 0),(N .u32 0),(N .u32 0),(N .u32 0),(N .u32 0),(N .u32 0),(N .u32 0),(N .u32 0),(N .u32 0),(N .u32 0),(N .u32 0),(N .u32 0),(N .u32 0),(N .u32 0),(N .u32 0),(N .u32 0),(N .u32 0),(N .u32 0),(N .u32 0),(N .u32 0),(N .u32 0),(N .u32 0),(N .u32 0),(N .u32 0),(N .u32 0),(N .u32 0)] false p1 0) (fun vc=>.ptr vc 0) M0 fun i vg=>bC (fun vn j m=>ae .lss (ah j 0) (N .i64 16) fun xz=>aA xz ( ae .mul (N .i64 4) (ah j 0) fun x0=>aZ a1 x0 1 fun x1=>ag m x1 fun x2=>dL .u32 x2 fun x3=>iG .shl x3 (N .u64 24) fun x4=>ae .mul (N .i64 4) (ah j 0) fun x5=>ae .add x5 (N .i64 1) fun x6=>aZ a1 x6 1 fun x7=>ag m x7 fun x8=>dL .u32 x8 fun x9=>iG .shl x9 (N .u64 16) fun ya=>ae .or x4 ya fun yb=>ae .mul (N .i64 4) (ah j 0) fun yc=>ae .add yc (N .i64 2) fun yd=>aZ a1 yd 1 fun ye=>ag m ye fun yf=>dL .u32 yf fun yg=>iG .shl yg (N .u64 8) fun yh=>ae .or yb yh fun yi=>ae .mul (N .i64 4) (ah j 0) fun yj=>ae .add yj (N .i64 3) fun yk=>aZ a1 yk 1 fun yl=>ag m yl fun ym=>dL .u32 ym fun yn=>ae .or yi yn fun yo=>bE i (ah j 0) 64 1 fun yp=>aU m yp yo 1 fun vh=>ae .add (ah j 0) (N .i64 1) fun yq=>vn [yq] vh) ( bC (fun vo l h=>ae .lss (ah l 0) (N .i64 64) fun yr=>aA yr ( ae .sub (ah l 0) (N .i64 15) fun yt=>bE i yt 64 1 fun yu=>ag h yu fun vd=>ae .sub (ah l 0) (N .i64 2) fun yv=>bE i yv 64 1 fun yw=>ag h yw fun ve=>ae .sub (ah l 0) (N .i64 16) fun yx=>bE i yx 64 1 fun t=>ag h t fun u=>iG .shr vd (N .u64 3) fun y5=>ae .sub (ah l 0) (N .i64 7) fun y8=>bE i y8 64 1 fun v=>ag h v fun w=>iG .shr ve (N .u64 10) fun zh=>p2 [vd,(N .i64 7)] h fun y2 X=>ag X t fun y1=>(y1=u∧ag X v fun zc=>(zc=w∧p2 [vd,(N .i64 18)] X fun y3 Z=>ag Z t fun y0=>(y0=u∧ag Z v fun zb=>(zb=w∧ae .xor y2 y3 fun y4=>ae .xor y4 y5 fun y6=>ae .add u y6 fun y7=>ae .add y7 w fun zd=>p2 [ve,(N .i64 17)] Z fun ze va=>ag va t fun yz=>(yz=u∧ag va v fun za=>(za=w∧p2 [ve,(N .i64 19)] va fun zf vb=>ag vb t fun yy=>(yy=u∧ag vb v fun y9=>(y9=w∧ae .xor ze zf fun zg=>ae .xor zg zh fun zi=>ae .add zd zi fun zj=>bE i (ah l 0) 64 1 fun zk=>aU vb zk zj 1 fun vm=>ae .add (ah l 0) (N .i64 1) fun ys=>vo [ys] vm))))))))) ( ek a0 fun vr=>dK h vr 8 fun vs=>aQ (.row [(N .u32 0),(N .u32 0),(N .u32 0),(N .u32 0),(N .u32 0),(N .u32 0),(N .u32 0),(N .u32 0)] false p3 0) (fun vc=>.ptr vc 0) h fun c vi=>aU vi c vs 8 fun vj=>bC (fun vp W d=>ae .lss (ah W 0) (N .i64 64) fun vt=>aA vt ( bE c (N .i64 4) 8 1 fun vu=>ag d vu fun p=>bE c (N .i64 0) 8 1 fun vv=>ag d vv fun q=>bE c (N .i64 7) 8 1 fun y=>ag d y fun z=>bE c (N .i64 5) 8 1 fun A=>ag d A fun B=>ae .and p B fun v8=>CS p fun v9=>bE c (N .i64 6) 8 1 fun C=>ag d C fun D=>ae .and v9 D fun wd=>ae .xor v8 wd fun we=>ek a2 fun wg=>bE wg (ah W 0) 64 1 fun E=>ag d E fun F=>bE i (ah W 0) 64 1 fun G=>ag d G fun H=>p2 [p,(N .i64 6)] d fun vz n=>ag n y fun vy=>(vy=z∧ag n A fun v7=>(v7=B∧ag n C fun wc=>(wc=D∧ag n E fun wj=>(wj=F∧ag n G fun wn=>(wn=H∧p2 [p,(N .i64 11)] n fun v0 o=>ag o y fun vx=>(vx=z∧ag o A fun v6=>(v6=B∧ag o C fun wb=>(wb=D∧ag o E fun wi=>(wi=F∧ag o G fun wm=>(wm=H∧ae .xor vz v0 fun v1=>p2 [p,(N .i64 25)] o fun v2 e=>ag e y fun vw=>(vw=z∧ag e A fun v5=>(v5=B∧ag e C fun wa=>(wa=D∧ag e E fun wh=>(wh=F∧ag e G fun wl=>(wl=H∧ae .xor v1 v2 fun v3=>ae .add z v3 fun v4=>ae .add v4 we fun wf=>ae .add wf F fun wk=>ae .add wk H fun vf=>bE c (N .i64 1) 8 1 fun I=>ag e I fun L=>ae .and q L fun ww=>bE c (N .i64 2) 8 1 fun O=>ag e O fun P=>ae .and q P fun w0=>ae .xor ww w0 fun w1=>bE c (N .i64 1) 8 1 fun R=>ag e R fun S=>bE c (N .i64 2) 8 1 fun U=>ag e U fun V=>ae .and S V fun w8=>ae .xor w1 w8 fun w9=>p2 [q,(N .i64 2)] e fun wo r=>ag r I fun wv=>(wv=L∧ag r O fun wz=>(wz=P∧ag r R fun w4=>(w4=S∧ag r U fun w7=>(w7=V∧p2 [q,(N .i64 13)] r fun wp s=>ag s I fun wu=>(wu=L∧ag s O fun wy=>(wy=P∧ag s R fun w3=>(w3=S∧ag s U fun w6=>(w6=V∧ae .xor wo wp fun wq=>p2 [q,(N .i64 22)] s fun wr g=>ag g I fun wt=>(wt=L∧ag g O fun wx=>(wx=P∧ag g R fun w2=>(w2=S∧ag g U fun w5=>(w5=V∧ae .xor wq wr fun ws=>ae .add ws w9 fun xa=>ae .add vf xa fun xb=>bE c (N .i64 1) 8 1 fun xc=>ag g xc fun xd=>bE c (N .i64 2) 8 1 fun xe=>ag g xe fun xf=>bE c (N .i64 3) 8 1 fun xg=>ag g xg fun xh=>ae .add xh vf fun xi=>bE c (N .i64 5) 8 1 fun xj=>ag g xj fun xk=>bE c (N .i64 6) 8 1 fun xl=>ag g xl fun xm=>jf [(N .u32 0),(N .u32 0),(N .u32 0),(N .u32 0),(N .u32 0),(N .u32 0),(N .u32 0),(N .u32 0)] [(0,1,xb),(1,1,q),(2,1,xd),(3,1,xf),(4,1,xi),(5,1,p),(6,1,xk),(7,1,xm)] fun xn=>aU g c xn 8 fun vk=>ae .add (ah W 0) (N .i64 1) fun xo=>vp [xo] vk)))))))))))))))))))))))))))) ( dK d c 8 fun xp=>bC (fun vq x Y=>ae .lss (ah x 0) (N .i64 8) fun xq=>aA xq ( G8 xp (ah x 0) 8 fun xr=>ek a0 fun xs=>bE xs (ah x 0) 8 1 fun xt=>ag Y xt fun xu=>ae .add xu xr fun xv=>ek a0 fun xw=>bE xw (ah x 0) 8 1 fun xx=>aU Y xx xv 1 fun vl=>ae .add (ah x 0) (N .i64 1) fun xy=>vq [xy] vl) ( Q (.tup []) Y)) [(N .i64 0)] d)) [(N .i64 0)] vj)) [(N .i64 16)] m)) [(N .i64 0)] vg
def qV (p1:au) (p2:Nat) (p3:au) (M0:RM) (Q:aj) : Prop:=p1 [(N .i64 64)] M0 fun h l=>sK p2 4 [(N .u32 0)] (N .i64 0) (N .i64 0) fun A v=>aQ A v l fun X m=>sK p2 4 [(N .u32 0)] (N .i64 0) (N .i64 0) fun B x=>aQ B x m fun Y s=>bC (fun z c d=>ae .lss (ah c 2) (N .i64 64) fun E=>aA E ( fC (fun j=>fC (fun e=>ae .lss (ah c 2) (N .i64 8) fun G=>aA G ( aZ h (ah c 2) 1 fun H=>ag d H fun I=>p3 [I,(Bo false)] d fun L t=>bN p2 1 [(N .u32 0)] [(0,1,L)] fun D y=>aQ D y t fun O u=>appW p2 1 4 [(N .u32 0)] false (ah c 0) O u fun P n=>e [P] n) ( e [(ah c 0)] d)) (fun Z g=>aZ h (ah c 2) 1 fun R=>ag g R fun S=>p3 [S,(Bo true)] g fun U o=>bN p2 1 [(N .u32 0)] [(0,1,U)] fun C w=>aQ C w o fun V p=>appW p2 1 4 [(N .u32 0)] false (ah c 1) V p fun W q=>j [(ah Z 0),W] q)) (fun i r=>ae .add (ah c 2) (N .i64 1) fun F=>z [(ah i 0),(ah i 1),F] r)) ( Q (.tup [(ah c 0),(ah c 1)]) d)) [X,Y,(N .i64 0)] s
def uF (p1:Nat) (p2:au) (p3:Nat) (a0 a1 a2:AV) (M0:RM) (Q:aj) : Prop:=aQ (.row [(N .u32 0),(N .u32 0),(N .u32 0),(N .u32 0),(N .u32 0),(N .u32 0),(N .u32 0),(N .u32 0),(N .u32 0),(N .u32 0),(N .u32 0),(N .u32 0),(N .u32 0),(N .u32 0),(N .u32 0),(N .u32 0),(N .u32 0),(N .u32 0),(N .u32 0),(N .u32 0),(N .u32 0),(N .u32 0),(N .u32 0),(N .u32 0),(N .u32 0),(N .u32 0),(N .u32 0),(N .u32 0),(N .u32 0),(N .u32 0),(N .u32 0),(N .u32 0),(N .u32 0),(N .u32 0),(N .u32 0),(N .u32 0),(N .u32 0),(N .u32 0),(N .u32 0),(N .u32 0),(N .u32 0),(N .u32 0),(N .u32 0),(N .u32 0),(N .u32 0),(N .u32 0),(N .u32 0),(N .u32 0),(N .u32 0),(N .u32 0),(N .u32 0),(N .u32 0),(N .u32 0),(N .u32 0),(N .u32 0),(N .u32 0),(N .u32 0),(N .u32 0),(N .u32 0),(N .u32 0),(N .u32 0),(N .u32 0),(N .u32 0),(N .u32 0)] false p1 0) (fun vc=>.ptr vc 0) M0 fun j ve=>bC (fun vo d e=>ae .lss (ah d 0) (N .i64 64) fun xl=>aA xl ( fC (fun vb=>ae .lss (ah d 0) (N .i64 16) fun xy=>aA xy ( ae .mul (N .i64 4) (ah d 0) fun xz=>aZ a2 xz 1 fun x0=>ag e x0 fun x1=>dL .u32 x1 fun x2=>iG .shl x2 (N .u64 24) fun x3=>ae .mul (N .i64 4) (ah d 0) fun x4=>ae .add x4 (N .i64 1) fun x5=>aZ a2 x5 1 fun x6=>ag e x6 fun x7=>dL .u32 x7 fun x8=>iG .shl x8 (N .u64 16) fun x9=>ae .or x3 x9 fun ya=>ae .mul (N .i64 4) (ah d 0) fun yb=>ae .add yb (N .i64 2) fun yc=>aZ a2 yc 1 fun yd=>ag e yd fun ye=>dL .u32 ye fun yf=>iG .shl yf (N .u64 8) fun yg=>ae .or ya yg fun yh=>ae .mul (N .i64 4) (ah d 0) fun yi=>ae .add yi (N .i64 3) fun yj=>aZ a2 yj 1 fun yk=>ag e yk fun yl=>dL .u32 yl fun ym=>ae .or yh ym fun yn=>bE j (ah d 0) 64 1 fun yo=>aU e yo yn 1 fun vf=>vb [] vf) ( ae .sub (ah d 0) (N .i64 15) fun yp=>bE j yp 64 1 fun yq=>ag e yq fun Z=>ae .sub (ah d 0) (N .i64 2) fun yr=>bE j yr 64 1 fun ys=>ag e ys fun va=>ae .sub (ah d 0) (N .i64 16) fun yt=>bE j yt 64 1 fun r=>ag e r fun s=>ae .sub (ah d 0) (N .i64 7) fun yy=>bE j yy 64 1 fun t=>ag e t fun u=>ae .add s u fun y3=>iG .shr Z (N .u64 3) fun y7=>iG .shr va (N .u64 10) fun zd=>p2 [Z,(N .u64 7)] e fun y4 V=>ag V r fun yw=>(yw=s∧ag V t fun y0=>(y0=u∧p2 [Z,(N .u64 18)] V fun y5 W=>ag W r fun yv=>(yv=s∧ag W t fun yz=>(yz=u∧ae .xor y4 y5 fun y6=>ae .xor y6 y7 fun y8=>ae .add y3 y8 fun y9=>p2 [va,(N .u64 17)] W fun za X=>ag X r fun yu=>(yu=s∧ag X t fun y2=>(y2=u∧p2 [va,(N .u64 19)] X fun zb Y=>ag Y r fun yx=>(yx=s∧ag Y t fun y1=>(y1=u∧ae .xor za zb fun zc=>ae .xor zc zd fun ze=>ae .add y9 ze fun zf=>bE j (ah d 0) 64 1 fun zg=>aU Y zg zf 1 fun vk=>vb [] vk)))))))))) (fun zj vg=>ae .add (ah d 0) (N .i64 1) fun xx=>vo [xx] vg)) ( bN p3 0 [(N .u32 0)] [] fun vr vm=>aQ vr vm e fun zh vh=>appW p3 1 4 [(N .u32 0)] false zh a0 vh fun zi vi=>bC (fun vp c i=>ae .lss (ah c 1) (N .i64 64) fun vt=>aA vt ( aZ (ah c 0) (N .i64 4) 1 fun vv=>ag i vv fun n=>aZ (ah c 0) (N .i64 0) 1 fun vw=>ag i vw fun o=>aZ (ah c 0) (N .i64 7) 1 fun x=>ag i x fun y=>aZ (ah c 0) (N .i64 5) 1 fun z=>ag i z fun A=>ae .and n A fun v9=>CS n fun wa=>aZ (ah c 0) (N .i64 6) 1 fun B=>ag i B fun C=>ae .and wa C fun we=>ae .xor v9 we fun wf=>aZ a1 (ah c 1) 1 fun D=>ag i D fun E=>bE j (ah c 1) 64 1 fun F=>ag i F fun G=>p2 [n,(N .u64 6)] i fun v0 l=>ag l x fun vz=>(vz=y∧ag l z fun v8=>(v8=A∧ag l B fun wd=>(wd=C∧ag l D fun wj=>(wj=E∧ag l F fun wn=>(wn=G∧p2 [n,(N .u64 11)] l fun v1 m=>ag m x fun vy=>(vy=y∧ag m z fun v7=>(v7=A∧ag m B fun wc=>(wc=C∧ag m D fun wi=>(wi=E∧ag m F fun wm=>(wm=G∧ae .xor v0 v1 fun v2=>p2 [n,(N .u64 25)] m fun v3 g=>ag g x fun vx=>(vx=y∧ag g z fun v6=>(v6=A∧ag g B fun wb=>(wb=C∧ag g D fun wh=>(wh=E∧ag g F fun wl=>(wl=G∧ae .xor v2 v3 fun v4=>ae .add y v4 fun v5=>ae .add v5 wf fun wg=>ae .add wg E fun wk=>ae .add wk G fun vd=>aZ (ah c 0) (N .i64 1) 1 fun H=>ag g H fun I=>ae .and o I fun ww=>aZ (ah c 0) (N .i64 2) 1 fun L=>ag g L fun O=>ae .and o O fun w0=>ae .xor ww w0 fun w1=>aZ (ah c 0) (N .i64 1) 1 fun P=>ag g P fun R=>aZ (ah c 0) (N .i64 2) 1 fun S=>ag g S fun U=>ae .and R U fun w8=>ae .xor w1 w8 fun w9=>p2 [o,(N .u64 2)] g fun wo p=>ag p H fun wv=>(wv=I∧ag p L fun wz=>(wz=O∧ag p P fun w4=>(w4=R∧ag p S fun w7=>(w7=U∧p2 [o,(N .u64 13)] p fun wp q=>ag q H fun wu=>(wu=I∧ag q L fun wy=>(wy=O∧ag q P fun w3=>(w3=R∧ag q S fun w6=>(w6=U∧ae .xor wo wp fun wq=>p2 [o,(N .u64 22)] q fun wr h=>ag h H fun wt=>(wt=I∧ag h L fun wx=>(wx=O∧ag h P fun w2=>(w2=R∧ag h S fun w5=>(w5=U∧ae .xor wq wr fun ws=>ae .add ws w9 fun xa=>ae .add vd xa fun xb=>aZ (ah c 0) (N .i64 1) 1 fun xc=>ag h xc fun xd=>aZ (ah c 0) (N .i64 2) 1 fun xe=>ag h xe fun xf=>aZ (ah c 0) (N .i64 3) 1 fun xg=>ag h xg fun xh=>ae .add xh vd fun xi=>aZ (ah c 0) (N .i64 5) 1 fun xj=>ag h xj fun xk=>aZ (ah c 0) (N .i64 6) 1 fun xm=>ag h xm fun xn=>bN p3 8 [(N .u32 0)] [(0,1,xb),(1,1,o),(2,1,xd),(3,1,xf),(4,1,xi),(5,1,n),(6,1,xk),(7,1,xn)] fun vs vn=>FI vs vn h fun xo vj vc=>ae .add (ah c 1) (N .i64 1) fun vu=>vp [xo,vu] vj)))))))))))))))))))))))))))) ( bC (fun vq v w=>ae .lss (ah v 0) (N .i64 8) fun xp=>aA xp ( aZ (ah c 0) (ah v 0) 1 fun xr=>ag w xr fun xs=>aZ a0 (ah v 0) 1 fun xt=>ag w xt fun xu=>ae .add xs xu fun xv=>aZ (ah c 0) (ah v 0) 1 fun xw=>aU w xw xv 1 fun vl=>ae .add (ah v 0) (N .i64 1) fun xq=>vq [xq] vl) ( Q (ah c 0) w)) [(N .i64 0)] i)) [zi,(N .i64 0)] vi)) [(N .i64 0)] ve
def wF (a0:AV) (M0:RM) (Q:aj) : Prop:=ae .geq a0 (N .u8 48) fun g=>ay g true (fun c=>c a0 M0) (fun c=>c .undef M0) fun v h=>ay g true (fun l=>ae .leq v (N .u8 57) fun w=>l w h) (fun c=>c .undef h) fun x d=>aY g x (Bo false) fun y=>aA y ( ae .sub a0 (N .u8 48) fun o=>Q o d) ( ae .geq a0 (N .u8 97) fun e=>ay e true (fun m=>m a0 d) (fun c=>c .undef d) fun p i=>ay e true (fun n=>ae .leq p (N .u8 102) fun q=>n q i) (fun c=>c .undef i) fun r j=>aY e r (Bo false) fun s=>aA s ( ae .sub a0 (N .u8 97) fun t=>ae .add t (N .u8 10) fun u=>Q u j) ( Q (N .u8 255) j))
def yL (p1:au) (a0 a1:AV) (M0:RM) (Q:aj) : Prop:=OH a1 fun d=>p1 [a0,d] M0 fun e c=>Q e c
def qW (p1:Nat) (p2:au) (a0:AV) (M0:RM) (Q:aj) : Prop:=sK p1 8 [(N .i64 0)] (N .i64 0) (N .i64 0) fun p m=>aQ p m M0 fun v h=>bC (fun o c e=>bA (ah c 0) fun w=>ae .lss w a0 fun x=>aA x ( fC (fun d=>p2 [(ah c 1)] e fun s g=>aA s ( bN p1 1 [(N .i64 0)] [(0,1,(ah c 1))] fun q n=>aQ q n g fun t i=>appW p1 1 8 [(N .i64 0)] false (ah c 0) t i fun u j=>d [u] j) ( d [(ah c 0)] g)) (fun y l=>ae .add (ah c 1) (N .i64 1) fun r=>o [(ah y 0),r] l)) ( Q (ah c 0) e)) [v,(N .i64 2)] h
def wH (p1 p2:au) (p3:Nat) (p4:au) (a0 a1:AV) (M0:RM) (Q:aj) : Prop:=bC (fun C c n=>ae .geq (ah c 1) (N .i64 0) fun D=>aA D ( fC (fun l=>dL .u64 (ah c 1) fun F=>iG .shl (N .u64 1) F fun G=>ae .or (ah c 0) G fun e=>p1 [e] n fun H r=>p1 [e] r fun I s=>p2 [H,I] s fun L x=>aQ (.row [(N .u64 0),(N .u64 0),(N .u64 0),(N .u64 0),(N .u64 0),(N .u64 0),(N .u64 0),(N .u64 0)] false p3 0) (fun j=>.ptr j 0) x fun d y=>aU y d L 8 fun z=>aQ (.row [(N .u64 0),(N .u64 0),(N .u64 0),(N .u64 0),(N .u64 0),(N .u64 0),(N .u64 0),(N .u64 0)] false p3 0) (fun j=>.ptr j 0) z fun g A=>dL .u64 a0 fun O=>bE g (N .i64 4) 8 1 fun P=>aU A P O 1 fun i=>fC (fun m=>aA a1 ( dK i d 8 fun q=>p1 [e] i fun S p=>dK p d 8 fun R=>(R=q∧p2 [q,S] p fun U B=>aU B d U 8 fun t=>jf [(N .u64 0),(N .u64 0),(N .u64 0),(N .u64 0),(N .u64 0),(N .u64 0),(N .u64 0),(N .u64 0)] [] fun V=>aU t g V 8 fun u=>dL .u64 a0 fun W=>bE g (N .i64 6) 8 1 fun X=>aU u X W 1 fun v=>m [] v)) ( m [] i)) (fun ve h=>dK h d 8 fun Y=>dK h g 8 fun Z=>p4 [Y,Z] h fun va o=>kS va fun vb=>aA vb ( l [e] o) ( l [(ah c 0)] o))) (fun vd w=>ae .sub (ah c 1) (N .i64 1) fun E=>C [(ah vd 0),E] w)) ( dL .u32 (ah c 0) fun vc=>Q vc n)) [(N .u64 0),(N .i64 36)] M0
def wT (a0 a1:AV) (M0:RM) (Q:aj) : Prop:=iG .shr a0 a1 fun g=>ae .sub (N .u64 32) a1 fun c=>iG .shl a0 c fun d=>ae .or g d fun e=>Q e M0
def iX (a0 a1:AV) (M0:RM) (Q:aj) : Prop:=dL .u64 a1 fun i=>ae .and i (N .u64 31) fun c=>iG .shl a0 c fun d=>ae .sub (N .u64 32) c fun e=>iG .shr a0 e fun g=>ae .or d g fun h=>Q h M0
def sV (a0:AV) (M0:RM) (Q:aj) : Prop:=bC (fun e c d=>ae .mul (ah c 0) (ah c 0) fun l=>ae .leq l a0 fun m=>aA m ( ae .rem a0 (ah c 0) fun h=>ae .eql h (N .i64 0) fun i=>aA i ( Q (Bo false) d) ( ae .add (ah c 0) (N .i64 1) fun g=>e [g] d)) ( ae .gtr a0 (N .i64 1) fun j=>Q j d)) [(N .i64 2)] M0
def tO (p1:Nat) (a0 a1:AV) (M0:RM) (Q:aj) : Prop:=lL p1 a0 fun w s=>aQ w s M0 fun E n=>lL p1 a1 fun x t=>aQ x t n fun P o=>aQ (.row [(N .u64 0),(N .u64 0),(N .u64 0),(N .u64 0),(N .u64 0),(N .u64 0),(N .u64 0),(N .u64 0)] false p1 0) (fun h=>.ptr h 0) o fun m p=>aQ (.row [(N .u64 0),(N .u64 0),(N .u64 0),(N .u64 0),(N .u64 0),(N .u64 0),(N .u64 0),(N .u64 0)] false p1 0) (fun h=>.ptr h 0) p fun i q=>bC (fun u c g=>ae .lss (ah c 0) (N .i64 8) fun z=>aA z ( bC (fun v d e=>ae .add (ah c 0) (ah d 1) fun B=>ae .lss B (N .i64 8) fun C=>aA C ( ae .add (ah c 0) (ah d 1) fun F=>bE i F 8 1 fun G=>ag e G fun H=>ae .add (ah d 0) H fun I=>bE E (ah c 0) 8 1 fun L=>ag e L fun O=>bE P (ah d 1) 8 1 fun R=>ag e R fun S=>ae .mul O S fun U=>ae .add I U fun l=>ae .add (ah c 0) (ah d 1) fun V=>ae .and l (N .u64 65535) fun W=>bE i V 8 1 fun X=>aU e X W 1 fun r=>iG .shr l (N .u64 16) fun Y=>ae .add (ah d 1) (N .i64 1) fun D=>v [Y,D] r) ( ae .add (ah c 0) (N .i64 1) fun A=>u [A] e)) [(N .u64 0),(N .i64 0)] g) ( dK g i 8 fun Z=>aU g m Z 8 fun j=>dK j m 8 fun y=>Q y j)) [(N .i64 0)] q
def BQ (p1:Nat) (a0:AV) (M0:RM) (Q:aj) : Prop:=aQ (.row [(N .u64 0),(N .u64 0),(N .u64 0),(N .u64 0),(N .u64 0),(N .u64 0),(N .u64 0),(N .u64 0)] false p1 0) (fun g=>.ptr g 0) M0 fun d e=>ae .and a0 (N .u64 65535) fun j=>iG .shr a0 (N .u64 16) fun l=>ae .and l (N .u64 65535) fun m=>iG .shr a0 (N .u64 32) fun n=>jf [(N .u64 0),(N .u64 0),(N .u64 0),(N .u64 0),(N .u64 0),(N .u64 0),(N .u64 0),(N .u64 0)] [(0,1,j),(1,1,m),(2,1,n)] fun i=>aU e d i 8 fun c=>dK c d 8 fun h=>Q h c
def tT (p1:Nat) (a0 a1:AV) (M0:RM) (Q:aj) : Prop:=lL p1 a0 fun n j=>aQ n j M0 fun e h=>lL p1 a1 fun o l=>aQ o l h fun g i=>bC (fun m d c=>ae .geq (ah d 0) (N .i64 0) fun z=>aA z ( bE e (ah d 0) 8 1 fun p=>ag c p fun q=>bE g (ah d 0) 8 1 fun r=>ag c r fun s=>ae .neq q s fun t=>aA t ( bE e (ah d 0) 8 1 fun u=>ag c u fun v=>bE g (ah d 0) 8 1 fun w=>ag c w fun x=>ae .gtr v x fun y=>Q y c) ( ae .sub (ah d 0) (N .i64 1) fun A=>m [A] c)) ( Q (Bo false) c)) [(N .i64 7)] i
set_option maxRecDepth 10000
def bB:Enc Int:=⟨1,fun n=>[N .u32 n],fun _=>rfl,fun _=>rfl⟩
theorem kK (xs:List Int) : bB.row xs=xs.map (N .u32):=by
 induction xs with
 | nil=>rfl
 | cons x xs ih=>rw[Enc.gJ,ih]; rfl
theorem iQ (xs:List Int) : (bB.row xs).length=xs.length:=by rw[kK,List.length_map]
def dB (a b:Int) : Int:=IntKind.u32.wrap (a + b)
def ny (x n:Int) : Int:=yC .u32 (jc .u32 x n) (Ah .u32 x (32 - n))
def Le (a b c:Int) : Int:=CV .u32 (CV .u32 a b) c
def XT (x:Int) : Int:=Le (ny x 7) (ny x 18) (jc .u32 x 3)
def Wv (x:Int) : Int:=Le (ny x 17) (ny x 19) (jc .u32 x 10)
def ZQ (x:Int) : Int:=CV .u32 4294967295 x
def Y6 (e f g:Int) : Int:=CV .u32 (oW .u32 e f) (oW .u32 (ZQ e) g)
def aaa (a b c:Int) : Int:=CV .u32 (CV .u32 (oW .u32 a b) (oW .u32 a c)) (oW .u32 b c)
theorem YI (n:Int) : IntKind.u32.wrap n=n % 4294967296:=by
 simp only[IntKind.wrap,IntKind.bits,IntKind.signed,IntKind.max,IntKind.min]
 simp
theorem QH (a b:Int) : dB a b=dB b a:=by unfold dB; rw[Int.add_comm]
theorem Sc (a b c:Int) : dB (dB a b) c=dB (dB a c) b:=by unfold dB; simp only[YI]; omega
def Tj (b:Str) (i:Nat) : Int:=yC .u32 (yC .u32 (yC .u32 (Ah .u32 (IntKind.u32.wrap ((b.getD (4 * i) 0).toNat:Int)) 24) (Ah .u32 (IntKind.u32.wrap ((b.getD (4 * i + 1) 0).toNat:Int)) 16)) (Ah .u32 (IntKind.u32.wrap ((b.getD (4 * i + 2) 0).toNat:Int)) 8)) (IntKind.u32.wrap ((b.getD (4 * i + 3) 0).toNat:Int))
def Gr (l:List Int) (i:Nat) : Int:=dB (dB (dB (l.getD (i - 16) 0) (XT (l.getD (i - 15) 0))) (l.getD (i - 7) 0)) (Wv (l.getD (i - 2) 0))
def sched (b:Str) : Nat→List Int
 | 0=>[]
 | i + 1=>sched b i++[if i<16 then Tj b i else Gr (sched b i) i]
theorem jk (b:Str) : ∀ i,(sched b i).length=i
 | 0=>rfl
 | i + 1=>by rw[sched,List.length_append,jk b i]; rfl
def Ou (v:List Int) (k w:Int) : List Int:=match v with
 | [a,b,c,d,e,f,g,h] =>
   [dB (dB (dB (dB (dB h (Le (ny e 6) (ny e 11) (ny e 25))) (Y6 e f g)) k) w) (dB (Le (ny a 2) (ny a 13) (ny a 22)) (aaa a b c)),a,b,c,
    dB d (dB (dB (dB (dB h (Le (ny e 6) (ny e 11) (ny e 25))) (Y6 e f g)) k) w),e,f,g]
 | _=>v
def oz (k w:List Int) (h:List Int) : Nat→List Int
 | 0=>h
 | i + 1=>Ou (oz k w h i) (k.getD i 0) (w.getD i 0)
theorem eight {l:List Int} (h:l.length=8) : ∃ a b c d e f g i,l=[a,b,c,d,e,f,g,i]:=by
 rcases l with _ | ⟨a,_ | ⟨b,_ | ⟨c,_ | ⟨d,_ | ⟨e,_ | ⟨f,_ | ⟨g,_ | ⟨i,_ | ⟨j,l⟩⟩⟩⟩⟩⟩⟩⟩⟩ <;> first | (simp at h; done) | exact⟨_,_,_,_,_,_,_,_,rfl⟩ | (simp at h; omega)
theorem Og {v:List Int} (h:v.length=8) (k w:Int) : (Ou v k w).length=8:=by
 obtain⟨a,b,c,d,e,f,g,i,rfl⟩:=eight h
 rfl
theorem zN (k w:List Int) {h:List Int} (hl:h.length=8) : ∀ i,(oz k w h i).length=8
 | 0=>hl
 | i + 1=>Og (zN k w hl i) _ _
def lN (h k:List Int) (b:Str) : List Int:=List.zipWith dB h (oz k (sched b 64) h 64)
theorem PG {h:List Int} (k:List Int) (b:Str) (hl:h.length=8) : (lN h k b).length=8:=by
 unfold lN; rw[List.length_zipWith,zN k _ hl,hl]; rfl
section
variable {M:RM} {b T:Nat} {ws:List Int}
theorem nG (h:M.heap b=some (.row (bB.row ws) false T 0)) {i:Nat} (hi:i<ws.length) {K:AV→Prop} : ag M (.ptr b i) K=K (N .u32 (ws.getD i 0)):=by
 refine aH h ?_
 rw[kK,List.getElem?_map,List.getElem?_eq_getElem hi]
 simp[List.getD,hi]
theorem qD (h:M.heap b=some (.row (bB.row ws) false T 0)) {i:Nat} (hi:i<ws.length) (x:Int) {K:RM→Prop} : aU M (.ptr b i) (N .u32 x) 1 K=K (M.put b (.row (bB.row (ws.set i x)) false T 0)):=by
 refine gB _ h (by rw[iQ]; exact hi) rfl rfl ?_
 rw[kK,kK,List.map_set]
theorem bO {k:IntKind} {j:Int} {i len:Nat} (hj:j=(i:Int)) (hi:i<len) {K:AV→Prop} : bE (.ptr b 0) (N k j) len 1 K=K (.ptr b i):=by
 subst hj
 rw[Tv]
 simp only[Int.toNat_natCast,Nat.mul_one,Nat.zero_add]
 exact propext ⟨fun h=>h.2.2,fun h=>⟨by omega,by omega,h⟩⟩
end
theorem set_mid {l:List Int} {n:Nat} {x z:Int} (hn:0<n) : (l++List.replicate n z).set l.length x=(l++[x])++List.replicate (n - 1) z:=by
 obtain⟨m,rfl⟩ : ∃ m,n=m + 1:=⟨n - 1,by omega⟩
 rw[List.replicate_succ,List.set_append_right _ _ (Nat.le_refl _),Nat.sub_self]
 simp
theorem JD {l r:List Int} {i:Nat} (h:i<l.length) : (l++r).getD i 0=l.getD i 0:=by simp[List.getD,List.getElem?_append_left h]
theorem BD (b:Str) {i:Nat} (hi:i<64) : (sched b i++List.replicate (64 - i) 0).set i (if i<16 then Tj b i else Gr (sched b i) i)=sched b (i + 1)++List.replicate (64 - (i + 1)) 0:=by
 have:=set_mid (l:=sched b i) (n:=64 - i) (x:=if i<16 then Tj b i else Gr (sched b i) i) (z:=0) (by omega)
 rw[jk] at this
 rw[this,sched]
 congr 2
def turns:List Int:=[2,6,7,11,13,17,18,19,22,25]
def DK (kd:IntKind) (c:au) : Prop:=∀ {M:RM} {x n:Int} {Q:aj},n∈turns→Q (N .u32 (ny x n)) M→c [N .u32 x,N kd n] M Q
def SI (c:au) : Prop:=∀ {M:RM} {x n:Int} {Q:aj},n∈turns→Q (N .u32 (ny x n)) M→c [N .u32 x,N .i64 (IntKind.i64.wrap (0 - n))] M Q
theorem QK:∀ n∈turns,oW .u64 (IntKind.u64.wrap (IntKind.i64.wrap (0 - n))) 31=32 - n:=by decide +kernel
theorem IY:∀ n∈turns,IntKind.u64.wrap (32 - (32 - n))=n∧IntKind.u64.wrap (32 - n)=32 - n∧0≤n∧0≤32 - n:=by decide +kernel
theorem Sd (k:IntKind) (a b:Int) : yC k a b=yC k b a:=by unfold yC; rw[BitVec.or_comm]
theorem SB:SI fun args M Q=>∃ a0 a1,args=[a0,a1]∧iX a0 a1 M Q:=by
 intro M x n Q hn hQ
 refine⟨_,_,rfl, ?_⟩
 unfold iX
 obtain⟨h1,h2,h3,h4⟩:=IY n hn
 rw[bT,dE,QK n hn,jd]
 refine⟨h4, ?_⟩
 rw[gq,h1,gK]
 refine⟨h3, ?_⟩
 rw[dx,Sd]
 exact hQ
theorem RQ {c:au} (hc:SI c) : DK .i64 fun args M Q=>∃ a0 a1,args=[a0,a1]∧yL c a0 a1 M Q:=by
 intro M x n Q hn hQ
 refine⟨_,_,rfl, ?_⟩
 unfold yL
 rw[WH]
 exact hc hn hQ
theorem Md:DK .u64 fun args M Q=>∃ a0 a1,args=[a0,a1]∧wT a0 a1 M Q:=by
 intro M x n Q hn hQ
 refine⟨_,_,rfl, ?_⟩
 unfold wT
 obtain⟨h1,h2,h3,h4⟩:=IY n hn
 rw[gK]
 refine⟨h3, ?_⟩
 rw[gq,h2,jd]
 refine⟨h4, ?_⟩
 rw[dx]
 exact hQ
end Go.Ab.Sha
namespace Go.Ab.Sha
open Go Go.Ab Go.Ab.Sm
theorem Bq {i:Nat} (hi:i<1000) {K:AV→Prop} : ae .mul (N .i64 4) (N .i64 (i:Int)) K=K (N .i64 ((4 * i:Nat) : Int)):=by
 rw[fo,aL (by omega) (by omega)]; rfl
theorem eT {i:Nat} (j:Nat) (hi:i<1000000000) (hj:j<1000) {K:AV→Prop} {n:Int} (hn:n=(j:Int)) : ae .add (N .i64 (i:Int)) (N .i64 n) K=K (N .i64 ((i + j:Nat) : Int)):=by
 subst hn; exact addN (by omega)
theorem vU {i:Nat} (j:Nat) (hi:i<1000000000) (hj:j≤i) {K:AV→Prop} {n:Int} (hn:n=(j:Int)) : ae .sub (N .i64 (i:Int)) (N .i64 n) K=K (N .i64 ((i - j:Nat) : Int)):=by
 subst hn; exact O1 hj (by omega)
theorem lJ {i:Nat} (j:Nat) {K:AV→Prop} {n:Int} (hn:n=(j:Int)) : ae .lss (N .i64 (i:Int)) (N .i64 n) K=K (Bo (decide (i<j))):=by
 subst hn; exact jQ
theorem Bs.vE {M:RM} {v:AV} {b:Str} (h:Bs M v b) {i:Nat} (hi:i<b.length) {K:AV→Prop} : (aZ v (N .i64 (i:Int)) 1 fun t=>ag M t K)=K (By (b.getD i 0)):=by
 rw[h.read hi]; simp[List.getD,hi]
theorem Lh {h v:List Int} {j:Nat} (hj:j<8) (hh:h.length=8) (hv:v.length=8) :
  ((List.zipWith dB h v).take j++h.drop j).set j (dB (h.getD j 0) (v.getD j 0))=(List.zipWith dB h v).take (j + 1)++h.drop (j + 1):=by
 have hz:(List.zipWith dB h v).length=8:=by rw[List.length_zipWith,hh,hv]; rfl
 have h1:((List.zipWith dB h v).take j).length=j:=by rw[List.length_take]; omega
 have h2:h.drop j=h[j] :: h.drop (j + 1):=List.drop_eq_getElem_cons (by omega)
 rw[h2,List.set_append_right _ _ (by omega),h1,Nat.sub_self,List.set_cons_zero,List.take_succ_eq_append_getElem (by omega),List.append_assoc]
 congr 1
 rw[List.getElem_zipWith]
 simp[List.getD,show j<h.length by omega,show j<v.length by omega]
theorem NK {h v:List Int} {j:Nat} (hj:j<8) (hh:h.length=8) (hv:v.length=8) : ((List.zipWith dB h v).take j++h.drop j).getD j 0=h.getD j 0:=by
 have hz:(List.zipWith dB h v).length=8:=by rw[List.length_zipWith,hh,hv]; rfl
 have h1:((List.zipWith dB h v).take j).length=j:=by rw[List.length_take]; omega
 simp[List.getD,List.getElem?_append_right (show((List.zipWith dB h v).take j).length≤j by omega),h1]
theorem NR {h v:List Int} {j:Nat} (hj:j≤8) (hh:h.length=8) (hv:v.length=8) : ((List.zipWith dB h v).take j++h.drop j).length=8:=by
 rw[List.length_append,List.length_take,List.length_drop,List.length_zipWith,hh,hv]; omega
theorem je {cs:List AV} {rest:List (Nat × Nat × AV)} {off:Nat} {k:IntKind} {n:Int} (h:off<cs.length) : lc cs ((off,1,N k n) :: rest)=lc (cs.set off (N k n)) rest:=by
 rw[lc,if_pos ⟨rfl,rfl,by omega⟩,List.set_eq_take_append_cons_drop,if_pos h,List.append_assoc]
 rfl
theorem Yz {a b c d e f g h:Int} : lc [N .u32 0,N .u32 0,N .u32 0,N .u32 0,N .u32 0,N .u32 0,N .u32 0,N .u32 0] [(0,1,N .u32 a),(1,1,N .u32 b),(2,1,N .u32 c),(3,1,N .u32 d),(4,1,N .u32 e),(5,1,N .u32 f),(6,1,N .u32 g),(7,1,N .u32 h)]=some (bB.row [a,b,c,d,e,f,g,h]):=by
 rw[je (by decide)]
 simp only[List.set]
 rw[je (by simp)]
 simp only[List.set]
 rw[je (by simp)]
 simp only[List.set]
 rw[je (by simp)]
 simp only[List.set]
 rw[je (by simp)]
 simp only[List.set]
 rw[je (by simp)]
 simp only[List.set]
 rw[je (by simp)]
 simp only[List.set]
 rw[je (by simp)]
 simp only[List.set]
 rfl
def OB (TK TS:Nat) (c:au) : Prop:=∀ {M:RM} {sb kb:Nat} {bv:AV} {h k:List Int} {b:Str} {Q:aj},M.heap sb=some (.row (bB.row h) false TS 0)→sb<M.next→h.length=8 →
 M.heap kb=some (.row (bB.row k) false TK 0)→kb<M.next→kb≠sb→k.length=64→Bs M bv b→b.length=64 →
 (∀ M',aa [sb] M M'→M'.heap sb=some (.row (bB.row (lN h k b)) false TS 0)→Q (.tup []) M')→c [.ptr sb 0,bv,.ptr kb 0] M Q
theorem QO {TK TS:Nat} {ct:au} (ht:DK .i64 ct) : OB TK TS fun args M Q=>∃ a0 a1 a2,args=[a0,a1,a2]∧nE TK ct TS a0 a1 a2 M Q:=by
 intro M sb kb bv h k b Q hs hsl hhl hk hkl hks hkn hb hbl hQ
 refine⟨_,_,_,rfl, ?_⟩
 unfold nE
 rw[aN]
 have k0:aa [] M (M.push (.row (bB.row (List.replicate 64 0)) false TK 0)):=(aa.refl _ _).push _
 have n0:(M.push (.row (bB.row (List.replicate 64 0)) false TK 0)).heap M.next=some (.row (bB.row (sched b 0++List.replicate (64 - 0) 0)) false TK 0):=by simp[RM.push,sched]
 have l0:M.next<(M.push (.row (bB.row (List.replicate 64 0)) false TK 0)).next:=by simp[RM.push]
 show bC _ _ (M.push (.row (bB.row (List.replicate 64 0)) false TK 0))
 generalize M.push (.row (bB.row (List.replicate 64 0)) false TK 0)=M0 at *
 refine aM (fun m ys M3=>∃ i:Nat,m=16 - i∧ys=[N .i64 (i:Int)]∧i≤16∧aa [] M M3∧M.next<M3.next∧M3.heap M.next=some (.row (bB.row (sched b i++List.replicate (64 - i) 0)) false TK 0)) _
  ⟨0,rfl,rfl,by omega,k0,l0,n0⟩ ?_
 rintro next m ys M3 hnext ⟨i,rfl,rfl,hi,k3,l3,n3⟩
 simp only[aI]
 rw[lJ 16 (by rfl)]
 have hb3:=hb.keep k3 (by simp)
 refine aS (fun hc=>?_) fun hc=>?_
 ·have Fy:i<16:=of_decide_eq_true hc
  rw[Bq (by omega),hb3.vE (by omega),By,bT,jd]
  refine⟨by decide, ?_⟩
  rw[Bq (by omega),eT 1 (by omega) (by omega) (by rfl),hb3.vE (by omega),By,bT,jd]
  refine⟨by decide, ?_⟩
  rw[dx,Bq (by omega),eT 2 (by omega) (by omega) (by rfl),hb3.vE (by omega),By,bT,jd]
  refine⟨by decide, ?_⟩
  rw[dx,Bq (by omega),eT 3 (by omega) (by omega) (by rfl),hb3.vE (by omega),By,bT,dx,bO rfl (by omega)]
  have e:=BD b (i:=i) (by omega)
  rw[if_pos Fy] at e
  have hlen:(sched b i++List.replicate (64 - i) 0).length=64:=by rw[List.length_append,jk,List.length_replicate]; omega
  rw[qD n3 (by omega),eT 1 (by omega) (by omega) (by rfl)]
  refine hnext _ _ _ (by omega) ⟨i + 1,rfl,rfl,by omega,k3.new _ (Nat.le_refl _),l3, ?_⟩
  rw[aG,← e]
  rfl
 have Fy:i=16:=by have:=of_decide_eq_false hc; omega
 subst Fy
 clear hnext
 refine aM (fun m ys M4=>∃ i:Nat,m=64 - i∧ys=[N .i64 (i:Int)]∧16≤i∧i≤64∧aa [] M M4∧M.next<M4.next∧M4.heap M.next=some (.row (bB.row (sched b i++List.replicate (64 - i) 0)) false TK 0)) _
  ⟨16,rfl,rfl,by omega,by omega,k3,l3,n3⟩ ?_
 rintro next m ys M4 hnext ⟨i,rfl,rfl,hi0,hi,k4,l4,n4⟩
 simp only[aI]
 rw[lJ 64 (by rfl)]
 refine aS (fun hc=>?_) fun hc=>?_
 ·have kU:i<64:=of_decide_eq_true hc
  have hlen:(sched b i++List.replicate (64 - i) 0).length=64:=by rw[List.length_append,jk,List.length_replicate]; omega
  have ld:∀ (j:Nat),j<i→∀ {K:AV→Prop},ag M4 (.ptr M.next j) K=K (N .u32 ((sched b i).getD j 0)):=fun j hj K=>by
   rw[nG n4 (by omega),JD (by rw[jk]; exact hj)]
  have L15:∀ {K:AV→Prop},ag M4 (.ptr M.next (i - 15)) K=K (N .u32 ((sched b i).getD (i - 15) 0)):=ld _ (by omega)
  have L2:∀ {K:AV→Prop},ag M4 (.ptr M.next (i - 2)) K=K (N .u32 ((sched b i).getD (i - 2) 0)):=ld _ (by omega)
  have L16:∀ {K:AV→Prop},ag M4 (.ptr M.next (i - 16)) K=K (N .u32 ((sched b i).getD (i - 16) 0)):=ld _ (by omega)
  have L7:∀ {K:AV→Prop},ag M4 (.ptr M.next (i - 7)) K=K (N .u32 ((sched b i).getD (i - 7) 0)):=ld _ (by omega)
  rw[vU 15 (by omega) (by omega) (by rfl),bO rfl (by omega),L15,vU 2 (by omega) (by omega) (by rfl),bO rfl (by omega),L2,vU 16 (by omega) (by omega) (by rfl),bO rfl (by omega),L16,gK]
  refine⟨by decide, ?_⟩
  rw[vU 7 (by omega) (by omega) (by rfl),bO rfl (by omega),L7,gK]
  refine⟨by decide, ?_⟩
  refine ht (by decide) ?_
  rw[L16]; refine⟨rfl, ?_⟩
  rw[L7]; refine⟨rfl, ?_⟩
  refine ht (by decide) ?_
  rw[L16]; refine⟨rfl, ?_⟩
  rw[L7]; refine⟨rfl, ?_⟩
  rw[di,di,bi,bi]
  refine ht (by decide) ?_
  rw[L16]; refine⟨rfl, ?_⟩
  rw[L7]; refine⟨rfl, ?_⟩
  refine ht (by decide) ?_
  rw[L16]; refine⟨rfl, ?_⟩
  rw[L7]; refine⟨rfl, ?_⟩
  rw[di,di,bi,bO rfl (by omega)]
  have e:=BD b (i:=i) (by omega)
  rw[if_neg (by omega)] at e
  rw[qD n4 (by omega),eT 1 (by omega) (by omega) (by rfl)]
  refine hnext _ _ _ (by omega) ⟨i + 1,rfl,rfl,by omega,by omega,k4.new _ (Nat.le_refl _),l4, ?_⟩
  rw[aG,← e]
  rfl
 have kU:i=64:=by have:=of_decide_eq_false hc; omega
 subst kU
 clear hnext
 rw[Nat.sub_self,List.replicate_zero,List.append_nil] at n4
 have hwl:=jk b 64
 generalize hwe:sched b 64=w at *
 have hs4:=k4.az hs hsl (by simp)
 have hk4:=k4.az hk hkl (by simp)
 rw[bF,dX hs4 (by rw[iQ,hhl]),aN]
 have n5:(M4.push (.row [N .u32 0,N .u32 0,N .u32 0,N .u32 0,N .u32 0,N .u32 0,N .u32 0,N .u32 0] false TS 0)).heap M4.next=some (.row [N .u32 0,N .u32 0,N .u32 0,N .u32 0,N .u32 0,N .u32 0,N .u32 0,N .u32 0] false TS 0):=by simp[RM.push]
 rw[kH n5 (by rw[iQ,hhl]) (by rfl) (bB.bX h)]
 have k5:aa [] M4 ((M4.push (.row [N .u32 0,N .u32 0,N .u32 0,N .u32 0,N .u32 0,N .u32 0,N .u32 0,N .u32 0] false TS 0)).put M4.next (.row (bB.row h) false TS 0)):=((aa.refl _ _).push _).new _ (Nat.le_refl _)
 have n5' : ((M4.push (.row [N .u32 0,N .u32 0,N .u32 0,N .u32 0,N .u32 0,N .u32 0,N .u32 0,N .u32 0] false TS 0)).put M4.next (.row (bB.row h) false TS 0)).heap M4.next=some (.row (bB.row (oz k w h 0)) false TS 0):=aG _
 have l5:M4.next<((M4.push (.row [N .u32 0,N .u32 0,N .u32 0,N .u32 0,N .u32 0,N .u32 0,N .u32 0,N .u32 0] false TS 0)).put M4.next (.row (bB.row h) false TS 0)).next:=by simp[RM.push,RM.put]
 generalize (M4.push (.row [N .u32 0,N .u32 0,N .u32 0,N .u32 0,N .u32 0,N .u32 0,N .u32 0,N .u32 0] false TS 0)).put M4.next (.row (bB.row h) false TS 0)=M5 at *
 refine aM (fun m ys M6=>∃ i:Nat,m=64 - i∧ys=[N .i64 (i:Int)]∧i≤64∧aa [] M4 M6∧M4.next<M6.next∧M6.heap M4.next=some (.row (bB.row (oz k w h i)) false TS 0)) _
  ⟨0,rfl,rfl,by omega,k5,l5,n5'⟩ ?_
 rintro next m ys M6 hnext ⟨i,rfl,rfl,hi,k6,l6,n6⟩
 simp only[aI]
 rw[lJ 64 (by rfl)]
 have hs6:=k6.az hs4 (Nat.lt_of_lt_of_le hsl k4.next) (by simp)
 have hk6:=k6.az hk4 (Nat.lt_of_lt_of_le hkl k4.next) (by simp)
 have n46:=k6.az n4 l4 (by simp)
 have hrl:=zN k w hhl i
 refine aS (fun hc=>?_) fun hc=>?_
 ·have kU:i<64:=of_decide_eq_true hc
  have hstep:oz k w h (i + 1)=Ou (oz k w h i) (k.getD i 0) (w.getD i 0):=rfl
  obtain⟨va,vb,vc,vd,ve,vf,vg,vh,hv⟩:=eight hrl
  rw[hv] at n6 hstep
  have hrow:bB.row [va,vb,vc,vd,ve,vf,vg,vh]=[N .u32 va,N .u32 vb,N .u32 vc,N .u32 vd,N .u32 ve,N .u32 vf,N .u32 vg,N .u32 vh]:=rfl
  rw[hrow] at n6
  have I:∀ (j:Nat),j<8→∀ {K:AV→Prop},bE (.ptr M4.next 0) (N .i64 (j:Int)) 8 1 K=K (.ptr M4.next j):=fun j hj K=>bO rfl hj
  have I0:∀ {K:AV→Prop},bE (.ptr M4.next 0) (N .i64 0) 8 1 K=K (.ptr M4.next 0):=I 0 (by omega)
  have I1:∀ {K:AV→Prop},bE (.ptr M4.next 0) (N .i64 1) 8 1 K=K (.ptr M4.next 1):=I 1 (by omega)
  have I2:∀ {K:AV→Prop},bE (.ptr M4.next 0) (N .i64 2) 8 1 K=K (.ptr M4.next 2):=I 2 (by omega)
  have I3:∀ {K:AV→Prop},bE (.ptr M4.next 0) (N .i64 3) 8 1 K=K (.ptr M4.next 3):=I 3 (by omega)
  have I4:∀ {K:AV→Prop},bE (.ptr M4.next 0) (N .i64 4) 8 1 K=K (.ptr M4.next 4):=I 4 (by omega)
  have I5:∀ {K:AV→Prop},bE (.ptr M4.next 0) (N .i64 5) 8 1 K=K (.ptr M4.next 5):=I 5 (by omega)
  have I6:∀ {K:AV→Prop},bE (.ptr M4.next 0) (N .i64 6) 8 1 K=K (.ptr M4.next 6):=I 6 (by omega)
  have I7:∀ {K:AV→Prop},bE (.ptr M4.next 0) (N .i64 7) 8 1 K=K (.ptr M4.next 7):=I 7 (by omega)
  have L0:∀ {K:AV→Prop},ag M6 (.ptr M4.next 0) K=K (N .u32 va):=aH n6 rfl
  have L1:∀ {K:AV→Prop},ag M6 (.ptr M4.next 1) K=K (N .u32 vb):=aH n6 rfl
  have L2:∀ {K:AV→Prop},ag M6 (.ptr M4.next 2) K=K (N .u32 vc):=aH n6 rfl
  have L3:∀ {K:AV→Prop},ag M6 (.ptr M4.next 3) K=K (N .u32 vd):=aH n6 rfl
  have L4:∀ {K:AV→Prop},ag M6 (.ptr M4.next 4) K=K (N .u32 ve):=aH n6 rfl
  have L5:∀ {K:AV→Prop},ag M6 (.ptr M4.next 5) K=K (N .u32 vf):=aH n6 rfl
  have L6:∀ {K:AV→Prop},ag M6 (.ptr M4.next 6) K=K (N .u32 vg):=aH n6 rfl
  have L7:∀ {K:AV→Prop},ag M6 (.ptr M4.next 7) K=K (N .u32 vh):=aH n6 rfl
  have Ik:∀ {K:AV→Prop},bE (.ptr kb 0) (N .i64 (i:Int)) 64 1 K=K (.ptr kb i):=bO rfl kU
  have Iw:∀ {K:AV→Prop},bE (.ptr M.next 0) (N .i64 (i:Int)) 64 1 K=K (.ptr M.next i):=bO rfl kU
  have Lk:∀ {K:AV→Prop},ag M6 (.ptr kb i) K=K (N .u32 (k.getD i 0)):=nG hk6 (by omega)
  have Lw:∀ {K:AV→Prop},ag M6 (.ptr M.next i) K=K (N .u32 (w.getD i 0)):=nG n46 (by omega)
  simp only[I0,I1,I2,I3,I4,I5,I6,I7,L0,L1,L2,L3,L4,L5,L6,L7,bF,Ik,Iw,Lk,Lw,dE,dx,di,bi,gm,true_and]
  refine ht (by decide) ?_
  simp only[I0,I1,I2,I3,I4,I5,I6,I7,L0,L1,L2,L3,L4,L5,L6,L7,bF,Ik,Iw,Lk,Lw,dE,dx,di,bi,gm,true_and]
  refine ht (by decide) ?_
  simp only[I0,I1,I2,I3,I4,I5,I6,I7,L0,L1,L2,L3,L4,L5,L6,L7,bF,Ik,Iw,Lk,Lw,dE,dx,di,bi,gm,true_and]
  refine ht (by decide) ?_
  simp only[I0,I1,I2,I3,I4,I5,I6,I7,L0,L1,L2,L3,L4,L5,L6,L7,bF,Ik,Iw,Lk,Lw,dE,dx,di,bi,gm,true_and]
  refine ht (by decide) ?_
  simp only[I0,I1,I2,I3,I4,I5,I6,I7,L0,L1,L2,L3,L4,L5,L6,L7,bF,Ik,Iw,Lk,Lw,dE,dx,di,bi,gm,true_and]
  refine ht (by decide) ?_
  simp only[I0,I1,I2,I3,I4,I5,I6,I7,L0,L1,L2,L3,L4,L5,L6,L7,bF,Ik,Iw,Lk,Lw,dE,dx,di,bi,gm,true_and]
  refine ht (by decide) ?_
  simp only[I0,I1,I2,I3,I4,I5,I6,I7,L0,L1,L2,L3,L4,L5,L6,L7,bF,Ik,Iw,Lk,Lw,dE,dx,di,bi,gm,true_and]
  rw[jm]
  refine⟨_,Yz, ?_⟩
  rw[kH n6 (by rw[iQ]; rfl) (by rfl) (bB.bX _),show(IntKind.i64.wrap ((i:Int) + 1))=((i + 1:Nat) : Int) from lH (by omega)]
  refine hnext _ _ _ (by omega) ⟨i + 1,rfl,rfl,by omega,k6.new _ (Nat.le_refl _),l6, ?_⟩
  rw[aG,hstep]
  rfl
 have kU:i=64:=by have:=of_decide_eq_false hc; omega
 subst kU
 clear hnext
 have hbf:lN h k b=List.zipWith dB h (oz k w h 64):=by
  unfold lN
  rw[hwe]
 rw[hbf] at hQ
 generalize oz k w h 64=v at *
 rw[dX n6 (by rw[iQ,hrl])]
 have k46:=k4.trans k6
 refine aM (fun m ys M7=>∃ j:Nat,m=8 - j∧ys=[N .i64 (j:Int)]∧j≤8∧aa [sb] M M7∧M7.heap sb=some (.row (bB.row ((List.zipWith dB h v).take j++h.drop j)) false TS 0)) _
  ⟨0,rfl,rfl,by omega,k46.mono (by simp),by rw[List.take_zero,List.drop_zero]; exact hs6⟩ ?_
 rintro next m ys M7 hnext ⟨j,rfl,rfl,hj,k7,s7⟩
 simp only[aI]
 rw[lJ 8 (by rfl)]
 refine aS (fun hc=>?_) fun hc=>?_
 ·have hj8:j<8:=of_decide_eq_true hc
  rw[JK]
  refine⟨by omega,by omega,N .u32 (v.getD j 0), ?_, ?_⟩
  ·rw[Int.toNat_natCast,kK,List.getElem?_map,List.getElem?_eq_getElem (by omega)]
   simp[List.getD,show j<v.length by omega]
  have hl7:=NR (v:=v) (Nat.le_of_lt hj8) hhl hrl
  rw[bF,bO rfl hj8,nG s7 (by omega),bi,bF,bO rfl hj8,qD s7 (by omega),eT 1 (by omega) (by omega) (by rfl)]
  refine hnext _ _ _ (by omega) ⟨j + 1,rfl,rfl,by omega,k7.put _ (.inr (by simp)), ?_⟩
  rw[aG,NK hj8 hhl hrl,← Lh hj8 hhl hrl]
  rfl
 ·have hj8:j=8:=by have:=of_decide_eq_false hc; omega
  subst hj8
  refine hQ M7 k7 ?_
  rw[s7,List.drop_of_length_le (by omega),List.append_nil,List.take_of_length_le (by rw[List.length_zipWith]; omega)]
end Go.Ab.Sha
set_option maxRecDepth 100000
namespace Go.Ab.aR
open Go Go.Ab
def UW (p1:Nat) (M0:RM) (Q:aj) : Prop:=jf [(N .u64 0),(.sc (.slice none 0 0)),(N .u64 0),(.sc (.slice none 0 0)),(N .u64 0),(.sc (.slice none 0 0)),(N .u64 0),(.sc (.slice none 0 0)),(N .u64 0),(.sc (.slice none 0 0)),(N .u64 0),(.sc (.slice none 0 0)),(N .u64 0),(.sc (.slice none 0 0)),(N .u64 0),(.sc (.slice none 0 0)),(N .u64 0),(.sc (.slice none 0 0)),(N .u64 0),(.sc (.slice none 0 0)),(N .u64 0),(.sc (.slice none 0 0)),(N .u64 0),(.sc (.slice none 0 0)),(N .u64 0),(.sc (.slice none 0 0)),(N .u64 0),(.sc (.slice none 0 0)),(N .u64 0),(.sc (.slice none 0 0)),(N .u64 0),(.sc (.slice none 0 0))] [] fun g=>lL p1 g fun e d=>aQ e d M0 fun h c=>Q h c
def Xz (p1 p2 p3:au) (a0:AV) (M0:RM) (Q:aj) : Prop:=p1 [] M0 fun h i=>bC (fun m c d=>bA a0 fun n=>ae .lss (ah c 1) n fun o=>aA o ( fC (fun g=>aZ a0 (ah c 1) 2 fun q=>dK d q 2 fun r=>p2 [h,r] d fun s e=>ae .eql s (N .i64 0) fun t=>aA t ( aZ a0 (ah c 1) 2 fun u=>dK e u 2 fun v=>p3 [(ah c 0),v] e fun w j=>g [w] j) ( g [(ah c 0)] e)) (fun x l=>ae .add (ah c 1) (N .i64 1) fun p=>m [(ah x 0),p] l)) ( Q (.tup [h,(ah c 0)]) d)) [(.sc (.slice none 0 0)),(N .i64 0)] i
def Ol (p1 p2:au) (a0:AV) (M0:RM) (Q:aj) : Prop:=p1 [a0] M0 fun r e=>bz r 0 fun j=>bz r 1 fun s=>ae .neq s (N .i64 0) fun E=>aA E ( ae .eql s (N .i64 14) fun i=>ay i true (fun c=>c j e) (fun c=>c .undef e) fun F l=>ay i true (fun w=>eZ false 1 F (.sc (.pointer none)) fun G=>w G l) (fun c=>c .undef l) fun H v=>aY i H (Bo false) fun I=>Q I v) ( eZ true 1 j (.sc (.pointer none)) fun d=>aD d true (fun B=>B j e none) (fun c=>c .undef e none) fun L o Z=>aD d true (fun C=>C a0 o none) (fun c=>c .undef o none) fun p h vd=>aD d true (fun D=>eD h p fun U=>D U h none) (fun c=>c .undef h none) fun q m va=>ay d true (fun x=>p2 [L] m fun O t=>x O t) (fun c=>c .undef m) fun P g=>BJ d true (fun y=>eD g p fun V=>(V=q∧y)) (fun c=>c) (aD d true (fun z=>eD g P fun R=>z R g none) (fun c=>c .undef g none) fun S n vb=>aD d true (fun A=>iY .eql S q fun W=>A W n none) (fun c=>c .undef n none) fun X u vc=>aY d X (Bo false) fun Y=>Q Y u))
def LH (p1:au) (p2:Nat) (a0:AV) (M0:RM) (Q:aj) : Prop:=p1 [a0] M0 fun h c=>jf [(.sc (.slice none 0 0)),(Bo false)] [(0,1,h)] fun i=>lL p2 i fun g e=>aQ g e c fun j d=>Q j d
def tX (p1:au) (a0 a1:AV) (M0:RM) (Q:aj) : Prop:=p1 [a0] M0 fun h g=>bz h 0 fun s=>bz h 1 fun C=>bz h 2 fun D=>ek a0 fun E=>fe E 1 fun F=>ag g F fun i=>ay i false (fun c=>c D g) (fun c=>c .undef g) fun G l=>ay i false (fun v=>kS G fun H=>v H l) (fun c=>c .undef l) fun I p=>aY i (Bo true) I fun j=>ay j false (fun z=>z a1 p) (fun c=>c .undef p) fun L q=>ay j false (fun A=>ae .lss L (N .i64 0) fun O=>A O q) (fun c=>c .undef q) fun P r=>aY j (Bo true) P fun d=>ay d false (fun B=>B s r) (fun c=>c .undef r) fun R m=>ay d false (fun w=>w a1 m) (fun c=>c .undef m) fun S n=>ay d false (fun x=>dL .u64 S fun U=>x U n) (fun c=>c .undef n) fun V o=>ay d false (fun y=>ae .gtr R V fun W=>y W o) (fun c=>c .undef o) fun X t=>aY d (Bo true) X fun Y=>ek a0 fun Z=>fe Z 1 fun va=>aU t va Y 1 fun e=>ek a0 fun vb=>fe vb 1 fun vc=>ag e vc fun vd=>aA vd ( Q (N .i64 0) e) ( ek a0 fun ve=>fe ve 0 fun vf=>ag e vf fun vg=>iN (dz 1 vg (some C) none none) fun vh=>ek a0 fun vi=>fe vi 0 fun vj=>aU e vj vh 1 fun u=>dL .i64 s fun vk=>Q vk u)
def sS (a0:AV) (M0:RM) (Q:aj) : Prop:=ek a0 fun c=>fe c 1 fun d=>ag M0 d fun e=>aA e ( Q (N .i64 14) M0) ( Q (N .i64 0) M0)
def Lm (p1:au) (p2:Nat) (a0 a1:AV) (M0:RM) (Q:aj) : Prop:=p1 [a0] M0 fun y e=>bC (fun n c d=>ae .geq (ah c 1) (N .u64 128) fun z=>aA z ( dL .u8 (ah c 1) fun r=>ae .or r (N .u8 128) fun s=>bN p2 1 [(N .u8 0)] [(0,1,s)] fun o l=>aQ o l d fun t g=>appW p2 1 1 [(N .u8 0)] false (ah c 0) t g fun u h=>iG .shr (ah c 1) (N .u64 7) fun q=>n [u,q] h) ( dL .u8 (ah c 1) fun v=>bN p2 1 [(N .u8 0)] [(0,1,v)] fun p m=>aQ p m d fun w i=>appW p2 1 1 [(N .u8 0)] false (ah c 0) w i fun x j=>Q x j)) [y,a1] e
def uq (p1:Nat) (a0:AV) (M0:RM) (Q:aj) : Prop:=eZ false 2 a0 (.sc (.slice none 0 0)) fun h=>aA h ( Q (.sc (.slice none 0 0)) M0) ( bN p1 0 [(N .u8 0)] [] fun g e=>aQ g e M0 fun i c=>appW p1 1 1 [(N .u8 0)] false i a0 c fun j d=>Q j d)
def oq (a0:AV) (M0:RM) (Q:aj) : Prop:=fC (fun l=>ek a0 fun vn=>fe vn 0 fun vo=>ag M0 vo fun F=>ek a0 fun G=>fe G 0 fun H=>ag M0 H fun I=>bA I fun L=>EC false L (N .i64 10) fun O=>iN (dz 1 F none (some O) none) fun u=>bA u fun P=>bC (fun E d e=>ae .lss (ah d 1) P fun R=>aA R ( aZ u (ah d 1) 1 fun S=>ag e S fun h=>ae .and h (N .u8 127) fun U=>dL .u64 U fun V=>ae .mul (N .i64 7) (ah d 1) fun W=>iG .shl V W fun X=>ae .or (ah d 0) X fun v=>ae .geq h (N .u8 128) fun Y=>aA Y ( ae .add (ah d 1) (N .i64 1) fun vm=>E [v,vm] e) ( ae .eql h (N .u8 0) fun i=>ay i true (fun c=>c (ah d 1) e) (fun c=>c .undef e) fun Z m=>ay i true (fun x=>ae .gtr Z (N .i64 0) fun va=>x va m) (fun c=>c .undef m) fun vb r=>aY i vb (Bo false) fun g=>ay g false (fun B=>B (ah d 1) r) (fun c=>c .undef r) fun vc s=>ay g false (fun C=>ae .eql vc (N .i64 9) fun vd=>C vd s) (fun c=>c .undef s) fun ve t=>ay g false (fun D=>D ve t) (fun c=>c .undef t) fun j n=>ay j true (fun y=>y h n) (fun c=>c .undef n) fun vf o=>ay j true (fun z=>ae .gtr vf (N .u8 1) fun vg=>z vg o) (fun c=>c .undef o) fun vh p=>ay g false (fun A=>aY j vh (Bo false) fun vi=>A vi p) (fun c=>c .undef p) fun vj q=>aY g (Bo true) vj fun vk=>aA vk ( l [] q) ( ae .add (ah d 1) (N .i64 1) fun vl=>Q (.tup [v,vl,(Bo true)]) q))) ( l [] e)) [(N .u64 0),(N .i64 0)] M0) (fun vp w=>Q (.tup [(N .u64 0),(N .i64 0),(Bo false)]) w)
def vX (p1:Nat) (p2:au) (a0:AV) (M0:RM) (Q:aj) : Prop:=ae .lss a0 (N .u64 128) fun s=>aA s ( dL .u8 a0 fun t=>bN p1 1 [(N .u8 0)] [(0,1,t)] fun j h=>aQ j h M0 fun u c=>Q u c) ( ae .rem a0 (N .u64 128) fun v=>dL .u8 v fun m=>ae .add m (N .u8 128) fun n=>bN p1 1 [(N .u8 0)] [(0,1,n)] fun l i=>aQ l i M0 fun o d=>ae .quo a0 (N .u64 128) fun p=>p2 [p] d fun q e=>appW p1 1 1 [(N .u8 0)] false o q e fun r g=>Q r g)
end Go.Ab.aR
set_option maxRecDepth 10000
namespace Go.Ab.Sha
open Go Go.Ab Go.Ab.Sm
def kW:List Int:=[1116352408,1899447441,3049323471,3921009573,961987163,1508970993,2453635748,2870763221,3624381080,310598401,607225278,1426881987,1925078388,2162078206,2614888103,3248222580,3835390401,4022224774,264347078,604807628,770255983,1249150122,1555081692,1996064986,2554220882,2821834349,2952996808,3210313671,3336571891,3584528711,113926993,338241895,666307205,773529912,1294757372,1396182291,1695183700,1986661051,2177026350,2456956037,2730485921,2820302411,3259730800,3345764771,3516065817,3600352804,4094571909,275423344,430227734,506948616,659060556,883997877,958139571,1322822218,1537002063,1747873779,1955562222,2024104815,2227730452,2361852424,2428436474,2756734187,3204031479,3329325298]
def hW:List Int:=[1779033703,3144134277,1013904242,2773480762,1359893119,2600822924,528734635,1541459225]
theorem BV:kW.length=64:=by decide
theorem FP:hW.length=8:=by decide
def bW (k:List Int) : Nat→List Int→Str→List Int
 | 0,h,_=>h
 | n + 1,h,m=>bW k n (lN h k (m.take 64)) (m.drop 64)
theorem mI {k:List Int} : ∀ {n:Nat} {h:List Int} {m:Str},h.length=8→(bW k n h m).length=8
 | 0,h,m,hl=>hl
 | n + 1,h,m,hl=>mI (n:=n) (h:=lN h k (m.take 64)) (m:=m.drop 64) (PG k _ hl)
theorem xB {k:List Int} : ∀ {a n:Nat} {h:List Int} {m:Str},bW k (a + n) h m=bW k n (bW k a h m) (m.drop (64 * a))
 | 0,n,h,m=>by rw[Nat.zero_add]; rfl
 | a + 1,n,h,m=>by
   rw[Nat.add_right_comm,bW,bW,xB (a:=a),List.drop_drop,show 64 + 64 * a=64 * (a + 1) by omega]
theorem sU {k:List Int} {n:Nat} {h:List Int} {m:Str} : bW k (n + 1) h m=lN (bW k n h m) k ((m.drop (64 * n)).take 64):=by rw[xB]; rfl
theorem Eu {k:List Int} : ∀ {n:Nat} {h:List Int} {m p:Str},64 * n≤m.length→bW k n h (m++p)=bW k n h m
 | 0,h,m,p,_=>rfl
 | n + 1,h,m,p,hl=>by
   rw[bW,bW,List.take_append_of_le_length (by omega),List.drop_append_of_le_length (by omega),Eu (by rw[List.length_drop]; omega)]
def Ey (n:Int) : UInt8:=UInt8.ofNat (n % 256).toNat
theorem XH (n:Int) : IntKind.u8.wrap n=n % 256:=by
 simp only[IntKind.wrap,IntKind.bits,IntKind.signed,IntKind.max,IntKind.min]
 simp
theorem DC (n:Int) : N .u8 (IntKind.u8.wrap n)=By (Ey n):=by
 have:((Ey n).toNat:Int)=n % 256:=by
  unfold Ey
  rw[UInt8.toNat_ofNat']
  have h1:0≤n % 256:=Int.emod_nonneg _ (by decide)
  have h2:n % 256<256:=Int.emod_lt_of_pos _ (by decide)
  rw[Nat.mod_eq_of_lt (by omega)]
  omega
 rw[By,this,XH]
def zp (L:Nat) : Nat:=(119 - L % 64) % 64
def kV (L:Nat) : Str:=(List.range 8).map fun i=>Ey (jc .u64 ((8 * L:Nat) : Int) ((56 - 8 * i:Nat) : Int))
def rq (L:Nat) : Str:=128 :: (List.replicate (zp L) 0++kV L)
def jE (h:List Int) : Str:=(List.range 32).map fun i=>Ey (jc .u32 (h.getD (i / 4) 0) ((24 - 8 * (i % 4) : Nat) : Int))
theorem Fg (h:List Int) : (jE h).length=32:=by simp[jE]
def rA (b:Str) : Str:=jE (bW kW ((b.length + 9 + zp b.length) / 64) hW (b++rq b.length))
theorem pO (b:Str) : (rA b).length=32:=Fg _
theorem RO (b:Str) : bW kW ((b.length + 9 + zp b.length) / 64) hW (b++rq b.length) =
  bW kW ((b.length - b.length / 64 * 64 + 9 + zp b.length) / 64) (bW kW (b.length / 64) hW b) (b.drop (b.length / 64 * 64)++rq b.length):=by
 have e:(b.length + 9 + zp b.length) / 64=b.length / 64 + (b.length - b.length / 64 * 64 + 9 + zp b.length) / 64:=by omega
 rw[e,xB,Eu (by omega),List.drop_append_of_le_length (by omega),Nat.mul_comm 64]
def partsOf:Nat→List Int→List (Nat × Nat × AV)
 | _,[]=>[]
 | i,x :: xs=>(i,1,N .u32 x) :: partsOf (i + 1) xs
theorem Eo:∀ (xs pre:List Int),lc (bB.row (pre++List.replicate xs.length 0)) (partsOf pre.length xs)=some (bB.row (pre++xs))
 | [],pre=>by simp[partsOf,lc]
 | x :: xs,pre=>by
   have h:=Eo xs (pre++[x])
   rw[List.length_append,List.length_singleton] at h
   rw[partsOf,je (by rw[iQ]; simp),show pre++x :: xs=pre++[x]++xs by simp,← h]
   congr 1
   rw[kK,kK,show(N .u32 x)=(fun n=>N .u32 n) x from rfl,← List.map_set,set_mid (by simp)]
   simp
theorem JJ {T n:Nat} {xs:List Int} {M:RM} {K:AV→RM→Prop} (hn:xs.length=n) (hK:∀ M',aa [] M M'→K (.agg (bB.row xs)) M') :
  aQ (.row (bB.row (List.replicate n 0)) false T 0) (fun b=>.ptr b 0) M fun t0 M1=>jf (bB.row (List.replicate n 0)) (partsOf 0 xs) fun t1=>aU M1 t0 t1 n fun M2=>dK M2 t0 n fun res=>K res M2:=by
 subst hn
 rw[aN,jm]
 refine⟨_,Eo xs [], ?_⟩
 have n1:(M.push (.row (bB.row (List.replicate xs.length 0)) false T 0)).heap M.next=some (.row (bB.row (List.replicate xs.length 0)) false T 0):=by simp[RM.push]
 rw[List.nil_append,kH n1 (by rw[iQ]) (by rw[iQ,List.length_replicate]) (bB.bX _),dX (aG _) (by rw[iQ])]
 exact hK _ (((aa.refl _ _).push _).new _ (Nat.le_refl _))
def xY (xs:List Int) (c:au) : Prop:=∀ {M:RM} {Q:aj},(∀ M',aa [] M M'→Q (.agg (bB.row xs)) M')→c [] M Q
theorem IG {T:Nat} : xY kW fun args M Q=>args=[]∧oK T M Q:=by
 intro M Q hQ
 refine⟨rfl, ?_⟩
 unfold oK
 exact JJ (xs:=kW) (n:=64) BV hQ
theorem OC {T:Nat} : xY hW fun args M Q=>args=[]∧wY T M Q:=by
 intro M Q hQ
 refine⟨rfl, ?_⟩
 unfold wY
 exact JJ (xs:=hW) (n:=8) FP hQ
def jP (T:Nat) (c:au) : Prop:=∀ {M:RM} {v:AV} {s:Str} {Q:aj},Sl BY M v s→s.length≤1000000000→(∀ v' M',Ow BY M' M.next T v' s→aa [] M M'→Q v' M')→c [v] M Q
theorem He {T:Nat} : jP T fun args M Q=>∃ a0,args=[a0]∧Go.Ab.aR.uq T a0 M Q:=by
 intro M v s Q hv hl hQ
 refine⟨_,rfl, ?_⟩
 unfold Go.Ab.aR.uq
 rcases aK.uV hv false with⟨rfl,he⟩ | ⟨hne,he⟩
 ·rw[he,show(!false)=true from rfl,gF]
  have:s=[]:=by
   unfold Sl at hv
   cases s with
   | nil=>rfl
   | cons x s=>generalize hcs:BY.row (x :: s)=cs at *; generalize hn:(x :: s).length=n at *; cases hv; cases hcs
  subst this
  exact hQ bQ M .nil (aa.refl _ _)
 ·rw[he,fM,PN]
  simp only[aN]
  have k1:aa [] M (M.push (.row [] false T 0)):=(aa.refl _ _).push _
  refine pI (E:=BY) (Ow.lit BY M) (by simp[RM.push]) (by decide) (aK.keep hv k1 (by simp)) (by simp; omega) (by simp; omega) fun v7 M7 o7 k7 _ _=>?_
  refine hQ v7 M7 (by simpa using o7) ?_
  refine aa.own k1 k7 (fun b hb=>?_)
  simp[ak] at hb; omega
theorem Kk {L i:Nat} (hi:i<8) : (kV L).take (i + 1)=(kV L).take i++[Ey (jc .u64 ((8 * L:Nat) : Int) ((56 - 8 * i:Nat) : Int))]:=by
 have hl:i<(kV L).length:=by simp[kV]; exact hi
 rw[List.take_succ_eq_append_getElem hl]
 simp[kV]
theorem Mh {d:Str} {n i:Nat} {x:UInt8} (hi:i<n) (hd:d.length=n) (hx:d[i]?=some x) : (d.take i++List.replicate (n - i) 0).set i x=d.take (i + 1)++List.replicate (n - (i + 1)) 0:=by
 have hl:(d.take i).length=i:=by rw[List.length_take]; omega
 have hx' : d[i]'(by omega)=x:=by rw[List.getElem?_eq_getElem (by omega)] at hx; exact Option.some.inj hx
 obtain⟨m,hm⟩ : ∃ m,n - i=m + 1:=⟨n - i - 1,by omega⟩
 rw[hm,List.replicate_succ,List.set_append_right _ _ (by omega),hl,Nat.sub_self,List.set_cons_zero,List.take_succ_eq_append_getElem (by omega),hx',List.append_assoc,show n - (i + 1)=m by omega]
 rfl
def Cr (c:au) : Prop:=∀ {M:RM} {v:AV} {b:Str} {Q:aj},Bs M v b→b.length≤100000000→(∀ M',aa [] M M'→Q (.agg (BY.row (rA b))) M')→c [v] M Q
theorem Ua {T32 TK TS T8:Nat} {cc cf ct cl:au} (hc:xY kW cc) (hf:xY hW cf) (ht:OB TK TS ct) (hcl:jP T8 cl) : Cr fun args M Q=>∃ a0,args=[a0]∧Bp T32 cc TK cf TS ct cl T8 a0 M Q:=by
 intro M v b Q hv hl hQ
 refine⟨_,rfl, ?_⟩
 unfold Bp
 rw[aN]
 have k1:aa [] M (M.push (.row (BY.row (List.replicate 32 0)) false T32 0)):=(aa.refl _ _).push _
 have n1:(M.push (.row (BY.row (List.replicate 32 0)) false T32 0)).heap M.next=some (.row (BY.row (List.replicate 32 0)) false T32 0):=by simp[RM.push]
 have l1:M.next<(M.push (.row (BY.row (List.replicate 32 0)) false T32 0)).next:=by simp[RM.push]
 show cc _ (M.push (.row (BY.row (List.replicate 32 0)) false T32 0)) _
 generalize M.push (.row (BY.row (List.replicate 32 0)) false T32 0)=M1 at *
 refine hc fun M2 k2=>?_
 have zz:∀ n,(bB.row (List.replicate n 0)).length=n:=fun n=>by rw[iQ,List.length_replicate]
 refine Dm (K:=fun t Lt=>_) (z:=bB.row (List.replicate 64 0)) 64 (zz 64) (by rw[iQ,BV]) (bB.bX _) fun M3 k3 n3 l3=>?_
 refine hf fun M4 k4=>?_
 refine Dm (K:=fun t Lt=>_) (z:=bB.row (List.replicate 8 0)) 8 (zz 8) (by rw[iQ,FP]) (bB.bX _) fun M5 k5 n5 l5=>?_
 have hk34:=k4.next
 have hk23:=k3.next
 have k35:aa [] M3 M5:=k4.trans k5
 have n35:=k35.az n3 l3 (by simp)
 have l35:M2.next<M5.next:=Nat.lt_of_lt_of_le l3 k35.next
 have k05:aa [] M M5:=k1.trans (k2.trans (k3.trans k35))
 have k25:aa [] M2 M5:=k3.trans k35
 have n15:=(k2.trans k25).az n1 l1 (by simp)
 have l15:M.next<M5.next:=Nat.lt_of_lt_of_le l1 (k2.trans k25).next
 have hl1:M.next<M2.next:=Nat.lt_of_lt_of_le l1 k2.next
 have hne:M2.next≠M4.next:=by omega
 have hv5:=hv.keep k05 (by simp)
 have EX:=hv.lt
 have hvn:∀ x∈ak v,x ∉ [M4.next]:=fun x hx hm=>by have:=EX x hx; simp at hm; omega
 rw[hv5.len,pK]
 refine⟨by decide, ?_⟩
 have e1:IntKind.i64.wrap ((b.length:Int).tdiv 64)=((b.length / 64:Nat) : Int):=by
  rw[show(b.length:Int).tdiv 64=((b.length / 64:Nat) : Int) by rw[Int.natCast_ediv]; exact Int.tdiv_eq_ediv_of_nonneg (by omega)]
  exact aL (by omega) (by omega)
 rw[e1,fo,show IntKind.i64.wrap (((b.length / 64:Nat) : Int) * 64)=((b.length / 64 * 64:Nat) : Int) by rw[aL (by omega) (by omega)]; omega]
 generalize hwe:b.length / 64=q at *
 have hq:q * 64≤b.length∧b.length<q * 64 + 64:=by omega
 refine aM (fun m ys M6=>∃ j:Nat,m=q - j∧ys=[N .i64 ((j * 64:Nat) : Int)]∧j≤q∧aa [M4.next] M5 M6∧M6.heap M4.next=some (.row (bB.row (bW kW j hW b)) false TS 0)) _
  ⟨0,rfl,rfl,by omega,aa.refl _ _,n5⟩ ?_
 rintro next m ys M6 hnext ⟨j,rfl,rfl,hj,k6,n6⟩
 simp only[aI]
 have l6:M4.next<M6.next:=Nat.lt_of_lt_of_le l5 k6.next
 have n36:=k6.az n35 l35 (by simp; omega)
 have l36:M2.next<M6.next:=Nat.lt_of_lt_of_le l35 k6.next
 have hv6:=hv5.keep k6 hvn
 have Tc:(bW kW j hW b).length=8:=mI FP
 rw[jQ]
 refine aS (fun hc=>?_) fun hc=>?_
 ·have hjq:j<q:=by have:=of_decide_eq_true hc; omega
  rw[eT 64 (by omega) (by omega) (by rfl)]
  refine hv6.sub (qc _ _ _) (qc _ _ _) (by omega) (by omega) fun v7 h7 hs7=>?_
  rw[show j * 64 + 64 - j * 64=64 by omega] at h7
  refine ht n6 l6 Tc n36 l36 hne BV h7 (by rw[List.length_take,List.length_drop]; omega) fun M7 k7 n7=>?_
  rw[eT 64 (by omega) (by omega) (by rfl),show j * 64 + 64=(j + 1) * 64 by omega]
  refine hnext _ _ _ (by omega) ⟨j + 1,rfl,rfl,by omega,k6.trans k7, ?_⟩
  rw[sU,Nat.mul_comm 64]
  exact n7
 have hjq:j=q:=by have:=of_decide_eq_false hc; omega
 subst hjq
 clear hnext
 refine hv6.sub (qc _ _ _) (LQ _) (by omega) (Nat.le_refl _) fun v7 h7 hs7=>?_
 rw[List.take_of_length_le (by simp)] at h7
 have hdl:(b.drop (j * 64)).length=b.length - j * 64:=List.length_drop
 refine hcl h7.sl (by omega) fun v8 M8 o8 k8=>?_
 rw[iq (by rfl) (by rfl) (by rfl),aN]
 refine iw (E:=BY) (a:=(128:UInt8)) o8 k8.next (by decide) (by omega) (by omega) fun v9 M9 o9 k9 _ _=>?_
 have k69:aa [] M6 M9:=aa.own k8 k9 (fun x hx=>(Own.blk o8 x hx).1)
 have hzp:zp b.length<64:=Nat.mod_lt _ (by decide)
 have hz:(b.length - j * 64 + 1 + zp b.length) % 64=56:=by unfold zp; omega
 refine aM (fun m ys M10=>∃ (i:Nat) (rv:AV),m=zp b.length - i∧ys=[rv]∧i≤zp b.length∧aa [] M6 M10∧Ow BY M10 M6.next T8 rv (b.drop (j * 64)++128 :: List.replicate i 0)) _
  ⟨0,v9,rfl,rfl,by omega,k69,o9⟩ ?_
 rintro next m ys M10 hnext ⟨i,rv,rfl,rfl,hi,k10,o10⟩
 simp only[aI]
 have hrl:(b.drop (j * 64)++128 :: List.replicate i 0).length=b.length - j * 64 + 1 + i:=by simp; omega
 rw[aK.len (Own.kY o10),hrl,nH]
 refine⟨by decide, ?_⟩
 rw[show(((b.length - j * 64 + 1 + i:Nat) : Int)).tmod 64=(((b.length - j * 64 + 1 + i) % 64:Nat) : Int) by rw[Int.natCast_emod]; exact Int.tmod_eq_emod_of_nonneg (by omega),cB]
 refine aS (fun hc=>?_) fun hc=>?_
 ·have hne:(b.length - j * 64 + 1 + i) % 64≠56:=fun e=>by rw[e] at hc; cases hc
  have hlt:i<zp b.length:=by
   rcases Nat.lt_or_ge i (zp b.length) with h | h
   ·exact h
   ·have:i=zp b.length:=by omega
    subst this; exact absurd hz hne
  rw[iq (by rfl) (by rfl) (by rfl),aN]
  refine iw (E:=BY) (a:=(0:UInt8)) o10 k10.next (by decide) (by omega) (by omega) fun v11 M11 o11 k11 _ _=>?_
  refine hnext _ _ _ (by omega) ⟨i + 1,v11,rfl,rfl,by omega,aa.own k10 k11 (fun x hx=>(Own.blk o10 x hx).1), ?_⟩
  have e:b.drop (j * 64)++128 :: List.replicate (i + 1) 0=b.drop (j * 64)++128 :: List.replicate i 0++[0]:=by rw[List.replicate_succ']; simp
  rw[e]; exact o11
 have aaL:(b.length - j * 64 + 1 + i) % 64=56:=by
  have:((((b.length - j * 64 + 1 + i) % 64:Nat) : Int) != 56)=false:=hc
  have:=bne_eq_false_iff_eq.1 this
  omega
 have hiz:i=zp b.length:=by omega
 subst hiz
 clear hnext
 generalize hpre:b.drop (j * 64)++128 :: List.replicate (zp b.length) 0=P at *
 refine aM (fun m ys M11=>∃ (i:Nat) (rv:AV),m=8 - i∧ys=[rv,N .i64 (i:Int)]∧i≤8∧aa [] M6 M11∧Ow BY M11 M6.next T8 rv (P++(kV b.length).take i)) _
  ⟨0,rv,rfl,rfl,by omega,k10,by rw[List.take_zero,List.append_nil]; exact o10⟩ ?_
 rintro next m ys M11 hnext ⟨i,rv2,rfl,rfl,hi,k11,o11⟩
 simp only[aI,dH]
 have ZL:=hv6.keep k11 (by simp)
 have hll:((kV b.length).take i).length=i:=by rw[List.length_take]; simp[kV]; omega
 have hpl:(P++(kV b.length).take i).length=b.length - j * 64 + 1 + zp b.length + i:=by rw[List.length_append,hrl,hll]
 rw[lJ 8 (by rfl)]
 refine aS (fun hc=>?_) fun hc=>?_
 ·have hi8:i<8:=of_decide_eq_true hc
  rw[ZL.len,bT,bL (by omega) (by omega),fo,bL (by omega) (by omega),fo,aL (by omega) (by omega),gq,aL (by omega) (by omega),gK]
  refine⟨by omega, ?_⟩
  rw[bT,show((b.length:Int) * 8)=((8 * b.length:Nat) : Int) by omega,show(56 - 8 * (i:Int))=((56 - 8 * i:Nat) : Int) by omega,DC,iq (by rfl) (by rfl) (by rfl),aN]
  refine iw (E:=BY) (a:=Ey (jc .u64 ((8 * b.length:Nat) : Int) ((56 - 8 * i:Nat) : Int))) o11 k11.next (by decide) (by omega) (by omega) fun v12 M12 o12 k12 _ _=>?_
  rw[eT 1 (by omega) (by omega) (by rfl)]
  refine hnext _ _ _ (by omega) ⟨i + 1,v12,rfl,rfl,by omega,aa.own k11 k12 (fun x hx=>(Own.blk o11 x hx).1), ?_⟩
  rw[Kk hi8,← List.append_assoc]
  exact o12
 have hi8:i=8:=by have:=of_decide_eq_false hc; omega
 subst hi8
 clear hnext
 rw[List.take_of_length_le (by simp[kV])] at o11 hpl
 have hfull:P++kV b.length=b.drop (j * 64)++rq b.length:=by rw[← hpre]; simp[rq]
 rw[hfull] at o11 hpl
 have hrest:(b.drop (j * 64)++rq b.length).length=b.length - j * 64 + 9 + zp b.length:=by rw[hpl]; omega
 generalize hRe:b.drop (j * 64)++rq b.length=R at *
 have hmod:(b.length - j * 64 + 9 + zp b.length) % 64=0:=by omega
 obtain⟨n,hn⟩ : ∃ n,b.length - j * 64 + 9 + zp b.length=64 * n:=⟨(b.length - j * 64 + 9 + zp b.length) / 64,by omega⟩
 rw[hn] at hrest
 have SV:=Bs.own o11
 have n11:=k11.az n6 l6 (by simp)
 have n311:=k11.az n36 l36 (by simp)
 have l11:M4.next<M11.next:=Nat.lt_of_lt_of_le l6 k11.next
 have WA:M2.next<M11.next:=Nat.lt_of_lt_of_le l36 k11.next
 generalize hH:bW kW j hW b=H at *
 have hrn:∀ x∈ak rv2,x ∉ [M4.next]:=fun x hx hm=>by
  have:=(Own.blk o11 x hx).1
  simp at hm; omega
 refine aM (fun m ys M12=>∃ i:Nat,m=n - i∧ys=[N .i64 ((i * 64:Nat) : Int)]∧i≤n∧aa [M4.next] M11 M12∧M12.heap M4.next=some (.row (bB.row (bW kW i H R)) false TS 0)) _
  ⟨0,rfl,rfl,by omega,aa.refl _ _,n11⟩ ?_
 rintro next m ys M12 hnext ⟨i,rfl,rfl,hi,k12,n12⟩
 simp only[aI]
 have l12:M4.next<M12.next:=Nat.lt_of_lt_of_le l11 k12.next
 have n312:=k12.az n311 WA (by simp; omega)
 have aaH:M2.next<M12.next:=Nat.lt_of_lt_of_le WA k12.next
 have LY:=SV.keep k12 hrn
 rw[LY.len,jQ]
 refine aS (fun hc=>?_) fun hc=>?_
 ·have hin:i<n:=by have:=of_decide_eq_true hc; omega
  rw[eT 64 (by omega) (by omega) (by rfl)]
  refine LY.sub (qc _ _ _) (qc _ _ _) (by omega) (by omega) fun v13 h13 Zo=>?_
  rw[show i * 64 + 64 - i * 64=64 by omega] at h13
  refine ht n12 l12 (mI Tc) n312 aaH hne BV h13 (by rw[List.length_take,List.length_drop]; omega) fun M13 k13 n13=>?_
  rw[eT 64 (by omega) (by omega) (by rfl),show i * 64 + 64=(i + 1) * 64 by omega]
  refine hnext _ _ _ (by omega) ⟨i + 1,rfl,rfl,by omega,k12.trans k13, ?_⟩
  rw[sU,Nat.mul_comm 64]
  exact n13
 have hin:i=n:=by have:=of_decide_eq_false hc; omega
 subst hin
 clear hnext
 have Pq:rA b=jE (bW kW i H R):=by
  unfold rA
  rw[RO,hwe,hRe,hH,hn,Nat.mul_div_cancel_left _ (by decide)]
 have hF:(bW kW i H R).length=8:=mI Tc
 generalize bW kW i H R=F at *
 have hdF:=Fg F
 rw[aN]
 have Uh:aa [M4.next] M5 M12:=k6.trans ((k11.mono (by simp)).trans k12)
 have n112:=Uh.az n15 l15 (by simp; omega)
 have Ub:M.next<M12.next:=Nat.lt_of_lt_of_le l15 Uh.next
 have k14:aa [] M12 (M12.push (.row (BY.row (List.replicate 32 0)) false T32 0)):=(aa.refl _ _).push _
 have n14:(M12.push (.row (BY.row (List.replicate 32 0)) false T32 0)).heap M12.next=some (.row (BY.row ((jE F).take 0++List.replicate (32 - 0) 0)) false T32 0):=by simp[RM.push]
 have l14:M12.next<(M12.push (.row (BY.row (List.replicate 32 0)) false T32 0)).next:=by simp[RM.push]
 show bC _ _ (M12.push (.row (BY.row (List.replicate 32 0)) false T32 0))
 generalize M12.push (.row (BY.row (List.replicate 32 0)) false T32 0)=M14 at *
 refine aM (fun m ys M15=>∃ i:Nat,m=32 - i∧ys=[N .i64 (i:Int)]∧i≤32∧aa [] M12 M15∧M12.next<M15.next∧M15.heap M12.next=some (.row (BY.row ((jE F).take i++List.replicate (32 - i) 0)) false T32 0)) _
  ⟨0,rfl,rfl,by omega,k14,l14,n14⟩ ?_
 rintro next m ys M15 hnext ⟨i',rfl,rfl,hi',k15,Sq,n15'⟩
 simp only[aI]
 have aah:=k15.az n12 l12 (by simp)
 rw[lJ 32 (by rfl)]
 refine aS (fun hc=>?_) fun hc=>?_
 ·have jK:i'<32:=of_decide_eq_true hc
  rw[pK]
  refine⟨by decide, ?_⟩
  rw[show IntKind.i64.wrap (((i' : Nat) : Int).tdiv 4)=((i' / 4:Nat) : Int) by
   rw[show((i' : Nat) : Int).tdiv 4=((i' / 4:Nat) : Int) by rw[Int.natCast_ediv]; exact Int.tdiv_eq_ediv_of_nonneg (by omega)]
   exact aL (by omega) (by omega)]
  rw[bO rfl (by omega),nG aah (by omega),nH]
  refine⟨by decide, ?_⟩
  rw[show(((i' : Nat) : Int)).tmod 4=((i' % 4:Nat) : Int) by rw[Int.natCast_emod]; exact Int.tmod_eq_emod_of_nonneg (by omega),fo,aL (by omega) (by omega),gq,aL (by omega) (by omega),gK]
  refine⟨by omega, ?_⟩
  rw[bT,DC,bO rfl jK,show(24 - 8 * ((i' % 4:Nat) : Int))=((24 - 8 * (i' % 4) : Nat) : Int) by omega]
  have hget:(jE F)[i']?=some (Ey (jc .u32 (F.getD (i' / 4) 0) ((24 - 8 * (i' % 4) : Nat) : Int))):=by
   simp[jE,jK]
  have hset:=Mh jK hdF hget
  have Ww:((jE F).take i'++List.replicate (32 - i') 0).length=32:=by rw[List.length_append,List.length_take,List.length_replicate]; omega
  rw[gB (BY.row ((jE F).take (i' + 1)++List.replicate (32 - (i' + 1)) 0)) n15' (by rw[eY]; omega) rfl rfl (by rw[← hset,kG,kG,List.map_set]),eT 1 (by omega) (by omega) (by rfl)]
  exact hnext _ _ _ (by omega) ⟨i' + 1,rfl,rfl,by omega,k15.new _ (Nat.le_refl _),Sq,aG _⟩
 ·have jK:i'=32:=by have:=of_decide_eq_false hc; omega
  subst jK
  have e:(jE F).take 32++List.replicate (32 - 32) 0=jE F:=by rw[List.take_of_length_le (by omega)]; simp
  rw[e] at n15'
  have n115:=k15.az n112 Ub (by simp)
  rw[dX n15' (by rw[eY,hdF]),kH n115 (by rw[eY,hdF]) (by rw[eY,List.length_replicate]) (BY.bX _),dX (aG _) (by rw[eY,hdF]),← Pq]
  have SE:aa [M4.next] M M12:=(k05.mono (by simp)).trans Uh
  have YP:aa [] M M12:=⟨SE.base,SE.next,fun x hx _=>SE.heap x hx (by simp; omega)⟩
  exact hQ _ ((YP.trans k15).new _ (Nat.le_refl _))
theorem RG {p:UInt8→Bool} (h:(List.range 256).all (fun n=>p (UInt8.ofNat n))=true) (x:UInt8) : p x=true:=by
 have:=List.all_eq_true.1 h x.toNat (List.mem_range.2 x.toNat_lt)
 simpa using this
abbrev TQ:Str:=[48,49,50,51,52,53,54,55,56,57,97,98,99,100,101,102]
def hx (n:Nat) : UInt8:=TQ.getD n 0
def kg (d:Str) : Str:=d.flatMap fun x=>[hx (x.toNat / 16),hx (x.toNat % 16)]
theorem yH (d:Str) : (kg d).length=2 * d.length:=by
 induction d with
 | nil=>rfl
 | cons x d ih=>unfold kg at ih ⊢; rw[List.flatMap_cons,List.length_append,ih,List.length_cons]; simp; omega
theorem IX (d:Str) {i:Nat} (h:i<d.length) : kg (d.take (i + 1))=kg (d.take i)++[hx (d[i].toNat / 16),hx (d[i].toNat % 16)]:=by
 rw[List.take_succ_eq_append_getElem h]
 unfold kg
 rw[List.flatMap_append]
 simp
def qHi (x:UInt8) : Bool:=jc .u8 (x.toNat:Int) 4 == ((x.toNat / 16:Nat) : Int)
def qLo (x:UInt8) : Bool:=oW .u8 (x.toNat:Int) 15 == ((x.toNat % 16:Nat) : Int)
theorem V7:∀ x,qHi x=true:=RG (by decide +kernel)
theorem VL:∀ x,qLo x=true:=RG (by decide +kernel)
theorem UK (x:UInt8) : jc .u8 (x.toNat:Int) 4=((x.toNat / 16:Nat) : Int):=eq_of_beq (V7 x)
theorem Vi (x:UInt8) : oW .u8 (x.toNat:Int) 15=((x.toNat % 16:Nat) : Int):=eq_of_beq (VL x)
theorem Ke {n:Nat} (h:n<16) {k:IntKind} {K:AV→Prop} : uK (St TQ) (N k (n:Int)) K=K (By (hx n)):=by
 rw[Iy (by show n<16; exact h)]
 have:TQ[n]'(by show n<16; exact h)=hx n:=by
  unfold hx
  rw[List.getD_eq_getElem?_getD,List.getElem?_eq_getElem (by show n<16; exact h)]; rfl
 rw[this]
theorem Qg {T:Nat} {a b z:AV} {K:RB→(Nat→AV)→Prop} (ha:a.cells=[a]) (hb:b.cells=[b]) (ha1:oneCell a=true) (hb1:oneCell b=true) :
  bN T 2 [z] [(0,1,a),(1,1,b)] K=K (.row [a,b] false T 0) (fun b=>.slc b 0 2 (.ex 2)):=by
 have:kC (fP [z] 2) [(0,1,a),(1,1,b)]=some [a,b]:=by simp[kC,fP,ha,hb,ha1,hb1]
 apply propext; unfold bN
 constructor
 ·rintro⟨l,h,hk⟩; rw[this] at h; cases h; exact hk
 ·intro hk; exact⟨_,this,hk⟩
theorem Oo {M:RM} {base T:Nat} {v:AV} {xs:Str} {x y:UInt8} {zs:List AV} {K:aj} (ho:Ow BY M base T v xs) (hb:base≤M.next) (hn:xs.length≤1000000000)
  (hK:∀ v' M',Ow BY M' base T v' (xs++[x,y])→aa (ak v) M M'→K v' M') :
  appW T 1 1 zs false v (.slc M.next 0 2 (.ex 2)) (M.push (.row [By x,By y] false T 0)) K:=by
 have hk:aa [] M (M.push (.row (BY.row [x,y]) false T 0)):=(aa.refl _ _).push _
 refine pI (E:=BY) (ys:=[x,y]) (Own.keep ho hk (by simp)) (Nat.le_trans hb hk.next) (by decide) (Sl.new [x,y]) (by simp; omega) (by simp; omega) fun v' M' h1 h2 _ _=>?_
 exact hK v' M' h1 ((hk.mono (by simp)).trans h2)
def J8 (c:au) : Prop:=∀ {M:RM} {d:Str} {Q:aj},d.length=32→(∀ M',aa [] M M'→Q (St (kg d)) M')→c [.agg (BY.row d)] M Q
theorem Wj {d:Str} {i:Nat} (h:i<d.length) : (BY.row d)[i]?=some (By d[i]):=by rw[kG,List.getElem?_map,List.getElem?_eq_getElem h]; rfl
theorem Ra {T32 T8:Nat} : J8 fun args M Q=>∃ a0,args=[a0]∧BP T32 T8 a0 M Q:=by
 intro M d Q hd hQ
 refine⟨_,rfl, ?_⟩
 unfold BP
 rw[lI (BY.bX d) (by rw[eY]; omega),aN]
 have k0:aa [] M (M.push (.row (BY.row d) false T32 0)):=(aa.refl _ _).push _
 have n0:(M.push (.row (BY.row d) false T32 0)).heap M.next=some (.row (BY.row d) false T32 0):=by simp[RM.push]
 generalize M.push (.row (BY.row d) false T32 0)=M0 at *
 rw[dX n0 (by rw[eY,hd])]
 refine aM (fun m ys M3=>∃ (i:Nat) (ov:AV),m=32 - i∧ys=[ov,N .i64 (i:Int)]∧i≤32∧aa [] M M3∧Ow BY M3 M.next T8 ov (kg (d.take i))) _ ⟨0,bQ,rfl,rfl,by omega,k0,.nil⟩ ?_
 rintro next m ys M3 hnext ⟨i,ov,rfl,rfl,hi,k3,o3⟩
 simp only[aI,dH]
 rw[lJ 32 (by rfl)]
 refine aS (fun hc=>?_) fun hc=>?_
 ·have jK:i<32:=of_decide_eq_true hc
  have hid:i<d.length:=by omega
  have hlt:=Dj d[i]
  rw[JK]
  refine⟨by omega,by omega,By d[i],by rw[Int.toNat_natCast]; exact Wj hid, ?_⟩
  rw[By,gK]
  refine⟨by decide, ?_⟩
  rw[UK,Ke (by omega),dE,Vi,Ke (by omega),Qg rfl rfl rfl rfl,yA]
  have hhl:=yH (d.take i)
  have htl:(d.take i).length=i:=by rw[List.length_take]; omega
  refine Oo o3 k3.next (by omega) fun v4 M4 o4 k4=>?_
  rw[eT 1 (by omega) (by omega) (by rfl)]
  refine hnext _ _ _ (by omega) ⟨i + 1,v4,rfl,rfl,by omega,aa.own k3 k4 (fun x hx=>(Own.blk o3 x hx).1), ?_⟩
  rw[IX d hid]; exact o4
 ·have jK:i=32:=by have:=of_decide_eq_false hc; omega
  subst jK
  rw[List.take_of_length_le (by omega)] at o3
  rw[Sl.str (Own.kY o3)]
  exact hQ M3 k3
def JY (c:au) : Prop:=∀ {M:RM} {v:AV} {d:Str} {Q:aj},Bs M v d→d.length≤1000000→(∀ M',aa [] M M'→Q (St (kg d)) M')→c [v] M Q
theorem QF {T8:Nat} : JY fun args M Q=>∃ a0,args=[a0]∧yG T8 a0 M Q:=by
 intro M v d Q hv hl hQ
 refine⟨_,rfl, ?_⟩
 unfold yG
 refine Dt ?_
 show aQ _ _ _ _
 rw[aN]
 have k0:aa [] M (M.push (.row [] false T8 0)):=(aa.refl _ _).push _
 refine aM (fun m ys M3=>∃ (i:Nat) (ov:AV),m=d.length - i∧ys=[ov,N .i64 (i:Int)]∧i≤d.length∧aa [] M M3∧Ow BY M3 M.next T8 ov (kg (d.take i))) _ ⟨0,_,rfl,rfl,by omega,k0,Ow.lit BY M⟩ ?_
 rintro next m ys M3 hnext ⟨i,ov,rfl,rfl,hi,k3,o3⟩
 simp only[aI,dH]
 have hv3:=hv.keep k3 (by simp)
 rw[hv3.len,jQ]
 refine aS (fun hc=>?_) fun hc=>?_
 ·have hid:i<d.length:=of_decide_eq_true hc
  have hlt:=Dj d[i]
  rw[hv3.read hid,By,gK]
  refine⟨by decide, ?_⟩
  rw[UK,Ke (by omega),hv3.read hid,By,dE,Vi,Ke (by omega),Qg rfl rfl rfl rfl,yA]
  have hhl:=yH (d.take i)
  have htl:(d.take i).length=i:=by rw[List.length_take]; omega
  refine Oo o3 k3.next (by omega) fun v4 M4 o4 k4=>?_
  rw[eT 1 (by omega) (by omega) (by rfl)]
  refine hnext _ _ _ (by omega) ⟨i + 1,v4,rfl,rfl,by omega,aa.own k3 k4 (fun x hx=>(Own.blk o3 x hx).1), ?_⟩
  rw[IX d hid]; exact o4
 ·have jK:i=d.length:=by have:=of_decide_eq_false hc; omega
  subst jK
  rw[List.take_length] at o3
  rw[Sl.str (Own.kY o3)]
  exact hQ M3 k3
def dS (b:Str) : Str:=kg (rA b)
theorem Cy (b:Str) : (dS b).length=64:=by unfold dS; rw[yH,pO]
def uZ (c:au) : Prop:=∀ {M:RM} {v:AV} {b:Str} {Q:aj},Bs M v b→b.length≤100000000→(∀ M',aa [] M M'→Q (St (dS b)) M')→c [v] M Q
theorem Bs.arr {M:RM} {b T:Nat} {d:Str} (h:M.heap b=some (.row (BY.row d) false T 0)) (hb:b<M.next) : Bs M (.slc b 0 d.length (.ex d.length)) d :=
 ⟨Rw.sl ⟨h,hb⟩,Nat.le_refl _⟩
theorem Fx {n b:Nat} (hn:0<n) : zF n 1 (.ptr b 0) none none=some (.slc b 0 n (.ex n)):=by
 unfold zF
 simp only[bnd]
 rw[if_pos ⟨Nat.zero_le _,Nat.le_refl _⟩,if_neg (by omega)]
 simp
theorem Ku {T32:Nat} {cs ch:au} (hs:Cr cs) (hh:JY ch) : uZ fun args M Q=>∃ a0,args=[a0]∧wI cs T32 ch a0 M Q:=by
 intro M v b Q hv hl hQ
 refine⟨_,rfl, ?_⟩
 unfold wI
 refine hs hv hl fun M1 k1=>?_
 have hd:=pO b
 refine Dm (K:=fun t Lt=>_) (z:=BY.row (List.replicate 32 0)) 32 (by rw[eY,List.length_replicate]) (by rw[eY,hd]) (BY.bX _) fun M2 k2 n2 l2=>?_
 rw[Fx (by omega),jS]
 have hB:=Bs.arr n2 l2
 rw[hd] at hB
 refine hh hB (by omega) fun M3 k3=>?_
 exact hQ M3 (k1.trans (k2.trans k3))
def qa (x:UInt8) : Bool:=(decide ((x.toNat:Int) ≥ 48) && decide ((x.toNat:Int)≤57)) || (decide ((x.toNat:Int) ≥ 97) && decide ((x.toNat:Int)≤102))
def gp (s:Str) : Bool:=decide (s.length=64) && s.all qa
def KS (c:au) : Prop:=∀ {M:RM} {x:UInt8} {Q:aj},(∀ n:Int,(decide (n > 15))=!qa x→0≤n→Q (N .u8 n) M)→c [By x] M Q
theorem PD:KS fun args M Q=>∃ a0,args=[a0]∧wF a0 M Q:=by
 intro M x Q hQ
 refine⟨_,rfl, ?_⟩
 unfold wF
 have hx:=Dj x
 simp only[ni,By]
 rw[kD]
 refine UL (p:=decide ((x.toNat:Int)≤57)) (fun _ k hk=>by rw[EU]; exact hk) ?_
 refine aS (fun h=>?_) fun h1=>?_
 ·rw[gq]
  have h':=h
  simp only[Bool.and_eq_true,decide_eq_true_eq] at h'
  rw[oQ (by omega) (by omega)]
  refine hQ _ ?_ (by omega)
  unfold qa
  rw[h,Bool.true_or]
  simp; omega
 rw[kD]
 refine UL (p:=decide ((x.toNat:Int)≤102)) (fun _ k hk=>by rw[EU]; exact hk) ?_
 refine aS (fun h=>?_) fun h2=>?_
 ·rw[gq,bi]
  have h':=h
  simp only[Bool.and_eq_true,decide_eq_true_eq] at h'
  rw[oQ (n:=(x.toNat:Int) - 97) (by omega) (by omega),oQ (by omega) (by omega)]
  refine hQ _ ?_ (by omega)
  unfold qa
  rw[h,Bool.or_true]
  simp; omega
 ·refine hQ _ ?_ (by decide)
  unfold qa
  rw[h1,h2]; rfl
def Ll (c:au) : Prop:=∀ {M:RM} {s:Str} {Q:aj},s.length≤281474976710656→(∀ (cs:List AV) M',aa [] M M'→cs.length=32→cs.all oneCell=true→Q (.tup [.agg cs,N .i64 (if gp s then 0 else 14)]) M')→c [St s] M Q
theorem Oj {p:UInt8→Bool} {s:Str} {i:Nat} (h:i<s.length) (hA:(s.take i).all p=true) (hp:p s[i]=true) : (s.take (i + 1)).all p=true:=by
 rw[List.take_succ_eq_append_getElem h,List.all_append,hA]; simp[hp]
theorem Rt {p:UInt8→Bool} {s:Str} {i:Nat} (h:i<s.length) (hp:p s[i]=false) : s.all p=false:=by
 rw[← List.take_append_drop i s,List.all_append,List.drop_eq_getElem_cons h,List.all_cons,hp]; simp
theorem fF {T:Nat} {M:RM} (z:List AV) {K:AV→RM→Prop} (hK:∀ M',aa [] M M'→M'.heap M.next=some (.row z false T 0)→M'.next=M.next + 1→K (.ptr M.next 0) M') : aQ (.row z false T 0) (fun b=>.ptr b 0) M K:=by
 rw[aN]
 exact hK _ ((aa.refl _ _).push _) (by simp[RM.push]) rfl
theorem Pg {T32:Nat} {cd:au} (hd:KS cd) : Ll fun args M Q=>∃ a0,args=[a0]∧yT T32 cd a0 M Q:=by
 intro M s Q hl hQ
 refine⟨_,rfl, ?_⟩
 unfold yT
 have zl:(BY.row (List.replicate 32 0)).length=32:=by rw[eY,List.length_replicate]
 refine fF (BY.row (List.replicate 32 0)) fun M1 k1 n1 e1=>?_
 refine fF (BY.row (List.replicate 32 0)) fun M2 k2 n2 e2=>?_
 have k02:=k1.trans k2
 have n12:=k2.az n1 (by omega) (by simp)
 simp only[ni]
 rw[Jg,cB]
 have e64:((s.length:Int) != 64)=!decide (s.length=64):=by
  rw[bne,show((s.length:Int) == 64)=decide (s.length=64) by rw[Bool.eq_iff_iff,beq_iff_eq,decide_eq_true_iff]; omega]
 have fin:∀ (M3:RM) (cs:List AV) (n:Int),aa [M1.next] M2 M3→cs.length=32→cs.all oneCell=true→n=(if gp s then 0 else 14)→aU M3 (.ptr M.next 0) (.agg cs) 32 fun M_1=>dK M_1 (.ptr M.next 0) 32 fun res=>Q (.tup [res,N .i64 n]) M_1:=by
  intro M3 cs n k3 h1 h2 h3
  have n13:=k3.az n12 (by omega) (by simp; omega)
  rw[kH n13 h1 zl h2,dX (aG _) h1,h3]
  exact hQ cs _ ((Ai k02 k3 (by omega)).new _ (Nat.le_refl _)) h1 h2
 rw[e64]
 refine aS (fun hc=>?_) fun hc=>?_
 ·rw[dX n2 zl]
  exact fin M2 _ 14 (aa.refl _ _) zl (BY.bX _) (by
   have:decide (s.length=64)=false:=by simpa using hc
   unfold gp; rw[this]; rfl)
 have h64:s.length=64:=by simpa using hc
 refine aM (fun m ys M3=>∃ (i:Nat) (cs:List AV),m=32 - i∧ys=[N .i64 (i:Int)]∧i≤32∧aa [M1.next] M2 M3∧M3.heap M1.next=some (.row cs false T32 0)∧cs.length=32∧cs.all oneCell=true∧(s.take (2 * i)).all qa=true) _
  ⟨0,_,rfl,rfl,by omega,aa.refl _ _,n2,zl,BY.bX _,rfl⟩ ?_
 rintro next m ys M3 hnext ⟨i,cs,rfl,rfl,hi,k3,n3,hcl,hca,hA⟩
 simp only[aI]
 rw[lJ 32 (by rfl)]
 have W9:∀ {K:AV→Prop},ae .mul (N .i64 2) (N .i64 (i:Int)) K=K (N .i64 ((2 * i:Nat) : Int)):=by
  intro K
  rw[fo,aL (by omega) (by omega)]; rfl
 refine aS (fun hc=>?_) fun hc=>?_
 ·have jK:i<32:=of_decide_eq_true hc
  have h0:2 * i<s.length:=by omega
  have h1:2 * i + 1<s.length:=by omega
  rw[W9,Iy h0,W9,eT 1 (by omega) (by omega) (by rfl),Iy h1]
  refine hd fun n hn hn0=>?_
  refine hd fun n' hn' hn0'=>?_
  rw[gu,hn]
  refine aax (p:=!qa s[2 * i + 1]) (fun _ k hk=>by rw[gu,hn']; exact hk) ?_
  refine aS (fun hb=>?_) fun hb=>?_
  ·rw[jm]
   refine⟨_,rfl, ?_⟩
   refine fin M3 (BY.row (List.replicate 32 0)) 14 k3 zl (BY.bX _) ?_
   have:s.all qa=false:=by
    cases h:qa s[2 * i] with
    | false=>exact Rt h0 h
    | true =>
      rw[h] at hb
      exact Rt h1 (by simpa using hb)
   unfold gp; rw[this,Bool.and_false]; rfl
  ·have h2:qa s[2 * i]=true∧qa s[2 * i + 1]=true:=by
    cases ha:qa s[2 * i] <;> cases hb' : qa s[2 * i + 1] <;> simp[ha,hb'] at hb ⊢
   rw[jd]
   refine⟨by decide, ?_⟩
   rw[dx,bO rfl jK,gB _ n3 (by omega) rfl rfl rfl,eT 1 (by omega) (by omega) (by rfl)]
   refine hnext _ _ _ (by omega) ⟨i + 1,_,rfl,rfl,by omega,k3.put _ (.inr (by simp)),aG _,by rw[List.length_set]; exact hcl, ?_, ?_⟩
   ·rw[List.all_eq_true] at hca ⊢
    intro x hx
    rcases List.mem_or_eq_of_mem_set hx with hx | rfl
    ·exact hca x hx
    ·rfl
   ·rw[show 2 * (i + 1)=2 * i + 1 + 1 by omega]
    exact Oj h1 (Oj h0 hA h2.1) h2.2
 ·have jK:i=32:=by have:=of_decide_eq_false hc; omega
  subst jK
  rw[List.take_of_length_le (by omega)] at hA
  rw[dX n3 hcl]
  refine fin M3 cs 0 k3 hcl hca ?_
  unfold gp
  rw[hA,h64]; rfl
end Go.Ab.Sha
namespace Go.Ab.aR
open Go Go.Ab
theorem QG {T size bytes:Nat} {zs:List AV} {M0:RM} {a0:AV} {cs:List AV} {n:Nat} (h:aK M0 size a0 cs n) (h1:cs.all oneCell=true) (hs:1≤size) (hn:n * bytes≤140737488355328) (hn2:n≤140737488355328) {Q:aj}
  (hQ:∀ v M',Own M' M0.next T size v cs n→aa [] M0 M'→Q v M') :
  eZ false 2 a0 bQ fun t4=>aA t4 (Q bQ M0) (bN T 0 zs [] fun r f=>aQ r f M0 fun t5 M=>appW T size bytes zs false t5 a0 M fun t7 M_0=>Q t7 M_0):=by
 rcases h.uV false with⟨rfl,e⟩ | ⟨hne,e⟩
 ·rw[e]
  cases h
  exact⟨fun _=>hQ _ _ .nil (aa.refl _ _),fun h=>by simp at h⟩
 ·rw[e]
  refine⟨fun h=>by simp at h,fun _=>⟨[],rfl, ?_⟩⟩
  have hk:aa [] M0 (M0.push (.row [] false T 0)):=(aa.refl _ _).push _
  refine sO (base:=M0.next) (Own.lit M0 (Nat.le_refl _)) (by simp[RM.push]) hs ((h.keep hk (by simp)).mE _) h.length h1 (by rw[Nat.zero_add]; exact hn) (by omega) ?_
  intro v' M' ho hk' hnx hv
  exact hQ v' M' (by simpa using ho) (hk.eP hk' (by simp[ak]))
def jP (T size bytes:Nat) (c:au) : Prop:=∀ {M0:RM} {a0:AV} {cs:List AV} {n:Nat},aK M0 size a0 cs n→cs.all oneCell=true→n * bytes≤140737488355328→n≤140737488355328→∀ {Q:aj},
 (∀ v M',Own M' M0.next T size v cs n→aa [] M0 M'→Q v M')→c [a0] M0 Q
def fA (v:Nat) : List UInt8:=if v<128 then[UInt8.ofNat v] else UInt8.ofNat (v % 128 + 128) :: fA (v / 128) termination_by v decreasing_by omega
theorem uH {v:Nat} (h:v<128) : fA v=[UInt8.ofNat v]:=by rw[fA,if_pos h]
theorem yI {v:Nat} (h:¬ v<128) : fA v=UInt8.ofNat (v % 128 + 128) :: fA (v / 128):=by rw[fA,if_neg h]
theorem Bh:∀ (k v:Nat),1≤k→v<128 ^ k→(fA v).length≤k
 | 0,_,h,_=>by omega
 | k + 1,v,_,h=>by
   by_cases hv:v<128
   ·rw[uH hv]; simp
   ·rw[yI hv]
    simp only[List.length_cons]
    have:1≤k:=by
     rcases k with _ | k
     ·simp at h; omega
     ·omega
    have:=Bh k (v / 128) this (by rw[Nat.pow_succ] at h; omega)
    omega
abbrev dJ (l:List UInt8) : List AV:=l.map fun b=>N .u8 b.toNat
theorem lY (l:List UInt8) : (dJ l).all oneCell=true:=by simp[oneCell]
def OY (T:Nat) (c:au) : Prop:=∀ {M0:RM} {a0:AV} {cs:List AV} {n v:Nat},aK M0 1 a0 cs n→cs.all oneCell=true→n + 10≤140737488355328→v<2 ^ 64→∀ {Q:aj},
 (∀ r M',Own M' M0.next T 1 r (cs++dJ (fA v)) (n + (fA v).length)→aa [] M0 M'→Q r M')→c [a0,N .u64 v] M0 Q
theorem Mm {T base:Nat} {M:RM} {b:AV} {cs:List AV} {n:Nat} {x:AV} {K:aj} (ho:Own M base T 1 b cs n) (hb:base≤M.next) (hx:oneCell x=true) (hc:x.cells=[x]) (hn:n + 1≤140737488355328)
  (hK:∀ v' M',Own M' base T 1 v' (cs++[x]) (n + 1)→aa (ak b) M M'→K v' M') : bN T 1 [N .u8 0] [(0,1,x)] fun r f=>aQ r f M fun t M1=>appW T 1 1 [N .u8 0] false b t M1 K:=by
 refine⟨[x],by simp[kC,fP,hc,hx], ?_⟩
 dsimp only
 rw[aN]
 have hk:aa [] M (M.push (.row [x] false T 0)):=(aa.refl _ _).push _
 have hs:aK (M.push (.row [x] false T 0)) 1 (.slc M.next 0 1 (.ex 1)) [x] 1:=.slc _ _ _ _ _ (by simp[RM.push]) (RM.ig (RM.bI _) (by simp))
 refine sO (ho.keep hk (by simp)) (Nat.le_trans hb hk.next) (Nat.le_refl _) (hs.mE _) (by simp) (by simpa using hx) (by omega) (by omega) ?_
 intro v' M' h1 h2 h3 h4
 exact hK v' M' h1 ((hk.mono (by simp)).trans h2)
theorem VO (m:Nat) : N .u8 (yC .u8 (IntKind.u8.wrap (m:Int)) 128)=N .u8 ((UInt8.ofNat (m % 128 + 128)).toNat:Int):=by
 have e1:(128:Int)=((128:Nat) : Int):=rfl
 rw[e1,wrap_u8,NQ rfl,GH,WC (by omega)]
 simp only[qw]
 congr 2
 omega
theorem NP {m:Nat} (h:m<128) : N .u8 (IntKind.u8.wrap (m:Int))=N .u8 ((UInt8.ofNat m).toNat:Int):=by
 rw[wrap_u8,GH]
theorem ZY (m:Nat) : N .u64 (jc .u64 (m:Int) 7)=N .u64 ((m / 128:Nat) : Int):=by
 rw[show(7:Int)=((7:Nat) : Int) from rfl,Mo _ _ _ (by decide)]
theorem Ri {T:Nat} {c:au} (hc:jP T 1 1 c) : OY T fun args M Q=>∃ a0 a1,args=[a0,a1]∧Lm c T a0 a1 M Q:=by
 intro M0 a0 cs n v h h1 hn hv Q hQ
 refine⟨a0,_,rfl, ?_⟩
 unfold Lm
 refine hc h h1 (by omega) (by omega) fun b0 M ho hk=>?_
 refine QP (fun m xs M=>∃ b w done,m=w∧xs=[b,N .u64 (w:Nat)]∧Own M M0.next T 1 b (cs++dJ done) (n + done.length)∧aa [] M0 M∧done++fA w=fA v∧w<2 ^ 64) v ⟨b0,v,[],rfl,rfl,by simpa using ho,hk,rfl,hv⟩ ?_
 rintro m ys M1 ⟨b,w,done,rfl,rfl,ho,hk,hd,hw⟩
 have hlen:=Bh 10 v (by omega) (by omega)
 rw[← hd,List.length_append] at hlen
 dsimp only
 simp only[go_sem,ah]
 refine⟨fun hge=>?_,fun hlt=>?_⟩
 ·have hge:¬ m<128:=by simp at hge; omega
  rw[yI hge,List.length_cons] at hlen
  refine Mm ho hk.next rfl rfl (by omega) fun b' M' ho' hk'=>?_
  refine⟨by omega,m / 128,by omega,b',m / 128,done++[UInt8.ofNat (m % 128 + 128)],rfl, ?_, ?_,hk.eP hk' (fun c hc=>.inl (ho.blk c hc).1), ?_,by omega⟩
  ·rw[ZY]
  ·rw[VO] at ho'
   simpa [Nat.add_assoc] using ho'
  ·rw[← hd,yI hge]; simp
 ·have hlt:m<128:=by simp at hlt; omega
  refine Mm ho hk.next rfl rfl (by rw[uH hlt] at hlen; simp at hlen; omega) fun b' M' ho' hk'=>?_
  refine hQ b' M' ?_ (hk.eP hk' (fun c hc=>.inl (ho.blk c hc).1))
  rw[← hd,uH hlt]
  rw[NP hlt] at ho'
  simpa [Nat.add_assoc] using ho'
def Asc (xs:List Nat) : Prop:=xs.Pairwise (· < ·)
def below (n:Nat) (xs:List Nat) : Nat:=(xs.takeWhile (fun x=>decide (x<n))).length
theorem Asc.lt {xs:List Nat} (h:Asc xs) {i j:Nat} (hij:i<j) (hj:j<xs.length) : xs[i]'(by omega)<xs[j]:=List.pairwise_iff_getElem.1 h i j (by omega) hj hij
theorem Kj {n:Nat} : ∀ {xs:List Nat} {k:Nat} (hk:k<xs.length),k<below n xs→xs[k]<n
 | x :: xs,k,hk,h=>by
   unfold below at h
   rw[List.takeWhile_cons] at h
   split at h
   ·rename_i hx
    cases k with
    | zero=>simpa using hx
    | succ k=>exact Kj (xs:=xs) (k:=k) (by simpa using hk) (by unfold below; simpa using h)
   ·simp at h
theorem KH {n:Nat} : ∀ {xs:List Nat} (h:below n xs<xs.length),n≤xs[below n xs]
 | x :: xs,h=>by
   unfold below at *
   rw[List.takeWhile_cons] at h
   simp only[List.takeWhile_cons]
   by_cases hx:x<n
   ·simp only[hx,decide_true,if_true,List.length_cons] at h ⊢
    exact KH (xs:=xs) (by unfold below; omega)
   ·simp only[hx,decide_false,Bool.false_eq_true,if_false,List.length_nil,List.getElem_cons_zero]
    omega
theorem half (i j:Nat) (h:i + j<9223372036854775808) : N .i64 (IntKind.i64.wrap (jc .u64 (IntKind.u64.wrap (IntKind.i64.wrap ((i:Int) + (j:Int)))) 1))=N .i64 (((i + j) / 2:Nat) : Int):=by
 rw[show IntKind.i64.wrap ((i:Int) + (j:Int))=((i + j:Nat) : Int) by rw[aL (by omega) (by omega)]; rfl]
 rw[show IntKind.u64.wrap (((i + j:Nat) : Int))=((i + j:Nat) : Int) by unfold IntKind.wrap; simp[IntKind.bits,IntKind.signed]; omega]
 rw[show(1:Int)=((1:Nat) : Int) from rfl,Mo _ _ _ (by decide)]
 rw[show((i + j:Nat) / 2 ^ 1)=(i + j) / 2 by simp]
 rw[aL (by omega) (by omega)]
theorem KP {size b o n at' : Nat} (h:at'<n) : dz size (.slc b o n (.op size)) (some (N .i64 (at' : Int))) none none=some (.slc b (o + at' * size) (n - at') (.op size)):=by
 simp only[dz,bnd]
 simp[Nat.le_of_lt h]
 omega
def jh:AV→Prop
 | .slc _ _ n (.ex c)=>n≤c
 | .slc _ _ _ (.op e)=>e=1
 | _=>True
def FE (k x:Nat) (xs:List Nat) : List Nat:=xs.take k++x :: xs.drop k
theorem Own.jh {M:RM} {n el n0:Nat} {v:AV} {cs:List AV} (h:Own M n0 el 1 v cs n) : jh v:=by
 cases h with
 | nil=>trivial
 | ex0=>exact Nat.le_refl _
 | op=>rfl
def nM:Nat→List Nat→Nat × Nat
 | u,[]=>(u,0)
 | u,x :: xs=>if x≤u + 1 then((nM (max u x) xs).1,(nM (max u x) xs).2 + 1) else(u,0)
def settle (u:Nat) (xs:List Nat) : Nat × List Nat:=((nM u xs).1,xs.drop (nM u xs).2)
abbrev Pt:=Nat × List Nat
def OD (p:Pt) (n:Nat) : Bool × Pt :=
 if n∈p.2∨n≤p.1 then(true,p)
 else if (settle p.1 (FE (below n p.2) n p.2)).2.length≤4096 then(true,settle p.1 (FE (below n p.2) n p.2)) else(false,p)
theorem MB {k x:Nat} {xs:List Nat} {y:Nat} (h:y∈FE k x xs) : y=x∨y∈xs:=by
 unfold FE at h
 rcases List.mem_append.1 h with h | h
 ·exact .inr (List.mem_of_mem_take h)
 ·rcases List.mem_cons.1 h with h | h
  ·exact .inl h
  ·exact .inr (List.mem_of_mem_drop h)
abbrev aR:=Int × Nat
abbrev Lj (d:aR) : List AV:=[N .i64 d.1,N .u64 (d.2:Int)]
def wV:Enc aR:=⟨2,Lj,fun _=>rfl,fun _=>rfl⟩
def good (d:aR) : Bool:=decide (0≤d.1) && decide (d.1<16) && decide (1≤d.2) && decide (d.2≤1099511627776)
def BK (p:Pt) : Prop:=Asc p.2∧(∀ x∈p.2,p.1 + 1<x)∧p.1≤1099511627776∧(∀ x∈p.2,x≤1099511627776)∧p.2.length≤4096
theorem Tm {n:Nat} {xs:List Nat} (h:Asc xs) (hn:n ∉ xs) : Asc (FE (below n xs) n xs):=by
 unfold FE Asc
 rw[List.pairwise_append]
 have ht:=List.Pairwise.sublist (List.take_sublist (below n xs) xs) h
 have hd:=List.Pairwise.sublist (List.drop_sublist (below n xs) xs) h
 have lt1:∀ a∈xs.take (below n xs),a<n:=fun a ha=>by
  obtain⟨i,hi,rfl⟩:=List.getElem_of_mem ha
  rw[List.getElem_take]
  exact Kj (by simp at hi; omega) (by simp at hi; omega)
 have gt1:∀ a∈xs.drop (below n xs),n<a:=fun a ha=>by
  obtain⟨i,hi,rfl⟩:=List.getElem_of_mem ha
  rw[List.getElem_drop]
  simp only[List.length_drop] at hi
  have h0:below n xs<xs.length:=by omega
  have h1:=KH (n:=n) h0
  have h2:xs[below n xs]≠n:=fun e=>hn (by rw[← e]; exact List.getElem_mem h0)
  rcases Nat.eq_zero_or_pos i with rfl | hi0
  ·simp only[Nat.add_zero]; omega
  ·have:=h.lt (i:=below n xs) (j:=below n xs + i) (by omega) (by omega); omega
 refine⟨ht,List.pairwise_cons.2 ⟨gt1,hd⟩,fun a ha b hb=>?_⟩
 rcases List.mem_cons.1 hb with rfl | hb
 ·exact lt1 a ha
 ·have:=lt1 a ha; have:=gt1 b hb; omega
theorem CR:∀ (xs:List Nat) (u N:Nat),Asc xs→u≤N→(∀ x∈xs,x≤N)→Asc (settle u xs).2∧(∀ x∈(settle u xs).2,(settle u xs).1 + 1<x)∧(settle u xs).1≤N∧u≤(settle u xs).1
 | [],u,N,_,hu,_=>⟨by simp[settle,nM,Asc],by simp[settle,nM],hu,Nat.le_refl _⟩
 | x :: xs,u,N,ha,hu,hx=>by
   have ha2:=(List.pairwise_cons.1 ha).2
   by_cases h:x≤u + 1
   ·have e:settle u (x :: xs)=settle (max u x) xs:=by
     unfold settle
     rw[nM,if_pos h]; rfl
    rw[e]
    have:=CR xs (max u x) N ha2 (by have:=hx x (by simp); omega) (fun y hy=>hx y (by simp[hy]))
    exact⟨this.1,this.2.1,this.2.2.1,by have:=this.2.2.2; omega⟩
   ·have e:settle u (x :: xs)=(u,x :: xs):=by
     unfold settle
     rw[nM,if_neg h]; rfl
    rw[e]
    refine⟨ha,fun y hy=>?_,hu,Nat.le_refl _⟩
    simp only at hy ⊢
    rcases List.mem_cons.1 hy with rfl | hy
    ·omega
    ·have:=(List.pairwise_cons.1 ha).1 y hy; omega
theorem PZ {u:Nat} {xs:List Nat} {y:Nat} (h:y∈(settle u xs).2) : y∈xs:=List.mem_of_mem_drop h
theorem VV {p:Pt} {n:Nat} (hp:BK p) (hn:n≤1099511627776) : BK (OD p n).2:=by
 unfold OD
 split
 ·exact hp
 ·rename_i h
  split
  ·rename_i h2
   have hm:n ∉ p.2:=fun hm=>h (.inl hm)
   have:=CR (FE (below n p.2) n p.2) p.1 1099511627776 (Tm hp.1 hm) hp.2.2.1 (fun x hx=>by rcases MB hx with rfl | hx; exact hn; exact hp.2.2.2.1 x hx)
   exact⟨this.1,this.2.1,this.2.2.1,fun x hx=>by rcases MB (PZ hx) with rfl | hx; exact hn; exact hp.2.2.2.1 x hx,h2⟩
  ·exact hp
structure nI (T:Nat) (S:Nat→Prop) (M:RM) (b:Nat) (ps:List Pt) : Prop where
 lt:b<M.next
 len:ps.length=16
 row:∃ l,M.heap b=some (.row l false T 0)∧l.length=32∧∀ (i:Nat) (hi:i<ps.length),∃ v,l[2 * i]?=some (N .u64 (ps[i].1:Int))∧l[2 * i + 1]?=some v∧Sl dY M v ps[i].2∧jh v∧∀ d∈ak v,S d
 nb:¬ S b
theorem nI.mono {T:Nat} {S S' : Nat→Prop} {M:RM} {b:Nat} {ps:List Pt} (h:nI T S M b ps) (hs:∀ d,S d→S' d) (hb:¬ S' b) : nI T S' M b ps:=by
 obtain⟨l,h1,h2,h3⟩:=h.row
 exact⟨h.lt,h.len,⟨l,h1,h2,fun i hi=>let ⟨v,a1,a2,a3,a4,a5⟩:=h3 i hi; ⟨v,a1,a2,a3,a4,fun d hd=>hs d (a5 d hd)⟩⟩,hb⟩
theorem nI.keep {T:Nat} {S:Nat→Prop} {M M' : RM} {b:Nat} {ps:List Pt} {bs:List Nat} (h:nI T S M b ps) (hk:aa bs M M') (hb:b ∉ bs) (hs:∀ d∈bs,¬ S d) : nI T S M' b ps:=by
 obtain⟨l,h1,h2,h3⟩:=h.row
 exact⟨Nat.lt_of_lt_of_le h.lt hk.next,h.len,⟨l,hk.az h1 h.lt hb,h2,fun i hi=>let ⟨v,a1,a2,a3,a4,a5⟩:=h3 i hi; ⟨v,a1,a2,aK.keep a3 hk (fun d hd hm=>hs d hm (a5 d hd)),a4,a5⟩⟩,h.nb⟩
def zG (ps:List Pt) (d:aR) : Int × List Pt :=
 if good d then(if (OD (ps.getD d.1.toNat (0,[])) d.2).1 then(0,ps.set d.1.toNat (OD (ps.getD d.1.toNat (0,[])) d.2).2) else(2,ps)) else(1,ps)
def Ye (T:Nat) (c:au) : Prop:=∀ {M:RM} {b:Nat} {ps:List Pt} {d:aR} {S:Nat→Prop} {Q:aj},nI T S M b ps→(∀ p∈ps,BK p) →
 (∀ M',nI T (fun e=>S e∨M.next≤e) M' b (zG ps d).2→aa [b] M M'→Q (N .i64 (zG ps d).1) M')→c [.ptr b 0,.agg (Lj d)] M Q
def tK:List Pt:=List.replicate 16 (0,[])
def CZ (T:Nat) (c:au) : Prop:=∀ {M:RM} {Q:aj},(∀ M',nI T (fun _=>False) M' M.next tK→aa [] M M'→M'.next=M.next + 1→Q (.ptr M.next 0) M')→c [] M Q
theorem EJ {T:Nat} : CZ T fun args M Q=>args=[]∧UW T M Q:=by
 intro M Q hQ
 refine⟨rfl, ?_⟩
 unfold UW
 rw[jm]
 refine⟨_,rfl, ?_⟩
 rw[lI rfl (by simp),aN]
 refine hQ _ ⟨by simp[RM.push],rfl,⟨_,RM.bI _,rfl,fun i hi=>?_⟩,id⟩ ((aa.refl _ _).push _) rfl
 have hi:i<16:=hi
 refine⟨bQ, ?_, ?_, ?_,trivial,by simp[ak]⟩
 ·obtain rfl | rfl | rfl | rfl | rfl | rfl | rfl | rfl | rfl | rfl | rfl | rfl | rfl | rfl | rfl | rfl:i=0∨i=1∨i=2∨i=3∨i=4∨i=5∨i=6∨i=7∨i=8∨i=9∨i=10∨i=11∨i=12∨i=13∨i=14∨i=15:=by omega
  all_goals rfl
 ·obtain rfl | rfl | rfl | rfl | rfl | rfl | rfl | rfl | rfl | rfl | rfl | rfl | rfl | rfl | rfl | rfl:i=0∨i=1∨i=2∨i=3∨i=4∨i=5∨i=6∨i=7∨i=8∨i=9∨i=10∨i=11∨i=12∨i=13∨i=14∨i=15:=by omega
  all_goals rfl
 ·simp only[tK,List.getElem_replicate]; exact .nil
section
variable {α:Type} {E:Enc α}
theorem LC {M:RM} {v:AV} {xs:List α} {k:Nat} (hE:E.size=1) (h:Sl E M v xs) (hc:jh v) (hk:k≤xs.length) :
  ∃ v',dz 1 v (some (N .i64 (k:Int))) none none=some v'∧Sl E M v' (xs.drop k)∧jh v'∧∀ b∈ak v',b∈ak v:=by
 generalize hcs:E.row xs=cs at *
 have h' : aK M 1 v cs xs.length:=by rw[← hcs,← hE]; exact h
 have hl:cs.length=xs.length:=by rw[← hcs,Enc.gT,hE,Nat.mul_one]
 have hd:E.row (xs.drop k)=cs.drop k:=by rw[← hcs,← E.tq,hE,Nat.mul_one]
 have goal:∀ v',Sl E M v' (xs.drop k)↔aK M 1 v' (cs.drop k) (xs.length - k):=fun v'=>by simp only[Sl]; rw[hd,List.length_drop,hE]
 generalize hn:xs.length=n at *
 cases h' with
 | nil =>
   have:k=0:=by omega
   subst this
   exact⟨bQ,by simp[dz,bnd],(goal _).2 (by simp; exact .nil),trivial,by simp⟩
 | emp b =>
   have:k=0:=by omega
   subst this
   exact⟨.emp b,by simp[dz,bnd],(goal _).2 (by simp; exact .emp b),trivial,by simp⟩
 | slc b o n cap cs hb hload =>
   rw[Nat.mul_one] at hload
   have vM:M.loads b (o + k) (n - k)=some (cs.drop k):=by
    have:=nS hload k (n - k) (by omega)
    rw[List.take_of_length_le (by simp; omega)] at this
    exact this
   cases cap with
   | ex c =>
     have hcn:n≤c:=hc
     by_cases hck:c=k
     ·have hkn:k=n:=by omega
      refine⟨.slc b o 0 (.ex 0),by simp only[dz,bnd]; simp[hk,hcn,hck]; omega, ?_,Nat.le_refl _,by simp[ak]⟩
      rw[goal,hkn,Nat.sub_self,List.drop_of_length_le (by omega)]
      refine .slc b o 0 _ _ hb ?_
      have:=nS hload 0 0 (by omega)
      simpa using this
     ·refine⟨.slc b (o + k * 1) (n - k) (.ex (c - k)),by simp only[dz,bnd]; simp[hk,hcn,hck], ?_,by simp only[jh]; omega,by simp[ak]⟩
      rw[goal]
      refine .slc _ _ _ _ _ hb ?_
      show M.loads b (o + k * 1) ((n - k) * 1)=_
      rw[Nat.mul_one,Nat.mul_one]; exact vM
   | op e =>
     have he:e=1:=hc
     subst he
     by_cases hkn:n≤k
     ·refine⟨.emp b,by simp only[dz,bnd]; simp[hk,hkn], ?_,trivial,by simp[ak]⟩
      rw[goal,show n - k=0 by omega,List.drop_of_length_le (by omega)]
      exact .emp b
     ·refine⟨.slc b (o + k * 1) (n - k) (.op 1),by simp only[dz,bnd]; simp[hk,hkn], ?_,rfl,by simp[ak]⟩
      rw[goal]
      refine .slc _ _ _ _ _ hb ?_
      show M.loads b (o + k * 1) ((n - k) * 1)=_
      rw[Nat.mul_one,Nat.mul_one]; exact vM
theorem Xp {M:RM} {v:AV} {xs:List α} {k:Nat} (hE:E.size=1) (h:Sl E M v xs) (hc:jh v) (hk:k≤xs.length) :
  ∃ v',dz 1 v none (some (N .i64 (k:Int))) none=some v'∧Sl E M v' (xs.take k):=by
 generalize hcs:E.row xs=cs at *
 have h' : aK M 1 v cs xs.length:=by rw[← hcs,← hE]; exact h
 have hl:cs.length=xs.length:=by rw[← hcs,Enc.gT,hE,Nat.mul_one]
 have hd:E.row (xs.take k)=cs.take k:=by rw[← hcs,← E.uG,hE,Nat.mul_one]
 have goal:∀ v',Sl E M v' (xs.take k)↔aK M 1 v' (cs.take k) k:=fun v'=>by simp only[Sl]; rw[hd,List.length_take,hE,Nat.min_eq_left hk]
 generalize hn:xs.length=n at *
 cases h' with
 | nil =>
   have:k=0:=by omega
   subst this
   exact⟨bQ,by simp[dz,bnd],(goal _).2 (by simp; exact .nil)⟩
 | emp b =>
   have:k=0:=by omega
   subst this
   exact⟨.emp b,by simp[dz,bnd],(goal _).2 (by simp; exact .emp b)⟩
 | slc b o n cap cs hb hload =>
   rw[Nat.mul_one] at hload
   have vM:M.loads b o k=some (cs.take k):=by
    have:=nS hload 0 k (by omega)
    simpa using this
   cases cap with
   | ex c =>
     have hcn:n≤c:=hc
     by_cases hc0:c=0
     ·have hk0:k=0:=by omega
      subst hk0
      refine⟨.slc b o 0 (.ex 0),by simp only[dz,bnd]; simp[hc0], ?_⟩
      rw[goal]
      refine .slc b o 0 _ _ hb ?_
      simpa using vM
     ·refine⟨.slc b o k (.ex c),by simp only[dz,bnd]; simp[hc0]; omega, ?_⟩
      rw[goal]
      refine .slc _ _ _ _ _ hb ?_
      rw[Nat.mul_one]; exact vM
   | op e =>
     have he:e=1:=hc
     subst he
     by_cases hn0:n=0
     ·have hk0:k=0:=by omega
      subst hk0
      refine⟨.emp b,by simp only[dz,bnd]; simp[hn0], ?_⟩
      rw[goal]; simp; exact .emp b
     ·refine⟨.slc b o k (.op 1),by simp only[dz,bnd]; simp[hk,hn0], ?_⟩
      rw[goal]
      refine .slc _ _ _ _ _ hb ?_
      rw[Nat.mul_one]; exact vM
end
def pE:Nat→Nat→List UInt8→Option (Nat × Nat)
 | _,_,[]=>none
 | i,v,x :: xs =>
   if x.toNat ≥ 128 then pE (i + 1) ((v ||| (x.toNat % 128 * 2 ^ (7 * i) % 2 ^ 64)) % 2 ^ 64) xs
   else if x.toNat=0∧i > 0∨i=9∧x.toNat > 1 then none else some ((v ||| (x.toNat % 128 * 2 ^ (7 * i) % 2 ^ 64)) % 2 ^ 64,i + 1)
def xC (bs:List UInt8) : Option (Nat × Nat):=pE 0 0 (bs.take 10)
theorem NY:∀ (bs:List UInt8) (i v:Nat) {w n:Nat},pE i v bs=some (w,n)→w<2 ^ 64∧i<n∧n≤i + bs.length
 | [],_,_,_,_,h=>by simp[pE] at h
 | x :: xs,i,v,w,n,h=>by
   rw[pE] at h
   split at h
   ·have:=NY xs _ _ h
    simp only[List.length_cons]; omega
   ·split at h
    ·cases h
    ·simp only[Option.some.injEq,Prod.mk.injEq] at h
     obtain⟨rfl,rfl⟩:=h
     refine⟨Nat.mod_lt _ (by decide),by omega,by simp⟩
theorem NS {bs:List UInt8} {w n:Nat} (h:xC bs=some (w,n)) : w<2 ^ 64∧0<n∧n≤bs.length∧n≤10:=by
 have:=NY _ _ _ h
 rw[List.length_take] at this
 omega
structure Aw (T:Nat) (S:Nat→Prop) (M:RM) (r:Nat) (bs:List UInt8) (f:Bool) : Prop where
 lt:r<M.next
 row:∃ v,M.heap r=some (.row [v,Bo f] false T 0)∧Sl BY M v bs∧jh v∧∀ d∈ak v,S d
 nb:¬ S r
theorem Aw.keep {T:Nat} {S:Nat→Prop} {M M' : RM} {r:Nat} {bs:List UInt8} {f:Bool} {ks:List Nat} (h:Aw T S M r bs f) (hk:aa ks M M') (hr:r ∉ ks) (hs:∀ d∈ks,¬ S d) : Aw T S M' r bs f:=by
 obtain⟨v,h1,h2,h3,h4⟩:=h.row
 exact⟨Nat.lt_of_lt_of_le h.lt hk.next,⟨v,hk.az h1 h.lt hr,aK.keep h2 hk (fun d hd hm=>hs d hm (h4 d hd)),h3,h4⟩,h.nb⟩
def SG (bs:List UInt8) : List AV:=match xC bs with
 | some (v,n)=>[N .u64 (v:Int),N .i64 (n:Int),Bo true]
 | none=>[N .u64 0,N .i64 0,Bo false]
def TG (T:Nat) (c:au) : Prop:=∀ {M:RM} {r:Nat} {S:Nat→Prop} {bs:List UInt8} {f:Bool} {Q:aj},Aw T S M r bs f→Q (.tup (SG bs)) M→c [.ptr r 0] M Q
theorem Xr (x:UInt8) : N .u8 (oW .u8 (x.toNat:Int) 127)=N .u8 ((x.toNat % 128:Nat) : Int):=by
 rw[show(127:Int)=((127:Nat) : Int) from rfl,Uq rfl]
 have:x.toNat &&& 127=x.toNat % 128:=Nat.and_two_pow_sub_one_eq_mod x.toNat 7
 rw[this]
 simp only[qw]
 congr 2
 have:=Dj x
 omega
theorem Od (a b:Nat) : (if ((b:Nat) : Int)<(a:Int) then(b:Int) else(a:Int))=((min a b:Nat) : Int):=by
 split <;> omega
theorem Ug {T:Nat} : TG T fun args M Q=>∃ a0,args=[a0]∧oq a0 M Q:=by
 intro M r S bs f Q h hQ
 refine⟨_,rfl, ?_⟩
 obtain⟨v,hr,hs,hc,hS⟩:=h.row
 unfold oq
 rw[Sz,bF,wC,aH hr rfl,bF,wC,aH hr rfl,aK.len hs,XA,if_neg (by decide),show(10:Int)=((10:Nat) : Int) from rfl,Od]
 obtain⟨c,e1,e2⟩:=Xp (k:=min bs.length 10) rfl hs hc (Nat.min_le_left _ _)
 rw[e1,jS,aK.len e2]
 have hlen:(bs.take (min bs.length 10)).length=min bs.length 10:=by rw[List.length_take]; omega
 have htk:bs.take (min bs.length 10)=bs.take 10:=by
  rcases Nat.le_total bs.length 10 with hh | hh
  ·rw[Nat.min_eq_left hh,List.take_length,List.take_of_length_le hh]
  ·rw[Nat.min_eq_right hh]
 rw[htk] at e2 hlen ⊢
 have hll:(bs.take 10).length≤10:=by omega
 unfold SG xC at hQ
 generalize bs.take 10=ls at *
 refine aM (fun m ys M3=>∃ (i u:Nat),m=ls.length - i∧ys=[N .u64 (u:Int),N .i64 (i:Int)]∧i≤ls.length∧M3=M∧pE 0 0 ls=pE i u (ls.drop i)) _
  ⟨0,0,rfl,rfl,Nat.zero_le _,rfl,rfl⟩ ?_
 rintro next m ys M3 hnext ⟨i,u,rfl,rfl,hi,rfl,hset⟩
 dsimp only[ah]
 rw[gN]
 refine aS (fun hlt=>?_) (fun hge=>?_)
 ·have hlt:i<ls.length:=by simpa using hlt
  obtain⟨b1,o1,_,_,hidx,hcell⟩:=Sl.Om (E:=BY) e2 (i:Int) hlt
  rw[List.drop_eq_getElem_cons hlt,pE] at hset
  rw[hidx,fJ]
  refine⟨_,hcell _ rfl, ?_⟩
  generalize hx:ls[i]=x at *
  have hx256:=Dj x
  rw[dE,Xr,bT,wrap_u64,Nat.mod_eq_of_lt (by omega:x.toNat % 128<18446744073709551616),fo,show(7:Int) * (i:Int)=((7 * i:Nat) : Int) by omega,aL (by omega) (by omega),jd]
  refine⟨by omega, ?_⟩
  rw[LZ rfl _ _ (by show 7 * i≤64; omega),dx,NQ rfl,kD]
  simp only[qw]
  generalize hw:(u ||| (x.toNat % 128 * 2 ^ (7 * i) % 2 ^ 64)) % 2 ^ 64=w at *
  refine aS (fun hbig=>?_) (fun hsm=>?_)
  ·have hbig:x.toNat ≥ 128:=by
    have:(x.toNat:Int) ≥ 128:=of_decide_eq_true hbig
    omega
   rw[if_pos hbig] at hset
   rw[bi,lH (by omega)]
   exact hnext _ _ _ (by omega) ⟨i + 1,w,rfl,rfl,by omega,rfl,hset⟩
  ·have hsm:¬ x.toNat ≥ 128:=by
    have:¬ (x.toNat:Int) ≥ 128:=of_decide_eq_false hsm
    omega
   rw[if_neg hsm] at hset
   have bad:(x.toNat=0∧i > 0∨i=9∧x.toNat > 1)→Q (.tup [N .u64 0,N .i64 0,Bo false]) M3:=fun h=>by
    rw[if_pos h] at hset
    rw[hset] at hQ
    exact hQ
   have okk:¬ (x.toNat=0∧i > 0∨i=9∧x.toNat > 1)→Q (.tup [N .u64 (w:Int),N .i64 ((i + 1:Nat) : Int),Bo true]) M3:=fun h=>by
    rw[if_neg h] at hset
    rw[hset] at hQ
    exact hQ
   have Xa:¬ (x.toNat=0∧i > 0∨i=9∧x.toNat > 1)→ae .add (N .i64 (i:Int)) (N .i64 1) fun t50=>Q (.tup [N .u64 (w:Int),t50,Bo true]) M3:=fun h=>by
    rw[bi,lH (by omega)]
    exact okk h
   rw[bK]
   -- the second half of the question
   have second:¬ (x.toNat=0∧i > 0)→ae .eql (N .i64 (i:Int)) (N .i64 9) fun t42 =>
     ay t42 true (fun aaD=>aaD (N .u8 (x.toNat:Int)) M3) (fun k=>k .undef M3) fun t44 XJ =>
     ay t42 true (fun aad=>ae .gtr t44 (N .u8 1) fun t45=>aad t45 XJ) (fun k=>k .undef XJ) fun WT X3 =>
     ay (Bo false) false (fun ZH=>aY t42 WT (Bo false) fun t46=>ZH t46 X3) (fun k=>k .undef X3) fun Xd Io =>
     aY (Bo false) (Bo true) Xd fun t47=>aA t47 (Q (.tup [N .u64 0,N .i64 0,Bo false]) Io) (ae .add (N .i64 (i:Int)) (N .i64 1) fun t50=>Q (.tup [N .u64 (w:Int),t50,Bo true]) Io):=fun hn=>by
    rw[bK]
    by_cases h9:i=9
    ·rw[show((i:Int) == 9)=true by simp; omega,dN]
     dsimp only
     rw[dN,gu]
     dsimp only
     rw[bP]
     dsimp only
     rw[dF,fw]
     refine aS (fun hg=>bad (.inr ⟨h9, ?_⟩)) (fun hg=>Xa ?_)
     ·have:(x.toNat:Int) > 1:=of_decide_eq_true hg
      omega
     ·have:¬ (x.toNat:Int) > 1:=of_decide_eq_false hg
      rintro(h | h)
      ·exact hn h
      ·omega
    ·rw[show((i:Int) == 9)=false by simp; omega,lK]
     dsimp only
     rw[lK]
     dsimp only
     rw[bP]
     dsimp only
     rw[fw,fw,fM]
     refine Xa ?_
     rintro(h | h)
     ·exact hn h
     ·omega
   by_cases h0:x.toNat=0
   ·rw[show((x.toNat:Int) == 0)=true by simp[h0],dN]
    dsimp only
    rw[dN,gu]
    dsimp only
    rw[dF]
    by_cases hi0:i > 0
    ·rw[show decide ((i:Int) > 0)=true by simpa using hi0,gD]
     dsimp only
     rw[gD]
     dsimp only
     rw[gD]
     dsimp only
     rw[KF]
     dsimp only
     rw[KF]
     dsimp only
     rw[gD]
     dsimp only
     rw[dF,gF]
     exact bad (.inl ⟨h0,hi0⟩)
    ·rw[show decide ((i:Int) > 0)=false by simp; omega,bP]
     have:=second (fun h=>hi0 h.2)
     dsimp only
     rw[bP]
     dsimp only at this ⊢
     rw[bK] at this ⊢
     rw[bP]
     dsimp only
     exact this
   ·rw[show((x.toNat:Int) == 0)=false by simp; omega,lK]
    dsimp only
    rw[lK]
    dsimp only
    rw[fw,bP]
    have:=second (fun h=>h0 h.1)
    dsimp only
    rw[bP]
    dsimp only at this ⊢
    rw[bK] at this ⊢
    rw[bP]
    dsimp only
    exact this
 ·have he:i=ls.length:=by simp at hge; omega
  rw[he,List.drop_length,pE] at hset
  rw[hset] at hQ
  exact hQ
def iR (most:Nat) (bs:List UInt8) (f:Bool) : Nat × List UInt8 × Bool :=
 match xC bs with
 | none=>(0,bs,true)
 | some (v,n)=>if f || decide (most<v) then(0,bs,true) else(v,bs.drop n,false)
def UF (T:Nat) (c:au) : Prop:=∀ {M:RM} {r most:Nat} {S:Nat→Prop} {bs:List UInt8} {f:Bool} {Q:aj},Aw T S M r bs f→most<4294967296 →
 (∀ M',Aw T S M' r (iR most bs f).2.1 (iR most bs f).2.2→aa [r] M M'→M'.next=M.next→Q (N .i64 (((iR most bs f).1:Nat) : Int)) M')→c [.ptr r 0,N .i64 (most:Int)] M Q
theorem KL {M:RM} {f ok:Bool} {v most:Nat} {K:aj} (hm:most<4294967296) (hQ:K (Bo (f || (!ok || decide (most<v)))) M) :
  ay (Bo f) false (fun k'=>kS (Bo ok) fun t21=>k' t21 M) (fun k=>k .undef M) fun Ym M_3 =>
  aY (Bo f) (Bo true) Ym fun t22 =>
  ay t22 false (fun k'=>ae .lss (N .i64 (most:Int)) (N .i64 0) fun t25=>k' t25 M_3) (fun k=>k .undef M_3) fun Qs M_8 =>
  aY t22 (Bo true) Qs fun t26 =>
  ay t26 false (fun k'=>dL .u64 (N .i64 (most:Int)) fun t30=>ae .gtr (N .u64 (v:Int)) t30 fun t31=>k' t31 M_8) (fun k=>k .undef M_8) fun Kq Io =>
  aY t26 (Bo true) Kq fun t32=>K t32 Io:=by
 have tail:K (Bo true) M→ay (Bo true) false (fun k'=>ae .lss (N .i64 (most:Int)) (N .i64 0) fun t25=>k' t25 M) (fun k=>k .undef M) fun Qs M_8 =>
   aY (Bo true) (Bo true) Qs fun t26 =>
   ay t26 false (fun k'=>dL .u64 (N .i64 (most:Int)) fun t30=>ae .gtr (N .u64 (v:Int)) t30 fun t31=>k' t31 M_8) (fun k=>k .undef M_8) fun Kq Io =>
   aY t26 (Bo true) Kq fun t32=>K t32 Io:=fun hK=>by
  rw[gD]
  dsimp only
  rw[dF,gD]
  dsimp only
  rw[dF]
  exact hK
 cases f with
 | true =>
   rw[gD]
   dsimp only
   rw[dF]
   exact tail hQ
 | false =>
   rw[bP]
   dsimp only
   rw[eU]
   cases ok with
   | false =>
     rw[fw]
     exact tail hQ
   | true =>
     rw[fw]
     simp only[Bool.not_true]
     rw[bP]
     dsimp only
     rw[gN,show decide ((most:Int)<0)=false by simp]
     rw[fw,bP]
     dsimp only
     rw[bT,bL (by omega) (by omega),gu,fw]
     have:decide ((v:Int) > (most:Int))=decide (most<v):=by simp
     rw[this]
     exact hQ
theorem Jz {T:Nat} {M:RM} {r:Nat} {S:Nat→Prop} {bs:List UInt8} {f g:Bool} {n:Nat} {x:AV} {Z:aj} {K:RM→Prop} (h:Aw T S M r bs f) (hn:n≤bs.length)
  (h1:g=true→∀ M',Aw T S M' r bs true→aa [r] M M'→M'.next=M.next→Z x M')
  (h2:g=false→∀ M',Aw T S M' r (bs.drop n) false→aa [r] M M'→M'.next=M.next→K M') :
  ek (.ptr r 0) fun t33=>fe t33 1 fun t34=>aU M t34 (Bo g) 1 fun PL=>ek (.ptr r 0) fun t36=>fe t36 1 fun t37=>ag PL t37 fun t38 =>
   aA t38 (Z x PL) (ek (.ptr r 0) fun t41=>fe t41 0 fun t42=>ag PL t42 fun t43=>iN (dz 1 t43 (some (N .i64 (n:Int))) none none) fun t45 =>
    ek (.ptr r 0) fun t46=>fe t46 0 fun t47=>aU PL t47 t45 1 fun aaI=>K aaI):=by
 obtain⟨v,hr,hs,hc,hS⟩:=h.row
 have hrl:=h.lt
 rw[bF,wC,gB [v,Bo g] hr (by simp) rfl rfl rfl,bF,wC,aH (aG _) rfl]
 have kk:aa [r] M (M.put r (.row [v,Bo g] false T 0)):=(aa.refl _ _).put _ (.inr (by simp))
 have hh:(M.put r (.row [v,Bo g] false T 0)).heap r=some (.row [v,Bo g] false T 0):=aG _
 have nn:(M.put r (.row [v,Bo g] false T 0)).next=M.next:=rfl
 generalize M.put r (.row [v,Bo g] false T 0)=M1 at *
 have s1:Sl BY M1 v bs:=aK.keep hs kk (fun d hd hm=>by simp at hm; subst hm; exact h.nb (hS d hd))
 refine aS (fun hg=>?_) (fun hg=>?_)
 ·subst hg
  exact h1 rfl M1 ⟨by omega,⟨v,hh,s1,hc,hS⟩,h.nb⟩ kk nn
 ·subst hg
  rw[bF,wC,aH hh rfl]
  obtain⟨v',e1,e2,e3,e4⟩:=LC rfl s1 hc hn
  rw[e1,jS,bF,wC,gB [v',Bo false] hh (by simp) (aK.cells e2) (aK.one e2) rfl]
  have k2:aa [r] M1 (M1.put r (.row [v',Bo false] false T 0)):=(aa.refl _ _).put _ (.inr (by simp))
  exact h2 rfl _ ⟨by rw[Ag]; omega,⟨v',aG _,aK.keep e2 k2 (fun d hd hm=>by simp at hm; subst hm; exact h.nb (hS d (e4 d hd))),e3,fun d hd=>hS d (e4 d hd)⟩,h.nb⟩ (kk.trans k2) (by rw[Ag]; exact nn)
theorem Ud {T:Nat} {cn:au} (hn:TG T cn) : UF T fun args M Q=>∃ a0 a1,args=[a0,a1]∧tX cn a0 a1 M Q:=by
 intro M r most S bs f Q h hm hQ
 refine⟨_,_,rfl, ?_⟩
 unfold tX
 simp only[ni]
 refine hn h ?_
 obtain⟨v,hr,hs,hc,hS⟩:=h.row
 unfold iR at hQ
 unfold SG
 cases hnb:xC bs with
 | none =>
   simp only[hnb] at hQ
   dsimp only
   rw[bZ,dG,iI,bF,wC,aH hr rfl]
   refine KL (v:=0) (ok:=false) hm ?_
   refine Jz (n:=0) (Z:=Q) h (Nat.zero_le _) (fun _ M' q1 q2 q3=>hQ M' q1 q2 q3) (fun hg=>by simp at hg)
 | some p =>
   obtain⟨w,n⟩:=p
   simp only[hnb] at hQ
   dsimp only
   rw[bZ,dG,iI,bF,wC,aH hr rfl]
   refine KL (v:=w) (ok:=true) hm ?_
   refine Jz (n:=n) (Z:=Q) h (NS hnb).2.2.1 (fun hg M' q1 q2 q3=>?_) (fun hg M' q1 q2 q3=>?_)
   ·have hg:(f || decide (most<w))=true:=by simpa using hg
    rw[if_pos hg] at hQ
    exact hQ M' q1 q2 q3
   ·have hg:(f || decide (most<w))=false:=by simpa using hg
    rw[if_neg (by simp[hg])] at hQ
    have hw:w≤most:=by simp at hg; omega
    rw[bT,aL (by omega) (by omega)]
    exact hQ M' q1 q2 q3
def Gs (T:Nat) (c:au) : Prop:=∀ {M:RM} {v:AV} {bs:List UInt8} {Q:aj},Sl BY M v bs→bs.length≤140737488355328 →
 (∀ r M',Aw T (fun d=>M.next≤d∧d<r) M' r bs false→M.next≤r→aa [] M M'→Q (.ptr r 0) M')→c [v] M Q
theorem Jd {T TB:Nat} {cc:au} (hcl:jP TB 1 1 cc) : Gs T fun args M Q=>∃ a0,args=[a0]∧LH cc T a0 M Q:=by
 intro M v bs Q h hl hQ
 refine⟨_,rfl, ?_⟩
 unfold LH
 refine hcl h (Enc.bX _ _) (by omega) (by omega) fun b0 M1 ho hk=>?_
 rw[jm]
 refine⟨[b0,Bo false], ?_, ?_⟩
 ·have:=ho.cells
  have hkn:=ho.kY.known
  simp[lc,hkn,this]
 rw[lI (by simp[ho.one]; rfl) (by simp),aN]
 have k2:aa [] M1 (M1.push (.row [b0,Bo false] false T 0)):=(aa.refl _ _).push _
 refine hQ M1.next _ ⟨by rw[dO]; omega,⟨b0,RM.bI _,aK.keep ho.kY k2 (by simp),Own.jh ho,fun d hd=>ho.blk d hd⟩,fun h=>by omega⟩ hk.next (hk.trans k2)
def Ui (T:Nat) (c:au) : Prop:=∀ {M:RM} {r:Nat} {S:Nat→Prop} {bs:List UInt8} {f:Bool} {Q:aj},Aw T S M r bs f→Q (N .i64 (if f then 14 else 0)) M→c [.ptr r 0] M Q
theorem Ul {T:Nat} : Ui T fun args M Q=>∃ a0,args=[a0]∧sS a0 M Q:=by
 intro M r S bs f Q h hQ
 refine⟨_,rfl, ?_⟩
 unfold sS
 obtain⟨v,hr,hs,hc,hS⟩:=h.row
 rw[bF,wC,aH hr rfl]
 cases f with
 | true=>rw[gF]; exact hQ
 | false=>rw[fM]; exact hQ
def vL (f:(List AV→RM→Prop)→Prop) (g:List AV→RM→Prop) : Prop:=f g
theorem gz (f:(List AV→RM→Prop)→Prop) (g:List AV→RM→Prop) : fC f g=vL f g:=rfl
theorem fV {H:(List AV→RM→Prop)→Prop} {G:List AV→RM→Prop} (P:List AV→RM→Prop) (hT:∀ xs M,P xs M→G xs M)
  (hH:∀ J:List AV→RM→Prop,(∀ xs M,P xs M→J xs M)→H J) : vL H G:=hH G hT
abbrev J7:=(Nat × Nat) × List Nat
def Q6 (ps:List Pt) : Nat→List J7
 | 0=>[]
 | i + 1=>Q6 ps i++(if 0<(ps.getD i (0,[])).1∨0<(ps.getD i (0,[])).2.length then[((i,(ps.getD i (0,[])).1),(ps.getD i (0,[])).2)] else[])
def parts (ps:List Pt) : List J7:=Q6 ps 16
@[irreducible] def Yu (x a:Nat) : Nat:=(x + 18446744073709551616 - a) % 18446744073709551616
def Ve:Nat→List Nat→List UInt8
 | _,[]=>[]
 | a,x :: xs=>fA (Yu x a)++Ve x xs
def ZI (p:J7) : List UInt8:=fA p.1.1++fA p.1.2++fA p.2.length++Ve p.1.2 p.2
def aaB (l:List J7) : List UInt8:=fA l.length++l.flatMap ZI
def encS (ps:List Pt) : List UInt8:=aaB (parts ps)
theorem Aa {v:Nat} (h:v<2 ^ 64) : (fA v).length≤10:=Bh 10 v (by omega) (by omega)
def Bd (p:Pt) : Prop:=p.1<2 ^ 64∧p.2.length≤1000000∧∀ x∈p.2,x<2 ^ 64
def VW (TS T:Nat) (c:au) : Prop:=∀ {M:RM} {b:Nat} {ps:List Pt} {S:Nat→Prop} {Q:aj},nI TS S M b ps→(∀ p∈ps,Bd p) →
 (∀ v M',Own M' M.next T 1 v (dJ (encS ps)) (encS ps).length→(encS ps).length≤200000000→aa [] M M'→Q v M')→c [.ptr b 0] M Q
theorem mV (a b:List UInt8) : dJ (a++b)=dJ a++dJ b:=List.map_append
structure zA (T TU base:Nat) (M:RM) (b:Nat) (ps:List Pt) : Prop where
 lt:b<M.next
 len:ps.length=16
 row:∃ (l:List AV) (vs:Nat→AV),M.heap b=some (.row l false T 0)∧l.length=32∧(∀ (i:Nat) (hi:i<ps.length),l[2 * i]?=some (N .u64 (ps[i].1:Int))∧l[2 * i + 1]?=some (vs i)∧Ow dY M base TU (vs i) ps[i].2) ∧
  ∀ i j,i<16→j<16→i≠j→∀ d∈ak (vs i),d ∉ ak (vs j)
 nb:b<base
theorem zA.setH {T TU base:Nat} {M:RM} {b:Nat} {ps:List Pt} (h:zA T TU base M b ps) : nI T (fun d=>base≤d) M b ps:=by
 obtain⟨l,vs,h1,h2,h3,h4⟩:=h.row
 refine⟨h.lt,h.len,⟨l,h1,h2,fun i hi=>⟨vs i,(h3 i hi).1,(h3 i hi).2.1,(h3 i hi).2.2.kY,Own.jh (h3 i hi).2.2,fun d hd=>((h3 i hi).2.2.blk d hd).1⟩⟩,by have:=h.nb; omega⟩
theorem zA.keep {T TU base:Nat} {M M' : RM} {b:Nat} {ps:List Pt} {bs:List Nat} (h:zA T TU base M b ps) (hk:aa bs M M') (hb:b ∉ bs) (hs:∀ d∈bs,d<base) : zA T TU base M' b ps:=by
 obtain⟨l,vs,h1,h2,h3,h4⟩:=h.row
 refine⟨Nat.lt_of_lt_of_le h.lt hk.next,h.len,⟨l,vs,hk.az h1 h.lt hb,h2,fun i hi=>⟨(h3 i hi).1,(h3 i hi).2.1,(h3 i hi).2.2.keep hk fun d hd hm=>?_⟩,h4⟩,h.nb⟩
 have:=((h3 i hi).2.2.blk d hd).1
 have:=hs d hm
 omega
theorem zA.more {T TU base:Nat} {M:RM} {b i x:Nat} {ps:List Pt} (h:zA T TU base M b ps) (hi:i<16) (hlen:(ps.getD i (0,[])).2.length≤1000000) (hbase:base≤M.next) {K:RM→Prop}
  (hK:∀ M' ks,zA T TU base M' b (ps.set i ((ps.getD i (0,[])).1,(ps.getD i (0,[])).2++[x]))→aa ks M M'→(∀ d∈ks,d=b∨base≤d)→K M') :
  ag M (.ptr b (2 * i + 1)) fun t55=>bN TU 1 [(N .u64 0)] [(0,1,N .u64 (x:Int))] fun r f=>aQ r f M fun t57 Zx=>appW TU 1 8 [(N .u64 0)] false t55 t57 Zx fun t58 aav =>
   ek (.ptr b (2 * i)) fun t59=>fe t59 1 fun t60=>aU aav t60 t58 1 K:=by
 obtain⟨l,vs,h1,h2,h3,h4⟩:=h.row
 have hnb:=h.nb
 have hblt:=h.lt
 have hil:i<ps.length:=by rw[h.len]; exact hi
 have hpD:ps.getD i (0,[])=ps[i]:=by rw[List.getD_eq_getElem?_getD,List.getElem?_eq_getElem hil]; rfl
 rw[hpD] at hlen hK
 rw[aH h1 (h3 i hil).2.1,iq (x:=N .u64 (x:Int)) (size:=1) rfl rfl rfl,aN]
 refine iw (E:=dY) (a:=x) (h3 i hil).2.2 hbase (Nat.le_refl _) (by omega) (by omega) ?_
 intro v' M' o1 k1 n1 hv
 have hbv:∀ j,b ∉ ak (vs j)∨¬ j<16:=fun j=>by
  by_cases hj:j<16
  ·refine .inl fun hm=>?_
   have:=((h3 j (by rw[h.len]; exact hj)).2.2.blk b hm).1
   omega
  ·exact .inr hj
 have hh:M'.heap b=some (.row l false T 0):=k1.az h1 hblt (by rcases hbv i with h | h; exact h; exact absurd hi h)
 rw[bF,iW,Cn hh (by omega) o1.cells o1.one]
 have kk:aa [b] M' (M'.put b (.row (l.set (2 * i + 1) v') false T 0)):=(aa.refl _ _).put _ (.inr (by simp))
 have nbv:b ∉ ak v':=fun hm=>by have:=(o1.blk b hm).1; omega
 refine hK _ (b :: ak (vs i)) ⟨Nat.lt_of_lt_of_le hblt n1,by rw[List.length_set]; exact h.len,⟨_,fun j=>if j=i then v' else vs j,aG _,by rw[List.length_set]; exact h2,fun j hj=>?_,fun j1 j2 q1 q2 hne d hd=>?_⟩,h.nb⟩ ?_ ?_
 ·have hj' : j<ps.length:=by rw[List.length_set] at hj; exact hj
  by_cases hji:j=i
  ·subst hji
   refine⟨?_, ?_, ?_⟩
   ·rw[List.getElem?_set_ne (by omega),List.getElem_set_self]; exact(h3 j hj').1
   ·rw[List.getElem?_set_self (by omega)]; simp
   ·rw[List.getElem_set_self]; simp only[if_true]
    exact o1.keep kk fun d hd hm=>by simp at hm; subst hm; exact nbv hd
  ·have Wy:j<16:=by rw[← h.len]; exact hj'
   refine⟨?_, ?_, ?_⟩
   ·rw[List.getElem?_set_ne (by omega),List.getElem_set_ne (Ne.symm hji)]; exact(h3 j hj').1
   ·rw[List.getElem?_set_ne (by omega)]; simp only[if_neg hji]; exact(h3 j hj').2.1
   ·rw[List.getElem_set_ne (Ne.symm hji)]; simp only[if_neg hji]
    refine((h3 j hj').2.2.keep k1 fun d hd hm=>h4 j i Wy hi hji d hd hm).keep kk fun d hd hm=>?_
    simp at hm; subst hm
    rcases hbv j with h | h
    ·exact h hd
    ·exact h Wy
 ·simp only at hd ⊢
  by_cases e1:j1=i
  ·rw[if_pos e1] at hd
   rw[if_neg (fun e=>hne (e1.trans e.symm))]
   rcases hv with rfl | hv
   ·exact h4 i j2 hi q2 (fun e=>hne (e1.trans e)) d hd
   ·intro hm
    have:=hv d hd
    have:=((h3 j2 (by rw[h.len]; exact q2)).2.2.blk d hm).2
    omega
  ·rw[if_neg e1] at hd
   by_cases e2:j2=i
   ·rw[if_pos e2]
    rcases hv with rfl | hv
    ·exact h4 j1 i q1 hi e1 d hd
    ·intro hm
     have:=hv d hm
     have:=((h3 j1 (by rw[h.len]; exact q1)).2.2.blk d hd).2
     omega
   ·rw[if_neg e2]
    exact h4 j1 j2 q1 q2 hne d hd
 ·exact(k1.mono (fun d hd=>List.mem_cons_of_mem _ hd)).trans (kk.mono (by simp))
 ·intro d hd
  rcases List.mem_cons.1 hd with rfl | hd
  ·exact .inl rfl
  ·exact .inr ((h3 i hil).2.2.blk d hd).1
def chain:Nat→List Nat→Bool
 | _,[]=>true
 | a,x :: xs=>decide (a<x) && chain x xs
def YE (p:Pt) : Bool:=chain (p.1 + 1) p.2
theorem Own.sl {M:RM} {base T:Nat} {v:AV} {L:List UInt8} (h:Own M base T 1 v (dJ L) L.length) : Sl BY M v L:=by
 have:=h.kY
 show aK M 1 v (BY.row L) L.length
 rw[kG]; exact this
@[irreducible] def yO (bs:List UInt8) (f:Bool) : Nat × List UInt8 × Bool:=iR 18446744073709551615 bs f
def U5:Nat→Nat→List UInt8→Bool→List Nat→Option (Nat × List UInt8 × Bool × List Nat)
 | 0,a,bs,f,acc=>some (a,bs,f,acc)
 | k + 1,a,bs,f,acc =>
   if (yO bs f).2.2=true∨1099511627776<(yO bs f).1∨1099511627776<a then none
   else U5 k (a + (yO bs f).1) (yO bs f).2.1 (yO bs f).2.2 (acc++[a + (yO bs f).1])
def Rx:Nat→List UInt8→Bool→List Pt→Option (List UInt8 × Bool × List Pt)
 | 0,bs,f,ps=>some (bs,f,ps)
 | k + 1,bs,f,ps =>
   let d:=iR 15 bs f
   let u:=yO d.2.1 d.2.2
   let n:=iR 4096 u.2.1 u.2.2
   match U5 n.1 u.1 n.2.1 n.2.2 (ps.getD d.1 (0,[])).2 with
   | none=>none
   | some (a,bs',f',acc)=>if 1099511627776<u.1∨1099511627776<a then none else Rx k bs' f' (ps.set d.1 (u.1,acc))
def decode (bs:List UInt8) : Option (List Pt) :=
 match Rx (iR 16 bs false).1 (iR 16 bs false).2.1 (iR 16 bs false).2.2 tK with
 | none=>none
 | some (bs',f,ps)=>if f=true∨bs'≠[]∨ps.all YE=false∨encS ps≠bs then none else some ps
def Bi (k:Nat) (p:Pt) : Prop:=p.1≤1099511627776∧p.2.length≤k∧∀ x∈p.2,x≤4398046511104
def Wd (TS TU:Nat) (c:au) : Prop:=∀ {M:RM} {v:AV} {bs:List UInt8} {Q:aj},Sl BY M v bs→bs.length≤140737488355328 →
 (decode bs=none→∀ M',aa [] M M'→Q (.tup [.sc (.pointer none),N .i64 14]) M') →
 (∀ ps,decode bs=some ps→(∀ p∈ps,Bi 65536 p)→∀ s M',M.next≤s→zA TS TU (s + 1) M' s ps→aa [] M M'→Q (.tup [.ptr s 0,N .i64 0]) M')→c [v] M Q
def Xv (a b:aR) : Bool:=decide (a.1<b.1) || (decide (a.1=b.1) && decide (a.2<b.2))
section
variable {α:Type} {E:Enc α}
end
def Y7 (d:aR) (l:List aR) : Nat:=(l.takeWhile (fun x=>Xv x d)).length
def eT (l:List aR) (d:aR) : List aR:=if d∈l then l else l.take (Y7 d l)++d :: l.drop (Y7 d l)
theorem S9 (l:List aR) (d:aR) : (eT l d).length≤l.length + 1:=by
 unfold eT
 split
 ·omega
 ·simp; omega
def VB (T:Nat) (c:au) : Prop:=∀ {M:RM} {base:Nat} {v:AV} {l:List aR} {d:aR} {Q:aj},Ow wV M base T v l→base≤M.next→l.length≤100000→(∀ v' M',Ow wV M' base T v' (eT l d)→aa [] M M'→Q v' M')→c [v,.agg (Lj d)] M Q
def mJ (p:List Pt × List aR) (d:aR) : List Pt × List aR:=((zG p.1 d).2,if (zG p.1 d).1=0 then eT p.2 d else p.2)
def Q3 (l:List aR) : List Pt × List aR:=l.foldl mJ (tK,[])
theorem Sr:∀ p∈tK,BK p:=fun p hp=>by
 simp only[tK,List.mem_replicate] at hp
 rw[hp.2]
 exact⟨.nil,fun x hx=>by simp at hx,Nat.zero_le _,fun x hx=>by simp at hx,Nat.zero_le _⟩
theorem VF {ps:List Pt} (h:∀ p∈ps,BK p) (i:Nat) : BK (ps.getD i (0,[])):=by
 rw[List.getD_eq_getElem?_getD]
 by_cases hj:i<ps.length
 ·rw[List.getElem?_eq_getElem hj]
  exact h _ (List.getElem_mem hj)
 ·rw[List.getElem?_eq_none (by omega)]
  exact⟨.nil,fun x hx=>by simp at hx,Nat.zero_le _,fun x hx=>by simp at hx,Nat.zero_le _⟩
theorem VT {ps:List Pt} {d:aR} (h:∀ p∈ps,BK p) : ∀ p∈(zG ps d).2,BK p:=by
 unfold zG
 split
 ·rename_i hg
  split
  ·intro p hp
   rcases List.mem_or_eq_of_mem_set hp with hp | rfl
   ·exact h p hp
   ·refine VV (VF h _) ?_
    simp only[good,Bool.and_eq_true,decide_eq_true_eq] at hg
    exact hg.2
  ·exact h
 ·exact h
def Rn (TS TD:Nat) (c:au) : Prop:=∀ {M:RM} {v:AV} {l:List aR} {Q:aj},Sl wV M v l→l.length≤10000 →
 (∀ s w M',M.next≤s→nI TS (fun e=>s<e) M' s (Q3 l).1→(∀ p∈(Q3 l).1,BK p)→Ow wV M' (s + 1) TD w (Q3 l).2→(Q3 l).2.length≤l.length→aa [] M M'→Q (.tup [.ptr s 0,w]) M')→c [v] M Q
theorem N9 {TS TD:Nat} {cn ca cr:au} (hn:CZ TS cn) (ha:Ye TS ca) (hr:VB TD cr) : Rn TS TD fun args M Q=>∃ a0,args=[a0]∧Xz cn ca cr a0 M Q:=by
 intro M v l Q hs hl hQ
 refine⟨_,rfl, ?_⟩
 unfold Xz
 simp only[gz]
 refine hn fun M1 hs1 k1 n1=>?_
 generalize hsn:M.next=s at *
 refine aM (fun m ys M3=>∃ (i:Nat) (w:AV) (p:List Pt × List aR),m=l.length - i∧ys=[w,N .i64 (i:Int)]∧i≤l.length∧aa [] M M3∧s<M3.next∧nI TS (fun e=>s<e) M3 s p.1∧(∀ q∈p.1,BK q)∧Ow wV M3 (s + 1) TD w p.2∧p.2.length≤i ∧
   Q3 l=(l.drop i).foldl mJ p) _
  ⟨0,bQ,(tK,[]),rfl,rfl,Nat.zero_le _,k1,by omega,hs1.mono (fun _ h=>h.elim) (by omega),Sr,.nil,Nat.le_refl _,rfl⟩ ?_
 rintro next m ys M3 hnext ⟨i,w,p,rfl,rfl,hi,k3,n3,hs3,hw3,ho3,hpl,hof⟩
 dsimp only[ah]
 have s3:Sl wV M3 v l:=aK.keep hs k3 (by simp)
 rw[aK.len s3,gN]
 refine aS (fun hlt=>?_) (fun hge=>?_)
 ·have hlt:i<l.length:=by simpa using hlt
  rw[List.drop_eq_getElem_cons hlt,List.foldl_cons] at hof
  refine fV (fun zs M'=>∃ w',zs=[w']∧aa [] M M'∧s<M'.next∧nI TS (fun e=>s<e) M' s (mJ p l[i]).1∧(∀ q∈(mJ p l[i]).1,BK q)∧Ow wV M' (s + 1) TD w' (mJ p l[i]).2∧(mJ p l[i]).2.length≤i + 1) ?_ ?_
  ·rintro zs M' ⟨w',rfl,b1,b2,b3,b4,b5,b6⟩
   dsimp only[ah]
   rw[bi,lH (by omega)]
   exact hnext _ _ _ (by omega) ⟨i + 1,w',_,rfl,rfl,by omega,b1,b2,b3,b4,b5,b6,hof⟩
  intro J hJ
  obtain⟨b1,o1,_,_,hidx,hld⟩:=Sl.at (E:=wV) (i:=i) s3 2 (i:Int) hlt rfl rfl
  rw[hidx,BZ]
  refine⟨_,hld, ?_⟩
  refine ha hs3 hw3 fun M4 hs4 k4=>?_
  have n4:=k4.next
  have k34:aa [] M M4:=k3.eP k4 (by simp; omega)
  have Wt:nI TS (fun e=>s<e) M4 s (zG p.1 l[i]).2:=hs4.mono (fun e h=>by rcases h with h | h <;> omega) (by omega)
  have ho4:=ho3.keep k4 (fun b hb hm=>by have:=(ho3.blk b hb).1; simp at hm; omega)
  have hw4:=VT (d:=l[i]) hw3
  rw[bK]
  refine aS (fun he=>?_) (fun he=>?_)
  ·have he:(zG p.1 l[i]).1=0:=by simpa using he
   have s4:Sl wV M4 v l:=aK.keep hs k34 (by simp)
   obtain⟨b2,o2,_,_,OO,SC⟩:=Sl.at (E:=wV) (i:=i) s4 2 (i:Int) hlt rfl rfl
   rw[OO,BZ]
   refine⟨_,SC, ?_⟩
   refine hr ho4 (by omega) (by omega) fun w' M5 ho5 k5=>?_
   have n5:=k5.next
   refine hJ _ _ ⟨w',rfl,k34.trans k5,by omega, ?_,hw4, ?_, ?_⟩
   ·exact Wt.keep k5 (by simp) (by simp)
   ·rw[mJ]; simp only[he,if_true]; exact ho5
   ·rw[mJ]; simp only[he,if_true]
    have:=S9 p.2 l[i]
    omega
  ·have he:¬ (zG p.1 l[i]).1=0:=by simpa using he
   refine hJ _ _ ⟨w,rfl,k34,by omega,Wt,hw4, ?_, ?_⟩
   ·rw[mJ]; simp only[he,if_false]; exact ho4
   ·rw[mJ]; simp only[he,if_false]; omega
 ·have he:i=l.length:=by simp at hge; omega
  subst he
  rw[List.drop_length,List.foldl_nil] at hof
  subst hof
  exact hQ s w M3 (Nat.le_refl _) hs3 hw3 ho3 hpl k3
theorem Jr {f g:Prop→Prop} {k:Prop} : BJ (Bo true) true f g k=f k:=rfl
def Cz (c:au) : Prop:=∀ {M:RM} {v:AV} {bs:List UInt8} {Q:aj},Sl BY M v bs→bs.length≤140737488355328→(∀ M',aa [] M M'→Q (Bo true) M')→c [v] M Q
theorem Pk {bs:List UInt8} {ps:List Pt} (h:decode bs=some ps) : encS ps=bs:=by
 unfold decode at h
 split at h
 ·cases h
 ·split at h
  ·cases h
  ·rename_i h2
   cases h
   exact Classical.byContradiction fun hn=>h2 (.inr (.inr (.inr hn)))
theorem GN {TS TU TB:Nat} {cd ce:au} (hd:Wd TS TU cd) (he:VW TS TB ce) : Cz fun args M Q=>∃ a0,args=[a0]∧Ol cd ce a0 M Q:=by
 intro M v bs Q hs hl hQ
 refine⟨_,rfl, ?_⟩
 unfold Ol
 simp only[ni,yV,uh,uz]
 refine hd hs hl (fun hnone M1 k1=>?_) fun ps hsome hbi s M1 hs0 hso k1=>?_
 ·rw[bZ,dG,cB,show((14:Int) != 0)=true from rfl,gF,bK,show((14:Int) == 14)=true from rfl,dN]
  dsimp only
  rw[uX,dF]
  exact hQ M1 k1
 ·rw[bZ,dG,cB,show((0:Int) != 0)=false from rfl,fM,xL]
  have s1:Sl BY M1 v bs:=aK.keep hs k1 (by simp)
  rw[dM]
  dsimp only
  rw[dM]
  dsimp only
  rw[dM,Sl.str s1]
  dsimp only
  rw[dN]
  dsimp only
  refine he hso.setH (fun p hp=>⟨by have:=(hbi p hp).1; omega,by have:=(hbi p hp).2.1; omega,fun x hx=>by have:=(hbi p hp).2.2 x hx; omega⟩) fun w M2 ho2 hl2 k2=>?_
  have k12:=k1.trans k2
  have s2:Sl BY M2 v bs:=aK.keep hs k12 (by simp)
  rw[Jr,Sl.str s2]
  refine⟨rfl, ?_⟩
  rw[dM,Sl.str (Own.sl ho2),uP,Pk hsome]
  dsimp only
  rw[dF,show(bs == bs)=true by simp]
  exact hQ M2 k12
theorem Own.WE {M:RM} {base el size n:Nat} {v:AV} {cs:List AV} (h:Own M base el size v cs n) (hn:0<n) : ∃ b,v=.slc b 0 n (.op size)∧base≤b∧b<M.next∧M.heap b=some (.row cs true el 0)∧cs.length=n * size:=by
 cases h with
 | nil=>omega
 | ex0=>omega
 | op b n cs h1 h2 h3 h4=>exact⟨b,rfl,h1,h2,h3,h4⟩
theorem jX {M:RM} {b o:Nat} {x:AV} {K:AV→Prop} (h:M.cell b o=some x) : ag M (.ptr b o) K=K x:=by
 rw[fJ,h]; simp
theorem VZ (a b:Nat) : (a:Int).tdiv (b:Int)=((a / b:Nat) : Int):=by
 rw[Int.tdiv_eq_ediv_of_nonneg (by omega)]; rfl
section
variable {ps:List Pt} {d:aR}
end
def vB (T:Nat) (M:RM) (base:Nat) (v:AV) (L:List UInt8) : Prop :=
 Own M base T 1 v (dJ L) L.length∨∃ b,v=.slc b 0 L.length (.ex L.length)∧base≤b∧b<M.next∧M.heap b=some (.row (dJ L) false T 0)
theorem vB.sl {T base:Nat} {M:RM} {v:AV} {L:List UInt8} (h:vB T M base v L) : Sl BY M v L:=by
 rcases h with h | ⟨b,rfl,h1,h2,h3⟩
 ·exact Own.sl h
 ·show aK M 1 _ (BY.row L) L.length
  rw[kG]
  refine .slc _ _ _ _ _ h2 ?_
  rw[RM.ig h3 (by simp),Nat.mul_one,List.drop_zero,List.take_of_length_le (by simp)]
theorem vB.keep {T base:Nat} {M M' : RM} {v:AV} {L:List UInt8} (h:vB T M base v L) (hk:aa [] M M') : vB T M' base v L:=by
 rcases h with h | ⟨b,rfl,h1,h2,h3⟩
 ·exact .inl (h.keep hk (by simp))
 ·exact .inr ⟨b,rfl,h1,Nat.lt_of_lt_of_le h2 hk.next,hk.az h3 h2 (by simp)⟩
theorem vB.app {T base:Nat} {M:RM} {v u:AV} {L L' : List UInt8} {zs:List AV} {K:aj} (h:vB T M base v L) (hb:base≤M.next) (hu:Sl BY M u L') (hl:L.length + L'.length≤1000000000)
  (hK:∀ v' M',vB T M' base v' (L++L')→aa (ak v) M M'→(∀ d∈ak v,base≤d)→K v' M') : appW T 1 1 zs false v u M K:=by
 have hcs:BY.row L'=dJ L':=kG L'
 have hu' : aK M 1 u (dJ L') L'.length:=by rw[← hcs]; exact hu
 rcases h with h | ⟨b,rfl,h1,h2,h3⟩
 ·refine sO h hb (Nat.le_refl _) (hu'.mE _) (by simp) (lY _) (by omega) (by omega) ?_
  intro v' M' o k _ _
  refine hK v' M' (.inl ?_) k (fun d hd=>(h.blk d hd).1)
  rw[mV,List.length_append]; exact o
 ·refine⟨L'.length,dJ L',hu'.mE _,by omega,by omega, ?_⟩
  by_cases h0:L'.length=0
  ·have:L'=[]:=List.length_eq_zero_iff.1 h0
   subst this
   refine⟨.slc b 0 L.length (.ex L.length),M,by simp[rE],hK _ _ (.inr ⟨b,by simp,h1,h2,by simpa using h3⟩) (aa.refl _ _) (by simp[ak]; exact h1)⟩
  ·have hld:M.loads b 0 (L.length * 1)=some (dJ L):=by
    rw[RM.ig h3 (by simp),Nat.mul_one,List.drop_zero,List.take_of_length_le (by simp)]
   refine⟨.slc M.next 0 (L.length + L'.length) (.op 1),M.push (.row (dJ L++dJ L') true T 0), ?_,hK _ _ (.inl ?_) ((aa.refl _ _).push _) (by simp[ak]; exact h1)⟩
   ·have hone:(dJ L++dJ L').all oneCell=true:=by rw[List.all_append,lY,lY]; rfl
    simp only[rE,if_neg h0,if_neg (show ¬ L.length + L'.length≤L.length by omega),hld]
    rw[if_pos ⟨by omega,by omega,hone⟩]
   ·rw[List.length_append,mV]
    exact .op _ _ _ hb (by simp[RM.push]) (RM.bI _) (by simp)
def zK (T v:Nat) (c:au) : Prop:=∀ {M:RM} {Q:aj},(∀ r M',vB T M' M.next r (fA v)→aa [] M M'→Q r M')→c [N .u64 (v:Int)] M Q
theorem Mw {T v:Nat} {c:au} (hv:v<2 ^ 64) (ih:∀ w,w<v→zK T w c) : zK T v fun args M Q=>∃ a0,args=[a0]∧vX T c a0 M Q:=by
 intro M Q hQ
 refine⟨_,rfl, ?_⟩
 unfold vX
 have lit:∀ (x:UInt8),vB T (M.push (.row [By x] false T 0)) M.next (.slc M.next 0 1 (.ex 1)) [x]:=fun x=>.inr ⟨M.next,rfl,Nat.le_refl _,by simp[RM.push],RM.bI _⟩
 rw[gN]
 refine aS (fun h=>?_) (fun h=>?_)
 ·have h:v<128:=by
   have:(v:Int)<128:=of_decide_eq_true h
   omega
  rw[bT,NP h,iq (x:=By (UInt8.ofNat v)) (size:=1) rfl rfl rfl,aN]
  refine hQ _ _ ?_ ((aa.refl _ _).push _)
  rw[uH h]; exact lit _
 ·have h:¬ v<128:=by
   have:¬ (v:Int)<128:=of_decide_eq_false h
   omega
  rw[nH]
  refine⟨by decide, ?_⟩
  have e1:(v:Int).tmod 128=((v % 128:Nat) : Int):=by rw[Int.tmod_eq_emod_of_nonneg (by omega)]; rfl
  rw[e1,bT,oQ (by omega) (by omega),bi,show((v % 128:Nat) : Int) + 128=((v % 128 + 128:Nat) : Int) by omega,oQ (by omega) (by omega)]
  have e2:N .u8 ((v % 128 + 128:Nat) : Int)=By (UInt8.ofNat (v % 128 + 128)):=by rw[By,GH]; congr 2; omega
  rw[e2,iq (x:=By (UInt8.ofNat (v % 128 + 128))) (size:=1) rfl rfl rfl,aN,pK]
  refine⟨by decide, ?_⟩
  rw[show(128:Int)=((128:Nat) : Int) from rfl,VZ,bL (by omega) (by omega)]
  have k1:aa [] M (M.push (.row [By (UInt8.ofNat (v % 128 + 128))] false T 0)):=(aa.refl _ _).push _
  have l1:=lit (UInt8.ofNat (v % 128 + 128))
  have n1:(M.push (.row [By (UInt8.ofNat (v % 128 + 128))] false T 0)).next=M.next + 1:=rfl
  show c _ (M.push (.row [By (UInt8.ofNat (v % 128 + 128))] false T 0)) _
  generalize M.push (.row [By (UInt8.ofNat (v % 128 + 128))] false T 0)=M1 at *
  refine ih (v / 128) (by omega) fun r M2 h2 k2=>?_
  have hlen:=Aa (v:=v / 128) (by omega)
  have n2:=k2.next
  refine(l1.keep k2).app (by omega) h2.sl (by simp; omega) fun v' M3 h3 k3 hb3=>?_
  refine hQ v' M3 ?_ ((k1.trans k2).eP k3 fun d hd=>.inl (hb3 d hd))
  rw[yI h]
  exact h3
def PM (M:RM) (b T:Nat) (d:Array Nat) : RM:=M.put b (.row (dY.row d.toList) true T 0)
abbrev vv (b n:Nat) : AV:=.slc b 0 n (.op 1)
section
variable {M:RM} {b T n i j:Nat} {d:Array Nat} {K:AV→Prop}
theorem PM.heap:(PM M b T d).heap b=some (.row (dY.row d.toList) true T 0):=RM.zW _ _
theorem PM.Sy:(dY.row d.toList).length=d.size:=by rw[Enc.gT]; simp[dY]
theorem TZ (hi:i<d.size) : d[i]! = d[i]:=getElem!_pos d i hi
theorem PM.cellAt (hi:i<d.size) : (dY.row d.toList)[i]?=some (N .u64 ((d[i]! : Nat) : Int)):=by
 rw[nU,List.getElem?_map,Array.getElem?_toList,TZ hi,Array.getElem?_eq_getElem hi]; rfl
theorem PM.idx {kd:IntKind} (hi:i<n) : aZ (vv b n) (N kd (i:Int)) 1 K=K (.ptr b i):=by
 rw[uC]
 simp only[Int.toNat_natCast]
 rw[show 0 + i * 1=i by omega]
 exact propext ⟨fun h=>h.2.2,fun h=>⟨by omega,by omega,h⟩⟩
theorem PM.rd {kd:IntKind} (hn:n=d.size) (hi:i<d.size) : (aZ (vv b n) (N kd (i:Int)) 1 fun p=>ag (PM M b T d) p K)=K (N .u64 ((d[i]! : Nat) : Int)):=by
 rw[PM.idx (by omega),aH PM.heap (PM.cellAt hi)]
theorem PM.put {x:Nat} (hi:i<d.size) {K:RM→Prop} : aU (PM M b T d) (.ptr b i) (N .u64 (x:Int)) 1 K=K (PM M b T (d.setIfInBounds i x)):=by
 rw[Cn PM.heap (by rw[PM.Sy]; exact hi) rfl rfl]
 congr 1
 have e:(dY.row d.toList).set i (N .u64 (x:Int))=dY.row (d.setIfInBounds i x).toList:=by rw[nU,nU,Array.toList_setIfInBounds,List.map_set]
 rw[e,PM,PM]
 unfold RM.put
 congr 1
 funext c
 by_cases h:c=b <;> simp[h]
theorem addN (h:i + j<4611686018427387904) : ae .add (N .i64 (i:Int)) (N .i64 (j:Int)) K=K (N .i64 ((i + j:Nat) : Int)):=by
 rw[bi,aL (by omega) (by omega),Int.natCast_add]
theorem O1 (h:j≤i) (hb:i<4611686018427387904) : ae .sub (N .i64 (i:Int)) (N .i64 (j:Int)) K=K (N .i64 ((i - j:Nat) : Int)):=by
 rw[gq,aL (by omega) (by omega),show(i:Int) - (j:Int)=((i - j:Nat) : Int) by omega]
theorem jQ:ae .lss (N .i64 (i:Int)) (N .i64 (j:Int)) K=K (Bo (decide (i<j))):=by rw[gN,show decide ((i:Int)<(j:Int))=decide (i<j) by simp]
theorem Si:ae .gtr (N .i64 (i:Int)) (N .i64 (j:Int)) K=K (Bo (decide (i > j))):=by rw[gu,show decide ((i:Int) > (j:Int))=decide (i > j) by simp]
end
section
variable {body:(List AV→RM→Prop)→List AV→RM→Prop} {p:Nat→Bool} {d:Array Nat} {M:RM}
end
theorem andM {c p:Bool} {f:aj→Prop} {M:RM} {G:AV→RM→Prop} (hf:c=true→∀ k:aj,k (Bo p) M→f k) (hG:G (Bo (c && p)) M) :
  ay (Bo c) true f (fun k=>k .undef M) (fun t M'=>aY (Bo c) t (Bo false) fun u=>G u M'):=by
 cases c with
 | false=>rw[lK]; dsimp only; rw[fw]; exact hG
 | true=>rw[dN]; exact hf rfl _ (by rw[dF]; exact hG)
end Go.Ab.aR
