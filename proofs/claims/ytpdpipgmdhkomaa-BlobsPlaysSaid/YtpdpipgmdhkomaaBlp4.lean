/- Part 4 of the ground of the proofs of this seat (texts Ab19 to Q2). By an AI agent. -/
import Derived.Test.YtpdpipgmdhkomaaBlp3
import Derived.Carry
import Derived.JoinedCond
import Derived.SizedLaws
import GoSem.Extern.Atomic
import GoSem.Extern.MapsClone
import Derived.Laws.AppendOwn
import Derived.Sort.AssemblyPlain
set_option linter.unusedVariables false
set_option linter.unusedSimpArgs false
namespace Go.Ab
open Go Go.RowKit
def Q8 (tab run:fG) : fG:=fun f args A=>match tab f args A with
 | some r=>some r
 | none=>run f args A
def EW (P:Program) (X:Ext) (tab:fG) (L:Nat) : Nat→fG
 | 0,_,_,_=>none
 | n + 1,f,args,A=>match has X.split f with
   | true=>OX (Mj P X L (Q8 tab (EW P X tab L n))) f args A
   | false=>Mj P X L (Q8 tab (EW P X tab L n)) f args A
inductive Ans where
 | val (v:AV)
 | rows (n:Nat) (v:AV) (bs:List (Nat × dU)) (n' : Nat)
structure eQ where
 args:List AV
 fp:List (Nat × dU):=[]
 dead:List Nat:=[]
 nx:Nat:=0
 ans:Ans
def sH:Tree dU→List (Nat × dU)→Tree dU
 | t,[]=>t
 | t,(b,x) :: r=>sH (t.set b x) r
def EH:Tree dU→List Nat→Tree dU
 | t,[]=>t
 | t,b :: r=>EH (t.del b) r
def EZ (A:AW) : List (Nat × dU)→Bool
 | []=>true
 | (b,x) :: r=>match A.heap.get b with
   | some y=>A9 x y && EZ A r
   | none=>false
def WX (A:AW) (e:eQ) : Option (AV × AW) :=
 match EZ A e.fp with
 | false=>none
 | true=>match e.ans with
   | .val v=>some (v,A)
   | .rows n v bs n'=>match Nat.beq n A.next with
     | true=>some (v,{ next:=n',heap:=sH (EH A.heap e.dead) bs })
     | false=>none
def Fa:List eQ→List AV→AW→Option (AV × AW)
 | [],_,_=>none
 | e :: es,args,A=>match oq e.args args with
   | true=>match WX A e with
     | some r=>some r
     | none=>Fa es args A
   | false=>Fa es args A
abbrev Table:=List (Nat × List eQ)
def EI:Table→fG
 | [],_,_,_=>none
 | (g,es) :: T,f,args,A=>match Nat.beq g f with
   | true=>match Fa es args A with
     | some r=>some r
     | none=>EI T f args A
   | false=>EI T f args A
def HV:List Nat→Nat→Bool
 | [],_=>false
 | k :: ks,b=>match Nat.beq k b with
   | true=>true
   | false=>HV ks b
mutual
def within (ks:List Nat) : AV→Bool
 | .sc _ | .top | .atl _=>true
 | .ptr b _ | .slc b _ _ _ | .emp b | .map b=>HV ks b
 | .fn _ xs ys=>lL ks xs && lL ks ys
 | .ifc _ x=>within ks x
 | .agg xs | .tup xs=>lL ks xs
def lL (ks:List Nat) : List AV→Bool
 | []=>true
 | x :: xs=>within ks x && lL ks xs
end
theorem mZ {b:Nat} : ∀ {ks:List Nat},HV ks b=true↔b∈ks
 | []=>by simp[HV]
 | k :: ks=>by
   simp only[HV]
   split
   ·rename_i h
    simp[bf h]
   ·rename_i h
    rw[mZ,List.mem_cons]
    constructor
    ·exact .inr
    ·rintro(e | e)
     ·exact absurd e.symm (ul h)
     ·exact e
mutual
theorem nD {ρ ρ' : Ren} {ks:List Nat} (hk:∀ b∈ks,∀ i,ρ b=some i→ρ' b=some i) : ∀ (x:AV) {v:Value},within ks x=true→aj ρ x v→aj ρ' x v
 | .top,v,_,_=>.top v
 | .atl k,v,_,hr=>by cases hr; exact .atl _ _ (by assumption)
 | .sc u,v,_,hr=>by cases hr; exact .sc _ (by assumption)
 | .ptr b o,v,h,hr=>by
   simp only[within] at h
   cases hr with
   | ptr _ _ i e=>exact .ptr _ _ i (hk b (mZ.1 h) i e)
 | .slc b o l c,v,h,hr=>by
   simp only[within] at h
   cases hr with
   | fI _ _ _ c i e=>exact .fI _ _ _ c i (hk b (mZ.1 h) i e)
   | jh _ k _ i e q=>exact .jh _ k _ i (hk b (mZ.1 h) i e) q
 | .emp b,v,h,hr=>by
   simp only[within] at h
   cases hr with
   | emp _ a c=>exact .emp _ a c
 | .map b,v,h,hr=>by
   simp only[within] at h
   cases hr with
   | map _ i e=>exact .map _ i (hk b (mZ.1 h) i e)
 | .fn f xs ys,v,h,hr=>by
   simp only[within,Bool.and_eq_true] at h
   cases hr with
   | fn _ _ _ us vs p a b=>exact .fn f xs ys us vs p (lT hk xs h.1 a) (lT hk ys h.2 b)
 | .ifc t x,v,h,hr=>by
   simp only[within] at h
   cases hr with
   | ifc _ _ v a=>exact .ifc t x v (nD hk x h a)
 | .agg xs,v,h,hr=>by
   simp only[within] at h
   cases hr with
   | agg _ vs a=>exact .agg xs vs (lT hk xs h a)
 | .tup xs,v,h,hr=>by
   simp only[within] at h
   cases hr with
   | tup _ vs a=>exact .tup xs vs (lT hk xs h a)
theorem lT {ρ ρ' : Ren} {ks:List Nat} (hk:∀ b∈ks,∀ i,ρ b=some i→ρ' b=some i) : ∀ (xs:List AV) {vs:List Value},lL ks xs=true→aR ρ xs vs→aR ρ' xs vs
 | [],vs,_,hr=>by cases hr; exact .nil
 | x :: xs,vs,h,hr=>by
   simp only[lL,Bool.and_eq_true] at h
   cases hr with
   | cons _ v _ vs a b=>exact .cons x v xs vs (nD hk x h.1 a) (lT hk xs h.2 b)
end
def zS (p:AV→Bool) : Tree AV→Bool
 | .leaf=>true
 | .node l v r=>(match v with
   | some x=>p x
   | none=>true) && zS p l && zS p r
theorem yO {p:AV→Bool} : ∀ {t:Tree AV} {k:Nat} {x:AV},zS p t=true→t.get k=some x→p x=true
 | .leaf,k,x,_,h=>by simp[Tree.get] at h
 | .node l v r,k,x,ha,h=>by
   simp only[zS,Bool.and_eq_true] at ha
   simp only[Tree.get] at h
   split at h
   ·rw[h] at ha; exact ha.1.1
   ·split at h
    ·exact yO ha.1.2 h
    ·exact yO ha.2 h
def Io (ks:List Nat) : List (AV × AV × Nat)→Bool
 | []=>true
 | (k,v,_) :: es=>within ks k && within ks v && Io ks es
def Ms (ks:List Nat) : dU→Bool
 | .row _ t zs _ _ _=>zS (within ks) t && lL ks zs
 | .map es _=>Io ks es
 | .iter m _ _ _=>match m with
   | some b=>HV ks b
   | none=>true
 | .jq _ _=>true
theorem FM {ks:List Nat} : ∀ {xs:List AV},lL ks xs=true→∀ x∈xs,within ks x=true
 | [],_,x,h=>by cases h
 | y :: ys,h,x,hx=>by
   simp only[lL,Bool.and_eq_true] at h
   rcases List.mem_cons.1 hx with e | hx
   ·rw[e]; exact h.1
   ·exact FM h.2 x hx
theorem Qz {β:Type} : ∀ {l:List β} {n:Nat} {x:β},nth l n=some x→x∈l
 | [],_,_,h=>by simp[nth] at h
 | y :: ys,0,x,h=>by simp[nth] at h; simp[h]
 | y :: ys,n + 1,x,h=>by
   simp only[nth] at h
   exact List.mem_cons_of_mem _ (Qz h)
theorem Uv {tree:Tree AV} {zs:List AV} {n k:Nat} {x:AV} (h:cellAt tree zs n k=some x) : tree.get k=some x∨x∈zs:=by
 unfold cellAt at h
 split at h
 ·cases h
 ·split at h
  ·rename_i v hv
   cases h
   exact .inl hv
  ·split at h
   ·cases h
   ·cases h
    exact .inr (List.mem_cons_self ..)
   ·exact .inr (Qz h)
theorem bJ.restrict {ρ ρ' : Ren} {ks:List Nat} (hk:∀ b∈ks,∀ i,ρ b=some i→ρ' b=some i) : ∀ {es:List (AV × AV × Nat)} {fs:List MapEntry},Io ks es=true→bJ ρ es fs→bJ ρ' es fs
 | [],[],_,_=>trivial
 | [],_ :: _,_,h=>h.elim
 | _ :: _,[],_,h=>h.elim
 | (a,b,n) :: es,f :: fs,h,⟨h1,h2,h3,h4⟩=>by
   simp only[Io,Bool.and_eq_true] at h
   exact⟨nD hk a h.1.1 h1,nD hk b h.1.2 h2,h3,bJ.restrict hk h.2 h4⟩
theorem gW.restrict {P:Program} {ρ ρ' : Ren} {ks:List Nat} (hk:∀ b∈ks,∀ i,ρ b=some i→ρ' b=some i) {i:fD} : ∀ {x:dU} {o:Obj},Ms ks x=true→gW P ρ i x o→gW P ρ' i x o
 | .row n t zs opn el fz,o,h,⟨c,fr,e,k⟩=>by
   simp only[Ms,Bool.and_eq_true] at h
   refine⟨c,fr,e,k.size,fun j x hx=>?_,k.free,k.mark,k.opn,k.sh0⟩
   obtain⟨v,h1,h2⟩:=k.val j x hx
   refine⟨v,h1,nD hk x ?_ h2⟩
   rcases Uv hx with hx | hx
   ·exact yO h.1 hx
   ·exact FM h.2 x hx
 | .map es clock,o,h,⟨fs,e,k⟩=>⟨fs,e,bJ.restrict hk h k⟩
 | .iter m since seen st,o,h,⟨h0,m',e,k⟩=>by
   refine⟨h0,m',e, ?_⟩
   cases m with
   | none=>exact k
   | some b =>
     obtain⟨j,h1,h2⟩:=k
     exact⟨j,hk b (mZ.1 h) j h1,h2⟩
 | .jq s pos,o,h,k=>k
section
variable {P:Program} {X:Ext}
theorem Jm {base:Base} {tab run:fG} (ht:jk P base tab) (hr:jk P base run) : jk P base (Q8 tab run):=by
 intro f args A v A' h
 unfold Q8 at h
 split at h
 ·rename_i r hr'
  cases h
  exact ht f args A v A' hr'
 ·exact hr f args A v A' h
theorem yY {base:Base} (hng:EB P X) (hm:P.follows .mixedOrders=true) {tab:fG} (ht:jk P base tab) (L:Nat) : ∀ n,jk P base (EW P X tab L n)
 | 0=>by intro f args A v A' h; simp[EW] at h
 | n + 1=>by
   intro f args A v A' h
   simp only[EW] at h
   split at h
   ·exact Nj (FU hng hm L (Jm ht (yY hng hm ht L n))) f args A v A' h
   ·exact FU hng hm L (Jm ht (yY hng hm ht L n)) f args A v A' h
def RJ (P:Program) (I:World→Prop) (f:Nat) (e:eQ) : Prop :=
 ∀ (base:Base),(∀ w,base.inv w→I w)→∀ A v A',WX A e=some (v,A')→∀ (ρ:Ren) (w:World) (us:List Value),aR ρ e.args us→bg P base ρ A w→base≤w.heap.size →
   Calls P f ⟨us⟩ w fun r w'=>∃ ρ' v',r=.returned v'∧Step base A.next ρ w ρ' w'∧bg P base ρ' A' w'∧A.next≤A'.next∧aj ρ' v v'
def Fe (P:Program) (I:World→Prop) (T:Table) : Prop:=∀ g∈T,∀ e∈g.2,RJ P I g.1 e
theorem zC {base:Base} {I:World→Prop} (hI:∀ w,base.inv w→I w) {f:Nat} : ∀ (es:List eQ),(∀ e∈es,RJ P I f e)→∀ {args A v A'},Fa es args A=some (v,A')→∀ (ρ:Ren) (w:World) (us:List Value),aR ρ args us→bg P base ρ A w→base≤w.heap.size →
  Calls P f ⟨us⟩ w fun r w'=>∃ ρ' v',r=.returned v'∧Step base A.next ρ w ρ' w'∧bg P base ρ' A' w'∧A.next≤A'.next∧aj ρ' v v'
 | [],_,args,A,v,A',h=>by simp[Fa] at h
 | e :: es,hes,args,A,v,A',h=>by
   simp only[Fa] at h
   split at h
   ·rename_i hq
    have hq:=mJ _ _ hq
    subst hq
    split at h
    ·rename_i r hr
     cases h
     exact hes e (List.mem_cons_self ..) base hI A v A' hr
    ·exact zC hI es (fun e he=>hes e (List.mem_cons_of_mem _ he)) h
   ·exact zC hI es (fun e he=>hes e (List.mem_cons_of_mem _ he)) h
theorem FV {base:Base} {I:World→Prop} (hI:∀ w,base.inv w→I w) : ∀ (T:Table),Fe P I T→jk P base (EI T)
 | [],_=>by intro f args A v A' h; simp[EI] at h
 | (g,es) :: T,hT=>by
   intro f args A v A' h
   have hrest:=FV hI T (fun g hg=>hT g (List.mem_cons_of_mem _ hg))
   simp only[EI] at h
   split at h
   ·rename_i hq
    have hq:=bf hq
    subst hq
    split at h
    ·rename_i r hr
     cases h
     exact zC hI es (hT (g,es) (List.mem_cons_self ..)) hr
    ·exact hrest g args A v A' h
   ·exact hrest f args A v A' h
theorem uC:∀ (bs:List (Nat × dU)) (t:Tree dU) {k:Nat} {x:dU},(sH t bs).get k=some x→(k,x)∈bs∨(t.get k=some x∧∀ y,(k,y) ∉ bs)
 | [],t,k,x,h=>.inr ⟨h,fun y hy=>by cases hy⟩
 | (b,y) :: r,t,k,x,h=>by
   simp only[sH] at h
   rcases uC r _ h with h | ⟨h,hn⟩
   ·exact .inl (List.mem_cons_of_mem _ h)
   ·rw[Tree.aY] at h
    split at h
    ·rename_i e
     cases h
     subst e
     exact .inl (List.mem_cons_self ..)
    ·rename_i hne
     refine .inr ⟨h,fun z hz=>?_⟩
     rcases List.mem_cons.1 hz with e | hz
     ·cases e; exact hne rfl
     ·exact hn z hz
theorem Aw:∀ (ds:List Nat) (t:Tree dU) {k:Nat} {x:dU},(EH t ds).get k=some x→t.get k=some x∧k ∉ ds
 | [],t,k,x,h=>⟨h,by simp⟩
 | d :: r,t,k,x,h=>by
   simp only[EH] at h
   obtain⟨h1,h2⟩:=Aw r _ h
   rw[Tree.qP] at h1
   split at h1
   ·cases h1
   ·rename_i hne
    exact⟨h1,by simp only[List.mem_cons,not_or]; exact⟨hne,h2⟩⟩
theorem CX {A:AW} : ∀ (l:List (Nat × dU)),EZ A l=true→∀ b x,(b,x)∈l→A.heap.get b=some x
 | [],_,b,x,hm=>by cases hm
 | (c,y) :: r,h,b,x,hm=>by
   simp only[EZ] at h
   split at h <;> first | (cases h; done) | skip
   rename_i z hz
   rw[Bool.and_eq_true] at h
   rcases List.mem_cons.1 hm with e | hm
   ·cases e
    rw[hz,uU h.1]
   ·exact CX r h.2 b x hm
def keysOf:List (Nat × dU)→List Nat
 | []=>[]
 | (b,_) :: r=>b :: keysOf r
theorem Cf {b:Nat} : ∀ {l:List (Nat × dU)},b∈keysOf l↔∃ x,(b,x)∈l
 | []=>by simp[keysOf]
 | (c,y) :: r=>by
   simp only[keysOf,List.mem_cons,Cf (l:=r)]
   constructor
   ·rintro(e | ⟨x,h⟩)
    ·subst e; exact⟨y,.inl rfl⟩
    ·exact⟨x,.inr h⟩
   ·rintro⟨x,h | h⟩
    ·cases h; exact .inl rfl
    ·exact .inr ⟨x,h⟩
def Ri (ks:List Nat) (n:Nat) : List (Nat × dU)→List Nat→Bool
 | [],_=>true
 | (b,x) :: r,seen=>Ms ks x && Nat.ble (b + 1) n && !HV seen b && Ri ks n r (b :: seen)
theorem LA {ks:List Nat} {n:Nat} : ∀ (l:List (Nat × dU)) (seen:List Nat),Ri ks n l seen=true→(∀ b x,(b,x)∈l→Ms ks x=true∧b<n∧b ∉ seen)∧∀ b x y,(b,x)∈l→(b,y)∈l→x=y
 | [],_,_=>⟨fun b x h=>(by cases h),fun b x y h=>(by cases h)⟩
 | (c,z) :: r,seen,h=>by
   simp only[Ri,Bool.and_eq_true,Bool.not_eq_true'] at h
   obtain⟨⟨⟨h1,h2⟩,h3⟩,h4⟩:=h
   obtain⟨i1,i2⟩:=LA r (c :: seen) h4
   have hc:c ∉ seen:=fun hm=>by rw[mZ.2 hm] at h3; cases h3
   refine⟨fun b x hm=>?_,fun b x y hx hy=>?_⟩
   ·rcases List.mem_cons.1 hm with e | hm
    ·cases e; exact⟨h1,aW h2,hc⟩
    ·obtain⟨a1,a2,a3⟩:=i1 b x hm
     exact⟨a1,a2,fun h=>a3 (List.mem_cons_of_mem _ h)⟩
   ·rcases List.mem_cons.1 hx with e | hx <;> rcases List.mem_cons.1 hy with f | hy
    ·cases e; cases f; rfl
    ·cases e
     exact absurd (List.mem_cons_self ..) (i1 _ _ hy).2.2
    ·cases f
     exact absurd (List.mem_cons_self ..) (i1 _ _ hx).2.2
    ·exact i2 b x y hx hy
def Il (ks:List Nat) (n:Nat) (A:AW) : List (Nat × dU)→Bool
 | []=>true
 | (b,x) :: r=>(Nat.ble n b || HV ks b) && (match A.heap.get b with
   | some y=>A9 x y
   | none=>false) && Il ks n A r
def Dr (A:AW) (gone:List Nat) : List (Nat × dU)→Bool
 | []=>true
 | (b,x) :: r=>(HV gone b || (match A.heap.get b with
   | some y=>A9 x y
   | none=>false)) && Dr A gone r
def zU (e:eQ) : Nat:=match e.ans with
 | .val _=>e.nx
 | .rows m _ _ _=>m
def GJ (P:Program) (X:Ext) (tab:fG) (L n:Nat) (f:Nat) (e:eQ) : Bool :=
 match lL (keysOf e.fp) e.args && Ri (keysOf e.fp) (zU e) e.fp [] with
 | false=>false
 | true=>match EW P X tab L n f e.args { next:=zU e,heap:=sH .leaf e.fp } with
   | none=>false
   | some (v',A')=>match e.ans with
     | .val v=>within [] v && lH v' v && Dr A' [] e.fp
     | .rows _ v bs m'=>lH v' v && Nat.beq A'.next m' && Il (keysOf e.fp) (zU e) A' bs && Dr A' (keysOf bs++e.dead) e.fp
theorem FP {ks:List Nat} {n:Nat} {A:AW} : ∀ (bs:List (Nat × dU)),Il ks n A bs=true→∀ b x,(b,x)∈bs→(n≤b∨b∈ks)∧A.heap.get b=some x
 | [],_,b,x,hm=>by cases hm
 | (c,y) :: r,h,b,x,hm=>by
   simp only[Il,Bool.and_eq_true] at h
   obtain⟨⟨h1,h2⟩,h3⟩:=h
   rcases List.mem_cons.1 hm with e | hm
   ·cases e
    split at h2
    ·rename_i z hz
     rw[Bool.or_eq_true] at h1
     refine⟨?_, ?_⟩
     ·rcases h1 with h1 | h1
      ·exact .inl (aW h1)
      ·exact .inr (mZ.1 h1)
     ·rw[hz,uU h2]
    ·cases h2
   ·exact FP r h3 b x hm
theorem yK {gone:List Nat} {A:AW} : ∀ (l:List (Nat × dU)),Dr A gone l=true→∀ b x,(b,x)∈l→b∈gone∨A.heap.get b=some x
 | [],_,b,x,hm=>by cases hm
 | (c,y) :: r,h,b,x,hm=>by
   simp only[Dr,Bool.and_eq_true] at h
   obtain⟨h1,h3⟩:=h
   rcases List.mem_cons.1 hm with e | hm
   ·cases e
    rw[Bool.or_eq_true] at h1
    rcases h1 with h1 | h1
    ·exact .inl (mZ.1 h1)
    ·split at h1
     ·rename_i z hz
      rw[hz,uU h1]
      exact .inr rfl
     ·cases h1
   ·exact yK r h3 b x hm
theorem bg.none {P:Program} {base:Base} {n:Nat} {w:World} (hi:base.inv w) : bg P base (fun _=>none) { next:=n,heap:=.leaf } w :=
 ⟨fun _ _ h=>(by cases h),fun _ _ _ h=>(by cases h),fun _ _ _ _ _ _ h=>(by cases h),fun _ _ h=>(by simp[Tree.get] at h),fun _ _ _ h=>(by cases h),hi⟩
def only(ρ:Ren) (ks:List Nat) : Ren:=fun b=>if b∈ks then ρ b else none
theorem lN {ρ:Ren} {ks:List Nat} {b:Nat} {i:fD} (h:only ρ ks b=some i) : b∈ks∧ρ b=some i:=by
 unfold only at h
 split at h
 ·exact⟨‹_›,h⟩
 ·cases h
theorem Ak {ρ:Ren} {ks:List Nat} {b:Nat} (h:b∈ks) : only ρ ks b=ρ b:=by simp[only,h]
theorem JY (hng:EB P X) (hm:P.follows .mixedOrders=true) {I:World→Prop} {tab:fG} (ht:∀ base:Base,(∀ w,base.inv w→I w)→jk P base tab) {L n f:Nat} {e:eQ} (h:GJ P X tab L n f e=true) : RJ P I f e:=by
 unfold GJ at h
 split at h <;> first | (cases h; done) | skip
 rename_i hfl
 rw[Bool.and_eq_true] at hfl
 obtain⟨hwi,hfp⟩:=hfl
 obtain⟨hf1,hf2⟩:=LA _ _ hfp
 split at h <;> first | (cases h; done) | skip
 rename_i v1 A1 hc
 intro base hI A v A' ha ρ w us hargs hw hb
 unfold WX at ha
 split at ha <;> first | (cases ha; done) | skip
 rename_i hhas
 have hrow:=CX _ hhas
 -- the blocks alone
 let ks:=keysOf e.fp
 have hks:∀ {b},b∈ks↔∃ x,(b,x)∈e.fp:=Cf
 have hto:∀ b∈ks,∀ i,ρ b=some i→only ρ ks b=some i:=fun b hb i h=>by rw[Ak hb]; exact h
 have aay:aR (only ρ ks) e.args us:=lT hto _ hwi hargs
 have IA:∀ b x,(sH .leaf e.fp).get b=some x→(b,x)∈e.fp:=fun b x h=>by
  rcases uC _ _ h with h | ⟨h,_⟩
  ·exact h
  ·simp[Tree.get] at h
 have hw0:bg P base (only ρ ks) { next:=zU e,heap:=sH .leaf e.fp } w:=by
  refine⟨fun b i h=>?_,fun b i x h hx=>?_,fun b b' i i' x x' h h' hx hx' he=>?_,fun b x hx=>?_,fun b i x h hx=>?_,hw.inv⟩
  ·obtain⟨hbk,hbi⟩:=lN h
   obtain⟨x,hx⟩:=hks.1 hbk
   exact⟨(hf1 b x hx).2.1,(hw.dom b i hbi).2⟩
  ·obtain⟨hbk,hbi⟩:=lN h
   have hm:=IA b x hx
   obtain⟨o,ho,hrel⟩:=hw.blk b i x hbi (hrow b x hm)
   exact⟨o,ho,hrel.restrict hto (hf1 b x hm).1⟩
  ·exact hw.sep _ _ _ _ _ _ (lN h).2 (lN h').2 (hrow _ _ (IA _ _ hx)) (hrow _ _ (IA _ _ hx')) he
  ·exact(hf1 b x (IA b x hx)).2.1
  ·exact hw.lo b i x (lN h).2 (hrow _ _ (IA _ _ hx))
 have Sk:∀ b i,b ∉ ks→ρ b=some i→∀ x,A.heap.get b=some x→∀ b0 i0,only ρ ks b0=some i0→i0.cb≠i.cb:=by
  intro b i hbk hbi x hx b0 i0 h0 he
  obtain⟨h0k,h0i⟩:=lN h0
  obtain⟨x0,hx0⟩:=hks.1 h0k
  exact hbk (hw.sep _ _ _ _ _ _ h0i hbi (hrow _ _ hx0) hx he▸h0k)
 have main:=yY hng hm (ht base hI) L n f _ _ _ _ hc (only ρ ks) w us aay hw0 hb
 split at ha
 ·
  rename_i v0 Q3
  cases ha
  rw[Q3] at h
  dsimp only at h
  simp only[Bool.and_eq_true] at h
  obtain⟨⟨h1,h2⟩,h3⟩:=h
  have hv1:=qM _ _ h2
  subst hv1
  have hkept:=yK _ h3
  refine main.mono fun r w' hR=>?_
  obtain⟨ρ',v',rfl,hst,hwr,hnx,hv⟩:=hR
  have hback:∀ b∈ks,∀ i,ρ' b=some i→ρ b=some i:=fun b hbk i h=>by
   obtain⟨x,hx⟩:=hks.1 hbk
   rw[hst.ext b (hf1 b x hx).2.1,Ak hbk] at h
   exact h
  refine⟨ρ,v',rfl,⟨hst.os,hst.tape,hst.output,hst.size,fun c hc hun=>hst.frame c hc fun b i hbi=>hun b i (lN hbi).2,fun _ _=>rfl,fun b i h=>.inl ⟨b,i,h,rfl⟩,hst.low⟩,⟨fun b i h=>?_,fun b i x hbi hx=>?_,hw.sep,hw.top,hw.lo,hwr.inv⟩,Nat.le_refl _,nD (ks:=[]) (fun b hb=>by cases hb) _ h1 hv⟩
  ·exact⟨(hw.dom b i h).1,Nat.lt_of_lt_of_le (hw.dom b i h).2 hst.size⟩
  ·by_cases hbk:b∈ks
   ·obtain⟨y,hy⟩:=hks.1 hbk
    have hxy:x=y:=by have:=hrow b y hy; rw[hx] at this; exact Option.some.inj this
    subst hxy
    rcases hkept b x hy with hg | hg
    ·cases hg
    ·have hρ' : ρ' b=some i:=by rw[hst.ext b (hf1 b x hy).2.1,Ak hbk]; exact hbi
     obtain⟨o,ho,hrel⟩:=hwr.blk b i x hρ' hg
     exact⟨o,ho,hrel.restrict hback (hf1 b x hy).1⟩
   ·obtain⟨o,ho,hrel⟩:=hw.blk b i x hbi hx
    exact⟨o,by rw[hst.frame _ (hw.dom b i hbi).2 (Sk b i hbk hbi x hx)]; exact ho,hrel⟩
 ·
  rename_i m v0 bs m' Q3
  have hnext:zU e=m:=by unfold zU; rw[Q3]
  rw[Q3] at h
  dsimp only at h
  simp only[Bool.and_eq_true] at h
  obtain⟨⟨⟨h1,h2⟩,h3⟩,h4⟩:=h
  have hv1:=qM _ _ h1
  have h2:=bf h2
  subst hv1
  subst h2
  split at ha <;> first | (cases ha; done) | skip
  rename_i hn
  have hn:=bf hn
  rw[hnext,hn] at main hw0 hf1 h3
  cases ha
  have hrows:=FP bs h3
  have hkept:=yK _ h4
  refine main.mono fun r w' hR=>?_
  obtain⟨ρ',v',rfl,hst,hwr,hnx,hv⟩:=hR
  dsimp only at hst hnx
  let ρ2:Ren:=fun b=>if b<A.next then ρ b else ρ' b
  have hlo:∀ b,b<A.next→ρ2 b=ρ b:=fun b h=>by simp[ρ2,h]
  have hhi:∀ b,A.next≤b→ρ2 b=ρ' b:=fun b h=>by simp only[ρ2]; rw[if_neg (by omega)]
  have hold:∀ b i,b<A.next→ρ' b=some i→b∈ks∧ρ b=some i:=fun b i h hbi=>by
   rw[hst.ext b h] at hbi
   exact lN hbi
  have hle1:ρ.le ρ2:=fun b i h=>by rw[hlo b (hw.dom b i h).1]; exact h
  have hle2:ρ'.le ρ2:=fun b i h=>by
   rcases Nat.lt_or_ge b A.next with h' | h'
   ·rw[hlo b h']; exact(hold b i h' h).2
   ·rw[hhi b h']; exact h
  -- a row of the outcome: changed or new; or as it was
  have hget:∀ b i x,ρ2 b=some i→(sH (EH A.heap e.dead) bs).get b=some x→(ρ' b=some i∧A1.heap.get b=some x)∨(b ∉ ks∧b<A.next∧ρ b=some i∧A.heap.get b=some x):=by
   intro b i x hbi hx
   rcases uC bs _ hx with hx | ⟨hx,hnb⟩
   ·obtain⟨hwh,hx⟩:=hrows b x hx
    refine .inl ⟨?_,hx⟩
    rcases Nat.lt_or_ge b A.next with h' | h'
    ·rcases hwh with hwh | hwh
     ·omega
     ·rw[hst.ext b h',Ak hwh,← hlo b h']; exact hbi
    ·rw[← hhi b h']; exact hbi
   ·obtain⟨hx,hnd⟩:=Aw _ _ hx
    have hbn:=hw.top b x hx
    rw[hlo b hbn] at hbi
    by_cases hbk:b∈ks
    ·obtain⟨y,hy⟩:=hks.1 hbk
     have hxy:x=y:=by have:=hrow b y hy; rw[hx] at this; exact Option.some.inj this
     subst hxy
     rcases hkept b x hy with hg | hg
     ·rcases List.mem_append.1 hg with hg | hg
      ·obtain⟨z,hz⟩:=Cf.1 hg
       exact absurd hz (hnb z)
      ·exact absurd hg hnd
     ·exact .inl ⟨by rw[hst.ext b hbn,Ak hbk]; exact hbi,hg⟩
    ·exact .inr ⟨hbk,hbn,hbi,hx⟩
  have Jl:∀ b i x b' i' x',b ∉ ks→ρ b=some i→A.heap.get b=some x→ρ' b'=some i'→A1.heap.get b'=some x'→i.cb≠i'.cb:=by
   intro b i x b' i' x' hbk hbi hx hb' hx' he
   rcases hst.fresh b' i' hb' with⟨b0,i0,h0,e0⟩ | hge
   ·exact Sk b i hbk hbi x hx b0 i0 h0 (by rw[e0,he])
   ·have:=(hw.dom b i hbi).2; omega
  refine⟨ρ2,v',rfl,⟨hst.os,hst.tape,hst.output,hst.size,fun c hc hun=>hst.frame c hc fun b i hbi=>hun b i (lN hbi).2,fun b h=>hlo b h,fun b i h=>?_,hst.low⟩,⟨fun b i h=>?_,fun b i x h1 h2=>?_,fun b b' i i' x x' hb hb' hx hx' he=>?_,fun b x h=>?_,fun b i x h1 h2=>?_,hwr.inv⟩,hnx,hv.mono hle2⟩
  ·rcases Nat.lt_or_ge b A.next with h' | h'
   ·rw[hlo b h'] at h; exact .inl ⟨b,i,h,rfl⟩
   ·rw[hhi b h'] at h
    rcases hst.fresh b i h with⟨b0,i0,h0,e0⟩ | hge
    ·exact .inl ⟨b0,i0,(lN h0).2,e0⟩
    ·exact .inr hge
  ·rcases Nat.lt_or_ge b A.next with h' | h'
   ·rw[hlo b h'] at h
    exact⟨Nat.lt_of_lt_of_le (hw.dom b i h).1 hnx,Nat.lt_of_lt_of_le (hw.dom b i h).2 hst.size⟩
   ·rw[hhi b h'] at h
    exact hwr.dom b i h
  ·rcases hget b i x h1 h2 with⟨g1,g2⟩ | ⟨g1,g2,g3,g4⟩
   ·obtain⟨o,ho,hrel⟩:=hwr.blk b i x g1 g2
    exact⟨o,ho,hrel.mono hle2⟩
   ·obtain⟨o,ho,hrel⟩:=hw.blk b i x g3 g4
    exact⟨o,by rw[hst.frame _ (hw.dom b i g3).2 (Sk b i g1 g3 x g4)]; exact ho,hrel.mono hle1⟩
  ·rcases hget b i x hb hx with⟨g1,g2⟩ | ⟨g1,g2,g3,g4⟩ <;> rcases hget b' i' x' hb' hx' with⟨k1,k2⟩ | ⟨k1,k2,k3,k4⟩
   ·exact hwr.sep _ _ _ _ _ _ g1 k1 g2 k2 he
   ·exact absurd he.symm (Jl b' i' x' b i x k1 k3 k4 g1 g2)
   ·exact absurd he (Jl b i x b' i' x' g1 g3 g4 k1 k2)
   ·exact hw.sep _ _ _ _ _ _ g3 k3 g4 k4 he
  ·rcases uC bs _ h with h | ⟨h,_⟩
   ·exact hwr.top b x (hrows b x h).2
   ·exact Nat.lt_of_lt_of_le (hw.top b x (Aw _ _ h).1) hnx
  ·rcases hget b i x h1 h2 with⟨g1,g2⟩ | ⟨g1,g2,g3,g4⟩
   ·exact hwr.lo b i x g1 g2
   ·exact hw.lo b i x g3 g4
def YC (P:Program) (X:Ext) (T:Table) (L n:Nat) (B:Table) : Bool:=B.all fun g=>g.2.all (GJ P X (EI T) L n g.1)
theorem Fe.nil {I:World→Prop} : Fe P I []:=fun g hg=>by cases hg
theorem Fe.add (hng:EB P X) (hm:P.follows .mixedOrders=true) {I:World→Prop} {T B:Table} (hT:Fe P I T) {L n:Nat} (h:YC P X T L n B=true) : Fe P I (B++T):=by
 intro g hg e he
 rcases List.mem_append.1 hg with hg | hg
 ·exact JY hng hm (fun base hI=>FV hI T hT) (List.all_eq_true.1 (List.all_eq_true.1 h g hg) e he)
 ·exact hT g hg e he
open Go.WideShapes Go.ChangeShapes in
open Go.WideShapes Go.ChangeShapes in
end
structure Enc (α:Type) where
 size:Nat
 cells:α→List AV
 len:∀ a,(cells a).length=size
 one:∀ a,(cells a).all oneCell=true
section
variable {α:Type} (E:Enc α)
def Enc.row (xs:List α) : List AV:=xs.flatMap E.cells
theorem Enc.iw (x:α) (xs:List α) : E.row (x :: xs)=E.cells x++E.row xs:=rfl
theorem Enc.IW (xs ys:List α) : E.row (xs++ys)=E.row xs++E.row ys:=by simp[Enc.row]
theorem Enc.row_one (x:α) : E.row [x]=E.cells x:=by simp[Enc.row]
theorem Enc.iL:∀ (xs:List α),(E.row xs).length=xs.length * E.size
 | []=>by simp[Enc.row]
 | x :: xs=>by rw[Enc.iw,List.length_append,E.len,Enc.iL xs,List.length_cons,Nat.succ_mul,Nat.add_comm]
theorem Enc.dF:∀ (xs:List α),(E.row xs).all oneCell=true
 | []=>by simp[Enc.row]
 | x :: xs=>by rw[Enc.iw,List.all_append,E.one,Enc.dF xs]; rfl
theorem Enc.qR:∀ (xs:List α) (i:Nat),(E.row xs).drop (i * E.size)=E.row (xs.drop i)
 | [],i=>by simp[Enc.row]
 | x :: xs,0=>by simp
 | x :: xs,i + 1=>by
   rw[Enc.iw,Nat.succ_mul,Nat.add_comm,← List.drop_drop,List.drop_left' (E.len x),Enc.qR xs i]
   rfl
theorem Enc.qE:∀ (xs:List α) (i:Nat),(E.row xs).take (i * E.size)=E.row (xs.take i)
 | [],i=>by simp[Enc.row]
 | x :: xs,0=>by simp[Enc.row]
 | x :: xs,i + 1=>by
   rw[Enc.iw,Nat.succ_mul,Nat.add_comm,List.take_append,List.take_of_length_le (by rw[E.len]; omega),E.len,Nat.add_sub_cancel_left,Enc.qE xs i]
   rfl
theorem Enc.P7 {xs:List α} {i:Nat} (hi:i<xs.length) : ((E.row xs).drop (i * E.size)).take E.size=E.cells xs[i]:=by
 rw[Enc.qR,List.drop_eq_getElem_cons hi,Enc.iw]
 rw[List.take_append_of_le_length (by rw[E.len]; exact Nat.le_refl _),List.take_of_length_le (by rw[E.len]; exact Nat.le_refl _)]
abbrev Sl (M:RM) (v:AV) (xs:List α) : Prop:=aD M E.size v (E.row xs) xs.length
abbrev Ow (M:RM) (base el:Nat) (v:AV) (xs:List α) : Prop:=Own M base el E.size v (E.row xs) xs.length
variable {E} {M M' : RM} {v:AV} {xs:List α}
theorem Sl.elem (h:Sl E M v xs) {i:Nat} (hi:i<xs.length) : ∃ b o,b<M.next∧b∈ah v∧(∀ (kd:IntKind) (K:AV→Prop),aI v (N kd (i:Int)) E.size K=K (.ptr b o))∧M.loads b o E.size=some (E.cells xs[i]):=by
 obtain⟨b,o,cap,rfl,hb,hl⟩:=h.pos (by omega)
 have hsum:i * E.size + E.size≤xs.length * E.size:=by rw[← Nat.succ_mul]; exact Nat.mul_le_mul_right _ hi
 refine⟨b,o + i * E.size,hb,by simp[ah],fun kd K=>?_, ?_⟩
 ·rw[qK]
  simp only[Int.toNat_natCast]
  exact propext ⟨fun h=>h.2.2,fun h=>⟨by omega,by omega,h⟩⟩
 ·rw[pE hl (i * E.size) E.size hsum,E.P7 hi]
theorem Sl.at (h:Sl E M v xs) {i:Nat} (sz:Nat) (j:Int) (hi:i<xs.length) (hsz:E.size=sz:=by rfl) (hj:j=(i:Int):=by rfl) : ∃ b o,b<M.next∧b∈ah v∧(∀ (kd:IntKind) (K:AV→Prop),aI v (N kd j) sz K=K (.ptr b o))∧M.loads b o sz=some (E.cells xs[i]):=by
 subst hsz hj; exact h.elem hi
theorem Ct {b o k:Nat} {cs:List AV} (h:M.loads b o k=some cs) {j:Nat} {x:AV} (hj:cs[j]?=some x) : M.cell b (o + j)=some x:=by
 have hlt:j<k:=by rw[← KG h]; exact(List.getElem?_eq_some_iff.1 hj).1
 rw[TW h j hlt,hj]
theorem kM {b o k:Nat} {cs:List AV} (h:M.loads b o k=some cs) {x:AV} (hj:cs[0]?=some x) : M.cell b o=some x:=Ct h hj
theorem iE {base T bytes:Nat} {zs:List AV} {u:AV} {ys:List α} {K:ak} (ho:Ow E M base T v xs) (hb:base≤M.next) (hs:1≤E.size) (hu:Sl E M u ys)
  (hn:(xs.length + ys.length) * bytes≤140737488355328) (hn2:xs.length + ys.length≤140737488355328)
  (hK:∀ v' M',Ow E M' base T v' (xs++ys)→ae (ah v) M M'→M.next≤M'.next→(v'=v∨∀ b∈ah v',M.next≤b)→K v' M') :
  appW T E.size bytes zs false v u M K:=by
 refine qH ho hb hs (aD.mr hu _) (E.iL ys) (E.dF ys) hn hn2 ?_
 intro v' M' h1 h2 h3 h4
 refine hK v' M' ?_ h2 h3 h4
 rw[← E.IW] at h1
 simpa [Ow] using h1
theorem Sl.new {T c:Nat} {p:Bool} (ys:List α) : Sl E (M.push (.row (E.row ys) p T 0)) (.slc M.next 0 ys.length (.ex c)) ys :=
 .slc _ _ _ _ _ (by simp[RM.push]) (by rw[RM.gV (RM.bR _) (by rw[E.iL]; omega),List.drop_zero,← E.iL,List.take_length])
theorem fP {base T bytes:Nat} {zs:List AV} {a:α} {K:ak} (ho:Ow E M base T v xs) (hb:base≤M.next) (hs:1≤E.size)
  (hn:(xs.length + 1) * bytes≤140737488355328) (hn2:xs.length + 1≤140737488355328)
  (hK:∀ v' M',Ow E M' base T v' (xs++[a])→ae (ah v) M M'→M.next≤M'.next→(v'=v∨∀ b∈ah v',M.next≤b)→K v' M') :
  appW T E.size bytes zs false v (.slc M.next 0 1 (.ex 1)) (M.push (.row (E.cells a) false T 0)) K:=by
 have hk:ae [] M (M.push (.row (E.cells a) false T 0)):=(ae.refl _ _).push _
 refine iE (ys:=[a]) (Own.keep ho hk (by simp)) (Nat.le_trans hb hk.next) hs (by rw[← E.row_one]; exact Sl.new [a]) hn hn2 ?_
 intro v' M' h1 h2 h3 h4
 exact hK v' M' h1 ((hk.mono (by simp)).trans h2) (Nat.le_trans hk.next h3) (h4.imp id fun h b hb=>Nat.le_trans hk.next (h b hb))
@[go_sem] theorem BF {T:Nat} {zs:List AV} {K:RB→(Nat→AV)→Prop} : bn T 0 zs [] K=K (.row [] false T 0) (fun b=>.slc b 0 0 (.ex 0)):=by
 apply propext; unfold bn
 constructor
 ·rintro⟨l,h,hk⟩; cases h; exact hk
 ·intro hk; exact⟨_,rfl,hk⟩
theorem fq {T size:Nat} {zs:List AV} {x:AV} {K:RB→(Nat→AV)→Prop} (h:x.cells.length=size) (h1:x.cells.all oneCell=true) (hz:zs.length=size) :
  bn T 1 zs [(0,size,x)] K=K (.row x.cells false T 0) (fun b=>.slc b 0 1 (.ex 1)):=by
 have:lG (ig zs 1) [(0,size,x)]=some x.cells:=by
  simp only[lG,ig,List.append_nil,h1,h,Nat.zero_add,hz,Nat.le_refl,and_self,if_true,List.take_zero,List.nil_append]
  rw[List.drop_of_length_le (by omega),List.append_nil]
 apply propext; unfold bn
 constructor
 ·rintro⟨l,h,hk⟩; rw[this] at h; cases h; exact hk
 ·intro hk; exact⟨_,this,hk⟩
theorem Ow.lit (E:Enc α) {T:Nat} (M:RM) : Ow E (M.push (.row [] false T 0)) M.next T (.slc M.next 0 0 (.ex 0)) []:=Own.lit M (Nat.le_refl _)
theorem mK {i:Nat} (h:i<9223372036854775807) : IntKind.wrap .i64 ((i:Int) + 1)=((i + 1:Nat) : Int):=by
 rw[aP (by omega) (by omega)]; rfl
end
@[go_sem] theorem IZ:dJ [] [] []=some true:=rfl
@[go_sem] theorem abB (ks:List Nat) (k:IntKind) (a b:Int) (xs ys:List AV) : dJ (1 :: ks) (N k a :: xs) (N k b :: ys)=if a=b then dJ ks xs ys else some false:=by
 simp only[dJ,pV,if_true]
 by_cases h:a=b
 ·simp[h]
 ·have:(a == b)=false:=by simp[h]
  simp[this,h]
@[go_sem] theorem IX (ks:List Nat) (a b:List UInt8) (xs ys:List AV) : dJ (2 :: ks) (St a :: xs) (St b :: ys)=if a=b then dJ ks xs ys else some false:=by
 simp only[dJ,pV]
 by_cases h:a=b
 ·simp[h]
 ·have:(a == b)=false:=by simp[h]
  simp[this,h]
@[go_sem] theorem aa3 (ks:List Nat) (a b:Bool) (xs ys:List AV) : dJ (3 :: ks) (Bo a :: xs) (Bo b :: ys)=if a=b then dJ ks xs ys else some false:=by
 simp only[dJ,pV]
 by_cases h:a=b
 ·simp[h]
 ·have:(a == b)=false:=by simp[h]
  simp[this,h]
theorem mX (x:AV) (w:Bool) (f g:ak→Prop) (F G:AV→RM→ak→Prop) (k:ak) :
  ax x w f g (fun v M=>ax x w (F v M) (G v M) k)=ax x w (fun k'=>f fun v M=>F v M k') (fun k'=>g fun v M=>G v M k') k:=by
 unfold ax jS
 split
 ·split <;> simp_all
 ·rfl
 ·rfl
theorem xU (x:AV) (w:Bool) (f g:KR→Prop) (F G:AV→RM→Option Nat→KR→Prop) (k:KR) :
  aA x w f g (fun v M b=>aA x w (F v M b) (G v M b) k)=aA x w (fun k'=>f fun v M b=>F v M b k') (fun k'=>g fun v M b=>G v M b k') k:=by
 unfold aA jS
 split
 ·split <;> simp_all
 ·rfl
 ·rfl
theorem vT (x:AV) (w:Bool) (f g:KR→Prop) (F G:AV→RM→Option Nat→ak→Prop) (k:ak) :
  aA x w f g (fun v M b=>ax x w (F v M b) (G v M b) k)=ax x w (fun k'=>f fun v M b=>F v M b k') (fun k'=>g fun v M b=>G v M b k') k:=by
 unfold aA ax jS
 split
 ·split <;> simp_all
 ·rfl
 ·rfl
theorem Aj (x:AV) (w:Bool) (f g:ak→Prop) (F G:AV→RM→KR→Prop) (k:KR) :
  ax x w f g (fun v M=>aA x w (F v M) (G v M) k)=aA x w (fun k'=>f fun v M=>F v M k') (fun k'=>g fun v M=>G v M k') k:=by
 unfold aA ax jS
 split
 ·split <;> simp_all
 ·rfl
 ·rfl
theorem aG {body:(List AV→RM→Prop)→List AV→RM→Prop} {xs:List AV} {M:RM} (I:Nat→List AV→RM→Prop) (n:Nat) (h0:I n xs M)
  (hb:∀ (next:List AV→RM→Prop) m ys M',(∀ m' zs M'',m'<m→I m' zs M''→next zs M'')→I m ys M'→body next ys M') : aX body xs M :=
 ⟨I,n,h0,fun m ys M' hI=>hb _ m ys M' (fun m' zs M'' hlt h=>⟨m',hlt,h⟩) hI⟩
abbrev By (b:UInt8) : AV:=N .u8 (b.toNat:Int)
def BY:Enc UInt8:=⟨1,fun b=>[By b],fun _=>rfl,fun _=>rfl⟩
theorem lJ (s:List UInt8) : BY.row s=s.map By:=by
 induction s with
 | nil=>rfl
 | cons b s ih=>rw[Enc.iw,ih]; rfl
def bO:Enc (List UInt8):=⟨1,fun s=>[St s],fun _=>rfl,fun _=>rfl⟩
theorem X7 (s:List (List UInt8)) : bO.row s=s.map (fun s=>St s):=by
 induction s with
 | nil=>rfl
 | cons b s ih=>rw[Enc.iw,ih]; rfl
def fe:Enc Nat:=⟨1,fun n=>[N .u64 (n:Int)],fun _=>rfl,fun _=>rfl⟩
theorem pq (s:List Nat) : fe.row s=s.map (fun(s:Nat)=>N .u64 (s:Int)):=by
 induction s with
 | nil=>rfl
 | cons b s ih=>rw[Enc.iw,ih]; rfl
theorem IQ:∀ (s:List UInt8),di byteOf (s.map By)=some s
 | []=>rfl
 | b :: s=>by
   simp only[List.map_cons,di,byteOf,IQ s]
   simp
section
variable {α:Type} {E:Enc α} {M M' : RM} {v:AV} {xs:List α}
theorem Sl.str {s:List UInt8} (h:Sl BY M v s) {K:AV→Prop} : iC M v K=K (St s) :=
 Px (aD.Bu h (by rw[lJ]; exact IQ s))
theorem Sl.Qd (h:Sl E M v xs) {i:Nat} (j:Int) (hi:i<xs.length) (hsz:E.size=1:=by rfl) (hj:j=(i:Int):=by rfl) :
  ∃ b o,b<M.next∧b∈ah v∧(∀ (kd:IntKind) (K:AV→Prop),aI v (N kd j) 1 K=K (.ptr b o))∧∀ x,E.cells xs[i]=[x]→M.cell b o=some x:=by
 obtain⟨b,o,h1,h2,h3,h4⟩:=Sl.at h 1 j hi hsz hj
 exact⟨b,o,h1,h2,h3,fun x hx=>kM h4 (by rw[hx]; rfl)⟩
structure Rw (E:Enc α) (M:RM) (b:Nat) (opn:Bool) (el:Nat) (xs:List α) : Prop where
 heap:M.heap b=some (.row (E.row xs) opn el 0)
 lt:b<M.next
theorem Rw.sl {b el:Nat} {p:Bool} {cap:Cap} (h:Rw E M b p el xs) : Sl E M (.slc b 0 xs.length cap) xs:=by
 refine .slc _ _ _ _ _ h.lt ?_
 rw[RM.gV h.heap (by rw[E.iL]; omega),List.drop_zero,← E.iL,List.take_length]
theorem Rw.keep {b el:Nat} {p:Bool} {bs:List Nat} (h:Rw E M b p el xs) (hk:ae bs M M') (hb:b ∉ bs) : Rw E M' b p el xs :=
 ⟨hk.aB h.heap h.lt hb,Nat.lt_of_lt_of_le h.lt hk.next⟩
theorem Rw.new {el:Nat} {p:Bool} (M:RM) (xs:List α) : Rw E (M.push (.row (E.row xs) p el 0)) M.next p el xs :=
 ⟨RM.bR _,by simp[RM.push]⟩
theorem Rw.load {b el:Nat} {p:Bool} (h:Rw E M b p el xs) {i:Nat} (hi:i<xs.length) : M.loads b (i * E.size) E.size=some (E.cells xs[i]):=by
 have hsum:i * E.size + E.size≤xs.length * E.size:=by rw[← Nat.succ_mul]; exact Nat.mul_le_mul_right _ hi
 rw[RM.gV h.heap (by rw[E.iL]; exact hsum),E.P7 hi]
theorem Enc.Yd (E:Enc α) {xs:List α} {i:Nat} (hi:i<xs.length) (x:α) : E.row (xs.set i x)=(E.row xs).take (i * E.size)++E.cells x++(E.row xs).drop (i * E.size + E.size):=by
 rw[E.qE,← Nat.succ_mul,E.qR,List.set_eq_take_append_cons_drop,if_pos hi,E.IW,E.iw,List.append_assoc]
theorem Rw.store {b el:Nat} {p:Bool} (h:Rw E M b p el xs) {i:Nat} (hi:i<xs.length) (x:α) :
  M.stores b (i * E.size) (E.cells x)=some (M.put b (.row (E.row (xs.set i x)) p el 0))∧Rw E (M.put b (.row (E.row (xs.set i x)) p el 0)) b p el (xs.set i x):=by
 have hsum:i * E.size + E.size≤xs.length * E.size:=by rw[← Nat.succ_mul]; exact Nat.mul_le_mul_right _ hi
 refine⟨?_,RM.AQ _ _,h.lt⟩
 rw[RM.H9 h.heap (by rw[E.len,E.iL]; exact hsum) (Nat.zero_le _) (E.one x),E.Yd hi,E.len]
theorem Rw.ag {b el:Nat} {p:Bool} (h:Rw E M b p el xs) {i:Nat} (hi:i<xs.length) (hsz:E.size=1:=by rfl) {x:AV} (hx:E.cells xs[i]=[x]:=by rfl) : M.cell b i=some x:=by
 have:=h.load hi
 rw[hsz,Nat.mul_one] at this
 exact kM this (by rw[hx]; rfl)
theorem Rw.Ub {b el:Nat} {p:Bool} (h:Rw E M b p el xs) {i:Nat} (hi:i<xs.length) (x:α) (hsz:E.size=1:=by rfl) {u:AV} (hx:E.cells x=[u]:=by rfl) :
  M.stores b i [u]=some (M.put b (.row (E.row (xs.set i x)) p el 0))∧Rw E (M.put b (.row (E.row (xs.set i x)) p el 0)) b p el (xs.set i x):=by
 have:=h.store hi x
 rw[hsz,Nat.mul_one,hx] at this
 exact this
end
@[go_sem] theorem acj (el:Nat) (s:List UInt8) (K:RB→(Nat→AV)→Prop) : OO el (St s) K=K (.row (BY.row s) true el 0) (fun b=>.slc b 0 s.length (.op 1)):=by
 rw[lJ]
 apply propext; unfold OO
 constructor
 ·rintro⟨s',h,hk⟩; cases h; exact hk
 ·intro hk; exact⟨s,rfl,hk⟩
def ac6 (b:UInt8) : UInt8:=if 65≤b.toNat∧b.toNat≤90 then b + 32 else b
def low (s:List UInt8) : List UInt8:=s.map ac6
theorem EN (b:UInt8) : b.toNat<256:=b.toNat_lt
structure qa (n:Nat) (bs:List Nat) (M M' : RM) : Prop where
 base:M'.base=M.base
 next:M.next≤M'.next
 heap:∀ c,c<n→c ∉ bs→M'.heap c=M.heap c
theorem qa.refl (n:Nat) (bs:List Nat) (M:RM) : qa n bs M M:=⟨rfl,Nat.le_refl _,fun _ _ _=>rfl⟩
theorem qa.trans {n:Nat} {bs:List Nat} {M M1 M2:RM} (h:qa n bs M M1) (k:qa n bs M1 M2) : qa n bs M M2 :=
 ⟨k.base.trans h.base,Nat.le_trans h.next k.next,fun c h1 h2=>(k.heap c h1 h2).trans (h.heap c h1 h2)⟩
theorem ae.to {bs cs:List Nat} {n:Nat} {M M' : RM} (h:ae bs M M') (hn:n≤M.next) (hb:∀ b∈bs,n≤b∨b∈cs) : qa n cs M M' :=
 ⟨h.base,h.next,fun c h1 h2=>h.heap c (Nat.lt_of_lt_of_le h1 hn) (fun hm=>by rcases hb c hm with h3 | h3; omega; exact h2 h3)⟩
theorem qa.aB {n:Nat} {bs:List Nat} {M M' : RM} (h:qa n bs M M') {b:Nat} {x:RB} (hh:M.heap b=some x) (hlt:b<n) (hb:b ∉ bs) : M'.heap b=some x:=by rw[h.heap b hlt hb,hh]
theorem Own.same {M M' : RM} {n el size n0:Nat} {v:AV} {cs:List AV} (h:Own M n0 el size v cs n) (hn:M'.next=M.next) (hb:∀ c∈ah v,M'.heap c=M.heap c) (hbase:M'.base=M.base) : Own M' n0 el size v cs n:=by
 cases h with
 | nil=>exact .nil
 | ex0 b o h1 h2 h3=>exact .ex0 b o h1 (by omega) (by simpa [RM.Gc,hb b (by simp[ah]),RM.lo,hbase] using h3)
 | op b n cs h1 h2 h3 h4=>exact .op b n cs h1 (by omega) (by rw[hb b (by simp[ah]),h3]) h4
theorem Own.one {M:RM} {n el size n0:Nat} {v:AV} {cs:List AV} (h:Own M n0 el size v cs n) : oneCell v=true:=by
 cases h <;> rfl
def Iy (B:Base) (c:au) : Prop:=∀ {M:RM} {Q:ak},M.base=B→Q (Bo true) M→c [] M Q
theorem Own.cells {M:RM} {n el size n0:Nat} {v:AV} {cs:List AV} (h:Own M n0 el size v cs n) : v.cells=[v]:=by
 cases h <;> rfl
section
variable {P:Program} {ρ:Ren} {M:RM} {w w' : World}
theorem bg.below {base:Base} {A:AW} (h:bg P base ρ A w) (hb:Below w.heap.size w w') (hn:base.n≤w.heap.size) : bg P base ρ A w' where
 dom b i hbi:=⟨(h.dom b i hbi).1,Nat.lt_of_lt_of_le (h.dom b i hbi).2 hb.size⟩
 blk b i x hbi hx:=let ⟨o,ho,hr⟩:=h.blk b i x hbi hx; ⟨o,by rw[hb.block _ (h.dom b i hbi).2]; exact ho,hr⟩
 sep:=h.sep
 top:=h.top
 lo:=h.lo
 inv:=base.low w w' (fun c hc=>hb.block c (Nat.lt_of_lt_of_le hc hn)) h.inv
theorem Step.of_below {base n:Nat} (hb:Below w.heap.size w w') (hn:base≤w.heap.size) : Step base n ρ w ρ w' where
 os:=hb.os
 tape:=hb.tape
 output:=hb.output
 size:=hb.size
 frame c hc _:=hb.block c hc
 ext _ _:=rfl
 fresh b i h:=.inl ⟨b,i,h,rfl⟩
 low c hc:=hb.block c (Nat.lt_of_lt_of_le hc hn)
theorem After.below (h:bC P ρ M w) (hb:Below w.heap.size w w') : After P M ρ w M ρ w':=by
 obtain⟨A,hA⟩:=h
 refine jg hA (Step.of_below hb hA.size) (hA.rel.below hb hA.size) rfl hA.next (Nat.le_refl _) fun b x hx=>?_
 rcases hA.blk b x hx with h | ⟨c,rfl,_⟩
 ·exact .inl h
 ·exact .inr ⟨c,rfl,hx⟩
end
structure mF (α:Type) where
 size:Nat
 rel:RM→List AV→α→(Nat→Prop)→Prop
 len:∀ {M cs a S},rel M cs a S→cs.length=size
 one:∀ {M cs a S},rel M cs a S→cs.all oneCell=true
 mono:∀ {M cs a S S'},rel M cs a S→(∀ b,S b→S' b)→rel M cs a S'
 lt:∀ {M cs a S},rel M cs a S→rel M cs a (fun b=>S b∧b<M.next)
 keep:∀ {M M' cs a S bs},rel M cs a S→ae bs M M'→(∀ b∈bs,¬ S b)→rel M' cs a S
def Enc.FQ {α:Type} (E:Enc α) : mF α where
 size:=E.size
 rel _ cs a _:=cs=E.cells a
 len h:=by subst h; exact E.len _
 one h:=by subst h; exact E.one _
 mono h _:=h
 lt h:=h
 keep h _ _:=h
inductive eP {α:Type} (R:mF α) (M:RM) (S:Nat→Prop) : List AV→List α→Prop
 | nil:eP R M S [] []
 | cons {cs ds:List AV} {a:α} {xs:List α} : R.rel M cs a S→eP R M S ds xs→eP R M S (cs++ds) (a :: xs)
section
variable {α:Type} {R:mF α} {M M' : RM} {S S' : Nat→Prop} {cs ds:List AV} {xs ys:List α} {a:α}
theorem eP.len (h:eP R M S cs xs) : cs.length=xs.length * R.size:=by
 induction h with
 | nil=>simp
 | cons h1 _ ih=>rw[List.length_append,R.len h1,ih,List.length_cons,Nat.succ_mul,Nat.add_comm]
theorem eP.one (h:eP R M S cs xs) : cs.all oneCell=true:=by
 induction h with
 | nil=>rfl
 | cons h1 _ ih=>rw[List.all_append,R.one h1,ih]; rfl
theorem eP.mono (h:eP R M S cs xs) (hs:∀ b,S b→S' b) : eP R M S' cs xs:=by
 induction h with
 | nil=>exact .nil
 | cons h1 _ ih=>exact .cons (R.mono h1 hs) ih
theorem eP.lt (h:eP R M S cs xs) : eP R M (fun b=>S b∧b<M.next) cs xs:=by
 induction h with
 | nil=>exact .nil
 | cons h1 _ ih=>exact .cons (R.lt h1) ih
theorem eP.keep {bs:List Nat} (h:eP R M S cs xs) (hk:ae bs M M') (hb:∀ b∈bs,¬ S b) : eP R M' S cs xs:=by
 induction h with
 | nil=>exact .nil
 | cons h1 _ ih=>exact .cons (R.keep h1 hk hb) ih
theorem eP.append (h:eP R M S cs xs) (k:eP R M S ds ys) : eP R M S (cs++ds) (xs++ys):=by
 induction h with
 | nil=>exact k
 | cons h1 _ ih=>rw[List.append_assoc]; exact .cons h1 ih
theorem eP.single (h:R.rel M cs a S) : eP R M S cs [a]:=by
 have:=eP.cons h .nil
 simpa using this
theorem eP.get (h:eP R M S cs xs) : ∀ {i:Nat} (hi:i<xs.length),R.rel M ((cs.drop (i * R.size)).take R.size) xs[i] S:=by
 induction h with
 | nil=>intro i hi; simp at hi
 | cons h1 h2 ih =>
   rename_i c1 d1 a1 x1
   intro i hi
   cases i with
   | zero =>
     rw[Nat.zero_mul,List.drop_zero,List.take_append_of_le_length (by rw[R.len h1]; exact Nat.le_refl _),List.take_of_length_le (by rw[R.len h1]; exact Nat.le_refl _)]
     exact h1
   | succ i =>
     rw[Nat.succ_mul,Nat.add_comm,← List.drop_drop,List.drop_left' (R.len h1)]
     exact ih (by simpa using hi)
theorem eP.take (h:eP R M S cs xs) : ∀ (k:Nat),eP R M S (cs.take (k * R.size)) (xs.take k):=by
 induction h with
 | nil=>intro k; simp; exact .nil
 | cons h1 h2 ih =>
   intro k
   cases k with
   | zero=>simp; exact .nil
   | succ k =>
     rw[Nat.succ_mul,Nat.add_comm,List.take_append,List.take_of_length_le (by rw[R.len h1]; omega),R.len h1,Nat.add_sub_cancel_left]
     exact .cons h1 (ih k)
theorem eP.drop (h:eP R M S cs xs) : ∀ (k:Nat),eP R M S (cs.drop (k * R.size)) (xs.drop k):=by
 induction h with
 | nil=>intro k; simp; exact .nil
 | cons h1 h2 ih =>
   intro k
   cases k with
   | zero=>simp; exact .cons h1 h2
   | succ k =>
     rw[Nat.succ_mul,Nat.add_comm,← List.drop_drop,List.drop_left' (R.len h1)]
     exact ih k
theorem eP.cells {E:Enc α} : ∀ {cs:List AV} {xs:List α},eP E.FQ M S cs xs→cs=E.row xs
 | _,_,.nil=>rfl
 | _,_,.cons h1 h2=>by rw[Enc.iw,eP.cells h2]; rw[show _=_ from h1]
def fw (R:mF α) (M:RM) (v:AV) (xs:List α) (S:Nat→Prop) : Prop :=
 ∃ cs,aD M R.size v cs xs.length∧(∀ b∈ah v,S b)∧eP R M S cs xs
theorem aD.lt {size n:Nat} {v:AV} (h:aD M size v cs n) : ∀ b∈ah v,b<M.next:=by
 cases h with
 | nil=>intro b hb; simp[ah] at hb
 | emp=>intro b hb; simp[ah] at hb
 | slc b o n cap cs hb _=>intro c hc; simp[ah] at hc; omega
theorem aD.one {size n:Nat} {v:AV} (h:aD M size v cs n) : oneCell v=true:=by
 cases h <;> rfl
theorem aD.cells {size n:Nat} {v:AV} (h:aD M size v cs n) : v.cells=[v]:=by
 cases h <;> rfl
variable {v:AV}
theorem fw.mono (h:fw R M v xs S) (hs:∀ b,S b→S' b) : fw R M v xs S':=let ⟨cs,h1,h2,h3⟩:=h; ⟨cs,h1,fun b hb=>hs b (h2 b hb),h3.mono hs⟩
theorem fw.lt (h:fw R M v xs S) : fw R M v xs (fun b=>S b∧b<M.next):=let ⟨cs,h1,h2,h3⟩:=h; ⟨cs,h1,fun b hb=>⟨h2 b hb,h1.lt b hb⟩,h3.lt⟩
theorem fw.keep {bs:List Nat} (h:fw R M v xs S) (hk:ae bs M M') (hb:∀ b∈bs,¬ S b) : fw R M' v xs S :=
 let ⟨cs,h1,h2,h3⟩:=h; ⟨cs,h1.keep hk (fun b hv hbs=>hb b hbs (h2 b hv)),h2,h3.keep hk hb⟩
theorem fw.len (h:fw R M v xs S) {K:AV→Prop} : aU v K=K (N .i64 xs.length):=let ⟨cs,h1,_,_⟩:=h; h1.len
theorem fw.one (h:fw R M v xs S) : oneCell v=true:=let ⟨cs,h1,_,_⟩:=h; h1.one
theorem fw.cells (h:fw R M v xs S) : v.cells=[v]:=let ⟨cs,h1,_,_⟩:=h; h1.cells
theorem fw.nil:fw R M bA [] S:=⟨[],.nil,by simp[ah],.nil⟩
theorem fw.sl {E:Enc α} (h:fw E.FQ M v xs S) : Sl E M v xs:=by
 obtain⟨cs,h1,h2,h3⟩:=h
 rw[h3.cells] at h1
 exact h1
theorem fw.at (h:fw R M v xs S) {i:Nat} (sz:Nat) (j:Int) (hi:i<xs.length) (hsz:R.size=sz:=by rfl) (hj:j=(i:Int):=by rfl) :
  ∃ b o cs,b<M.next∧b∈ah v∧(∀ (kd:IntKind) (K:AV→Prop),aI v (N kd j) sz K=K (.ptr b o))∧M.loads b o sz=some cs∧R.rel M cs xs[i] S:=by
 subst hsz hj
 obtain⟨cs,h1,h2,h3⟩:=h
 obtain⟨b,o,cap,rfl,hb,hl⟩:=h1.pos (by omega)
 have hsum:i * R.size + R.size≤xs.length * R.size:=by rw[← Nat.succ_mul]; exact Nat.mul_le_mul_right _ hi
 refine⟨b,o + i * R.size,(cs.drop (i * R.size)).take R.size,hb,by simp[ah],fun kd K=>?_, ?_,h3.get hi⟩
 ·rw[qK]
  simp only[Int.toNat_natCast]
  exact propext ⟨fun h=>h.2.2,fun h=>⟨by omega,by omega,h⟩⟩
 ·rw[pE hl (i * R.size) R.size hsum]
def mF.slice (R:mF α) : mF (List α) where
 size:=1
 rel M cs xs S:=∃ v,cs=[v]∧fw R M v xs S
 len h:=by obtain⟨v,rfl,_⟩:=h; rfl
 one h:=by obtain⟨v,rfl,h⟩:=h; simp[h.one]
 mono h hs:=by obtain⟨v,rfl,h⟩:=h; exact⟨v,rfl,h.mono hs⟩
 lt h:=by obtain⟨v,rfl,h⟩:=h; exact⟨v,rfl,h.lt⟩
 keep h hk hb:=by obtain⟨v,rfl,h⟩:=h; exact⟨v,rfl,h.keep hk hb⟩
def gI (R:mF α) (M:RM) (base el:Nat) (v:AV) (xs:List α) (S:Nat→Prop) : Prop :=
 ∃ cs,Own M base el R.size v cs xs.length∧eP R M S cs xs
theorem gI.nil {base el:Nat} : gI R M base el bA [] S:=⟨[],.nil,.nil⟩
theorem gI.mono {base el:Nat} (h:gI R M base el v xs S) (hs:∀ b,S b→S' b) : gI R M base el v xs S':=let ⟨cs,h1,h2⟩:=h; ⟨cs,h1,h2.mono hs⟩
theorem gI.lt {base el:Nat} (h:gI R M base el v xs S) : gI R M base el v xs (fun b=>S b∧b<M.next):=let ⟨cs,h1,h2⟩:=h; ⟨cs,h1,h2.lt⟩
theorem gI.keep {base el:Nat} {bs:List Nat} (h:gI R M base el v xs S) (hk:ae bs M M') (hb:∀ b∈bs,¬ S b) (hv:∀ b∈ah v,b ∉ bs) : gI R M' base el v xs S :=
 let ⟨cs,h1,h2⟩:=h; ⟨cs,h1.keep hk hv,h2.keep hk hb⟩
theorem gI.len {base el:Nat} (h:gI R M base el v xs S) {K:AV→Prop} : aU v K=K (N .i64 xs.length):=let ⟨cs,h1,_⟩:=h; h1.gJ.len
theorem gI.blk {base el:Nat} (h:gI R M base el v xs S) : ∀ b∈ah v,base≤b∧b<M.next:=let ⟨cs,h1,_⟩:=h; h1.blk
theorem gI.xO {base el:Nat} (h:gI R M base el v xs S) (hs:∀ b,base≤b→b<M.next→S b) : fw R M v xs S :=
 let ⟨cs,h1,h2⟩:=h; ⟨cs,h1.gJ,fun b hb=>hs b (h1.blk b hb).1 (h1.blk b hb).2,h2⟩
theorem gI.cells {base el:Nat} (h:gI R M base el v xs S) : v.cells=[v]:=let ⟨cs,h1,_⟩:=h; h1.cells
theorem gI.one {base el:Nat} (h:gI R M base el v xs S) : oneCell v=true:=let ⟨cs,h1,_⟩:=h; h1.one
theorem gI.app {base T bytes:Nat} {zs:List AV} {K:ak} (ho:gI R M base T v xs S) (ha:R.rel M cs a S) (hb:base≤M.next) (hs:1≤R.size)
  (hd:∀ b∈ah v,¬ S b) (hS:∀ b,S b→b<M.next)
  (hn:(xs.length + 1) * bytes≤140737488355328) (hn2:xs.length + 1≤140737488355328)
  (hK:∀ v' M',gI R M' base T v' (xs++[a]) S→ae (ah v) M M'→M.next≤M'.next→(v'=v∨∀ b∈ah v',M.next≤b)→(∀ b∈ah v',¬ S b)→K v' M') :
  appW T R.size bytes zs false v (.slc M.next 0 1 (.ex 1)) (M.push (.row cs false T 0)) K:=by
 obtain⟨ds,h1,h2⟩:=ho
 have hk:ae [] M (M.push (.row cs false T 0)):=(ae.refl _ _).push _
 have hl:=R.len ha
 have hnl:mr (M.push (.row cs false T 0)) R.size zs false (.slc M.next 0 1 (.ex 1))=some (1,cs):=by
  simp only[mr,Nat.one_mul]
  rw[RM.gV (RM.bR _) (by omega),List.drop_zero,← hl,List.take_length]
 refine qH (h1.keep hk (by simp)) (Nat.le_trans hb hk.next) hs hnl (by rw[hl,Nat.one_mul]) (R.one ha) hn hn2 ?_
 intro v' M' q1 q2 q3 q4
 have kk:ae (ah v) M M':=(hk.mono (by simp)).trans q2
 refine hK v' M' ⟨_,by simpa using q1, ?_⟩ kk (Nat.le_trans hk.next q3) (q4.imp id fun h b hb=>Nat.le_trans hk.next (h b hb)) ?_
 ·exact(h2.keep kk hd).append (eP.single (R.keep ha kk hd))
 ·rcases q4 with rfl | q4
  ·exact hd
  ·intro b hb hSb
   have:=q4 b hb
   have:=hS b hSb
   simp only[RM.push] at *
   omega
end
section
variable {M M' : RM} {b i n e f:Nat} {l:List AV} {p:Bool} {x:AV}
theorem aF {K:AV→Prop} (h:M.heap b=some (.row l p e f)) (hx:l[i]?=some x) : ag M (.ptr b i) K=K x:=by
 rw[dM,RM.cell_of h,hx]; simp
theorem eH {K:AV→Prop} (h:M.heap b=some (.row l p e f)) (hn:l.length=n) : dE M (.ptr b 0) n K=K (.agg l):=by
 rw[si,RM.Mv h]
 have:vH (some l) 0 n=some l:=by simp[vH,← hn]
 rw[this]; simp
theorem DU {K:RM→Prop} (h:M.heap b=some (.row l p e 0)) (hi:i<l.length) (hc:x.cells=[x]) (h1:oneCell x=true) : aS M (.ptr b i) x 1 K=K (M.put b (.row (l.set i x) p e 0)):=by
 rw[Jp,hc,RM.Ls h,Dc (by simp only[List.length_cons,List.length_nil]; omega) (Nat.zero_le _) (by simp[h1])]
 have:l.take i++[x]++l.drop (i + 1)=l.set i x:=by
  rw[List.set_eq_take_append_cons_drop,if_pos hi]; simp
 simp[this]
theorem gT {K:RM→Prop} (l' : List AV) (h:M.heap b=some (.row l p e 0)) (hi:i<l.length) (hc:x.cells=[x]) (h1:oneCell x=true) (hl:l.set i x=l') : aS M (.ptr b i) x 1 K=K (M.put b (.row l' p e 0)):=by
 rw[DU h hi hc h1,hl]
theorem uZ {K:AV→Prop} : bT (.ptr b 0) n K=K (.ptr b n):=by rw[bE,Nat.zero_add]
theorem Te {K:RM→Prop} (h:M.heap b=some (.row l p e 0)) (hn:x.cells.length=n) (hl:l.length=n) (h1:x.cells.all oneCell=true) : aS M (.ptr b 0) x n K=K (M.put b (.row x.cells p e 0)):=by
 rw[Jp,RM.Ls h,LM (by rw[hn,hl]) h1]
 simp[hn]
theorem zH {c:Nat} {y z:RB} (h:M.heap b=some y) (hb:b≠c) : (M.put c z).heap b=some y:=by
 simp only[RM.put]; rw[if_neg hb]; exact h
theorem aM (y:RB) : (M.put b y).heap b=some y:=RM.AQ _ _
theorem vX {y z:RB} (h:M.heap b=some y) (hb:b<M.next) : (M.push z).heap b=some y:=by
 simp only[RM.push]; rw[if_neg (by omega)]; exact h
theorem eT (y:RB) : (M.push y).next=M.next + 1:=rfl
theorem Be (c:Nat) (y:RB) : (M.put c y).next=M.next:=rfl
theorem ae.new {bs:List Nat} (h:ae bs M M') {b:Nat} (y:RB) (hb:M.next≤b) : ae bs M (M'.put b y):=h.put y (.inl hb)
end
variable {M:RM}
theorem cz {a:AV} {l:List AV} {K:AV→Prop} : bB (.tup (a :: l)) 0 K=K a:=by rw[BX]; simp
theorem dD {a b:AV} {l:List AV} {K:AV→Prop} : bB (.tup (a :: b :: l)) 1 K=K b:=by rw[BX]; simp
theorem jd {a b c:AV} {l:List AV} {K:AV→Prop} : bB (.tup (a :: b :: c :: l)) 2 K=K c:=by rw[BX]; simp
theorem abF {a b c d:AV} {l:List AV} {K:AV→Prop} : bB (.tup (a :: b :: c :: d :: l)) 3 K=K d:=by rw[BX]; simp
theorem fo {p q:Prop} : az (Bo true) p q=p:=by simp[Om]
theorem dH {p q:Prop} : az (Bo false) p q=q:=by simp[Om]
theorem aJ {b:Bool} {p q:Prop} (h1:b=true→p) (h2:b=false→q) : az (Bo b) p q:=⟨h1,h2⟩
theorem fH {f g:ak→Prop} {k:ak} : ax (Bo true) true f g k=f k:=rfl
theorem bU {f g:ak→Prop} {k:ak} : ax (Bo false) false f g k=f k:=rfl
theorem gp {f g:ak→Prop} {k:ak} : ax (Bo true) false f g k=g k:=rfl
theorem jv {f g:ak→Prop} {k:ak} : ax (Bo false) true f g k=g k:=rfl
theorem dY {f g:KR→Prop} {k:KR} : aA (Bo true) true f g k=f k:=rfl
theorem iW {f g:KR→Prop} {k:KR} : aA (Bo false) false f g k=f k:=rfl
theorem Ui {f g:KR→Prop} {k:KR} : aA (Bo true) false f g k=g k:=rfl
theorem Ld {f g:KR→Prop} {k:KR} : aA (Bo false) true f g k=g k:=rfl
theorem GM {w:Bool} {f g:ak→Prop} {k:ak} : ax .undef w f g k=g k:=rfl
theorem dX {a b:AV} {K:AV→Prop} : aV (Bo true) a b K=K a:=by rw[OC]; rfl
theorem dQ {a b:AV} {K:AV→Prop} : aV (Bo false) a b K=K b:=by rw[OC]; rfl
theorem aD.known {size:Nat} {v:AV} {cs:List AV} {n:Nat} (h:aD M size v cs n) : known v=true:=by
 cases h <;> rfl
theorem fw.known {α:Type} {R:mF α} {v:AV} {xs:List α} {S:Nat→Prop} (h:fw R M v xs S) : known v=true:=let ⟨_,h1,_,_⟩:=h; h1.known
theorem mI {t:TypeId} {cs:List AV} {K:RB→(Nat→AV)→Prop} (h1:cs.all oneCell=true) (h2:1≤cs.length) : mO t (.agg cs) K=K (.row cs false t 0) (fun b=>.ptr b 0):=by
 unfold mO
 exact propext ⟨fun h=>h.2.2,fun h=>⟨h1,h2,h⟩⟩
def mF.pre {α β:Type} (E:Enc α) (R:mF β) : mF (α × β) where
 size:=E.size + R.size
 rel M cs a S:=∃ ds,cs=E.cells a.1++ds∧R.rel M ds a.2 S
 len h:=by obtain⟨ds,rfl,h⟩:=h; rw[List.length_append,E.len,R.len h]
 one h:=by obtain⟨ds,rfl,h⟩:=h; rw[List.all_append,E.one,R.one h]; rfl
 mono h hs:=by obtain⟨ds,rfl,h⟩:=h; exact⟨ds,rfl,R.mono h hs⟩
 lt h:=by obtain⟨ds,rfl,h⟩:=h; exact⟨ds,rfl,R.lt h⟩
 keep h hk hb:=by obtain⟨ds,rfl,h⟩:=h; exact⟨ds,rfl,R.keep h hk hb⟩
def mF.post {α β:Type} (R:mF α) (E:Enc β) : mF (α × β) where
 size:=R.size + E.size
 rel M cs a S:=∃ ds,cs=ds++E.cells a.2∧R.rel M ds a.1 S
 len h:=by obtain⟨ds,rfl,h⟩:=h; rw[List.length_append,E.len,R.len h]
 one h:=by obtain⟨ds,rfl,h⟩:=h; rw[List.all_append,E.one,R.one h]; rfl
 mono h hs:=by obtain⟨ds,rfl,h⟩:=h; exact⟨ds,rfl,R.mono h hs⟩
 lt h:=by obtain⟨ds,rfl,h⟩:=h; exact⟨ds,rfl,R.lt h⟩
 keep h hk hb:=by obtain⟨ds,rfl,h⟩:=h; exact⟨ds,rfl,R.keep h hk hb⟩
def mF.map {α β:Type} (R:mF α) (g:β→α) : mF β where
 size:=R.size
 rel M cs a S:=R.rel M cs (g a) S
 len h:=R.len h
 one h:=R.one h
 mono h hs:=R.mono h hs
 lt h:=R.lt h
 keep h hk hb:=R.keep h hk hb
end Go.Ab
namespace Go.Ab
open Go Go.RowKit Go.ChangeShapes
section
variable {H:Type} {enc:TypeId × Value→H} {P:Program} {w:World} {base:Nat} {spare:Nat→Bool} {held:Bool}
end
end Go.Ab
set_option maxRecDepth 10000
namespace Go.Ab
open Go Go.ChangeShapes
end Go.Ab
namespace Go.Ab
open Go Go.RowKit
section
variable {P:Program} {f:FuncId} {fn:Func} {w w' : World} {M:RM}
end
end Go.Ab
namespace Go.Ab.Sm
open Go Go.Ab
section
variable {i j:Nat} {K:AV→Prop}
theorem addN (h:i + j<4611686018427387904) : af .add (N .i64 (i:Int)) (N .i64 (j:Int)) K=K (N .i64 ((i + j:Nat) : Int)):=by
 rw[bz,aP (by omega) (by omega),Int.natCast_add]
theorem add1 (h:i<4611686018427387904) : af .add (N .i64 (i:Int)) (N .i64 1) K=K (N .i64 ((i + 1:Nat) : Int)):=by
 rw[bz,mK (by omega)]
theorem JN (h:j≤i) (hb:i<4611686018427387904) : af .sub (N .i64 (i:Int)) (N .i64 (j:Int)) K=K (N .i64 ((i - j:Nat) : Int)):=by
 rw[gM,aP (by omega) (by omega),show(i:Int) - (j:Int)=((i - j:Nat) : Int) by omega]
theorem fE:af .lss (N .i64 (i:Int)) (N .i64 (j:Int)) K=K (Bo (decide (i<j))):=by rw[dK,show decide ((i:Int)<(j:Int))=decide (i<j) by simp]
theorem Xi:af .gtr (N .i64 (i:Int)) (N .i64 (j:Int)) K=K (Bo (decide (i > j))):=by rw[fZ,show decide ((i:Int) > (j:Int))=decide (i > j) by simp]
theorem adw:af .leq (N .i64 (i:Int)) (N .i64 (j:Int)) K=K (Bo (decide (i≤j))):=by rw[Bb,show decide ((i:Int)≤(j:Int))=decide (i≤j) by simp]
theorem aeb:af .eql (N .i64 (i:Int)) (N .i64 (j:Int)) K=K (Bo (decide (i=j))):=by
 rw[bS,show((i:Int) == (j:Int))=decide (i=j) by by_cases h:i=j <;> simp[h]; omega]
end
section
variable {M:RM} {c p:Bool} {f:ak→Prop} {P:RM→Prop} {G:AV→RM→Prop}
theorem XO (hf:c=true→∀ k:ak,k (Bo p) M→f k) (hG:G (Bo (c && p)) M) :
  ax (Bo c) true f (fun k=>k .undef M) (fun t M'=>aV (Bo c) t (Bo false) fun u=>G u M'):=by
 cases c with
 | false=>rw[jv]; dsimp only; rw[dQ]; exact hG
 | true=>rw[fH]; exact hf rfl _ (by rw[dX]; exact hG)
theorem aer (hf:c=false→∀ k:ak,k (Bo p) M→f k) (hG:G (Bo (c || p)) M) :
  ax (Bo c) false f (fun k=>k .undef M) (fun t M'=>aV (Bo c) (Bo true) t fun u=>G u M'):=by
 cases c with
 | true=>rw[gp]; dsimp only; rw[dX]; exact hG
 | false=>rw[bU]; exact hf rfl _ (by rw[dQ]; exact hG)
end
section
variable {M:RM} {c p:Bool} {f:KR→Prop} {G:AV→RM→Prop}
end
end Go.Ab.Sm
namespace Go.Ab
open Go Go.RowKit
inductive kH (B:Nat) (P:Program) (M:RM) : TypeId→List AV→Prop
 | bool (t:TypeId) (b:Bool) : P.underlying t=some .bool→kH B P M t [Bo b]
 | int (t:TypeId) (k:IntKind) (n:Int) : P.underlying t=some (.int k)→k.min≤n→n≤k.max→kH B P M t [N k n]
 | str (t:TypeId) (s:List UInt8) : P.underlying t=some .string→s.length≤B→kH B P M t [St s]
 | Ra (t e:TypeId) : P.underlying t=some (.slice e)→kH B P M t [bA]
 | emp (t e:TypeId) (b:Nat) : P.underlying t=some (.slice e)→kH B P M t [.emp b]
 | slc (t e:TypeId) (b o n c:Nat) (cs:List AV) : P.underlying t=some (.slice e)→b<M.next→n≤c→n≤B→M.loads b o (n * P.cellsOf e)=some cs →
   (∀ i,i<n→kH B P M e ((cs.drop (i * P.cellsOf e)).take (P.cellsOf e)))→kH B P M t [.slc b o n (.ex c)]
 | struct (t:TypeId) (fs:Array Field) (cs:List AV) : P.underlying t=some (.struct fs)→cs.length=P.cellsOf t →
   (∀ (i:Nat) (f:Field),fs[i]?=some f→kH B P M f.type ((cs.drop f.offset).take (P.cellsOf f.type)))→kH B P M t cs
 | array (t e:TypeId) (n:Nat) (cs:List AV) : P.underlying t=some (.array n e)→cs.length=P.cellsOf t →
   (∀ i,i<n→kH B P M e ((cs.drop (i * P.cellsOf e)).take (P.cellsOf e)))→kH B P M t cs
 | other (t:TypeId) (cs:List AV) : vS (P.underlying t)=true→kH B P M t cs
 | zero (t e:TypeId) (cs:List AV) : P.underlying t=some (.slice e)→P.cellsOf e=0→kH B P M t cs
section
variable {H:Type} {enc:TypeId × Value→H} {P:Program} {base:Base} {w:World}
variable {bulk:DataW H→Nat} {B:Nat}
structure aeV (bulk:DataW H→Nat) : Prop where
 str:∀ bs:List UInt8,bs.length≤bulk (.lit (.string bs))
 len:∀ es sp:List (DataW H),es.length≤bulk (.slice es sp)
 elem:∀ (es sp:List (DataW H)) d,d∈es→bulk d≤bulk (.slice es sp)
 spare:∀ (es sp:List (DataW H)) d,d∈sp→bulk d≤bulk (.slice es sp)
 agg:∀ (ps:List (DataW H)) d,d∈ps→bulk d≤bulk (.agg ps)
end
section
variable {P:Program} {M:RM} {t:TypeId} {cs:List AV} {B:Nat}
def EE:AV→Prop
 | .slc _ _ n (.ex c)=>n≤c
 | .slc _ _ _ (.op e)=>e=1
 | _=>True
end
def Nu (B:Nat) (P:Program) (M:RM) (t:TypeId) (v:AV) : Prop :=
 match DN P t with
 | true=>∃ cs,v=.agg cs∧kH B P M t cs
 | false=>kH B P M t [v]
theorem Nu.one {B:Nat} {P:Program} {M:RM} {t:TypeId} {v:AV} (h:Nu B P M t v) (ha:DN P t=false) : kH B P M t [v]:=by
 unfold Nu at h; rw[ha] at h; exact h
section
variable {H:Type} {enc:TypeId × Value→H} {P:Program} {base:Base} {w:World} {bulk:DataW H→Nat} {B:Nat}
end
section
variable {P:Program} {ρ:Ren} {M:RM} {w w' : World}
theorem Uu {base:Base} {A:AW} (hw0:bg P base ρ A w) (hbl:Below w.heap.size w w') (hbase:base≤w.heap.size) {x:dU} {ob:Obj} {i:fD} (hge:w.heap.size≤i.cb) (hob:w'.heap[i.cb]?=some ob)
  (hrel:gW P (ρ.add A.next i) i x ob) : bg P base (ρ.add A.next i) (A.push x) w'∧Step base A.next ρ w (ρ.add A.next i) w':=by
 have hb:ρ A.next=none:=hw0.fresh (Nat.le_refl _)
 have hw:=rP hw0 x
 have hx:(A.push x).heap.get A.next=some x:=by simp[AW.push,Tree.aY]
 have hlt:A.next<(A.push x).next:=by simp[AW.push]
 have hle:=Ren.nX (i:=i) hb
 have hadd:∀ c j,ρ.add A.next i c=some j→(c=A.next∧j=i)∨(c≠A.next∧ρ c=some j):=by
  intro c j h
  unfold Ren.add at h
  split at h
  ·cases h; exact .inl ⟨‹_›,rfl⟩
  ·exact .inr ⟨‹_›,h⟩
 have hcb:i.cb<w'.heap.size:=(Array.getElem?_eq_some_iff.1 hob).1
 refine⟨⟨?_, ?_, ?_,hw.top, ?_,base.low w _ (fun c hc=>hbl.block c (by omega)) hw.inv⟩,⟨hbl.os,hbl.tape,hbl.output,hbl.size, ?_, ?_, ?_,fun c hc=>hbl.block c (by omega)⟩⟩
 ·intro c j h
  rcases hadd c j h with⟨rfl,rfl⟩ | ⟨_,h⟩
  ·exact⟨hlt,hcb⟩
  ·have:=hw.dom c j h; have:=hbl.size; omega
 ·intro c j y h hy
  rcases hadd c j h with⟨rfl,rfl⟩ | ⟨_,h⟩
  ·rw[hx] at hy; cases hy
   exact⟨ob,hob,hrel⟩
  ·obtain⟨o,ho,hr⟩:=hw.blk c j y h hy
   exact⟨o,by rw[hbl.block j.cb (hw.dom c j h).2]; exact ho,hr.mono hle⟩
 ·intro b1 b2 i1 i2 x1 x2 h1 h2 g1 g2 he
  rcases hadd _ _ h1 with⟨e1,f1⟩ | ⟨_,k1⟩ <;> rcases hadd _ _ h2 with⟨e2,f2⟩ | ⟨_,k2⟩
  ·rw[e1,e2]
  ·have:=(hw.dom _ _ k2).2; subst f1; omega
  ·have:=(hw.dom _ _ k1).2; subst f2; omega
  ·exact hw.sep _ _ _ _ _ _ k1 k2 g1 g2 he
 ·intro c j y h hy
  rcases hadd c j h with⟨rfl,rfl⟩ | ⟨_,h⟩
  ·omega
  ·exact hw.lo c j y h hy
 ·intro c hc _; exact hbl.block c hc
 ·intro c hc; unfold Ren.add; rw[if_neg (by omega)]
 ·intro c j h
  rcases hadd c j h with⟨rfl,rfl⟩ | ⟨_,h⟩
  ·exact .inr hge
  ·exact .inl ⟨c,j,h,rfl⟩
theorem iy.aaV {f:FuncId} {args:List AV} {T n:Nat} {cs:List AV} {Q:ak} (hP:Ka P f) (hsz:aZ P T=some 1) (h1:cs.all oneCell=true) (hlen:cs.length=n)
  (h:∀ (ρ:Ren) (w:World) (us:List Value),aR ρ args us→bC P ρ M w→Calls P f ⟨us⟩ w fun e w'=>∃ v xs,e=.returned v∧w'.ownsRow w.heap.size T 1 v n xs∧(∀ ρ',aR ρ' cs xs)∧Below w.heap.size w w')
  (hQ:∀ v M',Own M' M.next T 1 v cs n→ae [] M M'→Q v M') : iy P f args M Q:=by
 refine⟨hP,fun ρ w us hargs hw=>(h ρ w us hargs hw).mono fun e w' hR=>?_⟩
 obtain⟨v,xs,rfl,⟨hxl,hrow⟩,hrel,hbl⟩:=hR
 rcases hrow with⟨rfl,h0⟩ | ⟨g,cap,cur,rfl,hge,hg,r1,r2,r3,r4⟩
 ·have:cs=[]:=List.length_eq_zero_iff.1 (by omega)
  subst this
  have hn:n=0:=h0
  subst hn
  exact⟨_,bA,M,ρ,rfl,After.below hw hbl,.sc _ rfl,hQ _ _ .nil (ae.refl _ _)⟩
 ·obtain⟨A,hA⟩:=hw
  obtain⟨tr,htr⟩:=jQ cs .leaf 0 h1
  obtain⟨_,hget⟩:=fC _ _ _ htr
  obtain⟨_,hcell⟩:=yG htr
  have hblk:gW P (ρ.add A.next ⟨g,0,cap,1⟩) ⟨g,0,cap,1⟩ (.row n tr [] true T 0) (.cells cur T (0,0)):=by
   refine⟨cur,(0,0),rfl,⟨by show 0 + n≤_; omega,fun k x hx=>?_,fun k _ _=>by simp,fun h=>(by cases h),fun _=>⟨Nat.one_pos,by show cur.size=0 + cap * 1; omega,hsz⟩,rfl⟩⟩
   obtain⟨hk1,hk2⟩:=iJ hx
   rw[hget,if_pos (by omega),Nat.sub_zero] at hk2
   obtain⟨v,hv,hvr⟩:=(hrel (ρ.add A.next ⟨g,0,cap,1⟩)).get hk2
   refine⟨v, ?_,hvr⟩
   show cur[0 + k]?=some v
   rw[Nat.zero_add,← Array.getElem?_toList]
   rw[← r4,Nat.mul_one,List.getElem?_take_of_lt (by omega)] at hv
   exact hv
  obtain⟨q1,q2⟩:=Uu hA.rel hbl (Nat.le_trans (show M.base.n≤M.lo from Nat.le_refl _) hA.size) (i:=⟨g,0,cap,1⟩) hge hg hblk
  obtain⟨k1,k2,k3⟩:=RM.Ag hA (x:=.row cs true T 0) (y:=.row n tr [] true T 0) ⟨hlen,rfl,rfl,rfl,fun k v hk=>by rw[← hlen]; exact hcell k v hk⟩
  have hnx:=hA.next
  refine⟨_,.slc M.next 0 n (.op 1),M.push (.row cs true T 0),_,rfl,jg hA q2 q1 k1 k2 (by simp[AW.push]) k3, ?_,hQ _ _ (.op M.next n cs (Nat.le_refl _) (by simp[RM.push]) (RM.bR _) (by omega)) ((ae.refl _ _).push _)⟩
  have:=aj.jh (ρ:=ρ.add A.next ⟨g,0,cap,1⟩) M.next 0 n ⟨g,0,cap,1⟩ (by rw[← hnx]; simp[Ren.add]) (by show 0 + n≤cap; omega)
  simpa using this
end
end Go.Ab
namespace Go.Ab.Sha
open Go Go.Ab
abbrev Str:=List UInt8
structure Bs (M:RM) (v:AV) (b:Str) : Prop where
 sl:Sl BY M v b
 cap:EE v
theorem Bs.keep {M M' : RM} {v:AV} {b:Str} {bs:List Nat} (h:Bs M v b) (k:ae bs M M') (hb:∀ x∈ah v,x ∉ bs) : Bs M' v b:=⟨aD.keep h.sl k hb,h.cap⟩
theorem Bs.len {M:RM} {v:AV} {b:Str} (h:Bs M v b) {K:AV→Prop} : aU v K=K (N .i64 (b.length:Int)):=aD.len h.sl
theorem Bs.str {M:RM} {v:AV} {b:Str} (h:Bs M v b) {K:AV→Prop} : iC M v K=K (St b):=Sl.str h.sl
theorem Qg {M:RM} {base T n:Nat} {v:AV} {cs:List AV} (h:Own M base T 1 v cs n) : EE v:=by
 cases h with
 | nil=>trivial
 | ex0 b o _ _ _=>exact Nat.le_refl _
 | op b n cs _ _ _ _=>rfl
theorem Bs.own {M:RM} {base T:Nat} {v:AV} {b:Str} (h:Ow BY M base T v b) : Bs M v b:=⟨Own.gJ h,Qg h⟩
theorem Ca {M:RM} {b o n:Nat} {x:Str} (h:M.loads b o (n * 1)=some (BY.row x)) {l u:Nat} (h1:l≤u) (h2:u≤n) : M.loads b (o + l * 1) ((u - l) * 1)=some (BY.row ((x.drop l).take (u - l))):=by
 have:=pE h (l * 1) ((u - l) * 1) (by omega)
 rw[this]
 congr 1
 have e1:=BY.qR x l
 have e2:=BY.qE (x.drop l) (u - l)
 rw[show l * 1=l * BY.size from rfl,e1,show(u - l) * 1=(u - l) * BY.size from rfl,e2]
theorem Bs.sub {M:RM} {v:AV} {b:Str} (h:Bs M v b) {lo hi:Option AV} {l u:Nat} (e1:bnd 0 lo=some l) (e2:bnd b.length hi=some u) (h1:l≤u) (h2:u≤b.length) {K:AV→Prop}
  (hK:∀ v',Bs M v' ((b.drop l).take (u - l))→(∀ x∈ah v',x∈ah v)→K v') : gQ (bK 1 v lo hi none) K:=by
 obtain⟨hs,hc⟩:=h
 have hlen:((b.drop l).take (u - l)).length=u - l:=by simp; omega
 have zero:u=l→∀ {w:AV},aD M 1 w [] 0→Sl BY M w ((b.drop l).take (u - l)):=by
  intro e w hw
  subst e
  rw[Nat.sub_self,List.take_zero]
  exact hw
 unfold Sl at hs
 generalize hn:b.length=n at *
 generalize hcs:BY.row b=cs at *
 cases hs with
 | nil =>
   have l0:l=0:=by omega
   have u0:u=0:=by omega
   subst l0 u0
   exact⟨bA,by simp only[bK,bA,e1,e2],hK _ ⟨zero rfl .nil,trivial⟩ (fun x hx=>hx)⟩
 | emp b0 =>
   have l0:l=0:=by omega
   have u0:u=0:=by omega
   subst l0 u0
   exact⟨.emp b0,by simp only[bK,e1,e2],hK _ ⟨zero rfl (.emp _),trivial⟩ (fun x hx=>hx)⟩
 | slc b0 o _ cap cs hb hl =>
   subst hcs
   have hl':=Ca hl h1 h2
   have whole:∀ cap',EE (.slc b0 (o + l * 1) (u - l) cap')→(Bs M (.slc b0 (o + l * 1) (u - l) cap') ((b.drop l).take (u - l))):=fun cap' hcap=>⟨by
    unfold Sl; rw[hlen]; exact .slc _ _ _ _ _ hb hl',hcap⟩
   cases cap with
   | ex c =>
     have hcn:n≤c:=hc
     by_cases e:c=l
     ·subst e
      have hu:u=c:=by omega
      subst hu
      refine⟨.slc b0 o 0 (.ex 0),by simp only[bK,e1,e2]; rw[if_pos ⟨Nat.le_refl _,Nat.le_refl _⟩]; simp,hK _ ⟨zero rfl (.slc _ _ _ _ _ hb ?_),Nat.le_refl _⟩ (fun x hx=>hx)⟩
      have:=Ca hl (Nat.le_refl 0) (Nat.zero_le n)
      simpa [BY,Enc.row] using this
     ·exact⟨_,by simp only[bK,e1,e2]; rw[if_pos ⟨h1,by omega⟩,if_neg e],hK _ (whole _ (by show u - l≤c - l; omega)) (fun x hx=>hx)⟩
   | op esz =>
     have he:esz=1:=hc
     subst he
     by_cases e:n≤l
     ·have hu:u=l:=by omega
      exact⟨.emp b0,by simp only[bK,e1,e2]; simp[h1,h2,e],hK _ ⟨zero hu (.emp _),trivial⟩ (fun x hx=>by simp[ah] at hx)⟩
     ·exact⟨_,by simp only[bK,e1,e2]; simp only[and_true]; rw[if_pos ⟨h1,h2⟩,if_neg e],hK _ (whole (.op 1) rfl) (fun x hx=>hx)⟩
theorem sP (d n:Nat) (k:IntKind) : bnd d (some (N k (n:Int)))=some n:=by simp[bnd]
theorem Ta (d:Nat) : bnd d none=some d:=rfl
theorem ae.own {bs:List Nat} {M M1 M2:RM} {v:AV} (k1:ae bs M M1) (k2:ae (ah v) M1 M2) (hv:∀ b∈ah v,M.next≤b) : ae bs M M2 :=
 ⟨k2.base.trans k1.base,Nat.le_trans k1.next k2.next,fun x hx hb=>by
  rw[k2.heap x (Nat.lt_of_lt_of_le hx k1.next) (fun h=>by have:=hv x h; omega),k1.heap x hx hb]⟩
theorem lK {M:RM} {b n:Nat} {l cs:List AV} {p:Bool} {e:Nat} {K:RM→Prop} (h:M.heap b=some (.row l p e 0)) (hn:cs.length=n) (hl:l.length=n) (h1:cs.all oneCell=true) :
  aS M (.ptr b 0) (.agg cs) n K=K (M.put b (.row cs p e 0)):=Te (x:=.agg cs) h hn hl h1
theorem Bs.lt {M:RM} {v:AV} {b:Str} (h:Bs M v b) : ∀ x∈ah v,x<M.next:=aD.lt h.sl
theorem BC {br:Nat} {M M0 M1:RM} (k0:ae [] M M0) (h:ae [br] M0 M1) (hb:M.next≤br) : ae [] M M1 :=
 ⟨h.base.trans k0.base,Nat.le_trans k0.next h.next,fun x hx _=>by rw[h.heap x (Nat.lt_of_lt_of_le hx k0.next) (fun e=>by simp at e; omega),k0.heap x hx (by simp)]⟩
theorem fT (s:Str) : (BY.row s).length=s.length:=by rw[Enc.iL]; simp[BY]
theorem Bs.new (M:RM) (T:Nat) (s:Str) : Bs (M.push (.row (BY.row s) true T 0)) (.slc M.next 0 s.length (.op 1)) s:=⟨(Rw.new M s).sl,rfl⟩
theorem Bs.read {M:RM} {v:AV} {b:Str} (h:Bs M v b) {i:Nat} (hi:i<b.length) {K:AV→Prop} : (aI v (N .i64 (i:Int)) 1 fun t=>ag M t K)=K (By b[i]):=by
 obtain⟨c,o,_,_,hix,hld⟩:=h.sl.Qd (i:Int) hi
 rw[hix,dM,hld _ rfl]
 exact propext ⟨fun⟨v,e,k⟩=>by cases e; exact k,fun k=>⟨_,rfl,k⟩⟩
theorem wV {T:Nat} {M:RM} {z cs:List AV} {K:AV→RM→Prop} (n:Nat) (hz:z.length=n) (hc:cs.length=n) (h1:cs.all oneCell=true)
  (hK:∀ M',ae [] M M'→M'.heap M.next=some (.row cs false T 0)→M.next<M'.next→K (.ptr M.next 0) M') :
  aO (.row z false T 0) (fun b=>.ptr b 0) M fun t M1=>aS M1 t (.agg cs) n fun M2=>K t M2:=by
 simp only[aL]
 have n1:(M.push (.row z false T 0)).heap M.next=some (.row z false T 0):=by simp[RM.push]
 rw[lK n1 hc hz h1]
 exact hK _ (((ae.refl _ _).push _).new _ (Nat.le_refl _)) (aM _) (by simp[RM.push,RM.put])
theorem WG {b n i:Nat} {c:Cap} {K:AV→Prop} (h:i<n) : aI (.slc b 0 n c) (N .i64 (i:Int)) 1 K=K (.ptr b i):=by
 rw[qK,Nat.zero_add,Nat.mul_one,Int.toNat_natCast]
 apply propext
 constructor
 ·exact fun h=>h.2.2
 ·exact fun k=>⟨by omega,by omega,k⟩
def xD (f:(List AV→RM→Prop)→Prop) (g:List AV→RM→Prop) : Prop:=f g
theorem dW (f:(List AV→RM→Prop)→Prop) (g:List AV→RM→Prop) : ek f g=xD f g:=rfl
theorem dh {H:(List AV→RM→Prop)→Prop} {G:List AV→RM→Prop} (P:List AV→RM→Prop) (hT:∀ xs M,P xs M→G xs M)
  (hH:∀ J:List AV→RM→Prop,(∀ xs M,P xs M→J xs M)→H J) : xD H G:=hH G hT
theorem EM {s:List UInt8} {i:Nat} (hi:i<s.length) (kd:IntKind) (K:AV→Prop) : nM (St s) (N kd (i:Int)) K=K (By s[i]):=by
 rw[XT]
 apply propext
 constructor
 ·rintro⟨_,b,hb,hk⟩
  rw[Int.toNat_natCast,List.getElem?_eq_getElem hi] at hb
  cases hb; exact hk
 ·intro hk; exact⟨by omega,s[i],by rw[Int.toNat_natCast,List.getElem?_eq_getElem hi],hk⟩
theorem xJ {T bytes:Nat} {zs:List AV} {K:RB→(Nat→AV)→Prop} (h:K (.row [] false T 0) (fun b=>.slc b 0 0 (.ex 0))) : qm T bytes zs (N .i64 0) (N .i64 0) K :=
 ⟨_,_,0,0,rfl,rfl,by omega,by omega,by simp,by simp,h⟩
theorem il {k:IntKind} {a:Int} {K:AV→Prop} : DR (N k a) K=K (N k (Ei k (if k.signed then -1 else k.max) a)):=by
 apply propext; unfold DR
 constructor
 ·rintro⟨k',a',h1,hk⟩; cases h1; exact hk
 ·intro hk; exact⟨k,a,rfl,hk⟩
set_option maxRecDepth 100000
def yN (p1:au) (p2:Nat) (p3:au) (a0:AV) (M0:RM) (Q:ak) : Prop:=p1 [a0] M0 fun j d=>aO (.row [(N .u8 0),(N .u8 0),(N .u8 0),(N .u8 0),(N .u8 0),(N .u8 0),(N .u8 0),(N .u8 0),(N .u8 0),(N .u8 0),(N .u8 0),(N .u8 0),(N .u8 0),(N .u8 0),(N .u8 0),(N .u8 0),(N .u8 0),(N .u8 0),(N .u8 0),(N .u8 0),(N .u8 0),(N .u8 0),(N .u8 0),(N .u8 0),(N .u8 0),(N .u8 0),(N .u8 0),(N .u8 0),(N .u8 0),(N .u8 0),(N .u8 0),(N .u8 0)] false p2 0) (fun i=>.ptr i 0) d fun c e=>aS e c j 32 fun g=>gQ (BI 32 1 c none none) fun l=>p3 [l] g fun m h=>Q m h
def Ed (p1:Nat) (p2:au) (p3:Nat) (p4:au) (p5:Nat) (p6 p7:au) (p8:Nat) (a0:AV) (M0:RM) (Q:ak) : Prop:=aO (.row [(N .u8 0),(N .u8 0),(N .u8 0),(N .u8 0),(N .u8 0),(N .u8 0),(N .u8 0),(N .u8 0),(N .u8 0),(N .u8 0),(N .u8 0),(N .u8 0),(N .u8 0),(N .u8 0),(N .u8 0),(N .u8 0),(N .u8 0),(N .u8 0),(N .u8 0),(N .u8 0),(N .u8 0),(N .u8 0),(N .u8 0),(N .u8 0),(N .u8 0),(N .u8 0),(N .u8 0),(N .u8 0),(N .u8 0),(N .u8 0),(N .u8 0),(N .u8 0)] false p1 0) (fun c=>.ptr c 0) M0 fun u v=>p2 [] v fun vf w=>aO (.row [(N .u32 0),(N .u32 0),(N .u32 0),(N .u32 0),(N .u32 0),(N .u32 0),(N .u32 0),(N .u32 0),(N .u32 0),(N .u32 0),(N .u32 0),(N .u32 0),(N .u32 0),(N .u32 0),(N .u32 0),(N .u32 0),(N .u32 0),(N .u32 0),(N .u32 0),(N .u32 0),(N .u32 0),(N .u32 0),(N .u32 0),(N .u32 0),(N .u32 0),(N .u32 0),(N .u32 0),(N .u32 0),(N .u32 0),(N .u32 0),(N .u32 0),(N .u32 0),(N .u32 0),(N .u32 0),(N .u32 0),(N .u32 0),(N .u32 0),(N .u32 0),(N .u32 0),(N .u32 0),(N .u32 0),(N .u32 0),(N .u32 0),(N .u32 0),(N .u32 0),(N .u32 0),(N .u32 0),(N .u32 0),(N .u32 0),(N .u32 0),(N .u32 0),(N .u32 0),(N .u32 0),(N .u32 0),(N .u32 0),(N .u32 0),(N .u32 0),(N .u32 0),(N .u32 0),(N .u32 0),(N .u32 0),(N .u32 0),(N .u32 0),(N .u32 0)] false p3 0) (fun c=>.ptr c 0) w fun l x=>aS x l vf 64 fun B=>p4 [] B fun vg G=>aO (.row [(N .u32 0),(N .u32 0),(N .u32 0),(N .u32 0),(N .u32 0),(N .u32 0),(N .u32 0),(N .u32 0)] false p5 0) (fun c=>.ptr c 0) G fun h I=>aS I h vg 8 fun L=>aU a0 fun vh=>af .quo vh (N .i64 64) fun vi=>af .mul vi (N .i64 64) fun t=>aX (fun W i r=>af .lss (aa i 0) t fun vj=>az vj ( af .add (aa i 0) (N .i64 64) fun vl=>gQ (bK 1 a0 (some (aa i 0)) (some vl) none) fun vm=>p6 [h,vm,l] r fun wo O=>af .add (aa i 0) (N .i64 64) fun vk=>W [vk] O) ( gQ (bK 1 a0 (some t) none none) fun vn=>p7 [vn] r fun vo P=>bn p8 1 [(N .u8 0)] [(0,1,(N .u8 128))] fun vb S=>aO vb S P fun vp R=>appW p8 1 1 [(N .u8 0)] false vo vp R fun vq y=>aX (fun X m n=>aU (aa m 0) fun vr=>af .rem vr (N .i64 64) fun vs=>af .neq vs (N .i64 56) fun vt=>az vt ( bn p8 1 [(N .u8 0)] [(0,1,(N .u8 0))] fun vc U=>aO vc U n fun vu z=>appW p8 1 1 [(N .u8 0)] false (aa m 0) vu z fun vv A=>X [vv] A) ( aX (fun Y d o=>af .lss (aa d 1) (N .i64 8) fun vw=>az vw ( aU a0 fun vx=>eD .u64 vx fun vy=>af .mul vy (N .u64 8) fun vz=>af .mul (N .i64 8) (aa d 1) fun v0=>af .sub (N .i64 56) v0 fun v1=>iX .shr vz v1 fun v2=>eD .u8 v2 fun v3=>bn p8 1 [(N .u8 0)] [(0,1,v3)] fun vd V=>aO vd V o fun v4 C=>appW p8 1 1 [(N .u8 0)] false (aa d 0) v4 C fun v5 D=>af .add (aa d 1) (N .i64 1) fun v6=>Y [v5,v6] D) ( aX (fun Z j p=>aU (aa d 0) fun v7=>af .lss (aa j 0) v7 fun v8=>az v8 ( af .add (aa j 0) (N .i64 64) fun wa=>gQ (bK 1 (aa d 0) (some (aa j 0)) (some wa) none) fun wb=>p6 [h,wb,l] p fun wp E=>af .add (aa j 0) (N .i64 64) fun v9=>Z [v9] E) ( aO (.row [(N .u8 0),(N .u8 0),(N .u8 0),(N .u8 0),(N .u8 0),(N .u8 0),(N .u8 0),(N .u8 0),(N .u8 0),(N .u8 0),(N .u8 0),(N .u8 0),(N .u8 0),(N .u8 0),(N .u8 0),(N .u8 0),(N .u8 0),(N .u8 0),(N .u8 0),(N .u8 0),(N .u8 0),(N .u8 0),(N .u8 0),(N .u8 0),(N .u8 0),(N .u8 0),(N .u8 0),(N .u8 0),(N .u8 0),(N .u8 0),(N .u8 0),(N .u8 0)] false p1 0) (fun c=>.ptr c 0) p fun s F=>aX (fun va e g=>af .lss (aa e 0) (N .i64 32) fun wc=>az wc ( af .quo (aa e 0) (N .i64 4) fun wd=>bN h wd 8 1 fun we=>ag g we fun wf=>af .rem (aa e 0) (N .i64 4) fun wg=>af .mul (N .i64 8) wg fun wh=>af .sub (N .i64 24) wh fun wi=>iX .shr wf wi fun wj=>eD .u8 wj fun wk=>bN s (aa e 0) 32 1 fun wl=>aS g wl wk 1 fun H=>af .add (aa e 0) (N .i64 1) fun wm=>va [wm] H) ( dE g s 32 fun wn=>aS g u wn 32 fun q=>dE q u 32 fun ve=>Q ve q)) [(N .i64 0)] F)) [(N .i64 0)] o)) [(aa m 0),(N .i64 0)] n)) [vq] y)) [(N .i64 0)] L
def DW (p1 p2:Nat) (a0:AV) (M0:RM) (Q:ak) : Prop:=mO p1 a0 fun n j=>aO n j M0 fun p e=>dE e p 32 fun y=>aX (fun m c d=>af .lss (aa c 1) (N .i64 32) fun z=>az z ( Jn y (aa c 1) 32 fun g=>iX .shr g (N .u64 4) fun q=>nM (St [48,49,50,51,52,53,54,55,56,57,97,98,99,100,101,102]) q fun r=>af .and g (N .u8 15) fun s=>nM (St [48,49,50,51,52,53,54,55,56,57,97,98,99,100,101,102]) s fun t=>bn p2 2 [(N .u8 0)] [(0,1,r),(1,1,t)] fun o l=>uS o l d fun u h A=>appW p2 1 1 [(N .u8 0)] false (aa c 0) u h fun v i=>af .add (aa c 1) (N .i64 1) fun w=>m [v,w] i) ( iC d (aa c 0) fun x=>Q x d)) [(.sc (.slice none 0 0)),(N .i64 0)] e
def A7 (p1:Nat) (p2:au) (p3:Nat) (p4:au) (a0:AV) (M0:RM) (Q:ak) : Prop:=aO (.row [(N .u8 0),(N .u8 0),(N .u8 0),(N .u8 0),(N .u8 0),(N .u8 0),(N .u8 0),(N .u8 0),(N .u8 0),(N .u8 0),(N .u8 0),(N .u8 0),(N .u8 0),(N .u8 0),(N .u8 0),(N .u8 0),(N .u8 0),(N .u8 0),(N .u8 0),(N .u8 0),(N .u8 0),(N .u8 0),(N .u8 0),(N .u8 0),(N .u8 0),(N .u8 0),(N .u8 0),(N .u8 0),(N .u8 0),(N .u8 0),(N .u8 0),(N .u8 0)] false p1 0) (fun h=>.ptr h 0) M0 fun p r=>p2 [] r fun o s=>bB o 0 fun X=>bB o 1 fun Y=>bn p3 0 [(N .u8 0)] [] fun R E=>aO R E s fun Z t=>appW p3 1 1 [(N .u8 0)] false Z a0 t fun va y=>bn p3 1 [(N .u8 0)] [(0,1,(N .u8 128))] fun U G=>aO U G y fun vb C=>appW p3 1 1 [(N .u8 0)] false va vb C fun vc D=>aX (fun I i n=>aU (aa i 0) fun vd=>af .rem vd (N .i64 64) fun ve=>af .neq ve (N .i64 56) fun vf=>az vf ( bn p3 1 [(N .u8 0)] [(0,1,(N .u8 0))] fun V H=>aO V H n fun vg u=>appW p3 1 1 [(N .u8 0)] false (aa i 0) vg u fun vh v=>I [vh] v) ( aU a0 fun vi=>eD .u64 vi fun vj=>af .mul vj (N .u64 8) fun vk=>aX (fun L c j=>af .geq (aa c 1) (N .i64 0) fun vl=>az vl ( af .mul (N .i64 8) (aa c 1) fun vn=>eD .u64 vn fun vo=>iX .shr vk vo fun vp=>eD .u8 vp fun vq=>bn p3 1 [(N .u8 0)] [(0,1,vq)] fun S F=>aO S F j fun vr w=>appW p3 1 1 [(N .u8 0)] false (aa c 0) vr w fun vs x=>af .sub (aa c 1) (N .i64 1) fun vm=>L [vs,vm] x) ( aX (fun O d l=>aU (aa c 0) fun vt=>af .lss (aa d 1) vt fun vu=>az vu ( af .add (aa d 1) (N .i64 64) fun vw=>gQ (bK 1 (aa c 0) (some (aa d 1)) (some vw) none) fun vx=>p4 [(aa d 0),Y,vx] l fun vy z=>af .add (aa d 1) (N .i64 64) fun vv=>O [vy,vv] z) ( aO (.row [(N .u8 0),(N .u8 0),(N .u8 0),(N .u8 0),(N .u8 0),(N .u8 0),(N .u8 0),(N .u8 0),(N .u8 0),(N .u8 0),(N .u8 0),(N .u8 0),(N .u8 0),(N .u8 0),(N .u8 0),(N .u8 0),(N .u8 0),(N .u8 0),(N .u8 0),(N .u8 0),(N .u8 0),(N .u8 0),(N .u8 0),(N .u8 0),(N .u8 0),(N .u8 0),(N .u8 0),(N .u8 0),(N .u8 0),(N .u8 0),(N .u8 0),(N .u8 0)] false p1 0) (fun h=>.ptr h 0) l fun q A=>aX (fun P e g=>af .lss (aa e 0) (N .i64 32) fun vz=>az vz ( af .quo (aa e 0) (N .i64 4) fun v1=>aI (aa d 0) v1 1 fun v2=>ag g v2 fun v3=>af .rem (aa e 0) (N .i64 4) fun v4=>af .mul (N .i64 8) v4 fun v5=>af .sub (N .i64 24) v5 fun v6=>eD .u64 v6 fun v7=>iX .shr v3 v7 fun v8=>eD .u8 v8 fun v9=>bN q (aa e 0) 32 1 fun wa=>aS g wa v9 1 fun B=>af .add (aa e 0) (N .i64 1) fun v0=>P [v0] B) ( dE g q 32 fun wb=>aS g p wb 32 fun m=>dE m p 32 fun W=>Q W m)) [(N .i64 0)] A)) [X,(N .i64 0)] j)) [(aa i 0),(N .i64 7)] n)) [vc] D
def AL (p1:Nat) (a0:AV) (M0:RM) (Q:ak) : Prop:=qm p1 1 [(N .u8 0)] (N .i64 0) (N .i64 0) fun m i=>aO m i M0 fun A e=>aX (fun l c d=>aU a0 fun B=>af .lss (aa c 1) B fun C=>az C ( aI a0 (aa c 1) 1 fun p=>ag d p fun q=>iX .shr q (N .u64 4) fun r=>nM (St [48,49,50,51,52,53,54,55,56,57,97,98,99,100,101,102]) r fun s=>aI a0 (aa c 1) 1 fun t=>ag d t fun u=>af .and u (N .u8 15) fun v=>nM (St [48,49,50,51,52,53,54,55,56,57,97,98,99,100,101,102]) v fun w=>bn p1 2 [(N .u8 0)] [(0,1,s),(1,1,w)] fun n j=>uS n j d fun x g D=>appW p1 1 1 [(N .u8 0)] false (aa c 0) x g fun y h=>af .add (aa c 1) (N .i64 1) fun o=>l [y,o] h) ( iC d (aa c 0) fun z=>Q z d)) [A,(N .i64 0)] e
def Cg (p1:Nat) (p2:au) (a0:AV) (M0:RM) (Q:ak) : Prop:=aO (.row [(N .u8 0),(N .u8 0),(N .u8 0),(N .u8 0),(N .u8 0),(N .u8 0),(N .u8 0),(N .u8 0),(N .u8 0),(N .u8 0),(N .u8 0),(N .u8 0),(N .u8 0),(N .u8 0),(N .u8 0),(N .u8 0),(N .u8 0),(N .u8 0),(N .u8 0),(N .u8 0),(N .u8 0),(N .u8 0),(N .u8 0),(N .u8 0),(N .u8 0),(N .u8 0),(N .u8 0),(N .u8 0),(N .u8 0),(N .u8 0),(N .u8 0),(N .u8 0)] false p1 0) (fun i=>.ptr i 0) M0 fun c u=>aO (.row [(N .u8 0),(N .u8 0),(N .u8 0),(N .u8 0),(N .u8 0),(N .u8 0),(N .u8 0),(N .u8 0),(N .u8 0),(N .u8 0),(N .u8 0),(N .u8 0),(N .u8 0),(N .u8 0),(N .u8 0),(N .u8 0),(N .u8 0),(N .u8 0),(N .u8 0),(N .u8 0),(N .u8 0),(N .u8 0),(N .u8 0),(N .u8 0),(N .u8 0),(N .u8 0),(N .u8 0),(N .u8 0),(N .u8 0),(N .u8 0),(N .u8 0),(N .u8 0)] false p1 0) (fun i=>.ptr i 0) u fun l g=>vO a0 fun va=>af .neq va (N .i64 64) fun C=>az C ( dE g l 32 fun D=>aS g c D 32 fun m=>dE m c 32 fun z=>Q (.tup [z,(N .i64 14)]) m) ( aX (fun y e h=>af .lss (aa e 0) (N .i64 32) fun E=>az E ( af .mul (N .i64 2) (aa e 0) fun F=>nM a0 F fun G=>af .mul (N .i64 2) (aa e 0) fun H=>af .add H (N .i64 1) fun I=>nM a0 I fun L=>p2 [G] h fun s w=>p2 [L] w fun t o=>af .gtr s (N .u8 15) fun j=>ax j false (fun d=>d t o) (fun d=>d .undef o) fun O p=>ax j false (fun x=>af .gtr O (N .u8 15) fun P=>x P p) (fun d=>d .undef p) fun R q=>aV j (Bo true) R fun S=>az S ( jG [(N .u8 0),(N .u8 0),(N .u8 0),(N .u8 0),(N .u8 0),(N .u8 0),(N .u8 0),(N .u8 0),(N .u8 0),(N .u8 0),(N .u8 0),(N .u8 0),(N .u8 0),(N .u8 0),(N .u8 0),(N .u8 0),(N .u8 0),(N .u8 0),(N .u8 0),(N .u8 0),(N .u8 0),(N .u8 0),(N .u8 0),(N .u8 0),(N .u8 0),(N .u8 0),(N .u8 0),(N .u8 0),(N .u8 0),(N .u8 0),(N .u8 0),(N .u8 0)] [] fun U=>aS q c U 32 fun r=>dE r c 32 fun A=>Q (.tup [A,(N .i64 14)]) r) ( iX .shl s (N .u64 4) fun V=>af .or V t fun W=>bN l (aa e 0) 32 1 fun X=>aS q X W 1 fun v=>af .add (aa e 0) (N .i64 1) fun Y=>y [Y] v)) ( dE h l 32 fun Z=>aS h c Z 32 fun n=>dE n c 32 fun B=>Q (.tup [B,(N .i64 0)]) n)) [(N .i64 0)] g)
def qd (p1:Nat) (M0:RM) (Q:ak) : Prop:=aO (.row [(N .u32 0),(N .u32 0),(N .u32 0),(N .u32 0),(N .u32 0),(N .u32 0),(N .u32 0),(N .u32 0),(N .u32 0),(N .u32 0),(N .u32 0),(N .u32 0),(N .u32 0),(N .u32 0),(N .u32 0),(N .u32 0),(N .u32 0),(N .u32 0),(N .u32 0),(N .u32 0),(N .u32 0),(N .u32 0),(N .u32 0),(N .u32 0),(N .u32 0),(N .u32 0),(N .u32 0),(N .u32 0),(N .u32 0),(N .u32 0),(N .u32 0),(N .u32 0),(N .u32 0),(N .u32 0),(N .u32 0),(N .u32 0),(N .u32 0),(N .u32 0),(N .u32 0),(N .u32 0),(N .u32 0),(N .u32 0),(N .u32 0),(N .u32 0),(N .u32 0),(N .u32 0),(N .u32 0),(N .u32 0),(N .u32 0),(N .u32 0),(N .u32 0),(N .u32 0),(N .u32 0),(N .u32 0),(N .u32 0),(N .u32 0),(N .u32 0),(N .u32 0),(N .u32 0),(N .u32 0),(N .u32 0),(N .u32 0),(N .u32 0),(N .u32 0)] false p1 0) (fun g=>.ptr g 0) M0 fun d e=>jG [(N .u32 0),(N .u32 0),(N .u32 0),(N .u32 0),(N .u32 0),(N .u32 0),(N .u32 0),(N .u32 0),(N .u32 0),(N .u32 0),(N .u32 0),(N .u32 0),(N .u32 0),(N .u32 0),(N .u32 0),(N .u32 0),(N .u32 0),(N .u32 0),(N .u32 0),(N .u32 0),(N .u32 0),(N .u32 0),(N .u32 0),(N .u32 0),(N .u32 0),(N .u32 0),(N .u32 0),(N .u32 0),(N .u32 0),(N .u32 0),(N .u32 0),(N .u32 0),(N .u32 0),(N .u32 0),(N .u32 0),(N .u32 0),(N .u32 0),(N .u32 0),(N .u32 0),(N .u32 0),(N .u32 0),(N .u32 0),(N .u32 0),(N .u32 0),(N .u32 0),(N .u32 0),(N .u32 0),(N .u32 0),(N .u32 0),(N .u32 0),(N .u32 0),(N .u32 0),(N .u32 0),(N .u32 0),(N .u32 0),(N .u32 0),(N .u32 0),(N .u32 0),(N .u32 0),(N .u32 0),(N .u32 0),(N .u32 0),(N .u32 0),(N .u32 0)] [(0,1,(N .u32 1116352408)),(1,1,(N .u32 1899447441)),(2,1,(N .u32 3049323471)),(3,1,(N .u32 3921009573)),(4,1,(N .u32 961987163)),(5,1,(N .u32 1508970993)),(6,1,(N .u32 2453635748)),(7,1,(N .u32 2870763221)),(8,1,(N .u32 3624381080)),(9,1,(N .u32 310598401)),(10,1,(N .u32 607225278)),(11,1,(N .u32 1426881987)),(12,1,(N .u32 1925078388)),(13,1,(N .u32 2162078206)),(14,1,(N .u32 2614888103)),(15,1,(N .u32 3248222580)),(16,1,(N .u32 3835390401)),(17,1,(N .u32 4022224774)),(18,1,(N .u32 264347078)),(19,1,(N .u32 604807628)),(20,1,(N .u32 770255983)),(21,1,(N .u32 1249150122)),(22,1,(N .u32 1555081692)),(23,1,(N .u32 1996064986)),(24,1,(N .u32 2554220882)),(25,1,(N .u32 2821834349)),(26,1,(N .u32 2952996808)),(27,1,(N .u32 3210313671)),(28,1,(N .u32 3336571891)),(29,1,(N .u32 3584528711)),(30,1,(N .u32 113926993)),(31,1,(N .u32 338241895)),(32,1,(N .u32 666307205)),(33,1,(N .u32 773529912)),(34,1,(N .u32 1294757372)),(35,1,(N .u32 1396182291)),(36,1,(N .u32 1695183700)),(37,1,(N .u32 1986661051)),(38,1,(N .u32 2177026350)),(39,1,(N .u32 2456956037)),(40,1,(N .u32 2730485921)),(41,1,(N .u32 2820302411)),(42,1,(N .u32 3259730800)),(43,1,(N .u32 3345764771)),(44,1,(N .u32 3516065817)),(45,1,(N .u32 3600352804)),(46,1,(N .u32 4094571909)),(47,1,(N .u32 275423344)),(48,1,(N .u32 430227734)),(49,1,(N .u32 506948616)),(50,1,(N .u32 659060556)),(51,1,(N .u32 883997877)),(52,1,(N .u32 958139571)),(53,1,(N .u32 1322822218)),(54,1,(N .u32 1537002063)),(55,1,(N .u32 1747873779)),(56,1,(N .u32 1955562222)),(57,1,(N .u32 2024104815)),(58,1,(N .u32 2227730452)),(59,1,(N .u32 2361852424)),(60,1,(N .u32 2428436474)),(61,1,(N .u32 2756734187)),(62,1,(N .u32 3204031479)),(63,1,(N .u32 3329325298))] fun i=>aS e d i 64 fun c=>dE c d 64 fun h=>Q h c
def yI (p1:Nat) (M0:RM) (Q:ak) : Prop:=aO (.row [(N .u32 0),(N .u32 0),(N .u32 0),(N .u32 0),(N .u32 0),(N .u32 0),(N .u32 0),(N .u32 0)] false p1 0) (fun g=>.ptr g 0) M0 fun d e=>jG [(N .u32 0),(N .u32 0),(N .u32 0),(N .u32 0),(N .u32 0),(N .u32 0),(N .u32 0),(N .u32 0)] [(0,1,(N .u32 1779033703)),(1,1,(N .u32 3144134277)),(2,1,(N .u32 1013904242)),(3,1,(N .u32 2773480762)),(4,1,(N .u32 1359893119)),(5,1,(N .u32 2600822924)),(6,1,(N .u32 528734635)),(7,1,(N .u32 1541459225))] fun i=>aS e d i 8 fun c=>dE c d 8 fun h=>Q h c
def oL (p1:Nat) (p2:au) (p3:Nat) (a0 a1 a2:AV) (M0:RM) (Q:ak) : Prop:=aO (.row [(N .u32 0),(N .u32 0),(N .u32 0),(N .u32 0),(N .u32 0),(N .u32 0),(N .u32 0),(N .u32 0),(N .u32 0),(N .u32 0),(N .u32 0),(N .u32 0),(N .u32 0),(N .u32 0),(N .u32 0),(N .u32 0),(N .u32 0),(N .u32 0),(N .u32 0),(N .u32 0),(N .u32 0),(N .u32 0),(N .u32 0),(N .u32 0),(N .u32 0),(N .u32 0),(N .u32 0),(N .u32 0),(N .u32 0),(N .u32 0),(N .u32 0),(N .u32 0),(N .u32 0),(N .u32 0),(N .u32 0),(N .u32 0),(N .u32 0),(N .u32 0),(N .u32 0),(N .u32 0),(N .u32 0),(N .u32 0),(N .u32 0),(N .u32 0),(N .u32 0),(N .u32 0),(N .u32 0),(N .u32 0),(N .u32 0),(N .u32 0),(N .u32 0),(N .u32 0),(N .u32 0),(N .u32 0),(N .u32 0),(N .u32 0),(N .u32 0),(N .u32 0),(N .u32 0),(N .u32 0),(N .u32 0),(N .u32 0),(N .u32 0),(N .u32 0)] false p1 0) (fun vc=>.ptr vc 0) M0 fun i vg=>aX (fun vn j m=>af .lss (aa j 0) (N .i64 16) fun xz=>az xz ( af .mul (N .i64 4) (aa j 0) fun x0=>aI a1 x0 1 fun x1=>ag m x1 fun x2=>eD .u32 x2 fun x3=>iX .shl x3 (N .u64 24) fun x4=>af .mul (N .i64 4) (aa j 0) fun x5=>af .add x5 (N .i64 1) fun x6=>aI a1 x6 1 fun x7=>ag m x7 fun x8=>eD .u32 x8 fun x9=>iX .shl x9 (N .u64 16) fun ya=>af .or x4 ya fun yb=>af .mul (N .i64 4) (aa j 0) fun yc=>af .add yc (N .i64 2) fun yd=>aI a1 yd 1 fun ye=>ag m ye fun yf=>eD .u32 yf fun yg=>iX .shl yg (N .u64 8) fun yh=>af .or yb yh fun yi=>af .mul (N .i64 4) (aa j 0) fun yj=>af .add yj (N .i64 3) fun yk=>aI a1 yk 1 fun yl=>ag m yl fun ym=>eD .u32 ym fun yn=>af .or yi yn fun yo=>bN i (aa j 0) 64 1 fun yp=>aS m yp yo 1 fun vh=>af .add (aa j 0) (N .i64 1) fun yq=>vn [yq] vh) ( aX (fun vo l h=>af .lss (aa l 0) (N .i64 64) fun yr=>az yr ( af .sub (aa l 0) (N .i64 15) fun yt=>bN i yt 64 1 fun yu=>ag h yu fun vd=>af .sub (aa l 0) (N .i64 2) fun yv=>bN i yv 64 1 fun yw=>ag h yw fun ve=>af .sub (aa l 0) (N .i64 16) fun yx=>bN i yx 64 1 fun t=>ag h t fun u=>iX .shr vd (N .u64 3) fun y5=>af .sub (aa l 0) (N .i64 7) fun y8=>bN i y8 64 1 fun v=>ag h v fun w=>iX .shr ve (N .u64 10) fun zh=>p2 [vd,(N .i64 7)] h fun y2 X=>ag X t fun y1=>(y1=u∧ag X v fun zc=>(zc=w∧p2 [vd,(N .i64 18)] X fun y3 Z=>ag Z t fun y0=>(y0=u∧ag Z v fun zb=>(zb=w∧af .xor y2 y3 fun y4=>af .xor y4 y5 fun y6=>af .add u y6 fun y7=>af .add y7 w fun zd=>p2 [ve,(N .i64 17)] Z fun ze va=>ag va t fun yz=>(yz=u∧ag va v fun za=>(za=w∧p2 [ve,(N .i64 19)] va fun zf vb=>ag vb t fun yy=>(yy=u∧ag vb v fun y9=>(y9=w∧af .xor ze zf fun zg=>af .xor zg zh fun zi=>af .add zd zi fun zj=>bN i (aa l 0) 64 1 fun zk=>aS vb zk zj 1 fun vm=>af .add (aa l 0) (N .i64 1) fun ys=>vo [ys] vm))))))))) ( fF a0 fun vr=>dE h vr 8 fun vs=>aO (.row [(N .u32 0),(N .u32 0),(N .u32 0),(N .u32 0),(N .u32 0),(N .u32 0),(N .u32 0),(N .u32 0)] false p3 0) (fun vc=>.ptr vc 0) h fun c vi=>aS vi c vs 8 fun vj=>aX (fun vp W d=>af .lss (aa W 0) (N .i64 64) fun vt=>az vt ( bN c (N .i64 4) 8 1 fun vu=>ag d vu fun p=>bN c (N .i64 0) 8 1 fun vv=>ag d vv fun q=>bN c (N .i64 7) 8 1 fun y=>ag d y fun z=>bN c (N .i64 5) 8 1 fun A=>ag d A fun B=>af .and p B fun v8=>DR p fun v9=>bN c (N .i64 6) 8 1 fun C=>ag d C fun D=>af .and v9 D fun wd=>af .xor v8 wd fun we=>fF a2 fun wg=>bN wg (aa W 0) 64 1 fun E=>ag d E fun F=>bN i (aa W 0) 64 1 fun G=>ag d G fun H=>p2 [p,(N .i64 6)] d fun vz n=>ag n y fun vy=>(vy=z∧ag n A fun v7=>(v7=B∧ag n C fun wc=>(wc=D∧ag n E fun wj=>(wj=F∧ag n G fun wn=>(wn=H∧p2 [p,(N .i64 11)] n fun v0 o=>ag o y fun vx=>(vx=z∧ag o A fun v6=>(v6=B∧ag o C fun wb=>(wb=D∧ag o E fun wi=>(wi=F∧ag o G fun wm=>(wm=H∧af .xor vz v0 fun v1=>p2 [p,(N .i64 25)] o fun v2 e=>ag e y fun vw=>(vw=z∧ag e A fun v5=>(v5=B∧ag e C fun wa=>(wa=D∧ag e E fun wh=>(wh=F∧ag e G fun wl=>(wl=H∧af .xor v1 v2 fun v3=>af .add z v3 fun v4=>af .add v4 we fun wf=>af .add wf F fun wk=>af .add wk H fun vf=>bN c (N .i64 1) 8 1 fun I=>ag e I fun L=>af .and q L fun ww=>bN c (N .i64 2) 8 1 fun O=>ag e O fun P=>af .and q P fun w0=>af .xor ww w0 fun w1=>bN c (N .i64 1) 8 1 fun R=>ag e R fun S=>bN c (N .i64 2) 8 1 fun U=>ag e U fun V=>af .and S V fun w8=>af .xor w1 w8 fun w9=>p2 [q,(N .i64 2)] e fun wo r=>ag r I fun wv=>(wv=L∧ag r O fun wz=>(wz=P∧ag r R fun w4=>(w4=S∧ag r U fun w7=>(w7=V∧p2 [q,(N .i64 13)] r fun wp s=>ag s I fun wu=>(wu=L∧ag s O fun wy=>(wy=P∧ag s R fun w3=>(w3=S∧ag s U fun w6=>(w6=V∧af .xor wo wp fun wq=>p2 [q,(N .i64 22)] s fun wr g=>ag g I fun wt=>(wt=L∧ag g O fun wx=>(wx=P∧ag g R fun w2=>(w2=S∧ag g U fun w5=>(w5=V∧af .xor wq wr fun ws=>af .add ws w9 fun xa=>af .add vf xa fun xb=>bN c (N .i64 1) 8 1 fun xc=>ag g xc fun xd=>bN c (N .i64 2) 8 1 fun xe=>ag g xe fun xf=>bN c (N .i64 3) 8 1 fun xg=>ag g xg fun xh=>af .add xh vf fun xi=>bN c (N .i64 5) 8 1 fun xj=>ag g xj fun xk=>bN c (N .i64 6) 8 1 fun xl=>ag g xl fun xm=>jG [(N .u32 0),(N .u32 0),(N .u32 0),(N .u32 0),(N .u32 0),(N .u32 0),(N .u32 0),(N .u32 0)] [(0,1,xb),(1,1,q),(2,1,xd),(3,1,xf),(4,1,xi),(5,1,p),(6,1,xk),(7,1,xm)] fun xn=>aS g c xn 8 fun vk=>af .add (aa W 0) (N .i64 1) fun xo=>vp [xo] vk)))))))))))))))))))))))))))) ( dE d c 8 fun xp=>aX (fun vq x Y=>af .lss (aa x 0) (N .i64 8) fun xq=>az xq ( Jn xp (aa x 0) 8 fun xr=>fF a0 fun xs=>bN xs (aa x 0) 8 1 fun xt=>ag Y xt fun xu=>af .add xu xr fun xv=>fF a0 fun xw=>bN xw (aa x 0) 8 1 fun xx=>aS Y xx xv 1 fun vl=>af .add (aa x 0) (N .i64 1) fun xy=>vq [xy] vl) ( Q (.tup []) Y)) [(N .i64 0)] d)) [(N .i64 0)] vj)) [(N .i64 16)] m)) [(N .i64 0)] vg
def sW (p1:au) (p2:Nat) (p3:au) (M0:RM) (Q:ak) : Prop:=p1 [(N .i64 64)] M0 fun h l=>qm p2 4 [(N .u32 0)] (N .i64 0) (N .i64 0) fun A v=>aO A v l fun X m=>qm p2 4 [(N .u32 0)] (N .i64 0) (N .i64 0) fun B x=>aO B x m fun Y s=>aX (fun z c d=>af .lss (aa c 2) (N .i64 64) fun E=>az E ( ek (fun j=>ek (fun e=>af .lss (aa c 2) (N .i64 8) fun G=>az G ( aI h (aa c 2) 1 fun H=>ag d H fun I=>p3 [I,(Bo false)] d fun L t=>bn p2 1 [(N .u32 0)] [(0,1,L)] fun D y=>aO D y t fun O u=>appW p2 1 4 [(N .u32 0)] false (aa c 0) O u fun P n=>e [P] n) ( e [(aa c 0)] d)) (fun Z g=>aI h (aa c 2) 1 fun R=>ag g R fun S=>p3 [S,(Bo true)] g fun U o=>bn p2 1 [(N .u32 0)] [(0,1,U)] fun C w=>aO C w o fun V p=>appW p2 1 4 [(N .u32 0)] false (aa c 1) V p fun W q=>j [(aa Z 0),W] q)) (fun i r=>af .add (aa c 2) (N .i64 1) fun F=>z [(aa i 0),(aa i 1),F] r)) ( Q (.tup [(aa c 0),(aa c 1)]) d)) [X,Y,(N .i64 0)] s
def wI (p1:Nat) (p2:au) (p3:Nat) (a0 a1 a2:AV) (M0:RM) (Q:ak) : Prop:=aO (.row [(N .u32 0),(N .u32 0),(N .u32 0),(N .u32 0),(N .u32 0),(N .u32 0),(N .u32 0),(N .u32 0),(N .u32 0),(N .u32 0),(N .u32 0),(N .u32 0),(N .u32 0),(N .u32 0),(N .u32 0),(N .u32 0),(N .u32 0),(N .u32 0),(N .u32 0),(N .u32 0),(N .u32 0),(N .u32 0),(N .u32 0),(N .u32 0),(N .u32 0),(N .u32 0),(N .u32 0),(N .u32 0),(N .u32 0),(N .u32 0),(N .u32 0),(N .u32 0),(N .u32 0),(N .u32 0),(N .u32 0),(N .u32 0),(N .u32 0),(N .u32 0),(N .u32 0),(N .u32 0),(N .u32 0),(N .u32 0),(N .u32 0),(N .u32 0),(N .u32 0),(N .u32 0),(N .u32 0),(N .u32 0),(N .u32 0),(N .u32 0),(N .u32 0),(N .u32 0),(N .u32 0),(N .u32 0),(N .u32 0),(N .u32 0),(N .u32 0),(N .u32 0),(N .u32 0),(N .u32 0),(N .u32 0),(N .u32 0),(N .u32 0),(N .u32 0)] false p1 0) (fun vc=>.ptr vc 0) M0 fun j ve=>aX (fun vo d e=>af .lss (aa d 0) (N .i64 64) fun xl=>az xl ( ek (fun vb=>af .lss (aa d 0) (N .i64 16) fun xy=>az xy ( af .mul (N .i64 4) (aa d 0) fun xz=>aI a2 xz 1 fun x0=>ag e x0 fun x1=>eD .u32 x1 fun x2=>iX .shl x2 (N .u64 24) fun x3=>af .mul (N .i64 4) (aa d 0) fun x4=>af .add x4 (N .i64 1) fun x5=>aI a2 x5 1 fun x6=>ag e x6 fun x7=>eD .u32 x7 fun x8=>iX .shl x8 (N .u64 16) fun x9=>af .or x3 x9 fun ya=>af .mul (N .i64 4) (aa d 0) fun yb=>af .add yb (N .i64 2) fun yc=>aI a2 yc 1 fun yd=>ag e yd fun ye=>eD .u32 ye fun yf=>iX .shl yf (N .u64 8) fun yg=>af .or ya yg fun yh=>af .mul (N .i64 4) (aa d 0) fun yi=>af .add yi (N .i64 3) fun yj=>aI a2 yj 1 fun yk=>ag e yk fun yl=>eD .u32 yl fun ym=>af .or yh ym fun yn=>bN j (aa d 0) 64 1 fun yo=>aS e yo yn 1 fun vf=>vb [] vf) ( af .sub (aa d 0) (N .i64 15) fun yp=>bN j yp 64 1 fun yq=>ag e yq fun Z=>af .sub (aa d 0) (N .i64 2) fun yr=>bN j yr 64 1 fun ys=>ag e ys fun va=>af .sub (aa d 0) (N .i64 16) fun yt=>bN j yt 64 1 fun r=>ag e r fun s=>af .sub (aa d 0) (N .i64 7) fun yy=>bN j yy 64 1 fun t=>ag e t fun u=>af .add s u fun y3=>iX .shr Z (N .u64 3) fun y7=>iX .shr va (N .u64 10) fun zd=>p2 [Z,(N .u64 7)] e fun y4 V=>ag V r fun yw=>(yw=s∧ag V t fun y0=>(y0=u∧p2 [Z,(N .u64 18)] V fun y5 W=>ag W r fun yv=>(yv=s∧ag W t fun yz=>(yz=u∧af .xor y4 y5 fun y6=>af .xor y6 y7 fun y8=>af .add y3 y8 fun y9=>p2 [va,(N .u64 17)] W fun za X=>ag X r fun yu=>(yu=s∧ag X t fun y2=>(y2=u∧p2 [va,(N .u64 19)] X fun zb Y=>ag Y r fun yx=>(yx=s∧ag Y t fun y1=>(y1=u∧af .xor za zb fun zc=>af .xor zc zd fun ze=>af .add y9 ze fun zf=>bN j (aa d 0) 64 1 fun zg=>aS Y zg zf 1 fun vk=>vb [] vk)))))))))) (fun zj vg=>af .add (aa d 0) (N .i64 1) fun xx=>vo [xx] vg)) ( bn p3 0 [(N .u32 0)] [] fun vr vm=>aO vr vm e fun zh vh=>appW p3 1 4 [(N .u32 0)] false zh a0 vh fun zi vi=>aX (fun vp c i=>af .lss (aa c 1) (N .i64 64) fun vt=>az vt ( aI (aa c 0) (N .i64 4) 1 fun vv=>ag i vv fun n=>aI (aa c 0) (N .i64 0) 1 fun vw=>ag i vw fun o=>aI (aa c 0) (N .i64 7) 1 fun x=>ag i x fun y=>aI (aa c 0) (N .i64 5) 1 fun z=>ag i z fun A=>af .and n A fun v9=>DR n fun wa=>aI (aa c 0) (N .i64 6) 1 fun B=>ag i B fun C=>af .and wa C fun we=>af .xor v9 we fun wf=>aI a1 (aa c 1) 1 fun D=>ag i D fun E=>bN j (aa c 1) 64 1 fun F=>ag i F fun G=>p2 [n,(N .u64 6)] i fun v0 l=>ag l x fun vz=>(vz=y∧ag l z fun v8=>(v8=A∧ag l B fun wd=>(wd=C∧ag l D fun wj=>(wj=E∧ag l F fun wn=>(wn=G∧p2 [n,(N .u64 11)] l fun v1 m=>ag m x fun vy=>(vy=y∧ag m z fun v7=>(v7=A∧ag m B fun wc=>(wc=C∧ag m D fun wi=>(wi=E∧ag m F fun wm=>(wm=G∧af .xor v0 v1 fun v2=>p2 [n,(N .u64 25)] m fun v3 g=>ag g x fun vx=>(vx=y∧ag g z fun v6=>(v6=A∧ag g B fun wb=>(wb=C∧ag g D fun wh=>(wh=E∧ag g F fun wl=>(wl=G∧af .xor v2 v3 fun v4=>af .add y v4 fun v5=>af .add v5 wf fun wg=>af .add wg E fun wk=>af .add wk G fun vd=>aI (aa c 0) (N .i64 1) 1 fun H=>ag g H fun I=>af .and o I fun ww=>aI (aa c 0) (N .i64 2) 1 fun L=>ag g L fun O=>af .and o O fun w0=>af .xor ww w0 fun w1=>aI (aa c 0) (N .i64 1) 1 fun P=>ag g P fun R=>aI (aa c 0) (N .i64 2) 1 fun S=>ag g S fun U=>af .and R U fun w8=>af .xor w1 w8 fun w9=>p2 [o,(N .u64 2)] g fun wo p=>ag p H fun wv=>(wv=I∧ag p L fun wz=>(wz=O∧ag p P fun w4=>(w4=R∧ag p S fun w7=>(w7=U∧p2 [o,(N .u64 13)] p fun wp q=>ag q H fun wu=>(wu=I∧ag q L fun wy=>(wy=O∧ag q P fun w3=>(w3=R∧ag q S fun w6=>(w6=U∧af .xor wo wp fun wq=>p2 [o,(N .u64 22)] q fun wr h=>ag h H fun wt=>(wt=I∧ag h L fun wx=>(wx=O∧ag h P fun w2=>(w2=R∧ag h S fun w5=>(w5=U∧af .xor wq wr fun ws=>af .add ws w9 fun xa=>af .add vd xa fun xb=>aI (aa c 0) (N .i64 1) 1 fun xc=>ag h xc fun xd=>aI (aa c 0) (N .i64 2) 1 fun xe=>ag h xe fun xf=>aI (aa c 0) (N .i64 3) 1 fun xg=>ag h xg fun xh=>af .add xh vd fun xi=>aI (aa c 0) (N .i64 5) 1 fun xj=>ag h xj fun xk=>aI (aa c 0) (N .i64 6) 1 fun xm=>ag h xm fun xn=>bn p3 8 [(N .u32 0)] [(0,1,xb),(1,1,o),(2,1,xd),(3,1,xf),(4,1,xi),(5,1,n),(6,1,xk),(7,1,xn)] fun vs vn=>uS vs vn h fun xo vj vc=>af .add (aa c 1) (N .i64 1) fun vu=>vp [xo,vu] vj)))))))))))))))))))))))))))) ( aX (fun vq v w=>af .lss (aa v 0) (N .i64 8) fun xp=>az xp ( aI (aa c 0) (aa v 0) 1 fun xr=>ag w xr fun xs=>aI a0 (aa v 0) 1 fun xt=>ag w xt fun xu=>af .add xs xu fun xv=>aI (aa c 0) (aa v 0) 1 fun xw=>aS w xw xv 1 fun vl=>af .add (aa v 0) (N .i64 1) fun xq=>vq [xq] vl) ( Q (aa c 0) w)) [(N .i64 0)] i)) [zi,(N .i64 0)] vi)) [(N .i64 0)] ve
def sZ (a0 a1:AV) (M0:RM) (Q:ak) : Prop:=aX (fun P e i=>vO a0 fun vs=>af .lss (aa e 0) vs fun vt=>az vt ( nM a0 (aa e 0) fun S=>af .geq S (N .u8 48) fun g=>ax g true (fun c=>c a0 i) (fun c=>c .undef i) fun U j=>ax g true (fun y=>y (aa e 0) j) (fun c=>c .undef j) fun V p=>ax g true (fun H=>nM U V fun W=>H W p) (fun c=>c .undef p) fun X w=>ax g true (fun L=>af .leq X (N .u8 57) fun Y=>L Y w) (fun c=>c .undef w) fun Z x=>aV g Z (Bo false) fun d=>ax d false (fun O=>O a0 x) (fun c=>c .undef x) fun va l=>ax d false (fun z=>z (aa e 0) l) (fun c=>c .undef l) fun vb m=>ax d false (fun A=>nM va vb fun vc=>A vc m) (fun c=>c .undef m) fun vd n=>ax d false (fun B=>af .geq vd (N .u8 97) fun ve=>B ve n) (fun c=>c .undef n) fun vf o=>ax d false (fun C=>C vf o) (fun c=>c .undef o) fun h q=>ax h true (fun D=>D a0 q) (fun c=>c .undef q) fun vg r=>ax h true (fun E=>E (aa e 0) r) (fun c=>c .undef r) fun vh s=>ax h true (fun F=>nM vg vh fun vi=>F vi s) (fun c=>c .undef s) fun vj t=>ax h true (fun G=>af .leq vj (N .u8 102) fun vk=>G vk t) (fun c=>c .undef t) fun vl u=>ax d false (fun I=>aV h vl (Bo false) fun vm=>I vm u) (fun c=>c .undef u) fun vn v=>aV d (Bo true) vn fun vo=>ji vo fun vp=>az vp ( Q (Bo false) v) ( af .add (aa e 0) (N .i64 1) fun R=>P [R] v)) ( vO a0 fun vq=>af .eql vq a1 fun vr=>Q vr i)) [(N .i64 0)] M0
def zG (a0:AV) (M0:RM) (Q:ak) : Prop:=af .geq a0 (N .u8 48) fun g=>ax g true (fun c=>c a0 M0) (fun c=>c .undef M0) fun v h=>ax g true (fun l=>af .leq v (N .u8 57) fun w=>l w h) (fun c=>c .undef h) fun x d=>aV g x (Bo false) fun y=>az y ( af .sub a0 (N .u8 48) fun o=>Q o d) ( af .geq a0 (N .u8 97) fun e=>ax e true (fun m=>m a0 d) (fun c=>c .undef d) fun p i=>ax e true (fun n=>af .leq p (N .u8 102) fun q=>n q i) (fun c=>c .undef i) fun r j=>aV e r (Bo false) fun s=>az s ( af .sub a0 (N .u8 97) fun t=>af .add t (N .u8 10) fun u=>Q u j) ( Q (N .u8 255) j))
def BH (p1:au) (a0 a1:AV) (M0:RM) (Q:ak) : Prop:=QP a1 fun d=>p1 [a0,d] M0 fun e c=>Q e c
def tF (p1:Nat) (p2:au) (a0:AV) (M0:RM) (Q:ak) : Prop:=qm p1 8 [(N .i64 0)] (N .i64 0) (N .i64 0) fun p m=>aO p m M0 fun v h=>aX (fun o c e=>aU (aa c 0) fun w=>af .lss w a0 fun x=>az x ( ek (fun d=>p2 [(aa c 1)] e fun s g=>az s ( bn p1 1 [(N .i64 0)] [(0,1,(aa c 1))] fun q n=>aO q n g fun t i=>appW p1 1 8 [(N .i64 0)] false (aa c 0) t i fun u j=>d [u] j) ( d [(aa c 0)] g)) (fun y l=>af .add (aa c 1) (N .i64 1) fun r=>o [(aa y 0),r] l)) ( Q (aa c 0) e)) [v,(N .i64 2)] h
def zK (p1 p2:au) (p3:Nat) (p4:au) (a0 a1:AV) (M0:RM) (Q:ak) : Prop:=aX (fun C c n=>af .geq (aa c 1) (N .i64 0) fun D=>az D ( ek (fun l=>eD .u64 (aa c 1) fun F=>iX .shl (N .u64 1) F fun G=>af .or (aa c 0) G fun e=>p1 [e] n fun H r=>p1 [e] r fun I s=>p2 [H,I] s fun L x=>aO (.row [(N .u64 0),(N .u64 0),(N .u64 0),(N .u64 0),(N .u64 0),(N .u64 0),(N .u64 0),(N .u64 0)] false p3 0) (fun j=>.ptr j 0) x fun d y=>aS y d L 8 fun z=>aO (.row [(N .u64 0),(N .u64 0),(N .u64 0),(N .u64 0),(N .u64 0),(N .u64 0),(N .u64 0),(N .u64 0)] false p3 0) (fun j=>.ptr j 0) z fun g A=>eD .u64 a0 fun O=>bN g (N .i64 4) 8 1 fun P=>aS A P O 1 fun i=>ek (fun m=>az a1 ( dE i d 8 fun q=>p1 [e] i fun S p=>dE p d 8 fun R=>(R=q∧p2 [q,S] p fun U B=>aS B d U 8 fun t=>jG [(N .u64 0),(N .u64 0),(N .u64 0),(N .u64 0),(N .u64 0),(N .u64 0),(N .u64 0),(N .u64 0)] [] fun V=>aS t g V 8 fun u=>eD .u64 a0 fun W=>bN g (N .i64 6) 8 1 fun X=>aS u X W 1 fun v=>m [] v)) ( m [] i)) (fun ve h=>dE h d 8 fun Y=>dE h g 8 fun Z=>p4 [Y,Z] h fun va o=>ji va fun vb=>az vb ( l [e] o) ( l [(aa c 0)] o))) (fun vd w=>af .sub (aa c 1) (N .i64 1) fun E=>C [(aa vd 0),E] w)) ( eD .u32 (aa c 0) fun vc=>Q vc n)) [(N .u64 0),(N .i64 36)] M0
def yU (a0 a1:AV) (M0:RM) (Q:ak) : Prop:=iX .shr a0 a1 fun g=>af .sub (N .u64 32) a1 fun c=>iX .shl a0 c fun d=>af .or g d fun e=>Q e M0
def jC (a0 a1:AV) (M0:RM) (Q:ak) : Prop:=eD .u64 a1 fun i=>af .and i (N .u64 31) fun c=>iX .shl a0 c fun d=>af .sub (N .u64 32) c fun e=>iX .shr a0 e fun g=>af .or d g fun h=>Q h M0
def uQ (a0:AV) (M0:RM) (Q:ak) : Prop:=aX (fun e c d=>af .mul (aa c 0) (aa c 0) fun l=>af .leq l a0 fun m=>az m ( af .rem a0 (aa c 0) fun h=>af .eql h (N .i64 0) fun i=>az i ( Q (Bo false) d) ( af .add (aa c 0) (N .i64 1) fun g=>e [g] d)) ( af .gtr a0 (N .i64 1) fun j=>Q j d)) [(N .i64 2)] M0
def wL (p1:Nat) (a0 a1:AV) (M0:RM) (Q:ak) : Prop:=mO p1 a0 fun w s=>aO w s M0 fun E n=>mO p1 a1 fun x t=>aO x t n fun P o=>aO (.row [(N .u64 0),(N .u64 0),(N .u64 0),(N .u64 0),(N .u64 0),(N .u64 0),(N .u64 0),(N .u64 0)] false p1 0) (fun h=>.ptr h 0) o fun m p=>aO (.row [(N .u64 0),(N .u64 0),(N .u64 0),(N .u64 0),(N .u64 0),(N .u64 0),(N .u64 0),(N .u64 0)] false p1 0) (fun h=>.ptr h 0) p fun i q=>aX (fun u c g=>af .lss (aa c 0) (N .i64 8) fun z=>az z ( aX (fun v d e=>af .add (aa c 0) (aa d 1) fun B=>af .lss B (N .i64 8) fun C=>az C ( af .add (aa c 0) (aa d 1) fun F=>bN i F 8 1 fun G=>ag e G fun H=>af .add (aa d 0) H fun I=>bN E (aa c 0) 8 1 fun L=>ag e L fun O=>bN P (aa d 1) 8 1 fun R=>ag e R fun S=>af .mul O S fun U=>af .add I U fun l=>af .add (aa c 0) (aa d 1) fun V=>af .and l (N .u64 65535) fun W=>bN i V 8 1 fun X=>aS e X W 1 fun r=>iX .shr l (N .u64 16) fun Y=>af .add (aa d 1) (N .i64 1) fun D=>v [Y,D] r) ( af .add (aa c 0) (N .i64 1) fun A=>u [A] e)) [(N .u64 0),(N .i64 0)] g) ( dE g i 8 fun Z=>aS g m Z 8 fun j=>dE j m 8 fun y=>Q y j)) [(N .i64 0)] q
def EF (p1:Nat) (a0:AV) (M0:RM) (Q:ak) : Prop:=aO (.row [(N .u64 0),(N .u64 0),(N .u64 0),(N .u64 0),(N .u64 0),(N .u64 0),(N .u64 0),(N .u64 0)] false p1 0) (fun g=>.ptr g 0) M0 fun d e=>af .and a0 (N .u64 65535) fun j=>iX .shr a0 (N .u64 16) fun l=>af .and l (N .u64 65535) fun m=>iX .shr a0 (N .u64 32) fun n=>jG [(N .u64 0),(N .u64 0),(N .u64 0),(N .u64 0),(N .u64 0),(N .u64 0),(N .u64 0),(N .u64 0)] [(0,1,j),(1,1,m),(2,1,n)] fun i=>aS e d i 8 fun c=>dE c d 8 fun h=>Q h c
def vC (p1:Nat) (a0 a1:AV) (M0:RM) (Q:ak) : Prop:=mO p1 a0 fun n j=>aO n j M0 fun e h=>mO p1 a1 fun o l=>aO o l h fun g i=>aX (fun m d c=>af .geq (aa d 0) (N .i64 0) fun z=>az z ( bN e (aa d 0) 8 1 fun p=>ag c p fun q=>bN g (aa d 0) 8 1 fun r=>ag c r fun s=>af .neq q s fun t=>az t ( bN e (aa d 0) 8 1 fun u=>ag c u fun v=>bN g (aa d 0) 8 1 fun w=>ag c w fun x=>af .gtr v x fun y=>Q y c) ( af .sub (aa d 0) (N .i64 1) fun A=>m [A] c)) ( Q (Bo false) c)) [(N .i64 7)] i
set_option maxRecDepth 10000
def bI:Enc Int:=⟨1,fun n=>[N .u32 n],fun _=>rfl,fun _=>rfl⟩
theorem lS (xs:List Int) : bI.row xs=xs.map (N .u32):=by
 induction xs with
 | nil=>rfl
 | cons x xs ih=>rw[Enc.iw,ih]; rfl
theorem jB (xs:List Int) : (bI.row xs).length=xs.length:=by rw[lS,List.length_map]
def ed (a b:Int) : Int:=IntKind.u32.wrap (a + b)
def oD (x n:Int) : Int:=Ae .u32 (jK .u32 x n) (BM .u32 x (32 - n))
def ND (a b c:Int) : Int:=Ei .u32 (Ei .u32 a b) c
def YY (x:Int) : Int:=ND (oD x 7) (oD x 18) (jK .u32 x 3)
def Y9 (x:Int) : Int:=ND (oD x 17) (oD x 19) (jK .u32 x 10)
def acv (x:Int) : Int:=Ei .u32 4294967295 x
def chU (e f g:Int) : Int:=Ei .u32 (nI .u32 e f) (nI .u32 (acv e) g)
def adV (a b c:Int) : Int:=Ei .u32 (Ei .u32 (nI .u32 a b) (nI .u32 a c)) (nI .u32 b c)
theorem abW (n:Int) : IntKind.u32.wrap n=n % 4294967296:=by
 simp only[IntKind.wrap,IntKind.bits,IntKind.signed,IntKind.max,IntKind.min]
 simp
theorem UM (a b:Int) : ed a b=ed b a:=by unfold ed; rw[Int.add_comm]
theorem U1 (a b c:Int) : ed (ed a b) c=ed (ed a c) b:=by unfold ed; simp only[abW]; omega
def W9 (b:Str) (i:Nat) : Int:=Ae .u32 (Ae .u32 (Ae .u32 (BM .u32 (IntKind.u32.wrap ((b.getD (4 * i) 0).toNat:Int)) 24) (BM .u32 (IntKind.u32.wrap ((b.getD (4 * i + 1) 0).toNat:Int)) 16)) (BM .u32 (IntKind.u32.wrap ((b.getD (4 * i + 2) 0).toNat:Int)) 8)) (IntKind.u32.wrap ((b.getD (4 * i + 3) 0).toNat:Int))
def IK (l:List Int) (i:Nat) : Int:=ed (ed (ed (l.getD (i - 16) 0) (YY (l.getD (i - 15) 0))) (l.getD (i - 7) 0)) (Y9 (l.getD (i - 2) 0))
def sched (b:Str) : Nat→List Int
 | 0=>[]
 | i + 1=>sched b i++[if i<16 then W9 b i else IK (sched b i) i]
theorem jN (b:Str) : ∀ i,(sched b i).length=i
 | 0=>rfl
 | i + 1=>by rw[sched,List.length_append,jN b i]; rfl
def PV (v:List Int) (k w:Int) : List Int:=match v with
 | [a,b,c,d,e,f,g,h] =>
   [ed (ed (ed (ed (ed h (ND (oD e 6) (oD e 11) (oD e 25))) (chU e f g)) k) w) (ed (ND (oD a 2) (oD a 13) (oD a 22)) (adV a b c)),a,b,c,
    ed d (ed (ed (ed (ed h (ND (oD e 6) (oD e 11) (oD e 25))) (chU e f g)) k) w),e,f,g]
 | _=>v
def qy (k w:List Int) (h:List Int) : Nat→List Int
 | 0=>h
 | i + 1=>PV (qy k w h i) (k.getD i 0) (w.getD i 0)
theorem eight {l:List Int} (h:l.length=8) : ∃ a b c d e f g i,l=[a,b,c,d,e,f,g,i]:=by
 rcases l with _ | ⟨a,_ | ⟨b,_ | ⟨c,_ | ⟨d,_ | ⟨e,_ | ⟨f,_ | ⟨g,_ | ⟨i,_ | ⟨j,l⟩⟩⟩⟩⟩⟩⟩⟩⟩ <;> first | (simp at h; done) | exact⟨_,_,_,_,_,_,_,_,rfl⟩ | (simp at h; omega)
theorem QG {v:List Int} (h:v.length=8) (k w:Int) : (PV v k w).length=8:=by
 obtain⟨a,b,c,d,e,f,g,i,rfl⟩:=eight h
 rfl
theorem AZ (k w:List Int) {h:List Int} (hl:h.length=8) : ∀ i,(qy k w h i).length=8
 | 0=>hl
 | i + 1=>QG (AZ k w hl i) _ _
def mM (h k:List Int) (b:Str) : List Int:=List.zipWith ed h (qy k (sched b 64) h 64)
theorem RP {h:List Int} (k:List Int) (b:Str) (hl:h.length=8) : (mM h k b).length=8:=by
 unfold mM; rw[List.length_zipWith,AZ k _ hl,hl]; rfl
section
variable {M:RM} {b T:Nat} {ws:List Int}
theorem oM (h:M.heap b=some (.row (bI.row ws) false T 0)) {i:Nat} (hi:i<ws.length) {K:AV→Prop} : ag M (.ptr b i) K=K (N .u32 (ws.getD i 0)):=by
 refine aF h ?_
 rw[lS,List.getElem?_map,List.getElem?_eq_getElem hi]
 simp[List.getD,hi]
theorem sJ (h:M.heap b=some (.row (bI.row ws) false T 0)) {i:Nat} (hi:i<ws.length) (x:Int) {K:RM→Prop} : aS M (.ptr b i) (N .u32 x) 1 K=K (M.put b (.row (bI.row (ws.set i x)) false T 0)):=by
 refine gT _ h (by rw[jB]; exact hi) rfl rfl ?_
 rw[lS,lS,List.map_set]
theorem cO {k:IntKind} {j:Int} {i len:Nat} (hj:j=(i:Int)) (hi:i<len) {K:AV→Prop} : bN (.ptr b 0) (N k j) len 1 K=K (.ptr b i):=by
 subst hj
 rw[WR]
 simp only[Int.toNat_natCast,Nat.mul_one,Nat.zero_add]
 exact propext ⟨fun h=>h.2.2,fun h=>⟨by omega,by omega,h⟩⟩
end
theorem set_mid {l:List Int} {n:Nat} {x z:Int} (hn:0<n) : (l++List.replicate n z).set l.length x=(l++[x])++List.replicate (n - 1) z:=by
 obtain⟨m,rfl⟩ : ∃ m,n=m + 1:=⟨n - 1,by omega⟩
 rw[List.replicate_succ,List.set_append_right _ _ (Nat.le_refl _),Nat.sub_self]
 simp
theorem Lx {l r:List Int} {i:Nat} (h:i<l.length) : (l++r).getD i 0=l.getD i 0:=by simp[List.getD,List.getElem?_append_left h]
theorem Dl (b:Str) {i:Nat} (hi:i<64) : (sched b i++List.replicate (64 - i) 0).set i (if i<16 then W9 b i else IK (sched b i) i)=sched b (i + 1)++List.replicate (64 - (i + 1)) 0:=by
 have:=set_mid (l:=sched b i) (n:=64 - i) (x:=if i<16 then W9 b i else IK (sched b i) i) (z:=0) (by omega)
 rw[jN] at this
 rw[this,sched]
 congr 2
def turns:List Int:=[2,6,7,11,13,17,18,19,22,25]
def EU (kd:IntKind) (c:au) : Prop:=∀ {M:RM} {x n:Int} {Q:ak},n∈turns→Q (N .u32 (oD x n)) M→c [N .u32 x,N kd n] M Q
def WV (c:au) : Prop:=∀ {M:RM} {x n:Int} {Q:ak},n∈turns→Q (N .u32 (oD x n)) M→c [N .u32 x,N .i64 (IntKind.i64.wrap (0 - n))] M Q
theorem TV:∀ n∈turns,nI .u64 (IntKind.u64.wrap (IntKind.i64.wrap (0 - n))) 31=32 - n:=by decide +kernel
theorem LJ:∀ n∈turns,IntKind.u64.wrap (32 - (32 - n))=n∧IntKind.u64.wrap (32 - n)=32 - n∧0≤n∧0≤32 - n:=by decide +kernel
theorem VB (k:IntKind) (a b:Int) : Ae k a b=Ae k b a:=by unfold Ae; rw[BitVec.or_comm]
theorem WM:WV fun args M Q=>∃ a0 a1,args=[a0,a1]∧jC a0 a1 M Q:=by
 intro M x n Q hn hQ
 refine⟨_,_,rfl, ?_⟩
 unfold jC
 obtain⟨h1,h2,h3,h4⟩:=LJ n hn
 rw[cZ,dB,TV n hn,jM]
 refine⟨h4, ?_⟩
 rw[gM,h1,iD]
 refine⟨h3, ?_⟩
 rw[dV,VB]
 exact hQ
theorem Tu {c:au} (hc:WV c) : EU .i64 fun args M Q=>∃ a0 a1,args=[a0,a1]∧BH c a0 a1 M Q:=by
 intro M x n Q hn hQ
 refine⟨_,_,rfl, ?_⟩
 unfold BH
 rw[Zv]
 exact hc hn hQ
theorem NF:EU .u64 fun args M Q=>∃ a0 a1,args=[a0,a1]∧yU a0 a1 M Q:=by
 intro M x n Q hn hQ
 refine⟨_,_,rfl, ?_⟩
 unfold yU
 obtain⟨h1,h2,h3,h4⟩:=LJ n hn
 rw[iD]
 refine⟨h3, ?_⟩
 rw[gM,h2,jM]
 refine⟨h4, ?_⟩
 rw[dV]
 exact hQ
end Go.Ab.Sha
namespace Go.Ab.Sha
open Go Go.Ab Go.Ab.Sm
theorem En {i:Nat} (hi:i<1000) {K:AV→Prop} : af .mul (N .i64 4) (N .i64 (i:Int)) K=K (N .i64 ((4 * i:Nat) : Int)):=by
 rw[fK,aP (by omega) (by omega)]; rfl
theorem fQ {i:Nat} (j:Nat) (hi:i<1000000000) (hj:j<1000) {K:AV→Prop} {n:Int} (hn:n=(j:Int)) : af .add (N .i64 (i:Int)) (N .i64 n) K=K (N .i64 ((i + j:Nat) : Int)):=by
 subst hn; exact addN (by omega)
theorem yM {i:Nat} (j:Nat) (hi:i<1000000000) (hj:j≤i) {K:AV→Prop} {n:Int} (hn:n=(j:Int)) : af .sub (N .i64 (i:Int)) (N .i64 n) K=K (N .i64 ((i - j:Nat) : Int)):=by
 subst hn; exact JN hj (by omega)
theorem mi {i:Nat} (j:Nat) {K:AV→Prop} {n:Int} (hn:n=(j:Int)) : af .lss (N .i64 (i:Int)) (N .i64 n) K=K (Bo (decide (i<j))):=by
 subst hn; exact fE
theorem Bs.yB {M:RM} {v:AV} {b:Str} (h:Bs M v b) {i:Nat} (hi:i<b.length) {K:AV→Prop} : (aI v (N .i64 (i:Int)) 1 fun t=>ag M t K)=K (By (b.getD i 0)):=by
 rw[h.read hi]; simp[List.getD,hi]
theorem Nz {h v:List Int} {j:Nat} (hj:j<8) (hh:h.length=8) (hv:v.length=8) :
  ((List.zipWith ed h v).take j++h.drop j).set j (ed (h.getD j 0) (v.getD j 0))=(List.zipWith ed h v).take (j + 1)++h.drop (j + 1):=by
 have hz:(List.zipWith ed h v).length=8:=by rw[List.length_zipWith,hh,hv]; rfl
 have h1:((List.zipWith ed h v).take j).length=j:=by rw[List.length_take]; omega
 have h2:h.drop j=h[j] :: h.drop (j + 1):=List.drop_eq_getElem_cons (by omega)
 rw[h2,List.set_append_right _ _ (by omega),h1,Nat.sub_self,List.set_cons_zero,List.take_succ_eq_append_getElem (by omega),List.append_assoc]
 congr 1
 rw[List.getElem_zipWith]
 simp[List.getD,show j<h.length by omega,show j<v.length by omega]
theorem P6 {h v:List Int} {j:Nat} (hj:j<8) (hh:h.length=8) (hv:v.length=8) : ((List.zipWith ed h v).take j++h.drop j).getD j 0=h.getD j 0:=by
 have hz:(List.zipWith ed h v).length=8:=by rw[List.length_zipWith,hh,hv]; rfl
 have h1:((List.zipWith ed h v).take j).length=j:=by rw[List.length_take]; omega
 simp[List.getD,List.getElem?_append_right (show((List.zipWith ed h v).take j).length≤j by omega),h1]
theorem PY {h v:List Int} {j:Nat} (hj:j≤8) (hh:h.length=8) (hv:v.length=8) : ((List.zipWith ed h v).take j++h.drop j).length=8:=by
 rw[List.length_append,List.length_take,List.length_drop,List.length_zipWith,hh,hv]; omega
theorem jL {cs:List AV} {rest:List (Nat × Nat × AV)} {off:Nat} {k:IntKind} {n:Int} (h:off<cs.length) : lm cs ((off,1,N k n) :: rest)=lm (cs.set off (N k n)) rest:=by
 rw[lm,if_pos ⟨rfl,rfl,by omega⟩,List.set_eq_take_append_cons_drop,if_pos h,List.append_assoc]
 rfl
theorem abM {a b c d e f g h:Int} : lm [N .u32 0,N .u32 0,N .u32 0,N .u32 0,N .u32 0,N .u32 0,N .u32 0,N .u32 0] [(0,1,N .u32 a),(1,1,N .u32 b),(2,1,N .u32 c),(3,1,N .u32 d),(4,1,N .u32 e),(5,1,N .u32 f),(6,1,N .u32 g),(7,1,N .u32 h)]=some (bI.row [a,b,c,d,e,f,g,h]):=by
 rw[jL (by decide)]
 simp only[List.set]
 rw[jL (by simp)]
 simp only[List.set]
 rw[jL (by simp)]
 simp only[List.set]
 rw[jL (by simp)]
 simp only[List.set]
 rw[jL (by simp)]
 simp only[List.set]
 rw[jL (by simp)]
 simp only[List.set]
 rw[jL (by simp)]
 simp only[List.set]
 rw[jL (by simp)]
 simp only[List.set]
 rfl
def SY (TK TS:Nat) (c:au) : Prop:=∀ {M:RM} {sb kb:Nat} {bv:AV} {h k:List Int} {b:Str} {Q:ak},M.heap sb=some (.row (bI.row h) false TS 0)→sb<M.next→h.length=8 →
 M.heap kb=some (.row (bI.row k) false TK 0)→kb<M.next→kb≠sb→k.length=64→Bs M bv b→b.length=64 →
 (∀ M',ae [sb] M M'→M'.heap sb=some (.row (bI.row (mM h k b)) false TS 0)→Q (.tup []) M')→c [.ptr sb 0,bv,.ptr kb 0] M Q
theorem TQ {TK TS:Nat} {ct:au} (ht:EU .i64 ct) : SY TK TS fun args M Q=>∃ a0 a1 a2,args=[a0,a1,a2]∧oL TK ct TS a0 a1 a2 M Q:=by
 intro M sb kb bv h k b Q hs hsl hhl hk hkl hks hkn hb hbl hQ
 refine⟨_,_,_,rfl, ?_⟩
 unfold oL
 rw[aL]
 have k0:ae [] M (M.push (.row (bI.row (List.replicate 64 0)) false TK 0)):=(ae.refl _ _).push _
 have n0:(M.push (.row (bI.row (List.replicate 64 0)) false TK 0)).heap M.next=some (.row (bI.row (sched b 0++List.replicate (64 - 0) 0)) false TK 0):=by simp[RM.push,sched]
 have l0:M.next<(M.push (.row (bI.row (List.replicate 64 0)) false TK 0)).next:=by simp[RM.push]
 show aX _ _ (M.push (.row (bI.row (List.replicate 64 0)) false TK 0))
 generalize M.push (.row (bI.row (List.replicate 64 0)) false TK 0)=M0 at *
 refine aG (fun m ys M3=>∃ i:Nat,m=16 - i∧ys=[N .i64 (i:Int)]∧i≤16∧ae [] M M3∧M.next<M3.next∧M3.heap M.next=some (.row (bI.row (sched b i++List.replicate (64 - i) 0)) false TK 0)) _
  ⟨0,rfl,rfl,by omega,k0,l0,n0⟩ ?_
 rintro next m ys M3 hnext ⟨i,rfl,rfl,hi,k3,l3,n3⟩
 simp only[aC]
 rw[mi 16 (by rfl)]
 have hb3:=hb.keep k3 (by simp)
 refine aJ (fun hc=>?_) fun hc=>?_
 ·have GY:i<16:=of_decide_eq_true hc
  rw[En (by omega),hb3.yB (by omega),By,cZ,jM]
  refine⟨by decide, ?_⟩
  rw[En (by omega),fQ 1 (by omega) (by omega) (by rfl),hb3.yB (by omega),By,cZ,jM]
  refine⟨by decide, ?_⟩
  rw[dV,En (by omega),fQ 2 (by omega) (by omega) (by rfl),hb3.yB (by omega),By,cZ,jM]
  refine⟨by decide, ?_⟩
  rw[dV,En (by omega),fQ 3 (by omega) (by omega) (by rfl),hb3.yB (by omega),By,cZ,dV,cO rfl (by omega)]
  have e:=Dl b (i:=i) (by omega)
  rw[if_pos GY] at e
  have hlen:(sched b i++List.replicate (64 - i) 0).length=64:=by rw[List.length_append,jN,List.length_replicate]; omega
  rw[sJ n3 (by omega),fQ 1 (by omega) (by omega) (by rfl)]
  refine hnext _ _ _ (by omega) ⟨i + 1,rfl,rfl,by omega,k3.new _ (Nat.le_refl _),l3, ?_⟩
  rw[aM,← e]
  rfl
 have GY:i=16:=by have:=of_decide_eq_false hc; omega
 subst GY
 clear hnext
 refine aG (fun m ys M4=>∃ i:Nat,m=64 - i∧ys=[N .i64 (i:Int)]∧16≤i∧i≤64∧ae [] M M4∧M.next<M4.next∧M4.heap M.next=some (.row (bI.row (sched b i++List.replicate (64 - i) 0)) false TK 0)) _
  ⟨16,rfl,rfl,by omega,by omega,k3,l3,n3⟩ ?_
 rintro next m ys M4 hnext ⟨i,rfl,rfl,hi0,hi,k4,l4,n4⟩
 simp only[aC]
 rw[mi 64 (by rfl)]
 refine aJ (fun hc=>?_) fun hc=>?_
 ·have lc:i<64:=of_decide_eq_true hc
  have hlen:(sched b i++List.replicate (64 - i) 0).length=64:=by rw[List.length_append,jN,List.length_replicate]; omega
  have ld:∀ (j:Nat),j<i→∀ {K:AV→Prop},ag M4 (.ptr M.next j) K=K (N .u32 ((sched b i).getD j 0)):=fun j hj K=>by
   rw[oM n4 (by omega),Lx (by rw[jN]; exact hj)]
  have L15:∀ {K:AV→Prop},ag M4 (.ptr M.next (i - 15)) K=K (N .u32 ((sched b i).getD (i - 15) 0)):=ld _ (by omega)
  have L2:∀ {K:AV→Prop},ag M4 (.ptr M.next (i - 2)) K=K (N .u32 ((sched b i).getD (i - 2) 0)):=ld _ (by omega)
  have L16:∀ {K:AV→Prop},ag M4 (.ptr M.next (i - 16)) K=K (N .u32 ((sched b i).getD (i - 16) 0)):=ld _ (by omega)
  have L7:∀ {K:AV→Prop},ag M4 (.ptr M.next (i - 7)) K=K (N .u32 ((sched b i).getD (i - 7) 0)):=ld _ (by omega)
  rw[yM 15 (by omega) (by omega) (by rfl),cO rfl (by omega),L15,yM 2 (by omega) (by omega) (by rfl),cO rfl (by omega),L2,yM 16 (by omega) (by omega) (by rfl),cO rfl (by omega),L16,iD]
  refine⟨by decide, ?_⟩
  rw[yM 7 (by omega) (by omega) (by rfl),cO rfl (by omega),L7,iD]
  refine⟨by decide, ?_⟩
  refine ht (by decide) ?_
  rw[L16]; refine⟨rfl, ?_⟩
  rw[L7]; refine⟨rfl, ?_⟩
  refine ht (by decide) ?_
  rw[L16]; refine⟨rfl, ?_⟩
  rw[L7]; refine⟨rfl, ?_⟩
  rw[dS,dS,bz,bz]
  refine ht (by decide) ?_
  rw[L16]; refine⟨rfl, ?_⟩
  rw[L7]; refine⟨rfl, ?_⟩
  refine ht (by decide) ?_
  rw[L16]; refine⟨rfl, ?_⟩
  rw[L7]; refine⟨rfl, ?_⟩
  rw[dS,dS,bz,cO rfl (by omega)]
  have e:=Dl b (i:=i) (by omega)
  rw[if_neg (by omega)] at e
  rw[sJ n4 (by omega),fQ 1 (by omega) (by omega) (by rfl)]
  refine hnext _ _ _ (by omega) ⟨i + 1,rfl,rfl,by omega,by omega,k4.new _ (Nat.le_refl _),l4, ?_⟩
  rw[aM,← e]
  rfl
 have lc:i=64:=by have:=of_decide_eq_false hc; omega
 subst lc
 clear hnext
 rw[Nat.sub_self,List.replicate_zero,List.append_nil] at n4
 have hwl:=jN b 64
 generalize hwe:sched b 64=w at *
 have hs4:=k4.aB hs hsl (by simp)
 have hk4:=k4.aB hk hkl (by simp)
 rw[bP,eH hs4 (by rw[jB,hhl]),aL]
 have n5:(M4.push (.row [N .u32 0,N .u32 0,N .u32 0,N .u32 0,N .u32 0,N .u32 0,N .u32 0,N .u32 0] false TS 0)).heap M4.next=some (.row [N .u32 0,N .u32 0,N .u32 0,N .u32 0,N .u32 0,N .u32 0,N .u32 0,N .u32 0] false TS 0):=by simp[RM.push]
 rw[lK n5 (by rw[jB,hhl]) (by rfl) (bI.dF h)]
 have k5:ae [] M4 ((M4.push (.row [N .u32 0,N .u32 0,N .u32 0,N .u32 0,N .u32 0,N .u32 0,N .u32 0,N .u32 0] false TS 0)).put M4.next (.row (bI.row h) false TS 0)):=((ae.refl _ _).push _).new _ (Nat.le_refl _)
 have n5' : ((M4.push (.row [N .u32 0,N .u32 0,N .u32 0,N .u32 0,N .u32 0,N .u32 0,N .u32 0,N .u32 0] false TS 0)).put M4.next (.row (bI.row h) false TS 0)).heap M4.next=some (.row (bI.row (qy k w h 0)) false TS 0):=aM _
 have l5:M4.next<((M4.push (.row [N .u32 0,N .u32 0,N .u32 0,N .u32 0,N .u32 0,N .u32 0,N .u32 0,N .u32 0] false TS 0)).put M4.next (.row (bI.row h) false TS 0)).next:=by simp[RM.push,RM.put]
 generalize (M4.push (.row [N .u32 0,N .u32 0,N .u32 0,N .u32 0,N .u32 0,N .u32 0,N .u32 0,N .u32 0] false TS 0)).put M4.next (.row (bI.row h) false TS 0)=M5 at *
 refine aG (fun m ys M6=>∃ i:Nat,m=64 - i∧ys=[N .i64 (i:Int)]∧i≤64∧ae [] M4 M6∧M4.next<M6.next∧M6.heap M4.next=some (.row (bI.row (qy k w h i)) false TS 0)) _
  ⟨0,rfl,rfl,by omega,k5,l5,n5'⟩ ?_
 rintro next m ys M6 hnext ⟨i,rfl,rfl,hi,k6,l6,n6⟩
 simp only[aC]
 rw[mi 64 (by rfl)]
 have hs6:=k6.aB hs4 (Nat.lt_of_lt_of_le hsl k4.next) (by simp)
 have hk6:=k6.aB hk4 (Nat.lt_of_lt_of_le hkl k4.next) (by simp)
 have n46:=k6.aB n4 l4 (by simp)
 have hrl:=AZ k w hhl i
 refine aJ (fun hc=>?_) fun hc=>?_
 ·have lc:i<64:=of_decide_eq_true hc
  have hstep:qy k w h (i + 1)=PV (qy k w h i) (k.getD i 0) (w.getD i 0):=rfl
  obtain⟨va,vb,vc,vd,ve,vf,vg,vh,hv⟩:=eight hrl
  rw[hv] at n6 hstep
  have hrow:bI.row [va,vb,vc,vd,ve,vf,vg,vh]=[N .u32 va,N .u32 vb,N .u32 vc,N .u32 vd,N .u32 ve,N .u32 vf,N .u32 vg,N .u32 vh]:=rfl
  rw[hrow] at n6
  have I:∀ (j:Nat),j<8→∀ {K:AV→Prop},bN (.ptr M4.next 0) (N .i64 (j:Int)) 8 1 K=K (.ptr M4.next j):=fun j hj K=>cO rfl hj
  have I0:∀ {K:AV→Prop},bN (.ptr M4.next 0) (N .i64 0) 8 1 K=K (.ptr M4.next 0):=I 0 (by omega)
  have I1:∀ {K:AV→Prop},bN (.ptr M4.next 0) (N .i64 1) 8 1 K=K (.ptr M4.next 1):=I 1 (by omega)
  have I2:∀ {K:AV→Prop},bN (.ptr M4.next 0) (N .i64 2) 8 1 K=K (.ptr M4.next 2):=I 2 (by omega)
  have I3:∀ {K:AV→Prop},bN (.ptr M4.next 0) (N .i64 3) 8 1 K=K (.ptr M4.next 3):=I 3 (by omega)
  have I4:∀ {K:AV→Prop},bN (.ptr M4.next 0) (N .i64 4) 8 1 K=K (.ptr M4.next 4):=I 4 (by omega)
  have I5:∀ {K:AV→Prop},bN (.ptr M4.next 0) (N .i64 5) 8 1 K=K (.ptr M4.next 5):=I 5 (by omega)
  have I6:∀ {K:AV→Prop},bN (.ptr M4.next 0) (N .i64 6) 8 1 K=K (.ptr M4.next 6):=I 6 (by omega)
  have I7:∀ {K:AV→Prop},bN (.ptr M4.next 0) (N .i64 7) 8 1 K=K (.ptr M4.next 7):=I 7 (by omega)
  have L0:∀ {K:AV→Prop},ag M6 (.ptr M4.next 0) K=K (N .u32 va):=aF n6 rfl
  have L1:∀ {K:AV→Prop},ag M6 (.ptr M4.next 1) K=K (N .u32 vb):=aF n6 rfl
  have L2:∀ {K:AV→Prop},ag M6 (.ptr M4.next 2) K=K (N .u32 vc):=aF n6 rfl
  have L3:∀ {K:AV→Prop},ag M6 (.ptr M4.next 3) K=K (N .u32 vd):=aF n6 rfl
  have L4:∀ {K:AV→Prop},ag M6 (.ptr M4.next 4) K=K (N .u32 ve):=aF n6 rfl
  have L5:∀ {K:AV→Prop},ag M6 (.ptr M4.next 5) K=K (N .u32 vf):=aF n6 rfl
  have L6:∀ {K:AV→Prop},ag M6 (.ptr M4.next 6) K=K (N .u32 vg):=aF n6 rfl
  have L7:∀ {K:AV→Prop},ag M6 (.ptr M4.next 7) K=K (N .u32 vh):=aF n6 rfl
  have Ik:∀ {K:AV→Prop},bN (.ptr kb 0) (N .i64 (i:Int)) 64 1 K=K (.ptr kb i):=cO rfl lc
  have Iw:∀ {K:AV→Prop},bN (.ptr M.next 0) (N .i64 (i:Int)) 64 1 K=K (.ptr M.next i):=cO rfl lc
  have Lk:∀ {K:AV→Prop},ag M6 (.ptr kb i) K=K (N .u32 (k.getD i 0)):=oM hk6 (by omega)
  have Lw:∀ {K:AV→Prop},ag M6 (.ptr M.next i) K=K (N .u32 (w.getD i 0)):=oM n46 (by omega)
  simp only[I0,I1,I2,I3,I4,I5,I6,I7,L0,L1,L2,L3,L4,L5,L6,L7,bP,Ik,Iw,Lk,Lw,dB,dV,dS,bz,il,true_and]
  refine ht (by decide) ?_
  simp only[I0,I1,I2,I3,I4,I5,I6,I7,L0,L1,L2,L3,L4,L5,L6,L7,bP,Ik,Iw,Lk,Lw,dB,dV,dS,bz,il,true_and]
  refine ht (by decide) ?_
  simp only[I0,I1,I2,I3,I4,I5,I6,I7,L0,L1,L2,L3,L4,L5,L6,L7,bP,Ik,Iw,Lk,Lw,dB,dV,dS,bz,il,true_and]
  refine ht (by decide) ?_
  simp only[I0,I1,I2,I3,I4,I5,I6,I7,L0,L1,L2,L3,L4,L5,L6,L7,bP,Ik,Iw,Lk,Lw,dB,dV,dS,bz,il,true_and]
  refine ht (by decide) ?_
  simp only[I0,I1,I2,I3,I4,I5,I6,I7,L0,L1,L2,L3,L4,L5,L6,L7,bP,Ik,Iw,Lk,Lw,dB,dV,dS,bz,il,true_and]
  refine ht (by decide) ?_
  simp only[I0,I1,I2,I3,I4,I5,I6,I7,L0,L1,L2,L3,L4,L5,L6,L7,bP,Ik,Iw,Lk,Lw,dB,dV,dS,bz,il,true_and]
  refine ht (by decide) ?_
  simp only[I0,I1,I2,I3,I4,I5,I6,I7,L0,L1,L2,L3,L4,L5,L6,L7,bP,Ik,Iw,Lk,Lw,dB,dV,dS,bz,il,true_and]
  rw[jr]
  refine⟨_,abM, ?_⟩
  rw[lK n6 (by rw[jB]; rfl) (by rfl) (bI.dF _),show(IntKind.i64.wrap ((i:Int) + 1))=((i + 1:Nat) : Int) from mK (by omega)]
  refine hnext _ _ _ (by omega) ⟨i + 1,rfl,rfl,by omega,k6.new _ (Nat.le_refl _),l6, ?_⟩
  rw[aM,hstep]
  rfl
 have lc:i=64:=by have:=of_decide_eq_false hc; omega
 subst lc
 clear hnext
 have hbf:mM h k b=List.zipWith ed h (qy k w h 64):=by
  unfold mM
  rw[hwe]
 rw[hbf] at hQ
 generalize qy k w h 64=v at *
 rw[eH n6 (by rw[jB,hrl])]
 have k46:=k4.trans k6
 refine aG (fun m ys M7=>∃ j:Nat,m=8 - j∧ys=[N .i64 (j:Int)]∧j≤8∧ae [sb] M M7∧M7.heap sb=some (.row (bI.row ((List.zipWith ed h v).take j++h.drop j)) false TS 0)) _
  ⟨0,rfl,rfl,by omega,k46.mono (by simp),by rw[List.take_zero,List.drop_zero]; exact hs6⟩ ?_
 rintro next m ys M7 hnext ⟨j,rfl,rfl,hj,k7,s7⟩
 simp only[aC]
 rw[mi 8 (by rfl)]
 refine aJ (fun hc=>?_) fun hc=>?_
 ·have hj8:j<8:=of_decide_eq_true hc
  rw[LG]
  refine⟨by omega,by omega,N .u32 (v.getD j 0), ?_, ?_⟩
  ·rw[Int.toNat_natCast,lS,List.getElem?_map,List.getElem?_eq_getElem (by omega)]
   simp[List.getD,show j<v.length by omega]
  have hl7:=PY (v:=v) (Nat.le_of_lt hj8) hhl hrl
  rw[bP,cO rfl hj8,oM s7 (by omega),bz,bP,cO rfl hj8,sJ s7 (by omega),fQ 1 (by omega) (by omega) (by rfl)]
  refine hnext _ _ _ (by omega) ⟨j + 1,rfl,rfl,by omega,k7.put _ (.inr (by simp)), ?_⟩
  rw[aM,P6 hj8 hhl hrl,← Nz hj8 hhl hrl]
  rfl
 ·have hj8:j=8:=by have:=of_decide_eq_false hc; omega
  subst hj8
  refine hQ M7 k7 ?_
  rw[s7,List.drop_of_length_le (by omega),List.append_nil,List.take_of_length_le (by rw[List.length_zipWith]; omega)]
end Go.Ab.Sha
set_option maxRecDepth 100000
namespace Go.Ab.aQ
open Go Go.Ab
def XH (p1:Nat) (M0:RM) (Q:ak) : Prop:=jG [(N .u64 0),(.sc (.slice none 0 0)),(N .u64 0),(.sc (.slice none 0 0)),(N .u64 0),(.sc (.slice none 0 0)),(N .u64 0),(.sc (.slice none 0 0)),(N .u64 0),(.sc (.slice none 0 0)),(N .u64 0),(.sc (.slice none 0 0)),(N .u64 0),(.sc (.slice none 0 0)),(N .u64 0),(.sc (.slice none 0 0)),(N .u64 0),(.sc (.slice none 0 0)),(N .u64 0),(.sc (.slice none 0 0)),(N .u64 0),(.sc (.slice none 0 0)),(N .u64 0),(.sc (.slice none 0 0)),(N .u64 0),(.sc (.slice none 0 0)),(N .u64 0),(.sc (.slice none 0 0)),(N .u64 0),(.sc (.slice none 0 0)),(N .u64 0),(.sc (.slice none 0 0))] [] fun g=>mO p1 g fun e d=>aO e d M0 fun h c=>Q h c
def Zd (p1 p2 p3:au) (a0:AV) (M0:RM) (Q:ak) : Prop:=p1 [] M0 fun h i=>aX (fun m c d=>aU a0 fun n=>af .lss (aa c 1) n fun o=>az o ( ek (fun g=>aI a0 (aa c 1) 2 fun q=>dE d q 2 fun r=>p2 [h,r] d fun s e=>af .eql s (N .i64 0) fun t=>az t ( aI a0 (aa c 1) 2 fun u=>dE e u 2 fun v=>p3 [(aa c 0),v] e fun w j=>g [w] j) ( g [(aa c 0)] e)) (fun x l=>af .add (aa c 1) (N .i64 1) fun p=>m [(aa x 0),p] l)) ( Q (.tup [h,(aa c 0)]) d)) [(.sc (.slice none 0 0)),(N .i64 0)] i
def QH (p1 p2:au) (a0:AV) (M0:RM) (Q:ak) : Prop:=p1 [a0] M0 fun r e=>bB r 0 fun j=>bB r 1 fun s=>af .neq s (N .i64 0) fun E=>az E ( af .eql s (N .i64 14) fun i=>ax i true (fun c=>c j e) (fun c=>c .undef e) fun F l=>ax i true (fun w=>fU false 1 F (.sc (.pointer none)) fun G=>w G l) (fun c=>c .undef l) fun H v=>aV i H (Bo false) fun I=>Q I v) ( fU true 1 j (.sc (.pointer none)) fun d=>aA d true (fun B=>B j e none) (fun c=>c .undef e none) fun L o Z=>aA d true (fun C=>C a0 o none) (fun c=>c .undef o none) fun p h vd=>aA d true (fun D=>iC h p fun U=>D U h none) (fun c=>c .undef h none) fun q m va=>ax d true (fun x=>p2 [L] m fun O t=>x O t) (fun c=>c .undef m) fun P g=>DF d true (fun y=>iC g p fun V=>(V=q∧y)) (fun c=>c) (aA d true (fun z=>iC g P fun R=>z R g none) (fun c=>c .undef g none) fun S n vb=>aA d true (fun A=>iN .eql S q fun W=>A W n none) (fun c=>c .undef n none) fun X u vc=>aV d X (Bo false) fun Y=>Q Y u))
def NQ (p1:au) (p2:Nat) (a0:AV) (M0:RM) (Q:ak) : Prop:=p1 [a0] M0 fun h c=>jG [(.sc (.slice none 0 0)),(Bo false)] [(0,1,h)] fun i=>mO p2 i fun g e=>aO g e c fun j d=>Q j d
def uX (p1:au) (a0 a1:AV) (M0:RM) (Q:ak) : Prop:=p1 [a0] M0 fun h g=>bB h 0 fun s=>bB h 1 fun C=>bB h 2 fun D=>fF a0 fun E=>bT E 1 fun F=>ag g F fun i=>ax i false (fun c=>c D g) (fun c=>c .undef g) fun G l=>ax i false (fun v=>ji G fun H=>v H l) (fun c=>c .undef l) fun I p=>aV i (Bo true) I fun j=>ax j false (fun z=>z a1 p) (fun c=>c .undef p) fun L q=>ax j false (fun A=>af .lss L (N .i64 0) fun O=>A O q) (fun c=>c .undef q) fun P r=>aV j (Bo true) P fun d=>ax d false (fun B=>B s r) (fun c=>c .undef r) fun R m=>ax d false (fun w=>w a1 m) (fun c=>c .undef m) fun S n=>ax d false (fun x=>eD .u64 S fun U=>x U n) (fun c=>c .undef n) fun V o=>ax d false (fun y=>af .gtr R V fun W=>y W o) (fun c=>c .undef o) fun X t=>aV d (Bo true) X fun Y=>fF a0 fun Z=>bT Z 1 fun va=>aS t va Y 1 fun e=>fF a0 fun vb=>bT vb 1 fun vc=>ag e vc fun vd=>az vd ( Q (N .i64 0) e) ( fF a0 fun ve=>bT ve 0 fun vf=>ag e vf fun vg=>gQ (bK 1 vg (some C) none none) fun vh=>fF a0 fun vi=>bT vi 0 fun vj=>aS e vj vh 1 fun u=>eD .i64 s fun vk=>Q vk u)
def uT (a0:AV) (M0:RM) (Q:ak) : Prop:=fF a0 fun c=>bT c 1 fun d=>ag M0 d fun e=>az e ( Q (N .i64 14) M0) ( Q (N .i64 0) M0)
def Oj (p1:au) (p2:Nat) (a0 a1:AV) (M0:RM) (Q:ak) : Prop:=p1 [a0] M0 fun y e=>aX (fun n c d=>af .geq (aa c 1) (N .u64 128) fun z=>az z ( eD .u8 (aa c 1) fun r=>af .or r (N .u8 128) fun s=>bn p2 1 [(N .u8 0)] [(0,1,s)] fun o l=>aO o l d fun t g=>appW p2 1 1 [(N .u8 0)] false (aa c 0) t g fun u h=>iX .shr (aa c 1) (N .u64 7) fun q=>n [u,q] h) ( eD .u8 (aa c 1) fun v=>bn p2 1 [(N .u8 0)] [(0,1,v)] fun p m=>aO p m d fun w i=>appW p2 1 1 [(N .u8 0)] false (aa c 0) w i fun x j=>Q x j)) [y,a1] e
def vN (p1:Nat) (a0:AV) (M0:RM) (Q:ak) : Prop:=fU false 2 a0 (.sc (.slice none 0 0)) fun h=>az h ( Q (.sc (.slice none 0 0)) M0) ( bn p1 0 [(N .u8 0)] [] fun g e=>aO g e M0 fun i c=>appW p1 1 1 [(N .u8 0)] false i a0 c fun j d=>Q j d)
def qo (a0:AV) (M0:RM) (Q:ak) : Prop:=ek (fun l=>fF a0 fun vn=>bT vn 0 fun vo=>ag M0 vo fun F=>fF a0 fun G=>bT G 0 fun H=>ag M0 H fun I=>aU I fun L=>Gj false L (N .i64 10) fun O=>gQ (bK 1 F none (some O) none) fun u=>aU u fun P=>aX (fun E d e=>af .lss (aa d 1) P fun R=>az R ( aI u (aa d 1) 1 fun S=>ag e S fun h=>af .and h (N .u8 127) fun U=>eD .u64 U fun V=>af .mul (N .i64 7) (aa d 1) fun W=>iX .shl V W fun X=>af .or (aa d 0) X fun v=>af .geq h (N .u8 128) fun Y=>az Y ( af .add (aa d 1) (N .i64 1) fun vm=>E [v,vm] e) ( af .eql h (N .u8 0) fun i=>ax i true (fun c=>c (aa d 1) e) (fun c=>c .undef e) fun Z m=>ax i true (fun x=>af .gtr Z (N .i64 0) fun va=>x va m) (fun c=>c .undef m) fun vb r=>aV i vb (Bo false) fun g=>ax g false (fun B=>B (aa d 1) r) (fun c=>c .undef r) fun vc s=>ax g false (fun C=>af .eql vc (N .i64 9) fun vd=>C vd s) (fun c=>c .undef s) fun ve t=>ax g false (fun D=>D ve t) (fun c=>c .undef t) fun j n=>ax j true (fun y=>y h n) (fun c=>c .undef n) fun vf o=>ax j true (fun z=>af .gtr vf (N .u8 1) fun vg=>z vg o) (fun c=>c .undef o) fun vh p=>ax g false (fun A=>aV j vh (Bo false) fun vi=>A vi p) (fun c=>c .undef p) fun vj q=>aV g (Bo true) vj fun vk=>az vk ( l [] q) ( af .add (aa d 1) (N .i64 1) fun vl=>Q (.tup [v,vl,(Bo true)]) q))) ( l [] e)) [(N .u64 0),(N .i64 0)] M0) (fun vp w=>Q (.tup [(N .u64 0),(N .i64 0),(Bo false)]) w)
def zM (p1:Nat) (p2:au) (a0:AV) (M0:RM) (Q:ak) : Prop:=af .lss a0 (N .u64 128) fun s=>az s ( eD .u8 a0 fun t=>bn p1 1 [(N .u8 0)] [(0,1,t)] fun j h=>aO j h M0 fun u c=>Q u c) ( af .rem a0 (N .u64 128) fun v=>eD .u8 v fun m=>af .add m (N .u8 128) fun n=>bn p1 1 [(N .u8 0)] [(0,1,n)] fun l i=>aO l i M0 fun o d=>af .quo a0 (N .u64 128) fun p=>p2 [p] d fun q e=>appW p1 1 1 [(N .u8 0)] false o q e fun r g=>Q r g)
end Go.Ab.aQ
set_option maxRecDepth 10000
namespace Go.Ab.Sha
open Go Go.Ab Go.Ab.Sm
def kW:List Int:=[1116352408,1899447441,3049323471,3921009573,961987163,1508970993,2453635748,2870763221,3624381080,310598401,607225278,1426881987,1925078388,2162078206,2614888103,3248222580,3835390401,4022224774,264347078,604807628,770255983,1249150122,1555081692,1996064986,2554220882,2821834349,2952996808,3210313671,3336571891,3584528711,113926993,338241895,666307205,773529912,1294757372,1396182291,1695183700,1986661051,2177026350,2456956037,2730485921,2820302411,3259730800,3345764771,3516065817,3600352804,4094571909,275423344,430227734,506948616,659060556,883997877,958139571,1322822218,1537002063,1747873779,1955562222,2024104815,2227730452,2361852424,2428436474,2756734187,3204031479,3329325298]
def hW:List Int:=[1779033703,3144134277,1013904242,2773480762,1359893119,2600822924,528734635,1541459225]
theorem Dt:kW.length=64:=by decide
theorem Ji:hW.length=8:=by decide
def dx (k:List Int) : Nat→List Int→Str→List Int
 | 0,h,_=>h
 | n + 1,h,m=>dx k n (mM h k (m.take 64)) (m.drop 64)
theorem nT {k:List Int} : ∀ {n:Nat} {h:List Int} {m:Str},h.length=8→(dx k n h m).length=8
 | 0,h,m,hl=>hl
 | n + 1,h,m,hl=>nT (n:=n) (h:=mM h k (m.take 64)) (m:=m.drop 64) (RP k _ hl)
theorem yQ {k:List Int} : ∀ {a n:Nat} {h:List Int} {m:Str},dx k (a + n) h m=dx k n (dx k a h m) (m.drop (64 * a))
 | 0,n,h,m=>by rw[Nat.zero_add]; rfl
 | a + 1,n,h,m=>by
   rw[Nat.add_right_comm,dx,dx,yQ (a:=a),List.drop_drop,show 64 + 64 * a=64 * (a + 1) by omega]
theorem wN {k:List Int} {n:Nat} {h:List Int} {m:Str} : dx k (n + 1) h m=mM (dx k n h m) k ((m.drop (64 * n)).take 64):=by rw[yQ]; rfl
theorem FO {k:List Int} : ∀ {n:Nat} {h:List Int} {m p:Str},64 * n≤m.length→dx k n h (m++p)=dx k n h m
 | 0,h,m,p,_=>rfl
 | n + 1,h,m,p,hl=>by
   rw[dx,dx,List.take_append_of_le_length (by omega),List.drop_append_of_le_length (by omega),FO (by rw[List.length_drop]; omega)]
def FT (n:Int) : UInt8:=UInt8.ofNat (n % 256).toNat
theorem Zi (n:Int) : IntKind.u8.wrap n=n % 256:=by
 simp only[IntKind.wrap,IntKind.bits,IntKind.signed,IntKind.max,IntKind.min]
 simp
theorem EL (n:Int) : N .u8 (IntKind.u8.wrap n)=By (FT n):=by
 have:((FT n).toNat:Int)=n % 256:=by
  unfold FT
  rw[UInt8.toNat_ofNat']
  have h1:0≤n % 256:=Int.emod_nonneg _ (by decide)
  have h2:n % 256<256:=Int.emod_lt_of_pos _ (by decide)
  rw[Nat.mod_eq_of_lt (by omega)]
  omega
 rw[By,this,Zi]
def zp (L:Nat) : Nat:=(119 - L % 64) % 64
def lV (L:Nat) : Str:=(List.range 8).map fun i=>FT (jK .u64 ((8 * L:Nat) : Int) ((56 - 8 * i:Nat) : Int))
def tq (L:Nat) : Str:=128 :: (List.replicate (zp L) 0++lV L)
def kg (h:List Int) : Str:=(List.range 32).map fun i=>FT (jK .u32 (h.getD (i / 4) 0) ((24 - 8 * (i % 4) : Nat) : Int))
theorem Gg (h:List Int) : (kg h).length=32:=by simp[kg]
def qG (b:Str) : Str:=kg (dx kW ((b.length + 9 + zp b.length) / 64) hW (b++tq b.length))
theorem oI (b:Str) : (qG b).length=32:=Gg _
theorem UG (b:Str) : dx kW ((b.length + 9 + zp b.length) / 64) hW (b++tq b.length) =
  dx kW ((b.length - b.length / 64 * 64 + 9 + zp b.length) / 64) (dx kW (b.length / 64) hW b) (b.drop (b.length / 64 * 64)++tq b.length):=by
 have e:(b.length + 9 + zp b.length) / 64=b.length / 64 + (b.length - b.length / 64 * 64 + 9 + zp b.length) / 64:=by omega
 rw[e,yQ,FO (by omega),List.drop_append_of_le_length (by omega),Nat.mul_comm 64]
def partsOf:Nat→List Int→List (Nat × Nat × AV)
 | _,[]=>[]
 | i,x :: xs=>(i,1,N .u32 x) :: partsOf (i + 1) xs
theorem FW:∀ (xs pre:List Int),lm (bI.row (pre++List.replicate xs.length 0)) (partsOf pre.length xs)=some (bI.row (pre++xs))
 | [],pre=>by simp[partsOf,lm]
 | x :: xs,pre=>by
   have h:=FW xs (pre++[x])
   rw[List.length_append,List.length_singleton] at h
   rw[partsOf,jL (by rw[jB]; simp),show pre++x :: xs=pre++[x]++xs by simp,← h]
   congr 1
   rw[lS,lS,show(N .u32 x)=(fun n=>N .u32 n) x from rfl,← List.map_set,set_mid (by simp)]
   simp
theorem KZ {T n:Nat} {xs:List Int} {M:RM} {K:AV→RM→Prop} (hn:xs.length=n) (hK:∀ M',ae [] M M'→K (.agg (bI.row xs)) M') :
  aO (.row (bI.row (List.replicate n 0)) false T 0) (fun b=>.ptr b 0) M fun t0 M1=>jG (bI.row (List.replicate n 0)) (partsOf 0 xs) fun t1=>aS M1 t0 t1 n fun M2=>dE M2 t0 n fun res=>K res M2:=by
 subst hn
 rw[aL,jr]
 refine⟨_,FW xs [], ?_⟩
 have n1:(M.push (.row (bI.row (List.replicate xs.length 0)) false T 0)).heap M.next=some (.row (bI.row (List.replicate xs.length 0)) false T 0):=by simp[RM.push]
 rw[List.nil_append,lK n1 (by rw[jB]) (by rw[jB,List.length_replicate]) (bI.dF _),eH (aM _) (by rw[jB])]
 exact hK _ (((ae.refl _ _).push _).new _ (Nat.le_refl _))
def Aa (xs:List Int) (c:au) : Prop:=∀ {M:RM} {Q:ak},(∀ M',ae [] M M'→Q (.agg (bI.row xs)) M')→c [] M Q
theorem JS {T:Nat} : Aa kW fun args M Q=>args=[]∧qd T M Q:=by
 intro M Q hQ
 refine⟨rfl, ?_⟩
 unfold qd
 exact KZ (xs:=kW) (n:=64) Dt hQ
theorem QN {T:Nat} : Aa hW fun args M Q=>args=[]∧yI T M Q:=by
 intro M Q hQ
 refine⟨rfl, ?_⟩
 unfold yI
 exact KZ (xs:=hW) (n:=8) Ji hQ
def kN (T:Nat) (c:au) : Prop:=∀ {M:RM} {v:AV} {s:Str} {Q:ak},Sl BY M v s→s.length≤1000000000→(∀ v' M',Ow BY M' M.next T v' s→ae [] M M'→Q v' M')→c [v] M Q
theorem Iz {T:Nat} : kN T fun args M Q=>∃ a0,args=[a0]∧Go.Ab.aQ.vN T a0 M Q:=by
 intro M v s Q hv hl hQ
 refine⟨_,rfl, ?_⟩
 unfold Go.Ab.aQ.vN
 rcases aD.xS hv false with⟨rfl,he⟩ | ⟨hne,he⟩
 ·rw[he,show(!false)=true from rfl,fo]
  have:s=[]:=by
   unfold Sl at hv
   cases s with
   | nil=>rfl
   | cons x s=>generalize hcs:BY.row (x :: s)=cs at *; generalize hn:(x :: s).length=n at *; cases hv; cases hcs
  subst this
  exact hQ bA M .nil (ae.refl _ _)
 ·rw[he,dH,BF]
  simp only[aL]
  have k1:ae [] M (M.push (.row [] false T 0)):=(ae.refl _ _).push _
  refine iE (E:=BY) (Ow.lit BY M) (by simp[RM.push]) (by decide) (aD.keep hv k1 (by simp)) (by simp; omega) (by simp; omega) fun v7 M7 o7 k7 _ _=>?_
  refine hQ v7 M7 (by simpa using o7) ?_
  refine ae.own k1 k7 (fun b hb=>?_)
  simp[ah] at hb; omega
theorem NA {L i:Nat} (hi:i<8) : (lV L).take (i + 1)=(lV L).take i++[FT (jK .u64 ((8 * L:Nat) : Int) ((56 - 8 * i:Nat) : Int))]:=by
 have hl:i<(lV L).length:=by simp[lV]; exact hi
 rw[List.take_succ_eq_append_getElem hl]
 simp[lV]
theorem Oy {d:Str} {n i:Nat} {x:UInt8} (hi:i<n) (hd:d.length=n) (hx:d[i]?=some x) : (d.take i++List.replicate (n - i) 0).set i x=d.take (i + 1)++List.replicate (n - (i + 1)) 0:=by
 have hl:(d.take i).length=i:=by rw[List.length_take]; omega
 have hx' : d[i]'(by omega)=x:=by rw[List.getElem?_eq_getElem (by omega)] at hx; exact Option.some.inj hx
 obtain⟨m,hm⟩ : ∃ m,n - i=m + 1:=⟨n - i - 1,by omega⟩
 rw[hm,List.replicate_succ,List.set_append_right _ _ (by omega),hl,Nat.sub_self,List.set_cons_zero,List.take_succ_eq_append_getElem (by omega),hx',List.append_assoc,show n - (i + 1)=m by omega]
 rfl
def CZ (c:au) : Prop:=∀ {M:RM} {v:AV} {b:Str} {Q:ak},Bs M v b→b.length≤100000000→(∀ M',ae [] M M'→Q (.agg (BY.row (qG b))) M')→c [v] M Q
theorem Xa {T32 TK TS T8:Nat} {cc cf ct cl:au} (hc:Aa kW cc) (hf:Aa hW cf) (ht:SY TK TS ct) (hcl:kN T8 cl) : CZ fun args M Q=>∃ a0,args=[a0]∧Ed T32 cc TK cf TS ct cl T8 a0 M Q:=by
 intro M v b Q hv hl hQ
 refine⟨_,rfl, ?_⟩
 unfold Ed
 rw[aL]
 have k1:ae [] M (M.push (.row (BY.row (List.replicate 32 0)) false T32 0)):=(ae.refl _ _).push _
 have n1:(M.push (.row (BY.row (List.replicate 32 0)) false T32 0)).heap M.next=some (.row (BY.row (List.replicate 32 0)) false T32 0):=by simp[RM.push]
 have l1:M.next<(M.push (.row (BY.row (List.replicate 32 0)) false T32 0)).next:=by simp[RM.push]
 show cc _ (M.push (.row (BY.row (List.replicate 32 0)) false T32 0)) _
 generalize M.push (.row (BY.row (List.replicate 32 0)) false T32 0)=M1 at *
 refine hc fun M2 k2=>?_
 have zz:∀ n,(bI.row (List.replicate n 0)).length=n:=fun n=>by rw[jB,List.length_replicate]
 refine wV (K:=fun t Gf=>_) (z:=bI.row (List.replicate 64 0)) 64 (zz 64) (by rw[jB,Dt]) (bI.dF _) fun M3 k3 n3 l3=>?_
 refine hf fun M4 k4=>?_
 refine wV (K:=fun t Gf=>_) (z:=bI.row (List.replicate 8 0)) 8 (zz 8) (by rw[jB,Ji]) (bI.dF _) fun M5 k5 n5 l5=>?_
 have hk34:=k4.next
 have hk23:=k3.next
 have k35:ae [] M3 M5:=k4.trans k5
 have n35:=k35.aB n3 l3 (by simp)
 have l35:M2.next<M5.next:=Nat.lt_of_lt_of_le l3 k35.next
 have k05:ae [] M M5:=k1.trans (k2.trans (k3.trans k35))
 have k25:ae [] M2 M5:=k3.trans k35
 have n15:=(k2.trans k25).aB n1 l1 (by simp)
 have l15:M.next<M5.next:=Nat.lt_of_lt_of_le l1 (k2.trans k25).next
 have hl1:M.next<M2.next:=Nat.lt_of_lt_of_le l1 k2.next
 have hne:M2.next≠M4.next:=by omega
 have hv5:=hv.keep k05 (by simp)
 have BL:=hv.lt
 have hvn:∀ x∈ah v,x ∉ [M4.next]:=fun x hx hm=>by have:=BL x hx; simp at hm; omega
 rw[hv5.len,qY]
 refine⟨by decide, ?_⟩
 have e1:IntKind.i64.wrap ((b.length:Int).tdiv 64)=((b.length / 64:Nat) : Int):=by
  rw[show(b.length:Int).tdiv 64=((b.length / 64:Nat) : Int) by rw[Int.natCast_ediv]; exact Int.tdiv_eq_ediv_of_nonneg (by omega)]
  exact aP (by omega) (by omega)
 rw[e1,fK,show IntKind.i64.wrap (((b.length / 64:Nat) : Int) * 64)=((b.length / 64 * 64:Nat) : Int) by rw[aP (by omega) (by omega)]; omega]
 generalize hwe:b.length / 64=q at *
 have hq:q * 64≤b.length∧b.length<q * 64 + 64:=by omega
 refine aG (fun m ys M6=>∃ j:Nat,m=q - j∧ys=[N .i64 ((j * 64:Nat) : Int)]∧j≤q∧ae [M4.next] M5 M6∧M6.heap M4.next=some (.row (bI.row (dx kW j hW b)) false TS 0)) _
  ⟨0,rfl,rfl,by omega,ae.refl _ _,n5⟩ ?_
 rintro next m ys M6 hnext ⟨j,rfl,rfl,hj,k6,n6⟩
 simp only[aC]
 have l6:M4.next<M6.next:=Nat.lt_of_lt_of_le l5 k6.next
 have n36:=k6.aB n35 l35 (by simp; omega)
 have l36:M2.next<M6.next:=Nat.lt_of_lt_of_le l35 k6.next
 have hv6:=hv5.keep k6 hvn
 have Wt:(dx kW j hW b).length=8:=nT Ji
 rw[fE]
 refine aJ (fun hc=>?_) fun hc=>?_
 ·have hjq:j<q:=by have:=of_decide_eq_true hc; omega
  rw[fQ 64 (by omega) (by omega) (by rfl)]
  refine hv6.sub (sP _ _ _) (sP _ _ _) (by omega) (by omega) fun v7 h7 hs7=>?_
  rw[show j * 64 + 64 - j * 64=64 by omega] at h7
  refine ht n6 l6 Wt n36 l36 hne Dt h7 (by rw[List.length_take,List.length_drop]; omega) fun M7 k7 n7=>?_
  rw[fQ 64 (by omega) (by omega) (by rfl),show j * 64 + 64=(j + 1) * 64 by omega]
  refine hnext _ _ _ (by omega) ⟨j + 1,rfl,rfl,by omega,k6.trans k7, ?_⟩
  rw[wN,Nat.mul_comm 64]
  exact n7
 have hjq:j=q:=by have:=of_decide_eq_false hc; omega
 subst hjq
 clear hnext
 refine hv6.sub (sP _ _ _) (Ta _) (by omega) (Nat.le_refl _) fun v7 h7 hs7=>?_
 rw[List.take_of_length_le (by simp)] at h7
 have hdl:(b.drop (j * 64)).length=b.length - j * 64:=List.length_drop
 refine hcl h7.sl (by omega) fun v8 M8 o8 k8=>?_
 rw[fq (by rfl) (by rfl) (by rfl),aL]
 refine fP (E:=BY) (a:=(128:UInt8)) o8 k8.next (by decide) (by omega) (by omega) fun v9 M9 o9 k9 _ _=>?_
 have k69:ae [] M6 M9:=ae.own k8 k9 (fun x hx=>(Own.blk o8 x hx).1)
 have hzp:zp b.length<64:=Nat.mod_lt _ (by decide)
 have hz:(b.length - j * 64 + 1 + zp b.length) % 64=56:=by unfold zp; omega
 refine aG (fun m ys M10=>∃ (i:Nat) (rv:AV),m=zp b.length - i∧ys=[rv]∧i≤zp b.length∧ae [] M6 M10∧Ow BY M10 M6.next T8 rv (b.drop (j * 64)++128 :: List.replicate i 0)) _
  ⟨0,v9,rfl,rfl,by omega,k69,o9⟩ ?_
 rintro next m ys M10 hnext ⟨i,rv,rfl,rfl,hi,k10,o10⟩
 simp only[aC]
 have hrl:(b.drop (j * 64)++128 :: List.replicate i 0).length=b.length - j * 64 + 1 + i:=by simp; omega
 rw[aD.len (Own.gJ o10),hrl,oG]
 refine⟨by decide, ?_⟩
 rw[show(((b.length - j * 64 + 1 + i:Nat) : Int)).tmod 64=(((b.length - j * 64 + 1 + i) % 64:Nat) : Int) by rw[Int.natCast_emod]; exact Int.tmod_eq_emod_of_nonneg (by omega),bX]
 refine aJ (fun hc=>?_) fun hc=>?_
 ·have hne:(b.length - j * 64 + 1 + i) % 64≠56:=fun e=>by rw[e] at hc; cases hc
  have hlt:i<zp b.length:=by
   rcases Nat.lt_or_ge i (zp b.length) with h | h
   ·exact h
   ·have:i=zp b.length:=by omega
    subst this; exact absurd hz hne
  rw[fq (by rfl) (by rfl) (by rfl),aL]
  refine fP (E:=BY) (a:=(0:UInt8)) o10 k10.next (by decide) (by omega) (by omega) fun v11 M11 o11 k11 _ _=>?_
  refine hnext _ _ _ (by omega) ⟨i + 1,v11,rfl,rfl,by omega,ae.own k10 k11 (fun x hx=>(Own.blk o10 x hx).1), ?_⟩
  have e:b.drop (j * 64)++128 :: List.replicate (i + 1) 0=b.drop (j * 64)++128 :: List.replicate i 0++[0]:=by rw[List.replicate_succ']; simp
  rw[e]; exact o11
 have adR:(b.length - j * 64 + 1 + i) % 64=56:=by
  have:((((b.length - j * 64 + 1 + i) % 64:Nat) : Int) != 56)=false:=hc
  have:=bne_eq_false_iff_eq.1 this
  omega
 have hiz:i=zp b.length:=by omega
 subst hiz
 clear hnext
 generalize hpre:b.drop (j * 64)++128 :: List.replicate (zp b.length) 0=P at *
 refine aG (fun m ys M11=>∃ (i:Nat) (rv:AV),m=8 - i∧ys=[rv,N .i64 (i:Int)]∧i≤8∧ae [] M6 M11∧Ow BY M11 M6.next T8 rv (P++(lV b.length).take i)) _
  ⟨0,rv,rfl,rfl,by omega,k10,by rw[List.take_zero,List.append_nil]; exact o10⟩ ?_
 rintro next m ys M11 hnext ⟨i,rv2,rfl,rfl,hi,k11,o11⟩
 simp only[aC,bF]
 have aaj:=hv6.keep k11 (by simp)
 have hll:((lV b.length).take i).length=i:=by rw[List.length_take]; simp[lV]; omega
 have hpl:(P++(lV b.length).take i).length=b.length - j * 64 + 1 + zp b.length + i:=by rw[List.length_append,hrl,hll]
 rw[mi 8 (by rfl)]
 refine aJ (fun hc=>?_) fun hc=>?_
 ·have hi8:i<8:=of_decide_eq_true hc
  rw[aaj.len,cZ,bZ (by omega) (by omega),fK,bZ (by omega) (by omega),fK,aP (by omega) (by omega),gM,aP (by omega) (by omega),iD]
  refine⟨by omega, ?_⟩
  rw[cZ,show((b.length:Int) * 8)=((8 * b.length:Nat) : Int) by omega,show(56 - 8 * (i:Int))=((56 - 8 * i:Nat) : Int) by omega,EL,fq (by rfl) (by rfl) (by rfl),aL]
  refine fP (E:=BY) (a:=FT (jK .u64 ((8 * b.length:Nat) : Int) ((56 - 8 * i:Nat) : Int))) o11 k11.next (by decide) (by omega) (by omega) fun v12 M12 o12 k12 _ _=>?_
  rw[fQ 1 (by omega) (by omega) (by rfl)]
  refine hnext _ _ _ (by omega) ⟨i + 1,v12,rfl,rfl,by omega,ae.own k11 k12 (fun x hx=>(Own.blk o11 x hx).1), ?_⟩
  rw[NA hi8,← List.append_assoc]
  exact o12
 have hi8:i=8:=by have:=of_decide_eq_false hc; omega
 subst hi8
 clear hnext
 rw[List.take_of_length_le (by simp[lV])] at o11 hpl
 have hfull:P++lV b.length=b.drop (j * 64)++tq b.length:=by rw[← hpre]; simp[tq]
 rw[hfull] at o11 hpl
 have hrest:(b.drop (j * 64)++tq b.length).length=b.length - j * 64 + 9 + zp b.length:=by rw[hpl]; omega
 generalize hRe:b.drop (j * 64)++tq b.length=R at *
 have hmod:(b.length - j * 64 + 9 + zp b.length) % 64=0:=by omega
 obtain⟨n,hn⟩ : ∃ n,b.length - j * 64 + 9 + zp b.length=64 * n:=⟨(b.length - j * 64 + 9 + zp b.length) / 64,by omega⟩
 rw[hn] at hrest
 have WW:=Bs.own o11
 have n11:=k11.aB n6 l6 (by simp)
 have n311:=k11.aB n36 l36 (by simp)
 have l11:M4.next<M11.next:=Nat.lt_of_lt_of_le l6 k11.next
 have Zz:M2.next<M11.next:=Nat.lt_of_lt_of_le l36 k11.next
 generalize hH:dx kW j hW b=H at *
 have hrn:∀ x∈ah rv2,x ∉ [M4.next]:=fun x hx hm=>by
  have:=(Own.blk o11 x hx).1
  simp at hm; omega
 refine aG (fun m ys M12=>∃ i:Nat,m=n - i∧ys=[N .i64 ((i * 64:Nat) : Int)]∧i≤n∧ae [M4.next] M11 M12∧M12.heap M4.next=some (.row (bI.row (dx kW i H R)) false TS 0)) _
  ⟨0,rfl,rfl,by omega,ae.refl _ _,n11⟩ ?_
 rintro next m ys M12 hnext ⟨i,rfl,rfl,hi,k12,n12⟩
 simp only[aC]
 have l12:M4.next<M12.next:=Nat.lt_of_lt_of_le l11 k12.next
 have n312:=k12.aB n311 Zz (by simp; omega)
 have ads:M2.next<M12.next:=Nat.lt_of_lt_of_le Zz k12.next
 have Oa:=WW.keep k12 hrn
 rw[Oa.len,fE]
 refine aJ (fun hc=>?_) fun hc=>?_
 ·have hin:i<n:=by have:=of_decide_eq_true hc; omega
  rw[fQ 64 (by omega) (by omega) (by rfl)]
  refine Oa.sub (sP _ _ _) (sP _ _ _) (by omega) (by omega) fun v13 h13 aeh=>?_
  rw[show i * 64 + 64 - i * 64=64 by omega] at h13
  refine ht n12 l12 (nT Wt) n312 ads hne Dt h13 (by rw[List.length_take,List.length_drop]; omega) fun M13 k13 n13=>?_
  rw[fQ 64 (by omega) (by omega) (by rfl),show i * 64 + 64=(i + 1) * 64 by omega]
  refine hnext _ _ _ (by omega) ⟨i + 1,rfl,rfl,by omega,k12.trans k13, ?_⟩
  rw[wN,Nat.mul_comm 64]
  exact n13
 have hin:i=n:=by have:=of_decide_eq_false hc; omega
 subst hin
 clear hnext
 have SC:qG b=kg (dx kW i H R):=by
  unfold qG
  rw[UG,hwe,hRe,hH,hn,Nat.mul_div_cancel_left _ (by decide)]
 have hF:(dx kW i H R).length=8:=nT Wt
 generalize dx kW i H R=F at *
 have hdF:=Gg F
 rw[aL]
 have V5:ae [M4.next] M5 M12:=k6.trans ((k11.mono (by simp)).trans k12)
 have n112:=V5.aB n15 l15 (by simp; omega)
 have WN:M.next<M12.next:=Nat.lt_of_lt_of_le l15 V5.next
 have k14:ae [] M12 (M12.push (.row (BY.row (List.replicate 32 0)) false T32 0)):=(ae.refl _ _).push _
 have n14:(M12.push (.row (BY.row (List.replicate 32 0)) false T32 0)).heap M12.next=some (.row (BY.row ((kg F).take 0++List.replicate (32 - 0) 0)) false T32 0):=by simp[RM.push]
 have l14:M12.next<(M12.push (.row (BY.row (List.replicate 32 0)) false T32 0)).next:=by simp[RM.push]
 show aX _ _ (M12.push (.row (BY.row (List.replicate 32 0)) false T32 0))
 generalize M12.push (.row (BY.row (List.replicate 32 0)) false T32 0)=M14 at *
 refine aG (fun m ys M15=>∃ i:Nat,m=32 - i∧ys=[N .i64 (i:Int)]∧i≤32∧ae [] M12 M15∧M12.next<M15.next∧M15.heap M12.next=some (.row (BY.row ((kg F).take i++List.replicate (32 - i) 0)) false T32 0)) _
  ⟨0,rfl,rfl,by omega,k14,l14,n14⟩ ?_
 rintro next m ys M15 hnext ⟨i',rfl,rfl,hi',k15,Vr,n15'⟩
 simp only[aC]
 have acH:=k15.aB n12 l12 (by simp)
 rw[mi 32 (by rfl)]
 refine aJ (fun hc=>?_) fun hc=>?_
 ·have kK:i'<32:=of_decide_eq_true hc
  rw[qY]
  refine⟨by decide, ?_⟩
  rw[show IntKind.i64.wrap (((i' : Nat) : Int).tdiv 4)=((i' / 4:Nat) : Int) by
   rw[show((i' : Nat) : Int).tdiv 4=((i' / 4:Nat) : Int) by rw[Int.natCast_ediv]; exact Int.tdiv_eq_ediv_of_nonneg (by omega)]
   exact aP (by omega) (by omega)]
  rw[cO rfl (by omega),oM acH (by omega),oG]
  refine⟨by decide, ?_⟩
  rw[show(((i' : Nat) : Int)).tmod 4=((i' % 4:Nat) : Int) by rw[Int.natCast_emod]; exact Int.tmod_eq_emod_of_nonneg (by omega),fK,aP (by omega) (by omega),gM,aP (by omega) (by omega),iD]
  refine⟨by omega, ?_⟩
  rw[cZ,EL,cO rfl kK,show(24 - 8 * ((i' % 4:Nat) : Int))=((24 - 8 * (i' % 4) : Nat) : Int) by omega]
  have hget:(kg F)[i']?=some (FT (jK .u32 (F.getD (i' / 4) 0) ((24 - 8 * (i' % 4) : Nat) : Int))):=by
   simp[kg,kK]
  have hset:=Oy kK hdF hget
  have Zj:((kg F).take i'++List.replicate (32 - i') 0).length=32:=by rw[List.length_append,List.length_take,List.length_replicate]; omega
  rw[gT (BY.row ((kg F).take (i' + 1)++List.replicate (32 - (i' + 1)) 0)) n15' (by rw[fT]; omega) rfl rfl (by rw[← hset,lJ,lJ,List.map_set]),fQ 1 (by omega) (by omega) (by rfl)]
  exact hnext _ _ _ (by omega) ⟨i' + 1,rfl,rfl,by omega,k15.new _ (Nat.le_refl _),Vr,aM _⟩
 ·have kK:i'=32:=by have:=of_decide_eq_false hc; omega
  subst kK
  have e:(kg F).take 32++List.replicate (32 - 32) 0=kg F:=by rw[List.take_of_length_le (by omega)]; simp
  rw[e] at n15'
  have n115:=k15.aB n112 WN (by simp)
  rw[eH n15' (by rw[fT,hdF]),lK n115 (by rw[fT,hdF]) (by rw[fT,List.length_replicate]) (BY.dF _),eH (aM _) (by rw[fT,hdF]),← SC]
  have VL:ae [M4.next] M M12:=(k05.mono (by simp)).trans V5
  have abz:ae [] M M12:=⟨VL.base,VL.next,fun x hx _=>VL.heap x hx (by simp; omega)⟩
  exact hQ _ ((abz.trans k15).new _ (Nat.le_refl _))
theorem T9 {p:UInt8→Bool} (h:(List.range 256).all (fun n=>p (UInt8.ofNat n))=true) (x:UInt8) : p x=true:=by
 have:=List.all_eq_true.1 h x.toNat (List.mem_range.2 x.toNat_lt)
 simpa using this
abbrev Vu:Str:=[48,49,50,51,52,53,54,55,56,57,97,98,99,100,101,102]
def hx (n:Nat) : UInt8:=Vu.getD n 0
def kF (d:Str) : Str:=d.flatMap fun x=>[hx (x.toNat / 16),hx (x.toNat % 16)]
theorem Bn (d:Str) : (kF d).length=2 * d.length:=by
 induction d with
 | nil=>rfl
 | cons x d ih=>unfold kF at ih ⊢; rw[List.flatMap_cons,List.length_append,ih,List.length_cons]; simp; omega
theorem KX (d:Str) {i:Nat} (h:i<d.length) : kF (d.take (i + 1))=kF (d.take i)++[hx (d[i].toNat / 16),hx (d[i].toNat % 16)]:=by
 rw[List.take_succ_eq_append_getElem h]
 unfold kF
 rw[List.flatMap_append]
 simp
def qHi (x:UInt8) : Bool:=jK .u8 (x.toNat:Int) 4 == ((x.toNat / 16:Nat) : Int)
def qLo (x:UInt8) : Bool:=nI .u8 (x.toNat:Int) 15 == ((x.toNat % 16:Nat) : Int)
theorem Yp:∀ x,qHi x=true:=T9 (by decide +kernel)
theorem YD:∀ x,qLo x=true:=T9 (by decide +kernel)
theorem Xv (x:UInt8) : jK .u8 (x.toNat:Int) 4=((x.toNat / 16:Nat) : Int):=eq_of_beq (Yp x)
theorem Xl (x:UInt8) : nI .u8 (x.toNat:Int) 15=((x.toNat % 16:Nat) : Int):=eq_of_beq (YD x)
theorem Mt {n:Nat} (h:n<16) {k:IntKind} {K:AV→Prop} : nM (St Vu) (N k (n:Int)) K=K (By (hx n)):=by
 rw[EM (by show n<16; exact h)]
 have:Vu[n]'(by show n<16; exact h)=hx n:=by
  unfold hx
  rw[List.getD_eq_getElem?_getD,List.getElem?_eq_getElem (by show n<16; exact h)]; rfl
 rw[this]
theorem Sb {T:Nat} {a b z:AV} {K:RB→(Nat→AV)→Prop} (ha:a.cells=[a]) (hb:b.cells=[b]) (ha1:oneCell a=true) (hb1:oneCell b=true) :
  bn T 2 [z] [(0,1,a),(1,1,b)] K=K (.row [a,b] false T 0) (fun b=>.slc b 0 2 (.ex 2)):=by
 have:lG (ig [z] 2) [(0,1,a),(1,1,b)]=some [a,b]:=by simp[lG,ig,ha,hb,ha1,hb1]
 apply propext; unfold bn
 constructor
 ·rintro⟨l,h,hk⟩; rw[this] at h; cases h; exact hk
 ·intro hk; exact⟨_,this,hk⟩
theorem QB {M:RM} {base T:Nat} {v:AV} {xs:Str} {x y:UInt8} {zs:List AV} {K:ak} (ho:Ow BY M base T v xs) (hb:base≤M.next) (hn:xs.length≤1000000000)
  (hK:∀ v' M',Ow BY M' base T v' (xs++[x,y])→ae (ah v) M M'→K v' M') :
  appW T 1 1 zs false v (.slc M.next 0 2 (.ex 2)) (M.push (.row [By x,By y] false T 0)) K:=by
 have hk:ae [] M (M.push (.row (BY.row [x,y]) false T 0)):=(ae.refl _ _).push _
 refine iE (E:=BY) (ys:=[x,y]) (Own.keep ho hk (by simp)) (Nat.le_trans hb hk.next) (by decide) (Sl.new [x,y]) (by simp; omega) (by simp; omega) fun v' M' h1 h2 _ _=>?_
 exact hK v' M' h1 ((hk.mono (by simp)).trans h2)
def Md (c:au) : Prop:=∀ {M:RM} {d:Str} {Q:ak},d.length=32→(∀ M',ae [] M M'→Q (St (kF d)) M')→c [.agg (BY.row d)] M Q
theorem aap {d:Str} {i:Nat} (h:i<d.length) : (BY.row d)[i]?=some (By d[i]):=by rw[lJ,List.getElem?_map,List.getElem?_eq_getElem h]; rfl
theorem Un {T32 T8:Nat} : Md fun args M Q=>∃ a0,args=[a0]∧DW T32 T8 a0 M Q:=by
 intro M d Q hd hQ
 refine⟨_,rfl, ?_⟩
 unfold DW
 rw[mI (BY.dF d) (by rw[fT]; omega),aL]
 have k0:ae [] M (M.push (.row (BY.row d) false T32 0)):=(ae.refl _ _).push _
 have n0:(M.push (.row (BY.row d) false T32 0)).heap M.next=some (.row (BY.row d) false T32 0):=by simp[RM.push]
 generalize M.push (.row (BY.row d) false T32 0)=M0 at *
 rw[eH n0 (by rw[fT,hd])]
 refine aG (fun m ys M3=>∃ (i:Nat) (ov:AV),m=32 - i∧ys=[ov,N .i64 (i:Int)]∧i≤32∧ae [] M M3∧Ow BY M3 M.next T8 ov (kF (d.take i))) _ ⟨0,bA,rfl,rfl,by omega,k0,.nil⟩ ?_
 rintro next m ys M3 hnext ⟨i,ov,rfl,rfl,hi,k3,o3⟩
 simp only[aC,bF]
 rw[mi 32 (by rfl)]
 refine aJ (fun hc=>?_) fun hc=>?_
 ·have kK:i<32:=of_decide_eq_true hc
  have hid:i<d.length:=by omega
  have hlt:=EN d[i]
  rw[LG]
  refine⟨by omega,by omega,By d[i],by rw[Int.toNat_natCast]; exact aap hid, ?_⟩
  rw[By,iD]
  refine⟨by decide, ?_⟩
  rw[Xv,Mt (by omega),dB,Xl,Mt (by omega),Sb rfl rfl rfl rfl,ru]
  have hhl:=Bn (d.take i)
  have htl:(d.take i).length=i:=by rw[List.length_take]; omega
  refine QB o3 k3.next (by omega) fun v4 M4 o4 k4=>?_
  rw[fQ 1 (by omega) (by omega) (by rfl)]
  refine hnext _ _ _ (by omega) ⟨i + 1,v4,rfl,rfl,by omega,ae.own k3 k4 (fun x hx=>(Own.blk o3 x hx).1), ?_⟩
  rw[KX d hid]; exact o4
 ·have kK:i=32:=by have:=of_decide_eq_false hc; omega
  subst kK
  rw[List.take_of_length_le (by omega)] at o3
  rw[Sl.str (Own.gJ o3)]
  exact hQ M3 k3
def Mh (c:au) : Prop:=∀ {M:RM} {v:AV} {d:Str} {Q:ak},Bs M v d→d.length≤1000000→(∀ M',ae [] M M'→Q (St (kF d)) M')→c [v] M Q
theorem UQ {T8:Nat} : Mh fun args M Q=>∃ a0,args=[a0]∧AL T8 a0 M Q:=by
 intro M v d Q hv hl hQ
 refine⟨_,rfl, ?_⟩
 unfold AL
 refine xJ ?_
 show aO _ _ _ _
 rw[aL]
 have k0:ae [] M (M.push (.row [] false T8 0)):=(ae.refl _ _).push _
 refine aG (fun m ys M3=>∃ (i:Nat) (ov:AV),m=d.length - i∧ys=[ov,N .i64 (i:Int)]∧i≤d.length∧ae [] M M3∧Ow BY M3 M.next T8 ov (kF (d.take i))) _ ⟨0,_,rfl,rfl,by omega,k0,Ow.lit BY M⟩ ?_
 rintro next m ys M3 hnext ⟨i,ov,rfl,rfl,hi,k3,o3⟩
 simp only[aC,bF]
 have hv3:=hv.keep k3 (by simp)
 rw[hv3.len,fE]
 refine aJ (fun hc=>?_) fun hc=>?_
 ·have hid:i<d.length:=of_decide_eq_true hc
  have hlt:=EN d[i]
  rw[hv3.read hid,By,iD]
  refine⟨by decide, ?_⟩
  rw[Xv,Mt (by omega),hv3.read hid,By,dB,Xl,Mt (by omega),Sb rfl rfl rfl rfl,ru]
  have hhl:=Bn (d.take i)
  have htl:(d.take i).length=i:=by rw[List.length_take]; omega
  refine QB o3 k3.next (by omega) fun v4 M4 o4 k4=>?_
  rw[fQ 1 (by omega) (by omega) (by rfl)]
  refine hnext _ _ _ (by omega) ⟨i + 1,v4,rfl,rfl,by omega,ae.own k3 k4 (fun x hx=>(Own.blk o3 x hx).1), ?_⟩
  rw[KX d hid]; exact o4
 ·have kK:i=d.length:=by have:=of_decide_eq_false hc; omega
  subst kK
  rw[List.take_length] at o3
  rw[Sl.str (Own.gJ o3)]
  exact hQ M3 k3
def bM (b:Str) : Str:=kF (qG b)
theorem su (b:Str) : (bM b).length=64:=by unfold bM; rw[Bn,oI]
def rQ (c:au) : Prop:=∀ {M:RM} {v:AV} {b:Str} {Q:ak},Bs M v b→b.length≤100000000→(∀ M',ae [] M M'→Q (St (bM b)) M')→c [v] M Q
theorem Bs.arr {M:RM} {b T:Nat} {d:Str} (h:M.heap b=some (.row (BY.row d) false T 0)) (hb:b<M.next) : Bs M (.slc b 0 d.length (.ex d.length)) d :=
 ⟨Rw.sl ⟨h,hb⟩,Nat.le_refl _⟩
theorem Gn {n b:Nat} (hn:0<n) : BI n 1 (.ptr b 0) none none=some (.slc b 0 n (.ex n)):=by
 unfold BI
 simp only[bnd]
 rw[if_pos ⟨Nat.zero_le _,Nat.le_refl _⟩,if_neg (by omega)]
 simp
theorem Ni {T32:Nat} {cs ch:au} (hs:CZ cs) (hh:Mh ch) : rQ fun args M Q=>∃ a0,args=[a0]∧yN cs T32 ch a0 M Q:=by
 intro M v b Q hv hl hQ
 refine⟨_,rfl, ?_⟩
 unfold yN
 refine hs hv hl fun M1 k1=>?_
 have hd:=oI b
 refine wV (K:=fun t Gf=>_) (z:=BY.row (List.replicate 32 0)) 32 (by rw[fT,List.length_replicate]) (by rw[fT,hd]) (BY.dF _) fun M2 k2 n2 l2=>?_
 rw[Gn (by omega),iF]
 have hB:=Bs.arr n2 l2
 rw[hd] at hB
 refine hh hB (by omega) fun M3 k3=>?_
 exact hQ M3 (k1.trans (k2.trans k3))
def lF (x:UInt8) : Bool:=(decide ((x.toNat:Int) ≥ 48) && decide ((x.toNat:Int)≤57)) || (decide ((x.toNat:Int) ≥ 97) && decide ((x.toNat:Int)≤102))
def bY (s:Str) : Bool:=decide (s.length=64) && s.all lF
def NP (c:au) : Prop:=∀ {M:RM} {x:UInt8} {Q:ak},(∀ n:Int,(decide (n > 15))=!lF x→0≤n→Q (N .u8 n) M)→c [By x] M Q
theorem RG:NP fun args M Q=>∃ a0,args=[a0]∧zG a0 M Q:=by
 intro M x Q hQ
 refine⟨_,rfl, ?_⟩
 unfold zG
 have hx:=EN x
 simp only[mX,By]
 rw[fV]
 refine XO (p:=decide ((x.toNat:Int)≤57)) (fun _ k hk=>by rw[Bb]; exact hk) ?_
 refine aJ (fun h=>?_) fun h1=>?_
 ·rw[gM]
  have h':=h
  simp only[Bool.and_eq_true,decide_eq_true_eq] at h'
  rw[pU (by omega) (by omega)]
  refine hQ _ ?_ (by omega)
  unfold lF
  rw[h,Bool.true_or]
  simp; omega
 rw[fV]
 refine XO (p:=decide ((x.toNat:Int)≤102)) (fun _ k hk=>by rw[Bb]; exact hk) ?_
 refine aJ (fun h=>?_) fun h2=>?_
 ·rw[gM,bz]
  have h':=h
  simp only[Bool.and_eq_true,decide_eq_true_eq] at h'
  rw[pU (n:=(x.toNat:Int) - 97) (by omega) (by omega),pU (by omega) (by omega)]
  refine hQ _ ?_ (by omega)
  unfold lF
  rw[h,Bool.or_true]
  simp; omega
 ·refine hQ _ ?_ (by decide)
  unfold lF
  rw[h1,h2]; rfl
def NW (c:au) : Prop:=∀ {M:RM} {s:Str} {Q:ak},s.length≤281474976710656→(∀ (cs:List AV) M',ae [] M M'→cs.length=32→cs.all oneCell=true→Q (.tup [.agg cs,N .i64 (if bY s then 0 else 14)]) M')→c [St s] M Q
theorem JL {p:UInt8→Bool} {s:Str} {i:Nat} (h:i<s.length) (hA:(s.take i).all p=true) (hp:p s[i]=true) : (s.take (i + 1)).all p=true:=by
 rw[List.take_succ_eq_append_getElem h,List.all_append,hA]; simp[hp]
theorem Ng {p:UInt8→Bool} {s:Str} {i:Nat} (h:i<s.length) (hp:p s[i]=false) : s.all p=false:=by
 rw[← List.take_append_drop i s,List.all_append,List.drop_eq_getElem_cons h,List.all_cons,hp]; simp
theorem gP {T:Nat} {M:RM} (z:List AV) {K:AV→RM→Prop} (hK:∀ M',ae [] M M'→M'.heap M.next=some (.row z false T 0)→M'.next=M.next + 1→K (.ptr M.next 0) M') : aO (.row z false T 0) (fun b=>.ptr b 0) M K:=by
 rw[aL]
 exact hK _ ((ae.refl _ _).push _) (by simp[RM.push]) rfl
theorem Rh {T32:Nat} {cd:au} (hd:NP cd) : NW fun args M Q=>∃ a0,args=[a0]∧Cg T32 cd a0 M Q:=by
 intro M s Q hl hQ
 refine⟨_,rfl, ?_⟩
 unfold Cg
 have zl:(BY.row (List.replicate 32 0)).length=32:=by rw[fT,List.length_replicate]
 refine gP (BY.row (List.replicate 32 0)) fun M1 k1 n1 e1=>?_
 refine gP (BY.row (List.replicate 32 0)) fun M2 k2 n2 e2=>?_
 have k02:=k1.trans k2
 have n12:=k2.aB n1 (by omega) (by simp)
 simp only[mX]
 rw[xQ,bX]
 have e64:((s.length:Int) != 64)=!decide (s.length=64):=by
  rw[bne,show((s.length:Int) == 64)=decide (s.length=64) by rw[Bool.eq_iff_iff,beq_iff_eq,decide_eq_true_iff]; omega]
 have fin:∀ (M3:RM) (cs:List AV) (n:Int),ae [M1.next] M2 M3→cs.length=32→cs.all oneCell=true→n=(if bY s then 0 else 14)→aS M3 (.ptr M.next 0) (.agg cs) 32 fun M_1=>dE M_1 (.ptr M.next 0) 32 fun res=>Q (.tup [res,N .i64 n]) M_1:=by
  intro M3 cs n k3 h1 h2 h3
  have n13:=k3.aB n12 (by omega) (by simp; omega)
  rw[lK n13 h1 zl h2,eH (aM _) h1,h3]
  exact hQ cs _ ((BC k02 k3 (by omega)).new _ (Nat.le_refl _)) h1 h2
 rw[e64]
 refine aJ (fun hc=>?_) fun hc=>?_
 ·rw[eH n2 zl]
  exact fin M2 _ 14 (ae.refl _ _) zl (BY.dF _) (by
   have:decide (s.length=64)=false:=by simpa using hc
   unfold bY; rw[this]; rfl)
 have h64:s.length=64:=by simpa using hc
 refine aG (fun m ys M3=>∃ (i:Nat) (cs:List AV),m=32 - i∧ys=[N .i64 (i:Int)]∧i≤32∧ae [M1.next] M2 M3∧M3.heap M1.next=some (.row cs false T32 0)∧cs.length=32∧cs.all oneCell=true∧(s.take (2 * i)).all lF=true) _
  ⟨0,_,rfl,rfl,by omega,ae.refl _ _,n2,zl,BY.dF _,rfl⟩ ?_
 rintro next m ys M3 hnext ⟨i,cs,rfl,rfl,hi,k3,n3,hcl,hca,hA⟩
 simp only[aC]
 rw[mi 32 (by rfl)]
 have aaN:∀ {K:AV→Prop},af .mul (N .i64 2) (N .i64 (i:Int)) K=K (N .i64 ((2 * i:Nat) : Int)):=by
  intro K
  rw[fK,aP (by omega) (by omega)]; rfl
 refine aJ (fun hc=>?_) fun hc=>?_
 ·have kK:i<32:=of_decide_eq_true hc
  have h0:2 * i<s.length:=by omega
  have h1:2 * i + 1<s.length:=by omega
  rw[aaN,EM h0,aaN,fQ 1 (by omega) (by omega) (by rfl),EM h1]
  refine hd fun n hn hn0=>?_
  refine hd fun n' hn' hn0'=>?_
  rw[fZ,hn]
  refine aer (p:=!lF s[2 * i + 1]) (fun _ k hk=>by rw[fZ,hn']; exact hk) ?_
  refine aJ (fun hb=>?_) fun hb=>?_
  ·rw[jr]
   refine⟨_,rfl, ?_⟩
   refine fin M3 (BY.row (List.replicate 32 0)) 14 k3 zl (BY.dF _) ?_
   have:s.all lF=false:=by
    cases h:lF s[2 * i] with
    | false=>exact Ng h0 h
    | true =>
      rw[h] at hb
      exact Ng h1 (by simpa using hb)
   unfold bY; rw[this,Bool.and_false]; rfl
  ·have h2:lF s[2 * i]=true∧lF s[2 * i + 1]=true:=by
    cases ha:lF s[2 * i] <;> cases hb' : lF s[2 * i + 1] <;> simp[ha,hb'] at hb ⊢
   rw[jM]
   refine⟨by decide, ?_⟩
   rw[dV,cO rfl kK,gT _ n3 (by omega) rfl rfl rfl,fQ 1 (by omega) (by omega) (by rfl)]
   refine hnext _ _ _ (by omega) ⟨i + 1,_,rfl,rfl,by omega,k3.put _ (.inr (by simp)),aM _,by rw[List.length_set]; exact hcl, ?_, ?_⟩
   ·rw[List.all_eq_true] at hca ⊢
    intro x hx
    rcases List.mem_or_eq_of_mem_set hx with hx | rfl
    ·exact hca x hx
    ·rfl
   ·rw[show 2 * (i + 1)=2 * i + 1 + 1 by omega]
    exact JL h1 (JL h0 hA h2.1) h2.2
 ·have kK:i=32:=by have:=of_decide_eq_false hc; omega
  subst kK
  rw[List.take_of_length_le (by omega)] at hA
  rw[eH n3 hcl]
  refine fin M3 cs 0 k3 hcl hca ?_
  unfold bY
  rw[hA,h64]; rfl
def JP (c:au) : Prop:=∀ {M:RM} {s:Str} {Q:ak},s.length≤281474976710656→Q (Bo (bY s)) M→c [St s,N .i64 64] M Q
theorem Pk:JP fun args M Q=>∃ a0 a1,args=[a0,a1]∧sZ a0 a1 M Q:=by
 intro M s Q hl hQ
 refine⟨_,_,rfl, ?_⟩
 unfold sZ
 refine aG (fun m ys M3=>∃ i:Nat,m=s.length - i∧ys=[N .i64 (i:Int)]∧i≤s.length∧(s.take i).all lF=true∧M3=M) _ ⟨0,rfl,rfl,Nat.zero_le _,rfl,rfl⟩ ?_
 rintro next m ys M3 hnext ⟨i,rfl,rfl,hi,hA,rfl⟩
 simp only[aC,mX]
 rw[xQ,fE]
 refine aJ (fun hc=>?_) fun hc=>?_
 ·have hid:i<s.length:=of_decide_eq_true hc
  have ib:∀ {K:AV→Prop},nM (St s) (N .i64 (i:Int)) K=K (By s[i]):=EM hid .i64 _
  have bad:lF s[i]=false→Q (Bo false) M3:=fun hf=>by
   have:bY s=false:=by unfold bY; rw[Ng hid hf,Bool.and_false]
   rw[← this]; exact hQ
  have good:lF s[i]=true→next [N .i64 ((i + 1:Nat) : Int)] M3:=fun ht =>
   hnext _ _ _ (by omega) ⟨i + 1,rfl,rfl,by omega,JL hid hA ht,rfl⟩
  have ad:af .add (N .i64 (i:Int)) (N .i64 1) (fun t10=>next [t10] M3)=next [N .i64 ((i + 1:Nat) : Int)] M3:=add1 (by omega)
  unfold lF at bad good
  simp only[ib,By,fV,Bb]
  generalize decide ((s[i].toNat:Int) ≥ 48)=a1 at *
  generalize decide ((s[i].toNat:Int)≤57)=a2 at *
  generalize decide ((s[i].toNat:Int) ≥ 97)=c1 at *
  generalize decide ((s[i].toNat:Int)≤102)=c2 at *
  cases a1 <;> cases a2 <;> cases c1 <;> cases c2 <;> simp only[gp,bU,fH,jv,GM,dX,dQ,dO,Bool.not_true,Bool.not_false,dH,fo,ad] <;> first | exact good rfl | exact bad rfl
 ·have hid:i=s.length:=by have:=of_decide_eq_false hc; omega
  subst hid
  rw[List.take_length] at hA
  rw[xQ,bS]
  have:bY s=((s.length:Int) == 64):=by
   unfold bY
   rw[hA,Bool.and_true,Bool.eq_iff_iff,beq_iff_eq,decide_eq_true_iff]; omega
  rw[← this]; exact hQ
end Go.Ab.Sha
namespace Go.Ab.aQ
open Go Go.Ab
theorem UW {T size bytes:Nat} {zs:List AV} {M0:RM} {a0:AV} {cs:List AV} {n:Nat} (h:aD M0 size a0 cs n) (h1:cs.all oneCell=true) (hs:1≤size) (hn:n * bytes≤140737488355328) (hn2:n≤140737488355328) {Q:ak}
  (hQ:∀ v M',Own M' M0.next T size v cs n→ae [] M0 M'→Q v M') :
  fU false 2 a0 bA fun t4=>az t4 (Q bA M0) (bn T 0 zs [] fun r f=>aO r f M0 fun t5 M=>appW T size bytes zs false t5 a0 M fun t7 M_0=>Q t7 M_0):=by
 rcases h.xS false with⟨rfl,e⟩ | ⟨hne,e⟩
 ·rw[e]
  cases h
  exact⟨fun _=>hQ _ _ .nil (ae.refl _ _),fun h=>by simp at h⟩
 ·rw[e]
  refine⟨fun h=>by simp at h,fun _=>⟨[],rfl, ?_⟩⟩
  have hk:ae [] M0 (M0.push (.row [] false T 0)):=(ae.refl _ _).push _
  refine qH (base:=M0.next) (Own.lit M0 (Nat.le_refl _)) (by simp[RM.push]) hs ((h.keep hk (by simp)).mr _) h.length h1 (by rw[Nat.zero_add]; exact hn) (by omega) ?_
  intro v' M' ho hk' hnx hv
  exact hQ v' M' (by simpa using ho) (hk.bu hk' (by simp[ah]))
def kN (T size bytes:Nat) (c:au) : Prop:=∀ {M0:RM} {a0:AV} {cs:List AV} {n:Nat},aD M0 size a0 cs n→cs.all oneCell=true→n * bytes≤140737488355328→n≤140737488355328→∀ {Q:ak},
 (∀ v M',Own M' M0.next T size v cs n→ae [] M0 M'→Q v M')→c [a0] M0 Q
def gm (v:Nat) : List UInt8:=if v<128 then[UInt8.ofNat v] else UInt8.ofNat (v % 128 + 128) :: gm (v / 128) termination_by v decreasing_by omega
theorem vB {v:Nat} (h:v<128) : gm v=[UInt8.ofNat v]:=by rw[gm,if_pos h]
theorem Cj {v:Nat} (h:¬ v<128) : gm v=UInt8.ofNat (v % 128 + 128) :: gm (v / 128):=by rw[gm,if_neg h]
theorem DL:∀ (k v:Nat),1≤k→v<128 ^ k→(gm v).length≤k
 | 0,_,h,_=>by omega
 | k + 1,v,_,h=>by
   by_cases hv:v<128
   ·rw[vB hv]; simp
   ·rw[Cj hv]
    simp only[List.length_cons]
    have:1≤k:=by
     rcases k with _ | k
     ·simp at h; omega
     ·omega
    have:=DL k (v / 128) this (by rw[Nat.pow_succ] at h; omega)
    omega
abbrev eG (l:List UInt8) : List AV:=l.map fun b=>N .u8 b.toNat
theorem mY (l:List UInt8) : (eG l).all oneCell=true:=by simp[oneCell]
def S9 (T:Nat) (c:au) : Prop:=∀ {M0:RM} {a0:AV} {cs:List AV} {n v:Nat},aD M0 1 a0 cs n→cs.all oneCell=true→n + 10≤140737488355328→v<2 ^ 64→∀ {Q:ak},
 (∀ r M',Own M' M0.next T 1 r (cs++eG (gm v)) (n + (gm v).length)→ae [] M0 M'→Q r M')→c [a0,N .u64 v] M0 Q
theorem ME {T base:Nat} {M:RM} {b:AV} {cs:List AV} {n:Nat} {x:AV} {K:ak} (ho:Own M base T 1 b cs n) (hb:base≤M.next) (hx:oneCell x=true) (hc:x.cells=[x]) (hn:n + 1≤140737488355328)
  (hK:∀ v' M',Own M' base T 1 v' (cs++[x]) (n + 1)→ae (ah b) M M'→K v' M') : bn T 1 [N .u8 0] [(0,1,x)] fun r f=>aO r f M fun t M1=>appW T 1 1 [N .u8 0] false b t M1 K:=by
 refine⟨[x],by simp[lG,ig,hc,hx], ?_⟩
 dsimp only
 rw[aL]
 have hk:ae [] M (M.push (.row [x] false T 0)):=(ae.refl _ _).push _
 have hs:aD (M.push (.row [x] false T 0)) 1 (.slc M.next 0 1 (.ex 1)) [x] 1:=.slc _ _ _ _ _ (by simp[RM.push]) (RM.gV (RM.bR _) (by simp))
 refine qH (ho.keep hk (by simp)) (Nat.le_trans hb hk.next) (Nat.le_refl _) (hs.mr _) (by simp) (by simpa using hx) (by omega) (by omega) ?_
 intro v' M' h1 h2 h3 h4
 exact hK v' M' h1 ((hk.mono (by simp)).trans h2)
theorem YF (m:Nat) : N .u8 (Ae .u8 (IntKind.u8.wrap (m:Int)) 128)=N .u8 ((UInt8.ofNat (m % 128 + 128)).toNat:Int):=by
 have e1:(128:Int)=((128:Nat) : Int):=rfl
 rw[e1,wrap_u8,Qj rfl,IB,aav (by omega)]
 simp only[rM]
 congr 2
 omega
theorem Qw {m:Nat} (h:m<128) : N .u8 (IntKind.u8.wrap (m:Int))=N .u8 ((UInt8.ofNat m).toNat:Int):=by
 rw[wrap_u8,IB]
theorem adJ (m:Nat) : N .u64 (jK .u64 (m:Int) 7)=N .u64 ((m / 128:Nat) : Int):=by
 rw[show(7:Int)=((7:Nat) : Int) from rfl,Nb _ _ _ (by decide)]
theorem Vb {T:Nat} {c:au} (hc:kN T 1 1 c) : S9 T fun args M Q=>∃ a0 a1,args=[a0,a1]∧Oj c T a0 a1 M Q:=by
 intro M0 a0 cs n v h h1 hn hv Q hQ
 refine⟨a0,_,rfl, ?_⟩
 unfold Oj
 refine hc h h1 (by omega) (by omega) fun b0 M ho hk=>?_
 refine Uz (fun m xs M=>∃ b w done,m=w∧xs=[b,N .u64 (w:Nat)]∧Own M M0.next T 1 b (cs++eG done) (n + done.length)∧ae [] M0 M∧done++gm w=gm v∧w<2 ^ 64) v ⟨b0,v,[],rfl,rfl,by simpa using ho,hk,rfl,hv⟩ ?_
 rintro m ys M1 ⟨b,w,done,rfl,rfl,ho,hk,hd,hw⟩
 have hlen:=DL 10 v (by omega) (by omega)
 rw[← hd,List.length_append] at hlen
 dsimp only
 simp only[go_sem,aa]
 refine⟨fun hge=>?_,fun hlt=>?_⟩
 ·have hge:¬ m<128:=by simp at hge; omega
  rw[Cj hge,List.length_cons] at hlen
  refine ME ho hk.next rfl rfl (by omega) fun b' M' ho' hk'=>?_
  refine⟨by omega,m / 128,by omega,b',m / 128,done++[UInt8.ofNat (m % 128 + 128)],rfl, ?_, ?_,hk.bu hk' (fun c hc=>.inl (ho.blk c hc).1), ?_,by omega⟩
  ·rw[adJ]
  ·rw[YF] at ho'
   simpa [Nat.add_assoc] using ho'
  ·rw[← hd,Cj hge]; simp
 ·have hlt:m<128:=by simp at hlt; omega
  refine ME ho hk.next rfl rfl (by rw[vB hlt] at hlen; simp at hlen; omega) fun b' M' ho' hk'=>?_
  refine hQ b' M' ?_ (hk.bu hk' (fun c hc=>.inl (ho.blk c hc).1))
  rw[← hd,vB hlt]
  rw[Qw hlt] at ho'
  simpa [Nat.add_assoc] using ho'
def Asc (xs:List Nat) : Prop:=xs.Pairwise (· < ·)
def below (n:Nat) (xs:List Nat) : Nat:=(xs.takeWhile (fun x=>decide (x<n))).length
theorem Asc.lt {xs:List Nat} (h:Asc xs) {i j:Nat} (hij:i<j) (hj:j<xs.length) : xs[i]'(by omega)<xs[j]:=List.pairwise_iff_getElem.1 h i j (by omega) hj hij
theorem MJ {n:Nat} : ∀ {xs:List Nat} {k:Nat} (hk:k<xs.length),k<below n xs→xs[k]<n
 | x :: xs,k,hk,h=>by
   unfold below at h
   rw[List.takeWhile_cons] at h
   split at h
   ·rename_i hx
    cases k with
    | zero=>simpa using hx
    | succ k=>exact MJ (xs:=xs) (k:=k) (by simpa using hk) (by unfold below; simpa using h)
   ·simp at h
theorem MH {n:Nat} : ∀ {xs:List Nat} (h:below n xs<xs.length),n≤xs[below n xs]
 | x :: xs,h=>by
   unfold below at *
   rw[List.takeWhile_cons] at h
   simp only[List.takeWhile_cons]
   by_cases hx:x<n
   ·simp only[hx,decide_true,if_true,List.length_cons] at h ⊢
    exact MH (xs:=xs) (by unfold below; omega)
   ·simp only[hx,decide_false,Bool.false_eq_true,if_false,List.length_nil,List.getElem_cons_zero]
    omega
theorem half (i j:Nat) (h:i + j<9223372036854775808) : N .i64 (IntKind.i64.wrap (jK .u64 (IntKind.u64.wrap (IntKind.i64.wrap ((i:Int) + (j:Int)))) 1))=N .i64 (((i + j) / 2:Nat) : Int):=by
 rw[show IntKind.i64.wrap ((i:Int) + (j:Int))=((i + j:Nat) : Int) by rw[aP (by omega) (by omega)]; rfl]
 rw[show IntKind.u64.wrap (((i + j:Nat) : Int))=((i + j:Nat) : Int) by unfold IntKind.wrap; simp[IntKind.bits,IntKind.signed]; omega]
 rw[show(1:Int)=((1:Nat) : Int) from rfl,Nb _ _ _ (by decide)]
 rw[show((i + j:Nat) / 2 ^ 1)=(i + j) / 2 by simp]
 rw[aP (by omega) (by omega)]
theorem Np {size b o n at' : Nat} (h:at'<n) : bK size (.slc b o n (.op size)) (some (N .i64 (at' : Int))) none none=some (.slc b (o + at' * size) (n - at') (.op size)):=by
 simp only[bK,bnd]
 simp[Nat.le_of_lt h]
 omega
def jH:AV→Prop
 | .slc _ _ n (.ex c)=>n≤c
 | .slc _ _ _ (.op e)=>e=1
 | _=>True
def Gp (k x:Nat) (xs:List Nat) : List Nat:=xs.take k++x :: xs.drop k
theorem Own.jH {M:RM} {n el n0:Nat} {v:AV} {cs:List AV} (h:Own M n0 el 1 v cs n) : jH v:=by
 cases h with
 | nil=>trivial
 | ex0=>exact Nat.le_refl _
 | op=>rfl
def oV:Nat→List Nat→Nat × Nat
 | u,[]=>(u,0)
 | u,x :: xs=>if x≤u + 1 then((oV (max u x) xs).1,(oV (max u x) xs).2 + 1) else(u,0)
def settle (u:Nat) (xs:List Nat) : Nat × List Nat:=((oV u xs).1,xs.drop (oV u xs).2)
abbrev Pt:=Nat × List Nat
def Sg (p:Pt) (n:Nat) : Bool × Pt :=
 if n∈p.2∨n≤p.1 then(true,p)
 else if (settle p.1 (Gp (below n p.2) n p.2)).2.length≤4096 then(true,settle p.1 (Gp (below n p.2) n p.2)) else(false,p)
theorem N9 {k x:Nat} {xs:List Nat} {y:Nat} (h:y∈Gp k x xs) : y=x∨y∈xs:=by
 unfold Gp at h
 rcases List.mem_append.1 h with h | h
 ·exact .inr (List.mem_of_mem_take h)
 ·rcases List.mem_cons.1 h with h | h
  ·exact .inl h
  ·exact .inr (List.mem_of_mem_drop h)
abbrev aQ:=Int × Nat
abbrev MU (d:aQ) : List AV:=[N .i64 d.1,N .u64 (d.2:Int)]
def yX:Enc aQ:=⟨2,MU,fun _=>rfl,fun _=>rfl⟩
def good (d:aQ) : Bool:=decide (0≤d.1) && decide (d.1<16) && decide (1≤d.2) && decide (d.2≤1099511627776)
def CY (p:Pt) : Prop:=Asc p.2∧(∀ x∈p.2,p.1 + 1<x)∧p.1≤1099511627776∧(∀ x∈p.2,x≤1099511627776)∧p.2.length≤4096
theorem VK {n:Nat} {xs:List Nat} (h:Asc xs) (hn:n ∉ xs) : Asc (Gp (below n xs) n xs):=by
 unfold Gp Asc
 rw[List.pairwise_append]
 have ht:=List.Pairwise.sublist (List.take_sublist (below n xs) xs) h
 have hd:=List.Pairwise.sublist (List.drop_sublist (below n xs) xs) h
 have lt1:∀ a∈xs.take (below n xs),a<n:=fun a ha=>by
  obtain⟨i,hi,rfl⟩:=List.getElem_of_mem ha
  rw[List.getElem_take]
  exact MJ (by simp at hi; omega) (by simp at hi; omega)
 have gt1:∀ a∈xs.drop (below n xs),n<a:=fun a ha=>by
  obtain⟨i,hi,rfl⟩:=List.getElem_of_mem ha
  rw[List.getElem_drop]
  simp only[List.length_drop] at hi
  have h0:below n xs<xs.length:=by omega
  have h1:=MH (n:=n) h0
  have h2:xs[below n xs]≠n:=fun e=>hn (by rw[← e]; exact List.getElem_mem h0)
  rcases Nat.eq_zero_or_pos i with rfl | hi0
  ·simp only[Nat.add_zero]; omega
  ·have:=h.lt (i:=below n xs) (j:=below n xs + i) (by omega) (by omega); omega
 refine⟨ht,List.pairwise_cons.2 ⟨gt1,hd⟩,fun a ha b hb=>?_⟩
 rcases List.mem_cons.1 hb with rfl | hb
 ·exact lt1 a ha
 ·have:=lt1 a ha; have:=gt1 b hb; omega
theorem Ea:∀ (xs:List Nat) (u N:Nat),Asc xs→u≤N→(∀ x∈xs,x≤N)→Asc (settle u xs).2∧(∀ x∈(settle u xs).2,(settle u xs).1 + 1<x)∧(settle u xs).1≤N∧u≤(settle u xs).1
 | [],u,N,_,hu,_=>⟨by simp[settle,oV,Asc],by simp[settle,oV],hu,Nat.le_refl _⟩
 | x :: xs,u,N,ha,hu,hx=>by
   have ha2:=(List.pairwise_cons.1 ha).2
   by_cases h:x≤u + 1
   ·have e:settle u (x :: xs)=settle (max u x) xs:=by
     unfold settle
     rw[oV,if_pos h]; rfl
    rw[e]
    have:=Ea xs (max u x) N ha2 (by have:=hx x (by simp); omega) (fun y hy=>hx y (by simp[hy]))
    exact⟨this.1,this.2.1,this.2.2.1,by have:=this.2.2.2; omega⟩
   ·have e:settle u (x :: xs)=(u,x :: xs):=by
     unfold settle
     rw[oV,if_neg h]; rfl
    rw[e]
    refine⟨ha,fun y hy=>?_,hu,Nat.le_refl _⟩
    simp only at hy ⊢
    rcases List.mem_cons.1 hy with rfl | hy
    ·omega
    ·have:=(List.pairwise_cons.1 ha).1 y hy; omega
theorem Su {u:Nat} {xs:List Nat} {y:Nat} (h:y∈(settle u xs).2) : y∈xs:=List.mem_of_mem_drop h
theorem YJ {p:Pt} {n:Nat} (hp:CY p) (hn:n≤1099511627776) : CY (Sg p n).2:=by
 unfold Sg
 split
 ·exact hp
 ·rename_i h
  split
  ·rename_i h2
   have hm:n ∉ p.2:=fun hm=>h (.inl hm)
   have:=Ea (Gp (below n p.2) n p.2) p.1 1099511627776 (VK hp.1 hm) hp.2.2.1 (fun x hx=>by rcases N9 hx with rfl | hx; exact hn; exact hp.2.2.2.1 x hx)
   exact⟨this.1,this.2.1,this.2.2.1,fun x hx=>by rcases N9 (Su hx) with rfl | hx; exact hn; exact hp.2.2.2.1 x hx,h2⟩
  ·exact hp
structure lY (T:Nat) (S:Nat→Prop) (M:RM) (b:Nat) (ps:List Pt) : Prop where
 lt:b<M.next
 len:ps.length=16
 row:∃ l,M.heap b=some (.row l false T 0)∧l.length=32∧∀ (i:Nat) (hi:i<ps.length),∃ v,l[2 * i]?=some (N .u64 (ps[i].1:Int))∧l[2 * i + 1]?=some v∧Sl fe M v ps[i].2∧jH v∧∀ d∈ah v,S d
 nb:¬ S b
theorem lY.mono {T:Nat} {S S' : Nat→Prop} {M:RM} {b:Nat} {ps:List Pt} (h:lY T S M b ps) (hs:∀ d,S d→S' d) (hb:¬ S' b) : lY T S' M b ps:=by
 obtain⟨l,h1,h2,h3⟩:=h.row
 exact⟨h.lt,h.len,⟨l,h1,h2,fun i hi=>let ⟨v,a1,a2,a3,a4,a5⟩:=h3 i hi; ⟨v,a1,a2,a3,a4,fun d hd=>hs d (a5 d hd)⟩⟩,hb⟩
theorem lY.keep {T:Nat} {S:Nat→Prop} {M M' : RM} {b:Nat} {ps:List Pt} {bs:List Nat} (h:lY T S M b ps) (hk:ae bs M M') (hb:b ∉ bs) (hs:∀ d∈bs,¬ S d) : lY T S M' b ps:=by
 obtain⟨l,h1,h2,h3⟩:=h.row
 exact⟨Nat.lt_of_lt_of_le h.lt hk.next,h.len,⟨l,hk.aB h1 h.lt hb,h2,fun i hi=>let ⟨v,a1,a2,a3,a4,a5⟩:=h3 i hi; ⟨v,a1,a2,aD.keep a3 hk (fun d hd hm=>hs d hm (a5 d hd)),a4,a5⟩⟩,h.nb⟩
def BD (ps:List Pt) (d:aQ) : Int × List Pt :=
 if good d then(if (Sg (ps.getD d.1.toNat (0,[])) d.2).1 then(0,ps.set d.1.toNat (Sg (ps.getD d.1.toNat (0,[])) d.2).2) else(2,ps)) else(1,ps)
def abC (T:Nat) (c:au) : Prop:=∀ {M:RM} {b:Nat} {ps:List Pt} {d:aQ} {S:Nat→Prop} {Q:ak},lY T S M b ps→(∀ p∈ps,CY p) →
 (∀ M',lY T (fun e=>S e∨M.next≤e) M' b (BD ps d).2→ae [b] M M'→Q (N .i64 (BD ps d).1) M')→c [.ptr b 0,.agg (MU d)] M Q
def wB:List Pt:=List.replicate 16 (0,[])
def AB (T:Nat) (c:au) : Prop:=∀ {M:RM} {Q:ak},(∀ M',lY T (fun _=>False) M' M.next wB→ae [] M M'→M'.next=M.next + 1→Q (.ptr M.next 0) M')→c [] M Q
theorem He {T:Nat} : AB T fun args M Q=>args=[]∧XH T M Q:=by
 intro M Q hQ
 refine⟨rfl, ?_⟩
 unfold XH
 rw[jr]
 refine⟨_,rfl, ?_⟩
 rw[mI rfl (by simp),aL]
 refine hQ _ ⟨by simp[RM.push],rfl,⟨_,RM.bR _,rfl,fun i hi=>?_⟩,id⟩ ((ae.refl _ _).push _) rfl
 have hi:i<16:=hi
 refine⟨bA, ?_, ?_, ?_,trivial,by simp[ah]⟩
 ·obtain rfl | rfl | rfl | rfl | rfl | rfl | rfl | rfl | rfl | rfl | rfl | rfl | rfl | rfl | rfl | rfl:i=0∨i=1∨i=2∨i=3∨i=4∨i=5∨i=6∨i=7∨i=8∨i=9∨i=10∨i=11∨i=12∨i=13∨i=14∨i=15:=by omega
  all_goals rfl
 ·obtain rfl | rfl | rfl | rfl | rfl | rfl | rfl | rfl | rfl | rfl | rfl | rfl | rfl | rfl | rfl | rfl:i=0∨i=1∨i=2∨i=3∨i=4∨i=5∨i=6∨i=7∨i=8∨i=9∨i=10∨i=11∨i=12∨i=13∨i=14∨i=15:=by omega
  all_goals rfl
 ·simp only[wB,List.getElem_replicate]; exact .nil
section
variable {α:Type} {E:Enc α}
theorem Oc {M:RM} {v:AV} {xs:List α} {k:Nat} (hE:E.size=1) (h:Sl E M v xs) (hc:jH v) (hk:k≤xs.length) :
  ∃ v',bK 1 v (some (N .i64 (k:Int))) none none=some v'∧Sl E M v' (xs.drop k)∧jH v'∧∀ b∈ah v',b∈ah v:=by
 generalize hcs:E.row xs=cs at *
 have h' : aD M 1 v cs xs.length:=by rw[← hcs,← hE]; exact h
 have hl:cs.length=xs.length:=by rw[← hcs,Enc.iL,hE,Nat.mul_one]
 have hd:E.row (xs.drop k)=cs.drop k:=by rw[← hcs,← E.qR,hE,Nat.mul_one]
 have goal:∀ v',Sl E M v' (xs.drop k)↔aD M 1 v' (cs.drop k) (xs.length - k):=fun v'=>by simp only[Sl]; rw[hd,List.length_drop,hE]
 generalize hn:xs.length=n at *
 cases h' with
 | nil =>
   have:k=0:=by omega
   subst this
   exact⟨bA,by simp[bK,bnd],(goal _).2 (by simp; exact .nil),trivial,by simp⟩
 | emp b =>
   have:k=0:=by omega
   subst this
   exact⟨.emp b,by simp[bK,bnd],(goal _).2 (by simp; exact .emp b),trivial,by simp⟩
 | slc b o n cap cs hb hload =>
   rw[Nat.mul_one] at hload
   have xA:M.loads b (o + k) (n - k)=some (cs.drop k):=by
    have:=pE hload k (n - k) (by omega)
    rw[List.take_of_length_le (by simp; omega)] at this
    exact this
   cases cap with
   | ex c =>
     have hcn:n≤c:=hc
     by_cases hck:c=k
     ·have hkn:k=n:=by omega
      refine⟨.slc b o 0 (.ex 0),by simp only[bK,bnd]; simp[hk,hcn,hck]; omega, ?_,Nat.le_refl _,by simp[ah]⟩
      rw[goal,hkn,Nat.sub_self,List.drop_of_length_le (by omega)]
      refine .slc b o 0 _ _ hb ?_
      have:=pE hload 0 0 (by omega)
      simpa using this
     ·refine⟨.slc b (o + k * 1) (n - k) (.ex (c - k)),by simp only[bK,bnd]; simp[hk,hcn,hck], ?_,by simp only[jH]; omega,by simp[ah]⟩
      rw[goal]
      refine .slc _ _ _ _ _ hb ?_
      show M.loads b (o + k * 1) ((n - k) * 1)=_
      rw[Nat.mul_one,Nat.mul_one]; exact xA
   | op e =>
     have he:e=1:=hc
     subst he
     by_cases hkn:n≤k
     ·refine⟨.emp b,by simp only[bK,bnd]; simp[hk,hkn], ?_,trivial,by simp[ah]⟩
      rw[goal,show n - k=0 by omega,List.drop_of_length_le (by omega)]
      exact .emp b
     ·refine⟨.slc b (o + k * 1) (n - k) (.op 1),by simp only[bK,bnd]; simp[hk,hkn], ?_,rfl,by simp[ah]⟩
      rw[goal]
      refine .slc _ _ _ _ _ hb ?_
      show M.loads b (o + k * 1) ((n - k) * 1)=_
      rw[Nat.mul_one,Nat.mul_one]; exact xA
theorem Zy {M:RM} {v:AV} {xs:List α} {k:Nat} (hE:E.size=1) (h:Sl E M v xs) (hc:jH v) (hk:k≤xs.length) :
  ∃ v',bK 1 v none (some (N .i64 (k:Int))) none=some v'∧Sl E M v' (xs.take k):=by
 generalize hcs:E.row xs=cs at *
 have h' : aD M 1 v cs xs.length:=by rw[← hcs,← hE]; exact h
 have hl:cs.length=xs.length:=by rw[← hcs,Enc.iL,hE,Nat.mul_one]
 have hd:E.row (xs.take k)=cs.take k:=by rw[← hcs,← E.qE,hE,Nat.mul_one]
 have goal:∀ v',Sl E M v' (xs.take k)↔aD M 1 v' (cs.take k) k:=fun v'=>by simp only[Sl]; rw[hd,List.length_take,hE,Nat.min_eq_left hk]
 generalize hn:xs.length=n at *
 cases h' with
 | nil =>
   have:k=0:=by omega
   subst this
   exact⟨bA,by simp[bK,bnd],(goal _).2 (by simp; exact .nil)⟩
 | emp b =>
   have:k=0:=by omega
   subst this
   exact⟨.emp b,by simp[bK,bnd],(goal _).2 (by simp; exact .emp b)⟩
 | slc b o n cap cs hb hload =>
   rw[Nat.mul_one] at hload
   have xA:M.loads b o k=some (cs.take k):=by
    have:=pE hload 0 k (by omega)
    simpa using this
   cases cap with
   | ex c =>
     have hcn:n≤c:=hc
     by_cases hc0:c=0
     ·have hk0:k=0:=by omega
      subst hk0
      refine⟨.slc b o 0 (.ex 0),by simp only[bK,bnd]; simp[hc0], ?_⟩
      rw[goal]
      refine .slc b o 0 _ _ hb ?_
      simpa using xA
     ·refine⟨.slc b o k (.ex c),by simp only[bK,bnd]; simp[hc0]; omega, ?_⟩
      rw[goal]
      refine .slc _ _ _ _ _ hb ?_
      rw[Nat.mul_one]; exact xA
   | op e =>
     have he:e=1:=hc
     subst he
     by_cases hn0:n=0
     ·have hk0:k=0:=by omega
      subst hk0
      refine⟨.emp b,by simp only[bK,bnd]; simp[hn0], ?_⟩
      rw[goal]; simp; exact .emp b
     ·refine⟨.slc b o k (.op 1),by simp only[bK,bnd]; simp[hk,hn0], ?_⟩
      rw[goal]
      refine .slc _ _ _ _ _ hb ?_
      rw[Nat.mul_one]; exact xA
end
def qV:Nat→Nat→List UInt8→Option (Nat × Nat)
 | _,_,[]=>none
 | i,v,x :: xs =>
   if x.toNat ≥ 128 then qV (i + 1) ((v ||| (x.toNat % 128 * 2 ^ (7 * i) % 2 ^ 64)) % 2 ^ 64) xs
   else if x.toNat=0∧i > 0∨i=9∧x.toNat > 1 then none else some ((v ||| (x.toNat % 128 * 2 ^ (7 * i) % 2 ^ 64)) % 2 ^ 64,i + 1)
def yS (bs:List UInt8) : Option (Nat × Nat):=qV 0 0 (bs.take 10)
theorem P8:∀ (bs:List UInt8) (i v:Nat) {w n:Nat},qV i v bs=some (w,n)→w<2 ^ 64∧i<n∧n≤i + bs.length
 | [],_,_,_,_,h=>by simp[qV] at h
 | x :: xs,i,v,w,n,h=>by
   rw[qV] at h
   split at h
   ·have:=P8 xs _ _ h
    simp only[List.length_cons]; omega
   ·split at h
    ·cases h
    ·simp only[Option.some.injEq,Prod.mk.injEq] at h
     obtain⟨rfl,rfl⟩:=h
     refine⟨Nat.mod_lt _ (by decide),by omega,by simp⟩
theorem Qk {bs:List UInt8} {w n:Nat} (h:yS bs=some (w,n)) : w<2 ^ 64∧0<n∧n≤bs.length∧n≤10:=by
 have:=P8 _ _ _ h
 rw[List.length_take] at this
 omega
structure Cu (T:Nat) (S:Nat→Prop) (M:RM) (r:Nat) (bs:List UInt8) (f:Bool) : Prop where
 lt:r<M.next
 row:∃ v,M.heap r=some (.row [v,Bo f] false T 0)∧Sl BY M v bs∧jH v∧∀ d∈ah v,S d
 nb:¬ S r
theorem Cu.keep {T:Nat} {S:Nat→Prop} {M M' : RM} {r:Nat} {bs:List UInt8} {f:Bool} {ks:List Nat} (h:Cu T S M r bs f) (hk:ae ks M M') (hr:r ∉ ks) (hs:∀ d∈ks,¬ S d) : Cu T S M' r bs f:=by
 obtain⟨v,h1,h2,h3,h4⟩:=h.row
 exact⟨Nat.lt_of_lt_of_le h.lt hk.next,⟨v,hk.aB h1 h.lt hr,aD.keep h2 hk (fun d hd hm=>hs d hm (h4 d hd)),h3,h4⟩,h.nb⟩
def Wv (bs:List UInt8) : List AV:=match yS bs with
 | some (v,n)=>[N .u64 (v:Int),N .i64 (n:Int),Bo true]
 | none=>[N .u64 0,N .i64 0,Bo false]
def VW (T:Nat) (c:au) : Prop:=∀ {M:RM} {r:Nat} {S:Nat→Prop} {bs:List UInt8} {f:Bool} {Q:ak},Cu T S M r bs f→Q (.tup (Wv bs)) M→c [.ptr r 0] M Q
theorem aag (x:UInt8) : N .u8 (nI .u8 (x.toNat:Int) 127)=N .u8 ((x.toNat % 128:Nat) : Int):=by
 rw[show(127:Int)=((127:Nat) : Int) from rfl,Vy rfl]
 have:x.toNat &&& 127=x.toNat % 128:=Nat.and_two_pow_sub_one_eq_mod x.toNat 7
 rw[this]
 simp only[rM]
 congr 2
 have:=EN x
 omega
theorem Qa (a b:Nat) : (if ((b:Nat) : Int)<(a:Int) then(b:Int) else(a:Int))=((min a b:Nat) : Int):=by
 split <;> omega
theorem Vx {T:Nat} : VW T fun args M Q=>∃ a0,args=[a0]∧qo a0 M Q:=by
 intro M r S bs f Q h hQ
 refine⟨_,rfl, ?_⟩
 obtain⟨v,hr,hs,hc,hS⟩:=h.row
 unfold qo
 rw[Wm,bP,uZ,aF hr rfl,bP,uZ,aF hr rfl,aD.len hs,Z9,if_neg (by decide),show(10:Int)=((10:Nat) : Int) from rfl,Qa]
 obtain⟨c,e1,e2⟩:=Zy (k:=min bs.length 10) rfl hs hc (Nat.min_le_left _ _)
 rw[e1,iF,aD.len e2]
 have hlen:(bs.take (min bs.length 10)).length=min bs.length 10:=by rw[List.length_take]; omega
 have htk:bs.take (min bs.length 10)=bs.take 10:=by
  rcases Nat.le_total bs.length 10 with hh | hh
  ·rw[Nat.min_eq_left hh,List.take_length,List.take_of_length_le hh]
  ·rw[Nat.min_eq_right hh]
 rw[htk] at e2 hlen ⊢
 have hll:(bs.take 10).length≤10:=by omega
 unfold Wv yS at hQ
 generalize bs.take 10=ls at *
 refine aG (fun m ys M3=>∃ (i u:Nat),m=ls.length - i∧ys=[N .u64 (u:Int),N .i64 (i:Int)]∧i≤ls.length∧M3=M∧qV 0 0 ls=qV i u (ls.drop i)) _
  ⟨0,0,rfl,rfl,Nat.zero_le _,rfl,rfl⟩ ?_
 rintro next m ys M3 hnext ⟨i,u,rfl,rfl,hi,rfl,hset⟩
 dsimp only[aa]
 rw[dK]
 refine aJ (fun hlt=>?_) (fun hge=>?_)
 ·have hlt:i<ls.length:=by simpa using hlt
  obtain⟨b1,o1,_,_,hidx,hcell⟩:=Sl.Qd (E:=BY) e2 (i:Int) hlt
  rw[List.drop_eq_getElem_cons hlt,qV] at hset
  rw[hidx,dM]
  refine⟨_,hcell _ rfl, ?_⟩
  generalize hx:ls[i]=x at *
  have hx256:=EN x
  rw[dB,aag,cZ,wrap_u64,Nat.mod_eq_of_lt (by omega:x.toNat % 128<18446744073709551616),fK,show(7:Int) * (i:Int)=((7 * i:Nat) : Int) by omega,aP (by omega) (by omega),jM]
  refine⟨by omega, ?_⟩
  rw[OJ rfl _ _ (by show 7 * i≤64; omega),dV,Qj rfl,fV]
  simp only[rM]
  generalize hw:(u ||| (x.toNat % 128 * 2 ^ (7 * i) % 2 ^ 64)) % 2 ^ 64=w at *
  refine aJ (fun hbig=>?_) (fun hsm=>?_)
  ·have hbig:x.toNat ≥ 128:=by
    have:(x.toNat:Int) ≥ 128:=of_decide_eq_true hbig
    omega
   rw[if_pos hbig] at hset
   rw[bz,mK (by omega)]
   exact hnext _ _ _ (by omega) ⟨i + 1,w,rfl,rfl,by omega,rfl,hset⟩
  ·have hsm:¬ x.toNat ≥ 128:=by
    have:¬ (x.toNat:Int) ≥ 128:=of_decide_eq_false hsm
    omega
   rw[if_neg hsm] at hset
   have bad:(x.toNat=0∧i > 0∨i=9∧x.toNat > 1)→Q (.tup [N .u64 0,N .i64 0,Bo false]) M3:=fun h=>by
    rw[if_pos h] at hset
    rw[hset] at hQ
    exact hQ
   have okk:¬ (x.toNat=0∧i > 0∨i=9∧x.toNat > 1)→Q (.tup [N .u64 (w:Int),N .i64 ((i + 1:Nat) : Int),Bo true]) M3:=fun h=>by
    rw[if_neg h] at hset
    rw[hset] at hQ
    exact hQ
   have aaO:¬ (x.toNat=0∧i > 0∨i=9∧x.toNat > 1)→af .add (N .i64 (i:Int)) (N .i64 1) fun t50=>Q (.tup [N .u64 (w:Int),t50,Bo true]) M3:=fun h=>by
    rw[bz,mK (by omega)]
    exact okk h
   rw[bS]
   -- the second half of the question
   have second:¬ (x.toNat=0∧i > 0)→af .eql (N .i64 (i:Int)) (N .i64 9) fun t42 =>
     ax t42 true (fun ado=>ado (N .u8 (x.toNat:Int)) M3) (fun k=>k .undef M3) fun t44 aaP =>
     ax t42 true (fun ac9=>af .gtr t44 (N .u8 1) fun t45=>ac9 t45 aaP) (fun k=>k .undef aaP) fun Zl aaF =>
     ax (Bo false) false (fun ad7=>aV t42 Zl (Bo false) fun t46=>ad7 t46 aaF) (fun k=>k .undef aaF) fun ZF JJ =>
     aV (Bo false) (Bo true) ZF fun t47=>az t47 (Q (.tup [N .u64 0,N .i64 0,Bo false]) JJ) (af .add (N .i64 (i:Int)) (N .i64 1) fun t50=>Q (.tup [N .u64 (w:Int),t50,Bo true]) JJ):=fun hn=>by
    rw[bS]
    by_cases h9:i=9
    ·rw[show((i:Int) == 9)=true by simp; omega,fH]
     dsimp only
     rw[fH,fZ]
     dsimp only
     rw[bU]
     dsimp only
     rw[dX,dQ]
     refine aJ (fun hg=>bad (.inr ⟨h9, ?_⟩)) (fun hg=>aaO ?_)
     ·have:(x.toNat:Int) > 1:=of_decide_eq_true hg
      omega
     ·have:¬ (x.toNat:Int) > 1:=of_decide_eq_false hg
      rintro(h | h)
      ·exact hn h
      ·omega
    ·rw[show((i:Int) == 9)=false by simp; omega,jv]
     dsimp only
     rw[jv]
     dsimp only
     rw[bU]
     dsimp only
     rw[dQ,dQ,dH]
     refine aaO ?_
     rintro(h | h)
     ·exact hn h
     ·omega
   by_cases h0:x.toNat=0
   ·rw[show((x.toNat:Int) == 0)=true by simp[h0],fH]
    dsimp only
    rw[fH,fZ]
    dsimp only
    rw[dX]
    by_cases hi0:i > 0
    ·rw[show decide ((i:Int) > 0)=true by simpa using hi0,gp]
     dsimp only
     rw[gp]
     dsimp only
     rw[gp]
     dsimp only
     rw[GM]
     dsimp only
     rw[GM]
     dsimp only
     rw[gp]
     dsimp only
     rw[dX,fo]
     exact bad (.inl ⟨h0,hi0⟩)
    ·rw[show decide ((i:Int) > 0)=false by simp; omega,bU]
     have:=second (fun h=>hi0 h.2)
     dsimp only
     rw[bU]
     dsimp only at this ⊢
     rw[bS] at this ⊢
     rw[bU]
     dsimp only
     exact this
   ·rw[show((x.toNat:Int) == 0)=false by simp; omega,jv]
    dsimp only
    rw[jv]
    dsimp only
    rw[dQ,bU]
    have:=second (fun h=>h0 h.1)
    dsimp only
    rw[bU]
    dsimp only at this ⊢
    rw[bS] at this ⊢
    rw[bU]
    dsimp only
    exact this
 ·have he:i=ls.length:=by simp at hge; omega
  rw[he,List.drop_length,qV] at hset
  rw[hset] at hQ
  exact hQ
def jA (most:Nat) (bs:List UInt8) (f:Bool) : Nat × List UInt8 × Bool :=
 match yS bs with
 | none=>(0,bs,true)
 | some (v,n)=>if f || decide (most<v) then(0,bs,true) else(v,bs.drop n,false)
def VG (T:Nat) (c:au) : Prop:=∀ {M:RM} {r most:Nat} {S:Nat→Prop} {bs:List UInt8} {f:Bool} {Q:ak},Cu T S M r bs f→most<4294967296 →
 (∀ M',Cu T S M' r (jA most bs f).2.1 (jA most bs f).2.2→ae [r] M M'→M'.next=M.next→Q (N .i64 (((jA most bs f).1:Nat) : Int)) M')→c [.ptr r 0,N .i64 (most:Int)] M Q
theorem Oe {M:RM} {f ok:Bool} {v most:Nat} {K:ak} (hm:most<4294967296) (hQ:K (Bo (f || (!ok || decide (most<v)))) M) :
  ax (Bo f) false (fun k'=>ji (Bo ok) fun t21=>k' t21 M) (fun k=>k .undef M) fun abt M_3 =>
  aV (Bo f) (Bo true) abt fun t22 =>
  ax t22 false (fun k'=>af .lss (N .i64 (most:Int)) (N .i64 0) fun t25=>k' t25 M_3) (fun k=>k .undef M_3) fun Rs M_8 =>
  aV t22 (Bo true) Rs fun t26 =>
  ax t26 false (fun k'=>eD .u64 (N .i64 (most:Int)) fun t30=>af .gtr (N .u64 (v:Int)) t30 fun t31=>k' t31 M_8) (fun k=>k .undef M_8) fun MI JJ =>
  aV t26 (Bo true) MI fun t32=>K t32 JJ:=by
 have tail:K (Bo true) M→ax (Bo true) false (fun k'=>af .lss (N .i64 (most:Int)) (N .i64 0) fun t25=>k' t25 M) (fun k=>k .undef M) fun Rs M_8 =>
   aV (Bo true) (Bo true) Rs fun t26 =>
   ax t26 false (fun k'=>eD .u64 (N .i64 (most:Int)) fun t30=>af .gtr (N .u64 (v:Int)) t30 fun t31=>k' t31 M_8) (fun k=>k .undef M_8) fun MI JJ =>
   aV t26 (Bo true) MI fun t32=>K t32 JJ:=fun hK=>by
  rw[gp]
  dsimp only
  rw[dX,gp]
  dsimp only
  rw[dX]
  exact hK
 cases f with
 | true =>
   rw[gp]
   dsimp only
   rw[dX]
   exact tail hQ
 | false =>
   rw[bU]
   dsimp only
   rw[dO]
   cases ok with
   | false =>
     rw[dQ]
     exact tail hQ
   | true =>
     rw[dQ]
     simp only[Bool.not_true]
     rw[bU]
     dsimp only
     rw[dK,show decide ((most:Int)<0)=false by simp]
     rw[dQ,bU]
     dsimp only
     rw[cZ,bZ (by omega) (by omega),fZ,dQ]
     have:decide ((v:Int) > (most:Int))=decide (most<v):=by simp
     rw[this]
     exact hQ
theorem Lf {T:Nat} {M:RM} {r:Nat} {S:Nat→Prop} {bs:List UInt8} {f g:Bool} {n:Nat} {x:AV} {Z:ak} {K:RM→Prop} (h:Cu T S M r bs f) (hn:n≤bs.length)
  (h1:g=true→∀ M',Cu T S M' r bs true→ae [r] M M'→M'.next=M.next→Z x M')
  (h2:g=false→∀ M',Cu T S M' r (bs.drop n) false→ae [r] M M'→M'.next=M.next→K M') :
  fF (.ptr r 0) fun t33=>bT t33 1 fun t34=>aS M t34 (Bo g) 1 fun SS=>fF (.ptr r 0) fun t36=>bT t36 1 fun t37=>ag SS t37 fun t38 =>
   az t38 (Z x SS) (fF (.ptr r 0) fun t41=>bT t41 0 fun t42=>ag SS t42 fun t43=>gQ (bK 1 t43 (some (N .i64 (n:Int))) none none) fun t45 =>
    fF (.ptr r 0) fun t46=>bT t46 0 fun t47=>aS SS t47 t45 1 fun ad9=>K ad9):=by
 obtain⟨v,hr,hs,hc,hS⟩:=h.row
 have hrl:=h.lt
 rw[bP,uZ,gT [v,Bo g] hr (by simp) rfl rfl rfl,bP,uZ,aF (aM _) rfl]
 have kk:ae [r] M (M.put r (.row [v,Bo g] false T 0)):=(ae.refl _ _).put _ (.inr (by simp))
 have hh:(M.put r (.row [v,Bo g] false T 0)).heap r=some (.row [v,Bo g] false T 0):=aM _
 have nn:(M.put r (.row [v,Bo g] false T 0)).next=M.next:=rfl
 generalize M.put r (.row [v,Bo g] false T 0)=M1 at *
 have s1:Sl BY M1 v bs:=aD.keep hs kk (fun d hd hm=>by simp at hm; subst hm; exact h.nb (hS d hd))
 refine aJ (fun hg=>?_) (fun hg=>?_)
 ·subst hg
  exact h1 rfl M1 ⟨by omega,⟨v,hh,s1,hc,hS⟩,h.nb⟩ kk nn
 ·subst hg
  rw[bP,uZ,aF hh rfl]
  obtain⟨v',e1,e2,e3,e4⟩:=Oc rfl s1 hc hn
  rw[e1,iF,bP,uZ,gT [v',Bo false] hh (by simp) (aD.cells e2) (aD.one e2) rfl]
  have k2:ae [r] M1 (M1.put r (.row [v',Bo false] false T 0)):=(ae.refl _ _).put _ (.inr (by simp))
  exact h2 rfl _ ⟨by rw[Be]; omega,⟨v',aM _,aD.keep e2 k2 (fun d hd hm=>by simp at hm; subst hm; exact h.nb (hS d (e4 d hd))),e3,fun d hd=>hS d (e4 d hd)⟩,h.nb⟩ (kk.trans k2) (by rw[Be]; exact nn)
theorem V4 {T:Nat} {cn:au} (hn:VW T cn) : VG T fun args M Q=>∃ a0 a1,args=[a0,a1]∧uX cn a0 a1 M Q:=by
 intro M r most S bs f Q h hm hQ
 refine⟨_,_,rfl, ?_⟩
 unfold uX
 simp only[mX]
 refine hn h ?_
 obtain⟨v,hr,hs,hc,hS⟩:=h.row
 unfold jA at hQ
 unfold Wv
 cases hnb:yS bs with
 | none =>
   simp only[hnb] at hQ
   dsimp only
   rw[cz,dD,jd,bP,uZ,aF hr rfl]
   refine Oe (v:=0) (ok:=false) hm ?_
   refine Lf (n:=0) (Z:=Q) h (Nat.zero_le _) (fun _ M' q1 q2 q3=>hQ M' q1 q2 q3) (fun hg=>by simp at hg)
 | some p =>
   obtain⟨w,n⟩:=p
   simp only[hnb] at hQ
   dsimp only
   rw[cz,dD,jd,bP,uZ,aF hr rfl]
   refine Oe (v:=w) (ok:=true) hm ?_
   refine Lf (n:=n) (Z:=Q) h (Qk hnb).2.2.1 (fun hg M' q1 q2 q3=>?_) (fun hg M' q1 q2 q3=>?_)
   ·have hg:(f || decide (most<w))=true:=by simpa using hg
    rw[if_pos hg] at hQ
    exact hQ M' q1 q2 q3
   ·have hg:(f || decide (most<w))=false:=by simpa using hg
    rw[if_neg (by simp[hg])] at hQ
    have hw:w≤most:=by simp at hg; omega
    rw[cZ,aP (by omega) (by omega)]
    exact hQ M' q1 q2 q3
def H5 (T:Nat) (c:au) : Prop:=∀ {M:RM} {v:AV} {bs:List UInt8} {Q:ak},Sl BY M v bs→bs.length≤140737488355328 →
 (∀ r M',Cu T (fun d=>M.next≤d∧d<r) M' r bs false→M.next≤r→ae [] M M'→Q (.ptr r 0) M')→c [v] M Q
theorem KS {T TB:Nat} {cc:au} (hcl:kN TB 1 1 cc) : H5 T fun args M Q=>∃ a0,args=[a0]∧NQ cc T a0 M Q:=by
 intro M v bs Q h hl hQ
 refine⟨_,rfl, ?_⟩
 unfold NQ
 refine hcl h (Enc.dF _ _) (by omega) (by omega) fun b0 M1 ho hk=>?_
 rw[jr]
 refine⟨[b0,Bo false], ?_, ?_⟩
 ·have:=ho.cells
  have hkn:=ho.gJ.known
  simp[lm,hkn,this]
 rw[mI (by simp[ho.one]; rfl) (by simp),aL]
 have k2:ae [] M1 (M1.push (.row [b0,Bo false] false T 0)):=(ae.refl _ _).push _
 refine hQ M1.next _ ⟨by rw[eT]; omega,⟨b0,RM.bR _,aD.keep ho.gJ k2 (by simp),Own.jH ho,fun d hd=>ho.blk d hd⟩,fun h=>by omega⟩ hk.next (hk.trans k2)
def WI (T:Nat) (c:au) : Prop:=∀ {M:RM} {r:Nat} {S:Nat→Prop} {bs:List UInt8} {f:Bool} {Q:ak},Cu T S M r bs f→Q (N .i64 (if f then 14 else 0)) M→c [.ptr r 0] M Q
theorem WT {T:Nat} : WI T fun args M Q=>∃ a0,args=[a0]∧uT a0 M Q:=by
 intro M r S bs f Q h hQ
 refine⟨_,rfl, ?_⟩
 unfold uT
 obtain⟨v,hr,hs,hc,hS⟩:=h.row
 rw[bP,uZ,aF hr rfl]
 cases f with
 | true=>rw[fo]; exact hQ
 | false=>rw[dH]; exact hQ
def xD (f:(List AV→RM→Prop)→Prop) (g:List AV→RM→Prop) : Prop:=f g
theorem dW (f:(List AV→RM→Prop)→Prop) (g:List AV→RM→Prop) : ek f g=xD f g:=rfl
theorem dh {H:(List AV→RM→Prop)→Prop} {G:List AV→RM→Prop} (P:List AV→RM→Prop) (hT:∀ xs M,P xs M→G xs M)
  (hH:∀ J:List AV→RM→Prop,(∀ xs M,P xs M→J xs M)→H J) : xD H G:=hH G hT
abbrev Mk:=(Nat × Nat) × List Nat
def UO (ps:List Pt) : Nat→List Mk
 | 0=>[]
 | i + 1=>UO ps i++(if 0<(ps.getD i (0,[])).1∨0<(ps.getD i (0,[])).2.length then[((i,(ps.getD i (0,[])).1),(ps.getD i (0,[])).2)] else[])
def parts (ps:List Pt) : List Mk:=UO ps 16
@[irreducible] def abR (x a:Nat) : Nat:=(x + 18446744073709551616 - a) % 18446744073709551616
def XJ:Nat→List Nat→List UInt8
 | _,[]=>[]
 | a,x :: xs=>gm (abR x a)++XJ x xs
def adA (p:Mk) : List UInt8:=gm p.1.1++gm p.1.2++gm p.2.length++XJ p.1.2 p.2
def adF (l:List Mk) : List UInt8:=gm l.length++l.flatMap adA
def encS (ps:List Pt) : List UInt8:=adF (parts ps)
theorem Ay {v:Nat} (h:v<2 ^ 64) : (gm v).length≤10:=DL 10 v (by omega) (by omega)
def Bd (p:Pt) : Prop:=p.1<2 ^ 64∧p.2.length≤1000000∧∀ x∈p.2,x<2 ^ 64
def Ye (TS T:Nat) (c:au) : Prop:=∀ {M:RM} {b:Nat} {ps:List Pt} {S:Nat→Prop} {Q:ak},lY TS S M b ps→(∀ p∈ps,Bd p) →
 (∀ v M',Own M' M.next T 1 v (eG (encS ps)) (encS ps).length→(encS ps).length≤200000000→ae [] M M'→Q v M')→c [.ptr b 0] M Q
theorem oC (a b:List UInt8) : eG (a++b)=eG a++eG b:=List.map_append
structure Bc (T TU base:Nat) (M:RM) (b:Nat) (ps:List Pt) : Prop where
 lt:b<M.next
 len:ps.length=16
 row:∃ (l:List AV) (vs:Nat→AV),M.heap b=some (.row l false T 0)∧l.length=32∧(∀ (i:Nat) (hi:i<ps.length),l[2 * i]?=some (N .u64 (ps[i].1:Int))∧l[2 * i + 1]?=some (vs i)∧Ow fe M base TU (vs i) ps[i].2) ∧
  ∀ i j,i<16→j<16→i≠j→∀ d∈ah (vs i),d ∉ ah (vs j)
 nb:b<base
theorem Bc.setH {T TU base:Nat} {M:RM} {b:Nat} {ps:List Pt} (h:Bc T TU base M b ps) : lY T (fun d=>base≤d) M b ps:=by
 obtain⟨l,vs,h1,h2,h3,h4⟩:=h.row
 refine⟨h.lt,h.len,⟨l,h1,h2,fun i hi=>⟨vs i,(h3 i hi).1,(h3 i hi).2.1,(h3 i hi).2.2.gJ,Own.jH (h3 i hi).2.2,fun d hd=>((h3 i hi).2.2.blk d hd).1⟩⟩,by have:=h.nb; omega⟩
theorem Bc.keep {T TU base:Nat} {M M' : RM} {b:Nat} {ps:List Pt} {bs:List Nat} (h:Bc T TU base M b ps) (hk:ae bs M M') (hb:b ∉ bs) (hs:∀ d∈bs,d<base) : Bc T TU base M' b ps:=by
 obtain⟨l,vs,h1,h2,h3,h4⟩:=h.row
 refine⟨Nat.lt_of_lt_of_le h.lt hk.next,h.len,⟨l,vs,hk.aB h1 h.lt hb,h2,fun i hi=>⟨(h3 i hi).1,(h3 i hi).2.1,(h3 i hi).2.2.keep hk fun d hd hm=>?_⟩,h4⟩,h.nb⟩
 have:=((h3 i hi).2.2.blk d hd).1
 have:=hs d hm
 omega
theorem Bc.more {T TU base:Nat} {M:RM} {b i x:Nat} {ps:List Pt} (h:Bc T TU base M b ps) (hi:i<16) (hlen:(ps.getD i (0,[])).2.length≤1000000) (hbase:base≤M.next) {K:RM→Prop}
  (hK:∀ M' ks,Bc T TU base M' b (ps.set i ((ps.getD i (0,[])).1,(ps.getD i (0,[])).2++[x]))→ae ks M M'→(∀ d∈ks,d=b∨base≤d)→K M') :
  ag M (.ptr b (2 * i + 1)) fun t55=>bn TU 1 [(N .u64 0)] [(0,1,N .u64 (x:Int))] fun r f=>aO r f M fun t57 aex=>appW TU 1 8 [(N .u64 0)] false t55 t57 aex fun t58 aek =>
   fF (.ptr b (2 * i)) fun t59=>bT t59 1 fun t60=>aS aek t60 t58 1 K:=by
 obtain⟨l,vs,h1,h2,h3,h4⟩:=h.row
 have hnb:=h.nb
 have hblt:=h.lt
 have hil:i<ps.length:=by rw[h.len]; exact hi
 have hpD:ps.getD i (0,[])=ps[i]:=by rw[List.getD_eq_getElem?_getD,List.getElem?_eq_getElem hil]; rfl
 rw[hpD] at hlen hK
 rw[aF h1 (h3 i hil).2.1,fq (x:=N .u64 (x:Int)) (size:=1) rfl rfl rfl,aL]
 refine fP (E:=fe) (a:=x) (h3 i hil).2.2 hbase (Nat.le_refl _) (by omega) (by omega) ?_
 intro v' M' o1 k1 n1 hv
 have hbv:∀ j,b ∉ ah (vs j)∨¬ j<16:=fun j=>by
  by_cases hj:j<16
  ·refine .inl fun hm=>?_
   have:=((h3 j (by rw[h.len]; exact hj)).2.2.blk b hm).1
   omega
  ·exact .inr hj
 have hh:M'.heap b=some (.row l false T 0):=k1.aB h1 hblt (by rcases hbv i with h | h; exact h; exact absurd hi h)
 rw[bP,bE,DU hh (by omega) o1.cells o1.one]
 have kk:ae [b] M' (M'.put b (.row (l.set (2 * i + 1) v') false T 0)):=(ae.refl _ _).put _ (.inr (by simp))
 have nbv:b ∉ ah v':=fun hm=>by have:=(o1.blk b hm).1; omega
 refine hK _ (b :: ah (vs i)) ⟨Nat.lt_of_lt_of_le hblt n1,by rw[List.length_set]; exact h.len,⟨_,fun j=>if j=i then v' else vs j,aM _,by rw[List.length_set]; exact h2,fun j hj=>?_,fun j1 j2 q1 q2 hne d hd=>?_⟩,h.nb⟩ ?_ ?_
 ·have hj' : j<ps.length:=by rw[List.length_set] at hj; exact hj
  by_cases hji:j=i
  ·subst hji
   refine⟨?_, ?_, ?_⟩
   ·rw[List.getElem?_set_ne (by omega),List.getElem_set_self]; exact(h3 j hj').1
   ·rw[List.getElem?_set_self (by omega)]; simp
   ·rw[List.getElem_set_self]; simp only[if_true]
    exact o1.keep kk fun d hd hm=>by simp at hm; subst hm; exact nbv hd
  ·have WH:j<16:=by rw[← h.len]; exact hj'
   refine⟨?_, ?_, ?_⟩
   ·rw[List.getElem?_set_ne (by omega),List.getElem_set_ne (Ne.symm hji)]; exact(h3 j hj').1
   ·rw[List.getElem?_set_ne (by omega)]; simp only[if_neg hji]; exact(h3 j hj').2.1
   ·rw[List.getElem_set_ne (Ne.symm hji)]; simp only[if_neg hji]
    refine((h3 j hj').2.2.keep k1 fun d hd hm=>h4 j i WH hi hji d hd hm).keep kk fun d hd hm=>?_
    simp at hm; subst hm
    rcases hbv j with h | h
    ·exact h hd
    ·exact h WH
 ·simp only at hd ⊢
  by_cases e1:j1=i
  ·rw[if_pos e1] at hd
   rw[if_neg (fun e=>hne (e1.trans e.symm))]
   rcases hv with rfl | hv
   ·exact h4 i j2 hi q2 (fun e=>hne (e1.trans e)) d hd
   ·intro hm
    have:=hv d hd
    have:=((h3 j2 (by rw[h.len]; exact q2)).2.2.blk d hm).2
    omega
  ·rw[if_neg e1] at hd
   by_cases e2:j2=i
   ·rw[if_pos e2]
    rcases hv with rfl | hv
    ·exact h4 j1 i q1 hi e1 d hd
    ·intro hm
     have:=hv d hm
     have:=((h3 j1 (by rw[h.len]; exact q1)).2.2.blk d hd).2
     omega
   ·rw[if_neg e2]
    exact h4 j1 j2 q1 q2 hne d hd
 ·exact(k1.mono (fun d hd=>List.mem_cons_of_mem _ hd)).trans (kk.mono (by simp))
 ·intro d hd
  rcases List.mem_cons.1 hd with rfl | hd
  ·exact .inl rfl
  ·exact .inr ((h3 i hil).2.2.blk d hd).1
def chain:Nat→List Nat→Bool
 | _,[]=>true
 | a,x :: xs=>decide (a<x) && chain x xs
def abw (p:Pt) : Bool:=chain (p.1 + 1) p.2
theorem Own.sl {M:RM} {base T:Nat} {v:AV} {L:List UInt8} (h:Own M base T 1 v (eG L) L.length) : Sl BY M v L:=by
 have:=h.gJ
 show aD M 1 v (BY.row L) L.length
 rw[lJ]; exact this
@[irreducible] def Cc (bs:List UInt8) (f:Bool) : Nat × List UInt8 × Bool:=jA 18446744073709551615 bs f
def Xm:Nat→Nat→List UInt8→Bool→List Nat→Option (Nat × List UInt8 × Bool × List Nat)
 | 0,a,bs,f,acc=>some (a,bs,f,acc)
 | k + 1,a,bs,f,acc =>
   if (Cc bs f).2.2=true∨1099511627776<(Cc bs f).1∨1099511627776<a then none
   else Xm k (a + (Cc bs f).1) (Cc bs f).2.1 (Cc bs f).2.2 (acc++[a + (Cc bs f).1])
def U5:Nat→List UInt8→Bool→List Pt→Option (List UInt8 × Bool × List Pt)
 | 0,bs,f,ps=>some (bs,f,ps)
 | k + 1,bs,f,ps =>
   let d:=jA 15 bs f
   let u:=Cc d.2.1 d.2.2
   let n:=jA 4096 u.2.1 u.2.2
   match Xm n.1 u.1 n.2.1 n.2.2 (ps.getD d.1 (0,[])).2 with
   | none=>none
   | some (a,bs',f',acc)=>if 1099511627776<u.1∨1099511627776<a then none else U5 k bs' f' (ps.set d.1 (u.1,acc))
def decode (bs:List UInt8) : Option (List Pt) :=
 match U5 (jA 16 bs false).1 (jA 16 bs false).2.1 (jA 16 bs false).2.2 wB with
 | none=>none
 | some (bs',f,ps)=>if f=true∨bs'≠[]∨ps.all abw=false∨encS ps≠bs then none else some ps
def Bi (k:Nat) (p:Pt) : Prop:=p.1≤1099511627776∧p.2.length≤k∧∀ x∈p.2,x≤4398046511104
def XX (TS TU:Nat) (c:au) : Prop:=∀ {M:RM} {v:AV} {bs:List UInt8} {Q:ak},Sl BY M v bs→bs.length≤140737488355328 →
 (decode bs=none→∀ M',ae [] M M'→Q (.tup [.sc (.pointer none),N .i64 14]) M') →
 (∀ ps,decode bs=some ps→(∀ p∈ps,Bi 65536 p)→∀ s M',M.next≤s→Bc TS TU (s + 1) M' s ps→ae [] M M'→Q (.tup [.ptr s 0,N .i64 0]) M')→c [v] M Q
def aaW (a b:aQ) : Bool:=decide (a.1<b.1) || (decide (a.1=b.1) && decide (a.2<b.2))
section
variable {α:Type} {E:Enc α}
theorem YB {M:RM} {base T k:Nat} {v:AV} {xs:List α} (hE:1≤E.size) (ho:Ow E M base T v xs) (hk:k≤xs.length) :
  ∃ v1 v2,bK E.size v none (some (N .i64 (k:Int))) none=some v1∧Sl E M v1 (xs.take k)∧bK E.size v (some (N .i64 (k:Int))) none none=some v2∧Sl E M v2 (xs.drop k)∧(∀ d∈ah v1,d∈ah v)∧∀ d∈ah v2,d∈ah v:=by
 have hs:=ho.gJ
 generalize hcs:E.row xs=cs at *
 have ho' : Own M base T E.size v cs xs.length:=by rw[← hcs]; exact ho
 have hl:cs.length=xs.length * E.size:=by rw[← hcs,Enc.iL]
 have hd:E.row (xs.drop k)=cs.drop (k * E.size):=by rw[← hcs,← E.qR]
 have ht:E.row (xs.take k)=cs.take (k * E.size):=by rw[← hcs,← E.qE]
 have g1:∀ v',Sl E M v' (xs.take k)↔aD M E.size v' (cs.take (k * E.size)) k:=fun v'=>by simp only[Sl]; rw[ht,List.length_take,Nat.min_eq_left hk]
 have g2:∀ v',Sl E M v' (xs.drop k)↔aD M E.size v' (cs.drop (k * E.size)) (xs.length - k):=fun v'=>by simp only[Sl]; rw[hd,List.length_drop]
 generalize hn:xs.length=n at *
 cases ho' with
 | nil =>
   have:k=0:=by omega
   subst this
   exact⟨bA,bA,by simp[bK,bnd],(g1 _).2 (by simp; exact .nil),by simp[bK,bnd],(g2 _).2 (by simp; exact .nil),by simp,by simp⟩
 | ex0 b o h1 h2 h3 =>
   have:k=0:=by omega
   subst this
   have e0:aD M E.size (.slc b o 0 (.ex 0)) [] 0:=hs
   exact⟨.slc b o 0 (.ex 0),.slc b o 0 (.ex 0),by simp[bK,bnd],(g1 _).2 (by simpa using e0),by simp[bK,bnd],(g2 _).2 (by simpa using e0),by simp[ah],by simp[ah]⟩
 | op b n cs h1 h2 h3 h4 =>
   have hload:∀ o m,o + m≤cs.length→M.loads b o m=some ((cs.drop o).take m):=fun o m h=>RM.gV h3 h
   have hmul:k * E.size≤n * E.size:=Nat.mul_le_mul_right _ hk
   by_cases hn0:n=0
   ·have hk0:k=0:=by omega
    subst hk0 hn0
    have hc0:cs=[]:=List.length_eq_zero_iff.1 (by simpa using h4)
    subst hc0
    exact⟨.emp b,.emp b,by simp[bK,bnd],(g1 _).2 (by simp; exact .emp b),by simp[bK,bnd],(g2 _).2 (by simp; exact .emp b),by simp[ah],by simp[ah]⟩
   ·have p1:aD M E.size (.slc b (0 + 0 * E.size) (k - 0) (.op E.size)) (cs.take (k * E.size)) k:=by
     rw[Nat.sub_zero,Nat.zero_mul]
     refine .slc _ _ _ _ _ h2 ?_
     have:=hload 0 (k * E.size) (by omega)
     simpa using this
    by_cases hkn:n≤k
    ·refine⟨.slc b (0 + 0 * E.size) (k - 0) (.op E.size),.emp b,by simp only[bK,bnd]; simp[hk,hn0],(g1 _).2 p1,by simp only[bK,bnd]; simp[hk,hkn],(g2 _).2 ?_,by simp[ah],by simp[ah]⟩
     have:k=n:=by omega
     subst this
     rw[Nat.sub_self,List.drop_of_length_le (by omega)]
     exact .emp b
    ·refine⟨.slc b (0 + 0 * E.size) (k - 0) (.op E.size),.slc b (0 + k * E.size) (n - k) (.op E.size),by simp only[bK,bnd]; simp[hk,hn0],(g1 _).2 p1,by simp only[bK,bnd]; simp[hk,hkn],(g2 _).2 ?_,by simp[ah],by simp[ah]⟩
     refine .slc _ _ _ _ _ h2 ?_
     have hs2:k * E.size + (n - k) * E.size=n * E.size:=by rw[← Nat.add_mul]; congr 1; omega
     rw[Nat.zero_add,hload (k * E.size) ((n - k) * E.size) (by omega),List.take_of_length_le (by simp; omega)]
end
def atL (d:aQ) (l:List aQ) : Nat:=(l.takeWhile (fun x=>aaW x d)).length
def fQ (l:List aQ) (d:aQ) : List aQ:=if d∈l then l else l.take (atL d l)++d :: l.drop (atL d l)
theorem WQ (l:List aQ) (d:aQ) : (fQ l d).length≤l.length + 1:=by
 unfold fQ
 split
 ·omega
 ·simp; omega
def Yr (T:Nat) (c:au) : Prop:=∀ {M:RM} {base:Nat} {v:AV} {l:List aQ} {d:aQ} {Q:ak},Ow yX M base T v l→base≤M.next→l.length≤100000→(∀ v' M',Ow yX M' base T v' (fQ l d)→ae [] M M'→Q v' M')→c [v,.agg (MU d)] M Q
def nQ (p:List Pt × List aQ) (d:aQ) : List Pt × List aQ:=((BD p.1 d).2,if (BD p.1 d).1=0 then fQ p.2 d else p.2)
def UB (l:List aQ) : List Pt × List aQ:=l.foldl nQ (wB,[])
theorem Wj:∀ p∈wB,CY p:=fun p hp=>by
 simp only[wB,List.mem_replicate] at hp
 rw[hp.2]
 exact⟨.nil,fun x hx=>by simp at hx,Nat.zero_le _,fun x hx=>by simp at hx,Nat.zero_le _⟩
theorem XU {ps:List Pt} (h:∀ p∈ps,CY p) (i:Nat) : CY (ps.getD i (0,[])):=by
 rw[List.getD_eq_getElem?_getD]
 by_cases hj:i<ps.length
 ·rw[List.getElem?_eq_getElem hj]
  exact h _ (List.getElem_mem hj)
 ·rw[List.getElem?_eq_none (by omega)]
  exact⟨.nil,fun x hx=>by simp at hx,Nat.zero_le _,fun x hx=>by simp at hx,Nat.zero_le _⟩
theorem Ym {ps:List Pt} {d:aQ} (h:∀ p∈ps,CY p) : ∀ p∈(BD ps d).2,CY p:=by
 unfold BD
 split
 ·rename_i hg
  split
  ·intro p hp
   rcases List.mem_or_eq_of_mem_set hp with hp | rfl
   ·exact h p hp
   ·refine YJ (XU h _) ?_
    simp only[good,Bool.and_eq_true,decide_eq_true_eq] at hg
    exact hg.2
  ·exact h
 ·exact h
def Uq (TS TD:Nat) (c:au) : Prop:=∀ {M:RM} {v:AV} {l:List aQ} {Q:ak},Sl yX M v l→l.length≤10000 →
 (∀ s w M',M.next≤s→lY TS (fun e=>s<e) M' s (UB l).1→(∀ p∈(UB l).1,CY p)→Ow yX M' (s + 1) TD w (UB l).2→(UB l).2.length≤l.length→ae [] M M'→Q (.tup [.ptr s 0,w]) M')→c [v] M Q
theorem Qo {TS TD:Nat} {cn ca cr:au} (hn:AB TS cn) (ha:abC TS ca) (hr:Yr TD cr) : Uq TS TD fun args M Q=>∃ a0,args=[a0]∧Zd cn ca cr a0 M Q:=by
 intro M v l Q hs hl hQ
 refine⟨_,rfl, ?_⟩
 unfold Zd
 simp only[dW]
 refine hn fun M1 hs1 k1 n1=>?_
 generalize hsn:M.next=s at *
 refine aG (fun m ys M3=>∃ (i:Nat) (w:AV) (p:List Pt × List aQ),m=l.length - i∧ys=[w,N .i64 (i:Int)]∧i≤l.length∧ae [] M M3∧s<M3.next∧lY TS (fun e=>s<e) M3 s p.1∧(∀ q∈p.1,CY q)∧Ow yX M3 (s + 1) TD w p.2∧p.2.length≤i ∧
   UB l=(l.drop i).foldl nQ p) _
  ⟨0,bA,(wB,[]),rfl,rfl,Nat.zero_le _,k1,by omega,hs1.mono (fun _ h=>h.elim) (by omega),Wj,.nil,Nat.le_refl _,rfl⟩ ?_
 rintro next m ys M3 hnext ⟨i,w,p,rfl,rfl,hi,k3,n3,hs3,hw3,ho3,hpl,hof⟩
 dsimp only[aa]
 have s3:Sl yX M3 v l:=aD.keep hs k3 (by simp)
 rw[aD.len s3,dK]
 refine aJ (fun hlt=>?_) (fun hge=>?_)
 ·have hlt:i<l.length:=by simpa using hlt
  rw[List.drop_eq_getElem_cons hlt,List.foldl_cons] at hof
  refine dh (fun zs M'=>∃ w',zs=[w']∧ae [] M M'∧s<M'.next∧lY TS (fun e=>s<e) M' s (nQ p l[i]).1∧(∀ q∈(nQ p l[i]).1,CY q)∧Ow yX M' (s + 1) TD w' (nQ p l[i]).2∧(nQ p l[i]).2.length≤i + 1) ?_ ?_
  ·rintro zs M' ⟨w',rfl,b1,b2,b3,b4,b5,b6⟩
   dsimp only[aa]
   rw[bz,mK (by omega)]
   exact hnext _ _ _ (by omega) ⟨i + 1,w',_,rfl,rfl,by omega,b1,b2,b3,b4,b5,b6,hof⟩
  intro J hJ
  obtain⟨b1,o1,_,_,hidx,hld⟩:=Sl.at (E:=yX) (i:=i) s3 2 (i:Int) hlt rfl rfl
  rw[hidx,si]
  refine⟨_,hld, ?_⟩
  refine ha hs3 hw3 fun M4 hs4 k4=>?_
  have n4:=k4.next
  have k34:ae [] M M4:=k3.bu k4 (by simp; omega)
  have Zo:lY TS (fun e=>s<e) M4 s (BD p.1 l[i]).2:=hs4.mono (fun e h=>by rcases h with h | h <;> omega) (by omega)
  have ho4:=ho3.keep k4 (fun b hb hm=>by have:=(ho3.blk b hb).1; simp at hm; omega)
  have hw4:=Ym (d:=l[i]) hw3
  rw[bS]
  refine aJ (fun he=>?_) (fun he=>?_)
  ·have he:(BD p.1 l[i]).1=0:=by simpa using he
   have s4:Sl yX M4 v l:=aD.keep hs k34 (by simp)
   obtain⟨b2,o2,_,_,abH,adT⟩:=Sl.at (E:=yX) (i:=i) s4 2 (i:Int) hlt rfl rfl
   rw[abH,si]
   refine⟨_,adT, ?_⟩
   refine hr ho4 (by omega) (by omega) fun w' M5 ho5 k5=>?_
   have n5:=k5.next
   refine hJ _ _ ⟨w',rfl,k34.trans k5,by omega, ?_,hw4, ?_, ?_⟩
   ·exact Zo.keep k5 (by simp) (by simp)
   ·rw[nQ]; simp only[he,if_true]; exact ho5
   ·rw[nQ]; simp only[he,if_true]
    have:=WQ p.2 l[i]
    omega
  ·have he:¬ (BD p.1 l[i]).1=0:=by simpa using he
   refine hJ _ _ ⟨w,rfl,k34,by omega,Zo,hw4, ?_, ?_⟩
   ·rw[nQ]; simp only[he,if_false]; exact ho4
   ·rw[nQ]; simp only[he,if_false]; omega
 ·have he:i=l.length:=by simp at hge; omega
  subst he
  rw[List.drop_length,List.foldl_nil] at hof
  subst hof
  exact hQ s w M3 (Nat.le_refl _) hs3 hw3 ho3 hpl k3
theorem KW {f g:Prop→Prop} {k:Prop} : DF (Bo true) true f g k=f k:=rfl
def Ao (c:au) : Prop:=∀ {M:RM} {v:AV} {bs:List UInt8} {Q:ak},Sl BY M v bs→bs.length≤140737488355328→(∀ M',ae [] M M'→Q (Bo true) M')→c [v] M Q
theorem Sv {bs:List UInt8} {ps:List Pt} (h:decode bs=some ps) : encS ps=bs:=by
 unfold decode at h
 split at h
 ·cases h
 ·split at h
  ·cases h
  ·rename_i h2
   cases h
   exact Classical.byContradiction fun hn=>h2 (.inr (.inr (.inr hn)))
theorem Je {TS TU TB:Nat} {cd ce:au} (hd:XX TS TU cd) (he:Ye TS TB ce) : Ao fun args M Q=>∃ a0,args=[a0]∧QH cd ce a0 M Q:=by
 intro M v bs Q hs hl hQ
 refine⟨_,rfl, ?_⟩
 unfold QH
 simp only[mX,xU,vT,Aj]
 refine hd hs hl (fun hnone M1 k1=>?_) fun ps hsome hbi s M1 hs0 hso k1=>?_
 ·rw[cz,dD,bX,show((14:Int) != 0)=true from rfl,fo,bS,show((14:Int) == 14)=true from rfl,fH]
  dsimp only
  rw[xG,dX]
  exact hQ M1 k1
 ·rw[cz,dD,bX,show((0:Int) != 0)=false from rfl,dH,Aq]
  have s1:Sl BY M1 v bs:=aD.keep hs k1 (by simp)
  rw[dY]
  dsimp only
  rw[dY]
  dsimp only
  rw[dY,Sl.str s1]
  dsimp only
  rw[fH]
  dsimp only
  refine he hso.setH (fun p hp=>⟨by have:=(hbi p hp).1; omega,by have:=(hbi p hp).2.1; omega,fun x hx=>by have:=(hbi p hp).2.2 x hx; omega⟩) fun w M2 ho2 hl2 k2=>?_
  have k12:=k1.trans k2
  have s2:Sl BY M2 v bs:=aD.keep hs k12 (by simp)
  rw[KW,Sl.str s2]
  refine⟨rfl, ?_⟩
  rw[dY,Sl.str (Own.sl ho2),mR,Sv hsome]
  dsimp only
  rw[dX,show(bs == bs)=true by simp]
  exact hQ M2 k12
theorem Own.aax {M:RM} {base el size n:Nat} {v:AV} {cs:List AV} (h:Own M base el size v cs n) (hn:0<n) : ∃ b,v=.slc b 0 n (.op size)∧base≤b∧b<M.next∧M.heap b=some (.row cs true el 0)∧cs.length=n * size:=by
 cases h with
 | nil=>omega
 | ex0=>omega
 | op b n cs h1 h2 h3 h4=>exact⟨b,rfl,h1,h2,h3,h4⟩
theorem bV {M:RM} {b o:Nat} {x:AV} {K:AV→Prop} (h:M.cell b o=some x) : ag M (.ptr b o) K=K x:=by
 rw[dM,h]; simp
def Up (xs:List Nat) : Prop:=∀ i j (hi:i<xs.length) (hj:j<xs.length),i≤j→xs[i]≤xs[j]
theorem Own.u64 {M:RM} {base T:Nat} {v:AV} {xs:List Nat} (h:Ow fe M base T v xs) : Sl fe M v xs:=h.gJ
theorem YT (a b:Nat) : (a:Int).tdiv (b:Int)=((a / b:Nat) : Int):=by
 rw[Int.tdiv_eq_ediv_of_nonneg (by omega)]; rfl
theorem lY.put {T i u a:Nat} {S S' : Nat→Prop} {M M' : RM} {ps:List Pt} {l:List AV} {v' : AV} {xs:List Nat} {ks:List Nat} (h:lY T S M a ps) (hl:M.heap a=some (.row l false T 0)) (hi:i<16)
  (hb:M'.heap a=some (.row ((l.set (2 * i) (N .u64 (u:Int))).set (2 * i + 1) v') false T 0)) (hk:ae ks M M') (hks:∀ d∈ks,d=a∨¬ S d) (hs:Sl fe M' v' xs) (hc:jH v') (hv:∀ d∈ah v',S' d) (hS:∀ d,S d→S' d) (ha:¬ S' a) : lY T S' M' a (ps.set i (u,xs)):=by
 obtain⟨l0,h1,h2,h3⟩:=h.row
 rw[hl] at h1
 obtain rfl:l=l0:=by simpa using h1
 refine⟨Nat.lt_of_lt_of_le h.lt hk.next,by rw[List.length_set]; exact h.len,⟨_,hb,by simp[h2],fun j hj=>?_⟩,ha⟩
 have hj' : j<ps.length:=by rw[List.length_set] at hj; exact hj
 have WH:j<16:=by rw[← h.len]; exact hj'
 by_cases hji:j=i
 ·subst hji
  refine⟨v', ?_, ?_, ?_,hc,hv⟩
  ·rw[List.getElem?_set_ne (by omega),List.getElem?_set_self (by omega),List.getElem_set_self]
  ·rw[List.getElem?_set_self (by simp; omega)]
  ·rw[List.getElem_set_self]; exact hs
 ·obtain⟨w,b1,b2,b3,b4,b5⟩:=h3 j hj'
  refine⟨w, ?_, ?_, ?_,b4,fun d hd=>hS d (b5 d hd)⟩
  ·rw[List.getElem?_set_ne (by omega),List.getElem?_set_ne (by omega),List.getElem_set_ne (Ne.symm hji)]; exact b1
  ·rw[List.getElem?_set_ne (by omega),List.getElem?_set_ne (by omega)]; exact b2
  ·rw[List.getElem_set_ne (Ne.symm hji)]
   refine aD.keep b3 hk fun d hd hm=>?_
   rcases hks d hm with rfl | h'
   ·exact h.nb (b5 d hd)
   ·exact h' (b5 d hd)
section
variable {ps:List Pt} {d:aQ}
end
def xC (T:Nat) (M:RM) (base:Nat) (v:AV) (L:List UInt8) : Prop :=
 Own M base T 1 v (eG L) L.length∨∃ b,v=.slc b 0 L.length (.ex L.length)∧base≤b∧b<M.next∧M.heap b=some (.row (eG L) false T 0)
theorem xC.sl {T base:Nat} {M:RM} {v:AV} {L:List UInt8} (h:xC T M base v L) : Sl BY M v L:=by
 rcases h with h | ⟨b,rfl,h1,h2,h3⟩
 ·exact Own.sl h
 ·show aD M 1 _ (BY.row L) L.length
  rw[lJ]
  refine .slc _ _ _ _ _ h2 ?_
  rw[RM.gV h3 (by simp),Nat.mul_one,List.drop_zero,List.take_of_length_le (by simp)]
theorem xC.keep {T base:Nat} {M M' : RM} {v:AV} {L:List UInt8} (h:xC T M base v L) (hk:ae [] M M') : xC T M' base v L:=by
 rcases h with h | ⟨b,rfl,h1,h2,h3⟩
 ·exact .inl (h.keep hk (by simp))
 ·exact .inr ⟨b,rfl,h1,Nat.lt_of_lt_of_le h2 hk.next,hk.aB h3 h2 (by simp)⟩
theorem xC.app {T base:Nat} {M:RM} {v u:AV} {L L' : List UInt8} {zs:List AV} {K:ak} (h:xC T M base v L) (hb:base≤M.next) (hu:Sl BY M u L') (hl:L.length + L'.length≤1000000000)
  (hK:∀ v' M',xC T M' base v' (L++L')→ae (ah v) M M'→(∀ d∈ah v,base≤d)→K v' M') : appW T 1 1 zs false v u M K:=by
 have hcs:BY.row L'=eG L':=lJ L'
 have hu' : aD M 1 u (eG L') L'.length:=by rw[← hcs]; exact hu
 rcases h with h | ⟨b,rfl,h1,h2,h3⟩
 ·refine qH h hb (Nat.le_refl _) (hu'.mr _) (by simp) (mY _) (by omega) (by omega) ?_
  intro v' M' o k _ _
  refine hK v' M' (.inl ?_) k (fun d hd=>(h.blk d hd).1)
  rw[oC,List.length_append]; exact o
 ·refine⟨L'.length,eG L',hu'.mr _,by omega,by omega, ?_⟩
  by_cases h0:L'.length=0
  ·have:L'=[]:=List.length_eq_zero_iff.1 h0
   subst this
   refine⟨.slc b 0 L.length (.ex L.length),M,by simp[sU],hK _ _ (.inr ⟨b,by simp,h1,h2,by simpa using h3⟩) (ae.refl _ _) (by simp[ah]; exact h1)⟩
  ·have hld:M.loads b 0 (L.length * 1)=some (eG L):=by
    rw[RM.gV h3 (by simp),Nat.mul_one,List.drop_zero,List.take_of_length_le (by simp)]
   refine⟨.slc M.next 0 (L.length + L'.length) (.op 1),M.push (.row (eG L++eG L') true T 0), ?_,hK _ _ (.inl ?_) ((ae.refl _ _).push _) (by simp[ah]; exact h1)⟩
   ·have hone:(eG L++eG L').all oneCell=true:=by rw[List.all_append,mY,mY]; rfl
    simp only[sU,if_neg h0,if_neg (show ¬ L.length + L'.length≤L.length by omega),hld]
    rw[if_pos ⟨by omega,by omega,hone⟩]
   ·rw[List.length_append,oC]
    exact .op _ _ _ hb (by simp[RM.push]) (RM.bR _) (by simp)
def AO (T v:Nat) (c:au) : Prop:=∀ {M:RM} {Q:ak},(∀ r M',xC T M' M.next r (gm v)→ae [] M M'→Q r M')→c [N .u64 (v:Int)] M Q
theorem OQ {T v:Nat} {c:au} (hv:v<2 ^ 64) (ih:∀ w,w<v→AO T w c) : AO T v fun args M Q=>∃ a0,args=[a0]∧zM T c a0 M Q:=by
 intro M Q hQ
 refine⟨_,rfl, ?_⟩
 unfold zM
 have lit:∀ (x:UInt8),xC T (M.push (.row [By x] false T 0)) M.next (.slc M.next 0 1 (.ex 1)) [x]:=fun x=>.inr ⟨M.next,rfl,Nat.le_refl _,by simp[RM.push],RM.bR _⟩
 rw[dK]
 refine aJ (fun h=>?_) (fun h=>?_)
 ·have h:v<128:=by
   have:(v:Int)<128:=of_decide_eq_true h
   omega
  rw[cZ,Qw h,fq (x:=By (UInt8.ofNat v)) (size:=1) rfl rfl rfl,aL]
  refine hQ _ _ ?_ ((ae.refl _ _).push _)
  rw[vB h]; exact lit _
 ·have h:¬ v<128:=by
   have:¬ (v:Int)<128:=of_decide_eq_false h
   omega
  rw[oG]
  refine⟨by decide, ?_⟩
  have e1:(v:Int).tmod 128=((v % 128:Nat) : Int):=by rw[Int.tmod_eq_emod_of_nonneg (by omega)]; rfl
  rw[e1,cZ,pU (by omega) (by omega),bz,show((v % 128:Nat) : Int) + 128=((v % 128 + 128:Nat) : Int) by omega,pU (by omega) (by omega)]
  have e2:N .u8 ((v % 128 + 128:Nat) : Int)=By (UInt8.ofNat (v % 128 + 128)):=by rw[By,IB]; congr 2; omega
  rw[e2,fq (x:=By (UInt8.ofNat (v % 128 + 128))) (size:=1) rfl rfl rfl,aL,qY]
  refine⟨by decide, ?_⟩
  rw[show(128:Int)=((128:Nat) : Int) from rfl,YT,bZ (by omega) (by omega)]
  have k1:ae [] M (M.push (.row [By (UInt8.ofNat (v % 128 + 128))] false T 0)):=(ae.refl _ _).push _
  have l1:=lit (UInt8.ofNat (v % 128 + 128))
  have n1:(M.push (.row [By (UInt8.ofNat (v % 128 + 128))] false T 0)).next=M.next + 1:=rfl
  show c _ (M.push (.row [By (UInt8.ofNat (v % 128 + 128))] false T 0)) _
  generalize M.push (.row [By (UInt8.ofNat (v % 128 + 128))] false T 0)=M1 at *
  refine ih (v / 128) (by omega) fun r M2 h2 k2=>?_
  have hlen:=Ay (v:=v / 128) (by omega)
  have n2:=k2.next
  refine(l1.keep k2).app (by omega) h2.sl (by simp; omega) fun v' M3 h3 k3 hb3=>?_
  refine hQ v' M3 ?_ ((k1.trans k2).bu k3 fun d hd=>.inl (hb3 d hd))
  rw[Cj h]
  exact h3
def PM (M:RM) (b T:Nat) (d:Array Nat) : RM:=M.put b (.row (fe.row d.toList) true T 0)
abbrev vv (b n:Nat) : AV:=.slc b 0 n (.op 1)
section
variable {M:RM} {b T n i j:Nat} {d:Array Nat} {K:AV→Prop}
theorem PM.heap:(PM M b T d).heap b=some (.row (fe.row d.toList) true T 0):=RM.AQ _ _
theorem PM.VP:(fe.row d.toList).length=d.size:=by rw[Enc.iL]; simp[fe]
theorem WZ (hi:i<d.size) : d[i]! = d[i]:=getElem!_pos d i hi
theorem PM.cellAt (hi:i<d.size) : (fe.row d.toList)[i]?=some (N .u64 ((d[i]! : Nat) : Int)):=by
 rw[pq,List.getElem?_map,Array.getElem?_toList,WZ hi,Array.getElem?_eq_getElem hi]; rfl
theorem PM.idx {kd:IntKind} (hi:i<n) : aI (vv b n) (N kd (i:Int)) 1 K=K (.ptr b i):=by
 rw[qK]
 simp only[Int.toNat_natCast]
 rw[show 0 + i * 1=i by omega]
 exact propext ⟨fun h=>h.2.2,fun h=>⟨by omega,by omega,h⟩⟩
theorem PM.rd {kd:IntKind} (hn:n=d.size) (hi:i<d.size) : (aI (vv b n) (N kd (i:Int)) 1 fun p=>ag (PM M b T d) p K)=K (N .u64 ((d[i]! : Nat) : Int)):=by
 rw[PM.idx (by omega),aF PM.heap (PM.cellAt hi)]
theorem PM.put {x:Nat} (hi:i<d.size) {K:RM→Prop} : aS (PM M b T d) (.ptr b i) (N .u64 (x:Int)) 1 K=K (PM M b T (d.setIfInBounds i x)):=by
 rw[DU PM.heap (by rw[PM.VP]; exact hi) rfl rfl]
 congr 1
 have e:(fe.row d.toList).set i (N .u64 (x:Int))=fe.row (d.setIfInBounds i x).toList:=by rw[pq,pq,Array.toList_setIfInBounds,List.map_set]
 rw[e,PM,PM]
 unfold RM.put
 congr 1
 funext c
 by_cases h:c=b <;> simp[h]
theorem addN (h:i + j<4611686018427387904) : af .add (N .i64 (i:Int)) (N .i64 (j:Int)) K=K (N .i64 ((i + j:Nat) : Int)):=by
 rw[bz,aP (by omega) (by omega),Int.natCast_add]
theorem JN (h:j≤i) (hb:i<4611686018427387904) : af .sub (N .i64 (i:Int)) (N .i64 (j:Int)) K=K (N .i64 ((i - j:Nat) : Int)):=by
 rw[gM,aP (by omega) (by omega),show(i:Int) - (j:Int)=((i - j:Nat) : Int) by omega]
theorem fE:af .lss (N .i64 (i:Int)) (N .i64 (j:Int)) K=K (Bo (decide (i<j))):=by rw[dK,show decide ((i:Int)<(j:Int))=decide (i<j) by simp]
theorem Xi:af .gtr (N .i64 (i:Int)) (N .i64 (j:Int)) K=K (Bo (decide (i > j))):=by rw[fZ,show decide ((i:Int) > (j:Int))=decide (i > j) by simp]
end
section
variable {body:(List AV→RM→Prop)→List AV→RM→Prop} {p:Nat→Bool} {d:Array Nat} {M:RM}
end
theorem andM {c p:Bool} {f:ak→Prop} {M:RM} {G:AV→RM→Prop} (hf:c=true→∀ k:ak,k (Bo p) M→f k) (hG:G (Bo (c && p)) M) :
  ax (Bo c) true f (fun k=>k .undef M) (fun t M'=>aV (Bo c) t (Bo false) fun u=>G u M'):=by
 cases c with
 | false=>rw[jv]; dsimp only; rw[dQ]; exact hG
 | true=>rw[fH]; exact hf rfl _ (by rw[dX]; exact hG)
end Go.Ab.aQ
