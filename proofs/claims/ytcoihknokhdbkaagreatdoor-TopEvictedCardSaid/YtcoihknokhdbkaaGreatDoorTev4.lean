/- Part 4 of the ground of the proofs of this seat (texts H6 to YR3). By an AI agent. -/
import Derived.Test.YtcoihknokhdbkaaGreatDoorTev3
import Derived.Lib.SplitLaws
import Derived.Laws.AppendOwn
import Derived.HandedShaped
import Derived.RangeFuncRecord
import Derived.RangeFuncSeq
import Derived.OrdersIn
import Derived.LoopNIn
set_option maxRecDepth 10000
set_option linter.unusedVariables false
set_option linter.unusedSimpArgs false
namespace Go.Ab.Hw
open Go Go.Ab Go.Ab.Sm
def pg(T:Nat)(c:aB):Prop:=∀ {M:RM}{v:AV}{s:Str}{Q:aj},Sl BY M v s→s.length≤1000000000→(∀ v' M',Ow BY M' M.next T v' s→ah [] M M'→Q v' M')→c [v] M Q
theorem Hr{T:Nat}:pg T fun args M Q=>∃ a0,args=[a0]∧Go.Ab.aS.oG T a0 M Q:=by
 intro M v s Q hv hl hQ
 refine⟨_,rfl, ?_⟩
 unfold Go.Ab.aS.oG
 rcases aW.Ad hv false with⟨rfl,he⟩|⟨hne,he⟩
 ·rw[he,show(!false)=true from rfl,dE]
  have:s=[]:=by
   unfold Sl at hv
   cases s with
   |nil=>rfl
   |cons x s=>generalize hcs:BY.row (x::s)=cs at *;generalize hn:(x::s).length=n at *;cases hv;cases hcs
  subst this
  exact hQ bC M .nil (ah.refl _ _)
 ·rw[he,di,aki]
  simp only[bL]
  have k1:ah [] M (M.push (.row [] false T 0)):=(ah.refl _ _).push _
  refine Fa (E:=BY) (Ow.lit BY M) (by simp[RM.push]) (by decide) (aW.keep hv k1 (by simp)) (by simp;omega) (by simp;omega) fun v7 M7 o7 k7 _ _=>?_
  refine hQ v7 M7 (by simpa using o7) ?_
  refine ah.own k1 k7 (fun b hb=>?_)
  simp[aJ]at hb;omega
abbrev Fh:Str:=[116,114,97,110,115,102,101,114,45,101,110,99,111,100,105,110,103]
abbrev BN:Str:=[99,111,110,116,101,110,116,45,108,101,110,103,116,104]
abbrev sCH:Str:=[99,104,117,110,107,101,100]
def Dt(v:Str):Bool:=jX v 1 9&&v.all fQ
def z8(r:Str)(l:List Hd):Except Nat (Str×Str):=match bD l Fh with
 |x::xs=>match xs with
  |_::_=>.error 14
  |[]=>match low x==sCH with
   |false=>.error 14
   |true=>match bD l BN with
    |_::_=>.error 14
    |[]=>gB (r.length+1) r []
 |[]=>match bD l BN with
  |[]=>.ok ([],r)
  |v::vs=>match vs with
   |_::_=>.error 14
   |[]=>match Dt v with
    |false=>.error 14
    |true=>match Nat.blt 16384 (jR v)with
     |true=>.error 2
     |false=>match Nat.blt r.length (jR v)with
      |true=>.error 15
      |false=>.ok (r.take (jR v),r.drop (jR v))
def Ue(B:Base)(T:Nat)(c:aB):Prop:=∀ {M:RM}{v hv:AV}{b:Str}{l:List Hd}{at' : Nat}{Q:aj},M.base=B→Bs M v b→at'≤b.length→b.length≤1000000000→Sl HD M hv l→l.length≤1000000→(∀ h∈l,h.1.length<4611686018427387904∧h.2.length<4611686018427387904) →
 (∀ out r at2 ov M',z8 (b.drop at') l=.ok (out,r)→at2≤b.length→at'≤at2→b.drop at2=r→out.length≤16384→ah [] M M'→Ow BY M' M.next T ov out→Q (.tup [ov,N .i64 (at2:Int),N .i64 0]) M') →
 (∀ (e:Nat) M',z8 (b.drop at') l=.error e→(e=14∨e=15∨e=2)→ah [] M M'→Q (.tup [bC,N .i64 0,N .i64 (e:Int)]) M')→c [v,N .i64 (at' : Int),hv] M Q
theorem afz{l:List Hd}{n s:Str}(h:s∈bD l n):∃ x∈l,x.2=s:=by
 unfold bD at h
 rw[List.mem_map]at h
 obtain⟨x,hx,e⟩:=h
 exact⟨x,(List.mem_filter.1 hx).1,e⟩
theorem Vx:∀ (s:Str)(n:Nat),s.all fQ=true→s.foldl (fun n x=>n*10+(x.toNat-48)) n<(n+1)*10^s.length
 |[],n,_=>by simp
 |x::s,n,h=>by
  simp only[List.all_cons,Bool.and_eq_true]at h
  have hd:x.toNat-48<10:=by
   have:=h.1
   unfold fQ at this
   simp only[Bool.and_eq_true,decide_eq_true_eq]at this
   omega
  have:=Vx s (n*10+(x.toNat-48)) h.2
  rw[List.foldl_cons]
  refine Nat.lt_of_lt_of_le this ?_
  rw[List.length_cons,Nat.pow_succ,Nat.mul_comm (10^s.length) 10,← Nat.mul_assoc]
  exact Nat.mul_le_mul_right _ (by omega)
theorem aln{s:Str}(h:s.all fQ=true)(hl:s.length≤9):jR s<1000000000:=by
 have:=Vx s 0 h
 unfold jR
 refine Nat.lt_of_lt_of_le this ?_
 rw[Nat.zero_add,Nat.one_mul]
 exact Nat.le_trans (Nat.pow_le_pow_right (by decide) hl) (by decide)
theorem afG{B:Base}{T TS g:Nat}{cn cs cc cw ca ci cl:aB}(hn:OJ TS cn)(hs:MJ cs)(hc:Oc B T cc)(hw:Al cw)(ha:qB fQ (.fn (.func g) [] []) ca)(hi:acK ci)(hcl:pg T cl) :
  Ue B T fun args M Q=>∃ a0 a1 a2,args=[a0,a1,a2]∧uq cn cs cc cw ca g ci cl a0 a1 a2 M Q:=by
 intro M v hv b l at' Q hB hb h1 hl hh hll hnl hQ hE
 refine⟨_,_,_,rfl, ?_⟩
 unfold uq
 have hval:∀ {n s},s∈bD l n→s.length<4611686018427387904:=fun hm=>by
  obtain⟨x,hx,rfl⟩:=afz hm
  exact(hnl x hx).2
 have hrl:(b.drop at').length=b.length-at':=by simp
 refine hn hh hll (fun h hx=>(hnl h hx).1) (by decide) fun v1 M1 o1 k1=>?_
 refine hn (aW.keep hh k1 (by simp)) hll (fun h hx=>(hnl h hx).1) (by decide) fun v2 M2 o2 k2=>?_
 have k12:=k1.trans k2
 have s1:Sl tO M2 v1 (bD l Fh):=aW.keep (Own.E5 o1) k2 (by simp)
 have s2:Sl tO M2 v2 (bD l BN):=Own.E5 o2
 have ase := @hval Fh
 have asY := @hval BN
 unfold z8 at hQ hE
 rw[hrl]at hQ hE
 change Sl tO M2 v1 (bD l Fh)at s1
 generalize bD l Fh=xs at *
 generalize bD l BN=ys at *
 rw[s1.len,fJ]
 cases xs with
 |cons x xs =>
  rw[show decide (((x::xs).length:Int)>0)=true by simp,dE,s1.len,fJ]
  simp only[dW]
  cases xs with
  |cons x2 xs =>
   rw[show decide (((x::x2::xs).length:Int)>1)=true by simp;omega]
   simp only[dY,gq,dE]
   exact hE 14 M2 rfl (.inl rfl) k12
  |nil =>
   rw[show decide ((([x]:List Str).length:Int)>1)=false from rfl]
   simp only[bN,eQ]
   obtain⟨b0,o0,_,_,hix,hld⟩:=s1.at 1 0 (i:=0) (by simp)
   rw[hix,fu]
   refine⟨_,iI.1 hld, ?_⟩
   refine hs (by have:=ase (List.mem_singleton.2 rfl);simpa using (by omega:x.length<9223372036854775807)) fun M3 k3=>?_
   simp only[List.getElem_cons_zero,NQ]
   cases hlow:low x==sCH with
   |false =>
    rw[show(low x != sCH)=true by unfold bne;rw[hlow];rfl]
    simp only[dY,gq,dE]
    exact hE 14 M3 (by simp only[hlow]) (.inl rfl) (k12.trans k3)
   |true =>
    rw[show(low x != sCH)=false by unfold bne;rw[hlow];rfl]
    simp only[bN,eQ]
    have s23:Sl tO M3 v2 ys:=aW.keep s2 k3 (by simp)
    rw[s23.len,fJ]
    cases ys with
    |cons y ys =>
     rw[show decide (((y::ys).length:Int)>0)=true by simp,dE]
     exact hE 14 M3 (by simp only[hlow]) (.inl rfl) (k12.trans k3)
    |nil =>
     rw[show decide ((([]:List Str).length:Int)>0)=false from rfl,di]
     have k13:=k12.trans k3
     refine hc (k13.base.trans hB) (hb.keep k13 (by simp)) h1 hl (fun out r at2 ov M4 e4 a1 a2 hr ho k4 o4=>?_) (fun e M4 e4 he k4=>?_)
     ·simp only[dQ,dV,ik]
      exact hQ out r at2 ov M4 (by simp only[hlow];exact e4) a1 a2 hr ho (k13.trans k4) (Own.mono o4 k13.next)
     ·simp only[dQ,dV,ik]
      exact hE e M4 (by simp only[hlow];exact e4) he (k13.trans k4)
 |nil =>
  rw[show decide ((([]:List Str).length:Int)>0)=false from rfl,di,s2.len,fZ]
  cases ys with
  |nil =>
   rw[show((([]:List Str).length:Int)==0)=true from rfl,dE]
   exact hQ [] (b.drop at') at' bC M2 rfl h1 (Nat.le_refl _) rfl (by simp) k12 .nil
  |cons y ys =>
   rw[show(((y::ys).length:Int)==0)=false by simp;omega,di,s2.len,fJ]
   simp only[dW]
   cases ys with
   |cons y2 ys =>
    rw[show decide (((y::y2::ys).length:Int)>1)=true by simp;omega]
    simp only[dY,gq,dE]
    exact hE 14 M2 rfl (.inl rfl) k12
   |nil =>
    rw[show decide ((([y]:List Str).length:Int)>1)=false from rfl]
    simp only[bN,eQ]
    obtain⟨b0,o0,hb0,hb0v,hix,hld⟩:=s2.at 1 0 (i:=0) (by simp)
    have hc0:=iI.1 hld
    have hyl:y.length<4611686018427387904:=asY (List.mem_singleton.2 rfl)
    rw[hix,fu]
    refine⟨_,hc0, ?_⟩
    refine hw ?_
    simp only[List.getElem_cons_zero,fA]
    have tail:∀ M3,ah [] M2 M3→aF (Bo (!Dt y)) (Q (.tup [(.sc (.slice none 0 0)),(N .i64 0),(N .i64 14)]) M3) (
      ed v2 (N .i64 0) 1 fun t67=>au M3 t67 fun t68=>ci [t68] M3 fun t69 ahW=>bz t69 0 fun t70=>bz t69 1 fun t71=>ag .gtr t70 (N .i64 16384) fun t74=>aF t74 ( Q (.tup [(.sc (.slice none 0 0)),(N .i64 0),(N .i64 2)]) ahW) ( bS v fun t78=>ag .sub t78 (N .i64 (at' : Int)) fun t80=>ag .gtr t70 t80 fun t81=>aF t81 ( Q (.tup [(.sc (.slice none 0 0)),(N .i64 0),(N .i64 15)]) ahW) ( ag .add (N .i64 (at' : Int)) t70 fun t86=>dz (bI 1 v (some (N .i64 (at' : Int))) (some t86) none) fun t87=>cl [t87] ahW fun t88 aDr=>ag .add (N .i64 (at' : Int)) t70 fun t91=>Q (.tup [t88,t91,(N .i64 0)]) aDr))):=by
     intro M3 k3
     cases hok:Dt y with
     |false =>
      simp only[Bool.not_false,dE]
      exact hE 14 M3 (by simp only[hok]) (.inl rfl) (k12.trans k3)
     |true =>
      have hok':=hok
      unfold Dt jX at hok'
      simp only[Bool.and_eq_true,decide_eq_true_eq]at hok'
      simp only[Bool.not_true,di]
      have s23:Sl tO M3 v2 [y]:=aW.keep s2 k3 (by simp)
      obtain⟨b3,o3,hb3,_,azn,auF⟩:=s23.at 1 0 (i:=0) (by simp)
      rw[azn,fu]
      refine⟨_,iI.1 auF, ?_⟩
      simp only[List.getElem_cons_zero]
      refine hi (by omega) (by omega) hok'.2 fun M4 k4=>?_
      have hlt:=aln hok'.2 (by omega)
      have k14:=k12.trans (k3.trans k4)
      have hb4:=hb.keep k14 (by simp)
      simp only[dQ,dV]
      rw[show(N .i64 16384)=N .i64 ((16384:Nat):Int)from rfl,acy]
      refine cK (fun h=>?_) fun h=>?_
      ·have h:16384<jR y:=by simpa using h
       exact hE 2 M4 (by simp only[hok,Pp h]) (by omega) k14
      have hf1:¬ 16384<jR y:=by simpa using h
      rw[hb4.len,abG h1 (by omega),acy]
      refine cK (fun h=>?_) fun h=>?_
      ·have h:b.length-at'<jR y:=by simpa using h
       exact hE 15 M4 (by simp only[hok,pW hf1,Pp h]) (by omega) k14
      have hf2:¬ b.length-at'<jR y:=by simpa using h
      simp only[addN (show at'+jR y<4611686018427387904 by omega)]
      refine hb4.sub (nA _ _ _) (nA _ _ _) (by omega) (by omega) fun v5 hv5 _=>?_
      rw[Nat.add_sub_cancel_left]at hv5
      refine hcl hv5.sl (by simp;omega) fun v6 M6 o6 k6=>?_
      exact hQ ((b.drop at').take (jR y)) ((b.drop at').drop (jR y)) (at'+jR y) v6 M6 (by simp only[hok,pW hf1,pW hf2]) (by omega) (by omega) (by rw[List.drop_drop]) (by simp;omega) (k14.trans k6) (Own.mono o6 k14.next)
    cases hwi:jX y 1 9 with
    |false =>
     simp only[Bool.not_false,dY,gq]
     have:=tail M2 (ah.refl _ _)
     unfold Dt at this
     rw[hwi]at this
     simpa only[Bool.false_and,Bool.not_false]using this
    |true =>
     simp only[Bool.not_true,bN,eQ]
     rw[hix,fu]
     refine⟨_,hc0, ?_⟩
     simp only[List.getElem_cons_zero]
     refine ha hyl fun M3 k3=>?_
     have:=tail M3 k3
     unfold Dt at this
     rw[hwi]at this
     simpa only[fA,Bool.true_and,eQ]using this
end Go.Ab.Hw
namespace Go.Ab.Hw
open Go Go.Ab Go.Ab.Sm
open Go.Ab.Vl (brk ow wR jd iD jU jy KL pV)
def abv(c:UInt8):List Str→List Str
 |[]=>[[c]]
 |w::ws=>(c::w)::ws
def words(x:UInt8):Str→List Str
 |[]=>[[]]
 |c::t=>match c==x with
  |true=>[]::words x t
  |false=>abv c (words x t)
theorem ags(x:UInt8)(s:Str):words x s≠[]:=by
 cases s with
 |nil=>simp[words]
 |cons c t =>
  unfold words
  split
  ·simp
  ·cases words x t<;>simp[abv]
theorem yA(x:UInt8):∀ s:Str,words x s=(match brk x s with|none=>[s]|some p=>p.1::words x p.2)
 |[]=>rfl
 |c::t=>by
  rw[words,brk]
  cases h:c==x
  ·have hc:¬ c=x:=by simpa using h
   rw[if_neg hc]
   dsimp only
   rw[yA x t]
   cases brk x t with
   |none=>rfl
   |some p=>rfl
  ·have hc:c=x:=by simpa using h
   rw[if_pos hc]
theorem CU{x:UInt8}:∀ {s a b:Str},brk x s=some (a,b)→s.count x=b.count x+1
 |[],_,_,h=>by simp[brk]at h
 |c::t,a,b,h=>by
  rw[brk]at h
  split at h
  ·rename_i e;subst e;cases h;simp
  ·rename_i e
   cases hb:brk x t with
   |none=>rw[hb]at h;simp at h
   |some p =>
    rw[hb]at h
    simp only[Option.map_some,Option.some.injEq,Prod.mk.injEq]at h
    obtain⟨_,rfl⟩:=h
    rw[List.count_cons_of_ne e]
    exact CU (a:=p.1) (b:=p.2) hb
theorem QS{x:UInt8}{s:Str}(h:brk x s=none):s.count x=0:=by
 rcases Vl.EN x s with⟨_,_,h3⟩|⟨a,b,h1,_⟩
 ·exact List.count_eq_zero.2 h3
 ·rw[h]at h1;cases h1
theorem J9(x:UInt8):∀ (k:Nat)(s:Str),s.count x=k→Lib.splitK [x] 0 k s=words x s
 |0,s,h=>by
  rw[yA]
  cases hb:brk x s with
  |none=>rfl
  |some p=>have:=CU (a:=p.1) (b:=p.2) hb;omega
 |k+1,s,h=>by
  rw[yA,Lib.splitK,Lib.index_one]
  rcases Vl.EN x s with⟨h1,h2,_⟩|⟨a,b,h1,h2,h3,_⟩
  ·have:=QS h1;omega
  ·have hn:((a.length:Int) == -1)=false:=by simp
   have hc:=CU h1
   rw[h1,h2,hn]
   simp only[Int.toNat_natCast,Nat.add_zero,List.length_cons,List.length_nil]
   rw[← J9 x k b (by omega)]
   have e1:s.take a.length=a:=by rw[h3];simp
   have e2:s.drop (a.length+(0+1))=b:=by rw[h3,← List.drop_drop];simp
   rw[e1,e2]
   rfl
theorem CL{x:UInt8}:∀ {s w:Str},w∈words x s→w.length≤s.length
 |[],w,h=>by simp[words]at h;subst h;simp
 |c::t,w,h=>by
  rw[words]at h
  split at h
  ·rcases List.mem_cons.1 h with rfl|h
   ·simp
   ·have:=CL h;simp;omega
  ·cases hw:words x t with
   |nil=>exact absurd hw (ags x t)
   |cons v vs =>
    rw[hw]at h
    simp only[abv]at h
    rcases List.mem_cons.1 h with rfl|h
    ·have:=CL (x:=x) (s:=t) (w:=v) (by rw[hw];simp);simp;omega
    ·have:=CL (x:=x) (s:=t) (w:=w) (by rw[hw];simp[h]);simp;omega
def VP(B:Base)(T:Nat)(c:aB):Prop:=∀ {M:RM}{s:Str}{Q:aj},M.base=B→s.length≤1000000→(∀ v M',Ow tO M' M.next T v (words 32 s)→ah [] M M'→Q v M')→c [St s,St [32]] M Q
abbrev WV:Str:=[72,84,84,80,47,49,46,49]
def zQ(m p v:Str):Bool:=jh m&&j3 p&&(v==WV)
def lN(s:Str):Option (Str×Str):=match words 32 s with
 |[m,p,v]=>match zQ m p v with
  |true=>some (m,p)
  |false=>none
 |_=>none
def A8(s:Str):Bool:=(lN s).isSome
abbrev mM(T:Nat)(m p:Str):RB:=.row [St m,St p,bC,bC] false T 0
def WS(T:Nat)(s:Str):RB:=match lN s with
 |some (m,p)=>mM T m p
 |none=>mM T [] []
theorem aoV(l:List Str):(∃ a b c,l=[a,b,c])∨l.length≠3:=by
 rcases l with _|⟨a,_|⟨b,_|⟨c,_|⟨d,l⟩⟩⟩⟩<;>simp
theorem adK{B:Base}{T TS br:Nat}{cs cm cp:aB}(hs:VP B TS cs)(hm:qV jh cm)(hp:qV j3 cp){M:RM}{s:Str}{K:aj}(hB:M.base=B)(hbr:br<M.next)(hX:M.heap br=some (mM T [] []))
  (hl:s.length≤2048) (h0:A8 s=false→∀ M',ah [br] M M'→K (Bo false) M') (h1:A8 s=true→∀ M',ah [br] M M'→M'.heap br=some (WS T s)→K (Bo true) M'):kF cs cm cp (St s) (.ptr br 0) M K:=by
 unfold kF
 refine hs hB (by omega) fun v M1 o1 k1=>?_
 have s1:Sl tO M1 v (words 32 s):=Own.E5 o1
 have hwl:∀ w∈words 32 s,w.length≤2048:=fun w hw=>Nat.le_trans (CL hw) hl
 have kb:∀ {M'},ah [] M M'→ah [br] M M':=fun k=>k.mono (by simp)
 rw[s1.len]
 simp only[iJ,dW]
 rcases aoV (words 32 s)with⟨a,b,c,hw⟩|hne
 ·have hq:lN s=if zQ a b c then some (a,b)else none:=by
   unfold lN;rw[hw];dsimp only;cases zQ a b c<;>rfl
  rw[hw]at s1 hwl ⊢
  rw[show((([a,b,c]:List Str).length:Int) != 3)=false from rfl]
  simp only[bN,eQ]
  have at_:∀ {M2:RM}(k:ah [] M1 M2){K' : AV→Prop},(∀ x:AV,(ed v (N .i64 0) 1 fun t=>au M2 t fun u=>K' u)=K' (St a))∧(∀ x:AV,(ed v (N .i64 1) 1 fun t=>au M2 t fun u=>K' u)=K' (St b))∧(∀ x:AV,(ed v (N .i64 2) 1 fun t=>au M2 t fun u=>K' u)=K' (St c)):=by
   intro M2 k K'
   have s2:Sl tO M2 v [a,b,c]:=aW.keep s1 k (by simp)
   obtain⟨b0,o0,_,_,hix,hld⟩:=s2.at 1 0 (i:=0) (by simp)
   obtain⟨b1,o1',_,_,agq,ab2⟩:=s2.at 1 1 (i:=1) (by simp)
   obtain⟨b2,o2,_,_,aAU,axk⟩:=s2.at 1 2 (i:=2) (by simp)
   refine⟨fun _=>?_,fun _=>?_,fun _=>?_⟩
   ·rw[hix,fu,iI.1 hld];exact QJ _ _
   ·rw[agq,fu,iI.1 ab2];exact QJ _ _
   ·rw[aAU,fu,iI.1 axk];exact QJ _ _
  have tail:∀ M2,ah [] M1 M2→(aF (Bo (!zQ a b c)) (K (Bo false) M2) (
    ed v (N .i64 0) 1 fun t31=>au M2 t31 fun t32=>ed v (N .i64 1) 1 fun t34=>au M2 t34 fun t35=>aZ (.ptr br 0) 0 fun t36=>aR M2 t36 t32 1 fun amO=>au amO t34 fun aqI=>(aqI=t35∧aZ (.ptr br 0) 1 fun t37=>aR amO t37 t35 1 fun aB9=>K (Bo true) aB9))):=by
   intro M2 k2
   have k02:ah [] M M2:=k1.trans k2
   refine cK (fun h=>?_) fun h=>?_
   ·have hk:zQ a b c=false:=by simpa using h
    exact h0 (by unfold A8;rw[hq,hk];rfl) M2 (kb k02)
   ·have hk:zQ a b c=true:=by simpa using h
    have X2:=k02.aV hX hbr (by simp)
    have s2:Sl tO M2 v [a,b,c]:=aW.keep s1 k2 (by simp)
    rw[((at_ k2).1 bC)]
    obtain⟨b1,o1',hb1,aBC,agq,ab2⟩:=s2.at 1 1 (i:=1) (by simp)
    have hvn:=(o1.blk b1 aBC).1
    rw[agq,fu]
    refine⟨_,iI.1 ab2, ?_⟩
    simp only[List.getElem_cons_succ,List.getElem_cons_zero]
    rw[fD,eU [St a,St [],bC,bC] X2 (by simp) rfl rfl rfl,fu]
    have k3:ah [br] M2 (M2.put br (.row [St a,St [],bC,bC] false T 0)):=(ah.refl _ _).put _ (.inr (by simp))
    have hne:b1≠br:=fun e=>by omega
    refine⟨St b, ?_,rfl, ?_⟩
    ·have hcell:M2.cell b1 o1'=some (St b):=iI.1 ab2
     rw[← hcell]
     unfold RM.cell
     rw[RM.Iu,RM.Iu,k3.heap b1 hb1 (by simpa using hne)]
     rfl
    rw[fD,eU [St a,St b,bC,bC] (aO _) (by simp) rfl rfl rfl]
    refine h1 (by unfold A8;rw[hq,hk];rfl) _ ((kb k02).trans (k3.trans ((ah.refl _ _).put _ (.inr (by simp))))) ?_
    rw[aO]
    unfold WS;rw[hq,hk];rfl
  have ha:=hwl a (by simp)
  have hb:=hwl b (by simp)
  rw[((at_ (ah.refl _ _)).1 bC)]
  refine hm (by omega) fun M2 k2=>?_
  simp only[fA]
  unfold zQ at tail
  cases hgm:jh a with
  |false =>
   simp only[Bool.not_false,dY,gq]
   have:=tail M2 k2
   simpa only[hgm,Bool.false_and,Bool.not_false]using this
  |true =>
   simp only[Bool.not_true,bN,eQ]
   rw[((at_ k2).2.1 bC)]
   refine hp (by omega) fun M3 k3=>?_
   have k13:=k2.trans k3
   simp only[fA]
   cases hgp:j3 b with
   |false =>
    simp only[Bool.not_false,dY,gq]
    have:=tail M3 k13
    simpa only[hgm,hgp,Bool.false_and,Bool.and_false,Bool.not_false]using this
   |true =>
    simp only[Bool.not_true,bN,eQ]
    rw[((at_ k13).2.2 bC),NQ]
    have:=tail M3 k13
    simpa only[hgm,hgp,Bool.true_and,bne]using this
 ·have hq:lN s=none:=by
   unfold lN
   split
   ·rename_i m p v hw;rw[hw]at hne;exact absurd rfl hne
   ·rfl
  rw[show(((words 32 s).length:Int) != 3)=true by
   simp only[bne_iff_ne,ne_eq]
   omega]
  simp only[dY,gq,dE]
  exact h0 (by unfold A8;rw[hq];rfl) M1 (kb k1)
abbrev Vm:Str:=[72,84,84,80,47,49,46,49,32]
def wU(s:Str):Str:=if pre Vm s then s.drop 9 else s
def Xv(s:Str):Bool:=!pre Vm s||decide (((wU s).length:Int)<4)
def ade(s:Str):Bool:=Xv s || !((wU s).take 3).all fQ
def abP(s:Str):Bool:=ade s||((((wU s).getD 3 0).toNat:Int) != 32)
def agz(s:Str):Bool:=abP s || !((wU s).drop 3).all p32
def codeOf(s:Str):Nat:=jR ((wU s).take 3)
def uu(s:Str):Bool:=!agz s&&(decide ((codeOf s:Int)≥100)&&decide ((codeOf s:Int)≤599))
abbrev jP(T:Nat)(n:Int):RB:=.row [N .i64 n,bC,bC] false T 0
def TI(T:Nat)(s:Str):RB:=jP T (codeOf s)
theorem adu{T br g1 g2:Nat}{cc ca ci:aB}(hc:Am cc)(ha1:qB fQ (.fn (.func g1) [] []) ca)(ha2:qB p32 (.fn (.func g2) [] []) ca)(hi:acK ci){M:RM}{s:Str}{K:aj}(hbr:br<M.next)
  (hX:M.heap br=some (jP T 0)) (hl:s.length≤2048) (h0:uu s=false→∀ M',ah [br] M M'→K (Bo false) M') (h1:uu s=true→∀ M',ah [br] M M'→M'.heap br=some (TI T s)→K (Bo true) M') :
  jO cc ca g1 g2 ci (St s) (.ptr br 0) M K:=by
 unfold jO
 refine hc ?_
 have kb:∀ {M'},ah [] M M'→ah [br] M M':=fun k=>k.mono (by simp)
 have hrl:(wU s).length≤s.length:=by unfold wU;split<;>simp
 have e9:JW Vm s=.tup [St (wU s),Bo (pre Vm s)]:=by
  unfold JW wU;cases pre Vm s<;>rfl
 rw[e9]
 simp only[dQ,dV,fA,dW]
 generalize hr:wU s=r at *
 have hb1:Xv s=(!pre Vm s||decide ((r.length:Int)<4)):=by unfold Xv;rw[hr]
 have hb2:ade s=(Xv s || !(r.take 3).all fQ):=by unfold ade;rw[hr]
 have hb3:abP s=(ade s||(((r.getD 3 0).toNat:Int) != 32)):=by unfold abP;rw[hr]
 have hb4:agz s=(abP s || !(r.drop 3).all p32):=by unfold agz;rw[hr]
 have aa9:Xv s=false→4≤r.length:=fun h=>by
  rw[hb1]at h
  simp only[Bool.or_eq_false_iff,decide_eq_false_iff_not]at h
  omega
 refine Ny (P:=ah [] M) (p:=decide ((r.length:Int)<4)) (ah.refl _ _) (fun _ k hk=>?_) fun M1 k1=>?_
 ·simpa only[go_sem]using hk M (ah.refl _ _)
 rw[← hb1]
 refine Ny (P:=ah [] M) (p:=!(r.take 3).all fQ) k1 (fun hf k hk=>?_) fun M2 k2=>?_
 ·have:=aa9 hf
  rw[show(N .i64 3)=N .i64 ((3:Nat):Int)from rfl,jy (by omega)]
  simp only[jV]
  refine ha1 (by simp;omega) fun M2 k2=>?_
  simp only[fA]
  exact hk M2 (k1.trans k2)
 rw[← hb2]
 refine Ny (P:=ah [] M) (p:=(((r.getD 3 0).toNat:Int) != 32)) k2 (fun hf k hk=>?_) fun M3 k3=>?_
 ·have:=aa9 (by rw[hb2,Bool.or_eq_false_iff]at hf;exact hf.1)
  rw[show(N .i64 3)=N .i64 ((3:Nat):Int)from rfl,pV (by omega),iJ]
  have:r.getD 3 0=r[3]:=by simp[List.getD_eq_getElem?_getD,List.getElem?_eq_getElem (show 3<r.length by omega)]
  rw[this]at hk
  exact hk _ k2
 rw[← hb3]
 refine Ny (P:=ah [] M) (p:=!(r.drop 3).all p32) k3 (fun hf k hk=>?_) fun M4 k4=>?_
 ·have:=aa9 (by
   rw[hb3,Bool.or_eq_false_iff]at hf
   have:=hf.1
   rw[hb2,Bool.or_eq_false_iff]at this;exact this.1)
  rw[show(N .i64 3)=N .i64 ((3:Nat):Int)from rfl,iD (by omega)]
  simp only[jV]
  refine ha2 (by simp;omega) fun M2 k2=>?_
  simp only[fA]
  exact hk M2 (k3.trans k2)
 rw[← hb4]
 refine cK (fun h=>?_) fun h=>?_
 ·exact h0 (by unfold uu;rw[h];rfl) M4 (kb k4)
 ·have h':=h
  rw[hb4,Bool.or_eq_false_iff]at h'
  have h'':=h'.1
  rw[hb3,Bool.or_eq_false_iff]at h''
  have h3:=h''.1
  rw[hb2,Bool.or_eq_false_iff]at h3
  have hd:(r.take 3).all fQ=true:=by simpa using h3.2
  have l4:=aa9 h3.1
  rw[show(N .i64 3)=N .i64 ((3:Nat):Int)from rfl,jy (by omega)]
  simp only[jV]
  refine hi (by simp;omega) (by simp;omega) hd fun M5 k5=>?_
  have X5:=(k4.trans k5).aV hX hbr (by simp)
  have hcode:codeOf s=jR (r.take 3):=by unfold codeOf;rw[hr]
  rw[← hcode]
  simp only[dQ,dV]
  rw[fD,eU [N .i64 (codeOf s:Int),bC,bC] X5 (by simp) rfl rfl rfl]
  have k6:ah [br] M (M5.put br (.row [N .i64 (codeOf s:Int),bC,bC] false T 0)):=(kb (k4.trans k5)).put _ (.inr (by simp))
  have X6:(M5.put br (.row [N .i64 (codeOf s:Int),bC,bC] false T 0)).heap br=some (TI T s):=aO _
  generalize M5.put br (.row [N .i64 (codeOf s:Int),bC,bC] false T 0)=M6 at *
  have ld:∀ {K' : AV→Prop},au M6 (.ptr br 0) K'=K' (N .i64 (codeOf s:Int)):=fun {K'} => aT X6 rfl
  rw[fD,ld,fe]
  try simp only[dW]
  refine qR (p:=decide ((codeOf s:Int)≤599)) (fun _ k hk=>?_) ?_
  ·rw[fD,ld]
   simpa only[go_sem]using hk
  ·have hp:uu s=(decide ((codeOf s:Int)≥100)&&decide ((codeOf s:Int)≤599)):=by unfold uu;rw[h];rfl
   rw[← hp]
   cases hv:uu s with
   |false=>exact h0 hv _ k6
   |true=>exact h1 hv _ k6 X6
theorem Zf{s:Str}{h:Hd}(e:gU s=some h):h.1.length≤s.length∧h.2.length≤s.length:=by
 unfold gU at e
 split at e
 ·cases e
 ·rename_i a b hb
  have:=ZA hb
  have:=Sn b
  split at e
  ·cases e;exact⟨by show a.length≤_;omega,by show(trimB b).length≤_;omega⟩
  ·cases e
theorem aee{b s:Str}{at' n:Nat}(e:qY b at'=.ok (s,n)):s.length≤2048:=by
 unfold qY at e
 split at e
 ·rename_i p hp
  cases e
  obtain⟨a,r⟩:=p
  have:=(BA hp).2
  simp at this
  show a.length≤2048
  omega
 ·split at e<;>cases e
theorem afl(b:Str):∀ (f at' : Nat)(l l' : List Hd)(n:Nat),(∀ h∈l,h.1.length≤2048∧h.2.length≤2048)→hloop b f at' l=.ok (l',n)→∀ h∈l',h.1.length≤2048∧h.2.length≤2048:=by
 intro f
 induction f with
 |zero =>
  intro at' l l' n hl e
  rw[nE]at e
  split at e
  ·cases e
  ·split at e
   ·cases e;exact hl
   ·cases e
 |succ f ih =>
  intro at' l l' n hl e
  rw[nE]at e
  split at e
  ·cases e
  ·rename_i s n' hL
   split at e
   ·cases e;exact hl
   ·dsimp only at e
    split at e
    ·cases e
    ·rename_i h hh
     refine ih _ _ _ _ (fun x hx=>?_) e
     rcases List.mem_append.1 hx with hx|hx
     ·exact hl x hx
     ·have:x=h:=by simpa using hx
      subst this
      have h1:=Zf hh
      have h2:=aee hL
      exact⟨by omega,by omega⟩
theorem Sc{p:Str→Bool}{b s:Str}{l:List Hd}{n:Nat}(e:headD p b=.ok (s,l,n)):(∀ h∈l,h.1.length≤2048∧h.2.length≤2048)∧p s=true:=by
 unfold headD at e
 split at e
 ·cases e
 ·split at e
  ·cases e
  ·split at e
   ·cases e
   ·rename_i hh
    cases e
    exact⟨afl b _ _ _ _ _ (by simp) hh,by assumption⟩
def nT(b:Str):Except Nat ((Str×Str×List Hd×Str)×Str):=match headD A8 b with
 |.error e=>.error e
 |.ok (s,l,at')=>match z8 (b.drop at') l with
  |.error e=>.error e
  |.ok (out,r)=>match lN s with
   |some (m,p)=>.ok ((m,p,l,out),r)
   |none=>.error 14
theorem vS{br:Nat}{M M0 M1:RM}(k0:ah [] M M0)(h:ah [br] M0 M1)(hb:M.next≤br):ah [] M M1 :=
 ⟨h.base.trans k0.base,Nat.le_trans k0.next h.next,fun x hx _=>by rw[h.heap x (Nat.lt_of_lt_of_le hx k0.next) (fun e=>by simp at e;omega),k0.heap x hx (by simp)]⟩
theorem Bs.lt{M:RM}{v:AV}{b:Str}(h:Bs M v b):∀ x∈aJ v,x<M.next:=aW.lt h.sl
def nN(b:Str):Except Nat ((Nat×List Hd×Str)×Str):=match headD uu b with
 |.error e=>.error e
 |.ok (s,l,at')=>match z8 (b.drop at') l with
  |.error e=>.error e
  |.ok (out,r)=>.ok ((codeOf s,l,out),r)
end Go.Ab.Hw
namespace Go.Ab.Hw
open Go Go.Ab Go.Ab.Sm
def rJ(h:Hd):Bool:=!(!fI h.1 || !dZ h.2||low h.1==Fh||low h.1==BN)
def dH(h:Hd):Str:=h.1++[58,32]++h.2++[13,10]
def qZ(first:Str)(l:List Hd):Str:=first++[13,10]++l.flatMap dH
def lM(first:Str)(l:List Hd)(more:Hd):Str:=qZ first l++(dH more++[13,10])
def sw(l:List Hd)(s:Str)(sz:Nat):Bool:=decide (((l.length+1:Nat):Int)>32)||decide ((s.length:Int)>2048)||decide ((sz:Int)>16384)
def iE(first:Str)(l:List Hd)(more:Hd)(sz:Nat)(body:Str):Except Nat Str:=match l.all rJ with
 |false=>.error 1
 |true=>match sw l (lM first l more) sz with
  |true=>.error 2
  |false=>.ok (lM first l more++body)
theorem UK:∀ (l:List Hd)(k:Nat),(∀ h∈l,h.1.length≤k∧h.2.length≤k)→(l.flatMap dH).length≤l.length*(2*k+4)
 |[],k,_=>by simp
 |h::l,k,hk=>by
  have:=UK l k fun x hx=>hk x (.tail _ hx)
  have h0:=hk h (.head _)
  rw[List.flatMap_cons,List.length_append,List.length_cons,Nat.succ_mul]
  have:(dH h).length=h.1.length+h.2.length+4:=by unfold dH;simp;omega
  omega
def Ir(B:Base)(T:Nat)(c:aB):Prop:=∀ {M:RM}{v bv:AV}{first body:Str}{l:List Hd}{more:Hd}{sz:Nat}{Q:aj},M.base=B→Sl HD M v l→l.length≤1000→(∀ h∈l,h.1.length≤281474976710656∧h.2.length≤281474976710656) →
 first.length≤1000000→more.1.length≤1000000→more.2.length≤1000000→Sl BY M bv body→body.length≤1000000000 →
 (∀ s v' M',iE first l more sz body=.ok s→s.length≤2048+body.length→ah [] M M'→Ow BY M' M.next T v' s→Q (.tup [v',N .i64 0]) M')→(∀ (e:Nat) M',iE first l more sz body=.error e→(e=1∨e=2)→ah [] M M'→Q (.tup [bC,N .i64 (e:Int)]) M') →
 c [St first,v,.agg [St more.1,St more.2],N .i64 (sz:Int),bv] M Q
theorem YF{B:Base}{TH T:Nat}{cn cv cs:aB}(hn:qV fI cn)(hg:PD B dZ cv)(hs:MJ cs) :
  Ir B T fun args M Q=>∃ a0 a1 a2 a3 a4,args=[a0,a1,a2,a3,a4]∧oM TH cn cv cs T a0 a1 a2 a3 a4 M Q:=by
 intro M v bv first body l more sz Q hB hv hll hle hf hm1 hm2 hbv hbl hQ hE
 refine⟨_,_,_,_,_,rfl, ?_⟩
 unfold oM
 rw[vQ rfl (by simp)]
 simp only[bL]
 have k0:ah [] M (M.push (.row [St more.1,St more.2] false TH 0)):=(ah.refl _ _).push _
 have n0:(M.push (.row [St more.1,St more.2] false TH 0)).heap M.next=some (.row [St more.1,St more.2] false TH 0):=by simp[RM.push]
 have l0:M.next<(M.push (.row [St more.1,St more.2] false TH 0)).next:=by simp[RM.push]
 generalize M.push (.row [St more.1,St more.2] false TH 0)=M0 at *
 rw[fV]
 refine⟨by simp;omega, ?_⟩
 rw[aW.len hv]
 refine bU (fun m ys M3=>∃ i:Nat,m=l.length-i∧ys=[St (qZ first (l.take i)),N .i64 (i:Int)]∧i≤l.length∧(l.take i).all rJ=true∧ah [] M0 M3) _
  ⟨0,rfl,by simp[qZ],Nat.zero_le _,rfl,ah.refl _ _⟩ ?_
 rintro next m ys M3 hnext ⟨i,rfl,rfl,hi,hA,k3⟩
 simp only[bV,gY,Ih]
 have k03:=k0.trans k3
 have hv3:Sl HD M3 v l:=aW.keep hv k03 (by simp)
 have hlen:(qZ first (l.take i)).length≤1000002+1000*(2*281474976710656+4):=by
  have:=UK (l.take i) 281474976710656 fun h hh=>hle h (List.mem_of_mem_take hh)
  have h2:(l.take i).length≤1000:=by simp;omega
  have h3:=Nat.mul_le_mul_right (2*281474976710656+4) h2
  unfold qZ
  simp only[List.length_append,List.length_cons,List.length_nil]
  omega
 refine cK (fun h=>?_) fun h=>?_
 ·have hlt:i<l.length:=by simpa using h
  obtain⟨b,off,hb,_,hix,hld⟩:=hv3.at 2 (i:Int) hlt
  have hhl:=hle l[i] (List.getElem_mem hlt)
  rw[hix,JV]
  refine⟨_,hld, ?_⟩
  try simp only[bL]
  have n4:(M3.push (.row [St [],St []] false TH 0)).heap M3.next=some (.row [St [],St []] false TH 0):=by simp[RM.push]
  rw[jo n4 (by rfl) (by rfl) (by rfl)]
  have k4:ah [] M3 ((M3.push (.row [St [],St []] false TH 0)).put M3.next (.row (HD.cells l[i]) false TH 0)):=((ah.refl _ _).push _).new _ (Nat.le_refl _)
  have n5:((M3.push (.row [St [],St []] false TH 0)).put M3.next (.row (HD.cells l[i]) false TH 0)).heap M3.next=some (.row (HD.cells l[i]) false TH 0):=aO _
  have l5:M3.next<((M3.push (.row [St [],St []] false TH 0)).put M3.next (.row (HD.cells l[i]) false TH 0)).next:=by simp[RM.push,RM.put]
  generalize (M3.push (.row [St [],St []] false TH 0)).put M3.next (.row (HD.cells l[i]) false TH 0)=M4 at *
  have ld0:∀ {M' : RM}(k:ah [] M4 M'){K' : AV→Prop},au M' (.ptr M3.next 0) K'=K' (St l[i].1):=fun k=>aT (k.aV n5 l5 (by simp)) rfl
  have ld1:∀ {M' : RM}(k:ah [] M4 M'){K' : AV→Prop},au M' (.ptr M3.next 1) K'=K' (St l[i].2):=fun k=>aT (k.aV n5 l5 (by simp)) rfl
  simp only[fD,dW]
  rw[ld0 (ah.refl _ _)]
  have kM4:ah [] M M4:=k03.trans k4
  refine hn (by omega) fun M5 k5=>?_
  simp only[fA]
  refine Ny (P:=ah [] M4) (p:=!dZ l[i].2) k5 (fun _ k hk=>?_) fun M6 k6=>?_
  ·rw[ld1 k5]
   refine hg ((kM4.trans k5).base.trans hB) (by omega) fun M6 k6=>?_
   simp only[fA]
   exact hk M6 (k5.trans k6)
  refine Ny (P:=ah [] M4) (p:=low l[i].1==Fh) k6 (fun _ k hk=>?_) fun M7 k7=>?_
  ·rw[ld0 k6]
   refine hs (by omega) fun M7 k7=>?_
   simp only[q9]
   exact hk M7 (k6.trans k7)
  refine Ny (P:=ah [] M4) (p:=low l[i].1==BN) k7 (fun _ k hk=>?_) fun M8 k8=>?_
  ·rw[ld0 k7]
   refine hs (by omega) fun M8 k8=>?_
   simp only[q9]
   exact hk M8 (k7.trans k8)
  have hok:rJ l[i]=!(!fI l[i].1 || !dZ l[i].2||low l[i].1==Fh||low l[i].1==BN):=rfl
  have htk:(l.take (i+1)).all rJ=rJ l[i]:=by
   rw[List.take_succ_eq_append_getElem hlt,List.all_append,hA];simp
  refine cK (fun h=>?_) fun h=>?_
  ·have hbad:rJ l[i]=false:=by rw[hok,h];rfl
   refine hE 1 M8 ?_ (.inl rfl) (kM4.trans k8)
   have:l.all rJ=false:=by
    rw[← List.take_append_drop (i+1) l,List.all_append,htk,hbad];rfl
   unfold iE;rw[this]
  ·have hgd:rJ l[i]=true:=by rw[hok,h];rfl
   rw[ld0 k8,fV]
   refine⟨by simp;omega, ?_⟩
   rw[ld1 k8,fV]
   refine⟨by simp;omega, ?_⟩
   rw[fV]
   refine⟨by simp;omega, ?_⟩
   rw[fV]
   refine⟨by simp;omega, ?_⟩
   rw[add1 (by omega)]
   refine hnext _ _ _ (by omega) ⟨i+1,rfl, ?_,by omega,by rw[htk,hgd],k3.trans (k4.trans k8)⟩
   congr 2
   unfold qZ
   rw[List.take_succ_eq_append_getElem hlt,List.flatMap_append]
   simp[dH]
 ·have:i=l.length:=by simp at h;omega
  subst this
  rw[List.take_length]at hA hlen
  have n3:=k3.aV n0 l0 (by simp)
  simp only[List.take_length,fD,dW]
  rw[aT n3 rfl,fV]
  refine⟨by simp;omega, ?_⟩
  rw[aT n3 (by rfl:([St more.1,St more.2]:List AV)[1]?=some (St more.2)),fV]
  refine⟨by simp;omega, ?_⟩
  rw[fV]
  refine⟨by simp;omega, ?_⟩
  rw[fV]
  refine⟨by simp;omega, ?_⟩
  rw[fV]
  refine⟨by simp;omega, ?_⟩
  have hs:qZ first l++(more.1++[58,32]++more.2++[13,10]++[13,10])=lM first l more:=rfl
  rw[hs,aW.len hv,add1 (by omega),show(N .i64 32)=N .i64 ((32:Nat):Int)from rfl,fJ]
  refine Ob (p:=decide (((lM first l more).length:Int)>2048)) (fun _ k hk=>by simpa only[go_sem]using hk) ?_
  refine Ob (p:=decide ((sz:Int)>16384)) (fun _ k hk=>by simpa only[go_sem]using hk) ?_
  have ht:(decide (((l.length+1:Nat):Int)>((32:Nat):Int))||decide (((lM first l more).length:Int)>2048)||decide ((sz:Int)>16384))=sw l (lM first l more) sz:=rfl
  rw[ht]
  refine cK (fun h=>?_) fun h=>?_
  ·exact hE 2 M3 (by unfold iE;rw[hA];simp only[h]) (.inr rfl) k03
  ·rw[sW]
   simp only[bL]
   have k4:ah [] M3 (M3.push (.row (BY.row (lM first l more)) true T 0)):=(ah.refl _ _).push _
   have hal:(lM first l more).length≤2048:=by
    have h':=h
    unfold sw at h'
    simp only[Bool.or_eq_false_iff,decide_eq_false_iff_not]at h'
    omega
   have o4:Ow BY (M3.push (.row (BY.row (lM first l more)) true T 0)) M3.next T (.slc M3.next 0 (lM first l more).length (.op 1)) (lM first l more) :=
    Own.op _ _ _ (Nat.le_refl _) (by simp[RM.push]) (RM.nL _) (by rw[Enc.ig])
   refine Fa (E:=BY) o4 k4.next (by decide) (aW.keep (aW.keep hbv k03 (by simp)) k4 (by simp)) (by omega) (by omega) fun v7 M7 o7 k7 _ _=>?_
   refine hQ _ v7 M7 (by unfold iE;rw[hA];simp only[h]) (by simp;omega) ?_ (Own.mono o7 k03.next)
   refine ah.own (k03.trans k4) k7 (fun x hx=>?_)
   have:=k03.next
   simp[aJ]at hx;omega
def zm(base:Nat):Nat→Nat→Str
 |0,_=>[]
 |f+1,n=>match Nat.blt n base with
  |true=>[if n<10 then UInt8.ofNat (48+n)else UInt8.ofNat (87+n)]
  |false=>zm base f (n / base)++[if n%base<10 then UInt8.ofNat (48+n%base)else UInt8.ofNat (87+n%base)]
def fT(n:Nat):Str:=zm 10 20 n
def acM(B:Base)(c:aB):Prop:=∀ {M:RM}{n:Nat}{Q:aj},M.base=B→n<1000000000000→(∀ M',ah [] M M'→Q (St (fT n)) M')→c [N .i64 (n:Int)] M Q
theorem HZ:∀ (base f n:Nat),(zm base f n).length≤f
 |_,0,_=>by simp[zm]
 |base,f+1,n=>by
  rw[zm]
  split
  ·simp
  ·have:=HZ base f (n / base);simp;omega
abbrev vR:Str:=[67,111,110,116,101,110,116,45,76,101,110,103,116,104]
def GU(B:Base)(c:aB):Prop:=∀ {M:RM}{n:Nat}{Q:aj},M.base=B→n<1000000000000→(∀ M',ah [] M M'→Q (.agg [St vR,St (fT n)]) M')→c [N .i64 (n:Int)] M Q
theorem Yk{B:Base}{T:Nat}{ci:aB}(hi:acM B ci):GU B fun args M Q=>∃ a0,args=[a0]∧pF T ci a0 M Q:=by
 intro M n Q hB hn hQ
 refine⟨_,rfl, ?_⟩
 unfold pF
 simp only[bL]
 have k0:ah [] M (M.push (.row [St [],St []] false T 0)):=(ah.refl _ _).push _
 have n0:(M.push (.row [St [],St []] false T 0)).heap M.next=some (.row [St [],St []] false T 0):=by simp[RM.push]
 have l0:M.next<(M.push (.row [St [],St []] false T 0)).next:=by simp[RM.push]
 generalize M.push (.row [St [],St []] false T 0)=M0 at *
 refine hi (k0.base.trans hB) hn fun M1 k1=>?_
 rw[oF]
 refine⟨_,afe rfl rfl rfl rfl, ?_⟩
 rw[jo (k1.aV n0 l0 (by simp)) (by rfl) (by rfl) (by rfl),dK (aO _) (by rfl)]
 exact hQ _ ((k0.trans k1).new _ (Nat.le_refl _))
def zt(m p:Str):Bool:=jh m&&j3 p
def MQ(c:aB):Prop:=∀ {M:RM}{m p:Str}{x y:AV}{Q:aj},oneCell x=true→oneCell y=true→m.length<4611686018427387904→p.length<4611686018427387904→(∀ M',ah [] M M'→Q (Bo (zt m p)) M')→c [.agg [St m,St p,x,y]] M Q
theorem VY{T:Nat}{cm cp:aB}(hm:qV jh cm)(hp:qV j3 cp):MQ fun args M Q=>∃ a0,args=[a0]∧lW T cm cp a0 M Q:=by
 intro M m p x y Q hx hy h1 h2 hQ
 refine⟨_,rfl, ?_⟩
 unfold lW
 rw[vQ (by simp only[List.all_cons,List.all_nil,hx,hy];rfl) (by simp)]
 simp only[bL,dW]
 have k0:ah [] M (M.push (.row [St m,St p,x,y] false T 0)):=(ah.refl _ _).push _
 have n0:(M.push (.row [St m,St p,x,y] false T 0)).heap M.next=some (.row [St m,St p,x,y] false T 0):=by simp[RM.push]
 have l0:M.next<(M.push (.row [St m,St p,x,y] false T 0)).next:=by simp[RM.push]
 generalize M.push (.row [St m,St p,x,y] false T 0)=M0 at *
 rw[fD,aT n0 rfl]
 refine hm h1 fun M1 k1=>?_
 refine Od (P:=ah [] M) (p:=j3 p) (k0.trans k1) (fun _ k hk=>?_) hQ
 rw[fD,aT (k1.aV n0 l0 (by simp)) rfl]
 exact hp h2 fun M2 k2=>hk M2 (k0.trans (k1.trans k2))
def nD(m p:Str):Str:=m++[32]++p++[32]++WV
def jG(m p:Str)(l:List Hd)(body:Str):Except Nat Str:=match zt m p with
 |false=>.error 1
 |true=>iE (nD m p) l (vR,fT body.length) body.length body
theorem YM{m p:Str}(h:zt m p=true):m.length≤8∧p.length≤201:=by
 unfold zt jh j3 jX at h
 simp only[Bool.and_eq_true,decide_eq_true_eq]at h
 omega
def JZ(B:Base)(T:Nat)(c:aB):Prop:=∀ {M:RM}{hv bv:AV}{m p body:Str}{l:List Hd}{Q:aj},M.base=B→Sl HD M hv l→l.length≤1000→(∀ h∈l,h.1.length≤281474976710656∧h.2.length≤281474976710656) →
 m.length≤281474976710656→p.length≤281474976710656→Sl BY M bv body→body.length≤1000000000 →
 (∀ s v' M',jG m p l body=.ok s→s.length≤2048+body.length→ah [] M M'→Ow BY M' M.next T v' s→Q (.tup [v',N .i64 0]) M')→(∀ (e:Nat) M',jG m p l body=.error e→(e=1∨e=2)→ah [] M M'→Q (.tup [bC,N .i64 (e:Int)]) M') →
 c [.agg [St m,St p,hv,bv]] M Q
theorem Tp{B:Base}{T T8:Nat}{cg cc cp:aB}(hg:MQ cg)(hc:GU B cc)(hp:Ir B T8 cp):JZ B T8 fun args M Q=>∃ a0,args=[a0]∧kR T cg cc cp a0 M Q:=by
 intro M hv bv m p body l Q hB hh hll hle hm hpl hb hbl hQ hE
 refine⟨_,rfl, ?_⟩
 unfold kR
 have ohv:=aW.one hh
 have obv:=aW.one hb
 rw[vQ (by simp only[List.all_cons,List.all_nil,ohv,obv];rfl) (by simp)]
 simp only[bL]
 have k0:ah [] M (M.push (.row [St m,St p,hv,bv] false T 0)):=(ah.refl _ _).push _
 have n0:(M.push (.row [St m,St p,hv,bv] false T 0)).heap M.next=some (.row [St m,St p,hv,bv] false T 0):=by simp[RM.push]
 have l0:M.next<(M.push (.row [St m,St p,hv,bv] false T 0)).next:=by simp[RM.push]
 generalize M.push (.row [St m,St p,hv,bv] false T 0)=M0 at *
 rw[dK n0 (by rfl)]
 refine hg ohv obv (by omega) (by omega) fun M1 k1=>?_
 have n1:=k1.aV n0 l0 (by simp)
 have l1:=Nat.lt_of_lt_of_le l0 k1.next
 have k01:=k0.trans k1
 simp only[fA]
 refine cK (fun h=>?_) fun h=>?_
 ·have hk:zt m p=false:=by simpa using h
  exact hE 1 M1 (by unfold jG;rw[hk]) (.inl rfl) k01
 have hk:zt m p=true:=by simpa using h
 obtain⟨q1,q2⟩:=YM hk
 have e:jG m p l body=iE (nD m p) l (vR,fT body.length) body.length body:=by unfold jG;rw[hk]
 rw[e]at hQ hE
 have ld0:∀ {M' : RM}(k:ah [] M1 M'){K' : AV→Prop},au M' (.ptr M.next 0) K'=K' (St m):=fun k=>aT (k.aV n1 l1 (by simp)) rfl
 have ld1:∀ {M' : RM}(k:ah [] M1 M'){K' : AV→Prop},au M' (.ptr M.next 1) K'=K' (St p):=fun k=>aT (k.aV n1 l1 (by simp)) rfl
 have ld2:∀ {M' : RM}(k:ah [] M1 M'){K' : AV→Prop},au M' (.ptr M.next 2) K'=K' hv:=fun k=>aT (k.aV n1 l1 (by simp)) rfl
 have ld3:∀ {M' : RM}(k:ah [] M1 M'){K' : AV→Prop},au M' (.ptr M.next 3) K'=K' bv:=fun k=>aT (k.aV n1 l1 (by simp)) rfl
 simp only[fD,ld0 (ah.refl _ M1),ld1 (ah.refl _ M1),ld2 (ah.refl _ M1),ld3 (ah.refl _ M1)]
 rw[fV]
 refine⟨by simp;omega, ?_⟩
 rw[fV]
 refine⟨by simp;omega, ?_⟩
 rw[fV]
 refine⟨by simp;omega, ?_⟩
 rw[fV]
 refine⟨by simp;omega, ?_⟩
 rw[aW.len hb,aW.len hb]
 refine hc (n:=body.length) (k01.base.trans hB) (by omega) fun M2 k2=>?_
 have k02:=k01.trans k2
 rw[ld0 k2];refine⟨rfl, ?_⟩
 rw[ld1 k2];refine⟨rfl, ?_⟩
 rw[ld2 k2];refine⟨rfl, ?_⟩
 rw[ld3 k2];refine⟨rfl, ?_⟩
 rw[ld3 k2];refine⟨rfl, ?_⟩
 have hil:(fT body.length).length≤20:=HZ _ _ _
 refine hp (more:=(vR,fT body.length)) (k02.base.trans hB) (aW.keep hh k02 (by simp)) hll hle (by simp;omega) (by simp) (by simpa using (by omega:(fT body.length).length≤1000000)) (aW.keep hb k02 (by simp)) hbl (fun s v' M3 e3 hl3 k3 o3=>?_) (fun e' M3 e3 he k3=>?_)
 ·simp only[dQ,dV]
  exact hQ s v' M3 e3 hl3 (k02.trans k3) (Own.mono o3 k02.next)
 ·simp only[dQ,dV]
  exact hE e' M3 e3 he (k02.trans k3)
def LH(n:Int):Bool:=decide (n<100)||decide (n>599)
def JR(n:Int):Str:=if (n.tdiv 100==2)=true then[79,75]else[78,111]
def mh(n:Int):Str:=Vm++fT n.toNat++[32]++JR n
def jq(n:Int)(l:List Hd)(body:Str):Except Nat Str:=match LH n with
 |true=>.error 1
 |false=>iE (mh n) l (vR,fT body.length) body.length body
def GV(B:Base)(T:Nat)(c:aB):Prop:=∀ {M:RM}{hv bv:AV}{n:Int}{body:Str}{l:List Hd}{Q:aj},M.base=B→Sl HD M hv l→l.length≤1000→(∀ h∈l,h.1.length≤281474976710656∧h.2.length≤281474976710656) →
 Sl BY M bv body→body.length≤1000000000 →
 (∀ s v' M',jq n l body=.ok s→s.length≤2048+body.length→ah [] M M'→Ow BY M' M.next T v' s→Q (.tup [v',N .i64 0]) M')→(∀ (e:Nat) M',jq n l body=.error e→(e=1∨e=2)→ah [] M M'→Q (.tup [bC,N .i64 (e:Int)]) M') →
 c [.agg [N .i64 n,hv,bv]] M Q
theorem QX{B:Base}{T T8:Nat}{ci cc cp:aB}(hi:acM B ci)(hc:GU B cc)(hp:Ir B T8 cp):GV B T8 fun args M Q=>∃ a0,args=[a0]∧kw T ci cc cp a0 M Q:=by
 intro M hv bv n body l Q hB hh hll hle hb hbl hQ hE
 refine⟨_,rfl, ?_⟩
 unfold kw
 have ohv:=aW.one hh
 have obv:=aW.one hb
 rw[vQ (by simp only[List.all_cons,List.all_nil,ohv,obv];rfl) (by simp)]
 simp only[bL]
 have k0:ah [] M (M.push (.row [N .i64 n,hv,bv] false T 0)):=(ah.refl _ _).push _
 have n0:(M.push (.row [N .i64 n,hv,bv] false T 0)).heap M.next=some (.row [N .i64 n,hv,bv] false T 0):=by simp[RM.push]
 have l0:M.next<(M.push (.row [N .i64 n,hv,bv] false T 0)).next:=by simp[RM.push]
 generalize M.push (.row [N .i64 n,hv,bv] false T 0)=M1 at *
 have ld0:∀ {M' : RM}(k:ah [] M1 M'){K' : AV→Prop},au M' (.ptr M.next 0) K'=K' (N .i64 n):=fun k=>aT (k.aV n0 l0 (by simp)) rfl
 have ld1:∀ {M' : RM}(k:ah [] M1 M'){K' : AV→Prop},au M' (.ptr M.next 1) K'=K' hv:=fun k=>aT (k.aV n0 l0 (by simp)) rfl
 have ld2:∀ {M' : RM}(k:ah [] M1 M'){K' : AV→Prop},au M' (.ptr M.next 2) K'=K' bv:=fun k=>aT (k.aV n0 l0 (by simp)) rfl
 simp only[fD,dW,ld0 (ah.refl _ M1),ld1 (ah.refl _ M1),ld2 (ah.refl _ M1),j5]
 refine Ob (p:=decide (n>599)) (fun _ k hk=>?_) ?_
 ·simpa only[fJ,ld0 (ah.refl _ M1)]using hk
 have hbc:(decide (n<100)||decide (n>599))=LH n:=rfl
 rw[hbc]
 refine cK (fun h=>?_) fun h=>?_
 ·exact hE 1 M1 (by unfold jq;rw[h]) (.inl rfl) k0
 have h':=h
 unfold LH at h'
 simp only[Bool.or_eq_false_iff,decide_eq_false_iff_not]at h'
 have e:jq n l body=iE (mh n) l (vR,fT body.length) body.length body:=by unfold jq;rw[h]
 rw[e]at hQ hE
 rw[lS,ld0 (ah.refl _ M1),NL]
 refine⟨by decide, ?_⟩
 have hdv:1≤n.tdiv 100∧n.tdiv 100≤5:=by
  rw[Int.tdiv_eq_ediv_of_nonneg (by omega)];omega
 rw[bM (by omega) (by omega),fZ]
 have tail:∀ w:Str,w=JR n→((au M1 (.ptr M.next 0) fun t18=>au M1 (.ptr M.next 1) fun t25=>au M1 (.ptr M.next 2) fun t27=>bS t27 fun t28=>au M1 (.ptr M.next 2) fun t31=>bS t31 fun t32=>au M1 (.ptr M.next 2) fun t34=>ci [t18] M1 fun t19 M_9=>au M_9 (.ptr M.next 1) fun aoC=>(aoC=t25∧au M_9 (.ptr M.next 2) fun ap6=>(ap6=t27∧au M_9 (.ptr M.next 2) fun anp=>(anp=t31∧au M_9 (.ptr M.next 2) fun anG=>(anG=t34∧dI .add (St [72,84,84,80,47,49,46,49,32]) t19 fun t20=>dI .add t20 (St [32]) fun t21=>dI .add t21 (St w) fun t23=>cc [t28] M_9 fun t29 abZ=>au abZ (.ptr M.next 1) fun aqk=>(aqk=t25∧au abZ (.ptr M.next 2) fun aoE=>(aoE=t31∧au abZ (.ptr M.next 2) fun apV=>(apV=t34∧cp [t23,t25,t29,t32,t34] abZ fun t35 ahb=>bz t35 0 fun t36=>bz t35 1 fun t37=>Q (.tup [t36,t37]) ahb)))))))):Prop):=by
  intro w hw
  rw[ld0 (ah.refl _ M1),ld1 (ah.refl _ M1),ld2 (ah.refl _ M1),aW.len hb,ld2 (ah.refl _ M1),aW.len hb,ld2 (ah.refl _ M1)]
  obtain⟨m,rfl⟩ : ∃ m:Nat,n=(m:Int):=⟨n.toNat,by omega⟩
  refine hi (k0.base.trans hB) (by omega) fun M2 k2=>?_
  rw[ld1 k2];refine⟨rfl, ?_⟩
  rw[ld2 k2];refine⟨rfl, ?_⟩
  rw[ld2 k2];refine⟨rfl, ?_⟩
  rw[ld2 k2];refine⟨rfl, ?_⟩
  have hl1:(fT m).length≤20:=HZ _ _ _
  have hl2:(fT body.length).length≤20:=HZ _ _ _
  have hwl:w.length≤2:=by rw[hw];unfold JR;split<;>simp
  rw[fV]
  refine⟨by simp;omega, ?_⟩
  rw[fV]
  refine⟨by simp;omega, ?_⟩
  rw[fV]
  refine⟨by simp;omega, ?_⟩
  have k02:=k0.trans k2
  refine hc (n:=body.length) (k02.base.trans hB) (by omega) fun M3 k3=>?_
  have k23:=k2.trans k3
  rw[ld1 k23];refine⟨rfl, ?_⟩
  rw[ld2 k23];refine⟨rfl, ?_⟩
  rw[ld2 k23];refine⟨rfl, ?_⟩
  have k03:=k0.trans k23
  have akm:[72,84,84,80,47,49,46,49,32]++fT m++[32]++w=mh (m:Int):=by rw[hw];rfl
  rw[akm]
  have aAd:(mh (m:Int)).length≤1000000:=by rw[← akm];simp;omega
  refine hp (more:=(vR,fT body.length)) (k03.base.trans hB) (aW.keep hh k03 (by simp)) hll hle aAd (by simp) (by simpa using (by omega:(fT body.length).length≤1000000)) (aW.keep hb k03 (by simp)) hbl (fun s v' M4 e4 hl4 k4 o4=>?_) (fun e' M4 e4 he k4=>?_)
  ·simp only[dQ,dV]
   exact hQ s v' M4 e4 hl4 (k03.trans k4) (Own.mono o4 k03.next)
  ·simp only[dQ,dV]
   exact hE e' M4 e4 he (k03.trans k4)
 refine cK (fun h=>?_) fun h=>?_
 ·exact tail [79,75] (by unfold JR;rw[if_pos h])
 ·exact tail [78,111] (by unfold JR;rw[if_neg (by rw[h];decide)])
abbrev ZB:List AV:=[N .u8 0]
theorem F9(n:Nat):(eu ZB n).length=n∧(eu ZB n).all oneCell=true:=by
 induction n with
 |zero=>simp[eu]
 |succ n ih=>rw[eu,List.length_append,List.all_append,ih.1,ih.2];simp[oneCell];omega
theorem W9:∀ (a b:Nat),eu ZB (a+b)=eu ZB a++eu ZB b
 |0,b=>by simp[eu]
 |a+1,b=>by rw[show a+1+b=(a+b)+1 by omega,eu,eu,W9 a b];simp
theorem mr(s:Str):(BY.row s).length=s.length:=by rw[Enc.ig];simp[BY]
theorem asy{M:RM}{b T k:Nat}{ps ys:Str}{u:AV}{zs:List AV}{K:aj}(hb:M.heap b=some (.row (BY.row ps++eu ZB k) true T 0))(hu:Sl BY M u ys)(hk:ys.length≤k)(hl:ps.length+ys.length≤1000000000)
  (hK:∀ M',M'.heap b=some (.row (BY.row (ps++ys)++eu ZB (k-ys.length)) true T 0)→ah [b] M M'→M'.next=M.next→K (.slc b 0 (ps++ys).length (.op 1)) M') :
  appW T 1 1 zs false (.slc b 0 ps.length (.op 1)) u M K:=by
 have hn:=aW.kP hu zs
 refine⟨ys.length,BY.row ys,hn,by omega,by omega, ?_⟩
 by_cases h0:ys.length=0
 ·have:ys=[]:=List.length_eq_zero_iff.1 h0
  subst this
  refine⟨.slc b 0 ps.length (.op 1),M,by simp[j6], ?_⟩
  have:=hK M (by simpa using hb) (ah.refl _ _) rfl
  simpa using this
 ·have hfit:0+(ps.length+ys.length)*1≤(BY.row ps++eu ZB k).length:=by
   rw[List.length_append,mr,(F9 k).1];omega
  refine⟨.slc b 0 (ps.length+ys.length) (.op 1),M.put b (.row (BY.row (ps++ys)++eu ZB (k-ys.length)) true T 0), ?_, ?_⟩
  ·simp only[j6,if_neg h0,hb]
   rw[if_pos (by simp),if_pos hfit,RM.Kg hb,BU (by rw[mr,List.length_append,mr,(F9 k).1];omega) (by omega) (BY.jC ys)]
   simp only[Option.map_some]
   congr 4
   rw[Enc.G8]
   have e1:(BY.row ps++eu ZB k).take (0+ps.length*1)=BY.row ps:=by rw[List.take_left' (by rw[mr];omega)]
   have e2:(BY.row ps++eu ZB k).drop (0+ps.length*1+(BY.row ys).length)=eu ZB (k-ys.length):=by
    rw[show eu ZB k=eu ZB ys.length++eu ZB (k-ys.length) by rw[← W9];congr 1;omega,← List.append_assoc,List.drop_left' (by rw[List.length_append,mr,(F9 _).1,mr];omega)]
   rw[e1,e2]
  ·have:=hK _ (aO _) ((ah.refl _ _).put _ (.inr (by simp))) rfl
   rw[List.length_append]at this
   exact this
theorem ak1{M:RM}{base T n:Nat}{v:AV}{cs:List AV}(h:Own M base T 1 v cs n)(hn:0<n):∃ b,v=.slc b 0 n (.op 1)∧base≤b∧b<M.next∧M.heap b=some (.row cs true T 0):=by
 cases h with
 |nil=>omega
 |ex0 b o _ _ _=>omega
 |op b n cs h1 h2 h3 h4=>exact⟨b,rfl,h1,h2,h3⟩
def Vk(T:Nat)(c:aB):Prop:=∀ {M:RM}{n:Nat}{Q:aj},n≤1000000000→0<n →
 (∀ b M',M.next≤b→b<M'.next→M'.heap b=some (.row (eu ZB n) true T 0)→ah [] M M'→Q (.slc b 0 0 (.op 1)) M')→c [bC,N .i64 (n:Int)] M Q
theorem acv{TS T:Nat}:Vk T fun args M Q=>∃ a0 a1,args=[a0,a1]∧DK TS T a0 a1 M Q:=by
 intro M n Q hn hz h1
 refine⟨_,_,rfl, ?_⟩
 unfold DK
 rw[lS,j5,show decide ((n:Int)<0)=false by simp,di]
 dsimp only
 rw[lS]
 have hcap:∀ K:AV→Prop,Et bC K=K (N .i64 0):=fun K=>by
  unfold Et
  exact propext ⟨fun⟨m,h,k⟩=>by cases h;exact k,fun k=>⟨0,rfl,k⟩⟩
 rw[hcap,NT,kI,show IntKind.wrap .i64 ((0:Int)-0)=0 from by rw[bM]<;>decide,kI,Int.sub_zero,bM (by omega) (by omega),fJ]
 dsimp only[aD]
 rw[show decide ((n:Int)>0)=true by simp;omega,dE,hcap,show bI 1 bC none (some (N .i64 0)) none=some bC by simp[bI,bnd],jV]
 have hr:=F9 n
 refine sZ (base:=M.next) (m:=n) (ds:=eu ZB n) .nil (Nat.le_refl _) (Nat.le_refl _) (by simp[kP]) (by rw[hr.1,Nat.mul_one]) hr.2 (by omega) (by omega) ?_
 intro v' M' o k _ _
 rw[Nat.zero_add]at o
 obtain⟨b,rfl,q1,q2,q3⟩:=ak1 o (by omega)
 rw[NT,show bI 1 (.slc b 0 n (.op 1)) none (some (N .i64 0)) none=some (.slc b 0 0 (.op 1)) by simp[bI,bnd];omega,jV]
 exact h1 b M' q1 q2 (by simpa using q3) (by simpa [aJ]using k)
def Ia(T:Nat)(c:aB):Prop:=∀ {M:RM}{bb TB:Nat}{vs:List AV}{xss:List Str}{Q:aj},M.heap bb=some (.row vs false TB 0)→bb<M.next→vs.length=xss.length→vs.length≤1000→(∀ (i:Nat)(v:AV)(x:Str),vs[i]?=some v→xss[i]?=some x→Sl BY M v x) →
 0<xss.flatten.length→xss.flatten.length≤1000000000→(∀ r M',Ow BY M' M.next T r xss.flatten→ah [] M M'→Q r M')→c [.slc bb 0 vs.length (.ex vs.length)] M Q
theorem Va{TS T:Nat}{cg:aB}(hg:Vk T cg):Ia T fun args M Q=>∃ a0,args=[a0]∧zo TS cg T a0 M Q:=by
 intro M bb TB vs xss Q hb hbl hlen hvl hv hpos hmax hQ
 refine⟨_,rfl, ?_⟩
 unfold zo
 simp only[lS]
 have at_:∀ (i:Nat)(K:AV→Prop),i<vs.length→ed (.slc bb 0 vs.length (.ex vs.length)) (N .i64 (i:Int)) 1 K=K (.ptr bb i):=fun i K hi=>by
  rw[Gl]
  simp only[Int.toNat_natCast,Nat.mul_one,Nat.zero_add]
  exact propext ⟨fun h=>h.2.2,fun h=>⟨by omega,by omega,h⟩⟩
 have hfl:∀ i,i≤xss.length→(xss.take i).flatten.length≤xss.flatten.length:=fun i _=>by
  have e:xss.flatten=(xss.take i).flatten++(xss.drop i).flatten:=by rw[← List.flatten_append,List.take_append_drop]
  rw[e,List.length_append];omega
 have hst:∀ i (hi:i<xss.length),(xss.take (i+1)).flatten=(xss.take i).flatten++xss[i]:=fun i hi=>by
  rw[List.take_succ_eq_append_getElem hi,List.flatten_append,List.flatten_cons,List.flatten_nil,List.append_nil]
 rw[oK]
 refine bU (fun m zs M3=>∃ i:Nat,m=vs.length-i∧i≤vs.length∧zs=[N .i64 ((xss.take i).flatten.length:Int),N .i64 (i:Int)]∧M3=M) _ ⟨0,rfl,Nat.zero_le _,rfl,rfl⟩ ?_
 rintro next m zs M3 hnext ⟨i,rfl,hi,rfl,rfl⟩
 simp only[bV,gY,Ih]
 refine cK (fun h=>?_) fun h=>?_
 ·have hlt:i<vs.length:=by simpa using h
  have hlx:i<xss.length:=by omega
  have sl:=hv i vs[i] xss[i] (List.getElem?_eq_getElem hlt) (List.getElem?_eq_getElem hlx)
  have h1:=hfl (i+1) (by omega)
  have h2:=congrArg List.length (hst i hlx)
  rw[List.length_append]at h2
  rw[at_ i _ hlt,aT hb (List.getElem?_eq_getElem hlt),aW.len sl,addN (by omega),j5,show decide ((((xss.take i).flatten.length+xss[i].length:Nat):Int)<0)=false by simp;omega,di]
  try simp only[bV]
  rw[add1 (by omega)]
  exact hnext _ _ _ (by omega) ⟨i+1,rfl,by omega,by rw[h2],rfl⟩
 ·have:i=vs.length:=by simp at h;omega
  subst this
  rw[hlen,List.take_length]
  refine hg hmax hpos fun b M4 hb0 hb1 hrow k4=>?_
  rw[← hlen,oK]
  have hbb:bb≠b:=by omega
  refine bU (fun m zs M5=>∃ i:Nat,m=vs.length-i∧i≤vs.length∧zs=[.slc b 0 (xss.take i).flatten.length (.op 1),N .i64 (i:Int)]∧ah [b] M4 M5∧M5.next=M4.next ∧
    M5.heap b=some (.row (BY.row (xss.take i).flatten++eu ZB (xss.flatten.length-(xss.take i).flatten.length)) true T 0)) _
   ⟨0,rfl,Nat.zero_le _,rfl,ah.refl _ _,rfl,by simpa [Enc.row]using hrow⟩ ?_
  rintro asK m zs M5 O6 ⟨i,rfl,hi2,rfl,k5,n5,TN⟩
  simp only[bV,gY,Ih]
  refine cK (fun h=>?_) fun h=>?_
  ·have hlt:i<vs.length:=by simpa using h
   have hlx:i<xss.length:=by omega
   have sl:=hv i vs[i] xss[i] (List.getElem?_eq_getElem hlt) (List.getElem?_eq_getElem hlx)
   have hb4:=k4.aV hb hbl (by simp)
   have hb5:=k5.aV hb4 (by omega) (by simp;exact hbb)
   have sl5:Sl BY M5 vs[i] xss[i]:=aW.keep (aW.keep sl k4 (by simp)) k5 (fun d hd hm=>by have:=aW.lt sl d hd;simp at hm;omega)
   have h1:=hfl (i+1) (by omega)
   have h2:=congrArg List.length (hst i hlx)
   rw[List.length_append]at h2
   rw[at_ i _ hlt,aT hb5 (List.getElem?_eq_getElem hlt)]
   refine asy TN sl5 (by omega) (by omega) fun M6 ass k6 n6=>?_
   rw[add1 (by omega)]
   refine O6 _ _ _ (by omega) ⟨i+1,rfl,by omega,by rw[hst i hlx],k5.trans k6,by rw[n6,n5], ?_⟩
   rw[ass,hst i hlx,List.length_append,Nat.sub_sub]
  ·have:i=vs.length:=by simp at h;omega
   subst this
   rw[hlen,List.take_length]at TN ⊢
   rw[Nat.sub_self]at TN
   have am3:M5.heap b=some (.row (BY.row xss.flatten) true T 0):=by simpa [eu]using TN
   refine hQ _ M5 (Own.op _ _ _ hb0 (by omega) am3 (by rw[Enc.ig])) ?_
   exact⟨k5.base.trans k4.base,by rw[n5];exact k4.next,fun x hx _=>by rw[k5.heap x (Nat.lt_of_lt_of_le hx k4.next) (by simp;omega),k4.heap x hx (by simp)]⟩
end Go.Ab.Hw
set_option maxRecDepth 20000
namespace Go.Ab.Hw
open Go Go.Ab Go.Ab.Sm
open Go.Ab.Vl (pV)
theorem BG{f:(List AV→RM→Prop)→Prop}{g:List AV→RM→Prop}(x:List AV)(N:RM)(hf:∀ J:List AV→RM→Prop,J x N→f J)(hg:g x N):iK f g:=hf g hg
def Gt(n:Nat):Int:=IV .u8 (n:Int) 32
def YL(c:aB):Prop:=∀ {M:RM}{x:UInt8}{Q:aj},Q (N .u8 (Gt x.toNat)) M→c [By x] M Q
theorem acg:YL fun args M Q=>∃ a0,args=[a0]∧kg a0 M Q:=by
 intro M x Q hQ
 refine⟨_,rfl, ?_⟩
 unfold kg
 rw[jD]
 exact hQ
def ab0(n:Nat):Bool:=!(qx (bO (UInt8.ofNat n)) && !fQ (UInt8.ofNat n))||(decide (97≤Gt n)&&decide (Gt n≤122)&&decide (Gt n-97+10=(rY (UInt8.ofNat n):Int)) && !decide (n=95))
theorem aei:(List.range 256).all ab0=true:=by decide +kernel
theorem ahY(x:UInt8):ab0 x.toNat=true:=List.all_eq_true.1 aei x.toNat (List.mem_range.2 x.toNat_lt)
theorem ZL{x:UInt8}(h:qx (bO x)=true)(hd:fQ x=false):97≤Gt x.toNat∧Gt x.toNat≤122∧Gt x.toNat-97+10=(rY x:Int)∧x.toNat≠95:=by
 have:=ahY x
 unfold ab0 at this
 rw[UInt8.ofNat_toNat,h,hd]at this
 simp only[Bool.not_false,Bool.and_self,Bool.not_true,Bool.false_or,Bool.and_eq_true,decide_eq_true_eq,Bool.not_eq_true',decide_eq_false_iff_not]at this
 exact⟨this.1.1.1,this.1.1.2,this.1.2,this.2⟩
theorem afn{s:Str}{i:Nat}(hi:i<s.length):qw (s.take (i+1))=qw (s.take i)*16+rY s[i]:=by
 unfold qw
 rw[List.take_succ_eq_append_getElem hi,List.foldl_append]
 rfl
theorem YI{n:Int}(h0:0≤n)(h1:n<18446744073709551616):IntKind.wrap .u64 n=n:=by
 simp only[IntKind.wrap,show(2:Int)^IntKind.u64.bits=18446744073709551616 from by decide]
 simp[IntKind.signed]
 omega
theorem Oh{TE T8:Nat}{cl cu:aB}(hl:YL cl):QT fun args M Q=>∃ a0 a1 a2,args=[a0,a1,a2]∧jc TE cl T8 cu a0 a1 a2 M Q:=by
 intro M s Q h1 h8 hx hQ
 refine⟨_,_,_,rfl, ?_⟩
 unfold jc
 have hne:(s == [])=false:=by cases s with|nil=>simp at h1|cons a b=>rfl
 rw[q9,hne,di,fZ,show((16:Int)==0)=false from rfl]
 refine BG (x:=[St s,N .i64 16]) (N:=M) (fun J hJ=>?_) ?_
 ·rw[rC,show decide ((2:Int)≤16)=true from rfl]
  simp only[iM,rC]
  rw[show decide ((16:Int)≤36)=true from rfl]
  simp only[gq,dE]
  exact hJ
 simp only[bV,gY]
 refine BG (x:=[N .i64 64]) (N:=M) (fun J hJ=>?_) ?_
 ·rw[fZ,show((64:Int)==0)=false from rfl,di,j5,show decide ((64:Int)<0)=false from rfl]
  simp only[bN,fJ]
  rw[show decide ((64:Int)>64)=false from rfl]
  simp only[eQ,di]
  exact hJ
 simp only[bV,gY]
 refine BG (x:=[N .u64 1152921504606846976]) (N:=M) (fun J hJ=>?_) ?_
 ·rw[fZ,show((16:Int)==10)=false from rfl,di,fZ,show((16:Int)==16)=true from rfl,dE]
  exact hJ
 simp only[bV,gY]
 rw[iW,uU]
 refine⟨by decide, ?_⟩
 rw[kI,sW]
 simp only[bL,oK]
 have hmax:IntKind.wrap .u64 (JN .u64 1 (IntKind.wrap .u64 64)-1)=18446744073709551615:=by decide +kernel
 rw[hmax]
 have hk1:ah [] M (M.push (.row (BY.row s) true T8 0)):=(ah.refl _ _).push _
 have hr1:Rw BY (M.push (.row (BY.row s) true T8 0)) M.next true T8 s:=Rw.new M s
 generalize M.push (.row (BY.row s) true T8 0)=M1 at *
 refine bU (fun m ys M3=>∃ i:Nat,m=s.length-i∧ys=[Bo false,N .u64 (qw (s.take i):Int),N .i64 (i:Int)]∧i≤s.length∧M3=M1) _ ⟨0,rfl,rfl,Nat.zero_le _,rfl⟩ ?_
 rintro next m ys M3 hnext ⟨i,rfl,rfl,hi,rfl⟩
 simp only[bV,gY,Ih]
 refine cK (fun h=>?_) fun h=>?_
 ·have hlt:i<s.length:=by simpa using h
  have hc:=hr1.au hlt
  have cb:=qX s[i]
  have hmem:qx (bO s[i])=true:=by
   unfold low at hx
   rw[List.all_map]at hx
   exact List.all_eq_true.1 hx s[i] (List.getElem_mem hlt)
  have hdv:=aat hmem
  have hall:(low (s.take i)).all qx=true:=by
   rw[List.all_eq_true]
   intro y hy
   unfold low at hy
   rw[List.mem_map]at hy
   obtain⟨z,hz,rfl⟩:=hy
   unfold low at hx
   rw[List.all_map]at hx
   exact List.all_eq_true.1 hx z (List.mem_of_mem_take hz)
  have hlt2:=aad hall (by simp;omega)
  have ht:=afn hlt
  refine BG (x:=[Bo false,N .u64 (qw (s.take (i+1)):Int)]) (N:=M3) (fun J hJ=>?_) ?_
  rotate_left
  ·simp only[bV,gY]
   rw[add1 (by omega)]
   exact hnext _ _ _ (by omega) ⟨i+1,rfl,rfl,by omega,rfl⟩
  rw[Gl]
  refine⟨by omega,by omega, ?_⟩
  rw[fu]
  refine⟨By s[i],by simpa using hc, ?_⟩
  refine BG (x:=[Bo false,N .u8 (rY s[i]:Int)]) (N:=M3) (fun J2 hJ2=>?_) ?_
  rotate_left
  ·simp only[bV,gY]
   rw[iW,show IntKind.wrap .u8 16=16 by decide,fe,show decide ((rY s[i]:Int)≥16)=false by simp;omega,di,fe,show decide ((qw (s.take i):Int)≥1152921504606846976)=false by simp;omega,di,iW,show IntKind.wrap .u64 16=16 by decide,
    oW,YI (by omega) (by omega),iW,YI (by omega) (by omega),fC,YI (by omega) (by omega),j5,show decide ((qw (s.take i):Int)*16+(rY s[i]:Int)<(qw (s.take i):Int)*16)=false from decide_eq_false (by omega)]
   simp only[bN,fJ]
   rw[show decide ((qw (s.take i):Int)*16+(rY s[i]:Int)>18446744073709551615)=false by simp;omega]
   simp only[eQ,di]
   have e:((qw (s.take (i+1)):Nat):Int)=(qw (s.take i):Int)*16+(rY s[i]:Int):=by rw[ht];omega
   rw[e]at hJ
   exact hJ
  rw[fZ]
  have h95:((s[i].toNat:Int)==95)=false:=by
   cases hd:fQ s[i]with
   |true =>
    unfold fQ at hd
    simp only[Bool.and_eq_true,decide_eq_true_eq]at hd
    simp;omega
   |false =>
    have:=(ZL hmem hd).2.2.2
    simp;omega
  rw[h95]
  simp only[iN,eQ,di,dW,bV,rC]
  cases hd:fQ s[i]with
  |true =>
   have hd':=hd
   unfold fQ at hd'
   simp only[Bool.and_eq_true,decide_eq_true_eq]at hd'
   rw[show decide ((48:Int)≤(s[i].toNat:Int))=true by simp;omega]
   simp only[iM]
   rw[show decide ((s[i].toNat:Int)≤57)=true by simp;omega]
   simp only[gq,dE]
   rw[kI,ji (by omega) (by omega)]
   have hv:(s[i].toNat:Int)-48=(rY s[i]:Int):=by unfold rY;rw[if_pos (by omega)];omega
   rw[hv]
   exact hJ2
  |false =>
   obtain⟨q1,q2,q3,_⟩:=ZL hmem hd
   have hno:(decide ((48:Int)≤(s[i].toNat:Int))&&decide ((s[i].toNat:Int)≤57))=false:=by
    rw[← hd];unfold fQ;rfl
   refine qR (p:=decide ((s[i].toNat:Int)≤57)) (fun _ k hk=>hk) ?_
   rw[hno,di]
   refine hl ?_
   rw[rC,show decide ((97:Int)≤Gt s[i].toNat)=true by simpa using q1]
   simp only[iM]
   refine hl ?_
   rw[rC,show decide (Gt s[i].toNat≤(122:Int))=true by simpa using q2]
   simp only[gq,dE]
   refine hl ?_
   rw[kI,ji (by omega) (by omega),fC,ji (by omega) (by omega),q3]
   exact hJ2
 ·have:i=s.length:=by simp at h;omega
  subst this
  simp only[iN,eQ,di]
  rw[List.take_length]
  exact hQ _ hk1
theorem Qo{cp ct:aB}(hp:QT cp):QT fun args M Q=>∃ a0 a1 a2,args=[a0,a1,a2]∧nZ cp ct a0 a1 a2 M Q:=by
 intro M s Q h1 h8 hx hQ
 refine⟨_,_,_,rfl, ?_⟩
 unfold nZ
 refine hp h1 h8 hx fun M1 k1=>?_
 simp only[dQ,dV]
 refine .inr ⟨rfl,rfl, ?_⟩
 dsimp only
 rw[show(!true)=false from rfl,di]
 exact hQ M1 k1
def qz(n:Nat):UInt8:=if n<10 then UInt8.ofNat (48+n)else UInt8.ofNat (87+n)
theorem OH{base f n:Nat}(h:n<base):zm base (f+1) n=[qz n]:=by
 rw[zm,Pp h];rfl
theorem Yi{base f n:Nat}(h:¬ n<base):zm base (f+1) n=zm base f (n / base)++[qz (n%base)]:=by
 rw[zm,pW h];rfl
end Go.Ab.Hw
namespace Go.Ab.Hw
open Go Go.Ab Go.Ab.Sm
end Go.Ab.Hw
set_option maxRecDepth 100000
namespace Go.Ab.Dk
open Go Go.Ab
def nH(a0:AV)(M0:RM)(Q:aj):Prop:=dU a0 fun t=>aZ t 1 fun u=>au M0 u fun v=>KP v M0 fun d g=>eY (fun i e h=>PN d h fun j c=>bz j 0 fun l=>aF l ( Xh c d fun m=>bz m 1 fun n=>dU n fun o=>aZ o 0 fun p=>au c p fun q=>bS q fun r=>ag .add (aD e 0) r fun s=>i [s] c) ( Q (aD e 0) c)) [(N .i64 0)] g
end Go.Ab.Dk
namespace Go.Ab.Crw
open Go Go.Ab
def zC(p1:aB)(a0 a1:AV)(M0:RM)(Q:aj):Prop:=p1 [a0,a1] M0 fun i g=>dU a0 fun x=>aZ x 1 fun y=>au g y fun d=>af d false (fun c=>c i g) (fun c=>c .undef g) fun z j=>af d false (fun r=>r a0 j) (fun c=>c .undef j) fun A n=>af d false (fun u=>dU A fun B=>u B n) (fun c=>c .undef n) fun C o=>af d false (fun v=>aZ C 0 fun D=>v D o) (fun c=>c .undef o) fun E h=>af d false (fun w=>au h E fun F=>w F h) (fun c=>c .undef h) fun G l=>af d false (fun s=>bS G fun H=>s H l) (fun c=>c .undef l) fun I m=>af d false (fun t=>ag .gtr z I fun L=>t L m) (fun c=>c .undef m) fun O p=>aM d (Bo true) O fun P=>dU a0 fun R=>aZ R 1 fun S=>aR p S P 1 fun e=>dU a0 fun U=>aZ U 1 fun V=>au e V fun W=>aF W ( Q (St []) e) ( dU a0 fun X=>aZ X 0 fun Y=>au e Y fun Z=>dz (bI 1 Z none (some i) none) fun va=>kD e va fun vb=>dU a0 fun vc=>aZ vc 0 fun vd=>au e vd fun ve=>dz (bI 1 ve (some i) none none) fun vf=>dU a0 fun vg=>aZ vg 0 fun vh=>aR e vh vf 1 fun q=>Q vb q)
def Vi(p1:aB)(p2:Nat)(a0 a1:AV)(M0:RM)(Q:aj):Prop:=eB a1 fun g=>iR .u64 g fun h=>p1 [a0,h] M0 fun i c=>appW p2 1 1 [(N .u8 0)] false i a1 c fun e d=>Q e d
end Go.Ab.Crw
namespace Go.Ab.Sha
open Go Go.Ab
def JX(p1:Nat)(p2:aB)(p3:Nat)(p4:aB)(p5:Nat)(p6 p7:aB)(p8:Nat)(a0:AV)(M0:RM)(Q:aj):Prop:=cz (.row [(N .u8 0),(N .u8 0),(N .u8 0),(N .u8 0),(N .u8 0),(N .u8 0),(N .u8 0),(N .u8 0),(N .u8 0),(N .u8 0),(N .u8 0),(N .u8 0),(N .u8 0),(N .u8 0),(N .u8 0),(N .u8 0),(N .u8 0),(N .u8 0),(N .u8 0),(N .u8 0),(N .u8 0),(N .u8 0),(N .u8 0),(N .u8 0),(N .u8 0),(N .u8 0),(N .u8 0),(N .u8 0),(N .u8 0),(N .u8 0),(N .u8 0),(N .u8 0)] false p1 0) (fun c=>.ptr c 0) M0 fun u v=>p2 [] v fun vf w=>cz (.row [(N .u32 0),(N .u32 0),(N .u32 0),(N .u32 0),(N .u32 0),(N .u32 0),(N .u32 0),(N .u32 0),(N .u32 0),(N .u32 0),(N .u32 0),(N .u32 0),(N .u32 0),(N .u32 0),(N .u32 0),(N .u32 0),(N .u32 0),(N .u32 0),(N .u32 0),(N .u32 0),(N .u32 0),(N .u32 0),(N .u32 0),(N .u32 0),(N .u32 0),(N .u32 0),(N .u32 0),(N .u32 0),(N .u32 0),(N .u32 0),(N .u32 0),(N .u32 0),(N .u32 0),(N .u32 0),(N .u32 0),(N .u32 0),(N .u32 0),(N .u32 0),(N .u32 0),(N .u32 0),(N .u32 0),(N .u32 0),(N .u32 0),(N .u32 0),(N .u32 0),(N .u32 0),(N .u32 0),(N .u32 0),(N .u32 0),(N .u32 0),(N .u32 0),(N .u32 0),(N .u32 0),(N .u32 0),(N .u32 0),(N .u32 0),(N .u32 0),(N .u32 0),(N .u32 0),(N .u32 0),(N .u32 0),(N .u32 0),(N .u32 0),(N .u32 0)] false p3 0) (fun c=>.ptr c 0) w fun l x=>aR x l vf 64 fun B=>p4 [] B fun vg G=>cz (.row [(N .u32 0),(N .u32 0),(N .u32 0),(N .u32 0),(N .u32 0),(N .u32 0),(N .u32 0),(N .u32 0)] false p5 0) (fun c=>.ptr c 0) G fun h I=>aR I h vg 8 fun L=>bS a0 fun vh=>ag .quo vh (N .i64 64) fun vi=>ag .mul vi (N .i64 64) fun t=>eY (fun W i r=>ag .lss (aD i 0) t fun vj=>aF vj ( ag .add (aD i 0) (N .i64 64) fun vl=>dz (bI 1 a0 (some (aD i 0)) (some vl) none) fun vm=>p6 [h,vm,l] r fun wo O=>ag .add (aD i 0) (N .i64 64) fun vk=>W [vk] O) ( dz (bI 1 a0 (some t) none none) fun vn=>p7 [vn] r fun vo P=>jN p8 1 [(N .u8 0)] [(0,1,(N .u8 128))] fun vb S=>cz vb S P fun vp R=>appW p8 1 1 [(N .u8 0)] false vo vp R fun vq y=>eY (fun X m n=>bS (aD m 0) fun vr=>ag .rem vr (N .i64 64) fun vs=>ag .neq vs (N .i64 56) fun vt=>aF vt ( jN p8 1 [(N .u8 0)] [(0,1,(N .u8 0))] fun vc U=>cz vc U n fun vu z=>appW p8 1 1 [(N .u8 0)] false (aD m 0) vu z fun vv A=>X [vv] A) ( eY (fun Y d o=>ag .lss (aD d 1) (N .i64 8) fun vw=>aF vw ( bS a0 fun vx=>iR .u64 vx fun vy=>ag .mul vy (N .u64 8) fun vz=>ag .mul (N .i64 8) (aD d 1) fun v0=>ag .sub (N .i64 56) v0 fun v1=>qj .shr vz v1 fun v2=>iR .u8 v2 fun v3=>jN p8 1 [(N .u8 0)] [(0,1,v3)] fun vd V=>cz vd V o fun v4 C=>appW p8 1 1 [(N .u8 0)] false (aD d 0) v4 C fun v5 D=>ag .add (aD d 1) (N .i64 1) fun v6=>Y [v5,v6] D) ( eY (fun Z j p=>bS (aD d 0) fun v7=>ag .lss (aD j 0) v7 fun v8=>aF v8 ( ag .add (aD j 0) (N .i64 64) fun wa=>dz (bI 1 (aD d 0) (some (aD j 0)) (some wa) none) fun wb=>p6 [h,wb,l] p fun wp E=>ag .add (aD j 0) (N .i64 64) fun v9=>Z [v9] E) ( cz (.row [(N .u8 0),(N .u8 0),(N .u8 0),(N .u8 0),(N .u8 0),(N .u8 0),(N .u8 0),(N .u8 0),(N .u8 0),(N .u8 0),(N .u8 0),(N .u8 0),(N .u8 0),(N .u8 0),(N .u8 0),(N .u8 0),(N .u8 0),(N .u8 0),(N .u8 0),(N .u8 0),(N .u8 0),(N .u8 0),(N .u8 0),(N .u8 0),(N .u8 0),(N .u8 0),(N .u8 0),(N .u8 0),(N .u8 0),(N .u8 0),(N .u8 0),(N .u8 0)] false p1 0) (fun c=>.ptr c 0) p fun s F=>eY (fun va e g=>ag .lss (aD e 0) (N .i64 32) fun wc=>aF wc ( ag .quo (aD e 0) (N .i64 4) fun wd=>eF h wd 8 1 fun we=>au g we fun wf=>ag .rem (aD e 0) (N .i64 4) fun wg=>ag .mul (N .i64 8) wg fun wh=>ag .sub (N .i64 24) wh fun wi=>qj .shr wf wi fun wj=>iR .u8 wj fun wk=>eF s (aD e 0) 32 1 fun wl=>aR g wl wk 1 fun H=>ag .add (aD e 0) (N .i64 1) fun wm=>va [wm] H) ( bT g s 32 fun wn=>aR g u wn 32 fun q=>bT q u 32 fun ve=>Q ve q)) [(N .i64 0)] F)) [(N .i64 0)] o)) [(aD m 0),(N .i64 0)] n)) [vq] y)) [(N .i64 0)] L
def Gr(p1:Nat)(p2:aB)(a0:AV)(M0:RM)(Q:aj):Prop:=cz (.row [(N .u8 0),(N .u8 0),(N .u8 0),(N .u8 0),(N .u8 0),(N .u8 0),(N .u8 0),(N .u8 0),(N .u8 0),(N .u8 0),(N .u8 0),(N .u8 0),(N .u8 0),(N .u8 0),(N .u8 0),(N .u8 0),(N .u8 0),(N .u8 0),(N .u8 0),(N .u8 0),(N .u8 0),(N .u8 0),(N .u8 0),(N .u8 0),(N .u8 0),(N .u8 0),(N .u8 0),(N .u8 0),(N .u8 0),(N .u8 0),(N .u8 0),(N .u8 0)] false p1 0) (fun i=>.ptr i 0) M0 fun c u=>cz (.row [(N .u8 0),(N .u8 0),(N .u8 0),(N .u8 0),(N .u8 0),(N .u8 0),(N .u8 0),(N .u8 0),(N .u8 0),(N .u8 0),(N .u8 0),(N .u8 0),(N .u8 0),(N .u8 0),(N .u8 0),(N .u8 0),(N .u8 0),(N .u8 0),(N .u8 0),(N .u8 0),(N .u8 0),(N .u8 0),(N .u8 0),(N .u8 0),(N .u8 0),(N .u8 0),(N .u8 0),(N .u8 0),(N .u8 0),(N .u8 0),(N .u8 0),(N .u8 0)] false p1 0) (fun i=>.ptr i 0) u fun l g=>eB a0 fun va=>ag .neq va (N .i64 64) fun C=>aF C ( bT g l 32 fun D=>aR g c D 32 fun m=>bT m c 32 fun z=>Q (.tup [z,(N .i64 14)]) m) ( eY (fun y e h=>ag .lss (aD e 0) (N .i64 32) fun E=>aF E ( ag .mul (N .i64 2) (aD e 0) fun F=>gP a0 F fun G=>ag .mul (N .i64 2) (aD e 0) fun H=>ag .add H (N .i64 1) fun I=>gP a0 I fun L=>p2 [G] h fun s w=>p2 [L] w fun t o=>ag .gtr s (N .u8 15) fun j=>af j false (fun d=>d t o) (fun d=>d .undef o) fun O p=>af j false (fun x=>ag .gtr O (N .u8 15) fun P=>x P p) (fun d=>d .undef p) fun R q=>aM j (Bo true) R fun S=>aF S ( iV [(N .u8 0),(N .u8 0),(N .u8 0),(N .u8 0),(N .u8 0),(N .u8 0),(N .u8 0),(N .u8 0),(N .u8 0),(N .u8 0),(N .u8 0),(N .u8 0),(N .u8 0),(N .u8 0),(N .u8 0),(N .u8 0),(N .u8 0),(N .u8 0),(N .u8 0),(N .u8 0),(N .u8 0),(N .u8 0),(N .u8 0),(N .u8 0),(N .u8 0),(N .u8 0),(N .u8 0),(N .u8 0),(N .u8 0),(N .u8 0),(N .u8 0),(N .u8 0)] [] fun U=>aR q c U 32 fun r=>bT r c 32 fun A=>Q (.tup [A,(N .i64 14)]) r) ( qj .shl s (N .u64 4) fun V=>ag .or V t fun W=>eF l (aD e 0) 32 1 fun X=>aR q X W 1 fun v=>ag .add (aD e 0) (N .i64 1) fun Y=>y [Y] v)) ( bT h l 32 fun Z=>aR h c Z 32 fun n=>bT n c 32 fun B=>Q (.tup [B,(N .i64 0)]) n)) [(N .i64 0)] g)
def ul(p1:Nat)(M0:RM)(Q:aj):Prop:=cz (.row [(N .u32 0),(N .u32 0),(N .u32 0),(N .u32 0),(N .u32 0),(N .u32 0),(N .u32 0),(N .u32 0),(N .u32 0),(N .u32 0),(N .u32 0),(N .u32 0),(N .u32 0),(N .u32 0),(N .u32 0),(N .u32 0),(N .u32 0),(N .u32 0),(N .u32 0),(N .u32 0),(N .u32 0),(N .u32 0),(N .u32 0),(N .u32 0),(N .u32 0),(N .u32 0),(N .u32 0),(N .u32 0),(N .u32 0),(N .u32 0),(N .u32 0),(N .u32 0),(N .u32 0),(N .u32 0),(N .u32 0),(N .u32 0),(N .u32 0),(N .u32 0),(N .u32 0),(N .u32 0),(N .u32 0),(N .u32 0),(N .u32 0),(N .u32 0),(N .u32 0),(N .u32 0),(N .u32 0),(N .u32 0),(N .u32 0),(N .u32 0),(N .u32 0),(N .u32 0),(N .u32 0),(N .u32 0),(N .u32 0),(N .u32 0),(N .u32 0),(N .u32 0),(N .u32 0),(N .u32 0),(N .u32 0),(N .u32 0),(N .u32 0),(N .u32 0)] false p1 0) (fun g=>.ptr g 0) M0 fun d e=>iV [(N .u32 0),(N .u32 0),(N .u32 0),(N .u32 0),(N .u32 0),(N .u32 0),(N .u32 0),(N .u32 0),(N .u32 0),(N .u32 0),(N .u32 0),(N .u32 0),(N .u32 0),(N .u32 0),(N .u32 0),(N .u32 0),(N .u32 0),(N .u32 0),(N .u32 0),(N .u32 0),(N .u32 0),(N .u32 0),(N .u32 0),(N .u32 0),(N .u32 0),(N .u32 0),(N .u32 0),(N .u32 0),(N .u32 0),(N .u32 0),(N .u32 0),(N .u32 0),(N .u32 0),(N .u32 0),(N .u32 0),(N .u32 0),(N .u32 0),(N .u32 0),(N .u32 0),(N .u32 0),(N .u32 0),(N .u32 0),(N .u32 0),(N .u32 0),(N .u32 0),(N .u32 0),(N .u32 0),(N .u32 0),(N .u32 0),(N .u32 0),(N .u32 0),(N .u32 0),(N .u32 0),(N .u32 0),(N .u32 0),(N .u32 0),(N .u32 0),(N .u32 0),(N .u32 0),(N .u32 0),(N .u32 0),(N .u32 0),(N .u32 0),(N .u32 0)] [(0,1,(N .u32 1116352408)),(1,1,(N .u32 1899447441)),(2,1,(N .u32 3049323471)),(3,1,(N .u32 3921009573)),(4,1,(N .u32 961987163)),(5,1,(N .u32 1508970993)),(6,1,(N .u32 2453635748)),(7,1,(N .u32 2870763221)),(8,1,(N .u32 3624381080)),(9,1,(N .u32 310598401)),(10,1,(N .u32 607225278)),(11,1,(N .u32 1426881987)),(12,1,(N .u32 1925078388)),(13,1,(N .u32 2162078206)),(14,1,(N .u32 2614888103)),(15,1,(N .u32 3248222580)),(16,1,(N .u32 3835390401)),(17,1,(N .u32 4022224774)),(18,1,(N .u32 264347078)),(19,1,(N .u32 604807628)),(20,1,(N .u32 770255983)),(21,1,(N .u32 1249150122)),(22,1,(N .u32 1555081692)),(23,1,(N .u32 1996064986)),(24,1,(N .u32 2554220882)),(25,1,(N .u32 2821834349)),(26,1,(N .u32 2952996808)),(27,1,(N .u32 3210313671)),(28,1,(N .u32 3336571891)),(29,1,(N .u32 3584528711)),(30,1,(N .u32 113926993)),(31,1,(N .u32 338241895)),(32,1,(N .u32 666307205)),(33,1,(N .u32 773529912)),(34,1,(N .u32 1294757372)),(35,1,(N .u32 1396182291)),(36,1,(N .u32 1695183700)),(37,1,(N .u32 1986661051)),(38,1,(N .u32 2177026350)),(39,1,(N .u32 2456956037)),(40,1,(N .u32 2730485921)),(41,1,(N .u32 2820302411)),(42,1,(N .u32 3259730800)),(43,1,(N .u32 3345764771)),(44,1,(N .u32 3516065817)),(45,1,(N .u32 3600352804)),(46,1,(N .u32 4094571909)),(47,1,(N .u32 275423344)),(48,1,(N .u32 430227734)),(49,1,(N .u32 506948616)),(50,1,(N .u32 659060556)),(51,1,(N .u32 883997877)),(52,1,(N .u32 958139571)),(53,1,(N .u32 1322822218)),(54,1,(N .u32 1537002063)),(55,1,(N .u32 1747873779)),(56,1,(N .u32 1955562222)),(57,1,(N .u32 2024104815)),(58,1,(N .u32 2227730452)),(59,1,(N .u32 2361852424)),(60,1,(N .u32 2428436474)),(61,1,(N .u32 2756734187)),(62,1,(N .u32 3204031479)),(63,1,(N .u32 3329325298))] fun i=>aR e d i 64 fun c=>bT c d 64 fun h=>Q h c
def Es(p1:Nat)(M0:RM)(Q:aj):Prop:=cz (.row [(N .u32 0),(N .u32 0),(N .u32 0),(N .u32 0),(N .u32 0),(N .u32 0),(N .u32 0),(N .u32 0)] false p1 0) (fun g=>.ptr g 0) M0 fun d e=>iV [(N .u32 0),(N .u32 0),(N .u32 0),(N .u32 0),(N .u32 0),(N .u32 0),(N .u32 0),(N .u32 0)] [(0,1,(N .u32 1779033703)),(1,1,(N .u32 3144134277)),(2,1,(N .u32 1013904242)),(3,1,(N .u32 2773480762)),(4,1,(N .u32 1359893119)),(5,1,(N .u32 2600822924)),(6,1,(N .u32 528734635)),(7,1,(N .u32 1541459225))] fun i=>aR e d i 8 fun c=>bT c d 8 fun h=>Q h c
def rH(p1:Nat)(p2:aB)(p3:Nat)(a0 a1 a2:AV)(M0:RM)(Q:aj):Prop:=cz (.row [(N .u32 0),(N .u32 0),(N .u32 0),(N .u32 0),(N .u32 0),(N .u32 0),(N .u32 0),(N .u32 0),(N .u32 0),(N .u32 0),(N .u32 0),(N .u32 0),(N .u32 0),(N .u32 0),(N .u32 0),(N .u32 0),(N .u32 0),(N .u32 0),(N .u32 0),(N .u32 0),(N .u32 0),(N .u32 0),(N .u32 0),(N .u32 0),(N .u32 0),(N .u32 0),(N .u32 0),(N .u32 0),(N .u32 0),(N .u32 0),(N .u32 0),(N .u32 0),(N .u32 0),(N .u32 0),(N .u32 0),(N .u32 0),(N .u32 0),(N .u32 0),(N .u32 0),(N .u32 0),(N .u32 0),(N .u32 0),(N .u32 0),(N .u32 0),(N .u32 0),(N .u32 0),(N .u32 0),(N .u32 0),(N .u32 0),(N .u32 0),(N .u32 0),(N .u32 0),(N .u32 0),(N .u32 0),(N .u32 0),(N .u32 0),(N .u32 0),(N .u32 0),(N .u32 0),(N .u32 0),(N .u32 0),(N .u32 0),(N .u32 0),(N .u32 0)] false p1 0) (fun vc=>.ptr vc 0) M0 fun i vg=>eY (fun vn j m=>ag .lss (aD j 0) (N .i64 16) fun xz=>aF xz ( ag .mul (N .i64 4) (aD j 0) fun x0=>ed a1 x0 1 fun x1=>au m x1 fun x2=>iR .u32 x2 fun x3=>qj .shl x3 (N .u64 24) fun x4=>ag .mul (N .i64 4) (aD j 0) fun x5=>ag .add x5 (N .i64 1) fun x6=>ed a1 x6 1 fun x7=>au m x7 fun x8=>iR .u32 x8 fun x9=>qj .shl x9 (N .u64 16) fun ya=>ag .or x4 ya fun yb=>ag .mul (N .i64 4) (aD j 0) fun yc=>ag .add yc (N .i64 2) fun yd=>ed a1 yd 1 fun ye=>au m ye fun yf=>iR .u32 yf fun yg=>qj .shl yg (N .u64 8) fun yh=>ag .or yb yh fun yi=>ag .mul (N .i64 4) (aD j 0) fun yj=>ag .add yj (N .i64 3) fun yk=>ed a1 yk 1 fun yl=>au m yl fun ym=>iR .u32 ym fun yn=>ag .or yi yn fun yo=>eF i (aD j 0) 64 1 fun yp=>aR m yp yo 1 fun vh=>ag .add (aD j 0) (N .i64 1) fun yq=>vn [yq] vh) ( eY (fun vo l h=>ag .lss (aD l 0) (N .i64 64) fun yr=>aF yr ( ag .sub (aD l 0) (N .i64 15) fun yt=>eF i yt 64 1 fun yu=>au h yu fun vd=>ag .sub (aD l 0) (N .i64 2) fun yv=>eF i yv 64 1 fun yw=>au h yw fun ve=>ag .sub (aD l 0) (N .i64 16) fun yx=>eF i yx 64 1 fun t=>au h t fun u=>qj .shr vd (N .u64 3) fun y5=>ag .sub (aD l 0) (N .i64 7) fun y8=>eF i y8 64 1 fun v=>au h v fun w=>qj .shr ve (N .u64 10) fun zh=>p2 [vd,(N .i64 7)] h fun y2 X=>au X t fun y1=>(y1=u∧au X v fun zc=>(zc=w∧p2 [vd,(N .i64 18)] X fun y3 Z=>au Z t fun y0=>(y0=u∧au Z v fun zb=>(zb=w∧ag .xor y2 y3 fun y4=>ag .xor y4 y5 fun y6=>ag .add u y6 fun y7=>ag .add y7 w fun zd=>p2 [ve,(N .i64 17)] Z fun ze va=>au va t fun yz=>(yz=u∧au va v fun za=>(za=w∧p2 [ve,(N .i64 19)] va fun zf vb=>au vb t fun yy=>(yy=u∧au vb v fun y9=>(y9=w∧ag .xor ze zf fun zg=>ag .xor zg zh fun zi=>ag .add zd zi fun zj=>eF i (aD l 0) 64 1 fun zk=>aR vb zk zj 1 fun vm=>ag .add (aD l 0) (N .i64 1) fun ys=>vo [ys] vm))))))))) ( dU a0 fun vr=>bT h vr 8 fun vs=>cz (.row [(N .u32 0),(N .u32 0),(N .u32 0),(N .u32 0),(N .u32 0),(N .u32 0),(N .u32 0),(N .u32 0)] false p3 0) (fun vc=>.ptr vc 0) h fun c vi=>aR vi c vs 8 fun vj=>eY (fun vp W d=>ag .lss (aD W 0) (N .i64 64) fun vt=>aF vt ( eF c (N .i64 4) 8 1 fun vu=>au d vu fun p=>eF c (N .i64 0) 8 1 fun vv=>au d vv fun q=>eF c (N .i64 7) 8 1 fun y=>au d y fun z=>eF c (N .i64 5) 8 1 fun A=>au d A fun B=>ag .and p B fun v8=>uj p fun v9=>eF c (N .i64 6) 8 1 fun C=>au d C fun D=>ag .and v9 D fun wd=>ag .xor v8 wd fun we=>dU a2 fun wg=>eF wg (aD W 0) 64 1 fun E=>au d E fun F=>eF i (aD W 0) 64 1 fun G=>au d G fun H=>p2 [p,(N .i64 6)] d fun vz n=>au n y fun vy=>(vy=z∧au n A fun v7=>(v7=B∧au n C fun wc=>(wc=D∧au n E fun wj=>(wj=F∧au n G fun wn=>(wn=H∧p2 [p,(N .i64 11)] n fun v0 o=>au o y fun vx=>(vx=z∧au o A fun v6=>(v6=B∧au o C fun wb=>(wb=D∧au o E fun wi=>(wi=F∧au o G fun wm=>(wm=H∧ag .xor vz v0 fun v1=>p2 [p,(N .i64 25)] o fun v2 e=>au e y fun vw=>(vw=z∧au e A fun v5=>(v5=B∧au e C fun wa=>(wa=D∧au e E fun wh=>(wh=F∧au e G fun wl=>(wl=H∧ag .xor v1 v2 fun v3=>ag .add z v3 fun v4=>ag .add v4 we fun wf=>ag .add wf F fun wk=>ag .add wk H fun vf=>eF c (N .i64 1) 8 1 fun I=>au e I fun L=>ag .and q L fun ww=>eF c (N .i64 2) 8 1 fun O=>au e O fun P=>ag .and q P fun w0=>ag .xor ww w0 fun w1=>eF c (N .i64 1) 8 1 fun R=>au e R fun S=>eF c (N .i64 2) 8 1 fun U=>au e U fun V=>ag .and S V fun w8=>ag .xor w1 w8 fun w9=>p2 [q,(N .i64 2)] e fun wo r=>au r I fun wv=>(wv=L∧au r O fun wz=>(wz=P∧au r R fun w4=>(w4=S∧au r U fun w7=>(w7=V∧p2 [q,(N .i64 13)] r fun wp s=>au s I fun wu=>(wu=L∧au s O fun wy=>(wy=P∧au s R fun w3=>(w3=S∧au s U fun w6=>(w6=V∧ag .xor wo wp fun wq=>p2 [q,(N .i64 22)] s fun wr g=>au g I fun wt=>(wt=L∧au g O fun wx=>(wx=P∧au g R fun w2=>(w2=S∧au g U fun w5=>(w5=V∧ag .xor wq wr fun ws=>ag .add ws w9 fun xa=>ag .add vf xa fun xb=>eF c (N .i64 1) 8 1 fun xc=>au g xc fun xd=>eF c (N .i64 2) 8 1 fun xe=>au g xe fun xf=>eF c (N .i64 3) 8 1 fun xg=>au g xg fun xh=>ag .add xh vf fun xi=>eF c (N .i64 5) 8 1 fun xj=>au g xj fun xk=>eF c (N .i64 6) 8 1 fun xl=>au g xl fun xm=>iV [(N .u32 0),(N .u32 0),(N .u32 0),(N .u32 0),(N .u32 0),(N .u32 0),(N .u32 0),(N .u32 0)] [(0,1,xb),(1,1,q),(2,1,xd),(3,1,xf),(4,1,xi),(5,1,p),(6,1,xk),(7,1,xm)] fun xn=>aR g c xn 8 fun vk=>ag .add (aD W 0) (N .i64 1) fun xo=>vp [xo] vk)))))))))))))))))))))))))))) ( bT d c 8 fun xp=>eY (fun vq x Y=>ag .lss (aD x 0) (N .i64 8) fun xq=>aF xq ( Iz xp (aD x 0) 8 fun xr=>dU a0 fun xs=>eF xs (aD x 0) 8 1 fun xt=>au Y xt fun xu=>ag .add xu xr fun xv=>dU a0 fun xw=>eF xw (aD x 0) 8 1 fun xx=>aR Y xx xv 1 fun vl=>ag .add (aD x 0) (N .i64 1) fun xy=>vq [xy] vl) ( Q (.tup []) Y)) [(N .i64 0)] d)) [(N .i64 0)] vj)) [(N .i64 16)] m)) [(N .i64 0)] vg
def DJ(a0:AV)(M0:RM)(Q:aj):Prop:=ag .geq a0 (N .u8 48) fun g=>af g true (fun c=>c a0 M0) (fun c=>c .undef M0) fun v h=>af g true (fun l=>ag .leq v (N .u8 57) fun w=>l w h) (fun c=>c .undef h) fun x d=>aM g x (Bo false) fun y=>aF y ( ag .sub a0 (N .u8 48) fun o=>Q o d) ( ag .geq a0 (N .u8 97) fun e=>af e true (fun m=>m a0 d) (fun c=>c .undef d) fun p i=>af e true (fun n=>ag .leq p (N .u8 102) fun q=>n q i) (fun c=>c .undef i) fun r j=>aM e r (Bo false) fun s=>aF s ( ag .sub a0 (N .u8 97) fun t=>ag .add t (N .u8 10) fun u=>Q u j) ( Q (N .u8 255) j))
def Hm(p1:aB)(a0 a1:AV)(M0:RM)(Q:aj):Prop:=Vf a1 fun d=>p1 [a0,d] M0 fun e c=>Q e c
def ku(a0 a1:AV)(M0:RM)(Q:aj):Prop:=iR .u64 a1 fun i=>ag .and i (N .u64 31) fun c=>qj .shl a0 c fun d=>ag .sub (N .u64 32) c fun e=>qj .shr a0 e fun g=>ag .or d g fun h=>Q h M0
end Go.Ab.Sha
namespace Go.Ab.Tn
open Go Go.Ab
def Gz(a0 a1:AV)(M0:RM)(Q:aj):Prop:=uj a0 fun n=>bS a1 fun o=>eY (fun l c e=>ag .lss (aD c 1) o fun p=>aF p ( ed a1 (aD c 1) 1 fun q=>au e q fun r=>iR .u32 r fun s=>ag .xor (aD c 0) s fun t=>eY (fun m d g=>ag .lss (aD d 1) (N .i64 8) fun u=>aF u ( iK (fun h=>ag .and (aD d 0) (N .u32 1) fun v=>qj .shr (aD d 0) (N .u64 1) fun i=>ag .eql v (N .u32 1) fun w=>aF w ( ag .xor i (N .u32 2197175160) fun x=>h [x] g) ( h [i] g)) (fun B j=>ag .add (aD d 1) (N .i64 1) fun y=>m [(aD B 0),y] j)) ( ag .add (aD c 1) (N .i64 1) fun z=>l [(aD d 0),z] g)) [t,(N .i64 0)] e) ( uj (aD c 0) fun A=>Q A e)) [n,(N .i64 0)] M0
def JL(p1:aB)(a0:AV)(M0:RM)(Q:aj):Prop:=p1 [(N .u32 0),a0] M0 fun d c=>Q d c
def zA(a0:AV)(M0:RM)(Q:aj):Prop:=dU a0 fun vb=>aZ vb 1 fun vc=>au M0 vc fun d=>af d false (fun c=>c a0 M0) (fun c=>c .undef M0) fun t h=>af d false (fun o=>dU t fun u=>o u h) (fun c=>c .undef h) fun v j=>af d false (fun q=>aZ v 0 fun w=>q w j) (fun c=>c .undef j) fun x g=>af d false (fun r=>au g x fun y=>r y g) (fun c=>c .undef g) fun z l=>af d false (fun s=>bS z fun A=>s A l) (fun c=>c .undef l) fun B i=>af d false (fun p=>ag .eql B (N .i64 0) fun C=>p C i) (fun c=>c .undef i) fun D m=>aM d (Bo true) D fun E=>dU a0 fun F=>aZ F 1 fun G=>aR m G E 1 fun e=>dU a0 fun H=>aZ H 1 fun I=>au e I fun L=>aF L ( Q (N .u8 0) e) ( dU a0 fun O=>aZ O 0 fun P=>au e P fun R=>ed R (N .i64 0) 1 fun S=>au e S fun U=>dU a0 fun V=>aZ V 0 fun W=>au e W fun X=>dz (bI 1 X (some (N .i64 1)) none none) fun Y=>dU a0 fun Z=>aZ Z 0 fun va=>aR e va Y 1 fun n=>Q U n)
def zG(p1:aB)(a0:AV)(M0:RM)(Q:aj):Prop:=dU a0 fun d=>aZ d 0 fun e=>p1 [e] M0 fun g c=>Q (.tup []) c
def uP(p1:aB)(a0:AV)(M0:RM)(Q:aj):Prop:=dU a0 fun d=>aZ d 0 fun e=>p1 [e] M0 fun g c=>Q (.tup []) c
def nR(p1 p2 p3 p4 p5:aB)(a0:AV)(M0:RM)(Q:aj):Prop:=p1 [] M0 fun r g=>dU a0 fun l=>aZ l 0 fun m=>p2 [m,(N .i32 0),(N .i32 1)] g fun n c=>aF n ( iK (fun d=>aF (Bo true) ( p3 [] c fun s e=>Uq e a0 fun o=>p4 [o] e fun p h=>d [] h) ( d [] c)) (fun t i=>Q (.tup []) i)) ( p5 [a0] c fun q j=>Q (.tup []) j)
def mq(p1 p2 p3 p4 p5:aB)(a0:AV)(M0:RM)(Q:aj):Prop:=iK (fun c=>aF (Bo true) ( dU a0 fun r=>aZ r 0 fun s=>au M0 s fun x=>Uq M0 a0 fun t=>p1 [t] M0 fun y h=>p2 [] h fun u i=>c [] i) ( c [] M0)) (fun z j=>dU a0 fun o=>aZ o 0 fun p=>p3 [p,(N .i32 (-1))] j fun g e=>iK (fun d=>ag .neq g (N .i32 0) fun q=>aF q ( p4 [a0,g] e fun v l=>d [] l) ( d [] e)) (fun A m=>p5 [] m fun w n=>Q (.tup []) n))
def qi(p1:aB)(a0:AV)(M0:RM)(Q:aj):Prop:=dU a0 fun d=>aZ d 0 fun e=>p1 [e] M0 fun g c=>ag .neq g (N .u32 0) fun h=>Q h c
def oQ(p1 p2:aB)(a0 a1:AV)(M0:RM)(Q:aj):Prop:=dU a0 fun e=>aZ e 0 fun g=>p1 [a1] M0 fun h c=>p2 [g,h] c fun i d=>Q (.tup []) d
def zH(a0:AV)(M0:RM)(Q:aj):Prop:=aF a0 ( Q (N .u32 1) M0) ( Q (N .u32 0) M0)
end Go.Ab.Tn
namespace Go.Ab
open Go Go.RowKit
section
variable {P:Program} {ρ:Ren} {M:RM} {w w' : World}
theorem aeO{base:Base}{A:AW}(hw0:dD P base ρ A w)(hbl:Below w.heap.size w w')(hbase:base≤w.heap.size){x:mY}{ob:Obj}{i:gF}(hge:w.heap.size≤i.cb)(hob:w'.heap[i.cb]?=some ob)
  (hrel:jL P (ρ.add A.next i) i x ob):dD P base (ρ.add A.next i) (A.push x) w'∧Step base A.next ρ w (ρ.add A.next i) w':=by
 have hb:ρ A.next=none:=hw0.fresh (Nat.le_refl _)
 have hw:=Eu hw0 x
 have hx:(A.push x).heap.get A.next=some x:=by simp[AW.push,Tree.bn]
 have hlt:A.next<(A.push x).next:=by simp[AW.push]
 have hle:=Ren.yR (i:=i) hb
 have hadd:∀ c j,ρ.add A.next i c=some j→(c=A.next∧j=i)∨(c≠A.next∧ρ c=some j):=by
  intro c j h
  unfold Ren.add at h
  split at h
  ·cases h;exact .inl ⟨‹_›,rfl⟩
  ·exact .inr ⟨‹_›,h⟩
 have hcb:i.cb<w'.heap.size:=(Array.getElem?_eq_some_iff.1 hob).1
 refine⟨⟨?_, ?_, ?_,hw.top, ?_,base.low w _ (fun c hc=>hbl.block c (by omega)) hw.inv⟩,⟨hbl.os,hbl.tape,hbl.output,hbl.size, ?_, ?_, ?_,fun c hc=>hbl.block c (by omega)⟩⟩
 ·intro c j h
  rcases hadd c j h with⟨rfl,rfl⟩|⟨_,h⟩
  ·exact⟨hlt,hcb⟩
  ·have:=hw.dom c j h;have:=hbl.size;omega
 ·intro c j y h hy
  rcases hadd c j h with⟨rfl,rfl⟩|⟨_,h⟩
  ·rw[hx]at hy;cases hy
   exact⟨ob,hob,hrel⟩
  ·obtain⟨o,ho,hr⟩:=hw.blk c j y h hy
   exact⟨o,by rw[hbl.block j.cb (hw.dom c j h).2];exact ho,hr.mono hle⟩
 ·intro b1 b2 i1 i2 x1 x2 h1 h2 g1 g2 he
  rcases hadd _ _ h1 with⟨e1,f1⟩|⟨_,k1⟩<;>rcases hadd _ _ h2 with⟨e2,f2⟩|⟨_,k2⟩
  ·rw[e1,e2]
  ·have:=(hw.dom _ _ k2).2;subst f1;omega
  ·have:=(hw.dom _ _ k1).2;subst f2;omega
  ·exact hw.sep _ _ _ _ _ _ k1 k2 g1 g2 he
 ·intro c j y h hy
  rcases hadd c j h with⟨rfl,rfl⟩|⟨_,h⟩
  ·omega
  ·exact hw.lo c j y h hy
 ·intro c hc _;exact hbl.block c hc
 ·intro c hc;unfold Ren.add;rw[if_neg (by omega)]
 ·intro c j h
  rcases hadd c j h with⟨rfl,rfl⟩|⟨_,h⟩
  ·exact .inr hge
  ·exact .inl ⟨c,j,h,rfl⟩
theorem dL.ami{f:FuncId}{args:List AV}{T n:Nat}{cs:List AV}{Q:aj}(hP:Ak P f)(hsz:aL P T=some 1)(h1:cs.all oneCell=true)(hlen:cs.length=n)
  (h:∀ (ρ:Ren)(w:World)(us:List Value),aQ ρ args us→bu P ρ M w→Calls P f ⟨us⟩ w fun e w'=>∃ v xs,e=.returned v∧w'.ownsRow w.heap.size T 1 v n xs∧(∀ ρ',aQ ρ' cs xs)∧Below w.heap.size w w')
  (hQ:∀ v M',Own M' M.next T 1 v cs n→ah [] M M'→Q v M'):dL P f args M Q:=by
 refine⟨hP,fun ρ w us hargs hw=>(h ρ w us hargs hw).mono fun e w' hR=>?_⟩
 obtain⟨v,xs,rfl,⟨hxl,hrow⟩,hrel,hbl⟩:=hR
 rcases hrow with⟨rfl,h0⟩|⟨g,cap,cur,rfl,hge,hg,r1,r2,r3,r4⟩
 ·have:cs=[]:=List.length_eq_zero_iff.1 (by omega)
  subst this
  have hn:n=0:=h0
  subst hn
  exact⟨_,bC,M,ρ,rfl,After.below hw hbl,.sc _ rfl,hQ _ _ .nil (ah.refl _ _)⟩
 ·obtain⟨A,hA⟩:=hw
  obtain⟨tr,htr⟩:=lg cs .leaf 0 h1
  obtain⟨_,hget⟩:=fK _ _ _ htr
  obtain⟨_,hcell⟩:=El htr
  have hblk:jL P (ρ.add A.next ⟨g,0,cap,1⟩) ⟨g,0,cap,1⟩ (.row n tr [] true T 0) (.cells cur T (0,0)):=by
   refine⟨cur,(0,0),rfl,⟨by show 0+n≤_;omega,fun k x hx=>?_,fun k _ _=>by simp,fun h=>(by cases h),fun _=>⟨Nat.one_pos,by show cur.size=0+cap*1;omega,hsz⟩,rfl⟩⟩
   obtain⟨hk1,hk2⟩:=mH hx
   rw[hget,if_pos (by omega),Nat.sub_zero]at hk2
   obtain⟨v,hv,hvr⟩:=(hrel (ρ.add A.next ⟨g,0,cap,1⟩)).get hk2
   refine⟨v, ?_,hvr⟩
   show cur[0+k]?=some v
   rw[Nat.zero_add,← Array.getElem?_toList]
   rw[← r4,Nat.mul_one,List.getElem?_take_of_lt (by omega)]at hv
   exact hv
  obtain⟨q1,q2⟩:=aeO hA.rel hbl (Nat.le_trans (show M.base.n≤M.lo from Nat.le_refl _) hA.size) (i:=⟨g,0,cap,1⟩) hge hg hblk
  obtain⟨k1,k2,k3⟩:=RM.BZ hA (x:=.row cs true T 0) (y:=.row n tr [] true T 0) ⟨hlen,rfl,rfl,rfl,fun k v hk=>by rw[← hlen];exact hcell k v hk⟩
  have hnx:=hA.next
  refine⟨_,.slc M.next 0 n (.op 1),M.push (.row cs true T 0),_,rfl,je hA q2 q1 k1 k2 (by simp[AW.push]) k3, ?_,hQ _ _ (.op M.next n cs (Nat.le_refl _) (by simp[RM.push]) (RM.nL _) (by omega)) ((ah.refl _ _).push _)⟩
  have:=ai.lQ (ρ:=ρ.add A.next ⟨g,0,cap,1⟩) M.next 0 n ⟨g,0,cap,1⟩ (by rw[← hnx];simp[Ren.add]) (by show 0+n≤cap;omega)
  simpa using this
end
variable {H:Type} {enc:TypeId×Value→H}
theorem Md{a:Assume}{C:Checked}{os:Os}{f:FuncId}{fn:Func}{s:ChangeSpec}{conds:List PathCond}{apart fresh handsOn again:Bool}{X:World→Array Value→Prop}
  (hX:∀ (w w' : World)(args:Array Value),w.heap=w'.heap→X w args→X w' args)
  (own:ownKnob C.prog.godebug=none) (started:os.Started) (noInit:C.prog.inits.idxOf? f=none) (hfn:C.prog.funcs[f]?=some fn)
  (witness:∃ (w:World)(tape:Tape)(i:Input),w.os=os∧(w.forCall tape i).Shaped C.prog∧i.vars=[]∧Input.okWide C.prog (w.forCall tape i) .any w.heap.size f i ∧
   ((s.pre enc C.prog fn conds apart (w.forCall tape i).memory i.args∧X (w.forCall tape i).memory i.args)∧sizedMet enc C.prog fn (OpenSpec.ofChange s) apart (w.forCall tape i).memory i.args)∧a.holds C.prog (lone (Frame.enter C.prog f i.args .normal) [] (w.forCall tape i)))
  (contract:∀ (W:World)(base:Nat)(args:Array Value)(ds gs:List (DataW H))(before:List MemPlace),
   (∀ (j:Nat) t v,fn.params[j]?=some t→args[j]?=some v→Value.okWide C.prog W .any base t v) →
   DataW.Whole enc C.prog fn.params.toList s.vars apart W args.toList ds gs before →
   conds.all (PathCond.test C.prog ⟨fn.params.toList,ds,s.plain.varTypes C.prog,gs⟩)=true →
   (DataW.weightsEach C.prog (fn.params.toList++s.plain.varTypes C.prog) (ds++gs)).all (· ≤ reachBytes)=true→X W args →
   W.ShapedOpen C.prog →
   a.holds C.prog (lone (Frame.enter C.prog f args .normal) [] W) →
   Calls C.prog f args W fun e W'=>∃ v,e=.returned v∧s.post enc C.prog fn apart fresh handsOn again W args v W') :
  ReturnsInHanded a C os f .any (fun w args=>(s.pre enc C.prog fn conds apart w args∧X w args)∧sizedMet enc C.prog fn (OpenSpec.ofChange s) apart w args) (s.post enc C.prog fn apart fresh handsOn again):=by
 refine returnsInHanded_of_calls own started noInit witness ?_
 intro w tape i _ hsh _ hok hpre hholds
 obtain⟨_,_,_,fn',hfn',_,_,_,_,hval⟩:=hok
 have e:fn'=fn:=Option.some.inj (hfn'.symm.trans hfn)
 subst e
 obtain⟨⟨⟨ds,gs,before,hw,hc⟩,hx⟩,hz⟩:=hpre
 have hw':=DataW.Whole.of_heap (w':=w.forCall tape i) (by rfl) hw
 refine(contract (w.forCall tape i) w.heap.size i.args ds gs before hval hw' hc (hz.weights hw) (hX _ _ _ (by rfl) hx) hsh hholds).mono fun e W' ⟨v,he,hp⟩=>?_
 subst he
 exact ChangeSpec.post_blind hp
end Go.Ab
set_option maxRecDepth 10000
namespace Go.Ab.Hw
open Go Go.Ab Go.Ab.Sm
open Go.Ab.Vl (brk ow wR jd iD jU jy KL pV)
def Ns(B:Base)(TH T8:Nat)(c:aB):Prop:=∀ {M:RM}{v:AV}{b:Str}{Q:aj},M.base=B→Bs M v b→b.length≤1000000000 →
 (∀ m p l out r at2 hv ov M',nT b=.ok ((m,p,l,out),r)→at2≤b.length→b.drop at2=r→out.length≤16384→l.length≤32→(∀ h∈l,h.1.length≤2048∧h.2.length≤2048)→ah [] M M'→Ow HD M' M.next TH hv l→Ow BY M' M.next T8 ov out→(∀ x∈aJ hv,∀ y∈aJ ov,x<y) →
  Q (.tup [.agg [St m,St p,hv,ov],N .i64 (at2:Int),N .i64 0]) M') →
 (∀ (e:Nat) M',nT b=.error e→(e=14∨e=15∨e=2)→ah [] M M'→Q (.tup [.agg [St [],St [],bC,bC],N .i64 0,N .i64 (e:Int)]) M')→c [v] M Q
theorem Tm{B:Base}{T TH T8 g:Nat}{ch cb:aB}(hH:∀ br,Ul B (.fn (.func g) [] [.ptr br 0]) A8 br (mM T [] []) (WS T) TH ch)(hb:Ue B T8 cb):Ns B TH T8 fun args M Q=>∃ a0,args=[a0]∧mf T g ch cb a0 M Q:=by
 intro M v b Q hB hv hl hQ hE
 refine⟨_,rfl, ?_⟩
 unfold mf
 simp only[bL]
 have k0:ah [] M ((M.push (mM T [] [])).push (mM T [] [])):=((ah.refl _ _).push _).push _
 have a2:((M.push (mM T [] [])).push (mM T [] [])).heap M.next=some (mM T [] []):=by simp[RM.push]
 have a5:((M.push (mM T [] [])).push (mM T [] [])).heap (M.push (mM T [] [])).next=some (mM T [] []):=by simp[RM.push]
 have e5:(M.push (mM T [] [])).next=M.next+1:=rfl
 have n0:((M.push (mM T [] [])).push (mM T [] [])).next=M.next+2:=rfl
 rw[e5]at a5 ⊢
 generalize (M.push (mM T [] [])).push (mM T [] [])=M0 at *
 have hv0:=hv.keep k0 (by simp)
 have err:∀ (e:Nat)(M1:RM),ah [M.next+1] M0 M1→nT b=.error e→(e=14∨e=15∨e=2) →
   iV [(St []),(St []),(.sc (.slice none 0 0)),(.sc (.slice none 0 0))] [] fun t18=>aR M1 (.ptr M.next 0) t18 4 fun M_2=>bT M_2 (.ptr M.next 0) 4 fun res=>Q (.tup [res,(N .i64 0),N .i64 (e:Int)]) M_2:=by
  intro e M1 k1 he1 he
  rw[oF]
  refine⟨_,rfl, ?_⟩
  have n1:=k1.aV a2 (by omega) (by simp)
  rw[jo n1 (by rfl) (by rfl) (by rfl),dK (aO _) (by rfl)]
  exact hE e _ he1 he ((vS k0 k1 (by omega)).new _ (Nat.le_refl _))
 refine hH (M.next+1) (k0.base.trans hB) hv0 hl (by omega) (fun hx=>by have:=hv.lt _ hx;omega) a5 (fun e M1 h1 he k1=>?_) (fun s l at' hv' M1 h1 hat hs hll k1 X1 o1=>?_)
 ·simp only[dQ,dV,ik,iJ]
  rw[show(((e:Nat):Int) != 0)=true by rcases he with rfl|rfl|rfl<;>rfl,dE]
  exact err e M1 k1 (by unfold nT;rw[h1]) (by omega)
 obtain⟨hlen,hp⟩:=Sc h1
 simp only[dQ,dV,ik,NP,di,jJ]
 obtain⟨⟨m,p⟩,hmp⟩ : ∃ q,lN s=some q:=by unfold A8 at hp;exact Option.isSome_iff_exists.1 hp
 have X1' : M1.heap (M.next+1)=some (mM T m p):=by rw[X1];unfold WS;rw[hmp]
 have hone:oneCell hv'=true:=Own.one o1
 have hcell:hv'.cells=[hv']:=Own.cells o1
 simp only[Nat.zero_add]
 rw[eU [St m,St p,hv',bC] X1' (by simp) hcell hone rfl]
 have k2:ah [M.next+1] M0 (M1.put (M.next+1) (.row [St m,St p,hv',bC] false T 0)):=k1.put _ (.inr (by simp))
 have X2:(M1.put (M.next+1) (.row [St m,St p,hv',bC] false T 0)).heap (M.next+1)=some (.row [St m,St p,hv',bC] false T 0):=aO _
 have o2:Ow HD (M1.put (M.next+1) (.row [St m,St p,hv',bC] false T 0)) M0.next TH hv' l:=Own.keep o1 ((ah.refl [M.next+1] M1).put _ (.inr (by simp))) (fun x hx hm=>by
  have:=(Own.blk o1 x hx).1
  simp at hm;omega)
 generalize M1.put (M.next+1) (.row [St m,St p,hv',bC] false T 0)=M2 at *
 have k02:=vS k0 k2 (by omega)
 refine hb (k02.base.trans hB) (hv.keep k02 (by simp)) hat hl (Own.E5 o2) (by omega) (fun h hx=>by have:=hlen h hx;omega) (fun out r at2 ov M3 e3 ha2 ha3 hr ho k3 o3=>?_) (fun e M3 e3 he k3=>?_)
 ·simp only[dQ,dV,ik,NP,di,jJ,Nat.zero_add]
  have X3:=k3.aV X2 (Nat.lt_of_lt_of_le (by omega) k2.next) (by simp)
  rw[eU [St m,St p,hv',ov] X3 (by simp) (Own.cells o3) (Own.one o3) rfl]
  have n3:=(k2.trans (k3.mono (by simp))).aV a2 (by omega) (by simp)
  rw[dK (aO _) (by rfl),jo (Ms n3 (by omega)) (by rfl) (by rfl) (by have:=Own.one o3;simp only[List.all_cons,List.all_nil,hone,this];rfl),dK (aO _) (by rfl)]
  have k4:ah [] M (((M3.put (M.next+1) (.row [St m,St p,hv',ov] false T 0))).put M.next (.row [St m,St p,hv',ov] false T 0)):=((k02.trans k3).new _ (by omega)).new _ (Nat.le_refl _)
  have k34:ah [M.next,M.next+1] M3 (((M3.put (M.next+1) (.row [St m,St p,hv',ov] false T 0))).put M.next (.row [St m,St p,hv',ov] false T 0)):=((ah.refl _ _).put _ (.inr (by simp))).put _ (.inr (by simp))
  refine hQ m p l out r at2 hv' ov _ (by unfold nT;rw[h1];dsimp only;rw[e3,hmp]) ha2 hr ho hll hlen k4 ?_ ?_ (fun x hx y hy=>Nat.lt_of_lt_of_le (Own.blk o2 x hx).2 (Own.blk o3 y hy).1)
  ·have o2' : Ow HD M3 M0.next TH hv' l:=Own.keep o2 k3 (by simp)
   refine Own.mono (Own.keep o2' k34 (fun x hx hm=>?_)) k0.next
   have:=(Own.blk o2' x hx).1
   simp at hm;omega
  ·refine Own.mono (Own.keep o3 k34 (fun x hx hm=>?_)) k02.next
   have:=(Own.blk o3 x hx).1
   have:=k2.next
   simp at hm;omega
 ·simp only[dQ,dV,ik,jJ,Nat.zero_add]
  have X3:=k3.aV X2 (Nat.lt_of_lt_of_le (by omega) k2.next) (by simp)
  rw[eU [St m,St p,hv',bC] X3 (by simp) rfl rfl rfl,iJ,show(((e:Nat):Int) != 0)=true by rcases he with rfl|rfl|rfl<;>rfl,dE]
  exact err e _ ((k2.trans (k3.mono (by simp))).put _ (.inr (by simp))) (by unfold nT;rw[h1];dsimp only;rw[e3]) (by omega)
def Ki(B:Base)(TH T8:Nat)(c:aB):Prop:=∀ {M:RM}{v:AV}{b:Str}{Q:aj},M.base=B→Bs M v b→b.length≤1000000000 →
 (∀ n l out r at2 hv ov M',nN b=.ok ((n,l,out),r)→at2≤b.length→b.drop at2=r→out.length≤16384→l.length≤32→(∀ h∈l,h.1.length≤2048∧h.2.length≤2048)→ah [] M M'→Ow HD M' M.next TH hv l→Ow BY M' M.next T8 ov out→(∀ x∈aJ hv,∀ y∈aJ ov,x<y) →
  Q (.tup [.agg [N .i64 (n:Int),hv,ov],N .i64 (at2:Int),N .i64 0]) M') →
 (∀ (e:Nat) M',nN b=.error e→(e=14∨e=15∨e=2)→ah [] M M'→Q (.tup [.agg [N .i64 0,bC,bC],N .i64 0,N .i64 (e:Int)]) M')→c [v] M Q
theorem QZ{B:Base}{T TH T8 g:Nat}{ch cb:aB}(hH:∀ br,Ul B (.fn (.func g) [] [.ptr br 0]) uu br (jP T 0) (TI T) TH ch)(hb:Ue B T8 cb):Ki B TH T8 fun args M Q=>∃ a0,args=[a0]∧kT T g ch cb a0 M Q:=by
 intro M v b Q hB hv hl hQ hE
 refine⟨_,rfl, ?_⟩
 unfold kT
 simp only[bL]
 have k0:ah [] M ((M.push (jP T 0)).push (jP T 0)):=((ah.refl _ _).push _).push _
 have a2:((M.push (jP T 0)).push (jP T 0)).heap M.next=some (jP T 0):=by simp[RM.push]
 have a5:((M.push (jP T 0)).push (jP T 0)).heap (M.push (jP T 0)).next=some (jP T 0):=by simp[RM.push]
 have e5:(M.push (jP T 0)).next=M.next+1:=rfl
 have n0:((M.push (jP T 0)).push (jP T 0)).next=M.next+2:=rfl
 rw[e5]at a5 ⊢
 generalize (M.push (jP T 0)).push (jP T 0)=M0 at *
 have hv0:=hv.keep k0 (by simp)
 have err:∀ (e:Nat)(M1:RM),ah [M.next+1] M0 M1→nN b=.error e→(e=14∨e=15∨e=2) →
   iV [(N .i64 0),(.sc (.slice none 0 0)),(.sc (.slice none 0 0))] [] fun t18=>aR M1 (.ptr M.next 0) t18 3 fun M_2=>bT M_2 (.ptr M.next 0) 3 fun res=>Q (.tup [res,(N .i64 0),N .i64 (e:Int)]) M_2:=by
  intro e M1 k1 he1 he
  rw[oF]
  refine⟨_,rfl, ?_⟩
  have n1:=k1.aV a2 (by omega) (by simp)
  rw[jo n1 (by rfl) (by rfl) (by rfl),dK (aO _) (by rfl)]
  exact hE e _ he1 he ((vS k0 k1 (by omega)).new _ (Nat.le_refl _))
 refine hH (M.next+1) (k0.base.trans hB) hv0 hl (by omega) (fun hx=>by have:=hv.lt _ hx;omega) a5 (fun e M1 h1 he k1=>?_) (fun s l at' hv' M1 h1 hat hs hll k1 X1 o1=>?_)
 ·simp only[dQ,dV,ik,iJ]
  rw[show(((e:Nat):Int) != 0)=true by rcases he with rfl|rfl|rfl<;>rfl,dE]
  exact err e M1 k1 (by unfold nN;rw[h1]) (by omega)
 obtain⟨hlen,hp⟩:=Sc h1
 simp only[dQ,dV,ik,NP,di,jJ]
 have X1' : M1.heap (M.next+1)=some (jP T (codeOf s)):=X1
 have hone:oneCell hv'=true:=Own.one o1
 have hcell:hv'.cells=[hv']:=Own.cells o1
 simp only[Nat.zero_add]
 rw[eU [N .i64 (codeOf s:Int),hv',bC] X1' (by simp) hcell hone rfl]
 have k2:ah [M.next+1] M0 (M1.put (M.next+1) (.row [N .i64 (codeOf s:Int),hv',bC] false T 0)):=k1.put _ (.inr (by simp))
 have X2:(M1.put (M.next+1) (.row [N .i64 (codeOf s:Int),hv',bC] false T 0)).heap (M.next+1)=some (.row [N .i64 (codeOf s:Int),hv',bC] false T 0):=aO _
 have o2:Ow HD (M1.put (M.next+1) (.row [N .i64 (codeOf s:Int),hv',bC] false T 0)) M0.next TH hv' l:=Own.keep o1 ((ah.refl [M.next+1] M1).put _ (.inr (by simp))) (fun x hx hm=>by
  have:=(Own.blk o1 x hx).1
  simp at hm;omega)
 generalize M1.put (M.next+1) (.row [N .i64 (codeOf s:Int),hv',bC] false T 0)=M2 at *
 have k02:=vS k0 k2 (by omega)
 refine hb (k02.base.trans hB) (hv.keep k02 (by simp)) hat hl (Own.E5 o2) (by omega) (fun h hx=>by have:=hlen h hx;omega) (fun out r at2 ov M3 e3 ha2 ha3 hr ho k3 o3=>?_) (fun e M3 e3 he k3=>?_)
 ·simp only[dQ,dV,ik,NP,di,jJ,Nat.zero_add]
  have X3:=k3.aV X2 (Nat.lt_of_lt_of_le (by omega) k2.next) (by simp)
  rw[eU [N .i64 (codeOf s:Int),hv',ov] X3 (by simp) (Own.cells o3) (Own.one o3) rfl]
  have n3:=(k2.trans (k3.mono (by simp))).aV a2 (by omega) (by simp)
  rw[dK (aO _) (by rfl),jo (Ms n3 (by omega)) (by rfl) (by rfl) (by have:=Own.one o3;simp only[List.all_cons,List.all_nil,hone,this];rfl),dK (aO _) (by rfl)]
  have k4:ah [] M (((M3.put (M.next+1) (.row [N .i64 (codeOf s:Int),hv',ov] false T 0))).put M.next (.row [N .i64 (codeOf s:Int),hv',ov] false T 0)):=((k02.trans k3).new _ (by omega)).new _ (Nat.le_refl _)
  have k34:ah [M.next,M.next+1] M3 (((M3.put (M.next+1) (.row [N .i64 (codeOf s:Int),hv',ov] false T 0))).put M.next (.row [N .i64 (codeOf s:Int),hv',ov] false T 0)):=((ah.refl _ _).put _ (.inr (by simp))).put _ (.inr (by simp))
  refine hQ (codeOf s) l out r at2 hv' ov _ (by unfold nN;rw[h1];dsimp only;rw[e3]) ha2 hr ho hll hlen k4 ?_ ?_ (fun x hx y hy=>Nat.lt_of_lt_of_le (Own.blk o2 x hx).2 (Own.blk o3 y hy).1)
  ·have o2' : Ow HD M3 M0.next TH hv' l:=Own.keep o2 k3 (by simp)
   refine Own.mono (Own.keep o2' k34 (fun x hx hm=>?_)) k0.next
   have:=(Own.blk o2' x hx).1
   simp at hm;omega
  ·refine Own.mono (Own.keep o3 k34 (fun x hx hm=>?_)) k02.next
   have:=(Own.blk o3 x hx).1
   have:=k2.next
   simp at hm;omega
 ·simp only[dQ,dV,ik,jJ,Nat.zero_add]
  have X3:=k3.aV X2 (Nat.lt_of_lt_of_le (by omega) k2.next) (by simp)
  rw[eU [N .i64 (codeOf s:Int),hv',bC] X3 (by simp) rfl rfl rfl,iJ,show(((e:Nat):Int) != 0)=true by rcases he with rfl|rfl|rfl<;>rfl,dE]
  exact err e _ ((k2.trans (k3.mono (by simp))).put _ (.inr (by simp))) (by unfold nN;rw[h1];dsimp only;rw[e3]) (by omega)
end Go.Ab.Hw
namespace Go.Ab
open Go Go.RowKit
abbrev xW(r:Option Nat):Fence := { Fence.wide with round:=r }
def wd(ds:List Deferred)(a:Act):Act := { a with defers:=ds }
theorem Bp(ds:List Deferred)(a:Act)(d:Option Tmp)(v:Value):(wd ds a).put d v=wd ds (a.put d v):=by cases d<;>rfl
theorem LD(ds:List Deferred)(a:Act):(wd ds a).eval=a.eval:=by funext x;cases x<;>rfl
theorem put_defers(a:Act)(d:Option Tmp)(v:Value):(a.put d v).defers=a.defers:=by cases d<;>rfl
def Dh(o:Oper):Bool:=match o.op with|.defer _=>false|_=>true
theorem YJ{o:Oper}(h:Dh o=true):∀ c,o.op≠.defer c:=by
 intro c e;unfold Dh at h;rw[e]at h;cases h
def Qn(Q0:Act→World→Prop):Exit→Act→World→Prop:=fun e a w=>e=.normal∧a.defers=[]∧Q0 a w
section
variable {P:Program} {Q0:Act→World→Prop} {K K' : Act→World→Prop} {Q' : Exit→Act→World→Prop} {r:Option Nat} {n:Nat} {ds:List Deferred}
theorem al5{row:String}{args:Array Value}{w:World}{R:Value→World→Prop}(h:Rows P row args w R):RowsIn (xW r) n P row args w R :=
 fun c cs _=>let ⟨v,w',q,s⟩:=h c cs; ⟨v,w',q,(stepsIn_wide (P:=P)).2 s⟩
theorem Wx{f:FuncId}{args:Array Value}{w:World}{R:Ending→World→Prop}(h:Calls P f args w R):CallsIn (xW r) n P f args w R :=
 (callsIn_wide (n:=n)).2 h
theorem YQ{o:Oper}(hKd:∀ a w,a.defers≠[]→¬ K a w){a:Act}(ha:a.defers≠[]){res:Result Next}(h:o.upon P a K (Qn Q0) res):False:=by
 unfold Oper.upon at h
 split at h
 ·exact hKd _ _ (by rw[put_defers];exact ha) h
 ·exact hKd _ _ (by rw[put_defers];exact ha) h
 ·exact hKd _ _ (by rw[put_defers];simp) h
 ·obtain⟨e,w',fr,hR,_⟩:=h []
  cases e with
  |returned v=>exact hKd _ _ (by rw[put_defers];exact ha) hR
  |panicked c=>cases hR.1
  |outgrown=>obtain⟨a,w,h⟩:=hR;cases h.1
 ·obtain⟨v,w',hR,_⟩:=h default []
  exact hKd _ _ (by rw[put_defers];exact ha) hR
 ·cases h.1
 ·exact h
theorem akD{o:Oper}(hK:∀ a w,a.defers=[]→K a w→K' (wd ds a) w)(hKd:∀ a w,a.defers≠[]→¬ K a w){a:Act}(ha:a.defers=[]){res:Result Next}(h:o.upon P a K (Qn Q0) res) :
  o.uponIn (xW r) n P (wd ds a) K' Q' res:=by
 unfold Oper.upon at h
 split at h
 ·rw[Oper.uponIn_value,Bp]
  exact hK _ _ (by rw[put_defers];exact ha) h
 ·rw[Oper.uponIn_skip,Bp]
  exact hK _ _ (by rw[put_defers];exact ha) h
 ·exact absurd h (hKd _ _ (by rw[put_defers];simp))
 ·rw[Oper.uponIn_enter]
  refine⟨fun h=>(by cases h),Wx (h.mono ?_)⟩
  intro e w'' hR
  cases e with
  |returned v=>simp only at hR ⊢;rw[Bp];exact hK _ _ (by rw[put_defers];exact ha) hR
  |panicked c=>cases hR.1
  |outgrown=>obtain⟨a,w,h⟩:=hR;cases h.1
 ·rw[Oper.uponIn_row]
  refine⟨fun h=>(by cases h),al5 (h.mono ?_)⟩
  intro v w'' hR
  rw[Bp];exact hK _ _ (by rw[put_defers];exact ha) hR
 ·cases h.1
 ·exact h.elim
theorem afm{o:Oper}(hKd:∀ a w,a.defers≠[]→¬ K a w){a:Act}{w:World}(ha:a.defers≠[])(h:o.wp P a w K (Qn Q0)):False:=YQ hKd ha h
theorem akq{o:Oper}(hd:Dh o=true)(hK:∀ a w,a.defers=[]→K a w→K' (wd ds a) w)(hKd:∀ a w,a.defers≠[]→¬ K a w){a:Act}{w:World}(ha:a.defers=[])(h:o.wp P a w K (Qn Q0)) :
  o.wpIn (xW r) n P (wd ds a) w K' Q':=by
 refine⟨fun _ _=>trivial, ?_⟩
 rw[Oper.semAt_eq _ _ _ (YJ hd),LD]
 exact akD hK hKd ha h
theorem Su{Q0:Act→World→Prop}:¬ LetsOut (Qn Q0):=fun⟨_,_,h⟩=>by cases h.1
theorem uC{ops:Array Oper}:∀ (l:List Nat)(a:Act)(w:World),a.defers≠[]→¬ wpOps P ops (Qn Q0) l a w
 |[],a,w,ha,h=>ha h.2.1
 |i::l,a,w,ha,h=>by
  rw[wpOps_cons]at h
  unfold wpOp at h
  split at h
  ·exact uC l a w ha h
  ·split at h
   ·rcases h with h|h
    ·exact afm (fun a w=>uC l a w) ha h
    ·exact Su h.2
   ·exact uC l _ w (by rw[put_defers];exact ha) h
theorem Hl{ops:Array Oper}(hd:ops.toList.all Dh=true)(hQ:∀ a w,a.defers=[]→Q0 a w→Q' .normal (wd ds a) w):∀ (l:List Nat)(a:Act)(w:World),a.defers=[]→wpOps P ops (Qn Q0) l a w→wpOpsIn (xW r) n P ops Q' l (wd ds a) w
 |[],a,w,ha,h=>hQ a w ha h.2.2
 |i::l,a,w,ha,h=>by
  rw[wpOps_cons]at h
  rw[wpOpsIn_cons]
  unfold wpOp at h
  unfold wpOpIn
  cases ho:ops[i]? with
  |none=>rw[ho]at h;exact Hl hd hQ l a w ha h
  |some o =>
   rw[ho]at h
   simp only at h ⊢
   have hdo:Dh o=true:=List.all_eq_true.1 hd o (by
    have:ops.toList[i]?=some o:=by rw[Array.getElem?_toList];exact ho
    exact List.mem_of_getElem? this)
   have hy:yielded ops (wd ds a).tmps=yielded ops a.tmps:=rfl
   rw[hy]
   split at h
   ·rename_i hw
    rw[if_pos hw]
    rcases h with h|h
    ·exact akq hdo (fun a w=>Hl hd hQ l a w) (fun a w=>uC l a w) ha h
    ·exact absurd h.2 Su
   ·rename_i hw
    rw[if_neg hw]
    exact⟨fun _ _=>trivial,by rw[Bp];exact Hl hd hQ l _ w (by rw[put_defers];exact ha) h⟩
end
section
variable {P:Program} {nt:Nat} {ops:Array Oper} {M0:RM} {ρ0 ρ:Ren} {w0 w:World} {a:Act}
end
theorem dD.far{P:Program}{base:Base}{ρ:Ren}{A:AW}{w w' : World}(h:dD P base ρ A w)(hs:w.heap.size≤w'.heap.size)(hf:∀ b i,ρ b=some i→w'.heap[i.cb]?=w.heap[i.cb]?)(hl:∀ c,c<base.n→w'.heap[c]?=w.heap[c]?):dD P base ρ A w' where
 dom b i hb:=⟨(h.dom b i hb).1,Nat.lt_of_lt_of_le (h.dom b i hb).2 hs⟩
 blk b i x hb hx:=by obtain⟨o,h1,h2⟩:=h.blk b i x hb hx;exact⟨o,by rw[hf b i hb];exact h1,h2⟩
 sep:=h.sep
 top:=h.top
 lo:=h.lo
 inv:=base.low _ _ hl h.inv
theorem bu.far{P:Program}{ρ:Ren}{M:RM}{w w' : World}(h:bu P ρ M w)(hs:w.heap.size≤w'.heap.size)(hf:∀ b i,ρ b=some i→w'.heap[i.cb]?=w.heap[i.cb]?)(hl:∀ c,c<M.lo→w'.heap[c]?=w.heap[c]?):bu P ρ M w':=by
 obtain⟨A,hA⟩:=h
 refine⟨A,hA.next,hA.rel.far hs hf hl,Nat.le_trans hA.size hs,fun b x hx=>?_,hA.old⟩
 rcases hA.blk b x hx with h1|⟨c,e,hlt,elem,fr,hh⟩
 ·exact .inl h1
 ·exact .inr ⟨c,e,hlt,elem,fr,by rw[hl b hlt];exact hh⟩
theorem bu.Lc{P:Program}{ρ:Ren}{M:RM}{w:World}(h:bu P ρ M w):M.lo≤w.heap.size:=by
 obtain⟨A,hA⟩:=h;exact hA.size
def Dp(ρ:Ren)(c:Nat):Prop:=∀ b i,ρ b=some i→i.cb≠c
theorem bu.q8{P:Program}{ρ:Ren}{M:RM}{w:World}(h:bu P ρ M w){c:Nat}(hc:w.heap.size≤c):Dp ρ c:=fun b i hb e=>by
 have:=(h.lt hb).2;omega
theorem bu.putObj{P:Program}{ρ:Ren}{M:RM}{w:World}(h:bu P ρ M w){l:Nat}(o:Obj)(hn:Dp ρ l)(hl:M.lo≤l):bu P ρ M (w.putObj l o) :=
 h.far (by simp) (fun b i hb=>World.putObj_heap_other (hn b i hb)) (fun c hc=>World.putObj_heap_other (by omega))
theorem alloc_old{w:World}{o:Obj}{c:Nat}(hc:c<w.heap.size):(w.alloc o).heap[c]?=w.heap[c]?:=by
 show(w.heap.push o)[c]?=w.heap[c]?
 rw[Array.getElem?_push,if_neg (by omega)]
theorem bu.alloc{P:Program}{ρ:Ren}{M:RM}{w:World}(h:bu P ρ M w)(o:Obj):bu P ρ M (w.alloc o) :=
 h.far (by simp) (fun b i hb=>alloc_old (h.lt hb).2) (fun c hc=>alloc_old (by have:=h.Lc;omega))
theorem Step.alloc{lo n:Nat}{ρ ρ' : Ren}{w w' : World}(h:Step lo n ρ w ρ' w')(hlo:lo≤w.heap.size)(o:Obj):Step lo n ρ w ρ' (w'.alloc o) where
 os:=h.os
 tape:=h.tape
 output:=h.output
 size:=by simp only[World.size_alloc];have:=h.size;omega
 frame c hc hu:=by rw[alloc_old (by have:=h.size;omega)];exact h.frame c hc hu
 ext:=h.ext
 fresh:=h.fresh
 low c hc:=by rw[alloc_old (by have:=h.size;omega)];exact h.low c hc
theorem Step.putObj{lo n:Nat}{ρ ρ' : Ren}{w w' : World}(h:Step lo n ρ w ρ' w'){l:Nat}(hlo:lo≤w.heap.size)(hl:w.heap.size≤l)(o:Obj):Step lo n ρ w ρ' (w'.putObj l o) where
 os:=h.os
 tape:=h.tape
 output:=h.output
 size:=by simp only[World.putObj_size];exact h.size
 frame c hc hu:=by rw[World.putObj_heap_other (by omega)];exact h.frame c hc hu
 ext:=h.ext
 fresh:=h.fresh
 low c hc:=by rw[World.putObj_heap_other (by omega)];exact h.low c hc
theorem Step.turned{lo n:Nat}{ρ ρ' : Ren}{w w' : World}{l:Nat}{o o' : Obj}(hlo:lo≤l)(hw:w.heap[l]?=some o)(h:Step lo n ρ (w.putObj l o') ρ' w'):Step lo n ρ w ρ' (w'.putObj l o) where
 os:=h.os
 tape:=h.tape
 output:=h.output
 size:=by simp only[World.putObj_size];have:=h.size;simpa using this
 frame c hc hu:=by
  have hl:=(Array.getElem?_eq_some_iff.1 hw).1
  have hs:=h.size
  simp only[World.putObj_size]at hs
  by_cases e:c=l
  ·subst e;rw[World.putObj_heap_same (by omega),hw]
  ·rw[World.putObj_heap_other e,h.frame c (by simpa using hc) hu,World.putObj_heap_other e]
 ext:=h.ext
 fresh b i hb:=by
  rcases h.fresh b i hb with k|k
  ·exact .inl k
  ·exact .inr (by simpa using k)
 low c hc:=by
  rw[World.putObj_heap_other (by omega),h.low c hc,World.putObj_heap_other (by omega)]
theorem Step.q8{lo n:Nat}{ρ ρ' : Ren}{w w' : World}(h:Step lo n ρ w ρ' w'){c:Nat}(hn:Dp ρ c)(hc:c<w.heap.size):Dp ρ' c:=fun b i hb e=>by
 rcases h.fresh b i hb with⟨b0,i0,h0,e0⟩|k
 ·exact hn b0 i0 h0 (by rw[e0,e])
 ·omega
theorem Step.kept{lo n:Nat}{ρ ρ' : Ren}{w w' : World}(h:Step lo n ρ w ρ' w'){c:Nat}{o:Obj}(hn:Dp ρ c)(hc:w.heap[c]?=some o):w'.heap[c]?=some o:=by
 rw[h.frame c (Array.getElem?_eq_some_iff.1 hc).1 hn];exact hc
def vF(D:Nat):Deferred := { target:=.collected D,args := #[] }
structure uw(n0:Nat)(ρ:Ren)(w:World)(Ds:List Nat):Prop where
 nodup:Ds.Nodup
 all:∀ D∈Ds,n0≤D∧w.heap[D]?=some (.deferred (some []))∧Dp ρ D
theorem uw.step{lo n n0:Nat}{ρ ρ' : Ren}{w w' : World}{Ds:List Nat}(h:uw n0 ρ w Ds)(hs:Step lo n ρ w ρ' w'):uw n0 ρ' w' Ds :=
 ⟨h.nodup,fun D hD=>by
  obtain⟨h1,h2,h3⟩:=h.all D hD
  exact⟨h1,hs.kept h3 h2,hs.q8 h3 (Array.getElem?_eq_some_iff.1 h2).1⟩⟩
section
variable {P:Program} {nt ret:Nat}
theorem Bu{n:Nat}{fn:Func}{tmps:Array Value}{R:Ending→World→Prop}{M0 M:RM}{ρ0 ρ:Ren}{w0:World}(hlo:M0.lo≤w0.heap.size)(hres:∀ w',After P M0 ρ0 w0 M ρ w'→LeavesIn Fence.wide n P fn tmps R [] .returning w') :
  ∀ (Ds:List Nat)(w:World),uw w0.heap.size ρ w Ds→After P M0 ρ0 w0 M ρ w→LeavesInM Fence.wide n P fn tmps R (Ds.map vF) .returning w
 |[],w,_,hA=>hres w hA
 |D::Ds,w,hD,hA=>by
  obtain⟨h1,h2,h3⟩:=hD.all D (List.mem_cons_self ..)
  refine⟨by simp,.inl ⟨D,_,rfl,run_takeDeferred h2,Bu hlo hres Ds _ ⟨(List.nodup_cons.1 hD.nodup).2,fun D' hD'=>?_⟩ ⟨hA.step.putObj hlo h1 _,hA.rel.putObj _ h3 (by rw[hA.lo];omega),hA.base,hA.next⟩⟩⟩
  obtain⟨g1,g2,g3⟩:=hD.all D' (List.mem_cons_of_mem _ hD')
  refine⟨g1, ?_,g3⟩
  have hne:D'≠D:=fun e=>(List.nodup_cons.1 hD.nodup).1 (by rw[e]at hD';exact hD')
  rw[World.putObj_heap_other hne]
  exact g2
end
end Go.Ab
namespace Go.Ab.Sy
open Go Go.Ab
inductive Ky where
 |h
 |a (p:Ky)
 |b (p:Ky)
 |c (p:Ky)
 |d (p:Ky)
 deriving Inhabited
def Ky.nat:Ky→Nat
 |.h=>0
 |.a p=>4*p.nat+1
 |.b p=>4*p.nat+2
 |.c p=>4*p.nat+3
 |.d p=>4*p.nat+4
noncomputable def GG(k:Ky):Ky:=Ky.rec (motive:=fun _=>Ky) (.a .h) (fun p _=>.b p) (fun p _=>.c p) (fun p _=>.d p) (fun _ ih=>.a ih) k
noncomputable def mU(k:Ky):Ky→Bool:=Ky.rec (motive:=fun _=>Ky→Bool)
 (fun q=>Ky.casesOn q true (fun _=>false) (fun _=>false) (fun _=>false) (fun _=>false))
 (fun _ ih q=>Ky.casesOn q false ih (fun _=>false) (fun _=>false) (fun _=>false))
 (fun _ ih q=>Ky.casesOn q false (fun _=>false) ih (fun _=>false) (fun _=>false))
 (fun _ ih q=>Ky.casesOn q false (fun _=>false) (fun _=>false) ih (fun _=>false))
 (fun _ ih q=>Ky.casesOn q false (fun _=>false) (fun _=>false) (fun _=>false) ih) k
inductive Qt(α:Type) where
 |leaf
 |node (v:α) (a b c d:Qt α)
noncomputable def qm{α:Type}(z:α)(k:Ky):Qt α→α:=Ky.rec (motive:=fun _=>Qt α→α)
 (fun t=>Qt.casesOn t z (fun v _ _ _ _=>v))
 (fun _ ih t=>Qt.casesOn t z (fun _ a _ _ _=>ih a))
 (fun _ ih t=>Qt.casesOn t z (fun _ _ b _ _=>ih b))
 (fun _ ih t=>Qt.casesOn t z (fun _ _ _ c _=>ih c))
 (fun _ ih t=>Qt.casesOn t z (fun _ _ _ _ d=>ih d)) k
noncomputable def ru{α:Type}(z:α)(k:Ky):Qt α→α→Qt α:=Ky.rec (motive:=fun _=>Qt α→α→Qt α)
 (fun t x=>Qt.casesOn t (.node x .leaf .leaf .leaf .leaf) (fun _ a b c d=>.node x a b c d))
 (fun _ ih t x=>Qt.casesOn t (.node z (ih .leaf x) .leaf .leaf .leaf) (fun v a b c d=>.node v (ih a x) b c d))
 (fun _ ih t x=>Qt.casesOn t (.node z .leaf (ih .leaf x) .leaf .leaf) (fun v a b c d=>.node v a (ih b x) c d))
 (fun _ ih t x=>Qt.casesOn t (.node z .leaf .leaf (ih .leaf x) .leaf) (fun v a b c d=>.node v a b (ih c x) d))
 (fun _ ih t x=>Qt.casesOn t (.node z .leaf .leaf .leaf (ih .leaf x)) (fun v a b c d=>.node v a b c (ih d x))) k
theorem jE:∀ k q:Ky,mU k q=true↔k=q:=by
 intro k
 induction k with
 |h=>intro q;cases q<;>simp[mU]
 |a p ih=>intro q;cases q<;>simp[mU];exact ih _
 |b p ih=>intro q;cases q<;>simp[mU];exact ih _
 |c p ih=>intro q;cases q<;>simp[mU];exact ih _
 |d p ih=>intro q;cases q<;>simp[mU];exact ih _
theorem UX:∀ k:Ky,(GG k).nat=k.nat+1:=by
 intro k
 induction k with
 |h=>rfl
 |a p _=>rfl
 |b p _=>rfl
 |c p _=>rfl
 |d p ih=>show 4*(GG p).nat+1=4*p.nat+4+1;rw[ih];omega
theorem bF:∀ k q:Ky,k.nat=q.nat→k=q:=by
 intro k
 induction k with
 |h=>intro q h;cases q<;>simp[Ky.nat]at h;rfl
 |a p ih=>intro q h;cases q<;>simp only[Ky.nat]at h<;>first|omega|exact congrArg Ky.a (ih _ (by omega))
 |b p ih=>intro q h;cases q<;>simp only[Ky.nat]at h<;>first|omega|exact congrArg Ky.b (ih _ (by omega))
 |c p ih=>intro q h;cases q<;>simp only[Ky.nat]at h<;>first|omega|exact congrArg Ky.c (ih _ (by omega))
 |d p ih=>intro q h;cases q<;>simp only[Ky.nat]at h<;>first|omega|exact congrArg Ky.d (ih _ (by omega))
theorem iQ{α:Type}(z:α)(k:Ky):qm z k .leaf=z:=by cases k<;>rfl
theorem CJ{α:Type}(z x:α):∀ (k:Ky)(t:Qt α),qm z k (ru z k t x)=x:=by
 intro k
 induction k with
 |h=>intro t;cases t<;>rfl
 |a p ih=>intro t;cases t<;>exact ih _
 |b p ih=>intro t;cases t<;>exact ih _
 |c p ih=>intro t;cases t<;>exact ih _
 |d p ih=>intro t;cases t<;>exact ih _
theorem LQ{α:Type}(z x:α):∀ (k:Ky)(t:Qt α)(q:Ky),q≠k→qm z q (ru z k t x)=qm z q t:=by
 intro k
 induction k with
 |h=>intro t q h;cases t<;>cases q<;>first|rfl|exact absurd rfl h|exact iQ z _
 |a p ih=>intro t q h;cases t<;>cases q<;>first|rfl|exact ih _ _ (fun e=>h (congrArg _ e))|exact(ih _ _ (fun e=>h (congrArg _ e))).trans (iQ z _)|exact iQ z _
 |b p ih=>intro t q h;cases t<;>cases q<;>first|rfl|exact ih _ _ (fun e=>h (congrArg _ e))|exact(ih _ _ (fun e=>h (congrArg _ e))).trans (iQ z _)|exact iQ z _
 |c p ih=>intro t q h;cases t<;>cases q<;>first|rfl|exact ih _ _ (fun e=>h (congrArg _ e))|exact(ih _ _ (fun e=>h (congrArg _ e))).trans (iQ z _)|exact iQ z _
 |d p ih=>intro t q h;cases t<;>cases q<;>first|rfl|exact ih _ _ (fun e=>h (congrArg _ e))|exact(ih _ _ (fun e=>h (congrArg _ e))).trans (iQ z _)|exact iQ z _
inductive It where
 |c (n:Nat)
 |a (k:Nat)
 |t (x:List It)
 |u (lo hi:Nat)
 |q (m p:List Nat) (hs:List (List Nat×List Nat)) (b:List It)
 |r (code:Nat) (hs:List (List Nat×List Nat)) (b:List It)
abbrev SB:=List It
def mP:List Nat→List Nat→Bool
 |[],[]=>true
 |a::x,b::y=>match Nat.beq a b with
  |true=>mP x y
  |false=>false
 |_,_=>false
def Ac:List (List Nat×List Nat)→List (List Nat×List Nat)→Bool
 |[],[]=>true
 |(a,b)::x,(c,d)::y=>mP a c&&(mP b d&&Ac x y)
 |_,_=>false
mutual
def acm:It→It→Bool
 |.c a,.c b=>Nat.beq a b
 |.a a,.a b=>Nat.beq a b
 |.t a,.t b=>rO a b
 |.q m p h b,.q m' p' h' b'=>mP m m'&&(mP p p'&&(Ac h h'&&rO b b'))
 |.r m h b,.r m' h' b'=>Nat.beq m m'&&(Ac h h'&&rO b b')
 |_,_=>false
def rO:List It→List It→Bool
 |[],[]=>true
 |a::x,b::y=>match acm a b with
  |true=>rO x y
  |false=>false
 |_,_=>false
end
def iL:SB→Option (List Nat)
 |[]=>some []
 |.c n::r=>match iL r with
  |some l=>some (n::l)
  |none=>none
 |.t x::r=>none
 |_=>none
def J7:List Nat→SB
 |[]=>[]
 |n::r=>.c n::J7 r
def Zz:Nat:=100
def Db(n:Nat):Nat:=if n<128 then 1 else if n<16384 then 2 else if n<2097152 then 3 else 10
mutual
def Hy:It→Nat
 |.c _=>1
 |.a _=>0
 |.t x=>iq x+1
 |.u lo _=>lo
 |.q _ _ _ b=>iq b+20
 |.r _ _ b=>iq b+20
def iq:List It→Nat
 |[]=>0
 |i::r=>Hy i+iq r
end
mutual
def Ii:It→Nat
 |.c _=>1
 |.a _=>Zz
 |.t x=>dP x+Db (dP x)
 |.u _ hi=>hi
 |.q _ _ _ b=>dP b+3000
 |.r _ _ b=>dP b+3000
def dP:List It→Nat
 |[]=>0
 |i::r=>Ii i+dP r
end
inductive SV where
 |top
 |b (x:Bool)
 |i (k:IntKind) (n:Int)
 |iv (k:IntKind) (lo hi:Nat)
 |s (x:SB)
 |ln (x:SB)
 |ns
 |o (v:Value)
 |ptr (b:Ky) (o:Nat)
 |pw (b:Ky) (lo hi:Nat)
 |slc (b:Ky) (o len:Nat) (cap:Cap)
 |emp (b:Ky)
 |bs (b:Ky)
 |map (b:Ky)
 |fn (f:Nat) (fs cs:List SV)
 |ifc (t:Nat) (v:SV)
 |agg (l:List SV)
 |tup (l:List SV)
 deriving Inhabited
abbrev SV.undef:SV:=.tup []
def SV.cells:SV→List SV
 |.agg l=>l
 |v=>[v]
def one:SV→Bool
 |.agg _|.tup _|.top=>false
 |_=>true
def lone:List SV→Bool
 |[]=>true
 |x::r=>match one x with
  |true=>lone r
  |false=>false
inductive Bk where
 |gone
 |row (l:List SV) (opn:Bool) (el:Nat)
 |fro (l:List SV) (el:Nat)
 |byt (x:SB) (own:Bool) (el:Nat)
 |map (es:List (SV×SV×Nat)) (clock:Nat)
 |iter (m:Ky) (since:Nat) (seen:List Nat) (stepped:Nat)
inductive SH where
 |mk (next:Ky) (t:Qt Bk)
inductive XO where
 |r (j:Nat)
 |t (t:Ky)
 |k (v:SV)
 deriving Inhabited
inductive Cut where
 |mk (nx:Ky) (args:List SV) (l:List (Ky×Bk)) (outs:List (SV×Ky×List (Ky×Bk)))
inductive NC where
 |uint (el:Nat)
 |text (el:Nat)
 |ajt (t:Nat)
 |aoy (t:Nat)
 |ajv (t:Nat)
 |akj (t:Nat)
 |clone (el:Nat)
 |concat (el:Nat)
 |crc (two:Bool)
 |aao
 |ajQ (el:Nat) (tab:List (List Nat×List Nat×List (List Nat×List Nat)))
 |adS (el:Nat) (tab:List (Nat×List (List Nat×List Nat)))
 |aj0 (el eh:Nat)
 |adH (el eh:Nat)
 |total
 |afZ
 |acJ (k:IntKind)
 |Ua (k:IntKind)
 |same
 |gP
 |slow
 |fmt
 |an8
 |sum (tab:List (List Nat×List Nat))
 |get (off:Nat)
 |cut (f:Nat) (l:List Cut)
 deriving Inhabited
inductive XV where
 |mov (x:XO)
 |pick (c a b:XO)
 |ar0 (x:XO)
 |fld (x:XO) (n:Nat)
 |ed (x i:XO) (size:Nat)
 |eF (x i:XO) (len size:Nat)
 |LC (x:XO) (off:Nat)
 |K9 (x:XO) (off n:Nat)
 |gP (x i:XO)
 |Iz (x i:XO) (len:Nat)
 |K5 (x i:XO) (len size:Nat)
 |dF (x:XO) (lo hi:Option XO)
 |bI (size:Nat) (x:XO) (lo hi mx:Option XO)
 |Jy (n size:Nat) (x:XO) (lo hi:Option XO)
 |asP (n:Nat) (x:XO)
 |ext (x:XO) (i:Nat)
 |mkI (t:Nat) (x:XO)
 |mkF (f:Nat) (xs ys:List XO)
 |build (zs:List SV) (ps:List (Nat×Nat×XO))
 |int (op:BinOp) (x y:XO)
 |sh (op:BinOp) (x y:XO)
 |str (op:BinOp) (x y:XO)
 |beq (neg:Bool) (x y:XO)
 |aeq (neg:Bool) (ks:List Nat) (x y:XO)
 |req (neg:Bool) (tag:Nat) (c:Bool) (x y:XO)
 |cvt (k:IntKind) (x:XO)
 |isS (x:XO)
 |strOf (x:XO)
 |auS (x:XO)
 |ays (el cells:Nat) (x:XO)
 |len (x:XO)
 |aD9 (x:XO)
 |aBT (x:XO)
 |cap (x:XO)
 |asZ (x:XO)
 |mn (mx:Bool) (x y:XO)
 |mnL (mx:Bool) (xs:List XO)
 |not (x:XO)
 |neg (x:XO)
 |asr (x:XO)
 |lookup (a:Bool) (ks:List Nat) (z:SV) (ok:Bool) (x k:XO)
 |entry (x:XO)
 |assert (t:Nat) (ok:Bool) (x:XO)
 |au (x:XO)
 |bT (x:XO) (n:Nat)
 |aDC (size:Nat) (x:XO) (lo hi:Option XO)
 |bad
 deriving Inhabited
inductive XN where
 |alloc (zs:List SV) (t:Nat)
 |box (t:Nat) (x:XO)
 |ao9 (elem len:Nat) (zs:List SV) (ps:List (Nat×Nat×XO))
 |aon (elem bytes:Nat) (zs:List SV) (l c:XO)
 |mmap
 |bytes (el:Nat) (x:XO)
 |bad
 deriving Inhabited
inductive XF where
 |store (a x:XO) (n:Nat)
 |app (elem size bytes:Nat) (zs:List SV) (zeros:Bool) (s x:XO)
 |copy (size:Nat) (d x:XO)
 |clear (zs:List SV) (x:XO)
 |auY (el:Nat) (x n:XO)
 |call (f:Nat) (xs:List XO)
 |nat (c:NC) (xs:List XO)
 |Uk (f:XO) (xs:List XO)
 |apK (x:XO)
 |asj (x:XO)
 |avd (a:Bool) (ks:List Nat) (m k v:XO)
 |aBJ (a:Bool) (ks:List Nat) (m k:XO)
 |mark (x:XO)
 |bad
 deriving Inhabited
inductive Wp where
 |v (o:XV)
 |n (o:XN)
 |f (o:XF)
 deriving Inhabited
def Er:AV→SV
 |.sc (.bool b)=>.b b
 |.sc (.int k n)=>.i k n
 |.sc (.string s)=>.s (s.data.toList.map fun b=>.c b.toNat)
 |.sc (.slice none 0 0)=>.ns
 |.sc v=>.o v
 |.agg cs=>.agg (cs.map fun c=>match c with
  |.sc (.bool b)=>.b b
  |.sc (.int k n)=>.i k n
  |.sc (.string s)=>.s (s.data.toList.map fun b=>.c b.toNat)
  |.sc (.slice none 0 0)=>.ns
  |.sc v=>.o v
  |_=>.top)
 |.tup []=>.undef
 |_=>.top
def kS(v:Value):SV:=match gy v with
 |some a=>Er a
 |none=>.top
def Ve(P:Program)(t:Nat):Option (List SV):=match gZ P t with
 |some l=>match lone (l.map Er)with
  |true=>some (l.map Er)
  |false=>none
 |none=>none
def cV(P:Program)(o:Oper)(e:Operand→XO):XV :=
 match o.op with
 |.move x|.assign x=>.mov (e x)
 |.pick c a b=>.pick (e c) (e a) (e b)
 |.nilCheck x=>.ar0 (e x)
 |.fieldAddr s x f=>match P.underlying s with
  |some (.struct fields)=>match fields[f]? with
   |some fd=>match aL P fd.type with
    |some (_+1)=>.fld (e x) fd.offset
    |_=>.bad
   |none=>.bad
  |_=>.bad
 |.indexAddr t x ix=>match P.underlying t with
  |some (.slice elem)=>match aL P elem with
   |some size=>.ed (e x) (e ix) size
   |none=>.bad
  |some (.array len elem)=>match aL P elem with
   |some size=>.eF (e x) (e ix) len size
   |none=>.bad
  |_=>.bad
 |.field t x f=>match P.underlying t with
  |some (.struct fields)=>match fields[f]? with
   |some fd=>match bK P fd.type with
    |some false=>.LC (e x) fd.offset
    |some true=>match aL P fd.type with
     |some n=>.K9 (e x) fd.offset n
     |none=>.bad
    |none=>.bad
   |none=>.bad
  |_=>.bad
 |.index t x ix=>match P.underlying t with
  |some .string=>.gP (e x) (e ix)
  |some (.array len elem)=>match bK P elem with
   |some false=>match aL P elem with
    |some 1=>.Iz (e x) (e ix) len
    |_=>.bad
   |some true=>match aL P elem with
    |some n=>.K5 (e x) (e ix) len n
    |none=>.bad
   |none=>.bad
  |_=>.bad
 |.slice t x lo hi mx=>match P.underlying t with
  |some .string=>match mx with
   |none=>.dF (e x) (lo.map e) (hi.map e)
   |some _=>.bad
  |some (.slice elem)=>match aL P elem with
   |some size=>.bI size (e x) (lo.map e) (hi.map e) (mx.map e)
   |none=>.bad
  |some (.array n elem)=>match aL P elem,mx with
   |some size,none=>.Jy n size (e x) (lo.map e) (hi.map e)
   |_,_=>.bad
  |_=>.bad
 |.sliceToArrayPointer arr x=>match P.underlying arr with
  |some (.array n _)=>.asP n (e x)
  |_=>.bad
 |.extract x i=>.ext (e x) i
 |.makeInterface t x=>match P.underlying t with
  |some (.interface _)=>.bad
  |some _=>.mkI t (e x)
  |none=>.bad
 |.makeFunc f first captured=>match f with
  |.func g=>.mkF g (first.toList.map e) (captured.toList.map e)
  |_=>.bad
 |.build t parts=>match P.info? t,P.underlying t with
  |some it,some (.array _ el)=>match it.zero,P.info? el with
   |some z,some ie=>match gy z with
    |some (.agg cs)=>.build (cs.map Er) (parts.toList.map fun p=>(p.1*ie.size,ie.size,e p.2))
    |_=>.bad
   |_,_=>.bad
  |some it,some (.struct fields)=>match it.zero,fields.toList.mapM (fun f=>(P.info? f.type).map fun i=>(f.offset,i.size))with
   |some z,some places=>match gy z,bW (fun(p:Nat×Operand)=>match nth places p.1 with|some pl=>some (pl.1,pl.2,e p.2)|none=>none) parts.toList with
    |some (.agg cs),some ps=>.build (cs.map Er) ps
    |_,_=>.bad
   |_,_=>.bad
  |_,_=>.bad
 |.binOp op t x y _=>match P.underlying t with
  |some (.int _)=>match op with
   |.shl|.shr=>.sh op (e x) (e y)
   |_=>.int op (e x) (e y)
  |some .string=>.str op (e x) (e y)
  |some .bool=>match op with
   |.eql=>.beq false (e x) (e y)
   |.neq=>.beq true (e x) (e y)
   |_=>.bad
  |some (.struct _)=>match PI P t,op with
   |some ks,.eql=>.aeq false ks (e x) (e y)
   |some ks,.neq=>.aeq true ks (e x) (e y)
   |_,_=>.bad
  |some (.array _ _)=>.bad
  |_=>match op,xL P t with
   |_,0=>.bad
   |.eql,tag=>.req false tag (Nat.beq tag 5&&isC y) (e x) (e y)
   |.neq,tag=>.req true tag (Nat.beq tag 5&&isC y) (e x) (e y)
   |_,_=>.bad
 |.convert src dst x=>match P.underlying src,P.underlying dst with
  |some (.int _),some (.int k)=>.cvt k (e x)
  |some .string,some .string=>.isS (e x)
  |some (.slice el),some .string=>match P.underlying el with
   |some (.int .u8)=>.strOf (e x)
   |_=>.bad
  |some (.pointer t),some .unsafePointer=>match aL P t with
   |some (_+1)=>.auS (e x)
   |_=>.bad
  |some .unsafePointer,some (.pointer u)=>match aL P u,Nat.ble 1 (P.cellsOf u),liesAt P P.depth u 1 0 u 1 with
   |some (_+1),true,true=>.ays u (P.cellsOf u) (e x)
   |_,_,_=>.bad
  |_,_=>.bad
 |.call { callee:=.builtin .len,args,argTypes } => match argTypes[0]?,args[0]? with
  |some t,some x=>match P.underlying t with
   |some (.slice _)=>.len (e x)
   |some .string=>.aD9 (e x)
   |some (.map _ _)=>.aBT (e x)
   |_=>.bad
  |_,_=>.bad
 |.call { callee:=.builtin .cap,args,argTypes } => match argTypes[0]?,args[0]? with
  |some t,some x=>match P.underlying t with
   |some (.slice _)=>.cap (e x)
   |_=>.bad
  |_,_=>.bad
 |.call { callee:=.builtin .unsafeSliceData,args,.. } => match args with
  |⟨[x]⟩=>.asZ (e x)
  |_=>.bad
 |.call { callee:=.builtin .min,args,.. } => match args with
  |⟨[x,y]⟩=>.mn false (e x) (e y)
  |xs=>.mnL false (xs.toList.map e)
 |.call { callee:=.builtin .max,args,.. } => match args with
  |⟨[x,y]⟩=>.mn true (e x) (e y)
  |xs=>.mnL true (xs.toList.map e)
 |.unOp op _ x=>match op with
  |.not=>.not (e x)
  |.neg=>.neg (e x)
  |.xor=>.asr (e x)
  |_=>.bad
 |.lookup t x k ok=>match P.underlying t with
  |some (.map kt et)=>match il P 10 kt,bK P kt,Ug P et with
   |some ks,some a,some z=>.lookup a ks (Er z) ok (e x) (e k)
   |_,_,_=>.bad
  |_=>.bad
 |.entry it=>.entry (e it)
 |.typeAssert x _ t ok=>match P.underlying t with
  |some (.interface _)=>.bad
  |some _=>.assert t ok (e x)
  |none=>.bad
 |.load t x=>match bK P t with
  |some false=>.au (e x)
  |some true=>match aL P t with
   |some n=>.bT (e x) n
   |none=>.bad
  |none=>.bad
 |_=>.bad
def cN(P:Program)(o:Oper)(e:Operand→XO):XN :=
 match o.op with
 |.alloc t=>match Ve P t with
  |some zs=>match Nat.ble 1 zs.length with
   |true=>.alloc zs t
   |false=>.bad
  |none=>.bad
 |.box t x=>.box t (e x)
 |.buildSlice t len parts=>match P.underlying t with
  |some (.slice elem)=>match aL P elem,Ve P elem with
   |some size,some zs=>match Nat.ble 1 size,Nat.beq zs.length size,Nat.ble (len*size) 10000 with
    |true,true,true=>.ao9 elem len zs (parts.toList.map fun p=>(p.1*size,size,e p.2))
    |_,_,_=>.bad
   |_,_=>.bad
  |_=>.bad
 |.makeSlice t l c=>match P.underlying t with
  |some (.slice elem)=>match aL P elem,uD P elem,Ve P elem with
   |some size,some bytes,some zs=>match Nat.ble 1 size,Nat.beq zs.length size with
    |true,true=>.aon elem bytes zs (e l) (e c)
    |_,_=>.bad
   |_,_,_=>.bad
  |_=>.bad
 |.makeMap t r=>match r with
  |none=>.mmap
  |some _=>.bad
 |.convert src dst x=>match P.underlying src,P.underlying dst with
  |some .string,some (.slice el)=>match P.underlying el,aL P el with
   |some (.int .u8),some 1=>.bytes el (e x)
   |_,_=>.bad
  |_,_=>.bad
 |_=>.bad
def cE(P:Program)(N:Nat→Option NC)(o:Oper)(e:Operand→XO):XF :=
 match o.op with
 |.store t a x=>match aL P t with
  |some n=>.store (e a) (e x) n
  |none=>.bad
 |.call { callee:=.builtin .append,args,argTypes } => match argTypes[0]?,args with
  |some t,⟨[s,x]⟩=>match P.underlying t,lJ P argTypes with
   |some (.slice elem),some zeros=>match aL P elem,uD P elem,Ve P elem with
    |some size,some bytes,some zs=>match Nat.ble 1 size,Nat.beq zs.length size with
     |true,true=>.app elem size bytes zs zeros (e s) (e x)
     |_,_=>.bad
    |_,_,_=>.bad
   |_,_=>.bad
  |_,_=>.bad
 |.call { callee:=.builtin .copy,args,argTypes } => match argTypes[0]?,args with
  |some t,⟨[s,x]⟩=>match P.underlying t with
   |some (.slice elem)=>match aL P elem with
    |some size=>.copy size (e s) (e x)
    |none=>.bad
   |_=>.bad
  |_,_=>.bad
 |.call { callee:=.builtin .clear,args,argTypes } => match argTypes[0]?,args with
  |some t,⟨[x]⟩=>match P.underlying t with
   |some (.slice elem)=>match aL P elem,Ve P elem with
    |some size,some zs=>match Nat.ble 1 size,Nat.beq zs.length size with
     |true,true=>.clear zs (e x)
     |_,_=>.bad
    |_,_=>.bad
   |_=>.bad
  |_,_=>.bad
 |.call { callee:=.builtin .unsafeString,args,argTypes } => match argTypes[0]?,args with
  |some t,⟨[x,n]⟩=>match P.underlying t with
   |some (.pointer el)=>match P.underlying el,Nat.beq (P.cellsOf el) 1 with
    |some (.int .u8),true=>.auY el (e x) (e n)
    |_,_=>.bad
   |_=>.bad
  |_,_=>.bad
 |.call { callee:=.value (.func g),args,.. } => match N g with
  |some c=>.nat c (args.toList.map e)
  |none=>.call g (args.toList.map e)
 |.call { callee:=.value f,args,.. } => .Uk (e f) (args.toList.map e)
 |.next it false=>.asj (e it)
 |.range t x=>match P.underlying t with
  |some (.map _ _)=>.apK (e x)
  |_=>.bad
 |.mapUpdate t m k x=>match P.underlying t with
  |some (.map kt _)=>match il P 10 kt,bK P kt with
   |some ks,some a=>.avd a ks (e m) (e k) (e x)
   |_,_=>.bad
  |_=>.bad
 |.call { callee:=.builtin .delete,args,argTypes } => match argTypes[0]?,args with
  |some t,⟨[m,k]⟩=>match P.underlying t with
   |some (.map kt _)=>match il P 10 kt,bK P kt with
    |some ks,some a=>.aBJ a ks (e m) (e k)
    |_,_=>.bad
   |_=>.bad
  |_,_=>.bad
 |.convert src dst x=>match Nat.beq src dst,P.underlying src with
  |true,some (.slice el)=>match P.underlying el with
   |some (.int .u8)=>.mark (e x)
   |_=>.bad
  |_,_=>.bad
 |_=>.bad
def cVp(P:Program)(o:Oper)(e:Operand→XO):XV :=
 match o.op with
 |.slice t x lo hi none=>match P.underlying t with
  |some (.slice elem)=>match aL P elem with
   |some size=>.aDC size (e x) (lo.map e) (hi.map e)
   |none=>.bad
  |_=>cV P o e
 |_=>cV P o e
def cO(P:Program)(N:Nat→Option NC)(o:Oper)(e:Operand→XO):Wp :=
 match kindOf P o with
 |.pure|.read=>.v (cVp P o e)
 |.alloc=>.n (cN P o e)
 |.nS=>.f (cE P N o e)
inductive XG where
 |no
 |g (x:XO) (want:Bool)
 deriving Inhabited
inductive XR where
 |v (g:XG) (o:XV)
 |n (g:XG) (o:XN)
inductive XQ where
 |v (g:XG) (o:XV) (k:Nat)
 |n (g:XG) (o:XN) (k:Nat)
inductive yG where
 |fin (non:List XR)
 |nS (non:List XR) (g:XG) (o:XF) (re:List XQ)
inductive XS where
 |w (o:Wp) (g:XG) (d:Ky)
 |x (o:Wp) (g:XG)
inductive XC where
 |skip
 |ops (l:List XS)
 |draw (l:List yG) (fin:List (Ky×Nat))
 |seq (a b:XC)
 |cond (x:XO) (a b:XC)
 |block (id:Nat) (c:XC)
 |loop (c:XC)
 |range (x:XO) (p:Option Ky) (a b:XC)
 |exit (id:Nat)
 |ret
 |bad
 deriving Inhabited
def QQ(U:Tree Ky)(t:Nat):XO:=match U.get t with
 |some k=>.t k
 |none=>.k .top
def yF(U:Tree Ky):Operand→XO
 |.tmp t=>QQ U t
 |.const v=>.k (kS v)
 |.global g=>.k .top
 |.func f=>.k (.fn f [] [])
def rD(j:Nat):List Nat→Nat→Option Nat
 |[],_=>none
 |a::r,k=>match Nat.beq a j with
  |true=>some k
  |false=>rD j r (Nat.succ k)
def xoI(j:Nat)(ord:List Nat):XO:=match rD j ord 0 with
 |some k=>.r k
 |none=>.k .top
def Jf(U:Tree Ky)(wr:Tree Nat)(m:Nat)(ord:List Nat):Operand→XO
 |.tmp t=>match wr.get t with
  |some j=>match Nat.testBit m j with
   |true=>xoI j ord
   |false=>QQ U t
  |none=>QQ U t
 |x=>yF U x
def abq(P:Program)(N:Nat→Option NC)(U:Tree Ky)(nt:Nat)(ops:Array Oper):List Oper→Option (List XS)
 |[]=>some []
 |o::rest=>match (match o.guard with
    |none=>some XG.no
    |some (j,want)=>match (ops[j]?).bind (·.dst)with
     |none=>none
     |some d=>some (XG.g (QQ U d) want))with
  |none=>none
  |some g=>match abq P N U nt ops rest with
   |none=>none
   |some r=>match o.dst with
    |none=>some (.x (cO P N o (yF U)) g::r)
    |some d=>match Nat.blt d nt with
     |true=>match U.get d with
      |some k=>some (.w (cO P N o (yF U)) g k::r)
      |none=>some (.x (cO P N o (yF U)) g::r)
     |false=>none
def cG(ops:Array Oper)(wr:Tree Nat)(ord:List Nat)(r:Row):Option XG :=
 match r.o.guard with
 |none=>some .no
 |some (j,want)=>match (ops[j]?).bind (·.dst)with
  |none=>none
  |some d=>match Nat.testBit r.m j,wr.get d with
   |true,some j'=>match Nat.beq j' j with
    |true=>some (.g (xoI j ord) want)
    |false=>none
   |_,_=>none
def aql(P:Program)(ops:Array Oper)(U:Tree Ky)(wr:Tree Nat)(ord:List Nat)(r:Row):Option XR :=
 match cG ops wr ord r with
 |none=>none
 |some g=>match r.kd with
  |.pure|.read=>some (.v g (cV P r.o (Jf U wr r.m ord)))
  |.alloc=>some (.n g (cN P r.o (Jf U wr r.m ord)))
  |.nS=>none
def cQ(P:Program)(ops:Array Oper)(U:Tree Ky)(wr:Tree Nat)(ord:List Nat)(r:Row):Option XQ :=
 match cG ops wr ord r,rD r.i ord 0 with
 |some g,some k=>match r.kd with
  |.read=>some (.v g (cV P r.o (Jf U wr r.m ord)) k)
  |.alloc=>some (.n g (cN P r.o (Jf U wr r.m ord)) k)
  |_=>none
 |_,_=>none
def NM(P:Program)(ops:Array Oper)(U:Tree Ky)(wr:Tree Nat)(lev:Nat):List Row→List Nat→Option (List XR×List Nat)
 |[],ord=>some ([],ord)
 |r::rest,ord=>match Nat.beq r.lev lev && !mg r.kd with
  |false=>NM P ops U wr lev rest ord
  |true=>match aql P ops U wr ord r,NM P ops U wr lev rest (r.i::ord)with
   |some x,some (xs,ma)=>some (x::xs,ma)
   |_,_=>none
def ML(P:Program)(ops:Array Oper)(U:Tree Ky)(ri:RI)(lev:Nat)(ord:List Nat):List Row→Option (List XQ)
 |[]=>some []
 |r::rest=>match Nat.ble r.lev lev && !mg r.kd&&kV ri.ms ri.es (lev+1) r with
  |false=>ML P ops U ri lev ord rest
  |true=>match r.kd with
   |.pure|.nS=>ML P ops U ri lev ord rest
   |_=>match cQ P ops U ri.wr ord r,ML P ops U ri lev ord rest with
    |some x,some xs=>some (x::xs)
    |_,_=>none
def WR(U:Tree Ky)(ord:List Nat):List Row→Option (List (Ky×Nat))
 |[]=>some []
 |r::rest=>match WR U ord rest with
  |none=>none
  |some l=>match r.o.dst with
   |none=>some l
   |some d=>match U.get d with
    |none=>some l
    |some k=>match rD r.i ord 0 with
     |some i=>some ((k,i)::l)
     |none=>none
def Fy(P:Program)(N:Nat→Option NC)(ops:Array Oper)(U:Tree Ky)(ri:RI):Nat→List Nat→List Nat→Option (List yG×List Nat)
 |lev,[],ord=>match NM P ops U ri.wr lev ri.rows ord with
  |none=>none
  |some (non,ma)=>some ([.fin non],ma)
 |lev,x::rest,ord=>match NM P ops U ri.wr lev ri.rows ord with
  |none=>none
  |some (non,ma)=>match nth ri.rows x with
   |none=>none
   |some r=>match cG ops ri.wr ma r,ML P ops U ri lev (x::ma) ri.rows,Fy P N ops U ri (lev+1) rest (x::ma)with
    |some g,some re,some (more,ahx)=>some (.nS non g (cE P N r.o (Jf U ri.wr r.m ma)) re::more,ahx)
    |_,_,_=>none termination_by structural _ es=>es
def Ox(P:Program)(N:Nat→Option NC)(U:Tree Ky)(nt:Nat)(ops:Array Oper):XC :=
 match uG P nt ops with
 |none=>.bad
 |some ri=>match ri.rows.all (Fq ri)with
  |false=>.bad
  |true=>match Fy P N ops U ri 0 ri.es []with
   |none=>.bad
   |some (l,ord)=>match WR U ord ri.rows with
    |some fin=>.draw l fin
    |none=>.bad
def auQ(o:Oper):Bool:=match o.op with
 |.defer _=>false
 |_=>true
def TQ:List Oper→Bool
 |[]=>true
 |o::r=>match auQ o with
  |true=>TQ r
  |false=>false
def cC(P:Program)(N:Nat→Option NC)(U:Tree Ky)(nt:Nat):Bool→Code→XC
 |_,.skip=>.skip
 |_,.region _ ops d=>match TQ ops.toList with
  |true=>match d with
   |true=>Ox P N U nt ops
   |false=>match abq P N U nt ops ops.toList with
    |some l=>.ops l
    |none=>.bad
  |false=>.bad
 |rg,.seq a b=>.seq (cC P N U nt rg a) (cC P N U nt rg b)
 |rg,.cond c a b=>.cond (yF U c) (cC P N U nt rg a) (cC P N U nt rg b)
 |rg,.block id c=>.block id (cC P N U nt rg c)
 |rg,.loop c=>.loop (cC P N U nt rg c)
 |rg,.rangeFunc g ps assign body=>match rg,ps.toList with
  |true,[p]=>match Nat.blt p nt with
   |true=>.range (yF U g) (U.get p) (cC P N U nt false assign) (cC P N U nt false body)
   |false=>.bad
  |_,_=>.bad
 |_,.exit id=>.exit id
 |_,.ret=>.ret
 |_,.scope _|_,.label _|_,.goto _|_,.refuse _=>.bad
def ahk(x:Operand)(acc:List Nat):List Nat:=match x with
 |.tmp t=>t::acc
 |_=>acc
def akp:List Operand→List Nat→List Nat
 |[],acc=>acc
 |x::r,acc=>ahk x (akp r acc)
def Ut(ops:Array Oper):List Oper→List Nat→List Nat
 |[],acc=>acc
 |o::r,acc=>akp o.op.operands.toList (match o.guard with
  |none=>Ut ops r acc
  |some (j,_)=>match (ops[j]?).bind (·.dst)with
   |some d=>d::Ut ops r acc
   |none=>Ut ops r acc)
def outT(wr:Tree Nat)(m:Nat):List Operand→List Nat→List Nat
 |[],acc=>acc
 |.tmp t::r,acc=>match wr.get t with
  |some j=>match Nat.testBit m j with
   |true=>outT wr m r acc
   |false=>t::outT wr m r acc
  |none=>t::outT wr m r acc
 |_::r,acc=>outT wr m r acc
def ajG(wr:Tree Nat):List Oper→List Nat→List Nat→List Nat
 |o::os,m::ms,acc=>outT wr m o.op.operands.toList (ajG wr os ms acc)
 |_,_,acc=>acc
def wK:Code→List Nat→List Nat
 |.region _ ops false,acc=>Ut ops ops.toList acc
 |.region _ ops true,acc=>ajG (Ww ops.toList 0 .leaf) ops.toList (ja ops.toList []) acc
 |.seq a b,acc=>wK a (wK b acc)
 |.cond c a b,acc=>ahk c (wK a (wK b acc))
 |.block _ c,acc=>wK c acc
 |.loop c,acc=>wK c acc
 |.rangeFunc g _ a b,acc=>ahk g (wK a (wK b acc))
 |_,acc=>acc
noncomputable def Gx:List Nat→Ky→Tree Ky→Tree Ky
 |[],_,U=>U
 |t::r,k,U=>match U.get t with
  |some _=>Gx r k U
  |none=>Gx r (GG k) (U.set t k)
inductive zJ where
 |mk (nt:Nat) (args:List (Option Ky)) (body:XC) (res:List (Ky×Option Nat))
def abe:List ResultVar→List Nat
 |[]=>[]
 |.tmp t::r=>t::abe r
 |.cell a _::r=>a::abe r
def VI(P:Program)(U:Tree Ky):List ResultVar→Option (List (Ky×Option Nat))
 |[]=>some []
 |r::rest=>match VI P U rest with
  |none=>none
  |some l=>match r with
   |.tmp t=>match U.get t with
    |some k=>some ((k,none)::l)
    |none=>none
   |.cell a t=>match U.get a,bK P t,aL P t with
    |some k,some false,_=>some ((k,some 0)::l)
    |some k,some true,some (n+1)=>some ((k,some (n+1))::l)
    |_,_,_=>none
def Cy(U:Tree Ky):Nat→Nat→List (Option Ky)
 |0,_=>[]
 |n+1,i=>U.get i::Cy U n (i+1)
noncomputable def cFU(P:Program)(N:Nat→Option NC)(fn:Func)(c:Code)(U:Tree Ky):Option zJ :=
 match VI P U fn.results.toList with
 |none=>none
 |some res=>some (.mk fn.ntmps (Cy U (fn.params.size+fn.nfree) 0) (cC P N U fn.ntmps true c) res)
noncomputable def cF(P:Program)(N:Nat→Option NC)(f:Nat):Option zJ :=
 match P.funcs[f]? with
 |none=>none
 |some fn=>match fn.body with
  |none=>none
  |some c=>cFU P N fn c (Gx (abe fn.results.toList++wK c []) .h .leaf)
abbrev KV:=SV→Bool
abbrev KS:=SV→SH→Bool
abbrev aI:=Nat→List SV→SH→KS→Bool
abbrev TS:=Qt SV
abbrev VS:=List SV
def SH.nx:SH→Ky|.mk n _=>n
noncomputable def hget(H:SH)(b:Ky):Bk:=match H with|.mk _ t=>qm .gone b t
noncomputable def hput(H:SH)(b:Ky)(x:Bk):SH:=match H with|.mk n t=>.mk n (ru .gone b t x)
noncomputable def hpush(H:SH)(x:Bk):SH:=match H with|.mk n t=>.mk (GG n) (ru .gone n t x)
noncomputable def Kj(k:Nat):VS→SV:=Nat.rec (motive:=fun _=>VS→SV) (fun l=>List.casesOn l .top fun v _=>v) (fun _ ih l=>List.casesOn l .top fun _ r=>ih r) k
noncomputable def evR(k:Nat)(V:VS)(T:TS):SV:=Kj k V
noncomputable def evT(k:Ky)(V:VS)(T:TS):SV:=qm .top k T
def evK(v:SV)(V:VS)(T:TS):SV:=v
noncomputable def ev(x:XO):VS→TS→SV:=XO.rec (motive:=fun _=>VS→TS→SV) evR evT evK x
def lim:IntKind→Nat
 |.i8=>128
 |.i16=>32768
 |.i32=>2147483648
 |.i64=>9223372036854775808
 |.u8=>256
 |.u16=>65536
 |.u32=>4294967296
 |.u64=>18446744073709551616
def aq7:IntKind→Nat
 |.i8=>0|.i16=>1|.i32=>2|.i64=>3|.u8=>4|.u16=>5|.u32=>6|.u64=>7
def Df(a b:IntKind):Bool:=Nat.beq (aq7 a) (aq7 b)
def uns:IntKind→Bool
 |.u8|.u16|.u32|.u64=>true
 |_=>false
def nJ(k:IntKind)(n:Int):Int :=
 match n with
 |.ofNat m=>match Nat.blt m (lim k)with
  |true=>.ofNat m
  |false=>k.wrap (.ofNat m)
 |.negSucc m=>k.wrap (.negSucc m)
def DC:Int→Int→Bool
 |.ofNat a,.ofNat b=>Nat.beq a b
 |.negSucc a,.negSucc b=>Nat.beq a b
 |_,_=>false
def SE:Int→Int→Bool
 |.ofNat a,.ofNat b=>Nat.blt a b
 |.negSucc a,.negSucc b=>Nat.blt b a
 |.negSucc _,.ofNat _=>true
 |.ofNat _,.negSucc _=>false
abbrev IF:=IntKind→Int→Int→KV→Bool
def aqg:IF:=fun k a b K=>match a,b with
 |.ofNat m,.ofNat n=>K (.i k (nJ k (.ofNat (Nat.add m n))))
 |_,_=>K (.i k (nJ k (Int.add a b)))
def amN:IF:=fun k a b K=>match a,b with
 |.ofNat m,.ofNat n=>match Nat.ble n m with
  |true=>K (.i k (nJ k (.ofNat (Nat.sub m n))))
  |false=>K (.i k (nJ k (Int.sub a b)))
 |_,_=>K (.i k (nJ k (Int.sub a b)))
def anu:IF:=fun k a b K=>K (.i k (nJ k (Int.mul a b)))
def amt:IF:=fun k a b K=>match DC b 0 with
 |true=>false
 |false=>K (.i k (nJ k (a.tdiv b)))
def aqW:IF:=fun k a b K=>match DC b 0 with
 |true=>false
 |false=>K (.i k (a.tmod b))
def KI(f:Nat→Nat→Nat)(g:IntKind→Int→Int→Int):IF:=fun k a b K=>match a,b with
 |.ofNat m,.ofNat n=>match Nat.blt m (lim k),Nat.blt n (lim k)with
  |true,true=>K (.i k (.ofNat (f m n)))
  |_,_=>K (.i k (g k a b))
 |_,_=>K (.i k (g k a b))
def aBq:IF:=KI Nat.land fun k a b=>k.wrap (BitVec.ofInt k.bits a &&& BitVec.ofInt k.bits b).toNat
def iOr:IF:=KI Nat.lor fun k a b=>k.wrap (BitVec.ofInt k.bits a ||| BitVec.ofInt k.bits b).toNat
def awp:IF:=KI Nat.xor fun k a b=>k.wrap (BitVec.ofInt k.bits a ^^^ BitVec.ofInt k.bits b).toNat
def akV:IF:=fun k a b K=>K (.i k (k.wrap (BitVec.ofInt k.bits a &&& ~~~BitVec.ofInt k.bits b).toNat))
def anh:IF:=fun _ a b K=>K (.b (DC a b))
def amX:IF:=fun _ a b K=>K (.b (not (DC a b)))
def apQ:IF:=fun _ a b K=>K (.b (SE a b))
def aqf:IF:=fun _ a b K=>K (.b (not (SE b a)))
def an3:IF:=fun _ a b K=>K (.b (SE b a))
def anC:IF:=fun _ a b K=>K (.b (not (SE a b)))
def awm:IF:=fun _ _ _ _=>false
def vK(op:BinOp):IF:=match op with
 |.add=>aqg|.sub=>amN|.mul=>anu|.quo=>amt|.rem=>aqW|.and=>aBq|.or=>iOr|.xor=>awp|.andNot=>akV
 |.eql=>anh|.neq=>amX|.lss=>apQ|.leq=>aqf|.gtr=>an3|.geq=>anC|_=>awm
def Cc:SV→Option (IntKind×Nat×Nat)
 |.i k (.ofNat n)=>some (k,n,n)
 |.iv k lo hi=>some (k,lo,hi)
 |.ln x=>some (.i64,iq x,dP x)
 |_=>none
def full(k:IntKind)(K:KV):Bool:=match uns k with
 |true=>K (.iv k 0 (Nat.pred (lim k)))
 |false=>false
def FL(k:IntKind)(lo hi:Nat)(K:KV):Bool:=match Nat.blt hi (lim k)with
 |true=>K (.iv k lo hi)
 |false=>full k K
def ways(t f:Bool)(K:KV):Bool:=match t with
 |true=>K (.b true)
 |false=>match f with
  |true=>K (.b false)
  |false=>match K (.b true)with
   |true=>K (.b false)
   |false=>false
abbrev VF:=IntKind→Nat→Nat→Nat→Nat→KV→Bool
def Wi(op:BinOp):VF:=match op with
 |.add=>fun k a b c d K=>FL k (Nat.add a c) (Nat.add b d) K
 |.sub=>fun k a b c d K=>match Nat.ble d a with
  |true=>FL k (Nat.sub a d) (Nat.sub b c) K
  |false=>false
 |.rem=>fun k a b c d K=>match Nat.ble 1 c with
  |true=>K (.iv k 0 (Nat.pred d))
  |false=>false
 |.quo=>fun k a b c d K=>match Nat.ble 1 c with
  |true=>FL k (Nat.div a d) (Nat.div b c) K
  |false=>false
 |.or=>fun k a b c d K=>full k K
 |.lss=>fun k a b c d K=>ways (Nat.blt b c) (Nat.ble d a) K
 |.leq=>fun k a b c d K=>ways (Nat.ble b c) (Nat.blt d a) K
 |.gtr=>fun k a b c d K=>ways (Nat.blt d a) (Nat.ble b c) K
 |.geq=>fun k a b c d K=>ways (Nat.ble d a) (Nat.blt b c) K
 |.eql=>fun k a b c d K=>ways false (or (Nat.blt b c) (Nat.blt d a)) K
 |.neq=>fun k a b c d K=>ways (or (Nat.blt b c) (Nat.blt d a)) false K
 |_=>fun _ _ _ _ _ _=>false
def Xb(op:BinOp)(K:KV):Bool:=match op with
 |.eql|.leq|.geq=>K (.b true)
 |.neq|.lss|.gtr=>K (.b false)
 |.sub=>K (.i .i64 0)
 |_=>false
def wide(op:BinOp)(x y:SV)(K:KV):Bool:=match Cc x,Cc y with
 |some (k,a,b),some (l,c,d)=>match Df k l with
  |true=>Wi op k a b c d K
  |false=>false
 |_,_=>false
noncomputable def aiI(op:BinOp)(x y:XO)(V:VS)(T:TS)(H:SH)(K:KV):Bool :=
 match ev x V T,ev y V T with
 |.i k a,.i l b=>match Df k l with
  |true=>vK op k a b K
  |false=>false
 |.ln a,.ln b=>match rO a b with
  |true=>Xb op K
  |false=>wide op (.ln a) (.ln b) K
 |x,y=>wide op x y K
noncomputable def vSh(op:BinOp)(x y:XO)(V:VS)(T:TS)(H:SH)(K:KV):Bool :=
 match ev x V T,ev y V T with
 |.i k a,.i _ (.ofNat b)=>match op with
  |.shl=>K (.i k (nJ k (Int.mul a (2^(Nat.min b k.bits)))))
  |.shr=>match a with
   |.ofNat m=>K (.i k (.ofNat (Nat.shiftRight m (Nat.min b k.bits))))
   |_=>K (.i k (a.fdiv (2^(Nat.min b k.bits))))
  |_=>false
 |.iv k lo hi,.i _ (.ofNat b)=>match op with
  |.shr=>K (.iv k (Nat.shiftRight lo (Nat.min b k.bits)) (Nat.shiftRight hi (Nat.min b k.bits)))
  |_=>false
 |.i k _,.iv _ _ _=>match op with
  |.shl=>full k K
  |_=>false
 |_,_=>false
noncomputable def ahP(k:IntKind)(x:XO)(V:VS)(T:TS)(H:SH)(K:KV):Bool :=
 match ev x V T with
 |.i _ n=>K (.i k (nJ k n))
 |.iv _ lo hi=>FL k lo hi K
 |.ln x=>match k with
  |.i64=>match Nat.blt (dP x) 9223372036854775808 with
   |true=>K (.ln x)
   |false=>false
  |k=>FL k (iq x) (dP x) K
 |_=>false
def Io(k:IntKind)(lo hi:Nat):SV:=match Nat.beq lo hi with
 |true=>.i k (.ofNat lo)
 |false=>.iv k lo hi
def iMn(mx:Bool)(a b:Int):Int:=match mx with
 |true=>match SE a b with
  |true=>b
  |false=>a
 |false=>match SE b a with
  |true=>b
  |false=>a
def mn2(mx:Bool)(x y:SV)(K:KV):Bool :=
 match x,y with
 |.i k a,.i l b=>match Df k l with
  |true=>K (.i k (iMn mx a b))
  |false=>false
 |x,y=>match Cc x,Cc y with
  |some (k,a,b),some (l,c,d)=>match Df k l,mx with
   |true,true=>K (Io k (Nat.max a c) (Nat.max b d))
   |true,false=>K (Io k (Nat.min a c) (Nat.min b d))
   |_,_=>false
  |_,_=>false
noncomputable def vMn(mx:Bool)(x y:XO)(V:VS)(T:TS)(H:SH)(K:KV):Bool:=mn2 mx (ev x V T) (ev y V T) K
noncomputable def Qs(mx:Bool)(xs:List XO)(V:VS)(T:TS)(H:SH)(K:KV):Bool :=
 match xs with
 |[x,y,z]=>match ev x V T,ev y V T,ev z V T with
  |.i k a,.i l b,.i m c=>match Df k l,Df k m with
   |true,true=>K (.i k (iMn mx (iMn mx a b) c))
   |_,_=>false
  |_,_,_=>false
 |_=>false
noncomputable def ah0(x:XO)(V:VS)(T:TS)(H:SH)(K:KV):Bool:=match ev x V T with
 |.b v=>K (.b (not v))
 |_=>false
noncomputable def af9(x:XO)(V:VS)(T:TS)(H:SH)(K:KV):Bool:=match ev x V T with
 |.i k n=>K (.i k (nJ k (Int.sub 0 n)))
 |_=>false
noncomputable def VW(x:XO)(V:VS)(T:TS)(H:SH)(K:KV):Bool:=match ev x V T with
 |.i k n=>K (.i k (nJ k (BitVec.ofInt k.bits (if k.signed then -1 else k.max) ^^^ BitVec.ofInt k.bits n).toNat))
 |_=>false
def lexLt:List Nat→List Nat→Bool
 |[],[]=>false
 |[],_::_=>true
 |_::_,[]=>false
 |a::x,b::y=>match Nat.beq a b with
  |true=>lexLt x y
  |false=>Nat.blt a b
def KH:SB→SB→Bool
 |.c a::x,.c b::y=>match Nat.beq a b with
  |true=>KH x y
  |false=>true
 |_,_=>false
def ahn(x y:SB):Bool:=or (KH x y) (or (Nat.blt (dP x) (iq y)) (Nat.blt (dP y) (iq x)))
def Ld(x y:SB)(K:Bool→Bool):Bool:=match rO x y with
 |true=>K true
 |false=>match ahn x y with
  |true=>K false
  |false=>false
def dR:SB→SB→SB
 |[],y=>y
 |a::x,y=>a::dR x y
noncomputable def ag5(op:BinOp)(x y:XO)(V:VS)(T:TS)(H:SH)(K:KV):Bool :=
 match ev x V T,ev y V T with
 |.s a,.s b=>match op with
  |.add=>match Nat.ble (Nat.add (dP a) (dP b)) 9223372036854775807 with
   |true=>K (.s (dR a b))
   |false=>false
  |.eql=>Ld a b fun r=>K (.b r)
  |.neq=>Ld a b fun r=>K (.b (not r))
  |op=>match iL a,iL b with
   |some l,some m=>match op with
    |.lss=>K (.b (lexLt l m))
    |.leq=>K (.b (not (lexLt m l)))
    |.gtr=>K (.b (lexLt m l))
    |.geq=>K (.b (not (lexLt l m)))
    |_=>false
   |_,_=>false
 |_,_=>false
def abL(x:SB):SV:=match Nat.beq (iq x) (dP x)with
 |true=>.i .i64 (.ofNat (iq x))
 |false=>.ln x
def IR(a b:Bool):Bool:=match a with
 |true=>b
 |false=>not b
noncomputable def af6(neg:Bool)(x y:XO)(V:VS)(T:TS)(H:SH)(K:KV):Bool:=match ev x V T,ev y V T with
 |.b a,.b b=>K (.b (xor (IR a b) neg))
 |_,_=>false
def Ic:List Nat→List SV→List SV→Bool
 |[],[],[]=>true
 |_::a,_::b,_::c=>Ic a b c
 |_,_,_=>false
def sj:List Nat→List SV→List SV→(Bool→Bool)→Bool
 |[],[],[],K=>K true
 |t::ks,x::xs,y::ys,K=>match x,y with
  |.i k a,.i l b=>match Nat.beq t 1,Df k l with
   |true,true=>match DC a b with
    |true=>sj ks xs ys K
    |false=>match Ic ks xs ys with
     |true=>K false
     |false=>false
   |_,_=>false
  |.b a,.b b=>match Nat.beq t 3,IR a b with
   |true,true=>sj ks xs ys K
   |true,false=>match Ic ks xs ys with
    |true=>K false
    |false=>false
   |_,_=>false
  |.s a,.s b=>match Nat.beq t 2 with
   |true=>Ld a b fun r=>match r with
    |true=>sj ks xs ys K
    |false=>match Ic ks xs ys with
     |true=>K false
     |false=>false
   |false=>false
  |_,_=>false
 |_,_,_,_=>false
noncomputable def ahM(neg:Bool)(ks:List Nat)(x y:XO)(V:VS)(T:TS)(H:SH)(K:KV):Bool:=match ev x V T,ev y V T with
 |.agg cs,.agg ds=>sj ks cs ds fun r=>K (.b (xor r neg))
 |_,_=>false
def Oe:SV→Nat
 |.ns=>2
 |.o v=>match v with
  |.pointer none=>1
  |.map none=>3
  |.nilFunc=>4
  |.nilIface=>5
  |_=>0
 |_=>0
noncomputable def aca(H:SH)(v:SV):Nat:=match v with
 |.ptr _ _=>1
 |.slc _ _ _ _|.emp _=>2
 |.map _=>3
 |.fn _ _ _=>4
 |.ifc _ _=>5
 |.bs b=>match hget H b with
  |.byt x _ _=>match Nat.ble 1 (iq x)with
   |true=>2
   |false=>0
  |_=>0
 |_=>0
noncomputable def ahv(neg:Bool)(tag:Nat)(c:Bool)(x y:XO)(V:VS)(T:TS)(H:SH)(K:KV):Bool :=
 match ev x V T,ev y V T with
 |.ptr b o,.ptr c p=>match Nat.beq tag 1,mU b c with
  |true,true=>K (.b (xor (Nat.beq o p) neg))
  |_,_=>false
 |x,y=>match Nat.beq (Oe y) tag with
  |true=>match Nat.beq (Oe x) tag with
   |true=>match Nat.beq tag 5,c with
    |true,false=>false
    |_,_=>match tag with
     |0=>false
     |.succ _=>K (.b (not neg))
   |false=>match Nat.beq (aca H x) tag with
    |true=>match tag with
     |0=>false
     |.succ _=>K (.b neg)
    |false=>false
  |false=>false
def lT:List SV→Nat→Option SV
 |[],_=>none
 |x::xs,n=>match n with
  |0=>some x
  |.succ n=>lT xs n
def iy:List SV→Nat
 |[]=>0
 |_::r=>Nat.succ (iy r)
def oo:Nat→List SV→List SV
 |0,l=>l
 |.succ _,[]=>[]
 |.succ n,_::l=>oo n l
def kL:Nat→List SV→Option (List SV)
 |0,_=>some []
 |.succ _,[]=>none
 |.succ n,x::l=>match kL n l with
  |some r=>some (x::r)
  |none=>none
def rZ:List SV→List SV→List SV
 |[],y=>y
 |a::x,y=>a::rZ x y
def pz:List SV→Nat→List SV→Option (List SV)
 |l,.succ n,vs=>match l with
  |[]=>none
  |x::l=>match pz l n vs with
   |some r=>some (x::r)
   |none=>none
 |l,0,[]=>some l
 |l,0,v::vs=>match l with
  |[]=>none
  |_::l=>match pz l 0 vs with
   |some r=>some (v::r)
   |none=>none
def BD:SV→Option Nat
 |.i _ (.ofNat n)=>some n
 |_=>none
def aA:Nat→SB→Option (SB×SB)
 |0,x=>some ([],x)
 |.succ n,.c a::x=>match aA n x with
  |some (l,r)=>some (.c a::l,r)
  |none=>none
 |_,_=>none
def FW:SB→Option (List SV)
 |[]=>some []
 |.c n::r=>match FW r with
  |some l=>some (.i .u8 (.ofNat n)::l)
  |none=>none
 |_=>none
def aiS:SV→Bool
 |.i .u8 (.ofNat n)=>Nat.blt n 256
 |.iv .u8 _ hi=>Nat.blt hi 256
 |_=>false
def GI:List SV→Bool
 |[]=>true
 |x::r=>match aiS x with
  |true=>GI r
  |false=>false
noncomputable def NN(H:SH)(b:Ky):Option (List SV):=match hget H b with
 |.row l _ _=>some l
 |.fro l _=>some l
 |.byt x true _=>match FW x with
  |some (c::l)=>some (c::l)
  |_=>none
 |_=>none
noncomputable def ld1(H:SH)(b:Ky)(o:Nat)(K:KV):Bool:=match hget H b with
 |.row l _ _=>match lT l o with
  |some v=>K v
  |none=>false
 |.fro l _=>match lT l o with
  |some v=>K v
  |none=>false
 |.byt x true _=>match aA o x with
  |some (_,.c v::_)=>K (.i .u8 (.ofNat v))
  |_=>false
 |_=>false
noncomputable def qK(H:SH)(b:Ky)(o n:Nat):Option (List SV):=match NN H b with
 |some l=>match n with
  |0=>match Nat.ble o (iy l)with
   |true=>some []
   |false=>none
  |.succ m=>kL (Nat.succ m) (oo o l)
 |none=>none
noncomputable def zD(H:SH)(b:Ky)(o:Nat)(vs:List SV):Option SH:=match lone vs with
 |true=>match hget H b with
  |.row l opn el=>match pz l o vs with
   |some l'=>some (hput H b (.row l' opn el))
   |none=>none
  |_=>none
 |false=>none
def FQ:List SV→Option SB
 |[]=>some []
 |x::r=>match x with
  |.i .u8 (.ofNat n)=>match Nat.blt n 256,FQ r with
   |true,some l=>some (.c n::l)
   |_,_=>none
  |.iv .u8 _ hi=>match Nat.blt hi 256,FQ r with
   |true,some l=>some (.u 1 1::l)
   |_,_=>none
  |_=>none
noncomputable def oq(H:SH)(v:SV):Option SB:=match v with
 |.bs b=>match hget H b with
  |.byt x _ _=>some x
  |_=>none
 |.slc b o n _=>match qK H b o n with
  |some cs=>FQ cs
  |none=>none
 |.emp _=>some []
 |.ns=>some []
 |.s x=>some x
 |_=>none
noncomputable def wO(H:SH)(x:SV):SV:=match x with
 |.bs b=>match hget H b with
  |.byt s true _=>match FW s with
   |some (_::l)=>.slc b 0 (Nat.succ (iy l)) (.op 1)
   |_=>x
  |_=>x
 |_=>x
noncomputable def uy(d:Nat)(x:Option XO)(V:VS)(T:TS):Option Nat:=match x with
 |none=>some d
 |some x=>BD (ev x V T)
noncomputable def anA(x:XO)(V:VS)(T:TS)(H:SH)(K:KV):Bool:=K (ev x V T)
noncomputable def acf(c a b:XO)(V:VS)(T:TS)(H:SH)(K:KV):Bool:=match ev c V T with
 |.b t=>match t with
  |true=>K (ev a V T)
  |false=>K (ev b V T)
 |_=>false
noncomputable def Ya(x:XO)(V:VS)(T:TS)(H:SH)(K:KV):Bool:=match ev x V T with
 |.ptr b o=>K (.ptr b o)
 |_=>false
noncomputable def agb(x:XO)(n:Nat)(V:VS)(T:TS)(H:SH)(K:KV):Bool:=match ev x V T with
 |.ptr b o=>K (.ptr b (Nat.add o n))
 |_=>false
noncomputable def abX(x i:XO)(size:Nat)(V:VS)(T:TS)(H:SH)(K:KV):Bool :=
 match wO H (ev x V T)with
 |.slc b p len _=>match ev i V T with
  |.i _ (.ofNat n)=>match Nat.blt n len with
   |true=>K (.ptr b (Nat.add p (Nat.mul n size)))
   |false=>false
  |.iv _ lo hi=>match size with
   |1=>match Nat.blt hi len with
    |true=>K (.pw b (Nat.add p lo) (Nat.add p hi))
    |false=>false
   |_=>false
  |_=>false
 |_=>false
noncomputable def ab7(x i:XO)(len size:Nat)(V:VS)(T:TS)(H:SH)(K:KV):Bool:=match ev x V T,ev i V T with
 |.ptr b p,.i _ (.ofNat n)=>match Nat.blt n len with
  |true=>K (.ptr b (Nat.add p (Nat.mul n size)))
  |false=>false
 |_,_=>false
noncomputable def We(x:XO)(off:Nat)(V:VS)(T:TS)(H:SH)(K:KV):Bool:=match ev x V T with
 |.agg cs=>match lT cs off with
  |some v=>K v
  |none=>false
 |_=>false
noncomputable def Yo(x:XO)(off n:Nat)(V:VS)(T:TS)(H:SH)(K:KV):Bool:=match ev x V T with
 |.agg cs=>match n,kL n (oo off cs)with
  |.succ _,some l=>K (.agg l)
  |_,_=>false
 |_=>false
noncomputable def acQ(x i:XO)(V:VS)(T:TS)(H:SH)(K:KV):Bool:=match ev x V T,ev i V T with
 |.s a,.i _ (.ofNat n)=>match aA n a with
  |some (_,.c v::_)=>K (.i .u8 (.ofNat v))
  |_=>false
 |_,_=>false
noncomputable def U9(x i:XO)(len:Nat)(V:VS)(T:TS)(H:SH)(K:KV):Bool:=match ev x V T,ev i V T with
 |.agg cs,.i _ (.ofNat n)=>match Nat.blt n len,lT cs n with
  |true,some v=>K v
  |_,_=>false
 |_,_=>false
noncomputable def U4(x i:XO)(len size:Nat)(V:VS)(T:TS)(H:SH)(K:KV):Bool:=match ev x V T,ev i V T with
 |.agg cs,.i _ (.ofNat n)=>match Nat.blt n len,kL size (oo (Nat.mul n size) cs)with
  |true,some l=>K (.agg l)
  |_,_=>false
 |_,_=>false
noncomputable def P8(x:XO)(lo hi:Option XO)(V:VS)(T:TS)(H:SH)(K:KV):Bool:=match ev x V T with
 |.s a=>match uy 0 lo V T with
  |none=>false
  |some l=>match aA l a with
   |none=>false
   |some (_,r)=>match hi with
    |none=>K (.s r)
    |some h=>match BD (ev h V T)with
     |none=>false
     |some h=>match Nat.ble l h with
      |true=>match aA (Nat.sub h l) r with
       |some (m,_)=>K (.s m)
       |none=>false
      |false=>false
 |_=>false
def Vw(size:Nat)(b:Ky)(o l h c:Nat)(K:KV):Bool:=match Nat.ble l h,Nat.ble h c with
 |true,true=>match Nat.beq c l with
  |true=>K (.slc b o 0 (.ex 0))
  |false=>K (.slc b (Nat.add o (Nat.mul l size)) (Nat.sub h l) (.ex (Nat.sub c l)))
 |_,_=>false
noncomputable def Ux(size:Nat)(x:XO)(lo hi mx:Option XO)(V:VS)(T:TS)(H:SH)(K:KV):Bool :=
 match wO H (ev x V T)with
 |.slc b o len cap=>match uy 0 lo V T,uy len hi V T with
  |some l,some h=>match mx with
   |none=>match cap with
    |.ex c=>Vw size b o l h c K
    |.op esz=>match Nat.beq size esz,Nat.ble l h with
     |true,true=>match Nat.ble h len with
      |true=>match Nat.ble len l with
       |true=>K (.emp b)
       |false=>K (.slc b (Nat.add o (Nat.mul l size)) (Nat.sub h l) (.op esz))
      |false=>false
     |_,_=>false
   |some y=>match hi,BD (ev y V T)with
    |some _,some m=>match Nat.ble h m,Nat.ble m (match cap with|.ex c=>c|.op _=>len)with
     |true,true=>Vw size b o l h m K
     |_,_=>false
    |_,_=>false
  |_,_=>false
 |.emp b=>match uy 0 lo V T,uy 0 hi V T,mx with
  |some 0,some 0,none=>K (.emp b)
  |_,_,_=>false
 |.ns=>match uy 0 lo V T,uy 0 hi V T,mx with
  |some 0,some 0,none=>K .ns
  |some 0,some 0,some y=>match hi,BD (ev y V T)with
   |some _,some 0=>K .ns
   |_,_=>false
  |_,_,_=>false
 |.bs b=>match lo,hi,mx with
  |none,none,none=>match hget H b,size with
   |.byt x true _,1=>match Nat.ble 1 (iq x)with
    |true=>K (.bs b)
    |false=>false
   |_,_=>false
  |_,_,_=>false
 |_=>false
noncomputable def abA(n size:Nat)(x:XO)(lo hi:Option XO)(V:VS)(T:TS)(H:SH)(K:KV):Bool:=match ev x V T with
 |.ptr b o=>match uy 0 lo V T,uy n hi V T with
  |some l,some h=>Vw size b o l h n K
  |_,_=>false
 |_=>false
noncomputable def UQ(n:Nat)(x:XO)(V:VS)(T:TS)(H:SH)(K:KV):Bool:=match ev x V T with
 |.slc b p len _=>match Nat.ble n len with
  |true=>K (.ptr b p)
  |false=>false
 |_=>false
noncomputable def aiF(x:XO)(i:Nat)(V:VS)(T:TS)(H:SH)(K:KV):Bool:=match ev x V T with
 |.tup vs=>match lT vs i with
  |some v=>K v
  |none=>false
 |_=>false
noncomputable def IQ(V:VS)(T:TS):List XO→List SV
 |[]=>[]
 |x::r=>ev x V T::IQ V T r
noncomputable def aoX(t:Nat)(x:XO)(V:VS)(T:TS)(H:SH)(K:KV):Bool:=K (.ifc t (ev x V T))
noncomputable def arN(f:Nat)(xs ys:List XO)(V:VS)(T:TS)(H:SH)(K:KV):Bool:=K (.fn f (IQ V T xs) (IQ V T ys))
noncomputable def zK(V:VS)(T:TS):List SV→List (Nat×Nat×XO)→Option (List SV)
 |cs,[]=>some cs
 |cs,(off,size,x)::rest=>match (ev x V T).cells with
  |vs=>match lone vs,Nat.beq (iy vs) size,pz cs off vs with
   |true,true,some cs'=>zK V T cs' rest
   |_,_,_=>none
noncomputable def Xf(zs:List SV)(ps:List (Nat×Nat×XO))(V:VS)(T:TS)(H:SH)(K:KV):Bool:=match zK V T zs ps with
 |some l=>K (.agg l)
 |none=>false
noncomputable def agZ(x:XO)(V:VS)(T:TS)(H:SH)(K:KV):Bool:=match ev x V T with
 |.s a=>K (.s a)
 |_=>false
noncomputable def Vt(x:XO)(V:VS)(T:TS)(H:SH)(K:KV):Bool:=match ev x V T with
 |.s _=>false
 |v=>match oq H v with
  |some s=>K (.s s)
  |none=>false
noncomputable def aaR(el cells:Nat)(x:XO)(V:VS)(T:TS)(H:SH)(K:KV):Bool:=match ev x V T with
 |.ptr b 0=>match hget H b with
  |.row l _ t=>match Nat.beq (iy l) cells,Nat.beq t el with
   |true,true=>K (.ptr b 0)
   |_,_=>false
  |_=>false
 |_=>false
noncomputable def acr(x:XO)(V:VS)(T:TS)(H:SH)(K:KV):Bool:=match ev x V T with
 |.ptr b o=>match NN H b with
  |some l=>match Nat.blt o (iy l)with
   |true=>K (.ptr b o)
   |false=>false
  |none=>false
 |_=>false
noncomputable def agp(x:XO)(V:VS)(T:TS)(H:SH)(K:KV):Bool:=match ev x V T with
 |.slc _ _ n _=>K (.i .i64 (.ofNat n))
 |.emp _=>K (.i .i64 0)
 |.ns=>K (.i .i64 0)
 |.bs b=>match hget H b with
  |.byt x _ _=>K (abL x)
  |_=>false
 |_=>false
noncomputable def aa3(x:XO)(V:VS)(T:TS)(H:SH)(K:KV):Bool:=match ev x V T with
 |.s a=>K (abL a)
 |_=>false
def ac5:List (SV×SV×Nat)→Nat
 |[]=>0
 |_::r=>Nat.succ (ac5 r)
noncomputable def acC(x:XO)(V:VS)(T:TS)(H:SH)(K:KV):Bool:=match ev x V T with
 |.map b=>match hget H b with
  |.map es _=>K (.i .i64 (.ofNat (ac5 es)))
  |_=>false
 |_=>false
noncomputable def aiu(x:XO)(V:VS)(T:TS)(H:SH)(K:KV):Bool:=match ev x V T with
 |.slc _ _ _ (.ex c)=>K (.i .i64 (.ofNat c))
 |.ns=>K (.i .i64 0)
 |_=>false
noncomputable def UM(x:XO)(V:VS)(T:TS)(H:SH)(K:KV):Bool:=match wO H (ev x V T)with
 |.ns=>K (.o (.pointer none))
 |.slc b p _ (.ex (.succ _))=>K (.ptr b p)
 |.slc b p (.succ _) (.op _)=>K (.ptr b p)
 |_=>false
def QF:Bool→SV→Option (List SV)
 |true,.agg cs=>some cs
 |true,_=>none
 |false,v=>some [v]
def qQ(a:Bool)(ks:List Nat)(k:List SV)(K:Option (Nat×SV)→Bool):List (SV×SV×Nat)→Nat→Bool
 |[],_=>K none
 |(ka,va,_)::es,i=>match QF a ka with
  |some cs=>sj ks k cs fun r=>match r with
   |true=>K (some (i,va))
   |false=>qQ a ks k K es (Nat.succ i)
  |none=>false
def found(v:SV)(ok:Bool)(has:Bool):SV:=match ok with
 |true=>.tup [v,.b has]
 |false=>v
noncomputable def Qa(a:Bool)(ks:List Nat)(z:SV)(ok:Bool)(x k:XO)(V:VS)(T:TS)(H:SH)(K:KV):Bool:=match ev x V T with
 |.map b=>match hget H b,QF a (ev k V T)with
  |.map es _,some kc=>match Ic ks kc kc with
   |true=>qQ a ks kc (fun r=>match r with
    |some (_,va)=>K (found va ok true)
    |none=>K (found z ok false)) es 0
   |false=>false
  |_,_=>false
 |_=>false
def aaP:List Nat→Option Nat
 |[]=>none
 |[n]=>some n
 |_::r=>aaP r
def Uy(n:Nat):List (SV×SV×Nat)→Option (SV×SV)
 |[]=>none
 |(k,v,m)::r=>match Nat.beq m n with
  |true=>some (k,v)
  |false=>Uy n r
noncomputable def Yw(x:XO)(V:VS)(T:TS)(H:SH)(K:KV):Bool:=match ev x V T with
 |.ptr b 0=>match hget H b with
  |.iter m _ seen st=>match hget H m,aaP seen with
   |.map es cl,some n=>match Nat.beq st cl,Uy n es with
    |true,some (k,v)=>K (.tup [k,v])
    |_,_=>false
   |_,_=>false
  |_=>false
 |_=>false
noncomputable def Q9(t:Nat)(ok:Bool)(x:XO)(V:VS)(T:TS)(H:SH)(K:KV):Bool:=match ev x V T with
 |.ifc t' v=>match Nat.beq t' t with
  |true=>K (found v ok true)
  |false=>false
 |_=>false
noncomputable def VX(x:XO)(V:VS)(T:TS)(H:SH)(K:KV):Bool:=match ev x V T with
 |.ptr b o=>ld1 H b o K
 |.pw b lo hi=>match qK H b lo (Nat.sub (Nat.succ hi) lo)with
  |some vs=>match GI vs with
   |true=>K (.iv .u8 0 255)
   |false=>false
  |none=>false
 |_=>false
noncomputable def Xm(x:XO)(n:Nat)(V:VS)(T:TS)(H:SH)(K:KV):Bool:=match ev x V T with
 |.ptr b o=>match qK H b o n with
  |some vs=>K (.agg vs)
  |none=>false
 |_=>false
noncomputable def beyond(x:SV)(hi:Option XO)(V:VS)(T:TS):Bool:=match x with
 |.slc _ _ len (.op _)=>match uy len hi V T with
  |some h=>Nat.blt len h
  |none=>false
 |_=>false
noncomputable def arG(size:Nat)(x:SV)(lo hi:Option XO)(V:VS)(T:TS)(H:SH)(K:KV):Bool:=match x with
 |.slc b o len (.op esz)=>match uy 0 lo V T,uy len hi V T,hget H b with
  |some l,some h,.row cs true _=>match Nat.beq size esz,Nat.blt l h,Nat.ble (Nat.add o (Nat.mul h size)) (iy cs)with
   |true,true,true=>K (.slc b (Nat.add o (Nat.mul l size)) (Nat.sub h l) (.op esz))
   |_,_,_=>false
  |_,_,_=>false
 |_=>false
noncomputable def abV(size:Nat)(x:XO)(lo hi:Option XO)(V:VS)(T:TS)(H:SH)(K:KV):Bool:=match beyond (ev x V T) hi V T with
 |true=>arG size (ev x V T) lo hi V T H K
 |false=>Ux size x lo hi none V T H K
def aAJ(V:VS)(T:TS)(H:SH)(K:KV):Bool:=false
abbrev FV:=VS→TS→SH→KV→Bool
noncomputable def iA(o:XV):FV:=XV.rec (motive:=fun _=>FV) anA acf Ya agb abX ab7 We Yo acQ U9 U4 P8 Ux abA UQ aiF aoX arN Xf aiI vSh ag5 af6 ahM ahv ahP agZ Vt acr aaR agp aa3 acC aiu UM vMn Qs ah0 af9 VW Qa Yw Q9 VX Xm abV aAJ o
abbrev KN:=Bk→(Ky→SV)→Bool
def ab5(b:Ky):SV:=.ptr b 0
noncomputable def aq3(zs:List SV)(t:Nat)(V:VS)(T:TS)(K:KN):Bool:=K (.row zs false t) ab5
noncomputable def agh(t:Nat)(x:XO)(V:VS)(T:TS)(K:KN):Bool:=match (ev x V T).cells with
 |v::vs=>match lone (v::vs)with
  |true=>K (.row (v::vs) false t) ab5
  |false=>false
 |[]=>false
def AJ(zs:List SV):Nat→List SV
 |0=>[]
 |.succ n=>rZ zs (AJ zs n)
noncomputable def QW(elem len:Nat)(zs:List SV)(ps:List (Nat×Nat×XO))(V:VS)(T:TS)(K:KN):Bool:=match zK V T (AJ zs len) ps with
 |some l=>match lone l with
  |true=>K (.row l false elem) fun b=>.slc b 0 len (.ex len)
  |false=>false
 |none=>false
noncomputable def Qu(elem bytes:Nat)(zs:List SV)(l c:XO)(V:VS)(T:TS)(K:KN):Bool:=match BD (ev l V T),BD (ev c V T)with
 |some l,some c=>match Nat.ble l c,Nat.ble (Nat.mul c bytes) 140737488355328,Nat.ble c 140737488355328 with
  |true,true,true=>K (.row (AJ zs c) false elem) fun b=>.slc b 0 l (.ex c)
  |_,_,_=>false
 |_,_=>false
def arT(V:VS)(T:TS)(K:KN):Bool:=K (.map [] 0) .map
noncomputable def YD(el:Nat)(x:XO)(V:VS)(T:TS)(K:KN):Bool:=match ev x V T with
 |.s a=>K (.byt a true el) .bs
 |_=>false
def aB7(V:VS)(T:TS)(K:KN):Bool:=false
abbrev FN:=VS→TS→KN→Bool
noncomputable def runN(o:XN):FN:=XN.rec (motive:=fun _=>FN) aq3 agh QW Qu arT YD aB7 o
noncomputable def rowOf(v:SV)(H:SH)(size:Nat):Option (Nat×List SV):=match v with
 |.slc b o n _=>match qK H b o (Nat.mul n size)with
  |some vs=>some (n,vs)
  |none=>none
 |.emp _=>some (0,[])
 |.ns=>some (0,[])
 |_=>none
noncomputable def ahi(elem:Nat)(H:SH)(s:SV)(a b:SB)(K:KS):Bool:=match s with
 |.bs c=>match hget H c with
  |.byt _ true el=>match Nat.beq el elem with
   |true=>K (.bs H.nx) (hpush (hput H c .gone) (.byt (dR a b) true elem))
   |false=>false
  |_=>false
 |.ns=>K (.bs H.nx) (hpush H (.byt b true elem))
 |.slc c o n cap=>match cap with
  |.op esz=>match o,esz,hget H c with
   |0,1,.row l true el=>match Nat.beq el elem,Nat.beq (iy l) n with
    |true,true=>K (.bs H.nx) (hpush (hput H c .gone) (.byt (dR a b) true elem))
    |_,_=>false
   |_,_,_=>false
  |.ex m=>match Nat.beq n m,Nat.ble 1 (iq b)with
   |true,true=>K (.bs H.nx) (hpush H (.byt (dR a b) true elem))
   |_,_=>false
 |_=>false
noncomputable def aa8(elem size bytes:Nat)(H:SH)(s x:SV)(K:KS):Bool:=match Nat.beq size 1,Nat.beq bytes 1,oq H s,oq H x with
 |true,true,some a,some b=>match Nat.ble (Nat.add (dP a) (dP b)) 140737488355328 with
  |true=>ahi elem H s a b K
  |false=>false
 |_,_,_,_=>false
def small(n bytes:Nat):Bool:=match Nat.ble (Nat.mul n bytes) 140737488355328 with
 |true=>Nat.ble n 140737488355328
 |false=>false
noncomputable def acE(elem size bytes n:Nat)(new:List SV)(s:SV)(H:SH)(K:KS):Bool:=match n with
 |0=>match s with
  |.slc b o len (.ex c)=>match Nat.ble len c with
   |true=>K s H
   |false=>false
  |.slc _ _ _ (.op _)|.ns|.emp _=>K s H
  |_=>false
 |.succ m=>match lone new with
  |false=>false
  |true=>match s with
   |.ns=>match small (Nat.succ m) bytes with
    |true=>K (.slc H.nx 0 (Nat.succ m) (.op size)) (hpush H (.row new true elem))
    |false=>false
   |.slc b o len cap=>match small (Nat.add len (Nat.succ m)) bytes with
    |false=>false
    |true=>match cap with
     |.ex c=>match Nat.ble (Nat.add len (Nat.succ m)) c with
      |true=>match zD H b (Nat.add o (Nat.mul len size)) new with
       |some H'=>K (.slc b o (Nat.add len (Nat.succ m)) (.ex c)) H'
       |none=>false
      |false=>match qK H b o (Nat.mul len size)with
       |some old=>match lone old with
        |true=>K (.slc H.nx 0 (Nat.add len (Nat.succ m)) (.op size)) (hpush H (.row (rZ old new) true elem))
        |false=>false
       |none=>false
     |.op esz=>match Nat.beq esz size,hget H b with
      |true,.row l true el=>match Nat.ble (Nat.add o (Nat.mul (Nat.add len (Nat.succ m)) size)) (iy l)with
       |true=>match zD H b (Nat.add o (Nat.mul len size)) new with
        |some H'=>K (.slc b o (Nat.add len (Nat.succ m)) (.op esz)) H'
        |none=>false
       |false=>match o,Nat.beq el elem,Nat.beq (iy l) (Nat.mul len size)with
        |0,true,true=>K (.slc H.nx 0 (Nat.add len (Nat.succ m)) (.op size)) (hpush (hput H b .gone) (.row (rZ l new) true elem))
        |_,_,_=>false
      |_,_=>false
   |_=>false
def aDN:SV→Bool
 |.bs _=>true
 |_=>false
def aCm:SV→Bool
 |.bs _|.s _=>true
 |_=>false
abbrev FF:=aI→VS→TS→SH→KS→Bool
noncomputable def ahf(elem size bytes:Nat)(zs:List SV)(zeros:Bool)(s x:XO)(C:aI)(V:VS)(T:TS)(H:SH)(K:KS):Bool:=match zeros with
 |true=>match BD (ev x V T)with
  |some n=>acE elem size bytes n (AJ zs n) (ev s V T) H K
  |none=>false
 |false=>match aDN (ev s V T)with
  |true=>aa8 elem size bytes H (ev s V T) (ev x V T) K
  |false=>match rowOf (wO H (ev x V T)) H size with
   |some (n,new)=>acE elem size bytes n new (ev s V T) H K
   |none=>match aCm (ev x V T)with
    |true=>aa8 elem size bytes H (ev s V T) (ev x V T) K
    |false=>false
noncomputable def Yp(a x:XO)(n:Nat)(C:aI)(V:VS)(T:TS)(H:SH)(K:KS):Bool:=match ev a V T with
 |.ptr b p=>match (ev x V T).cells with
  |vs=>match Nat.beq (iy vs) n,zD H b p vs with
   |true,some H'=>K .undef H'
   |_,_=>false
 |.pw b lo hi=>match aiS (ev x V T),qK H b lo (Nat.sub (Nat.succ hi) lo),n with
  |true,some vs,1=>match GI vs,zD H b lo (AJ [.iv .u8 0 255] (Nat.sub (Nat.succ hi) lo))with
   |true,some H'=>K .undef H'
   |_,_=>false
  |_,_,_=>false
 |_=>false
noncomputable def acT(H:SH)(v:SV):Bool:=match v with
 |.slc _ _ _ _|.emp _|.ns|.s _=>true
 |.bs k=>match hget H k with
  |.byt _ _ _=>true
  |_=>false
 |_=>false
noncomputable def aco(size:Nat)(d x:XO)(C:aI)(V:VS)(T:TS)(H:SH)(K:KS):Bool:=match ev d V T with
 |.slc b o dn _=>match rowOf (wO H (ev x V T)) H size with
  |some (n,vs)=>match Nat.min n dn with
   |0=>K (.i .i64 0) H
   |.succ k=>match kL (Nat.mul (Nat.succ k) size) vs with
    |some us=>match zD H b o us with
     |some H'=>K (.i .i64 (.ofNat (Nat.succ k))) H'
     |none=>false
    |none=>false
  |none=>false
 |.emp _|.ns=>match acT H (ev x V T)with
  |true=>K (.i .i64 0) H
  |false=>false
 |_=>false
noncomputable def UA(zs:List SV)(x:XO)(C:aI)(V:VS)(T:TS)(H:SH)(K:KS):Bool:=match ev x V T with
 |.slc b p n _=>match zD H b p (AJ zs n)with
  |some H'=>K .undef H'
  |none=>false
 |.emp _|.ns=>K .undef H
 |_=>false
noncomputable def elH(H:SH)(b:Ky):Nat:=match hget H b with
 |.row _ _ el|.fro _ el|.byt _ _ el=>el
 |_=>0
noncomputable def abM(el:Nat)(x n:XO)(C:aI)(V:VS)(T:TS)(H:SH)(K:KS):Bool:=match ev x V T,ev n V T with
 |.ptr b 0,.i .i64 (.ofNat (.succ k))=>match NN H b,Nat.beq (elH H b) el,Nat.ble k 4611686018427387904 with
  |some l,true,true=>match kL (Nat.succ k) l with
   |some us=>match FQ us with
    |some s=>K (.s s) (hput H b .gone)
    |none=>false
   |none=>false
  |_,_,_=>false
 |.o (.pointer none),.i .i64 (.ofNat 0)=>K (.s []) H
 |_,_=>false
noncomputable def asC(f:Nat)(xs:List XO)(C:aI)(V:VS)(T:TS)(H:SH)(K:KS):Bool:=C f (IQ V T xs) H K
abbrev ajd:=aI→List SV→SH→KS→Bool
abbrev YS:=Ky→List SV→SH→KS→Bool
def uo:YS:=fun _ _ _ _=>false
noncomputable def AO(Y:YS)(f:XO)(xs:List XO)(C:aI)(V:VS)(T:TS)(H:SH)(K:KS):Bool:=match ev f V T with
 |.fn g fs cs=>C g (rZ fs (rZ (IQ V T xs) cs)) H K
 |.bs k=>Y k (IQ V T xs) H K
 |_=>false
noncomputable def Qe(x:XO)(C:aI)(V:VS)(T:TS)(H:SH)(K:KS):Bool:=match ev x V T with
 |.map m=>match hget H m with
  |.map es cl=>K (.ptr H.nx 0) (hpush H (.iter m cl [] cl))
  |_=>false
 |_=>false
def JG(n:Nat):List Nat→Bool
 |[]=>false
 |m::r=>match Nat.beq n m with
  |true=>true
  |false=>JG n r
def LM(seen:List Nat):List (SV×SV×Nat)→Bool
 |[]=>true
 |e::r=>match JG e.2.2 seen with
  |true=>LM seen r
  |false=>false
def nexts(seen:List Nat)(K:SV→SV→Nat→Bool):List (SV×SV×Nat)→Bool
 |[]=>true
 |(k,v,n)::r=>match JG n seen with
  |true=>nexts seen K r
  |false=>match K k v n with
   |true=>nexts seen K r
   |false=>false
def Uo:List Nat→Nat→List Nat
 |[],n=>[n]
 |a::r,n=>a::Uo r n
def TV(st:Nat):List (SV×SV×Nat)→Bool
 |[]=>false
 |e::r=>match Nat.blt e.2.2 st with
  |true=>true
  |false=>TV st r
def Xj(seen:List Nat)(st:Nat)(es:List (SV×SV×Nat)):Bool:=match seen with
 |[]=>true
 |_::_=>match es with
  |[]=>true
  |_::_=>TV st es
def FY(since:Nat)(seen:List Nat):List (SV×SV×Nat)→Bool
 |[]=>false
 |e::r=>match JG e.2.2 seen with
  |true=>FY since seen r
  |false=>match Nat.blt e.2.2 since with
   |true=>true
   |false=>FY since seen r
noncomputable def Vq(x:XO)(C:aI)(V:VS)(T:TS)(H:SH)(K:KS):Bool:=match ev x V T with
 |.ptr b 0=>match hget H b with
  |.iter m since seen stepped=>match hget H m with
   |.map es cl=>match Xj seen stepped es with
    |true=>match LM seen es with
     |true=>K (.tup [.b false]) H
     |false=>match FY since seen es with
      |true=>nexts seen (fun k v n=>K (.tup [.b true,k,v]) (hput H b (.iter m since (Uo seen n) cl))) es
      |false=>false
    |false=>false
   |_=>false
  |_=>false
 |_=>false
def abJ:List (SV×SV×Nat)→SV×SV×Nat→List (SV×SV×Nat)
 |[],n=>[n]
 |a::r,n=>a::abJ r n
def adz(k v:SV):List (SV×SV×Nat)→Nat→List (SV×SV×Nat)
 |[],_=>[]
 |(a,b,n)::es,i=>match i with
  |0=>(k,v,n)::es
  |.succ i=>(a,b,n)::adz k v es i
def TW:List (SV×SV×Nat)→Nat→List (SV×SV×Nat)
 |[],_=>[]
 |e::es,i=>match i with
  |0=>es
  |.succ i=>e::TW es i
noncomputable def acG(a:Bool)(ks:List Nat)(m k v:XO)(C:aI)(V:VS)(T:TS)(H:SH)(K:KS):Bool:=match ev m V T with
 |.map b=>match hget H b,QF a (ev k V T)with
  |.map es c,some kc=>match Ic ks kc kc with
   |true=>qQ a ks kc (fun r=>match r with
    |some (i,_)=>K .undef (hput H b (.map (adz (ev k V T) (ev v V T) es i) c))
    |none=>K .undef (hput H b (.map (abJ es (ev k V T,ev v V T,c)) (Nat.succ c)))) es 0
   |false=>false
  |_,_=>false
 |_=>false
noncomputable def adh(a:Bool)(ks:List Nat)(m k:XO)(C:aI)(V:VS)(T:TS)(H:SH)(K:KS):Bool:=match ev m V T with
 |.map b=>match hget H b,QF a (ev k V T)with
  |.map es c,some kc=>match Ic ks kc kc with
   |true=>qQ a ks kc (fun r=>match r with
    |some (i,_)=>K .undef (hput H b (.map (TW es i) c))
    |none=>K .undef H) es 0
   |false=>false
  |_,_=>false
 |_=>false
noncomputable def acV(x:XO)(C:aI)(V:VS)(T:TS)(H:SH)(K:KS):Bool:=match ev x V T with
 |.slc b p n (.ex c)=>match hget H b with
  |.row l false el=>K (.slc b p n (.ex c)) (hput H b (.fro l el))
  |_=>false
 |_=>false
def au1(C:aI)(V:VS)(T:TS)(H:SH)(K:KS):Bool:=false
abbrev jA:=NC→ajd
noncomputable def auU(X:jA)(c:NC)(xs:List XO)(C:aI)(V:VS)(T:TS)(H:SH)(K:KS):Bool:=X c C (IQ V T xs) H K
noncomputable def vO(X:jA)(Y:YS)(o:XF):FF:=XF.rec (motive:=fun _=>FF) Yp ahf aco UA abM asC (auU X) (AO Y) Qe Vq acG adh acV au1 o
noncomputable def oV(o:XV)(C:aI)(V:VS)(T:TS)(H:SH)(K:KS):Bool:=iA o V T H fun v=>K v H
noncomputable def oN(o:XN)(C:aI)(V:VS)(T:TS)(H:SH)(K:KS):Bool:=runN o V T fun x mk=>K (mk H.nx) (hpush H x)
noncomputable def Np(X:jA)(Y:YS)(o:Wp):FF:=Wp.rec (motive:=fun _=>FF) oV oN (vO X Y) o
def acs(x:SV)(want:Bool)(yes no:Bool):Bool:=match x with
 |.b b=>match IR b want with
  |true=>yes
  |false=>no
 |.tup []=>no
 |_=>false
def gNo(V:VS)(T:TS)(yes no:Bool):Bool:=yes
noncomputable def gG(x:XO)(want:Bool)(V:VS)(T:TS)(yes no:Bool):Bool:=acs (ev x V T) want yes no
noncomputable def pX(g:XG):VS→TS→Bool→Bool→Bool:=XG.rec (motive:=fun _=>VS→TS→Bool→Bool→Bool) gNo gG g
abbrev KT:=TS→SH→Bool
abbrev RO:=aI→TS→SH→KT→Bool
noncomputable def axJ(X:jA)(Y:YS)(o:Wp)(g:XG)(d:Ky)(next:RO)(C:aI)(T:TS)(H:SH)(K:KT):Bool :=
 pX g [] T (Np X Y o C [] T H fun v H'=>next C (ru .top d T v) H' K) (next C (ru .top d T .undef) H K)
noncomputable def aEc(X:jA)(Y:YS)(o:Wp)(g:XG)(next:RO)(C:aI)(T:TS)(H:SH)(K:KT):Bool :=
 pX g [] T (Np X Y o C [] T H fun _ H'=>next C T H' K) (next C T H K)
noncomputable def step1(X:jA)(Y:YS)(s:XS):RO→RO:=XS.rec (motive:=fun _=>RO→RO) (axJ X Y) (aEc X Y) s
noncomputable def FP(X:jA)(Y:YS)(l:List XS):RO:=List.rec (motive:=fun _=>RO) (fun C T H K=>K T H) (fun s _ ih=>step1 X Y s ih) l
abbrev KB:=VS→List Ky→SH→Bool
abbrev RN:=TS→VS→List Ky→SH→KB→Bool
noncomputable def aCO(g:XG)(o:XV)(next:RN)(T:TS)(V:VS)(B:List Ky)(H:SH)(K:KB):Bool :=
 pX g V T (iA o V T H fun v=>next T (v::V) (.h::B) H K) (next T (.undef::V) (.h::B) H K)
noncomputable def axI(g:XG)(o:XN)(next:RN)(T:TS)(V:VS)(B:List Ky)(H:SH)(K:KB):Bool :=
 pX g V T (runN o V T fun x mk=>next T (mk H.nx::V) (H.nx::B) (hpush H x) K) (next T (.undef::V) (.h::B) H K)
noncomputable def azt(r:XR):RN→RN:=XR.rec (motive:=fun _=>RN→RN) aCO axI r
noncomputable def uk(l:List XR):RN:=List.rec (motive:=fun _=>RN) (fun T V B H K=>K V B H) (fun r _ ih=>azt r ih) l
mutual
noncomputable def rA:SV→SV→Bool
 |.b a,.b b=>IR a b
 |.i k a,.i l b=>match Df k l with
  |true=>DC a b
  |false=>false
 |.ln a,.ln b=>rO a b
 |.s a,.s b=>rO a b
 |.o a,.o b=>match a,b with
  |.pointer none,.pointer none=>true
  |.map none,.map none=>true
  |.nilFunc,.nilFunc=>true
  |.nilIface,.nilIface=>true
  |_,_=>false
 |.ns,.ns=>true
 |.ptr a b,.ptr c d=>match mU a c with
  |true=>Nat.beq b d
  |false=>false
 |.slc a b c d,.slc a' b' c' d'=>match mU a a',Nat.beq b b',Nat.beq c c' with
  |true,true,true=>aaG d d'
  |_,_,_=>false
 |.bs a,.bs b=>mU a b
 |.map a,.map b=>mU a b
 |.fn f x y,.fn g u v=>match Nat.beq f g,wS x u with
  |true,true=>wS y v
  |_,_=>false
 |.ifc t v,.ifc u w=>match Nat.beq t u with
  |true=>rA v w
  |false=>false
 |.agg x,.agg y=>wS x y
 |.tup x,.tup y=>wS x y
 |_,_=>false
noncomputable def wS:List SV→List SV→Bool
 |[],[]=>true
 |a::x,b::y=>match rA a b with
  |true=>wS x y
  |false=>false
 |_,_=>false
end
noncomputable def Xw:Bk→Bk→Bool
 |.row l o e,.row l' o' e'=>match IR o o',Nat.beq e e' with
  |true,true=>wS l l'
  |_,_=>false
 |.byt x o e,.byt x' o' e'=>match IR o o',Nat.beq e e',Nat.ble 1 (iq x)with
  |true,true,true=>rO x x'
  |_,_,_=>false
 |.map [] c,.map [] c'=>Nat.beq c c'
 |_,_=>false
noncomputable def WL(k:Nat):List Ky→Ky:=Nat.rec (motive:=fun _=>List Ky→Ky) (fun l=>List.casesOn l .h fun v _=>v) (fun _ ih l=>List.casesOn l .h fun _ r=>ih r) k
abbrev RE:=TS→VS→List Ky→SH→Bool→Bool
noncomputable def reV(g:XG)(o:XV)(k:Nat)(next:RE)(T:TS)(V:VS)(B:List Ky)(H:SH)(K:Bool):Bool :=
 pX g V T (iA o V T H fun v=>match rA v (Kj k V)with
  |true=>next T V B H K
  |false=>false) (next T V B H K)
noncomputable def reN(g:XG)(o:XN)(k:Nat)(next:RE)(T:TS)(V:VS)(B:List Ky)(H:SH)(K:Bool):Bool :=
 pX g V T (runN o V T fun x mks=>match Xw x (hget H (WL k B))with
  |true=>match rA (mks (WL k B)) (Kj k V)with
   |true=>next T V B H K
   |false=>false
  |false=>false) (next T V B H K)
noncomputable def re1(r:XQ):RE→RE:=XQ.rec (motive:=fun _=>RE→RE) reV reN r
noncomputable def Dc(l:List XQ):RE:=List.rec (motive:=fun _=>RE) (fun T V B H K=>K) (fun r _ ih=>re1 r ih) l
abbrev RS:=aI→TS→VS→List Ky→SH→KT→Bool
noncomputable def agC(V:VS)(l:List (Ky×Nat)):TS→TS:=List.rec (motive:=fun _=>TS→TS) (fun T=>T) (fun p _ ih T=>ih (ru .top p.1 T (Kj p.2 V))) l
noncomputable def stF(fin:List (Ky×Nat))(non:List XR)(next:RS)(C:aI)(T:TS)(V:VS)(B:List Ky)(H:SH)(K:KT):Bool :=
 uk non T V B H fun V' _ H'=>K (agC V' fin T) H'
noncomputable def stE(X:jA)(non:List XR)(g:XG)(o:XF)(re:List XQ)(next:RS)(C:aI)(T:TS)(V:VS)(B:List Ky)(H:SH)(K:KT):Bool :=
 uk non T V B H fun V' B' H'=>pX g V' T
  (vO X uo o C V' T H' fun v H2=>Dc re T (v::V') (.h::B') H2 (next C T (v::V') (.h::B') H2 K))
  (Dc re T (.undef::V') (.h::B') H' (next C T (.undef::V') (.h::B') H' K))
noncomputable def aq6(X:jA)(fin:List (Ky×Nat))(s:yG):RS→RS:=yG.rec (motive:=fun _=>RS→RS) (stF fin) (stE X) s
noncomputable def xR(X:jA)(fin:List (Ky×Nat))(l:List yG):RS:=List.rec (motive:=fun _=>RS) (fun C T V B H K=>false) (fun s _ ih=>aq6 X fin s ih) l
inductive XE where
 |normal
 |exit (id:Nat)
 |ret
abbrev KC:=XE→TS→SH→Bool
abbrev gK:=aI→SV→SH→(SV→SH→(SH→Bool)→Bool)→(SH→Bool)→Bool
abbrev RC:=gK→aI→TS→SH→KC→Bool
def as5(G:gK)(C:aI)(T:TS)(H:SH)(K:KC):Bool:=K .normal T H
noncomputable def asc(X:jA)(Y:YS)(l:List XS)(G:gK)(C:aI)(T:TS)(H:SH)(K:KC):Bool:=FP X Y l C T H (K .normal)
noncomputable def aov(X:jA)(l:List yG)(fin:List (Ky×Nat))(G:gK)(C:aI)(T:TS)(H:SH)(K:KC):Bool:=xR X fin l C T [] [] H (K .normal)
def TL(e:XE)(T:TS)(H:SH)(n:TS→SH→Bool)(K:KC):Bool:=match e with
 |.normal=>n T H
 |.exit i=>K (.exit i) T H
 |.ret=>K .ret T H
def aAM(a b:XC)(ra rb:RC)(G:gK)(C:aI)(T:TS)(H:SH)(K:KC):Bool:=ra G C T H fun e T' H'=>TL e T' H' (fun T2 H2=>rb G C T2 H2 K) K
noncomputable def abH(x:XO)(a b:XC)(ra rb:RC)(G:gK)(C:aI)(T:TS)(H:SH)(K:KC):Bool:=match ev x [] T with
 |.b t=>match t with
  |true=>ra G C T H K
  |false=>rb G C T H K
 |_=>false
def WE(id:Nat)(K:KC)(e:XE)(T:TS)(H:SH):Bool:=match e with
 |.normal=>K .normal T H
 |.exit i=>match Nat.beq i id with
  |true=>K .normal T H
  |false=>K (.exit i) T H
 |.ret=>K .ret T H
def arz(id:Nat)(c:XC)(r:RC)(G:gK)(C:aI)(T:TS)(H:SH)(K:KC):Bool:=r G C T H (WE id K)
noncomputable def TJ(r:RC)(G:gK)(C:aI)(K:KC)(n:Nat):TS→SH→Bool :=
 Nat.rec (motive:=fun _=>TS→SH→Bool) (fun _ _=>false) (fun _ ih T H=>r G C T H fun e T' H'=>TL e T' H' ih K) n
noncomputable def as1(c:XC)(r:RC)(G:gK)(C:aI)(T:TS)(H:SH)(K:KC):Bool:=TJ r G C K 100000 T H
noncomputable def O7(e:XE)(n:Bool):Bool:=match e with
 |.normal=>n
 |_=>false
noncomputable def aij(p:Option Ky)(T:TS)(v:SV):TS:=match p with
 |some k=>ru .top k T v
 |none=>T
noncomputable def aoD(x:XO)(p:Option Ky)(a b:XC)(ra rb:RC)(G:gK)(C:aI)(T:TS)(H:SH)(K:KC):Bool :=
 G C (ev x [] T) H (fun v H' next=>ra G C (aij p T v) H' fun e T2 H2=>O7 e (rb G C T2 H2 fun e T3 H3=>O7 e (next H3))) fun H'=>K .normal T H'
def asS(id:Nat)(G:gK)(C:aI)(T:TS)(H:SH)(K:KC):Bool:=K (.exit id) T H
def axs(G:gK)(C:aI)(T:TS)(H:SH)(K:KC):Bool:=K .ret T H
def aDR(G:gK)(C:aI)(T:TS)(H:SH)(K:KC):Bool:=false
noncomputable def pK(X:jA)(Y:YS)(c:XC):RC:=XC.rec (motive:=fun _=>RC) as5 (asc X Y) (aov X) aAM abH arz as1 aoD asS axs aDR c
noncomputable def DN(H:SH)(T:TS)(K:List SV→Bool):List (Ky×Option Nat)→(List SV→List SV)→Bool
 |[],acc=>K (acc [])
 |(t,none)::r,acc=>DN H T K r fun l=>acc (qm .top t T::l)
 |(t,some n)::r,acc=>match qm .top t T with
  |.ptr b o=>match n with
   |0=>ld1 H b o fun v=>DN H T K r fun l=>acc (v::l)
   |.succ m=>match qK H b o (Nat.succ m)with
    |some vs=>DN H T K r fun l=>acc (.agg vs::l)
    |none=>false
  |_=>false
def Ew(K:KS)(H:SH)(vs:List SV):Bool:=match vs with
 |[v]=>K v H
 |vs=>K (.tup vs) H
noncomputable def aCo(res:List (Ky×Option Nat))(K:KS)(e:XE)(T:TS)(H:SH):Bool:=match e with
 |.exit _=>false
 |.normal=>DN H T (Ew K H) res fun l=>l
 |.ret=>DN H T (Ew K H) res fun l=>l
noncomputable def JO:List (Option Ky)→List SV→TS→TS
 |k::ks,x::r,t=>match k with
  |some k=>JO ks r (ru .top k t x)
  |none=>JO ks r t
 |_,_,t=>t
def WN:List (Option Ky)→Nat
 |[]=>0
 |_::r=>Nat.succ (WN r)
noncomputable def call2(X:jA)(G:gK)(C:aI)(args:List SV)(H:SH)(K:KS)(x:zJ):Bool:=match x with
 |.mk nt ks body res=>match Nat.ble (iy args) nt,Nat.ble (iy args) (WN ks)with
  |true,true=>pK X uo body G C (JO ks args .leaf) H (aCo res K)
  |_,_=>false
noncomputable def aaQ(F:Nat→Option zJ)(N:Nat→Option NC)(X:jA)(G:gK)(C:aI)(f:Nat)(args:List SV)(H:SH)(K:KS):Bool :=
 match F f with
 |none=>false
 |some x=>call2 X G C args H K x
noncomputable def Dq(F:Nat→Option zJ)(N:Nat→Option NC)(X:jA)(G:gK)(n:Nat):aI :=
 Nat.rec (motive:=fun _=>aI) (fun _ _ _ _=>false) (fun _ ih=>aaQ F N X G ih) n
noncomputable def UO(k0:Ky)(round:SV→SH→(SH→Bool)→Bool):YS:=fun k args H K=>match mU k k0 with
 |true=>match args with
  |[v]=>round v H fun H'=>K (.b true) H'
  |_=>false
 |false=>false
def Qj:gK:=fun _ _ _ _ _=>false
def alu(e:XE)(x:Bool):Bool:=match e with
 |.exit _=>false
 |.normal=>x
 |.ret=>x
noncomputable def akr(X:jA)(C:aI)(nM:List SV)(H:SH)(round:SV→SH→(SH→Bool)→Bool)(fin:SH→Bool)(x:zJ):Bool:=match x with
 |.mk nt ks body res=>match Nat.ble (Nat.succ (iy nM)) nt,Nat.ble (Nat.succ (iy nM)) (WN ks),res with
  |true,true,[]=>pK X (UO H.nx round) body Qj C (JO ks (.bs H.nx::nM) .leaf) (hpush H .gone) (fun e _ H'=>alu e (fin H'))
  |_,_,_=>false
noncomputable def Dv(F:Nat→Option zJ)(X:jA):gK:=fun C x H round fin=>match x with
 |.fn g [] nM=>match F g with
  |some x=>akr X C nM H round fin x
  |none=>false
 |_=>false
def uvN:Nat→Nat→SB
 |0,_=>[]
 |.succ f,n=>match Nat.blt n 128 with
  |true=>[.c n]
  |false=>.c (Nat.add (Nat.mod n 128) 128)::uvN f (Nat.div n 128)
def rdN:Nat→SB→Option (Nat×SB)
 |.succ f,.c x::r=>match Nat.blt x 128 with
  |true=>some (x,r)
  |false=>match rdN f r with
   |some (0,_)=>none
   |some (v,r')=>some (Nat.add (Nat.sub x 128) (Nat.mul 128 v),r')
   |none=>none
 |_,_=>none
noncomputable def Lr(t:Nat)(H:SH)(x:SV):Option (Ky×Ky×SB):=match x with
 |.ptr b 0=>match hget H b with
  |.row [.bs c,.b false] false el=>match Nat.beq el t,hget H c with
   |true,.byt s _ _=>some (b,c,s)
   |_,_=>none
  |_=>none
 |_=>none
noncomputable def Bv(H:SH)(b c:Ky)(s:SB)(K:SH→Bool):Bool:=match hget H b,hget H c with
 |.row [_,f] o el,.byt _ _ el'=>K (hput (hpush (hput H c .gone) (.byt s false el')) b (.row [.bs H.nx,f] o el))
 |_,_=>false
def OC:List SV→Option (List (List Nat×List Nat))
 |[]=>some []
 |.s a :: .s b::r=>match iL a,iL b,OC r with
  |some x,some y,some l=>some ((x,y)::l)
  |_,_,_=>none
 |_=>none
noncomputable def T9(H:SH)(v:SV):Option (List (List Nat×List Nat)):=match rowOf v H 2 with
 |some (_,cs)=>OC cs
 |none=>none
def Ku:List (List Nat×List Nat)→List SV
 |[]=>[.s [.c 67,.c 111,.c 110,.c 116,.c 101,.c 110,.c 116,.c 45,.c 76,.c 101,.c 110,.c 103,.c 116,.c 104],.s [.u 1 9]]
 |(a,b)::r=>.s (J7 a) :: .s (J7 b)::Ku r
def MF:List (List Nat×List Nat)→Nat
 |[]=>1
 |_::r=>Nat.succ (MF r)
noncomputable def Je(H:SH)(v:SV):Option SB:=match v with
 |.s _=>none
 |v=>oq H v
noncomputable def total(H:SH)(cl:Nat)(K:Nat→Nat→Bool):List (SV×SV×Nat)→Nat→Nat→Nat→Bool
 |[],_,lo,hi=>K lo hi
 |(_,v,n)::r,lb,lo,hi=>match Nat.ble lb n,Nat.blt n cl with
  |true,true=>match v with
   |.ptr b 0=>match hget H b with
    |.row (x::_) _ _=>match Je H x with
     |some s=>total H cl K r (Nat.succ n) (Nat.add lo (iq s)) (Nat.add hi (dP s))
     |none=>false
    |_=>false
   |_=>false
  |_,_=>false
def idxOf(n:Nat):List Nat→Nat→Option Nat
 |[],_=>none
 |a::r,i=>match Nat.beq a n with
  |true=>some i
  |false=>idxOf n r (Nat.succ i)
noncomputable def abo(el:Nat)(C:aI)(a:List SV)(H:SH)(K:KS):Bool:=match a with
 |[b,.i .u64 (.ofNat n)]=>match Je H b,Nat.blt n 18446744073709551616 with
  |some s,true=>match Nat.ble (dP s) 1000000000 with
   |true=>K (.bs H.nx) (hpush H (.byt (dR s (uvN 10 n)) true el))
   |false=>false
  |_,_=>false
 |_=>false
noncomputable def aby(el:Nat)(C:aI)(a:List SV)(H:SH)(K:KS):Bool:=match a with
 |[b,.s x]=>match Je H b with
  |some s=>match Nat.blt (dP x) 2097152,Nat.ble (dP s) 900000000 with
   |true,true=>K (.bs H.nx) (hpush H (.byt (dR s [.t x]) true el))
   |_,_=>false
  |none=>false
 |_=>false
noncomputable def X4(t:Nat)(C:aI)(a:List SV)(H:SH)(K:KS):Bool:=match a with
 |[r]=>match Lr t H r with
  |some (b,c,s)=>match rdN 9 s with
   |some (n,s')=>Bv H b c s' (K (.i .u64 (.ofNat n)))
   |none=>false
  |none=>false
 |_=>false
noncomputable def Uw(v:SV):Option Nat:=match Cc v with
 |some (.i64,lo,hi)=>match Nat.blt hi 4294967296 with
  |true=>some lo
  |false=>none
 |_=>none
noncomputable def aaV(t:Nat)(C:aI)(a:List SV)(H:SH)(K:KS):Bool:=match a with
 |[r,m]=>match Lr t H r,Uw m with
  |some (b,c,s),some m=>match rdN 9 s with
   |some (n,s')=>match Nat.ble n m with
    |true=>Bv H b c s' (K (.i .i64 (.ofNat n)))
    |false=>false
   |none=>false
  |_,_=>false
 |_=>false
noncomputable def Wv(t:Nat)(C:aI)(a:List SV)(H:SH)(K:KS):Bool:=match a with
 |[r,m]=>match Lr t H r,Uw m with
  |some (b,c,.t x::s),some m=>match Nat.ble (dP x) m with
   |true=>Bv H b c s (K (.s x))
   |false=>false
  |_,_=>false
 |_=>false
noncomputable def UU(t:Nat)(C:aI)(a:List SV)(H:SH)(K:KS):Bool:=match a with
 |[r]=>match Lr t H r with
  |some (b,c,.c n::s)=>Bv H b c s (K (.i .u8 (.ofNat n)))
  |_=>false
 |_=>false
noncomputable def Yr(el:Nat)(C:aI)(a:List SV)(H:SH)(K:KS):Bool:=match a with
 |[b]=>match Je H b with
  |some s=>match Nat.ble (dP s) 1000000000 with
   |true=>K (.bs H.nx) (hpush H (.byt s true el))
   |false=>false
  |none=>false
 |_=>false
noncomputable def O3(H:SH):List SV→Option SB
 |[]=>some []
 |v::r=>match Je H v,O3 H r with
  |some a,some b=>some (dR a b)
  |_,_=>none
noncomputable def P9(el:Nat)(C:aI)(a:List SV)(H:SH)(K:KS):Bool:=match a with
 |[.slc b 0 n (.ex m)]=>match hget H b with
  |.row cs false _=>match Nat.beq n m,Nat.beq n (iy cs),Nat.ble n 1000,O3 H cs with
   |true,true,true,some s=>match Nat.ble 1 (iq s),Nat.ble (dP s) 1000000000 with
    |true,true=>K (.bs H.nx) (hpush H (.byt s true el))
    |_,_=>false
   |_,_,_,_=>false
  |_=>false
 |_=>false
noncomputable def UL(two:Bool)(C:aI)(a:List SV)(H:SH)(K:KS):Bool:=match two with
 |false=>match a with
  |[b]=>match Je H b with
   |some s=>match Nat.ble (dP s) 1000000000 with
    |true=>K (.iv .u32 0 4294967295) H
    |false=>false
   |none=>false
  |_=>false
 |true=>match a with
  |[c,b]=>match Cc c,Je H b with
   |some (.u32,_,hi),some s=>match Nat.blt hi 4294967296,Nat.ble (dP s) 1000000000 with
    |true,true=>K (.iv .u32 0 4294967295) H
    |_,_=>false
   |_,_=>false
  |_=>false
noncomputable def MW(C:aI)(a:List SV)(H:SH)(K:KS):Bool:=match a with
 |[.s x]=>match Nat.ble (dP x) 1000000000 with
  |true=>K (.tup [.agg (AJ [.iv .u8 0 255] 32),.iv .i64 0 15]) H
  |false=>false
 |_=>false
def Uz(m p:List Nat)(h:List (List Nat×List Nat)):List (List Nat×List Nat×List (List Nat×List Nat))→Bool
 |[]=>false
 |(a,b,c)::r=>match mP p b&&(mP m a&&Ac h c)with
  |true=>true
  |false=>Uz m p h r
def PY(n:Nat)(h:List (List Nat×List Nat)):List (Nat×List (List Nat×List Nat))→Bool
 |[]=>false
 |(a,c)::r=>match Nat.beq n a&&Ac h c with
  |true=>true
  |false=>PY n h r
noncomputable def Xe(el:Nat)(tab:List (List Nat×List Nat×List (List Nat×List Nat)))(C:aI)(a:List SV)(H:SH)(K:KS):Bool:=match a with
 |[.agg [.s m,.s q,hs,bd]]=>match iL m,iL q,T9 H hs,Je H bd with
  |some m,some q,some l,some b=>match Uz m q l tab,Nat.ble (dP b) 16384 with
   |true,true=>K (.tup [.bs H.nx,.i .i64 0]) (hpush H (.byt [.q m q l b] true el))
   |_,_=>false
  |_,_,_,_=>false
 |_=>false
noncomputable def QV(el:Nat)(tab:List (Nat×List (List Nat×List Nat)))(C:aI)(a:List SV)(H:SH)(K:KS):Bool:=match a with
 |[.agg [.i .i64 (.ofNat c),hs,bd]]=>match T9 H hs,Je H bd with
  |some l,some b=>match PY c l tab,Nat.ble (dP b) 16384 with
   |true,true=>K (.tup [.bs H.nx,.i .i64 0]) (hpush H (.byt [.r c l b] true el))
   |_,_=>false
  |_,_=>false
 |_=>false
noncomputable def Xo(el eh:Nat)(C:aI)(a:List SV)(H:SH)(K:KS):Bool:=match a with
 |[.bs k]=>match hget H k with
  |.byt [.q m q l bd] _ _=>K (.tup [.agg [.s (J7 m),.s (J7 q),.slc H.nx 0 (MF l) (.op 2),.bs (GG H.nx)],.ln [.q m q l bd],.i .i64 0]) (hpush (hpush H (.row (Ku l) true eh)) (.byt bd true el))
  |_=>false
 |_=>false
noncomputable def Qq(el eh:Nat)(C:aI)(a:List SV)(H:SH)(K:KS):Bool:=match a with
 |[.bs k]=>match hget H k with
  |.byt [.r c l bd] _ _=>K (.tup [.agg [.i .i64 (.ofNat c),.slc H.nx 0 (MF l) (.op 2),.bs (GG H.nx)],.ln [.r c l bd],.i .i64 0]) (hpush (hpush H (.row (Ku l) true eh)) (.byt bd true el))
  |_=>false
 |_=>false
noncomputable def Xn(C:aI)(a:List SV)(H:SH)(K:KS):Bool:=match a with
 |[.ptr d 0]=>match hget H d with
  |.row l _ _=>match lT l 1 with
   |some (.map m)=>match hget H m with
    |.map es cl=>total H cl (fun lo hi=>match Nat.blt hi 4611686018427387904 with
     |true=>K (.iv .i64 lo hi) H
     |false=>false) es 0 0 0
    |_=>false
   |_=>false
  |_=>false
 |_=>false
noncomputable def Qm(C:aI)(a:List SV)(H:SH)(K:KS):Bool:=match a with
 |[.ifc t (.map m)]=>match hget H m with
  |.map es c=>K (.ifc t (.map H.nx)) (hpush H (.map es c))
  |_=>false
 |_=>false
noncomputable def ai2(kd:IntKind)(C:aI)(a:List SV)(H:SH)(K:KS):Bool:=match a with
 |[.ptr b o,.i k1 y]=>match Df k1 kd,qK H b o 1 with
  |true,some [.i k x]=>match Df k kd,zD H b o [.i kd (nJ kd (Int.add x y))]with
   |true,some H'=>K (.i kd (nJ kd (Int.add x y))) H'
   |_,_=>false
  |_,_=>false
 |_=>false
noncomputable def ab1(kd:IntKind)(C:aI)(a:List SV)(H:SH)(K:KS):Bool:=match a with
 |[.ptr b o]=>match qK H b o 1 with
  |some [.i k x]=>match Df k kd with
   |true=>K (.i kd x) H
   |false=>false
  |_=>false
 |_=>false
def abk(C:aI)(a:List SV)(H:SH)(K:KS):Bool:=match a with
 |[x]=>K x H
 |_=>false
def adl(C:aI)(a:List SV)(H:SH)(K:KS):Bool:=match a with
 |[.s x,.i .u8 (.ofNat n)]=>match Nat.blt n 256 with
  |true=>match iL x with
   |some l=>match idxOf n l 0 with
    |some i=>K (.i .i64 (.ofNat i)) H
    |none=>K (.i .i64 (.negSucc 0)) H
   |none=>false
  |false=>false
 |_=>false
noncomputable def adp(C:aI)(a:List SV)(H:SH)(K:KS):Bool:=match a with
 |[.ptr b o,.fn g [] cs]=>match qK H b (Nat.succ o) 1,zD H b (Nat.succ o) [.i .i32 1]with
  |some [.i .i32 (.ofNat 0)],some H1=>match qK H1 b o 1,qK H1 b (Nat.succ o) 1 with
   |some [.i .u32 (.ofNat 0)],some [_]=>C g cs H1 fun _ H2=>match qK H2 b o 1,zD H2 b o [.i .u32 1]with
    |some [.i .u32 _],some H3=>match qK H3 b (Nat.succ o) 1,zD H3 b (Nat.succ o) [.i .i32 0]with
     |some [.i .i32 (.ofNat 1)],some H4=>K .undef H4
     |_,_=>false
    |_,_=>false
   |_,_=>false
  |_,_=>false
 |_=>false
def ndg:Nat→Nat→Nat
 |0,_=>0
 |.succ f,n=>match Nat.blt n 10 with
  |true=>1
  |false=>Nat.succ (ndg f (Nat.div n 10))
def aiN(C:aI)(a:List SV)(H:SH)(K:KS):Bool:=match a with
 |[.i .u64 (.ofNat n)]=>match Nat.ble 1 n,Nat.blt n 18446744073709551616 with
  |true,true=>K (.i .i64 (.ofNat (ndg 20 n))) H
  |_,_=>false
 |_=>false
def abE:List Nat→List Nat→Int
 |[],[]=>0
 |[],_::_=>.negSucc 0
 |_::_,[]=>1
 |a::x,b::y=>match Nat.blt a b with
  |true=>.negSucc 0
  |false=>match Nat.blt b a with
   |true=>1
   |false=>abE x y
def acb(C:aI)(a:List SV)(H:SH)(K:KS):Bool:=match a with
 |[.s a,.s b]=>match iL a,iL b with
  |some l,some m=>K (.i .i64 (abE l m)) H
  |_,_=>false
 |_=>false
def Ud(l:List Nat):List (List Nat×List Nat)→Option (List Nat)
 |[]=>none
 |(m,d)::r=>match mP m l with
  |true=>some d
  |false=>Ud l r
def u8s:List Nat→List SV
 |[]=>[]
 |n::r=>.i .u8 (.ofNat n)::u8s r
def aiq:SV→Bool
 |.bs _=>true
 |.slc _ _ n (.ex m)=>Nat.ble n m
 |.slc _ _ _ (.op e)=>Nat.beq e 1
 |_=>false
noncomputable def agJ(tab:List (List Nat×List Nat))(C:aI)(a:List SV)(H:SH)(K:KS):Bool:=match a with
 |[v]=>match aiq v,Je H v with
  |true,some s=>match iL s with
   |some l=>match Ud l tab with
    |some d=>K (.agg (u8s d)) H
    |none=>false
   |none=>false
  |_,_=>false
 |_=>false
noncomputable def bO(n:Nat):Nat:=match Nat.ble 65 n with
 |true=>match Nat.ble n 90 with
  |true=>Nat.add n 32
  |false=>n
 |false=>n
noncomputable def BF:List Nat→List Nat→Bool
 |[],[]=>true
 |a::x,b::y=>match Nat.beq (bO a) (bO b)with
  |true=>BF x y
  |false=>false
 |_,_=>false
noncomputable def aaM(n:List Nat)(K:Option SB→Bool):List SV→Bool
 |[]=>K none
 |.s a :: .s b::r=>match iL a with
  |some l=>match BF l n with
   |true=>K (some b)
   |false=>aaM n K r
  |none=>false
 |_=>false
def LB:List SV→Bool
 |[]=>true
 |.s a :: .s _::r=>match Nat.ble (dP a) 1000000 with
  |true=>LB r
  |false=>false
 |_=>false
noncomputable def ajm(off:Nat)(C:aI)(a:List SV)(H:SH)(K:KS):Bool:=match a with
 |[.agg cs,.s m]=>match lone cs,Nat.beq (iy cs) (Nat.add off 2),lT cs off,iL m with
  |true,true,some hs,some n=>match rowOf hs H 2 with
   |some (k,l)=>match Nat.ble k 1000000,LB l,Nat.ble (dP m) 1000000 with
    |true,true,true=>aaM n (fun r=>match r with
     |some b=>K (.tup [.s b,.b true]) H
     |none=>K (.tup [.s [],.b false]) H) l
    |_,_,_=>false
   |none=>false
  |_,_,_,_=>false
 |_=>false
mutual
def KF:It→It→Bool
 |.c a,.c b=>Nat.beq a b
 |.a a,.a b=>Nat.beq a b
 |.t a,.t b=>nP a b
 |.u a b,.u c d=>match Nat.beq a c with
  |true=>Nat.beq b d
  |false=>false
 |.q m p h b,.q m' p' h' b'=>mP m m'&&(mP p p'&&(Ac h h'&&nP b b'))
 |.r m h b,.r m' h' b'=>Nat.beq m m'&&(Ac h h'&&nP b b')
 |_,_=>false
def nP:List It→List It→Bool
 |[],[]=>true
 |a::x,b::y=>match KF a b with
  |true=>nP x y
  |false=>false
 |_,_=>false
end
mutual
noncomputable def mJ:SV→SV→Bool
 |.b a,.b b=>IR a b
 |.i k a,.i l b=>match Df k l with
  |true=>DC a b
  |false=>false
 |.iv k a b,.iv l c d=>match Df k l,Nat.beq a c with
  |true,true=>Nat.beq b d
  |_,_=>false
 |.ln a,.ln b=>nP a b
 |.s a,.s b=>nP a b
 |.o a,.o b=>match a,b with
  |.pointer none,.pointer none=>true
  |.map none,.map none=>true
  |.nilFunc,.nilFunc=>true
  |.nilIface,.nilIface=>true
  |_,_=>false
 |.ns,.ns=>true
 |.top,.top=>true
 |.ptr a b,.ptr c d=>match mU a c with
  |true=>Nat.beq b d
  |false=>false
 |.slc a b c d,.slc a' b' c' d'=>match mU a a',Nat.beq b b',Nat.beq c c' with
  |true,true,true=>aaG d d'
  |_,_,_=>false
 |.emp a,.emp b=>mU a b
 |.bs a,.bs b=>mU a b
 |.map a,.map b=>mU a b
 |.fn f x y,.fn g u v=>match Nat.beq f g,jY x u with
  |true,true=>jY y v
  |_,_=>false
 |.ifc t v,.ifc u w=>match Nat.beq t u with
  |true=>mJ v w
  |false=>false
 |.agg x,.agg y=>jY x y
 |.tup x,.tup y=>jY x y
 |_,_=>false
noncomputable def jY:List SV→List SV→Bool
 |[],[]=>true
 |a::x,b::y=>match mJ a b with
  |true=>jY x y
  |false=>false
 |_,_=>false
end
noncomputable def Lv:List (SV×SV×Nat)→List (SV×SV×Nat)→Bool
 |[],[]=>true
 |(a,b,n)::x,(c,d,m)::y=>match mJ a c,mJ b d,Nat.beq n m with
  |true,true,true=>Lv x y
  |_,_,_=>false
 |_,_=>false
noncomputable def Bd:Bk→Bk→Bool
 |.row l o e,.row l' o' e'=>match IR o o',Nat.beq e e' with
  |true,true=>jY l l'
  |_,_=>false
 |.fro l e,.fro l' e'=>match Nat.beq e e' with
  |true=>jY l l'
  |false=>false
 |.byt x o e,.byt x' o' e'=>match IR o o',Nat.beq e e' with
  |true,true=>nP x x'
  |_,_=>false
 |.map l c,.map l' c'=>match Nat.beq c c' with
  |true=>Lv l l'
  |false=>false
 |.iter m s l t,.iter m' s' l' t'=>match mU m m',Nat.beq s s',mP l l' with
  |true,true,true=>Nat.beq t t'
  |_,_,_=>false
 |_,_=>false
noncomputable def zL(H:SH):List (Ky×Bk)→Bool
 |[]=>true
 |(k,x)::r=>match Bd (hget H k) x with
  |true=>zL H r
  |false=>false
noncomputable def aaO:List (Ky×Bk)→Qt Bk
 |[]=>.leaf
 |(k,x)::r=>ru .gone k (aaO r) x
noncomputable def uN(n:Ky)(l:List (Ky×Bk)):SH:=.mk n (aaO l)
noncomputable def Fx(K:KS):List (SV×Ky×List (Ky×Bk))→Bool
 |[]=>true
 |(v,n,l)::r=>match K v (uN n l)with
  |true=>Fx K r
  |false=>false
noncomputable def DF(v:SV)(H:SH):List (SV×Ky×List (Ky×Bk))→Bool
 |[]=>false
 |(u,n,l)::r=>match mU H.nx n with
  |true=>match mJ v u with
   |true=>match zL H l with
    |true=>true
    |false=>DF v H r
   |false=>DF v H r
  |false=>DF v H r
noncomputable def aiJ(f:Nat)(l:List Cut)(C:aI)(a:List SV)(H:SH)(K:KS):Bool:=List.rec (motive:=fun _=>Bool) (C f a H K) (fun c _ ih=>match c with
 |.mk n args bs outs=>match mU H.nx n with
  |true=>match jY a args with
   |true=>match zL H bs with
    |true=>Fx K outs
    |false=>false
   |false=>false
  |false=>ih) l
noncomputable def gL(c:NC):ajd:=NC.rec (motive:=fun _=>ajd) abo aby X4 aaV Wv UU Yr P9 UL MW Xe QV Xo Qq Xn Qm ai2 ab1 abk adl adp aiN acb agJ ajm aiJ c
abbrev bQ:=List UInt8
def Te:Nat→Nat→bQ
 |0,_=>[]
 |f+1,n=>if n<128 then[UInt8.ofNat n]else UInt8.ofNat (n%128+128)::Te f (n / 128)
structure Gd where
 at' : Nat→bQ
 rq:List Nat→List Nat→List (List Nat×List Nat)→bQ→bQ→Prop
 rs:Nat→List (List Nat×List Nat)→bQ→bQ→Prop
 rqL:∀ {m p h b s},rq m p h b s→b.length+20≤s.length∧s.length≤b.length+3000
 rsL:∀ {c h b s},rs c h b s→b.length+20≤s.length∧s.length≤b.length+3000
 rqF:∀ {m p h b s t},rq m p h b s→rq m p h b t→s=t
 rsF:∀ {c h b s t},rs c h b s→rs c h b t→s=t
mutual
inductive BM(G:Gd):It→bQ→Prop
 |c (n:Nat):n<256→BM G (.c n) [UInt8.ofNat n]
 |a (k:Nat):(G.at' k).length≤100→BM G (.a k) (G.at' k)
 |t (x:List It) (l:bQ):bG G x l→l.length<2097152→BM G (.t x) (Te 10 l.length++l)
 |u (lo hi:Nat) (l:bQ):lo≤l.length→l.length≤hi→BM G (.u lo hi) l
 |q (m p:List Nat) (h:List (List Nat×List Nat)) (b:List It) (l s:bQ):bG G b l→G.rq m p h l s→BM G (.q m p h b) s
 |r (c:Nat) (h:List (List Nat×List Nat)) (b:List It) (l s:bQ):bG G b l→G.rs c h l s→BM G (.r c h b) s
inductive bG(G:Gd):List It→bQ→Prop
 |nil:bG G [] []
 |cons (i:It) (x:List It) (l m:bQ):BM G i l→bG G x m→bG G (i::x) (l++m)
end
theorem bB{a b:Nat}(h:Nat.beq a b=true):a=b:=Nat.eq_of_beq_eq_true h
theorem AU{a b:Nat}(h:Nat.beq a b=false):a≠b:=Nat.ne_of_beq_eq_false h
theorem eH{a b:Nat}(h:Nat.blt a b=true):a<b:=Nat.le_of_ble_eq_true h
theorem Qg{a b:Nat}(h:Nat.blt a b=false):b≤a:=by
 have:¬ (a+1≤b):=fun hc=>by have:=Nat.ble_eq_true_of_le hc;rw[show Nat.blt a b=Nat.ble (a+1) b from rfl]at h;rw[h]at this;cases this
 omega
theorem bP{a b:Nat}(h:Nat.ble a b=true):a≤b:=Nat.le_of_ble_eq_true h
theorem WB{a b:Nat}(h:Nat.ble a b=false):b<a:=by
 have:¬ (a≤b):=fun hc=>by rw[Nat.ble_eq_true_of_le hc]at h;cases h
 omega
theorem jl:∀ {a b:List Nat},mP a b=true→a=b
 |[],[],_=>rfl
 |[],_::_,h=>by cases h
 |_::_,[],h=>by cases h
 |a::x,b::y,h=>by
  unfold mP at h
  split at h
  ·rename_i h1;rw[bB h1,jl h]
  ·cases h
theorem rP:∀ {a b:List (List Nat×List Nat)},Ac a b=true→a=b
 |[],[],_=>rfl
 |[],_::_,h=>by cases h
 |_::_,[],h=>by cases h
 |(a,b)::x,(c,d)::y,h=>by
  simp only[Ac,Bool.and_eq_true]at h
  rw[jl h.1,jl h.2.1,rP h.2.2]
section
variable {G:Gd}
theorem alH:∀ (f n:Nat),n<2097152→3≤f→(Te f n).length=Db n:=by
 intro f n hn hf
 obtain⟨f,rfl⟩ : ∃ g,f=g+3:=⟨f-3,by omega⟩
 unfold Db
 by_cases h1:n<128
 ·simp[Te,h1]
 ·by_cases h2:n<16384
  ·simp[Te,h1,h2,show n / 128<128 by omega]
  ·simp[Te,h1,h2,hn,show ¬ n / 128<128 by omega,show n / 128 / 128<128 by omega]
theorem acF{a b:Nat}(h:a≤b):Db a≤Db b:=by
 unfold Db
 by_cases h1:a<128<;>by_cases h2:a<16384<;>by_cases h3:a<2097152<;>by_cases h4:b<128<;>by_cases h5:b<16384<;>by_cases h6:b<2097152<;>simp only[h1,h2,h3,h4,h5,h6,if_true,if_false]<;>omega
theorem adG(a:Nat):1≤Db a:=by
 unfold Db
 split
 ·omega
 ·split
  ·omega
  ·split<;>omega
mutual
theorem akZ:∀ {i:It}{l:bQ},BM G i l→Hy i≤l.length∧l.length≤Ii i
 |_,_,.c n h=>by simp[Hy,Ii]
 |_,_,.a k h=>by simp[Hy,Ii,Zz,h]
 |_,_,.t x l h hl=>by
  have hx:=bJ h
  have:=alH 10 l.length hl (by omega)
  have h1:=adG l.length
  have h2:=acF hx.2
  simp only[Hy,Ii,List.length_append]
  omega
 |_,_,.u lo hi l h1 h2=>⟨h1,h2⟩
 |_,_,.q m p h b l s hb hq=>by
  have:=bJ hb
  have:=G.rqL hq
  simp only[Hy,Ii];omega
 |_,_,.r c h b l s hb hq=>by
  have:=bJ hb
  have:=G.rsL hq
  simp only[Hy,Ii];omega
theorem bJ:∀ {x:List It}{l:bQ},bG G x l→iq x≤l.length∧l.length≤dP x
 |_,_,.nil=>by simp[iq,dP]
 |_,_,.cons i x l m h hx=>by
  have:=akZ h
  have:=bJ hx
  simp only[iq,dP,List.length_append];omega
end
mutual
theorem al7:∀ {i:It}{l:bQ},BM G i l→∀ {j:It}{m:bQ},BM G j m→acm i j=true→l=m
 |_,_,.c n h1,_,_,h2,h=>by
  cases h2 <;>try(cases h;done)
  rename_i k hk
  rw[bB (show Nat.beq n k=true from h)]
 |_,_,.a n h1,_,_,h2,h=>by
  cases h2 <;>try(cases h;done)
  rename_i k hk
  rw[bB (show Nat.beq n k=true from h)]
 |_,_,.t x l h1 hl,_,_,h2,h=>by
  cases h2 <;>try(cases h;done)
  rename_i y m h3 h4
  rw[Bc h1 h3 (show rO x y=true from h)]
 |_,_,.u lo hi l h1 hl,_,_,h2,h=>by cases h2<;>cases h
 |_,_,.q m p hs b l s h1 h2,_,_,h3,h=>by
  cases h3 <;>try(cases h;done)
  rename_i h3 h4
  simp only[acm,Bool.and_eq_true]at h
  obtain⟨e1,e2,e3,e4⟩:=h
  cases jl e1;cases jl e2;cases rP e3
  cases Bc h1 h3 e4
  exact G.rqF h2 h4
 |_,_,.r c hs b l s h1 h2,_,_,h3,h=>by
  cases h3 <;>try(cases h;done)
  rename_i h3 h4
  simp only[acm,Bool.and_eq_true]at h
  obtain⟨e1,e3,e4⟩:=h
  cases bB e1;cases rP e3
  cases Bc h1 h3 e4
  exact G.rsF h2 h4
theorem Bc:∀ {x:List It}{l:bQ},bG G x l→∀ {y:List It}{m:bQ},bG G y m→rO x y=true→l=m
 |_,_,.nil,_,_,h2,h=>by
  cases h2 with
  |nil=>rfl
  |cons=>cases h
 |_,_,.cons i x l m h1 h2,_,_,h3,h=>by
  cases h3 with
  |nil=>cases h
  |cons j y l' m' h3 h4 =>
   simp only[rO]at h
   split at h
   ·rename_i hi
    rw[al7 h1 h3 hi,Bc h2 h4 h]
   ·cases h
end
theorem EY{x y:List It}{l m:bQ}(h:rO x y=true)(hx:bG G x l)(hy:bG G y m):l=m:=Bc hx hy h
theorem pu:∀ {x:List It}{l:bQ},bG G x l→∀ {y:List It}{m:bQ},bG G y m→bG G (dR x y) (l++m)
 |_,_,.nil,_,_,h=>h
 |_,_,.cons i x l m h1 h2,_,_,h=>by rw[List.append_assoc];exact .cons _ _ _ _ h1 (pu h2 h)
theorem Ay{i:It}{l:bQ}(h:BM G i l):bG G [i] l:=by simpa using bG.cons i [] l [] h .nil
theorem SX:∀ {x:List It}{l:bQ},bG G x l→∀ {y:List It}{m:bQ},bG G y m→KH x y=true→l≠m
 |_,_,.nil,_,_,_,h=>by cases h
 |_,_,.cons i x l m h1 h2,_,_,h3,h=>by
  cases h3 with
  |nil=>cases i<;>cases h
  |cons j y l' m' h3 h4 =>
   cases h1<;>cases h3 <;>try(cases h;done)
   rename_i n hn k hk
   simp only[KH]at h
   split at h
   ·rename_i he
    intro e
    simp only[List.cons_append,List.nil_append,List.cons.injEq]at e
    exact SX h2 h4 h e.2
   ·rename_i he
    intro e
    simp only[List.cons_append,List.nil_append,List.cons.injEq]at e
    have:=congrArg UInt8.toNat e.1
    simp only[UInt8.toNat_ofNat']at this
    have:=AU he
    omega
theorem akY{x y:List It}{l m:bQ}(h:ahn x y=true)(hx:bG G x l)(hy:bG G y m):l≠m:=by
 unfold ahn at h
 have h1:=bJ hx
 have h2:=bJ hy
 cases hh:KH x y with
 |true=>exact SX hx hy hh
 |false =>
  rw[hh]at h
  intro e
  have e:=congrArg List.length e
  cases h3:Nat.blt (dP x) (iq y)with
  |true=>have:=eH h3;omega
  |false =>
   rw[h3]at h
   have:=eH (show Nat.blt (dP y) (iq x)=true from h)
   omega
theorem fG:∀ {x:List It}{l:bQ},bG G x l→∀ {ns:List Nat},iL x=some ns→l=ns.map UInt8.ofNat∧(∀ n∈ns,n<256)
 |_,_,.nil,_,h=>by cases h;exact⟨rfl,fun _ h=>by cases h⟩
 |_,_,.cons i x l m h1 h2,_,h=>by
  cases h1 <;>try(simp[iL]at h;done)
  rename_i n hn
  simp only[iL]at h
  split at h <;>try(cases h;done)
  rename_i ns hs
  cases h
  obtain⟨e,hb⟩:=fG h2 hs
  rw[e]
  exact⟨rfl,fun k hk=>by rcases List.mem_cons.1 hk with rfl|hk;exact hn;exact hb k hk⟩
theorem vD:∀ {ns:List Nat},(∀ n∈ns,n<256)→bG G (J7 ns) (ns.map UInt8.ofNat)
 |[],_=>.nil
 |n::ns,h=>.cons _ _ [UInt8.ofNat n] _ (.c n (h n (List.mem_cons_self ..))) (vD fun k hk=>h k (List.mem_cons_of_mem _ hk))
theorem G7:∀ {n:Nat}{x p r:List It}{l:bQ},aA n x=some (p,r)→bG G x l→n≤l.length∧bG G p (l.take n)∧bG G r (l.drop n):=by
 intro n
 induction n with
 |zero=>intro x p r l h hx;simp only[aA]at h;cases h;exact⟨Nat.zero_le _,.nil,hx⟩
 |succ n ih =>
  intro x p r l h hx
  cases hx with
  |nil=>simp[aA]at h
  |cons i x l m h1 h2 =>
   cases h1 <;>try(simp[aA]at h;done)
   rename_i k hk
   simp only[aA]at h
   split at h <;>try(cases h;done)
   rename_i p r hs
   cases h
   obtain⟨e,hp,hr⟩:=ih hs h2
   simp only[List.cons_append,List.nil_append,List.take_succ_cons,List.drop_succ_cons,List.length_cons]
   exact⟨by omega,.cons _ _ [_] _ (.c k hk) hp,hr⟩
end
def iZ:AV→Prop
 |.slc _ _ n (.ex c)=>n≤c
 |.slc _ _ _ (.op e)=>e=1
 |_=>True
structure En where
 g:Gd
 bs:Base
 bl:Ky→Option Nat
 sl:Ky→Option AV
 sl1:∀ k v,sl k=some v→v.cells=[v]∧oneCell v=true∧iZ v
structure En.le(E E' : En):Prop where
 g:E'.g=E.g
 bl:∀ k b,E.bl k=some b→E'.bl k=some b
 sl:∀ k v,E.sl k=some v→E'.sl k=some v
 bs:E'.bs=E.bs
theorem En.le.refl(E:En):E.le E:=⟨rfl,fun _ _ h=>h,fun _ _ h=>h,rfl⟩
theorem En.le.trans{E E1 E2:En}(h:E.le E1)(k:E1.le E2):E.le E2:=⟨k.g.trans h.g,fun _ _ e=>k.bl _ _ (h.bl _ _ e),fun _ _ e=>k.sl _ _ (h.sl _ _ e),k.bs.trans h.bs⟩
mutual
inductive SR(E:En):SV→AV→Prop
 |top (v:AV):SR E .top v
 |b (x:Bool):SR E (.b x) (Bo x)
 |i (k:IntKind) (n:Int):SR E (.i k n) (N k n)
 |iv (k:IntKind) (lo hi n:Nat):lo≤n→n≤hi→SR E (.iv k lo hi) (N k (n:Int))
 |s (x:SB) (l:bQ):bG E.g x l→SR E (.s x) (St l)
 |ln (x:SB) (l:bQ):bG E.g x l→SR E (.ln x) (N .i64 (l.length:Int))
 |ns:SR E .ns (.sc (.slice none 0 0))
 |o (v:Value):SR E (.o v) (.sc v)
 |ptr (k:Ky) (o b:Nat):E.bl k=some b→SR E (.ptr k o) (.ptr b o)
 |pw (k:Ky) (lo hi n b:Nat):E.bl k=some b→lo≤n→n≤hi→SR E (.pw k lo hi) (.ptr b n)
 |slc (k:Ky) (o n b:Nat) (c:Cap):E.bl k=some b→SR E (.slc k o n c) (.slc b o n c)
 |emp (k:Ky) (b:Nat):SR E (.emp k) (.emp b)
 |bs (k:Ky) (v:AV):E.sl k=some v→SR E (.bs k) v
 |map (k:Ky) (b:Nat):E.bl k=some b→SR E (.map k) (.map b)
 |fn (f:Nat) (xs ys:List SV) (us vs:List AV):aP E xs us→aP E ys vs→SR E (.fn f xs ys) (.fn (.func f) us vs)
 |ifc (t:Nat) (x:SV) (v:AV):SR E x v→SR E (.ifc t x) (.ifc t v)
 |agg (l:List SV) (vs:List AV):aP E l vs→SR E (.agg l) (.agg vs)
 |tup (l:List SV) (vs:List AV):aP E l vs→SR E (.tup l) (.tup vs)
inductive aP(E:En):List SV→List AV→Prop
 |nil:aP E [] []
 |cons (x:SV) (v:AV) (xs:List SV) (vs:List AV):SR E x v→aP E xs vs→aP E (x::xs) (v::vs)
end
mutual
theorem SR.mono{E E' : En}(h:E.le E'):∀ {x:SV}{v:AV},SR E x v→SR E' x v
 |_,_,.top v=>.top v
 |_,_,.b x=>.b x
 |_,_,.i k n=>.i k n
 |_,_,.iv k lo hi n a b=>.iv k lo hi n a b
 |_,_,.s x l d=>.s x l (h.g▸d)
 |_,_,.ln x l d=>.ln x l (h.g▸d)
 |_,_,.ns=>.ns
 |_,_,.o v=>.o v
 |_,_,.ptr k o b e=>.ptr k o b (h.bl _ _ e)
 |_,_,.pw k lo hi n b e p q=>.pw k lo hi n b (h.bl _ _ e) p q
 |_,_,.slc k o n b c e=>.slc k o n b c (h.bl _ _ e)
 |_,_,.emp k b=>.emp k b
 |_,_,.bs k v e=>.bs k v (h.sl _ _ e)
 |_,_,.map k b e=>.map k b (h.bl _ _ e)
 |_,_,.fn f xs ys us vs a b=>.fn f xs ys us vs (aP.mono h a) (aP.mono h b)
 |_,_,.ifc t x v a=>.ifc t x v (SR.mono h a)
 |_,_,.agg l vs a=>.agg l vs (aP.mono h a)
 |_,_,.tup l vs a=>.tup l vs (aP.mono h a)
theorem aP.mono{E E' : En}(h:E.le E'):∀ {xs:List SV}{vs:List AV},aP E xs vs→aP E' xs vs
 |_,_,.nil=>.nil
 |_,_,.cons x v xs vs a b=>.cons x v xs vs (SR.mono h a) (aP.mono h b)
end
section
variable {E:En}
theorem aP.length:∀ {xs:List SV}{vs:List AV},aP E xs vs→iy xs=vs.length
 |_,_,.nil=>rfl
 |_,_,.cons x v xs vs a b=>by simp only[iy,List.length_cons,aP.length b]
theorem aP.lT:∀ {xs:List SV}{vs:List AV},aP E xs vs→∀ {n:Nat}{x:SV},lT xs n=some x→∃ v,vs[n]?=some v∧SR E x v
 |_,_,.nil,_,_,h=>by simp[Go.Ab.Sy.lT]at h
 |_,_,.cons x v xs vs a b,n,y,h=>by
  cases n with
  |zero=>simp only[Go.Ab.Sy.lT]at h;cases h;exact⟨v,rfl,a⟩
  |succ n=>simp only[Go.Ab.Sy.lT]at h;obtain⟨u,e,r⟩:=aP.lT b h;exact⟨u,by simpa using e,r⟩
theorem aP.oo:∀ (n:Nat){xs:List SV}{vs:List AV},aP E xs vs→aP E (oo n xs) (vs.drop n)
 |0,_,_,h=>by simpa [Go.Ab.Sy.oo]using h
 |n+1,_,_,.nil=>by simpa [Go.Ab.Sy.oo]using aP.nil
 |n+1,_,_,.cons x v xs vs a b=>by simpa [Go.Ab.Sy.oo]using aP.oo n b
theorem aP.kL:∀ (n:Nat){xs:List SV}{vs:List AV},aP E xs vs→∀ {ys:List SV},kL n xs=some ys→n≤vs.length∧aP E ys (vs.take n)
 |0,_,_,h,_,e=>by simp only[Go.Ab.Sy.kL]at e;cases e;exact⟨Nat.zero_le _,by simpa using aP.nil⟩
 |n+1,_,_,.nil,_,e=>by simp[Go.Ab.Sy.kL]at e
 |n+1,_,_,.cons x v xs vs a b,_,e=>by
  simp only[Go.Ab.Sy.kL]at e
  split at e <;>try(cases e;done)
  rename_i r hr
  cases e
  obtain⟨h1,h2⟩:=aP.kL n b hr
  exact⟨by simp only[List.length_cons];omega,.cons _ _ _ _ a h2⟩
theorem aP.rZ:∀ {xs:List SV}{vs:List AV},aP E xs vs→∀ {ys:List SV}{us:List AV},aP E ys us→aP E (rZ xs ys) (vs++us)
 |_,_,.nil,_,_,h=>h
 |_,_,.cons x v xs vs a b,_,_,h=>.cons _ _ _ _ a (aP.rZ b h)
theorem aP.aj8:∀ {ys:List SV}{us:List AV},aP E ys us→∀ {xs:List SV}{vs:List AV},aP E xs vs→∀ {zs:List SV},pz xs 0 ys=some zs→us.length≤vs.length∧aP E zs (us++vs.drop us.length)
 |_,_,.nil,xs,vs,h,_,e=>by cases xs<;>simp only[pz]at e<;>cases e<;>exact⟨Nat.zero_le _,by simpa using h⟩
 |_,_,.cons y u ys us a b,_,_,.nil,_,e=>by simp[pz]at e
 |_,_,.cons y u ys us a b,_,_,.cons x v xs vs c d,_,e=>by
  simp only[pz]at e
  split at e <;>try(cases e;done)
  rename_i r hr
  cases e
  obtain⟨h1,h2⟩:=aP.aj8 b d hr
  exact⟨by simp only[List.length_cons];omega,by simpa using aP.cons _ _ _ _ a h2⟩
theorem aP.pz:∀ (o:Nat){xs:List SV}{vs:List AV},aP E xs vs→∀ {ys:List SV}{us:List AV},aP E ys us→∀ {zs:List SV},pz xs o ys=some zs→o+us.length≤vs.length∧aP E zs (vs.take o++us++vs.drop (o+us.length))
 |0,_,_,h,_,_,k,_,e=>by
  obtain⟨h1,h2⟩:=aP.aj8 k h e
  exact⟨by omega,by simpa using h2⟩
 |o+1,_,_,.nil,_,_,k,_,e=>by simp[Go.Ab.Sy.pz]at e
 |o+1,_,_,.cons x v xs vs a b,ys,us,k,_,e=>by
  simp only[Go.Ab.Sy.pz]at e
  split at e <;>try(cases e;done)
  rename_i r hr
  cases e
  obtain⟨h1,h2⟩:=aP.pz o b k hr
  refine⟨by simp only[List.length_cons];omega, ?_⟩
  have:o+1+us.length=o+us.length+1:=by omega
  rw[this]
  simpa using aP.cons _ _ _ _ a h2
theorem SR.cells{x:SV}{v:AV}(h:SR E x v)(ht:x≠.top):aP E x.cells v.cells:=by
 cases h with
 |agg l vs a=>exact a
 |top=>exact absurd rfl ht
 |bs k _ e=>rw[(E.sl1 _ _ e).1];exact .cons _ _ _ _ (.bs k _ e) .nil
 |_=>exact .cons _ _ _ _ (by constructor<;>assumption) .nil
theorem SR.one{x:SV}{v:AV}(h:SR E x v)(ho:one x=true):oneCell v=true:=by
 cases h<;>first|(cases ho;done)|rfl|skip
 rename_i k e
 exact(E.sl1 _ _ e).2.1
theorem nu:∀ {xs:List SV}{vs:List AV},aP E xs vs→lone xs=true→vs.all oneCell=true
 |_,_,.nil,_=>rfl
 |_,_,.cons x v xs vs a b,h=>by
  simp only[lone]at h
  split at h
  ·rename_i h1
   simp only[List.all_cons,a.one h1,nu b h,Bool.and_self]
  ·cases h
theorem Ie{x:SV}(h:lone x.cells=true):x≠.top:=by rintro rfl;cases h
end
abbrev fM(l:bQ):List AV:=l.map fun b=>N .u8 b.toNat
inductive mK(E:En):List (SV×SV×Nat)→List (AV×AV×Nat)→Prop
 |nil:mK E [] []
 |cons (k v:SV) (n:Nat) (a b:AV) (x:List (SV×SV×Nat)) (y:List (AV×AV×Nat)):SR E k a→SR E v b→mK E x y→mK E ((k,v,n)::x) ((a,b,n)::y)
def BR(E:En)(M:RM)(k:Ky):Bk→Prop
 |.gone=>True
 |.row l opn el=>∃ b cs,E.bl k=some b∧b<M.next∧M.heap b=some (.row cs opn el 0)∧aP E l cs∧cs.all oneCell=true
 |.fro l el=>∃ b cs fz,E.bl k=some b∧b<M.next∧M.heap b=some (.row cs false el fz)∧aP E l cs∧cs.all oneCell=true
 |.byt x own el=>∃ v l,E.sl k=some v∧bG E.g x l∧(own=true→Own M 0 el 1 v (fM l) l.length∧∀ b∈aJ v,E.bl k=some b)∧aW M 1 v (fM l) l.length
 |.map es c=>∃ b fs,E.bl k=some b∧b<M.next∧M.heap b=some (.map fs c)∧mK E es fs
 |.iter m s seen st=>∃ b bm,E.bl k=some b∧b<M.next∧E.bl m=some bm∧M.heap b=some (.iter (some bm) s seen st)
def bR(E:En)(k:Ky):Bk→List Nat
 |.gone=>[]
 |.byt _ _ _=>match E.sl k with
  |some v=>aJ v
  |none=>[]
 |_=>match E.bl k with
  |some b=>[b]
  |none=>[]
structure HR(E:En)(H:SH)(M:RM):Prop where
 blk:∀ k,BR E M k (hget H k)
 sep:∀ k k' b,b∈bR E k (hget H k)→b∈bR E k' (hget H k')→k=k'
 lt:∀ k b,b∈bR E k (hget H k)→b<M.next
 new:∀ k,H.nx.nat≤k.nat→E.bl k=none∧E.sl k=none
 base:M.base=E.bs
section
variable {E E' : En} {M M' : RM} {H:SH} {k:Ky} {x:Bk}
theorem mK.mono(h:E.le E'):∀ {a:List (SV×SV×Nat)}{b:List (AV×AV×Nat)},mK E a b→mK E' a b
 |_,_,.nil=>.nil
 |_,_,.cons k v n a b x y p q r=>.cons k v n a b x y (p.mono h) (q.mono h) (mK.mono h r)
theorem BR.keep(h:BR E M k x)(hE:E.le E')(hb:M'.base=M.base)(hn:M.next≤M'.next)(hh:∀ b∈bR E k x,b<M.next→M'.heap b=M.heap b):BR E' M' k x:=by
 cases x with
 |gone=>trivial
 |row l opn el =>
  obtain⟨b,cs,h1,h2,h3,h4,h5⟩:=h
  exact⟨b,cs,hE.bl _ _ h1,by omega,by rw[hh b (by simp[bR,h1]) h2];exact h3,h4.mono hE,h5⟩
 |fro l el =>
  obtain⟨b,cs,fz,h1,h2,h3,h4,h5⟩:=h
  exact⟨b,cs,fz,hE.bl _ _ h1,by omega,by rw[hh b (by simp[bR,h1]) h2];exact h3,h4.mono hE,h5⟩
 |byt s own el =>
  obtain⟨v,l,h1,h2,h3,h4⟩:=h
  have key:∀ b∈aJ v,b<M.next→M'.heap b=M.heap b:=fun b hb'=>hh b (by simp[bR,h1,hb'])
  have kc:∀ b∈aJ v,b<M.next→M'.cells b=M.cells b:=fun b hb' hlt=>by simp only[RM.cells,key b hb' hlt,RM.lo,hb]
  refine⟨v,l,hE.sl _ _ h1,hE.g▸h2,fun ho=>⟨?_,fun b hb'=>hE.bl _ _ ((h3 ho).2 b hb')⟩, ?_⟩
  ·generalize fM l=cs at *
   generalize l.length=n at *
   cases(h3 ho).1 with
   |nil=>exact .nil
   |ex0 b o a1 a2 a3=>exact .ex0 b o a1 (by omega) (by rw[kc b (by simp[aJ]) a2];exact a3)
   |op b n cs a1 a2 a3 a4=>exact .op b n cs a1 (by omega) (by rw[key b (by simp[aJ]) a2];exact a3) a4
  ·generalize fM l=cs at *
   generalize l.length=n at *
   cases h4 with
   |nil=>exact .nil
   |emp b=>exact .emp b
   |slc b o n cap cs a1 a2=>exact .slc b o n cap cs (by omega) (by unfold RM.loads;rw[kc b (by simp[aJ]) a1];exact a2)
 |map es c =>
  obtain⟨b,fs,h1,h2,h3,h4⟩:=h
  exact⟨b,fs,hE.bl _ _ h1,by omega,by rw[hh b (by simp[bR,h1]) h2];exact h3,h4.mono hE⟩
 |iter m s seen st =>
  obtain⟨b,bm,h1,h2,h3,h4⟩:=h
  exact⟨b,bm,hE.bl _ _ h1,by omega,hE.bl _ _ h3,by rw[hh b (by simp[bR,h1]) h2];exact h4⟩
theorem dJ(h:BR E M k x)(hE:E.le E'):bR E' k x=bR E k x:=by
 cases x with
 |gone=>rfl
 |row l opn el=>obtain⟨b,cs,h1,_⟩:=h;simp only[bR,h1,hE.bl _ _ h1]
 |fro l el=>obtain⟨b,cs,fz,h1,_⟩:=h;simp only[bR,h1,hE.bl _ _ h1]
 |byt s own el=>obtain⟨v,l,h1,_⟩:=h;simp only[bR,h1,hE.sl _ _ h1]
 |map es c=>obtain⟨b,fs,h1,_⟩:=h;simp only[bR,h1,hE.bl _ _ h1]
 |iter m s seen st=>obtain⟨b,bm,h1,_⟩:=h;simp only[bR,h1,hE.bl _ _ h1]
theorem nI(H:SH)(k:Ky)(x:Bk)(q:Ky):hget (hput H k x) q=if q.nat=k.nat then x else hget H q:=by
 cases H with|mk n t =>
 show qm .gone q (ru .gone k t x)=_
 by_cases e:q.nat=k.nat
 ·have:=bF _ _ e
  subst this
  rw[if_pos rfl];exact CJ _ _ _ _
 ·rw[if_neg e];exact LQ _ _ _ _ _ fun h=>e (by rw[h])
theorem fq(H:SH)(x:Bk)(q:Ky):hget (hpush H x) q=if q.nat=H.nx.nat then x else hget H q:=by
 cases H with|mk n t =>
 show qm .gone q (ru .gone n t x)=if q.nat=n.nat then x else hget (.mk n t) q
 by_cases e:q.nat=n.nat
 ·have:=bF _ _ e
  subst this
  rw[if_pos rfl];exact CJ _ _ _ _
 ·rw[if_neg e];exact LQ _ _ _ _ _ fun h=>e (by rw[h])
theorem Aw(H:SH)(k:Ky)(x:Bk):(hput H k x).nx=H.nx:=by cases H;rfl
theorem uV(H:SH)(x:Bk):(hpush H x).nx.nat=H.nx.nat+1:=by cases H with|mk n t=>exact UX n
theorem HR.gone(h:HR E H M)(hk:H.nx.nat≤k.nat):hget H k=.gone:=by
 have h1:=h.new k hk
 have h2:=h.blk k
 cases hx:hget H k with
 |gone=>rfl
 |row l opn el=>rw[hx]at h2;obtain⟨b,cs,e,_⟩:=h2;rw[h1.1]at e;cases e
 |fro l el=>rw[hx]at h2;obtain⟨b,cs,fz,e,_⟩:=h2;rw[h1.1]at e;cases e
 |byt s own el=>rw[hx]at h2;obtain⟨v,l,e,_⟩:=h2;rw[h1.2]at e;cases e
 |map es c=>rw[hx]at h2;obtain⟨b,fs,e,_⟩:=h2;rw[h1.1]at e;cases e
 |iter m s seen st=>rw[hx]at h2;obtain⟨b,bm,e,_⟩:=h2;rw[h1.1]at e;cases e
theorem HR.put(h:HR E H M){y:Bk}(hb:M'.base=M.base)(hn:M'.next=M.next)(hh:∀ b,b∉bR E k (hget H k)→M'.heap b=M.heap b)(hy:BR E M' k y)(ho:∀ b∈bR E k y,b∈bR E k (hget H k)):HR E (hput H k y) M' where
 blk q:=by
  rw[nI]
  split
  ·rename_i e;rw[bF _ _ e];exact hy
  ·rename_i e
   refine(h.blk q).keep (.refl E) hb (by omega) fun b hbq _=>hh b fun hc=>e ?_
   rw[h.sep q k b hbq hc]
 sep q q' b hq hq':=by
  rw[nI]at hq hq'
  split at hq<;>split at hq'
  ·rename_i e e';exact bF _ _ (by omega)
  ·rename_i e e'
   rw[bF _ _ e]at hq ⊢
   exact h.sep k q' b (ho b hq) hq'
  ·rename_i e e'
   rw[bF _ _ e']at hq' ⊢
   exact h.sep q k b hq (ho b hq')
  ·exact h.sep q q' b hq hq'
 lt q b hq:=by
  rw[nI]at hq
  split at hq
  ·rename_i e
   rw[bF _ _ e]at hq
   rw[hn];exact h.lt k b (ho b hq)
  ·rw[hn];exact h.lt q b hq
 new q hq:=h.new q (by rw[Aw]at hq;exact hq)
 base:=hb.trans h.base
def En.kU(E:En)(k:Ky)(b:Nat):En := { E with bl:=fun q=>if q.nat=k.nat then some b else E.bl q }
theorem En.vG{b:Nat}(h:E.bl k=none):E.le (E.kU k b):=⟨rfl,fun q c hq=>(by
 simp only[En.kU];rw[if_neg];exact hq
 intro e;rw[bF _ _ e,h]at hq;cases hq),fun _ _ h=>h,rfl⟩
theorem HR.push(h:HR E H M){y:Bk}(hb:M'.base=M.base)(hn:M'.next=M.next+1)(hh:∀ b,b<M.next→M'.heap b=M.heap b)(hy:BR (E.kU H.nx M.next) M' H.nx y)(ho:∀ c∈bR (E.kU H.nx M.next) H.nx y,c=M.next) :
  E.le (E.kU H.nx M.next)∧HR (E.kU H.nx M.next) (hpush H y) M':=by
 have hle:E.le (E.kU H.nx M.next):=En.vG (h.new _ (Nat.le_refl _)).1
 refine⟨hle,fun q=>?_,fun q q' b hq hq'=>?_,fun q b hq=>?_,fun q hq=>?_,(hb.trans h.base).trans hle.bs.symm⟩
 ·rw[fq]
  split
  ·rename_i e;rw[bF _ _ e];exact hy
  ·exact(h.blk q).keep hle hb (by omega) fun b _ hlt=>hh b hlt
 ·rw[fq]at hq hq'
  split at hq<;>split at hq'
  ·rename_i e e';exact bF _ _ (by omega)
  ·rename_i e e'
   rw[bF _ _ e]at hq
   rw[dJ (h.blk q') hle]at hq'
   have:=ho b hq
   have:=h.lt q' b hq'
   omega
  ·rename_i e e'
   rw[bF _ _ e']at hq'
   rw[dJ (h.blk q) hle]at hq
   have:=ho b hq'
   have:=h.lt q b hq
   omega
  ·rw[dJ (h.blk q) hle]at hq
   rw[dJ (h.blk q') hle]at hq'
   exact h.sep q q' b hq hq'
 ·rw[fq]at hq
  split at hq
  ·rename_i e
   rw[bF _ _ e]at hq
   have:=ho b hq
   omega
  ·rw[dJ (h.blk q) hle]at hq
   have:=h.lt q b hq
   omega
 ·rw[uV]at hq
  have:=h.new q (by omega)
  refine⟨?_,this.2⟩
  simp only[En.kU];rw[if_neg (by omega)];exact this.1
end
def RK(E:En)(K:KV)(v:AV):Prop:=∃ sv,SR E sv v∧K sv=true
theorem jM{a b:IntKind}(h:Df a b=true):a=b:=by cases a<;>cases b<;>first|rfl|cases h
theorem uS{k:IntKind}{m:Nat}(h:m<lim k):k.wrap (m:Int)=(m:Int):=by
 cases k<;>simp only[lim]at h<;>simp only[IntKind.wrap,IntKind.bits,IntKind.signed]<;>simp<;>omega
theorem BC{k:IntKind}(hk:uns k=true)(n:Int):∃ m:Nat,k.wrap n=(m:Int)∧m<lim k:=by
 cases k <;>try(cases hk;done)
 ·exact⟨(IntKind.wrap .u8 n).toNat,by simp[IntKind.wrap,IntKind.bits,IntKind.signed];omega,by simp[IntKind.wrap,IntKind.bits,IntKind.signed,lim];omega⟩
 ·exact⟨(IntKind.wrap .u16 n).toNat,by simp[IntKind.wrap,IntKind.bits,IntKind.signed];omega,by simp[IntKind.wrap,IntKind.bits,IntKind.signed,lim];omega⟩
 ·exact⟨(IntKind.wrap .u32 n).toNat,by simp[IntKind.wrap,IntKind.bits,IntKind.signed];omega,by simp[IntKind.wrap,IntKind.bits,IntKind.signed,lim];omega⟩
 ·exact⟨(IntKind.wrap .u64 n).toNat,by simp[IntKind.wrap,IntKind.bits,IntKind.signed];omega,by simp[IntKind.wrap,IntKind.bits,IntKind.signed,lim];omega⟩
theorem jH(k:IntKind)(n:Int):nJ k n=k.wrap n:=by
 cases n with
 |ofNat m =>
  simp only[nJ]
  split
  ·rename_i h;exact(uS (eH h)).symm
  ·rfl
 |negSucc m=>rfl
theorem EX(a b:Int):DC a b=(a==b):=by
 cases a<;>cases b
 ·rename_i m n
  simp only[DC]
  by_cases h:m=n
  ·subst h;simp
  ·have h1:Nat.beq m n=false:=by cases hh:Nat.beq m n with|true=>exact absurd (bB hh) h|false=>rfl
   rw[h1];simp;omega
 ·simp[DC]
 ·simp[DC]
 ·rename_i m n
  simp only[DC]
  by_cases h:m=n
  ·subst h;simp
  ·have h1:Nat.beq m n=false:=by cases hh:Nat.beq m n with|true=>exact absurd (bB hh) h|false=>rfl
   rw[h1];simp;omega
theorem QU(m n:Nat):Nat.blt m n=decide (m<n):=by
 cases hh:Nat.blt m n with
 |true=>have:=eH hh;simp[this]
 |false=>have:=Qg hh;simp;omega
theorem aeb(a b:Int):decide (a≤b)=!decide (b<a):=by by_cases h:b<a<;>simp[h]<;>omega
theorem Kq(a b:Int):SE a b=decide (a<b):=by
 cases a<;>cases b<;>simp only[SE,QU]
 ·simp
 ·rename_i m n;simp;omega
 ·rename_i m n;simp;omega
 ·rename_i m n;simp;omega
section
variable {E:En} {K:KV}
theorem iG{k:IntKind}{n:Int}(h:K (.i k n)=true):RK E K (N k n):=⟨_,.i k n,h⟩
theorem gI{b:Bool}(h:K (.b b)=true):RK E K (Bo b):=⟨_,.b b,h⟩
theorem K7{k:IntKind}{lo hi n:Nat}(h:K (.iv k lo hi)=true)(h1:lo≤n)(h2:n≤hi):RK E K (N k (n:Int)):=⟨_,.iv k lo hi n h1 h2,h⟩
theorem sN{b m:Nat}(h:m<2^b):(BitVec.ofInt b (m:Int)).toNat=m:=by
 rw[BitVec.ofInt_natCast,BitVec.toNat_ofNat,Nat.mod_eq_of_lt h]
theorem alW{k:IntKind}{m n:Nat}(h1:m<lim k)(h2:n<lim k):k.wrap (BitVec.ofInt k.bits (m:Int) &&& BitVec.ofInt k.bits (n:Int)).toNat=((Nat.land m n:Nat):Int)∧Nat.land m n<lim k:=by
 have hl:Nat.land m n<lim k:=Nat.lt_of_le_of_lt Nat.and_le_left h1
 have hb:lim k≤2^k.bits:=by cases k<;>decide
 have:(BitVec.ofInt k.bits (m:Int) &&& BitVec.ofInt k.bits (n:Int)).toNat=Nat.land m n:=by
  rw[BitVec.toNat_and,sN (Nat.lt_of_lt_of_le h1 hb),sN (Nat.lt_of_lt_of_le h2 hb)];rfl
 rw[this]
 exact⟨uS hl,hl⟩
theorem Zr(k:IntKind):∃ e,lim k=2^e:=by cases k<;>first|exact⟨7,rfl⟩|exact⟨15,rfl⟩|exact⟨31,rfl⟩|exact⟨63,rfl⟩|exact⟨8,rfl⟩|exact⟨16,rfl⟩|exact⟨32,rfl⟩|exact⟨64,rfl⟩
theorem arC{k:IntKind}{m n:Nat}(h1:m<lim k)(h2:n<lim k):k.wrap (BitVec.ofInt k.bits (m:Int) ||| BitVec.ofInt k.bits (n:Int)).toNat=((Nat.lor m n:Nat):Int):=by
 obtain⟨e,he⟩:=Zr k
 have hl:Nat.lor m n<lim k:=by rw[he]at h1 h2 ⊢;exact Nat.or_lt_two_pow h1 h2
 have hb:lim k≤2^k.bits:=by cases k<;>decide
 have:(BitVec.ofInt k.bits (m:Int) ||| BitVec.ofInt k.bits (n:Int)).toNat=Nat.lor m n:=by
  rw[BitVec.toNat_or,sN (Nat.lt_of_lt_of_le h1 hb),sN (Nat.lt_of_lt_of_le h2 hb)];rfl
 rw[this]
 exact uS hl
theorem alC{k:IntKind}{m n:Nat}(h1:m<lim k)(h2:n<lim k):k.wrap (BitVec.ofInt k.bits (m:Int) ^^^ BitVec.ofInt k.bits (n:Int)).toNat=((Nat.xor m n:Nat):Int):=by
 obtain⟨e,he⟩:=Zr k
 have hl:Nat.xor m n<lim k:=by rw[he]at h1 h2 ⊢;exact Nat.xor_lt_two_pow h1 h2
 have hb:lim k≤2^k.bits:=by cases k<;>decide
 have:(BitVec.ofInt k.bits (m:Int) ^^^ BitVec.ofInt k.bits (n:Int)).toNat=Nat.xor m n:=by
  rw[BitVec.toNat_xor,sN (Nat.lt_of_lt_of_le h1 hb),sN (Nat.lt_of_lt_of_le h2 hb)];rfl
 rw[this]
 exact uS hl
theorem Q8{f:Nat→Nat→Nat}{g:IntKind→Int→Int→Int}(hg:∀ {k m n},m<lim k→n<lim k→g k (m:Int) (n:Int)=(f m n:Int)){k:IntKind}{a b:Int}(h:KI f g k a b K=true):K (.i k (g k a b))=true:=by
 unfold KI at h
 split at h
 ·split at h
  ·rename_i h1 h2
   have:=hg (eH h1) (eH h2)
   rw[show(Int.ofNat _:Int)=((_:Nat):Int)from rfl,← this]at h
   exact h
  ·exact h
 ·exact h
theorem ale{op:BinOp}{k:IntKind}{a b:Int}(h:vK op k a b K=true):∃ v,uF op k a b=some v∧RK E K (.sc v):=by
 cases op
 case add =>
  refine⟨_,rfl,iG ?_⟩
  simp only[vK,aqg]at h
  split at h
  ·rw[jH]at h;exact h
  ·rw[jH]at h;exact h
 case sub =>
  refine⟨_,rfl,iG ?_⟩
  simp only[vK,amN]at h
  split at h
  ·rename_i m n
   split at h
   ·rename_i hle
    have hle:=bP hle
    rw[jH,show(Int.ofNat (Nat.sub m n))=(Int.ofNat m-Int.ofNat n)from(Int.ofNat_sub hle)]at h
    exact h
   ·rw[jH]at h;exact h
  ·rw[jH]at h;exact h
 case mul=>exact⟨_,rfl,iG (by simp only[vK,anu,jH]at h;exact h)⟩
 case quo =>
  simp only[vK,amt,EX]at h
  split at h <;>try(cases h;done)
  rename_i hb
  have hb:b≠0:=by simpa using hb
  exact⟨_,if_neg hb,iG (by rw[jH]at h;exact h)⟩
 case rem =>
  simp only[vK,aqW,EX]at h
  split at h <;>try(cases h;done)
  rename_i hb
  have hb:b≠0:=by simpa using hb
  exact⟨_,if_neg hb,iG h⟩
 case and=>exact⟨_,rfl,iG (Q8 (f:=Nat.land) (g:=fun k a b=>k.wrap (BitVec.ofInt k.bits a &&& BitVec.ofInt k.bits b).toNat) (fun h1 h2=>(alW h1 h2).1) (show KI _ _ k a b K=true from h))⟩
 case or=>exact⟨_,rfl,iG (Q8 (f:=Nat.lor) (g:=fun k a b=>k.wrap (BitVec.ofInt k.bits a ||| BitVec.ofInt k.bits b).toNat) (fun h1 h2=>arC h1 h2) (show KI _ _ k a b K=true from h))⟩
 case xor=>exact⟨_,rfl,iG (Q8 (f:=Nat.xor) (g:=fun k a b=>k.wrap (BitVec.ofInt k.bits a ^^^ BitVec.ofInt k.bits b).toNat) (fun h1 h2=>alC h1 h2) (show KI _ _ k a b K=true from h))⟩
 case andNot=>exact⟨_,rfl,iG h⟩
 case eql=>exact⟨_,rfl,gI (by simp only[vK,anh,EX]at h;exact h)⟩
 case neq=>exact⟨_,rfl,gI (by simp only[vK,amX,EX]at h;exact h)⟩
 case lss=>exact⟨_,rfl,gI (by simp only[vK,apQ,Kq]at h;exact h)⟩
 case leq=>exact⟨_,rfl,gI (by simp only[vK,aqf,Kq]at h;rw[aeb];exact h)⟩
 case gtr=>exact⟨_,rfl,gI (by simp only[vK,an3,Kq]at h;exact h)⟩
 case geq=>exact⟨_,rfl,gI (by simp only[vK,anC,Kq]at h;rw[show decide (a≥b)=!decide (a<b)from aeb b a];exact h)⟩
 all_goals (cases h)
theorem sQ{x:SV}{v:AV}{k:IntKind}{lo hi:Nat}(h:Cc x=some (k,lo,hi))(hx:SR E x v):∃ n:Nat,v=N k (n:Int)∧lo≤n∧n≤hi:=by
 cases hx <;>try(simp[Cc]at h;done)
 ·rename_i k n
  cases n<;>simp only[Cc]at h<;>cases h
  exact⟨_,rfl,Nat.le_refl _,Nat.le_refl _⟩
 ·rename_i n h1 h2
  simp only[Cc]at h;cases h
  exact⟨n,rfl,h1,h2⟩
 ·rename_i l hd
  simp only[Cc]at h;cases h
  have:=bJ hd
  exact⟨l.length,rfl,this.1,this.2⟩
theorem Qv{k:IntKind}{n:Int}(h:full k K=true):RK E K (N k (k.wrap n)):=by
 unfold full at h
 split at h <;>try(cases h;done)
 rename_i hk
 obtain⟨m,e,hm⟩:=BC hk n
 rw[e]
 exact K7 h (Nat.zero_le _) (by rw[Nat.pred_eq_sub_one];omega)
theorem JQ{k:IntKind}{lo hi n:Nat}(h:FL k lo hi K=true)(h1:lo≤n)(h2:n≤hi):RK E K (N k (k.wrap (n:Int))):=by
 unfold FL at h
 split at h
 ·rename_i hb
  have:=eH hb
  rw[uS (by omega)]
  exact K7 h h1 h2
 ·exact Qv h
theorem Ao{t f b:Bool}(h:ways t f K=true)(ht:t=true→b=true)(hf:f=true→b=false):RK E K (Bo b):=by
 unfold ways at h
 cases t with
 |true=>rw[ht rfl];exact gI h
 |false =>
  cases f with
  |true=>rw[hf rfl];exact gI h
  |false =>
   dsimp only at h
   split at h <;>try(cases h;done)
   rename_i h1
   cases b with
   |true=>exact gI h1
   |false=>exact gI h
theorem akN{op:BinOp}{k:IntKind}{a b c d m n:Nat}(h:Wi op k a b c d K=true)(h1:a≤m)(h2:m≤b)(h3:c≤n)(h4:n≤d):∃ v,uF op k (m:Int) (n:Int)=some v∧RK E K (.sc v):=by
 cases op <;>try(cases h;done)
 case add =>
  refine⟨_,rfl, ?_⟩
  have:=JQ (E:=E) (n:=m+n) (show FL k (Nat.add a c) (Nat.add b d) K=true from h) (by show a+c≤_;omega) (by show _≤b+d;omega)
  rw[Int.natCast_add]at this;exact this
 case sub =>
  simp only[Wi]at h
  split at h <;>try(cases h;done)
  rename_i hd
  have hd:=bP hd
  refine⟨_,rfl, ?_⟩
  have:=JQ (E:=E) (n:=m-n) (show FL k (a-d) (b-c) K=true from h) (by omega) (by omega)
  rw[Int.ofNat_sub (by omega)]at this;exact this
 case rem =>
  simp only[Wi]at h
  split at h <;>try(cases h;done)
  rename_i hc
  have hc:=bP hc
  have hn:(n:Int)≠0:=by omega
  refine⟨_,if_neg hn, ?_⟩
  have e:((m:Int).tmod (n:Int))=((m%n:Nat):Int):=Int.ofNat_tmod m n▸rfl
  rw[e]
  have:=Nat.mod_lt m (show 0<n by omega)
  exact K7 h (Nat.zero_le _) (by rw[Nat.pred_eq_sub_one];omega)
 case quo =>
  simp only[Wi]at h
  split at h <;>try(cases h;done)
  rename_i hc
  have hc:=bP hc
  have hn:(n:Int)≠0:=by omega
  refine⟨_,if_neg hn, ?_⟩
  have:=JQ (E:=E) (n:=m / n) (show FL k (a / d) (b / c) K=true from h) (Nat.div_le_div h1 h4 (by omega)) (Nat.div_le_div h2 h3 (by omega))
  exact this
 case or=>exact⟨_,rfl,Qv h⟩
 case lss=>exact⟨_,rfl,Ao h (fun e=>by have:=eH e;simp;omega) (fun e=>by have:=bP e;simp;omega)⟩
 case leq=>exact⟨_,rfl,Ao h (fun e=>by have:=bP e;simp;omega) (fun e=>by have:=eH e;simp;omega)⟩
 case gtr=>exact⟨_,rfl,Ao h (fun e=>by have:=eH e;simp;omega) (fun e=>by have:=bP e;simp;omega)⟩
 case geq=>exact⟨_,rfl,Ao h (fun e=>by have:=bP e;simp;omega) (fun e=>by have:=eH e;simp;omega)⟩
 case eql=>exact⟨_,rfl,Ao (t:=false) (f:=or (Nat.blt b c) (Nat.blt d a)) h (fun e=>by cases e) (fun e=>by
  simp only[Bool.or_eq_true]at e
  rcases e with e|e<;>have:=eH e<;>simp<;>omega)⟩
 case neq=>exact⟨_,rfl,Ao (t:=or (Nat.blt b c) (Nat.blt d a)) (f:=false) h (fun e=>by
  simp only[Bool.or_eq_true]at e
  rcases e with e|e<;>have:=eH e<;>simp<;>omega) (fun e=>by cases e)⟩
end
end Go.Ab.Sy
