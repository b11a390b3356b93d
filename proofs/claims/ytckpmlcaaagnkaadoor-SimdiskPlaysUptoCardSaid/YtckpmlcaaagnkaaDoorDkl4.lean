/- Part 4 of the ground of the proofs of this seat (texts R24 to R25). By an AI agent. -/
import Derived.Test.YtckpmlcaaagnkaaDoorDkl3
import Derived.Laws.AppendOwn
set_option linter.unusedVariables false
set_option linter.unusedSimpArgs false
namespace Go.Ab
open Go Go.RowKit
section
variable {P:Program} {ρ:Ren} {M:RM} {w w' : World}
theorem Jh {base:Base} {A:AW} (hw0:bK P base ρ A w) (hbl:Below w.heap.size w w') (hbase:base≤w.heap.size) {x:fG} {ob:Obj} {i:dR} (hge:w.heap.size≤i.cb) (hob:w'.heap[i.cb]?=some ob)
  (hrel:fM P (ρ.add A.next i) i x ob) : bK P base (ρ.add A.next i) (A.push x) w'∧Step base A.next ρ w (ρ.add A.next i) w':=by
 have hb:ρ A.next=none:=hw0.fresh (Nat.le_refl _)
 have hw:=qF hw0 x
 have hx:(A.push x).heap.get A.next=some x:=by simp[AW.push,Tree.aX]
 have hlt:A.next<(A.push x).next:=by simp[AW.push]
 have hle:=Ren.mE (i:=i) hb
 have hadd:∀ c j,ρ.add A.next i c=some j→(c=A.next∧j=i)∨(c≠A.next∧ρ c=some j):=by
  intro c j h
  unfold Ren.add at h
  split at h
  ·cases h; exact .inl ⟨‹_›,rfl⟩
  ·exact .inr ⟨‹_›,h⟩
 have hcb:i.cb<w'.heap.size:=(Array.getElem?_eq_some_iff.1 hob).1
 refine⟨⟨?_, ?_, ?_,hw.top, ?_,base.low w _ (fun c hc=>hbl.block c (by omega)) hw.inv⟩,⟨hbl.os,hbl.tape,hbl.output,hbl.size, ?_, ?_, ?_,fun c hc=>hbl.block c (by omega)⟩⟩
 ·intro c j h
  rcases hadd c j h with⟨rfl,rfl⟩ | ⟨_,h⟩
  ·exact⟨hlt,hcb⟩
  ·have:=hw.dom c j h; have:=hbl.size; omega
 ·intro c j y h hy
  rcases hadd c j h with⟨rfl,rfl⟩ | ⟨_,h⟩
  ·rw[hx] at hy; cases hy
   exact⟨ob,hob,hrel⟩
  ·obtain⟨o,ho,hr⟩:=hw.blk c j y h hy
   exact⟨o,by rw[hbl.block j.cb (hw.dom c j h).2]; exact ho,hr.mono hle⟩
 ·intro b1 b2 i1 i2 x1 x2 h1 h2 g1 g2 he
  rcases hadd _ _ h1 with⟨e1,f1⟩ | ⟨_,k1⟩ <;> rcases hadd _ _ h2 with⟨e2,f2⟩ | ⟨_,k2⟩
  ·rw[e1,e2]
  ·have:=(hw.dom _ _ k2).2; subst f1; omega
  ·have:=(hw.dom _ _ k1).2; subst f2; omega
  ·exact hw.sep _ _ _ _ _ _ k1 k2 g1 g2 he
 ·intro c j y h hy
  rcases hadd c j h with⟨rfl,rfl⟩ | ⟨_,h⟩
  ·omega
  ·exact hw.lo c j y h hy
 ·intro c hc _; exact hbl.block c hc
 ·intro c hc; unfold Ren.add; rw[if_neg (by omega)]
 ·intro c j h
  rcases hadd c j h with⟨rfl,rfl⟩ | ⟨_,h⟩
  ·exact .inr hge
  ·exact .inl ⟨c,j,h,rfl⟩
theorem dW.ME {f:FuncId} {args:List AV} {T n:Nat} {cs:List AV} {Q:aj} (hP:BA P f) (hsz:aN P T=some 1) (h1:cs.all oneCell=true) (hlen:cs.length=n)
  (h:∀ (ρ:Ren) (w:World) (us:List Value),aK ρ args us→bO P ρ M w→Calls P f ⟨us⟩ w fun e w'=>∃ v xs,e=.returned v∧w'.ownsRow w.heap.size T 1 v n xs∧(∀ ρ',aK ρ' cs xs)∧Below w.heap.size w w')
  (hQ:∀ v M',Own M' M.next T 1 v cs n→af [] M M'→Q v M') : dW P f args M Q:=by
 refine⟨hP,fun ρ w us hargs hw=>(h ρ w us hargs hw).mono fun e w' hR=>?_⟩
 obtain⟨v,xs,rfl,⟨hxl,hrow⟩,hrel,hbl⟩:=hR
 rcases hrow with⟨rfl,h0⟩ | ⟨g,cap,cur,rfl,hge,hg,r1,r2,r3,r4⟩
 ·have:cs=[]:=List.length_eq_zero_iff.1 (by omega)
  subst this
  have hn:n=0:=h0
  subst hn
  exact⟨_,aR,M,ρ,rfl,After.below hw hbl,.sc _ rfl,hQ _ _ .nil (af.refl _ _)⟩
 ·obtain⟨A,hA⟩:=hw
  obtain⟨tr,htr⟩:=gH cs .leaf 0 h1
  obtain⟨_,hget⟩:=dC _ _ _ htr
  obtain⟨_,hcell⟩:=qL htr
  have hblk:fM P (ρ.add A.next ⟨g,0,cap,1⟩) ⟨g,0,cap,1⟩ (.row n tr [] true T 0) (.cells cur T (0,0)):=by
   refine⟨cur,(0,0),rfl,⟨by show 0 + n≤_; omega,fun k x hx=>?_,fun k _ _=>by simp,fun h=>(by cases h),fun _=>⟨Nat.one_pos,by show cur.size=0 + cap * 1; omega,hsz⟩,rfl⟩⟩
   obtain⟨hk1,hk2⟩:=iQ hx
   rw[hget,if_pos (by omega),Nat.sub_zero] at hk2
   obtain⟨v,hv,hvr⟩:=(hrel (ρ.add A.next ⟨g,0,cap,1⟩)).get hk2
   refine⟨v, ?_,hvr⟩
   show cur[0 + k]?=some v
   rw[Nat.zero_add,← Array.getElem?_toList]
   rw[← r4,Nat.mul_one,List.getElem?_take_of_lt (by omega)] at hv
   exact hv
  obtain⟨q1,q2⟩:=Jh hA.rel hbl (Nat.le_trans (show M.base.n≤M.lo from Nat.le_refl _) hA.size) (i:=⟨g,0,cap,1⟩) hge hg hblk
  obtain⟨k1,k2,k3⟩:=RM.oL hA (x:=.row cs true T 0) (y:=.row n tr [] true T 0) ⟨hlen,rfl,rfl,rfl,fun k v hk=>by rw[← hlen]; exact hcell k v hk⟩
  have hnx:=hA.next
  refine⟨_,.slc M.next 0 n (.op 1),M.push (.row cs true T 0),_,rfl,fe hA q2 q1 k1 k2 (by simp[AW.push]) k3, ?_,hQ _ _ (.op M.next n cs (Nat.le_refl _) (by simp[RM.push]) (RM.bi _) (by omega)) ((af.refl _ _).push _)⟩
  have:=aa.gX (ρ:=ρ.add A.next ⟨g,0,cap,1⟩) M.next 0 n ⟨g,0,cap,1⟩ (by rw[← hnx]; simp[Ren.add]) (by show 0 + n≤cap; omega)
  simpa using this
end
end Go.Ab
set_option maxRecDepth 100000
namespace Go.Ab.Crw
open Go Go.Ab
end Go.Ab.Crw
namespace Go.Ab.Vl
open Go Go.Ab
end Go.Ab.Vl
set_option maxRecDepth 10000
namespace Go.Ab.Dk
open Go Go.Ab
abbrev A:Nm:=[97]
abbrev B' : Nm:=[98]
abbrev C' : Nm:=[99]
abbrev a0:aT:=kG 10
abbrev a1:aT:=⟨[([],0)],[(A,0)],[],[(A,some 0,[])],10,0,0⟩
abbrev a2:aT:=⟨[([120,121,122],0)],[(A,0)],[],[(A,some 0,[])],10,1,0⟩
abbrev a3:aT:=⟨[([120,121,122],3)],[(A,0)],[],[(A,some 0,[])],10,1,1⟩
abbrev a4:aT:=⟨[([120,121,122],3)],[(A,0)],[(A,0)],[],10,1,2⟩
abbrev a5:aT:=⟨[([120,121,122,49,50],3)],[(A,0)],[(A,0)],[],10,2,2⟩
abbrev a6:aT:=⟨[([120,121,122,49,50],3),([],0)],[(A,0),(B',1)],[(A,0)],[(B',some 1,[])],10,2,2⟩
abbrev a7:aT:=⟨[([120,121,122,49],4),([],0)],[(A,0)],[(A,0)],[],10,2,2⟩
abbrev a8:aT:=⟨[([120,121,122,49],4),([],0)],[(A,0)],[(A,0)],[],100,2,2⟩
abbrev a9:aT:=⟨[([120,121,122,49,0,0,0,0,0,0,0],4),([],0)],[(A,0)],[(A,0)],[],100,3,2⟩
abbrev NW:aT:=⟨[([120,121,122,49,0,0,0,0,0,0,0],4),([],0)],[(C',0)],[(A,0)],[(C',some 0,A)],100,3,2⟩
abbrev AU:aT:=⟨[([120,121,122,49,0,0,0,0,0,0,0],4),([],0)],[],[(A,0)],[(C',some 0,A),([],none,C')],100,3,2⟩
theorem e1:dE a0 A=(a1,0):=by decide
theorem e2:dF a1 A [120,121,122]=(a2,0):=by decide
theorem e3:kw a2 A=(a3,0):=by decide
theorem e4:fZ a3=a4:=by decide
theorem e5:dF a4 A [49,50]=(a5,0):=by decide
theorem e6:dE a5 B'=(a6,0):=by decide
theorem e7:mO a6 [0,1]=a7:=by decide
theorem e8:uX a7 100=a8:=by decide
theorem e9:dF a8 A [0,0,0,0,0,0,0]=(a9,0):=by decide
theorem P8:dF a7 A [0,0,0,0,0,0,0]=(a7,5):=by decide
theorem e10:jm a9 A C'=(NW,0):=by decide
theorem e11:iN NW C'=(AU,0):=by decide
theorem P7:rU a7 A=([120,121,122,49],0):=by decide
theorem PZ:rU a7 B'=([],4):=by decide
section
variable {own own' : aH} {M M' : RM}
theorem F8 {M1:RM} (k:af [] M M1) (ho:∀ b,b<M.next→own b=none) (t:Tr own M1 own' M') : af [] M M':=by
 obtain⟨bs,h1,h2,_⟩:=t
 refine k.dG h1 fun c hc=>.inl ?_
 rcases Nat.lt_or_ge c M.next with h | h
 ·exact absurd (ho c h) (h2 c hc)
 ·exact h
theorem Tr.sl {α:Type} {E:Enc α} {v:AV} {xs:List α} (t:Tr own M own' M') (h:Sl E M v xs) (hb:∀ b∈az v,own b=none) : Sl E M' v xs:=by
 obtain⟨bs,h1,h2,_⟩:=t
 exact aP.keep h h1 (fun b hb2 hm=>h2 b hm (hb b hb2))
theorem Tr.none {b:Nat} (t:Tr own M own' M') (hb:b<M.next) (ho:own b=none) : own' b=none:=let ⟨_,_,_,h⟩:=t; h b hb ho
theorem bn.keep {TD TF TU TC db:Nat} {s:aT} (h:bn TD TF TU TC own M db s) (k:af [] M M') : bn TD TF TU TC own M' db s :=
 let ⟨_,_,_,_,h⟩:=h; ⟨_,_,_,_,h.keep k⟩
theorem bn.fresh {TD TF TU TC db:Nat} {s:aT} (h:bn TD TF TU TC own M db s) {b:Nat} (hb:M.next≤b) : own b=none:=by
 obtain⟨_,_,_,_,h⟩:=h
 rcases hq:own b with _ | t
 ·rfl
 ·have:=h.lt b (by rw[hq]; simp); omega
end
theorem GK {M:RM} {T:Nat} {xs:List UInt8} : Sl BY ((M.push (.row (BY.row xs) false T 0)).put M.next (.row (BY.row xs) false T ((BY.row xs).length + 1))) (.slc M.next 0 xs.length (.ex xs.length)) xs:=by
 refine .slc _ _ _ _ _ (by rw[EF,aU]; omega) ?_
 rw[RM.iV (aZ _) (by rw[BY.dY]; omega),List.drop_zero,← BY.dY,List.take_length]
theorem Cv {M:RM} {T:Nat} {xs:List UInt8} {K:aj} (hK:∀ M',af [] M M'→Sl BY M' (.slc M.next 0 xs.length (.ex xs.length)) xs→K (.slc M.next 0 xs.length (.ex xs.length)) M') :
  CY (.slc M.next 0 xs.length (.ex xs.length)) (M.push (.row (BY.row xs) false T 0)) K :=
 ⟨M.next,0,_,_,_,_,rfl,RM.bi _,hK _ (((af.refl _ _).push _).new _ (Nat.le_refl _)) GK⟩
def AR (c:ay) : Prop:=∀ {M:RM} {Q:aj},(∀ M',af [] M M'→Q (Bo true) M')→c [] M Q
theorem GQ {TD TF TU TC TS TI TT:Nat} {cN cC cA cS cSD cL cX cR cQ cRn cRm cSt:ay} (hN:Gd TD TF TU TC cN) (hC:BQ TD TF TU TC dE cC) (hA:wD TD TF TU TC cA) (hS:CU TD TF TU TC cS)
  (hSD:sS TD TF TU TC cSD) (hL:zT TD TF TU TC TS cL) (hX:zS TD TF TU TC cX) (hR:CX TD TF TU TC cR) (hq:zY TD TF TU TC cQ) (hRn:vO TD TF TU TC cRn) (hRm:BQ TD TF TU TC iN cRm) (hSt:CS TD TF TU TC cSt) :
  AR fun args M Q=>args=[]∧pO cN cC TU cA cS cSD cL TI cX cR cQ cRn cRm cSt TT M Q:=by
 intro M Q hQ
 refine⟨rfl, ?_⟩
 unfold pO
 simp only[rJ]
 refine hN (fun h=>absurd h (by decide)) fun _ own M1 db d0 o0 k0=>?_
 rw[mq,nO,ED]
 refine yY (p:=false) (fun _ k hk=>?_) ?_
 ·rw[dJ]; exact hk
 refine bN (fun h=>by cases h) (fun _=>?_)
 refine hC d0 (by decide) fun pQ M2 d1 t1=>?_
 rw[e1] at d1 ⊢
 refine⟨_,rfl, ?_⟩
 dsimp only
 rw[aY]
 refine Cv (xs:=[120,121,122]) fun M3 k3 s3=>?_
 have d1:=d1.keep k3
 refine hA d1 s3 (by decide) (by decide) (by decide) (by decide) fun bH M4 d2 t2=>?_
 rw[e2] at d2 ⊢
 refine hS d2 fun rP M5 d3 t3=>?_
 rw[e3] at d3 ⊢
 refine hSD d3 fun Mv M6 d4 t4=>?_
 rw[e4] at d4
 refine⟨_,rfl, ?_⟩
 dsimp only
 rw[aY]
 refine Cv (xs:=[49,50]) fun M7 k7 s7=>?_
 have d4:=d4.keep k7
 refine hA d4 s7 (by decide) (by decide) (by decide) (by decide) fun own5 M8 d5 t5=>?_
 rw[e5] at d5 ⊢
 refine hC d5 (by decide) fun LG M9 d6 t6=>?_
 rw[e6] at d6 ⊢
 refine hL d6 (by decide) ⟨by decide,by decide⟩ fun v10 M10 o10 k10=>?_
 have d6:=d6.keep k10
 rw[aP.len (Own.jk o10)]
 refine⟨_,rfl, ?_⟩
 dsimp only
 rw[aY]
 have k11:af [] M10 (M10.push (.row (INT.row [0,1]) false TI 0)):=(af.refl _ _).push _
 have d6':=d6.keep k11
 refine hX (M:=M10.push (.row (INT.row [0,1]) false TI 0)) (p:=[0,1]) d6' (Sl.new (E:=INT) [0,1]) (fun b hb=>?_) (by decide) (by decide) ⟨by decide,by decide⟩ (by decide) (by decide) fun PE M12 d7 t7=>?_
 ·have hb:b=M10.next:=by simpa [az] using hb
  exact d6.fresh (by omega)
 rw[e7] at d7
 have f7:∀ b,M12.next≤b→PE b=none:=fun b hb=>d7.fresh hb
 refine hR d7 (by decide) fun v13 M13 k13 o13=>?_
 rw[P7] at o13 ⊢
 have d7:=d7.keep k13
 rw[mq,nO]
 refine hR d7 (by decide) fun v14 M14 k14 o14=>?_
 rw[PZ] at o14 ⊢
 have d7:=d7.keep k14
 rw[mq,nO]
 have mk:∀ {K:RB→(Nat→AV)→Prop},K (.row (BY.row [0,0,0,0,0,0,0]) false TU 0) (fun b=>.slc b 0 7 (.ex 7))→vN TU 1 [(N .u8 0)] (N .i64 7) (N .i64 7) K :=
  fun h=>⟨_,_,7,7,rfl,rfl,by decide,by decide,by decide,by decide,h⟩
 refine mk ?_
 dsimp only
 rw[aY]
 have k15:af [] M14 (M14.push (.row (BY.row [0,0,0,0,0,0,0]) false TU 0)):=(af.refl _ _).push _
 have d7':=d7.keep k15
 refine hA d7' (Sl.new (E:=BY) (c:=7) [0,0,0,0,0,0,0]) (by decide) (by decide) (by decide) (by decide) fun own8 M16 d8 t8=>?_
 rw[P8] at d8 ⊢
 refine hq d8 fun rO M17 d9 t9=>?_
 rw[e8] at d9
 refine mk ?_
 dsimp only
 rw[aY]
 have k18:af [] M17 (M17.push (.row (BY.row [0,0,0,0,0,0,0]) false TU 0)):=(af.refl _ _).push _
 have d9':=d9.keep k18
 refine hA d9' (Sl.new (E:=BY) (c:=7) [0,0,0,0,0,0,0]) (by decide) (by decide) (by decide) (by decide) fun own10 M19 d10 t10=>?_
 rw[e9] at d10 ⊢
 refine hRn d10 (by decide) fun own11 M20 d11 t11=>?_
 rw[e10] at d11 ⊢
 refine hRm d11 (by decide) fun own12 M21 d12 t12=>?_
 rw[e11] at d12 ⊢
 refine hSt d12 (by decide) fun M22 k22=>?_
 rw[aY,kZ (n:=4) (RM.bi _) rfl rfl rfl]
 have k23:af [] M22 ((M22.push (.row [(N .i64 0),(N .i64 0),(N .i64 0),(N .i64 0)] false TT 0)).put M22.next (.row (AV.agg [N .i64 ((([] : Dir).length:Nat) : Int),N .i64 ((tot AU.files AU.dir:Nat) : Int),N .i64 3,N .i64 2]).cells false TT 0)):=((af.refl _ _).push _).new _ (Nat.le_refl _)
 have h23:((M22.push (.row [(N .i64 0),(N .i64 0),(N .i64 0),(N .i64 0)] false TT 0)).put M22.next (.row (AV.agg [N .i64 ((([] : Dir).length:Nat) : Int),N .i64 ((tot AU.files AU.dir:Nat) : Int),N .i64 3,N .i64 2]).cells false TT 0)).heap M22.next=some (.row (AV.agg [N .i64 ((([] : Dir).length:Nat) : Int),N .i64 ((tot AU.files AU.dir:Nat) : Int),N .i64 3,N .i64 2]).cells false TT 0):=aZ _
 have s13:Sl BY M14 v13 [120,121,122,49]:=aP.keep (Own.jk o13) k14 (by simp)
 have tA:=((((Tr.keep k15).trans t8).trans t9).trans (Tr.keep k18)).trans (((t10.trans t11).trans t12).trans (Tr.keep (k22.trans k23)))
 have s23:=tA.sl s13 (fun b hb=>f7 b (Own.blk o13 b hb).1)
 generalize (M22.push (.row [(N .i64 0),(N .i64 0),(N .i64 0),(N .i64 0)] false TT 0)).put M22.next (.row (AV.agg [N .i64 ((([] : Dir).length:Nat) : Int),N .i64 ((tot AU.files AU.dir:Nat) : Int),N .i64 3,N .i64 2]).cells false TT 0)=M23 at *
 rw[bz]
 refine fo (p:=true) (fun _ k hk=>by rw[bz]; exact hk) ?_
 refine fo (p:=true) (fun _ k hk=>by rw[bz]; exact hk) ?_
 refine fo (p:=true) (fun _ k hk=>by rw[bz]; exact hk) ?_
 refine fo (p:=true) (fun _ k hk=>by rw[bz]; exact hk) ?_
 refine fo (p:=true) (fun _ k hk=>by rw[bz]; exact hk) ?_
 refine fo (p:=true) (fun _ k hk=>by rw[bz]; exact hk) ?_
 refine fo (p:=true) (fun _ k hk=>by rw[bz]; exact hk) ?_
 refine fo (p:=true) (fun _ k hk=>by rw[Sl.str s23,xZ]; exact hk) ?_
 refine fo (p:=true) (fun _ k hk=>by rw[bz]; exact hk) ?_
 refine fo (p:=true) (fun _ k hk=>by rw[bz]; exact hk) ?_
 refine fo (p:=true) (fun _ k hk=>by rw[bz]; exact hk) ?_
 refine fo (p:=true) (fun _ k hk=>by rw[bz]; exact hk) ?_
 refine fo (p:=true) (fun _ k hk=>by rw[bz]; exact hk) ?_
 refine fo (p:=true) (fun _ k hk=>by rw[ae,ag (i:=0 + 0) h23 rfl,bz]; exact hk) ?_
 refine fo (p:=true) (fun _ k hk=>by rw[ae,ag (i:=0 + 2) h23 rfl,bz]; exact hk) ?_
 refine fo (p:=true) (fun _ k hk=>by rw[ae,ag (i:=0 + 3) h23 rfl,bz]; exact hk) ?_
 exact hQ _ (F8 k0 o0 ((((((((((t1.trans (Tr.keep k3)).trans t2).trans t3).trans t4).trans (Tr.keep k7)).trans t5).trans t6).trans (Tr.keep (k10.trans k11))).trans t7).trans ((Tr.keep (k13.trans k14)).trans tA)))
abbrev n0:aT:=kG 5
abbrev n1:aT:=⟨[([],0)],[(A,0)],[],[(A,some 0,[])],5,0,0⟩
theorem f1:dE n0 [65]=(n0,1):=by decide
theorem f2:dE n0 []=(n0,1):=by decide
theorem f3:dE n0 A=(n1,0):=by decide
theorem f4:dE n1 A=(n1,12):=by decide
theorem f5:dF n1 B' []=(n1,4):=by decide
theorem lF {s:aT} {n:Nm} {f:Nat} {b:List UInt8} (h:dB s.dir n=some f) (hq:¬ s.aJ - (tot s.files s.dir:Int)<b.length) :
  dF s n b=({ s with files:=s.files.set f ((dP s f).1++b,(dP s f).2),app:=gB (s.app + 1) },0):=by
 unfold dF; rw[h]; exact if_neg hq
structure Fo {α:Type} (E:Enc α) (own:aH) (M:RM) (v:AV) (xs:List α) : Prop where
 sl:Sl E M v xs
 no:∀ b∈az v,own b=none
theorem Fo.tr {α:Type} {E:Enc α} {own own' : aH} {M M' : RM} {v:AV} {xs:List α} (h:Fo E own M v xs) (t:Tr own M own' M') : Fo E own' M' v xs :=
 ⟨t.sl h.sl h.no,fun b hb=>t.none (aP.lt h.sl b hb) (h.no b hb)⟩
theorem bn.own {TD TF TU TC db:Nat} {s:aT} {own:aH} {M M' : RM} (d:bn TD TF TU TC own M db s) {α:Type} {E:Enc α} {T:Nat} {v:AV} {xs:List α} (o:Ow E M' M.next T v xs) : Fo E own M' v xs :=
 ⟨Own.jk o,fun b hb=>d.fresh (Own.blk o b hb).1⟩
theorem Lg {M:RM} {T:Nat} (xs:List UInt8) : Sl BY (M.push (.row (BY.row xs) true T 0)) (.slc M.next 0 xs.length (.op 1)) xs:=(Rw.new M xs).sl
abbrev nM:Nm:=[109]
abbrev nT:Nm:=[116]
section
variable (old now:List UInt8)
abbrev w0:aT:=kG 100000
abbrev w1:aT:=⟨[([],0)],[(nM,0)],[],[(nM,some 0,[])],100000,0,0⟩
abbrev w2:aT:=⟨[(old,0)],[(nM,0)],[],[(nM,some 0,[])],100000,1,0⟩
abbrev w3:aT:=⟨[(old,old.length)],[(nM,0)],[],[(nM,some 0,[])],100000,1,1⟩
abbrev w4:aT:=⟨[(old,old.length)],[(nM,0)],[(nM,0)],[],100000,1,2⟩
abbrev w5:aT:=⟨[(old,old.length),([],0)],[(nM,0),(nT,1)],[(nM,0)],[(nT,some 1,[])],100000,1,2⟩
abbrev w6:aT:=⟨[(old,old.length),(now,0)],[(nM,0),(nT,1)],[(nM,0)],[(nT,some 1,[])],100000,2,2⟩
abbrev w7:aT:=⟨[(old,old.length),(now,now.length)],[(nM,0),(nT,1)],[(nM,0)],[(nT,some 1,[])],100000,2,3⟩
abbrev w8:aT:=⟨[(old,old.length),(now,now.length)],[(nM,1)],[(nM,0)],[(nT,some 1,[]),(nM,some 1,nT)],100000,2,3⟩
abbrev w9:aT:=⟨[(old,old.length),(now,now.length)],[(nM,1)],[(nM,1)],[],100000,2,4⟩
theorem g1:dE w0 nM=(w1,0):=by decide
theorem g2 (h:old.length≤10000) : dF w1 nM old=(w2 old,0):=by
 rw[lF (f:=0) rfl (by show ¬ (100000:Int) - ((0:Nat) : Int)<old.length; omega)]; rfl
theorem g3:kw (w2 old) nM=(w3 old,0):=rfl
theorem g4:fZ (w3 old)=w4 old:=rfl
theorem g5:dE (w4 old) nT=(w5 old,0):=rfl
theorem g6 (h:old.length≤10000) (h2:now.length≤10000) : dF (w5 old) nT now=(w6 old now,0):=by
 rw[lF (f:=1) rfl (by show ¬ (100000:Int) - ((old.length + (0 + 0) : Nat) : Int)<now.length; omega)]; rfl
theorem g7:kw (w6 old now) nT=(w7 old now,0):=rfl
theorem g8:jm (w7 old now) nT nM=(w8 old now,0):=rfl
theorem g9:fZ (w8 old now)=w9 old now:=rfl
variable {TD TF TU TC TS:Nat} {ca cN cC cA cS cSD cRn cX cR cL:ay}
end
def Nk (fs:List fT) : Prop:=∀ f∈fs,f.2≤f.1.length
theorem bn.le {TD TF TU TC db:Nat} {s:aT} {own:aH} {M:RM} (h:bn TD TF TU TC own M db s) : Nk s.files:=by
 obtain⟨fbs,nm,sm,cv,h⟩:=h
 intro f hf
 obtain⟨i,hi⟩:=List.getElem?_of_mem hf
 obtain⟨b,v,hat⟩:=h.files.file i f hi
 exact hat.le
section
variable (safe more:List UInt8)
abbrev y2:aT:=⟨[(safe,0)],[(A,0)],[],[(A,some 0,[])],100000,1,0⟩
abbrev y1:aT:=⟨[([],0)],[(A,0)],[],[(A,some 0,[])],100000,0,0⟩
abbrev y3:aT:=⟨[(safe,safe.length)],[(A,0)],[],[(A,some 0,[])],100000,1,1⟩
abbrev y4:aT:=⟨[(safe,safe.length)],[(A,0)],[(A,0)],[],100000,1,2⟩
abbrev y5:aT:=⟨[(safe++more,safe.length)],[(A,0)],[(A,0)],[],100000,2,2⟩
abbrev y6:aT:=⟨[(safe++more,safe.length),([],0)],[(A,0),(B',1)],[(A,0)],[(B',some 1,[])],100000,2,2⟩
abbrev y7:aT:=⟨[(safe++more,safe.length),(more,0)],[(A,0),(B',1)],[(A,0)],[(B',some 1,[])],100000,3,2⟩
theorem h1:dE w0 A=(y1,0):=by decide
theorem h2 (h:safe.length≤10000) : dF y1 A safe=(y2 safe,0):=by
 rw[lF (f:=0) rfl (by show ¬ (100000:Int) - ((0:Nat) : Int)<safe.length; omega)]; rfl
theorem h3:kw (y2 safe) A=(y3 safe,0):=rfl
theorem h4:fZ (y3 safe)=y4 safe:=rfl
theorem h5 (h:safe.length≤10000) (h2:more.length≤10000) : dF (y4 safe) A more=(y5 safe more,0):=by
 rw[lF (f:=0) rfl (by show ¬ (100000:Int) - ((safe.length + 0:Nat) : Int)<more.length; omega)]; rfl
theorem h6:dE (y5 safe more) B'=(y6 safe more,0):=rfl
theorem h7 (h:safe.length≤10000) (h2:more.length≤10000) : dF (y6 safe more) B' more=(y7 safe more,0):=by
 rw[lF (f:=1) rfl (by show ¬ (100000:Int) - (((safe++more).length + (0 + 0) : Nat) : Int)<more.length; rw[List.length_append]; omega)]; rfl
end
def gK:List Nm:=[[97],[98],[99],[119,45,48,48,48,48,48,49],[120,95],[65],[],[100]]
theorem NN (n:Int) : ∃ k:Nat,k<8∧Dv .i64 n 7=(k:Int):=by
 have h:(BitVec.ofInt 64 n &&& BitVec.ofInt 64 7).toNat≤7:=by
  rw[BitVec.toNat_and]
  exact Nat.le_trans Nat.and_le_right (by decide)
 refine⟨(BitVec.ofInt 64 n &&& BitVec.ofInt 64 7).toNat,by omega, ?_⟩
 show IntKind.wrap .i64 (((BitVec.ofInt 64 n &&& BitVec.ofInt 64 7).toNat:Nat) : Int)=_
 rw[jv (by omega) (by omega)]
def H7 (c:ay) : Prop:=∀ {M:RM} {n:Int} {Q:aj},(∀ k:Nat,k<8→Dv .i64 n 7=(k:Int)→∀ M',af [] M M'→Q (St (gK[k]?.getD [])) M')→c [N .i64 n] M Q
theorem Iq {T:Nat} : H7 fun args M Q=>∃ a0,args=[a0]∧qz T a0 M Q:=by
 intro M n Q hQ
 refine⟨_,rfl, ?_⟩
 unfold qz
 refine⟨_,rfl, ?_⟩
 dsimp only
 rw[aY,Ko]
 obtain⟨k,hk,e⟩:=NN n
 rw[e]
 have hs:Sl nC (M.push (.row (nC.row gK) false T 0)) (.slc M.next 0 gK.length (.ex 8)) gK:=Sl.new gK
 have hlt:k<gK.length:=hk
 obtain⟨b,o,_,_,h3,h4⟩:=Sl.Jd hs (i:=k) (k:Int) hlt
 have h3:∀ (K:AV→Prop),bD (.slc M.next 0 8 (.ex 8)) (N .i64 (k:Int)) 1 K=K (.ptr b o):=fun K=>h3 .i64 K
 rw[h3,iT]
 have h5:(M.push (.row [(St [97]),(St [98]),(St [99]),(St [119,45,48,48,48,48,48,49]),(St [120,95]),(St [65]),(St []),(St [100])] false T 0)).cell b o=some (St gK[k]):=h4 (St gK[k]) rfl
 refine⟨_,h5, ?_⟩
 have hn:gK[k]?.getD []=gK[k]:=by rw[List.getElem?_eq_getElem hlt]; rfl
 rw[← hn]
 exact hQ k hk e _ ((af.refl _ _).push _)
variable {TD TF TU TC TS:Nat}
end Go.Ab.Dk
namespace Go.Ab.Dk
open Go Go.Ab
abbrev yF:=(Int × Int × Int × Int) × (List UInt8 × {x:AV // oneCell x=true})
def mf:Enc yF:=⟨6,fun a=>[N .i64 a.1.1,N .i64 a.1.2.1,N .i64 a.1.2.2.1,N .i64 a.1.2.2.2,St a.2.1,a.2.2.1],fun _=>rfl,fun a=>by simp only[List.all_cons,a.2.2.2,List.all_nil,Bool.and_true]; rfl⟩
structure Qc (s:aT) (i:Nat) : Prop where
 aJ:s.aJ=100000
 chg:s.chg.length≤i
 dir:s.dir.length≤i
 aS:s.aS.length≤i
 dw:iE s.dir
 sw:iE s.aS
 cw:∀ c∈s.chg,c.1.length≤64
 files:∀ f∈s.files,f.1.length≤100000
theorem rV {s:aT} {b:Nat} (h:∀ f∈s.files,f.1.length≤b) (f:Nat) : (dP s f).1.length≤b:=by
 unfold dP
 rcases hg:s.files[f]? with _ | x
 ·simp
 ·exact h x (List.mem_of_getElem? hg)
theorem Dr {fs:List fT} {b:Nat} (h:∀ f∈fs,f.1.length≤b) : ∀ d:Dir,tot fs d≤d.length * b
 | []=>Nat.zero_le _
 | e :: d=>by
   have:=Dr h d
   have h2:(fs[e.2]?.getD ([],0)).1.length≤b:=by
    rcases hg:fs[e.2]? with _ | x
    ·simp
    ·exact h x (List.mem_of_getElem? hg)
   simp only[tot,List.length_cons,Nat.succ_mul]; omega
theorem DL {n:Nm} (h:¬ dU n=false) : n.length≤64:=by
 simp only[Bool.not_eq_false,dU,Bool.and_eq_true,decide_eq_true_eq] at h
 exact h.2.1
theorem sD (d:Dir) (p:List Int) {b:Nat} : ∀ (l:List Nm) (i:Nat) {fs:List fT},(∀ f∈fs,f.1.length≤b)→∀ f∈gm d p l i fs,f.1.length≤b
 | [],_,fs,h=>h
 | n :: l,i,fs,h=>by
   unfold gm
   cases dB d n with
   | none=>exact sD d p l (i + 1) h
   | some g =>
     refine sD d p l (i + 1) fun x hx=>?_
     unfold yV at hx
     rcases List.mem_or_eq_of_mem_set hx with hx | rfl
     ·exact h x hx
     ·show(List.take _ _).length≤b
      rw[List.length_take]
      have:=rV (s:=⟨fs,[],[],[],0,0,0⟩) h g
      unfold dP at this
      have h2:(fs[g]?.getD ([],0)).1.length≤b:=this
      omega
variable {TD TF TU TC TS:Nat}
end Go.Ab.Dk
namespace Go.Ab.Dk
open Go Go.Ab
variable {TD TF TU TC TS:Nat}
end Go.Ab.Dk
namespace Go.Ab.Dk
open Go Go.Ab
def LM (d:Dir) : List Nat:=d.map (·.2)
structure Qb (s:aT) (i:Nat) (q all:Nat) : Prop where
 aJ:s.aJ=q
 q0:q≤10000
 tt:tot s.files s.dir=all
 ale:all≤5000 * i
 ids:(LM s.dir).Nodup
 lt:∀ f∈LM s.dir,f<s.files.length
 chg:s.chg.length≤i
 dir:s.dir.length≤i
 files:∀ f∈s.files,f.1.length≤5000 * i
variable {TD TF TU TC:Nat}
end Go.Ab.Dk
namespace Go.Ab.Dk
open Go Go.Ab
def bT:Enc (Nm × Nat):=⟨2,fun e=>[St e.1,N .i64 (e.2:Int)],fun _=>rfl,fun _=>rfl⟩
def gM:Dir→Nm→Nat→Int
 | [],_,_=>-1
 | e :: l,n,i=>if e.1=n then(i:Int) else gM l n (i + 1)
def fD (l:Dir) (n:Nm) : Dir:=l.filter fun e=>decide (e.1≠n)
theorem jw {M:RM} {v:AV} {l:Dir} (h:Sl bT M v l) {i:Nat} (hi:i<l.length) {j:Nat} {x:AV} (hx:(bT.cells l[i])[j]?=some x) {K:AV→Prop} :
  (bD v (N .i64 (i:Int)) 2 fun p=>au p j fun q=>ai M q K)=K x:=by
 obtain⟨b,o,_,_,hidx,hld⟩:=Sl.at (E:=bT) h 2 (i:Int) hi rfl rfl
 rw[hidx,ae,iT,tZ hld hx]
 simp
theorem FI {M:RM} {v:AV} {l:Dir} (h:Sl bT M v l) {i:Nat} (hi:i<l.length) {K:AV→Prop} : (bD v (N .i64 (i:Int)) 2 fun p=>fP M p 2 K)=K (.agg (bT.cells l[i])):=by
 obtain⟨b,o,_,_,hidx,hld⟩:=Sl.at (E:=bT) h 2 (i:Int) hi rfl rfl
 rw[hidx,mF,hld]
 simp
def qf (c:ay) : Prop:=∀ {M:RM} {v:AV} {l:Dir} {n:Nm} {Q:aj},Sl bT M v l→l.length≤4000000000→Q (N .i64 (gM l n 0)) M→c [v,St n] M Q
theorem find_spec:qf fun args M Q=>∃ a0 a1,args=[a0,a1]∧qO a0 a1 M Q:=by
 intro M v l n Q hv hlen hQ
 refine⟨_,_,rfl, ?_⟩
 unfold qO
 refine dX (fun z ys M'=>∃ i:Nat,z=l.length - i∧ys=[N .i64 (i:Int)]∧i≤l.length∧M'=M∧gM (l.drop i) n i=gM l n 0) l.length ⟨0,rfl,rfl,Nat.zero_le _,rfl,rfl⟩ ?_
 rintro next z ys M' hnext ⟨i,rfl,rfl,hil,rfl,hf⟩
 dsimp only[aG]
 rw[aP.len hv,l9]
 refine bN (fun hlt=>?_) (fun hge=>?_)
 ·have hlt:i<l.length:=of_decide_eq_true hlt
  rw[jw hv hlt (j:=0) (x:=St l[i].1) rfl,xZ]
  rw[List.drop_eq_getElem_cons hlt,gM] at hf
  refine bN (fun hc=>?_) (fun hc=>?_)
  ·rw[if_pos (by simpa using hc)] at hf
   rw[← hf] at hQ; exact hQ
  ·rw[if_neg (by simpa using hc)] at hf
   rw[add1 (by omega)]
   exact hnext _ _ _ (by omega) ⟨i + 1,rfl,rfl,by omega,rfl,hf⟩
 ·have he:i=l.length:=by
   have:¬ i<l.length:=of_decide_eq_false hge
   omega
  subst he
  rw[List.drop_length] at hf
  rw[← hf] at hQ; exact hQ
def Gn (TE:Nat) (c:ay) : Prop:=∀ {M:RM} {v:AV} {l:Dir} {n:Nm} {Q:aj},Sl bT M v l→l.length≤1000000000→(∀ v' M',Ow bT M' M.next TE v' (fD l n)→af [] M M'→Q v' M')→c [v,St n] M Q
theorem I6 {l:Dir} {n:Nm} {i:Nat} (hi:i<l.length) : fD (l.take (i + 1)) n=if l[i].1≠n then fD (l.take i) n++[l[i]] else fD (l.take i) n:=by
 unfold fD
 rw[List.take_succ_eq_append_getElem hi,List.filter_append]
 by_cases h:l[i].1=n
 ·rw[if_neg (by simpa using h)]; simp[h]
 ·rw[if_pos h]; simp[h]
theorem JC {TE:Nat} : Gn TE fun args M Q=>∃ a0 a1,args=[a0,a1]∧sI TE a0 a1 M Q:=by
 intro M v l n Q hv hlen hQ
 refine⟨_,_,rfl, ?_⟩
 unfold sI
 simp only[nU]
 refine⟨_,_,0,0,rfl,rfl,by decide,by decide,by decide,by decide, ?_⟩
 dsimp only[Int.toNat_zero,j4]
 rw[aY]
 have k1:af [] M (M.push (.row [] false TE 0)):=(af.refl _ _).push _
 have o1:Ow bT (M.push (.row [] false TE 0)) M.next TE (.slc M.next 0 0 (.ex 0)) []:=Ow.lit bT M
 generalize M.push (.row [] false TE 0)=M1 at *
 refine dX (fun z ys M2=>∃ (i:Nat) (w:AV),z=l.length - i∧ys=[w,N .i64 (i:Int)]∧i≤l.length∧Ow bT M2 M.next TE w (fD (l.take i) n)∧af [] M M2) l.length
  ⟨0,_,rfl,rfl,Nat.zero_le _,o1,k1⟩ ?_
 rintro next z ys M2 hnext ⟨i,w,rfl,rfl,hil,o2,k2⟩
 dsimp only[aG]
 have hv2:Sl bT M2 v l:=aP.keep hv k2 (by simp)
 rw[aP.len hv2,l9]
 refine bN (fun hlt=>?_) (fun hge=>?_)
 ·have hlt:i<l.length:=of_decide_eq_true hlt
  refine iY (fun zs M'=>∃ w',zs=[w']∧Ow bT M' M.next TE w' (fD (l.take (i + 1)) n)∧af [] M M') ?_ ?_
  ·rintro zs M3 ⟨w',rfl,o3,k3⟩
   dsimp only[aG]
   rw[add1 (by omega)]
   exact hnext _ _ _ (by omega) ⟨i + 1,w',rfl,rfl,by omega,o3,k3⟩
  intro J hJ
  rw[jw hv2 hlt (j:=0) (x:=St l[i].1) rfl,EJ]
  have hct:=I6 (n:=n) hlt
  have hcl:(fD (l.take i) n).length≤i:=Nat.le_trans (List.length_filter_le _ _) (by rw[List.length_take]; omega)
  refine bN (fun hc=>?_) (fun hc=>?_)
  ·have hc:l[i].1≠n:=by simpa using hc
   rw[if_pos hc] at hct
   rw[FI hv2 hlt,nP (x:=.agg (bT.cells l[i])) (size:=2) rfl (bT.one _) rfl,aY]
   refine jY (E:=bT) (a:=l[i]) o2 k2.next (by decide) (by omega) (by omega) fun w' M3 o3 k3 n3 _=>?_
   rw[← hct] at o3
   exact hJ _ _ ⟨w',rfl,o3,k2.dG k3 (fun c hc=>.inl (Own.blk o2 c hc).1)⟩
  ·have hc:¬ l[i].1≠n:=by simpa using hc
   rw[if_neg hc] at hct
   exact hJ _ _ ⟨w,rfl,by rw[hct]; exact o2,k2⟩
 ·have he:i=l.length:=by
   have:¬ i<l.length:=of_decide_eq_false hge
   omega
  subst he
  rw[List.take_length] at o2
  exact hQ w M2 o2 k2
def FX (a b:Nm) : Bool:=!(Op.bytesLess a b || a == b)
def dK (e:Nm × Nat) (r:Dir × Bool) (x:Nm × Nat) : Dir × Bool:=(if (!r.2 && FX x.1 e.1)=true then r.1++[e]++[x] else r.1++[x],if (!r.2 && FX x.1 e.1)=true then true else r.2)
def gJ (e:Nm × Nat) (l:Dir) : Dir × Bool:=l.foldl (dK e) ([],false)
def u6 (e:Nm × Nat) (l:Dir) : Dir:=if (gJ e l).2 then(gJ e l).1 else(gJ e l).1++[e]
theorem EY {e:Nm × Nat} {l:Dir} {i:Nat} (hi:i<l.length) : gJ e (l.take (i + 1))=dK e (gJ e (l.take i)) l[i]:=by
 unfold gJ
 rw[List.take_succ_eq_append_getElem hi,List.foldl_append]; rfl
theorem zM (e:Nm × Nat) : ∀ (l:Dir) (r:Dir × Bool),(l.foldl (dK e) r).1.length≤r.1.length + 2 * l.length
 | [],r=>Nat.le_refl _
 | x :: l,r=>by
   have:=zM e l (dK e r x)
   have h2:(dK e r x).1.length≤r.1.length + 2:=by
    unfold dK; dsimp only; split <;> simp
   simp only[List.foldl_cons,List.length_cons]; omega
theorem I9 {e:Nm × Nat} {K:AV→Prop} : fA [(St []),(N .i64 0)] [(0,1,St e.1),(1,1,N .i64 (e.2:Int))] K=K (.agg (bT.cells e)):=by
 rw[gU]
 apply propext
 constructor
 ·rintro⟨cs,h,hk⟩; cases h; exact hk
 ·intro hk; exact⟨_,rfl,hk⟩
def Kr (TE:Nat) (c:ay) : Prop:=∀ {M:RM} {v:AV} {l:Dir} {n:Nm} {f:Nat} {Q:aj},Sl bT M v l→l.length≤1000000000→(∀ v' M',Ow bT M' M.next TE v' (u6 (n,f) (fD l n))→af [] M M'→Q v' M')→c [v,St n,N .i64 (f:Int)] M Q
theorem Kw {TE:Nat} {cc:ay} (hc:Gn TE cc) : Kr TE fun args M Q=>∃ a0 a1 a2,args=[a0,a1,a2]∧sP cc TE a0 a1 a2 M Q:=by
 intro M v l0 n f Q hv KD hQ
 refine⟨_,_,_,rfl, ?_⟩
 unfold sP
 simp only[nU,rJ]
 refine hc hv KD fun v1 M0 o0 k0=>?_
 have hlen:(fD l0 n).length≤1000000000:=Nat.le_trans (List.length_filter_le _ _) KD
 generalize fD l0 n=l at *
 refine⟨_,_,0,0,rfl,rfl,by decide,by decide,by decide,by decide, ?_⟩
 dsimp only[Int.toNat_zero,j4]
 rw[aY]
 have k1:af [] M0 (M0.push (.row [] false TE 0)):=(af.refl _ _).push _
 have o1:Ow bT (M0.push (.row [] false TE 0)) M0.next TE (.slc M0.next 0 0 (.ex 0)) []:=Ow.lit bT M0
 have v1' : Sl bT M0 v1 l:=Own.jk o0
 have n0:=k0.next
 generalize M0.push (.row [] false TE 0)=M1 at *
 refine dX (fun z ys M2=>∃ (i:Nat) (w:AV),z=l.length - i∧ys=[w,Bo (gJ (n,f) (l.take i)).2,N .i64 (i:Int)]∧i≤l.length∧Ow bT M2 M0.next TE w (gJ (n,f) (l.take i)).1∧af [] M0 M2) l.length
  ⟨0,_,rfl,rfl,Nat.zero_le _,o1,k1⟩ ?_
 rintro next z ys M2 hnext ⟨i,w,rfl,rfl,hil,o2,k2⟩
 dsimp only[aG]
 have hv2:Sl bT M2 v1 l:=aP.keep v1' k2 (by simp)
 rw[aP.len hv2,l9]
 have hrl:(gJ (n,f) (l.take i)).1.length≤2 * i:=by
  have:=zM (n,f) (l.take i) ([],false)
  rw[List.length_take] at this
  unfold gJ
  simp only[List.length_nil] at this
  omega
 refine bN (fun hlt=>?_) (fun hge=>?_)
 ·have hlt:i<l.length:=of_decide_eq_true hlt
  have hst:=EY (e:=(n,f)) hlt
  refine iY (fun zs M'=>∃ w',zs=[w',Bo (gJ (n,f) (l.take (i + 1))).2]∧Ow bT M' M0.next TE w' (gJ (n,f) (l.take (i + 1))).1∧af [] M0 M') ?_ ?_
  ·rintro zs M3 ⟨w',rfl,o3,k3⟩
   dsimp only[aG]
   rw[add1 (by omega)]
   exact hnext _ _ _ (by omega) ⟨i + 1,w',rfl,rfl,by omega,o3,k3⟩
  intro J hJ
  rw[hst] at hJ
  generalize hr:gJ (n,f) (l.take i)=r at *
  obtain⟨out,done⟩:=r
  dsimp only at o2 hrl
  refine iY (fun zs M'=>∃ w' out',zs=[w',Bo (if (!done && FX l[i].1 n)=true then true else done)]∧Ow bT M' M0.next TE w' out'∧out'++[l[i]]=(dK (n,f) (out,done) l[i]).1∧out'.length≤2 * i + 1∧af [] M0 M') ?_ ?_
  ·rintro zs M3 ⟨w',out',rfl,o3,ho,hol,k3⟩
   dsimp only[aG]
   rw[FI (aP.keep v1' k3 (by simp)) hlt,nP (x:=.agg (bT.cells l[i])) (size:=2) rfl (bT.one _) rfl,aY]
   refine jY (E:=bT) (a:=l[i]) o3 k3.next (by decide) (by omega) (by omega) fun w'' M4 o4 k4 n4 _=>?_
   rw[ho] at o4
   exact hJ _ _ ⟨w'',rfl,o4,k3.dG k4 (fun c hc=>.inl (Own.blk o3 c hc).1)⟩
  intro J2 hJ2
  dsimp only
  rw[jW]
  refine fo (p:=FX l[i].1 n) (fun _ k hk=>?_) ?_
  ·rw[jw hv2 hlt (j:=0) (x:=St l[i].1) rfl,Ke]; exact hk
  refine bN (fun hc=>?_) (fun hc=>?_)
  ·rw[show(N .i64 (f:Int))=N .i64 (((n,f) : Nm × Nat).2:Int) from rfl,show St n=St ((n,f) : Nm × Nat).1 from rfl,I9,nP (x:=.agg (bT.cells (n,f))) (size:=2) rfl (bT.one _) rfl,aY]
   refine jY (E:=bT) (a:=(n,f)) o2 k2.next (by decide) (by omega) (by omega) fun w'' M4 o4 k4 n4 _=>?_
   refine hJ2 _ _ ⟨w'',_, ?_,o4, ?_,by simp; omega,k2.dG k4 (fun c hc=>.inl (Own.blk o2 c hc).1)⟩
   ·rw[if_pos hc]
   ·unfold dK; dsimp only; rw[if_pos hc]
  ·refine hJ2 _ _ ⟨w,_, ?_,o2, ?_,by omega,k2⟩
   ·rw[if_neg (by rw[hc]; simp)]
   ·unfold dK; dsimp only; rw[if_neg (by rw[hc]; simp)]
 ·have he:i=l.length:=by
   have:¬ i<l.length:=of_decide_eq_false hge
   omega
  subst he
  rw[List.take_length] at o2 hrl ⊢
  unfold u6 at hQ
  generalize gJ (n,f) l=r at *
  obtain⟨out,done⟩:=r
  dsimp only at o2 hrl hQ ⊢
  refine iY (fun zs M'=>∃ w',zs=[w']∧Ow bT M' M0.next TE w' (if done=true then out else out++[(n,f)])∧af [] M0 M') ?_ ?_
  ·rintro zs M3 ⟨w',rfl,o3,k3⟩
   dsimp only[aG]
   exact hQ w' M3 (Own.mono o3 n0) (k0.trans k3)
  ·intro J hJ
   rw[jW]
   refine bN (fun hc=>?_) (fun hc=>?_)
   ·rw[show(N .i64 (f:Int))=N .i64 (((n,f) : Nm × Nat).2:Int) from rfl,show St n=St ((n,f) : Nm × Nat).1 from rfl,I9,nP (x:=.agg (bT.cells (n,f))) (size:=2) rfl (bT.one _) rfl,aY]
    refine jY (E:=bT) (a:=(n,f)) o2 k2.next (by decide) (by omega) (by omega) fun w'' M4 o4 k4 n4 _=>?_
    refine hJ _ _ ⟨w'',rfl, ?_,k2.dG k4 (fun c hc=>.inl (Own.blk o2 c hc).1)⟩
    have:done=false:=by simpa using hc
    rw[this]; exact o4
   ·refine hJ _ _ ⟨w,rfl, ?_,k2⟩
    have:done=true:=by simpa using hc
    rw[this]; exact o2
abbrev fK:=Nat × (Nm × (Nm × Nat))
def eU:Enc fK:=⟨4,fun c=>[N .i64 (c.1:Int),St c.2.1,St c.2.2.1,N .i64 (c.2.2.2:Int)],fun _=>rfl,fun _=>rfl⟩
def kS (l:Dir) (c:fK) : Dir :=
 if c.1=0 then u6 (c.2.1,c.2.2.2) (fD l c.2.1)
 else if c.1=1 then(match dB l c.2.1 with | none=>l | some f=>u6 (c.2.2.1,f) (fD (fD l c.2.1) c.2.2.1))
 else fD l c.2.1
theorem kE (n:Nm) : ∀ (l:Dir) (k:Nat),(gM l n k=-1∧dB l n=none)∨∃ (i:Nat) (hi:i<l.length),gM l n k=((k + i:Nat) : Int)∧dB l n=some l[i].2
 | [],k=>.inl ⟨rfl,rfl⟩
 | e :: l,k=>by
   unfold gM dB
   by_cases h:e.1=n
   ·rw[if_pos h,if_pos h.symm]
    exact .inr ⟨0,by simp,rfl,rfl⟩
   ·rw[if_neg h,if_neg (fun x=>h x.symm)]
    rcases kE n l (k + 1) with⟨h1,h2⟩ | ⟨i,hi,h1,h2⟩
    ·exact .inl ⟨h1,h2⟩
    ·refine .inr ⟨i + 1,by simp; omega, ?_,by simpa using h2⟩
     rw[h1]; congr 1; omega
def H8 (c:ay) : Prop:=∀ {M:RM} {v:AV} {l:Dir} {ch:fK} {Q:aj},Sl bT M v l→l.length≤1000000000→(∀ v' M',Sl bT M' v' (kS l ch)→(v'=v∨∀ b∈az v',M.next≤b)→af [] M M'→Q v' M')→c [v,.agg (eU.cells ch)] M Q
theorem Kt {TC TE:Nat} {cp cf cc:ay} (hp:Kr TE cp) (hf:qf cf) (hc:Gn TE cc) : H8 fun args M Q=>∃ a0 a1,args=[a0,a1]∧vD TC cp cf cc a0 a1 M Q:=by
 intro M v l ch Q hv hlen hQ
 obtain⟨kd,n,to,f⟩:=ch
 refine⟨_,_,rfl, ?_⟩
 unfold vD
 rw[kF (eU.one _) (by rw[eU.len]; decide),aY]
 have k1:af [] M (M.push (.row (eU.cells (kd,n,to,f)) false TC 0)):=(af.refl _ _).push _
 have h1:(M.push (.row (eU.cells (kd,n,to,f)) false TC 0)).heap M.next=some (.row (eU.cells (kd,n,to,f)) false TC 0):=RM.bi _
 have n1:(M.push (.row (eU.cells (kd,n,to,f)) false TC 0)).next=M.next + 1:=aU _
 generalize M.push (.row (eU.cells (kd,n,to,f)) false TC 0)=M1 at *
 have hv1:Sl bT M1 v l:=aP.keep hv k1 (by simp)
 unfold kS at hQ
 dsimp only at hQ
 rw[ae,ag (i:=0 + 0) (x:=N .i64 (kd:Int)) h1 rfl,show(N .i64 (0:Int))=N .i64 ((0:Nat) : Int) from rfl,Kn]
 refine bN (fun hk=>?_) (fun hk=>?_)
 ·have hk:=of_decide_eq_true hk
  rw[if_pos hk] at hQ
  rw[ae,ag (i:=0 + 1) (x:=St n) h1 rfl,ae,ag (i:=0 + 3) (x:=N .i64 (f:Int)) h1 rfl]
  refine hp hv1 hlen fun v' M2 o2 k2=>?_
  exact hQ v' M2 (Own.jk o2) (.inr fun b hb=>by have:=(Own.blk o2 b hb).1; omega) (k1.trans k2)
 ·have hk:=of_decide_eq_false hk
  rw[if_neg hk] at hQ
  rw[show(N .i64 (1:Int))=N .i64 ((1:Nat) : Int) from rfl,Kn]
  refine bN (fun hk1=>?_) (fun hk1=>?_)
  ·have hk1:=of_decide_eq_true hk1
   rw[if_pos hk1] at hQ
   rw[ae,ag (i:=0 + 1) (x:=St n) h1 rfl]
   refine hf hv1 (by omega) ?_
   rcases kE n l 0 with⟨e1,e2⟩ | ⟨i,hi,e1,e2⟩
   ·rw[e2] at hQ
    rw[e1,dN,show decide ((-1:Int)<((0:Nat) : Int))=true from rfl,jd]
    exact hQ v M1 hv1 (.inl rfl) k1
   ·rw[e2] at hQ
    dsimp only at hQ
    rw[e1,Nat.zero_add,l9,show decide (i<0)=false from decide_eq_false (by omega),fE,jw hv1 hi (j:=1) (x:=N .i64 (l[i].2:Int)) rfl,ae,ag (i:=0 + 1) (x:=St n) h1 rfl,ae,ag (i:=0 + 2) (x:=St to) h1 rfl]
    refine hc hv1 hlen fun v2 M2 o2 k2=>?_
    rw[ag (i:=0 + 2) (x:=St to) (k2.bC h1 (by omega) (by simp)) rfl]
    refine⟨rfl, ?_⟩
    refine hp (Own.jk o2) (Nat.le_trans (List.length_filter_le _ _) hlen) fun v3 M3 o3 k3=>?_
    have n2:=k2.next
    exact hQ v3 M3 (Own.jk o3) (.inr fun b hb=>by have:=(Own.blk o3 b hb).1; omega) ((k1.trans k2).trans k3)
  ·have hk1:=of_decide_eq_false hk1
   rw[if_neg hk1] at hQ
   rw[ae,ag (i:=0 + 1) (x:=St n) h1 rfl]
   refine hc hv1 hlen fun v2 M2 o2 k2=>?_
   exact hQ v2 M2 (Own.jk o2) (.inr fun b hb=>by have:=(Own.blk o2 b hb).1; omega) (k1.trans k2)
theorem Gb:∀ a b:Nm,(Op.bytesLess a b || a == b)=iD a b
 | [],[]=>rfl
 | [],b :: y=>rfl
 | a :: x,[]=>rfl
 | a :: x,b :: y=>by
   rw[iD,← Gb x y,Op.bytesLess]
   rw[Bool.eq_iff_iff]
   simp only[Bool.or_eq_true,Bool.and_eq_true,decide_eq_true_eq,beq_iff_eq,List.cons.injEq,UInt8.lt_iff_toNat_lt,← UInt8.toNat_inj]
   constructor
   ·rintro((h | ⟨h1,h2⟩) | ⟨h1,h2⟩)
    ·exact .inl h
    ·exact .inr ⟨h1,.inl h2⟩
    ·exact .inr ⟨h1,.inr h2⟩
   ·rintro(h | ⟨h1,h2 | h2⟩)
    ·exact .inl (.inl h)
    ·exact .inl (.inr ⟨h1,h2⟩)
    ·exact .inr ⟨h1,h2⟩
theorem Ip (a b:Nm) : FX a b=!iD a b:=by unfold FX; rw[Gb]
def pE (e:Nm × Nat) : Dir→Dir
 | []=>[e]
 | x :: l=>if iD x.1 e.1=false then e :: x :: l else x :: pE e l
theorem DJ (e:Nm × Nat) : ∀ (l out:Dir),l.foldl (dK e) (out,true)=(out++l,true)
 | [],out=>by simp
 | x :: l,out=>by
   rw[List.foldl_cons]
   have:dK e (out,true) x=(out++[x],true):=by simp[dK]
   rw[this,DJ e l]; simp
theorem run_go (e:Nm × Nat) : ∀ (l out:Dir),(if (l.foldl (dK e) (out,false)).2 then(l.foldl (dK e) (out,false)).1 else(l.foldl (dK e) (out,false)).1++[e])=out++pE e l
 | [],out=>by simp[pE]
 | x :: l,out=>by
   rw[List.foldl_cons]
   by_cases h:iD x.1 e.1=false
   ·have:dK e (out,false) x=(out++[e]++[x],true):=by simp[dK,Ip,h]
    rw[this,DJ]
    simp[pE,h]
   ·have h' : iD x.1 e.1=true:=by simpa using h
    have:dK e (out,false) x=(out++[x],false):=by simp[dK,Ip,h']
    rw[this,run_go e l]
    simp[pE,h']
theorem FT (e:Nm × Nat) (l:Dir) : u6 e l=pE e l:=by
 have:=run_go e l []
 rw[List.nil_append] at this
 exact this
theorem pY (e:Nm × Nat) : ∀ l:Dir,(pE e l).Perm (e :: l)
 | []=>.refl _
 | x :: l=>by
   unfold pE
   split
   ·exact .refl _
   ·exact((pY e l).cons x).trans (.swap _ _ _)
def wG (l:Dir) : Prop:=l.Pairwise fun a b=>iD a.1 b.1=true∧a.1≠b.1
theorem xD {e:Nm × Nat} : ∀ {l:Dir},wG l→e.1 ∉ aA l→wG (pE e l)
 | [],_,_=>by simp[pE,wG]
 | x :: l,h,hn=>by
   have hx:e.1≠x.1:=fun he=>hn (by rw[he]; exact List.mem_cons_self ..)
   have hl:e.1 ∉ aA l:=fun hm=>hn (List.mem_cons_of_mem _ hm)
   unfold pE
   split
   ·rename_i hgt
    have hex:iD e.1 x.1=true:=by have:=uP x.1 e.1; rw[hgt] at this; simpa using this
    refine List.pairwise_cons.2 ⟨fun y hy=>?_,h⟩
    rcases List.mem_cons.1 hy with rfl | hy
    ·exact⟨hex,hx⟩
    ·have:=(List.pairwise_cons.1 h).1 y hy
     exact⟨uT _ _ _ hex this.1,fun he=>hl (by rw[he]; exact List.mem_map_of_mem hy)⟩
   ·rename_i hgt
    refine List.pairwise_cons.2 ⟨fun y hy=>?_,xD (List.pairwise_cons.1 h).2 hl⟩
    rcases List.mem_cons.1 ((pY e l).mem_iff.1 hy) with rfl | hy
    ·exact⟨by simpa using hgt,fun he=>hx he.symm⟩
    ·exact(List.pairwise_cons.1 h).1 y hy
def RD (d r:Dir) : Prop:=r.Perm d∧wG r
theorem xI {n:Nm} : ∀ {d:Dir},(aA d).Nodup→fO d n=fD d n
 | [],_=>rfl
 | e :: d,h=>by
   have h':=List.nodup_cons.1 h
   unfold fO
   by_cases hn:n=e.1
   ·rw[if_pos hn]
    have hall:∀ x∈d,x.1≠n:=fun x hx he=>h'.1 (by show e.1∈_; rw[← hn,← he]; exact List.mem_map_of_mem hx)
    unfold fD
    rw[List.filter_cons_of_neg (by simp[hn]),List.filter_eq_self.2 (fun x hx=>by simpa using hall x hx)]
   ·rw[if_neg hn]
    unfold fD
    rw[List.filter_cons_of_pos (by simpa using fun x=>hn x.symm)]
    have:=xI (n:=n) h'.2
    unfold fD at this
    rw[this]
theorem BU {n:Nm} {f:Nat} : ∀ {d:Dir},(aA d).Nodup→(jD d n f).Perm ((n,f) :: fO d n)
 | [],_=>.refl _
 | e :: d,h=>by
   have h':=List.nodup_cons.1 h
   unfold jD fO
   by_cases hn:n=e.1
   ·rw[if_pos hn,if_pos hn]
   ·rw[if_neg hn,if_neg hn]
    exact((BU h'.2).cons e).trans (.swap _ _ _)
theorem RD.cut {d r:Dir} (h:RD d r) (hn:(aA d).Nodup) (n:Nm) : RD (fO d n) (fD r n):=by
 rw[xI hn]
 exact⟨h.1.filter _,h.2.sublist List.filter_sublist⟩
theorem RD.put {d r:Dir} (h:RD d r) (hn:(aA d).Nodup) (n:Nm) (f:Nat) : RD (jD d n f) (u6 (n,f) (fD r n)):=by
 have hc:=h.cut hn n
 rw[FT]
 refine⟨((pY _ _).trans (hc.1.cons _)).trans (BU hn).symm,xD hc.2 ?_⟩
 intro hm
 obtain⟨x,hx,he⟩:=List.mem_map.1 hm
 have:=(List.mem_filter.1 hx).2
 simp at this
 exact this he
theorem iA {n:Nm} {f:Nat} : ∀ {d:Dir},(aA d).Nodup→(dB d n=some f↔(n,f)∈d)
 | [],_=>by simp[dB]
 | e :: d,h=>by
   have h':=List.nodup_cons.1 h
   unfold dB
   by_cases hn:n=e.1
   ·rw[if_pos hn]
    constructor
    ·intro he
     have:e=(n,f):=Prod.ext hn.symm (by injection he)
     rw[this]; exact List.mem_cons_self ..
    ·intro hm
     rcases List.mem_cons.1 hm with rfl | hm
     ·rfl
     ·exact absurd (List.mem_map_of_mem (f:=(·.1)) hm) (by show n ∉ _; rw[hn]; exact h'.1)
   ·rw[if_neg hn,iA h'.2]
    constructor
    ·exact List.mem_cons_of_mem _
    ·intro hm
     rcases List.mem_cons.1 hm with rfl | hm
     ·exact absurd rfl hn
     ·exact hm
theorem RD.lk {d r:Dir} (h:RD d r) (hn:(aA d).Nodup) (n:Nm) : dB r n=dB d n:=by
 have hr:(aA r).Nodup:=(h.1.map _).nodup_iff.2 hn
 cases hd:dB d n with
 | some f=>exact(iA hr).2 (h.1.mem_iff.2 ((iA hn).1 hd))
 | none =>
   cases hq:dB r n with
   | none=>rfl
   | some f =>
     have:=(iA hn).2 (h.1.mem_iff.1 ((iA hr).1 hq))
     rw[hd] at this; cases this
theorem RD.names {d r:Dir} (h:RD d r) : aA r=gy (aA d):=by
 refine List.Perm.eq_of_pairwise (le:=fun a b=>iD a b=true) (fun a b _ _ h1 h2=>Ee a b h1 h2) ?_ (pJ _) ((h.1.map _).trans (jc _).symm)
 exact(List.Pairwise.map _ (fun a b h=>h.1) h.2)
theorem GI {d:Dir} (h:(aA d).Nodup) (n:Nm) : (aA (fO d n)).Nodup:=h.sublist (pg n d)
inductive One (d:Dir) : iC→fK→Prop
 | made (n:Nm) (f:Nat) : One d (n,some f,[]) (0,n,[],f)
 | moved (n to:Nm) (f:Nat) : n≠[]→dB d n=some f→One d (to,some f,n) (1,n,to,0)
 | gone (n:Nm) : n≠[]→One d ([],none,n) (2,n,[],0)
theorem One.rd {d r:Dir} {c:iC} {k:fK} (h:One d c k) (hr:RD d r) (hn:(aA d).Nodup) : RD (fB d c) (kS r k):=by
 cases h with
 | made n f=>exact hr.put hn n f
 | moved n to f h1 h2 =>
   have e1:fB d (to,some f,n)=jD (fO d n) to f:=by unfold fB; dsimp only; rw[if_pos h1]
   have e2:kS r (1,n,to,0)=u6 (to,f) (fD (fD r n) to):=by
    unfold kS; dsimp only
    rw[if_neg (by decide),if_pos rfl,hr.lk hn,h2]
   rw[e1,e2]
   exact(hr.cut hn n).put (GI hn n) to f
 | gone n h1 =>
   have e1:fB d ([],none,n)=fO d n:=by unfold fB; dsimp only; rw[if_pos h1]
   have e2:kS r (2,n,[],0)=fD r n:=by unfold kS; dsimp only; rw[if_neg (by decide),if_neg (by decide)]
   rw[e1,e2]
   exact hr.cut hn n
def j3:Dir→List iC→List fK→Prop
 | _,[],[]=>True
 | d,c :: cs,k :: ks=>One d c k∧j3 (fB d c) cs ks
 | _,_,_=>False
theorem j3.len:∀ {d:Dir} {cs:List iC} {ks:List fK},j3 d cs ks→cs.length=ks.length
 | _,[],[],_=>rfl
 | _,_ :: _,_ :: _,h=>by simp only[List.length_cons]; rw[j3.len h.2]
theorem j3.snoc {c:iC} {k:fK} : ∀ {cs:List iC} {ks:List fK} {d:Dir},j3 d cs ks→One (cs.foldl fB d) c k→j3 d (cs++[c]) (ks++[k])
 | [],[],_,_,h=>⟨h,trivial⟩
 | _ :: _,_ :: _,_,h,h2=>⟨h.1,h.2.snoc h2⟩
theorem j3.rd:∀ {cs:List iC} {ks:List fK} {d r:Dir},j3 d cs ks→RD d r→(aA d).Nodup→∀ j,RD ((cs.take j).foldl fB d) ((ks.take j).foldl kS r)
 | _,_,_,_,_,hr,_,0=>by simpa using hr
 | [],[],_,_,_,hr,_,j + 1=>by simpa using hr
 | c :: cs,k :: ks,d,r,h,hr,hn,j + 1=>by
   simp only[List.take_succ_cons,List.foldl_cons]
   exact h.2.rd (h.1.rd hr hn) (qa hn c) j
structure dH where
 files:List fT
 dir:Dir
 aS:Dir
 chg:List fK
 aJ:Int
 app:Int
 syn:Int
structure bU (s:aT) (r:dH) : Prop where
 files:r.files=s.files
 dir:RD s.dir r.dir
 aS:RD s.aS r.aS
 nd:(aA s.dir).Nodup
 nds:(aA s.aS).Nodup
 full:∀ n∈aA s.dir,n≠[]
 wC:∀ n∈aA s.aS,n≠[]
 chg:j3 s.aS s.chg r.chg
 fold:s.dir=s.chg.foldl fB s.aS
 aJ:r.aJ=s.aJ
 app:r.app=s.app
 syn:r.syn=s.syn
def rD (r:dH) (k:fK) : dH := { r with dir:=kS r.dir k,chg:=r.chg++[k] }
def lK (r:dH) (n:Nm) : dH × Int :=
 if dU n=false then(r,1) else if (dB r.dir n).isSome then(r,12) else(rD { r with files:=r.files++[([],0)] } (0,n,[],r.files.length),0)
def bX (r:dH) (f:Nat) : fT:=r.files[f]?.getD ([],0)
def om (r:dH) (n:Nm) (b:List UInt8) : dH × Int :=
 match dB r.dir n with
 | none=>(r,4)
 | some f=>if r.aJ - (tot r.files r.dir:Int)<b.length then(r,5) else({ r with files:=r.files.set f ((bX r f).1++b,(bX r f).2),app:=gB (r.app + 1) },0)
def vV (r:dH) (n:Nm) : dH × Int :=
 match dB r.dir n with
 | none=>(r,4)
 | some f=>({ r with files:=r.files.set f ((bX r f).1,(bX r f).1.length),syn:=gB (r.syn + 1) },0)
def oo (r:dH) (n to:Nm) : dH × Int :=
 match dB r.dir n with
 | none=>(r,4)
 | some _=>if dU to=false then(r,1) else(rD r (1,n,to,0),0)
def l7 (r:dH) (n:Nm) : dH × Int :=
 match dB r.dir n with
 | none=>(r,4)
 | some _=>(rD r (2,n,[],0),0)
def pu (r:dH) : dH := { r with aS:=r.dir,chg:=[],syn:=gB (r.syn + 1) }
def kX (p:List Int) : Dir→Nat→List fT→List fT
 | [],_,fs=>fs
 | e :: l,i,fs=>kX p l (i + 1) (yV fs e.2 p i)
def jr (r:dH) (p:List Int) : Dir:=(r.chg.take (bF p 0 (r.chg.length + 1))).foldl kS r.aS
def Di (r:dH) (p:List Int) : dH := { r with files:=kX p (jr r p) 1 r.files,dir:=jr r p,aS:=jr r p,chg:=[] }
theorem Cb {d:Dir} {p:List Int} : ∀ (l:Dir) (i:Nat) (fs:List fT),(∀ e∈l,dB d e.1=some e.2)→gm d p (aA l) i fs=kX p l i fs
 | [],_,_,_=>rfl
 | e :: l,i,fs,h=>by
   have he:=h e (List.mem_cons_self ..)
   show gm d p (e.1 :: aA l) i fs=_
   unfold gm kX
   rw[he]
   exact Cb l (i + 1) _ fun x hx=>h x (List.mem_cons_of_mem _ hx)
theorem Kz {fs:List fT} {d r:Dir} (h:r.Perm d) : tot fs r=tot fs d:=by
 induction h with
 | nil=>rfl
 | cons x _ ih=>simp only[tot,ih]
 | swap x y l=>simp only[tot]; omega
 | trans _ _ ih1 ih2=>rw[ih1,ih2]
theorem DY {d:Dir} (h:∀ n∈aA d,n≠[]) {c:iC} (hc:c.2.1≠none→c.1≠[]) : ∀ n∈aA (fB d c),n≠[]:=by
 have h1:∀ n∈aA (if c.2.2≠[] then fO d c.2.2 else d),n≠[]:=by
  split
  ·exact fun n hn=>h n ((pg _ _).subset hn)
  ·exact h
 unfold fB
 dsimp only
 cases hq:c.2.1 with
 | none=>exact h1
 | some f =>
   intro n hn
   rcases Dw n hn with hn | rfl
   ·exact h1 n hn
   ·exact hc (by rw[hq]; simp)
theorem wI {n:Nm} (h:¬ dU n=false) : n≠[]:=by
 rintro rfl
 exact h rfl
theorem bU.made {s:aT} {r:dH} (h:bU s r) {c:iC} {k:fK} (ho:One s.dir c k) (hc:c.2.1≠none→c.1≠[]) : bU (jL s c) (rD r k) :=
 ⟨h.files,ho.rd h.dir h.nd,h.aS,qa h.nd c,h.nds,DY h.full hc,h.wC,h.chg.snoc (by rw[← h.fold]; exact ho),by
  show fB s.dir c=_
  simp only[jL,List.foldl_append,← h.fold]; rfl,h.aJ,h.app,h.syn⟩
theorem Dx {n:Nm} {f:Nat} : ∀ {d:Dir},dB d n=some f→n∈aA d
 | [],h=>by cases h
 | e :: d,h=>by
   unfold dB at h
   by_cases hn:n=e.1
   ·rw[hn]; exact List.mem_cons_self ..
   ·rw[if_neg hn] at h; exact List.mem_cons_of_mem _ (Dx h)
section
variable {s:aT} {r:dH}
theorem bU.lk (h:bU s r) (n:Nm) : dB r.dir n=dB s.dir n:=h.dir.lk h.nd n
theorem bU.tot (h:bU s r) : tot r.files r.dir=tot s.files s.dir:=by rw[h.files]; exact Kz h.dir.1
theorem bU.create (h:bU s r) (n:Nm) : bU (dE s n).1 (lK r n).1∧(lK r n).2=(dE s n).2:=by
 unfold dE lK
 by_cases hg:dU n=false
 ·rw[if_pos hg,if_pos hg]; exact⟨h,rfl⟩
 ·rw[if_neg hg,if_neg hg,h.lk]
  by_cases hl:(dB s.dir n).isSome=true
  ·rw[if_pos hl,if_pos hl]; exact⟨h,rfl⟩
  ·rw[if_neg hl,if_neg hl]
   have hb:bU { s with files:=s.files++[([],0)] } { r with files:=r.files++[([],0)] } := ⟨by show r.files++_=s.files++_; rw[h.files],h.dir,h.aS,h.nd,h.nds,h.full,h.wC,h.chg,h.fold,h.aJ,h.app,h.syn⟩
   have hm:=hb.made (c:=(n,some s.files.length,[])) (k:=(0,n,[],r.files.length)) (by rw[h.files]; exact .made n _) (fun _=>wI hg)
   exact⟨hm,rfl⟩
theorem bU.append (h:bU s r) (n:Nm) (b:List UInt8) : bU (dF s n b).1 (om r n b).1∧(om r n b).2=(dF s n b).2:=by
 unfold dF om
 rw[h.lk]
 cases dB s.dir n with
 | none=>exact⟨h,rfl⟩
 | some f =>
   dsimp only
   rw[h.tot,h.aJ]
   have hf:bX r f=dP s f:=by unfold bX dP; rw[h.files]
   by_cases hq:s.aJ - (Go.Ab.Dk.tot s.files s.dir:Int)<b.length
   ·rw[if_pos hq,if_pos hq]; exact⟨h,rfl⟩
   ·rw[if_neg hq,if_neg hq,hf]
    exact⟨⟨by show r.files.set _ _=s.files.set _ _; rw[h.files],h.dir,h.aS,h.nd,h.nds,h.full,h.wC,h.chg,h.fold,rfl,by show gB (r.app + 1)=gB (s.app + 1); rw[h.app],h.syn⟩,rfl⟩
theorem bU.sync (h:bU s r) (n:Nm) : bU (kw s n).1 (vV r n).1∧(vV r n).2=(kw s n).2:=by
 unfold kw vV
 rw[h.lk]
 cases dB s.dir n with
 | none=>exact⟨h,rfl⟩
 | some f =>
   dsimp only
   have hf:bX r f=dP s f:=by unfold bX dP; rw[h.files]
   rw[hf]
   exact⟨⟨by show r.files.set _ _=s.files.set _ _; rw[h.files],h.dir,h.aS,h.nd,h.nds,h.full,h.wC,h.chg,h.fold,h.aJ,h.app,by show gB (r.syn + 1)=gB (s.syn + 1); rw[h.syn]⟩,rfl⟩
theorem bU.rename (h:bU s r) (n to:Nm) : bU (jm s n to).1 (oo r n to).1∧(oo r n to).2=(jm s n to).2:=by
 unfold jm oo
 rw[h.lk]
 cases hl:dB s.dir n with
 | none=>exact⟨h,rfl⟩
 | some f =>
   dsimp only
   by_cases hg:dU to=false
   ·rw[if_pos hg,if_pos hg]; exact⟨h,rfl⟩
   ·rw[if_neg hg,if_neg hg]
    exact⟨h.made (.moved n to f (h.full n (Dx hl)) hl) (fun _=>wI hg),rfl⟩
theorem bU.remove (h:bU s r) (n:Nm) : bU (iN s n).1 (l7 r n).1∧(l7 r n).2=(iN s n).2:=by
 unfold iN l7
 rw[h.lk]
 cases hl:dB s.dir n with
 | none=>exact⟨h,rfl⟩
 | some f=>exact⟨h.made (.gone n (h.full n (Dx hl))) (fun hc=>absurd rfl hc),rfl⟩
theorem bU.BJ (h:bU s r) : bU (fZ s) (pu r) :=
 ⟨h.files,h.dir,h.dir,h.nd,h.nd,h.full,h.full,trivial,rfl,h.aJ,h.app,by show gB (r.syn + 1)=gB (s.syn + 1); rw[h.syn]⟩
theorem Cy:∀ (cs:List iC) {d:Dir} {ks:List fK},j3 d cs ks→(∀ c∈cs,c.2.1≠none→c.1≠[])→(∀ n∈aA d,n≠[])→∀ n∈aA (cs.foldl fB d),n≠[]
 | [],_,_,_,_,h=>h
 | c :: cs,_,k :: ks,h,hc,hf=>Cy cs h.2 (fun x hx=>hc x (List.mem_cons_of_mem _ hx)) (DY hf (hc c (List.mem_cons_self ..)))
theorem j3.take:∀ {cs:List iC} {ks:List fK} {d:Dir},j3 d cs ks→∀ j,j3 d (cs.take j) (ks.take j)
 | _,_,_,_,0=>by simp[j3]
 | [],[],_,_,_ + 1=>by simp[j3]
 | _ :: _,_ :: _,_,h,j + 1=>⟨h.1,h.2.take j⟩
theorem bU.Gz (h:bU s r) (hc:∀ c∈s.chg,c.2.1≠none→c.1≠[]) (p:List Int) : bU (mO s p) (Di r p):=by
 have hl:=h.chg.len
 have hrd:RD (bJ s p) (jr r p):=by
  unfold bJ jr
  rw[← hl]
  exact h.chg.rd h.aS h.nds _
 have hnd:(aA (bJ s p)).Nodup:=zX _ h.nds
 have hfull:∀ n∈aA (bJ s p),n≠[]:=Cy _ (h.chg.take _) (fun c hm=>hc c (List.mem_of_mem_take hm)) h.wC
 have MP:kX p (jr r p) 1 r.files=gm (bJ s p) p (gy (aA (bJ s p))) 1 s.files:=by
  rw[h.files,← hrd.names]
  refine(Cb _ _ _ fun e he=>?_).symm
  exact(iA hnd).2 (hrd.1.mem_iff.1 he)
 exact⟨MP,hrd,hrd,hnd,hnd,hfull,hfull,trivial,rfl,h.aJ,h.app,h.syn⟩
end
theorem Ny {M:RM} {c q r:Bool} {f0:aj→Prop} {f:RM→aj→Prop} {G:AV→RM→Prop} (hf0:c=false→∀ k:aj,k (Bo q) M→f0 k) (hf:c=false→q=true→∀ k:aj,k (Bo r) M→f M k) (hG:G (Bo (c || (q && r))) M) :
  ak (Bo c) false f0 (fun k=>k .undef M) (fun t M1=>ak t true (f M1) (fun k=>k .undef M1) fun u M2=>ak (Bo c) false (fun k=>bg t u (Bo false) fun w=>k w M2) (fun k=>k .undef M2) fun w M3=>bg (Bo c) (Bo true) w fun z=>G z M3):=by
 cases c with
 | true=>rw[uI]; dsimp only; rw[JO]; dsimp only; rw[uI]; dsimp only; rw[Ah]; exact hG
 | false =>
   rw[kP]
   refine hf0 rfl _ ?_
   cases q with
   | false =>
     rw[u7]
     dsimp only
     rw[kP,Go.Ab.bF]
     try dsimp only
     rw[Go.Ab.bF]; exact hG
   | true =>
     rw[uV]
     refine hf rfl rfl _ ?_
     rw[kP,Ah]
     try dsimp only
     rw[Go.Ab.bF]; exact hG
def zV (c:ay) : Prop:=∀ {M:RM} {s:Nm} {Q:aj},s.length≤1000000→Q (Bo (dU s)) M→c [St s] M Q
theorem DR:zV fun args M Q=>∃ a0,args=[a0]∧qy a0 M Q:=by
 intro M s Q hlen hQ
 refine⟨_,rfl, ?_⟩
 unfold qy
 simp only[rJ]
 refine dX (fun z ys M'=>∃ i:Nat,z=s.length - i∧ys=[N .i64 (i:Int)]∧i≤s.length∧M'=M∧(s.take i).all iF=true) s.length ⟨0,rfl,rfl,Nat.zero_le _,rfl,by simp⟩ ?_
 rintro next z ys M' hnext ⟨i,rfl,rfl,hil,rfl,hall⟩
 dsimp only[aG]
 rw[kN,l9]
 refine bN (fun hlt=>?_) (fun hge=>?_)
 ·have hlt:i<s.length:=of_decide_eq_true hlt
  refine⟨s,.i64,(i:Int),s[i],rfl,rfl,by omega,by rw[Int.toNat_natCast]; exact List.getElem?_eq_getElem hlt, ?_⟩
  have hst:(s.take (i + 1)).all iF=iF s[i]:=by
   rw[List.take_succ_eq_append_getElem hlt,List.all_append,hall]; simp
  generalize hch:s[i]=ch at *
  have h97:decide (((ch.toNat:Nat) : Int) ≥ 97)=decide (97≤ch):=by rw[Bool.eq_iff_iff]; simp only[decide_eq_true_eq,UInt8.le_iff_toNat_le]; show(97:Int)≤_↔97≤ch.toNat; omega
  have h122:decide (((ch.toNat:Nat) : Int)≤122)=decide (ch≤122):=by rw[Bool.eq_iff_iff]; simp only[decide_eq_true_eq,UInt8.le_iff_toNat_le]; show _≤(122:Int)↔ch.toNat≤122; omega
  have h48:decide (((ch.toNat:Nat) : Int) ≥ 48)=decide (48≤ch):=by rw[Bool.eq_iff_iff]; simp only[decide_eq_true_eq,UInt8.le_iff_toNat_le]; show(48:Int)≤_↔48≤ch.toNat; omega
  have h57:decide (((ch.toNat:Nat) : Int)≤57)=decide (ch≤57):=by rw[Bool.eq_iff_iff]; simp only[decide_eq_true_eq,UInt8.le_iff_toNat_le]; show _≤(57:Int)↔ch.toNat≤57; omega
  have heq:∀ (k:UInt8),(((ch.toNat:Nat) : Int) == ((k.toNat:Nat) : Int))=(ch == k):=by
   intro k; rw[Bool.eq_iff_iff]; simp only[beq_iff_eq,← UInt8.toNat_inj]; omega
  dsimp only
  rw[pI,h97]
  refine fo (p:=decide (ch≤122)) (fun _ k hk=>by rw[yU,h122]; exact hk) ?_
  refine Ny (q:=decide (48≤ch)) (r:=decide (ch≤57)) (fun _ k hk=>by rw[pI,h48]; exact hk) (fun _ _ k hk=>by rw[yU,h57]; exact hk) ?_
  refine yY (p:=ch == 46) (fun _ k hk=>by rw[bz,show(46:Int)=(((46:UInt8).toNat:Nat) : Int) from rfl,heq]; exact hk) ?_
  refine yY (p:=ch == 45) (fun _ k hk=>by rw[bz,show(45:Int)=(((45:UInt8).toNat:Nat) : Int) from rfl,heq]; exact hk) ?_
  refine yY (p:=ch == 95) (fun _ k hk=>by rw[bz,show(95:Int)=(((95:UInt8).toNat:Nat) : Int) from rfl,heq]; exact hk) ?_
  rw[jW]
  have hok:iF ch=(decide (97≤ch) && decide (ch≤122) || decide (48≤ch) && decide (ch≤57) || ch == 46 || ch == 45 || ch == 95):=rfl
  rw[← hok]
  refine bN (fun hc=>?_) (fun hc=>?_)
  ·have hc:iF ch=false:=by simpa using hc
   have:dU s=false:=by
    have ha:s.all iF=false:=by
     rw[List.all_eq_false]
     exact⟨ch,by rw[← hch]; exact List.getElem_mem hlt,by rw[hc]; simp⟩
    unfold dU; rw[ha]; simp
   rw[this] at hQ; exact hQ
  ·have hc:iF ch=true:=by simpa using hc
   rw[add1 (by omega)]
   exact hnext _ _ _ (by omega) ⟨i + 1,rfl,rfl,by omega,rfl,by rw[hst]; exact hc⟩
 ·have he:i=s.length:=by
   have:¬ i<s.length:=of_decide_eq_false hge
   omega
  subst he
  rw[List.take_length] at hall
  rw[kN,show(N .i64 (1:Int))=N .i64 ((1:Nat) : Int) from rfl,J3]
  refine fo (p:=decide (s.length≤64)) (fun _ k hk=>by rw[kN,show(N .i64 (64:Int))=N .i64 ((64:Nat) : Int) from rfl,Mi]; exact hk) ?_
  have:dU s=(decide (s.length ≥ 1) && decide (s.length≤64)):=by unfold dU; rw[hall,Bool.and_true]
  rw[this] at hQ; exact hQ
abbrev qG := {x:AV // oneCell x=true}
def VE:Enc qG:=⟨1,fun x=>[x.1],fun _=>rfl,fun x=>by simp only[List.all_cons,x.2,List.all_nil,Bool.and_true]⟩
def iH (own own' : aH) : Prop:=∀ b t,own b=some t→own' b=some t
def dh (own:aH) (lo hi:Nat) (t:Tag) : aH:=fun b=>if lo≤b∧b<hi then some t else own b
def Tg (own:aH) (t:Tag) (v:AV) : Prop:=∀ b∈az v,own b=some t
section
variable {own own' : aH} {M M' : RM} {t:Tag} {v v' : AV}
theorem iH.refl (own:aH) : iH own own:=fun _ _ h=>h
theorem Tg.ext (h:Tg own t v) (e:iH own own') : Tg own' t v:=fun b hb=>e _ _ (h b hb)
theorem iW (lt:∀ b,own b≠none→b<M.next) : iH own (dh own M.next M'.next t):=by
 intro b u h
 unfold dh
 rw[if_neg (by have:=lt b (by rw[h]; simp); omega),h]
theorem tu (lt:∀ b,own b≠none→b<M.next) (hn:M.next≤M'.next) : ∀ b,dh own M.next M'.next t b≠none→b<M'.next:=by
 intro b h
 unfold dh at h
 split at h
 ·omega
 ·exact Nat.lt_of_lt_of_le (lt b h) hn
theorem jQ {b:Nat} (h1:M.next≤b) (h2:b<M'.next) : dh own M.next M'.next t b=some t:=if_pos ⟨h1,h2⟩
theorem Tr.grow {bs:List Nat} (t:Tag) (hk:af bs M M') (hb:∀ b∈bs,own b≠Option.none) : Tr own M (dh own M.next M'.next t) M' :=
 ⟨bs,hk,hb,fun b h1 h2=>by unfold dh; rw[if_neg (by omega),h2]⟩
theorem Tg.grow (lt:∀ b,own b≠none→b<M.next) (h:Tg own t v) (hv:v'=v∨∀ b∈az v',M.next≤b) (hl:∀ b∈az v',b<M'.next) : Tg (dh own M.next M'.next t) t v':=by
 rcases hv with rfl | hv
 ·exact h.ext (iW lt)
 ·exact fun b hb=>jQ (hv b hb) (hl b hb)
end
theorem Jb {α:Type} {E:Enc α} {M:RM} {T:Nat} {v:AV} {xs:List α} (h:Ow E M 0 T v xs) (hi:0<xs.length) : ∃ b,v=.slc b 0 xs.length (.op E.size)∧b<M.next∧M.heap b=some (.row (E.row xs) true T 0):=by
 unfold Ow at h
 generalize xs.length=n at *
 generalize E.row xs=cs at *
 cases h with
 | nil=>omega
 | ex0 b o h1 h2 h3=>omega
 | op b n cs h1 h2 h3 h4=>exact⟨b,rfl,h2,h3⟩
theorem iy {α:Type} {E:Enc α} (hs:E.size=1) {M:RM} {T:Nat} {v:AV} {xs:List α} (h:Ow E M 0 T v xs) {i:Nat} (hi:i<xs.length) : ∃ b,az v=[b]∧b<M.next ∧
  (∀ (K:AV→Prop),bD v (N .i64 (i:Int)) 1 K=K (.ptr b i))∧(∀ x,E.cells xs[i]=[x]→∀ K:AV→Prop,ai M (.ptr b i) K=K x) ∧
  ∀ (a:α) (x:AV),E.cells a=[x]→x.cells=[x]→∃ M',Ow E M' 0 T v (xs.set i a)∧M'=M.put b (.row (E.row (xs.set i a)) true T 0)∧∀ K:RM→Prop,aW M (.ptr b i) x 1 K=K M':=by
 obtain⟨b,rfl,h2,h3⟩:=Jb h (by omega)
 rw[hs]
 have hlen:(E.row xs).length=xs.length:=by rw[E.dY,hs,Nat.mul_one]
 have hget:∀ x,E.cells xs[i]=[x]→(E.row xs)[i]?=some x:=by
  intro x hx
  have:=E.wH hi
  rw[hs,Nat.mul_one,hx] at this
  have h2:=congrArg (fun l:List AV=>l[0]?) this
  simpa using h2
 have hset:∀ (a:α) (x:AV),E.cells a=[x]→(E.row xs).set i x=E.row (xs.set i a):=by
  intro a x hx
  apply List.ext_getElem?
  intro j
  have hl2:(E.row (xs.set i a)).length=xs.length:=by rw[E.dY,hs,Nat.mul_one,List.length_set]
  by_cases hj:j<xs.length
  ·have hj2:j<(xs.set i a).length:=by rw[List.length_set]; exact hj
   have e1:=E.wH (xs:=xs.set i a) hj2
   rw[hs,Nat.mul_one] at e1
   have e2:=E.wH (xs:=xs) hj
   rw[hs,Nat.mul_one] at e2
   have e1:=congrArg (fun l:List AV=>l[0]?) e1
   have e2:=congrArg (fun l:List AV=>l[0]?) e2
   simp only[List.getElem?_take,List.getElem?_drop,Nat.zero_lt_one,if_true,Nat.add_zero] at e1 e2
   rw[e1]
   by_cases hji:j=i
   ·subst hji
    rw[List.getElem?_set_self (by omega)]
    simp[hx]
   ·rw[List.getElem?_set_ne (fun e=>hji e.symm),e2]
    rw[List.getElem_set_ne (fun e=>hji e.symm)]
  ·rw[List.getElem?_eq_none (by rw[List.length_set]; omega),List.getElem?_eq_none (by omega)]
 refine⟨b,rfl,h2,fun K=>?_,fun x hx K=>ag h3 (hget x hx),fun a x hx hc=>?_⟩
 ·rw[zC]
  simp only[Int.toNat_natCast,Nat.mul_one,Nat.zero_add]
  exact propext ⟨fun h=>h.2.2,fun h=>⟨by omega,by omega,h⟩⟩
 ·have h1x:oneCell x=true:=by
   have:=E.one a
   rw[hx] at this
   simpa using this
  refine⟨_, ?_,rfl,fun K=>bA (l':=E.row (xs.set i a)) h3 (by omega) hc h1x (hset a x hx)⟩
  have hl3:(xs.set i a).length=xs.length:=List.length_set
  show Own _ 0 T E.size (.slc b 0 xs.length (.op 1)) _ _
  rw[hs,hl3]
  exact .op b xs.length _ (Nat.zero_le _) h2 (aZ _) (by rw[E.dY,hs,hl3])
def lq (TU TV:Nat) (own:aH) (M:RM) (fv:AV) (fs:List (List UInt8)) : Prop :=
 ∃ vs:List qG,Ow VE M 0 TV fv vs∧Tg own .names fv∧vs.length=fs.length∧∀ (i:Nat) (v:qG) (f:List UInt8),vs[i]?=some v→fs[i]?=some f→FB M TU v.1 f∧Tg own (.bytes 0) v.1
structure vF where
 fs:List (List UInt8)
 ss:List Int
 dir:Dir
 aS:Dir
 chg:List fK
 aJ:Int
 app:Int
 syn:Int
structure Parts (TU TV TI TK:Nat) (own:aH) (M:RM) (x:vF) (fv sv dv gv cv:AV) : Prop where
 lt:∀ b,own b≠none→b<M.next
 f:lq TU TV own M fv x.fs
 s:Ow INT M 0 TI sv x.ss
 st:Tg own .safe sv
 d:Sl bT M dv x.dir
 dt:Tg own (.bytes 0) dv
 g:Sl bT M gv x.aS
 gt:Tg own (.bytes 0) gv
 c:Ow eU M 0 TK cv x.chg
 ct:Tg own .chg cv
def bY (x:vF) (fv sv dv gv cv:AV) : List AV:=[fv,sv,dv,gv,cv,N .i64 x.aJ,N .i64 x.app,N .i64 x.syn]
structure fU (TR TU TV TI TK:Nat) (own:aH) (M:RM) (rb:Nat) (x:vF) (fv sv dv gv cv:AV) : Prop where
 od:own rb=some .disk
 row:M.heap rb=some (.row (bY x fv sv dv gv cv) false TR 0)
 p:Parts TU TV TI TK own M x fv sv dv gv cv
def av (r:dH) : vF:=⟨r.files.map (·.1),r.files.map (fun f=>(f.2:Int)),r.dir,r.aS,r.chg,r.aJ,r.app,r.syn⟩
def iJ (TR TU TV TI TK:Nat) (own:aH) (M:RM) (rb:Nat) (r:dH) : Prop:=∃ fv sv dv gv cv,fU TR TU TV TI TK own M rb (av r) fv sv dv gv cv
section
variable {TR TU TV TI TK:Nat} {own own' : aH} {M M' : RM} {bs:List Nat} {x:vF} {fv sv dv gv cv:AV} {rb:Nat}
theorem fC {t u:Tag} {v:AV} (h:Tg own t v) (hb:∀ b∈bs,own b=some u) (hne:t≠u) : ∀ b∈az v,b ∉ bs:=by
 intro b h1 h2
 have e:=(h b h1).symm.trans (hb b h2)
 exact hne (Option.some.inj e)
theorem lq.step {fs:List (List UInt8)} (h:lq TU TV own M fv fs) {u:Tag} (hk:af bs M M') (hb:∀ b∈bs,own b=some u) (e:iH own own') (h1:Tag.names≠u) (h2:Tag.bytes 0≠u) : lq TU TV own' M' fv fs:=by
 obtain⟨vs,a1,a2,a3,a4⟩:=h
 refine⟨vs,Own.keep a1 hk (fC a2 hb h1),a2.ext e,a3,fun i v f q1 q2=>?_⟩
 obtain⟨q3,q4⟩:=a4 i v f q1 q2
 exact⟨q3.keep hk (fC q4 hb h2),q4.ext e⟩
theorem Parts.step (h:Parts TU TV TI TK own M x fv sv dv gv cv) (hk:af bs M M') (hb:∀ b∈bs,own b=some .disk) (e:iH own own') (lt:∀ b,own' b≠none→b<M'.next) : Parts TU TV TI TK own' M' x fv sv dv gv cv :=
 ⟨lt,h.f.step hk hb e (by simp) (by simp),Own.keep h.s hk (fC h.st hb (by simp)),h.st.ext e,aP.keep h.d hk (fC h.dt hb (by simp)),h.dt.ext e,aP.keep h.g hk (fC h.gt hb (by simp)),h.gt.ext e,
  Own.keep h.c hk (fC h.ct hb (by simp)),h.ct.ext e⟩
theorem Parts.JD (h:Parts TU TV TI TK own M x fv sv dv gv cv) (hk:af bs M M') (hb:∀ b∈bs,own b=some .names) (e:iH own own') (lt:∀ b,own' b≠none→b<M'.next) {fs:List (List UInt8)} {fv' : AV} (hf:lq TU TV own' M' fv' fs) :
  Parts TU TV TI TK own' M' { x with fs:=fs } fv' sv dv gv cv :=
 ⟨lt,hf,Own.keep h.s hk (fC h.st hb (by simp)),h.st.ext e,aP.keep h.d hk (fC h.dt hb (by simp)),h.dt.ext e,aP.keep h.g hk (fC h.gt hb (by simp)),h.gt.ext e,
  Own.keep h.c hk (fC h.ct hb (by simp)),h.ct.ext e⟩
theorem Parts.Kb (h:Parts TU TV TI TK own M x fv sv dv gv cv) (hk:af bs M M') (hb:∀ b∈bs,own b=some .safe) (e:iH own own') (lt:∀ b,own' b≠none→b<M'.next) {ss:List Int} {sv' : AV} (hs:Ow INT M' 0 TI sv' ss) (ht:Tg own' .safe sv') :
  Parts TU TV TI TK own' M' { x with ss:=ss } fv sv' dv gv cv :=
 ⟨lt,h.f.step hk hb e (by simp) (by simp),hs,ht,aP.keep h.d hk (fC h.dt hb (by simp)),h.dt.ext e,aP.keep h.g hk (fC h.gt hb (by simp)),h.gt.ext e,
  Own.keep h.c hk (fC h.ct hb (by simp)),h.ct.ext e⟩
theorem Parts.Kg (h:Parts TU TV TI TK own M x fv sv dv gv cv) (hk:af bs M M') (hb:∀ b∈bs,own b=some .chg) (e:iH own own') (lt:∀ b,own' b≠none→b<M'.next) {cs:List fK} {cv' : AV} (hc:Ow eU M' 0 TK cv' cs) (ht:Tg own' .chg cv') :
  Parts TU TV TI TK own' M' { x with chg:=cs } fv sv dv gv cv' :=
 ⟨lt,h.f.step hk hb e (by simp) (by simp),Own.keep h.s hk (fC h.st hb (by simp)),h.st.ext e,aP.keep h.d hk (fC h.dt hb (by simp)),h.dt.ext e,aP.keep h.g hk (fC h.gt hb (by simp)),h.gt.ext e,hc,ht⟩
theorem Parts.Mg (h:Parts TU TV TI TK own M x fv sv dv gv cv) {l:Dir} {v:AV} (hd:Sl bT M v l) (ht:Tg own (.bytes 0) v) : Parts TU TV TI TK own M { x with dir:=l } fv sv v gv cv :=
 ⟨h.lt,h.f,h.s,h.st,hd,ht,h.g,h.gt,h.c,h.ct⟩
theorem Parts.L9 (h:Parts TU TV TI TK own M x fv sv dv gv cv) {l:Dir} {v:AV} (hd:Sl bT M v l) (ht:Tg own (.bytes 0) v) : Parts TU TV TI TK own M { x with aS:=l } fv sv dv v cv :=
 ⟨h.lt,h.f,h.s,h.st,h.d,h.dt,hd,ht,h.c,h.ct⟩
theorem Parts.DC (h:Parts TU TV TI TK own M x fv sv dv gv cv) (q a y:Int) : Parts TU TV TI TK own M { x with aJ:=q,app:=a,syn:=y } fv sv dv gv cv :=
 ⟨h.lt,h.f,h.s,h.st,h.d,h.dt,h.g,h.gt,h.c,h.ct⟩
theorem Parts.grow (h:Parts TU TV TI TK own M x fv sv dv gv cv) (t:Tag) (hk:af [] M M') : Parts TU TV TI TK (dh own M.next M'.next t) M' x fv sv dv gv cv :=
 h.step hk (by simp) (iW h.lt) (tu h.lt hk.next)
theorem Parts.keep (h:Parts TU TV TI TK own M x fv sv dv gv cv) (hk:af [] M M') : Parts TU TV TI TK own M' x fv sv dv gv cv :=
 h.step hk (by simp) (iH.refl _) (fun b hb=>Nat.lt_of_lt_of_le (h.lt b hb) hk.next)
theorem fU.keep (h:fU TR TU TV TI TK own M rb x fv sv dv gv cv) (hk:af [] M M') : fU TR TU TV TI TK own M' rb x fv sv dv gv cv :=
 ⟨h.od,hk.bC h.row (h.p.lt _ (by rw[h.od]; simp)) (by simp),h.p.keep hk⟩
theorem fU.KF (h:fU TR TU TV TI TK own M rb x fv sv dv gv cv) : rb<M.next:=h.p.lt _ (by rw[h.od]; simp)
theorem fU.grow (h:fU TR TU TV TI TK own M rb x fv sv dv gv cv) (t:Tag) (hk:af [] M M') : fU TR TU TV TI TK (dh own M.next M'.next t) M' rb x fv sv dv gv cv :=
 ⟨iW h.p.lt _ _ h.od,hk.bC h.row h.KF (by simp),h.p.grow t hk⟩
theorem fU.put {y:vF} {fv' sv' dv' gv' cv' : AV} (od:own rb=some .disk) (p:Parts TU TV TI TK own M y fv' sv' dv' gv' cv') : fU TR TU TV TI TK own (M.put rb (.row (bY y fv' sv' dv' gv' cv') false TR 0)) rb y fv' sv' dv' gv' cv' ∧
  Tr own M own (M.put rb (.row (bY y fv' sv' dv' gv' cv') false TR 0)):=by
 have hk:af [rb] M (M.put rb (.row (bY y fv' sv' dv' gv' cv') false TR 0)):=(af.refl _ _).put _ (.inr (by simp))
 exact⟨⟨od,aZ _,p.step hk (by simp[od]) (iH.refl _) (fun b hb=>Nat.lt_of_lt_of_le (p.lt b hb) hk.next)⟩,jl _ (by rw[od]; simp)⟩
theorem fU.kH {t:Tag} (h:fU TR TU TV TI TK own M rb x fv sv dv gv cv) (hk:af bs M M') (hb:∀ b∈bs,own b=some t) (hne:Tag.disk≠t) : M'.heap rb=some (.row (bY x fv sv dv gv cv) false TR 0) :=
 hk.bC h.row h.KF (fun hm=>hne (Option.some.inj (h.od.symm.trans (hb _ hm))))
theorem iJ.keep {r:dH} (h:iJ TR TU TV TI TK own M rb r) (hk:af [] M M') : iJ TR TU TV TI TK own M' rb r:=let ⟨_,_,_,_,_,h⟩:=h; ⟨_,_,_,_,_,h.keep hk⟩
theorem fU.tr {pQ H5:aH} (h:fU TR TU TV TI TK own M rb x fv sv dv gv cv) (t:Tr pQ M H5 M') (ha:∀ b,pQ b=none∨own b=none) : fU TR TU TV TI TK own M' rb x fv sv dv gv cv:=by
 obtain⟨bs,h1,h2,_⟩:=t
 have out:∀ b,own b≠none→b ∉ bs:=fun b hb hm=>by
  rcases ha b with h | h
  ·exact h2 b hm h
  ·exact hb h
 have hk:af (bs.filter fun b=>decide (own b=none)) M M':=⟨h1.base,h1.next,fun c q1 q2=>h1.heap c q1 (fun hm=>q2 (List.mem_filter.2 ⟨hm,decide_eq_true (by
  rcases ha c with h | h
  ·exact absurd h (h2 c hm)
  ·exact h)⟩))⟩
 have ho:∀ {v:AV} {t:Tag},Tg own t v→∀ b∈az v,b ∉ bs:=fun hv b hb=>out b (by rw[hv b hb]; simp)
 have hp:=h.p
 obtain⟨vs,a1,a2,a3,a4⟩:=hp.f
 refine⟨h.od,h1.bC h.row h.KF (out _ (by rw[h.od]; simp)),⟨fun b hb=>Nat.lt_of_lt_of_le (hp.lt b hb) h1.next,⟨vs,Own.keep a1 h1 (ho a2),a2,a3,fun i v f q1 q2=>?_⟩,Own.keep hp.s h1 (ho hp.st),hp.st,aP.keep hp.d h1 (ho hp.dt),hp.dt,
  aP.keep hp.g h1 (ho hp.gt),hp.gt,Own.keep hp.c h1 (ho hp.ct),hp.ct⟩⟩
 obtain⟨q3,q4⟩:=a4 i v f q1 q2
 exact⟨q3.keep h1 (ho q4),q4⟩
theorem iJ.tr {pQ H5:aH} {r:dH} (h:iJ TR TU TV TI TK own M rb r) (t:Tr pQ M H5 M') (ha:∀ b,pQ b=none∨own b=none) : iJ TR TU TV TI TK own M' rb r :=
 let ⟨_,_,_,_,_,h⟩:=h; ⟨_,_,_,_,_,h.tr t ha⟩
theorem FB.Gx {M:RM} {w:AV} {zs:List UInt8} (ho:Ow BY M 0 TU w zs) : FB M TU w zs:=by
 unfold Ow at ho
 generalize hl:zs.length=n at ho
 generalize hr:BY.row zs=cs at ho
 cases ho with
 | nil =>
   have:zs=[]:=List.length_eq_zero_iff.1 hl
   rw[this]; exact .nil
 | ex0 b o h1 h2 h3 =>
   obtain⟨l,h4,h5⟩:=h3
   exact .ex b o 0 zs h2 (by rw[hr]; exact kY h4 h5) hl
 | op b n cs h1 h2 h3 h4 =>
   subst hl
   exact .op b zs h2 (by rw[hr]; exact h3)
theorem NA {v:AV} {xs:List UInt8} (h:FB M TU v xs) {k:Nat} (hk:k≤xs.length) :
  ∃ v',eH 1 v none (some (N .i64 (k:Int))) none=some v'∧Sl BY M v' (xs.take k):=by
 have hb:∀ d,bnd d (some (N .i64 (k:Int)))=some k:=fun d=>by simp[bnd]
 have hb0:bnd 0 none=some 0:=rfl
 cases h with
 | nil =>
   have:k=0:=by simpa using hk
   subst this
   exact⟨aR,rfl,.nil⟩
 | op b xs hl hh =>
   have e:eH 1 (.slc b 0 xs.length (.op 1)) none (some (N .i64 (k:Int))) none=if xs.length=0 then some (.emp b) else some (.slc b 0 k (.op 1)):=by
    simp only[eH,hb,hb0,Nat.zero_le,true_and,and_true,Nat.zero_mul,Nat.add_zero,Nat.sub_zero,if_pos hk,Nat.le_zero]
   rw[e]
   by_cases h0:xs.length=0
   ·rw[if_pos h0]
    have:xs=[]:=List.length_eq_zero_iff.1 h0
    rw[this,List.take_nil]
    exact⟨_,rfl,.emp b⟩
   ·rw[if_neg h0]
    refine⟨_,rfl, ?_⟩
    have hln:(xs.take k).length=k:=by rw[List.length_take]; omega
    show aP M 1 _ (BY.row (xs.take k)) (xs.take k).length
    rw[hln]
    refine .slc b 0 k _ _ hl ?_
    have e:=BY.dY xs
    have:BY.size=1:=rfl
    rw[RM.iV hh (by rw[e,this]; omega),List.drop_zero]
    have:=BY.lJ xs k
    rw[show k * BY.size=k * 1 from rfl] at this
    rw[this]
 | ex b o n xs hl hh h2 =>
   subst h2
   have e:eH 1 (.slc b o xs.length (.ex xs.length)) none (some (N .i64 (k:Int))) none=if xs.length=0 then some (.slc b o 0 (.ex 0)) else some (.slc b o k (.ex xs.length)):=by
    simp only[eH,hb,hb0,Nat.zero_le,true_and,and_true,Nat.zero_mul,Nat.add_zero,Nat.sub_zero,if_pos hk,Nat.le_zero]
   rw[e]
   by_cases h0:xs.length=0
   ·rw[if_pos h0]
    have:xs=[]:=List.length_eq_zero_iff.1 h0
    subst this
    rw[List.take_nil]
    exact⟨_,rfl,.slc b o 0 _ [] hl hh⟩
   ·rw[if_neg h0]
    refine⟨_,rfl, ?_⟩
    have hln:(xs.take k).length=k:=by rw[List.length_take]; omega
    show aP M 1 _ (BY.row (xs.take k)) (xs.take k).length
    rw[hln]
    refine .slc b o k _ _ hl ?_
    have:=rH hh k hk
    have e:=BY.lJ xs k
    rw[show k * BY.size=k from Nat.mul_one k] at e
    rw[Nat.mul_one,this,e]
end
theorem DN {k:fK} {K:AV→Prop} : fA [(N .i64 0),(St []),(St []),(N .i64 0)] [(0,1,N .i64 (k.1:Int)),(1,1,St k.2.1),(2,1,St k.2.2.1),(3,1,N .i64 (k.2.2.2:Int))] K=K (.agg (eU.cells k)):=by
 rw[gU]
 apply propext
 constructor
 ·rintro⟨cs,h,hk⟩; cases h; exact hk
 ·intro hk; exact⟨_,rfl,hk⟩
theorem lX {TU TV:Nat} {own:aH} {M:RM} {fv:AV} {fs:List (List UInt8)} (h:lq TU TV own M fv fs) {i:Nat} (hi:i<fs.length) : ∃ v:AV,oneCell v=true∧v.cells=[v]∧FB M TU v fs[i]∧Tg own (.bytes 0) v ∧
  ∀ K:AV→Prop,(bD fv (N .i64 (i:Int)) 1 fun p=>ai M p K)=K v:=by
 obtain⟨vs,a1,a2,a3,a4⟩:=h
 have hi2:i<vs.length:=by omega
 obtain⟨q1,q2⟩:=a4 i vs[i] fs[i] (List.getElem?_eq_getElem hi2) (List.getElem?_eq_getElem hi)
 obtain⟨b,_,_,hidx,hld,_⟩:=iy (E:=VE) rfl a1 hi2
 exact⟨vs[i].1,vs[i].2,q1.one.2.1,q1,q2,fun K=>by rw[hidx,hld _ rfl]⟩
theorem rF (fs:List fT) : ∀ a b:Dir,tot fs (a++b)=tot fs a + tot fs b
 | [],b=>by simp[tot]
 | e :: a,b=>by simp only[List.cons_append,tot,rF fs a b]; omega
theorem Kl {fs:List fT} {l:Dir} {i:Nat} (hi:i<l.length) : tot fs (l.take (i + 1))=tot fs (l.take i) + (fs[l[i].2]?.getD ([],0)).1.length:=by
 rw[List.take_succ_eq_append_getElem hi,rF]; simp[tot]
theorem ES (fs:List fT) (l:Dir) (i:Nat) : tot fs (l.take i)≤tot fs l:=by
 have:=rF fs (l.take i) (l.drop i)
 rw[List.take_append_drop] at this; omega
section
variable {TR TU TV TI TK:Nat}
theorem sM {r:dH} {i:Nat} (hi:i<r.files.length) : ∃ h:i<(av r).fs.length,(av r).fs[i]=(bX r i).1:=by
 have h:i<(av r).fs.length:=by simp[av,hi]
 refine⟨h, ?_⟩
 unfold bX
 rw[List.getElem?_eq_getElem hi]
 simp[av]
def wJ (TR TU TV TI TK:Nat) (c:ay) : Prop:=∀ {own:aH} {M:RM} {rb:Nat} {r:dH} {Q:aj},iJ TR TU TV TI TK own M rb r→(∀ e∈r.dir,e.2<r.files.length)→r.dir.length≤1000000000→tot r.files r.dir<4611686018427387904 →
 Q (N .i64 (tot r.files r.dir:Int)) M→c [.ptr rb 0] M Q
theorem CE:wJ TR TU TV TI TK fun args M Q=>∃ a0,args=[a0]∧oO a0 M Q:=by
 intro own M rb r Q ⟨fv,sv,dv,gv,cv,h⟩ hwf hlen htot hQ
 refine⟨_,rfl, ?_⟩
 unfold oO
 refine dX (fun z ys M'=>∃ i:Nat,z=r.dir.length - i∧ys=[N .i64 (tot r.files (r.dir.take i) : Int),N .i64 (i:Int)]∧i≤r.dir.length∧M'=M) r.dir.length ⟨0,rfl,rfl,Nat.zero_le _,rfl⟩ ?_
 rintro next z ys M' hnext ⟨i,rfl,rfl,hil,rfl⟩
 dsimp only[aG]
 have hd:Sl bT M' dv r.dir:=h.p.d
 rw[ah,ae,ag (i:=0 + 2) h.row rfl,aP.len hd,l9]
 refine bN (fun hlt=>?_) (fun hge=>?_)
 ·have hlt:i<r.dir.length:=of_decide_eq_true hlt
  have hf:=hwf _ (List.getElem_mem hlt)
  obtain⟨hf2,hfe⟩:=sM hf
  obtain⟨v,_,_,hv,_,hidx⟩:=lX h.p.f hf2
  rw[ah,ae,ag (i:=0 + 0) h.row rfl,ah,ae,ag (i:=0 + 2) h.row rfl,jw hd hlt (j:=1) (x:=N .i64 (r.dir[i].2:Int)) rfl,hidx,aP.len hv.sl,hfe]
  have hle:=Kl (fs:=r.files) hlt
  have hle2:=ES r.files r.dir (i + 1)
  have e:((bX r r.dir[i].2).1.length)=(r.files[r.dir[i].2]?.getD ([],0)).1.length:=rfl
  rw[addN (by omega),add1 (by omega),e,← hle]
  exact hnext _ _ _ (by omega) ⟨i + 1,rfl,rfl,by omega,rfl⟩
 ·have he:i=r.dir.length:=by
   have:¬ i<r.dir.length:=of_decide_eq_false hge
   omega
  subst he
  rw[List.take_length]
  exact hQ
def Av (TR TU TV TI TK:Nat) (c:ay) : Prop:=∀ {own:aH} {M:RM} {rb:Nat} {r:dH} {k:fK} {Q:aj},iJ TR TU TV TI TK own M rb r→r.dir.length≤1000000000→r.chg.length≤1000000000 →
 (∀ own' M',iJ TR TU TV TI TK own' M' rb (rD r k)→Tr own M own' M'→Q (.tup []) M')→c [.ptr rb 0,.agg (eU.cells k)] M Q
theorem Ir {cdo:ay} (hdo:H8 cdo) : Av TR TU TV TI TK fun args M Q=>∃ a0 a1,args=[a0,a1]∧qE TK cdo a0 a1 M Q:=by
 intro own M rb r k Q ⟨fv,sv,dv,gv,cv,h⟩ hl hc hQ
 refine⟨_,_,rfl, ?_⟩
 unfold qE
 rw[kF (eU.one _) (by rw[eU.len]; decide),aY]
 have k1:af [] M (M.push (.row (eU.cells k) false TK 0)):=(af.refl _ _).push _
 have h1:(M.push (.row (eU.cells k) false TK 0)).heap M.next=some (.row (eU.cells k) false TK 0):=RM.bi _
 have n1:(M.push (.row (eU.cells k) false TK 0)).next=M.next + 1:=aU _
 generalize M.push (.row (eU.cells k) false TK 0)=M1 at *
 have g1:=h.keep k1
 rw[ah,ae,ag (i:=0 + 2) g1.row rfl,lS (n:=4) h1 (eU.len k)]
 refine hdo g1.p.d hl fun dv' M2 d2 hv2 k2=>?_
 have k12:=k1.trans k2
 have g2:=h.grow (.bytes 0) k12
 have t2:=Tr.grow (own:=own) (.bytes 0) k12 (by simp)
 have dt2:Tg (dh own M.next M2.next (.bytes 0)) (.bytes 0) dv':=Tg.grow h.p.lt h.p.dt (hv2.imp id (fun h b hb=>Nat.le_trans k1.next (h b hb))) (aP.lt d2)
 have h2:=k2.bC h1 (by omega) (by simp)
 have hrl:=h.KF
 generalize dh own M.next M2.next (.bytes 0)=bH at *
 have p2:=g2.p.Mg d2 dt2
 rw[ah,ae,bA (i:=0 + 2) (bY { av r with dir:=kS r.dir k } fv sv dv' gv cv) g2.row (by simp[bY]) (aP.cells d2) (aP.one d2) rfl]
 obtain⟨g3,t3⟩:=fU.put (TR:=TR) (y := { av r with dir:=kS r.dir k }) g2.od p2
 have h3:=wV (c:=rb) (z:=.row (bY { av r with dir:=kS r.dir k } fv sv dv' gv cv) false TR 0) h2 (by omega)
 generalize M2.put rb (.row (bY { av r with dir:=kS r.dir k } fv sv dv' gv cv) false TR 0)=M3 at *
 rw[ah,ae,ag (i:=0 + 4) g3.row rfl,lS (n:=4) h3 (eU.len k),nP (x:=.agg (eU.cells k)) (size:=4) rfl (eU.one _) rfl,qQ]
 have hcl:(av r).chg.length≤1000000000:=hc
 refine jY (E:=eU) (a:=k) g3.p.c (Nat.zero_le _) (by decide) (by show((av r).chg.length + 1) * 48≤_; omega) (by show(av r).chg.length + 1≤_; omega) fun cv' M4 c4 k4 n4 hv4=>?_
 have r4:=g3.kH k4 g3.p.ct (by simp)
 have t4:Tr bH M3 (dh bH M3.next M4.next .chg) M4:=Tr.grow .chg k4 (fun b hb=>by rw[g3.p.ct b hb]; simp)
 have p4:=g3.p.Kg k4 g3.p.ct (iW g3.p.lt) (tu (t:=.chg) g3.p.lt k4.next) c4 (Tg.grow g3.p.lt g3.p.ct hv4 (fun b hb=>(Own.blk c4 b hb).2))
 have od4:=iW (M':=M4) (t:=.chg) g3.p.lt _ _ g3.od
 generalize dh bH M3.next M4.next .chg=Mv at *
 rw[ah,ae,bA (i:=0 + 4) (bY (av (rD r k)) fv sv dv' gv cv') r4 (by simp[bY]) (Own.cells c4) (Own.one c4) rfl]
 obtain⟨g5,t5⟩:=fU.put (TR:=TR) (y:=av (rD r k)) od4 p4
 exact hQ _ _ ⟨_,_,_,_,_,g5⟩ (t2.trans (t3.trans (t4.trans t5)))
def Gv (q:Int) : dH:=⟨[],[],[],[],q,0,0⟩
def GU (TR TU TV TI TK:Nat) (c:ay) : Prop:=∀ {M:RM} {q:Int} {Q:aj},(∀ own M' rb,iJ TR TU TV TI TK own M' rb (Gv q)→(∀ b,b<M.next→own b=none)→af [] M M'→Q (.ptr rb 0) M')→c [N .i64 q] M Q
theorem EO:GU TR TU TV TI TK fun args M Q=>∃ a0,args=[a0]∧ru TR a0 M Q:=by
 intro M q Q hQ
 refine⟨_,rfl, ?_⟩
 unfold ru
 rw[gU]
 refine⟨_,rfl, ?_⟩
 rw[kF rfl (by simp),aY]
 have k1:af [] M (M.push (.row [aR,aR,aR,aR,aR,N .i64 q,N .i64 0,N .i64 0] false TR 0)):=(af.refl _ _).push _
 have h1:(M.push (.row [aR,aR,aR,aR,aR,N .i64 q,N .i64 0,N .i64 0] false TR 0)).heap M.next=some (.row [aR,aR,aR,aR,aR,N .i64 q,N .i64 0,N .i64 0] false TR 0):=RM.bi _
 have n1:(M.push (.row [aR,aR,aR,aR,aR,N .i64 q,N .i64 0,N .i64 0] false TR 0)).next=M.next + 1:=aU _
 generalize hM:M.push (.row [aR,aR,aR,aR,aR,N .i64 q,N .i64 0,N .i64 0] false TR 0)=M1 at *
 have nb:∀ (own:aH) (t:Tag),Tg own t aR:=fun own t b hb=>by simp[az] at hb
 have goal:=hQ (upd (fun _=>none) M.next .disk) M1 M.next ⟨aR,aR,aR,aR,aR,mP,h1,⟨fun b hb=>?_,⟨[],.nil,nb _ _,rfl,by simp⟩,.nil,nb _ _,.nil,nb _ _,.nil,nb _ _,.nil,nb _ _⟩⟩ (fun b hb=>upd_ne (by omega)) k1
 ·subst hM; exact goal
 ·by_cases e:b=M.next
  ·omega
  ·rw[upd_ne e] at hb; exact absurd rfl hb
def vI (TR TU TV TI TK:Nat) (c:ay) : Prop:=∀ {own:aH} {M:RM} {rb:Nat} {r:dH} {Q:aj},iJ TR TU TV TI TK own M rb r→r.dir.length≤1000000000 →
 (∀ own' M',iJ TR TU TV TI TK own' M' rb (pu r)→Tr own M own' M'→Q (.tup []) M')→c [.ptr rb 0] M Q
theorem zG {TE:Nat} : vI TR TU TV TI TK fun args M Q=>∃ a0,args=[a0]∧lM TE a0 M Q:=by
 intro own M rb r Q ⟨fv,sv,dv,gv,cv,h⟩ hl hQ
 refine⟨_,rfl, ?_⟩
 unfold lM
 rw[tH,aY]
 have k1:af [] M (M.push (.row [] false TE 0)):=(af.refl _ _).push _
 have o1:Ow bT (M.push (.row [] false TE 0)) M.next TE (.slc M.next 0 0 (.ex 0)) []:=Ow.lit bT M
 generalize M.push (.row [] false TE 0)=M1 at *
 have g1:=h.keep k1
 rw[ah,ae,ag (i:=0 + 2) g1.row rfl]
 have hdl:(av r).dir.length≤1000000000:=hl
 refine jq (E:=bT) o1 k1.next (by decide) g1.p.d (by simp only[List.length_nil]; omega) (by simp only[List.length_nil]; omega) fun gv' M2 o2 k2 n2 hv2=>?_
 have k12:af [] M M2:=k1.dG k2 (fun c hc=>.inl (Own.blk o1 c hc).1)
 have g2:=h.grow (.bytes 0) k12
 have t2:=Tr.grow (own:=own) (.bytes 0) k12 (by simp)
 have gt2:Tg (dh own M.next M2.next (.bytes 0)) (.bytes 0) gv':=fun b hb=>jQ (Own.blk o2 b hb).1 (Own.blk o2 b hb).2
 generalize dh own M.next M2.next (.bytes 0)=bH at *
 rw[List.nil_append] at o2
 have p2:=g2.p.L9 (Own.jk o2) gt2
 rw[ah,ae,bA (i:=0 + 3) (bY { av r with aS:=r.dir } fv sv dv gv' cv) g2.row (by simp[bY]) (Own.cells o2) (Own.one o2) rfl]
 obtain⟨g3,t3⟩:=fU.put (TR:=TR) (y := { av r with aS:=r.dir }) g2.od p2
 generalize M2.put rb (.row (bY { av r with aS:=r.dir } fv sv dv gv' cv) false TR 0)=M3 at *
 rw[ah,ae,bA (i:=0 + 4) (bY { av r with aS:=r.dir,chg:=[] } fv sv dv gv' aR) g3.row (by simp[bY]) rfl rfl rfl]
 have p3:=g3.p.Kg (af.refl [] _) (by simp) (iH.refl _) g3.p.lt (cs:=[]) (cv':=aR) .nil (fun b hb=>by simp[az] at hb)
 obtain⟨g4,t4⟩:=fU.put (TR:=TR) (y := { av r with aS:=r.dir,chg:=[] }) g3.od p3
 generalize M3.put rb (.row (bY { av r with aS:=r.dir,chg:=[] } fv sv dv gv' aR) false TR 0)=M4 at *
 rw[ah,ae,ag (i:=0 + 7) g4.row rfl,oQ,ah,ae]
 show aW M4 (.ptr rb (0 + 7)) (N .i64 (av (pu r)).syn) 1 _
 rw[bA (i:=0 + 7) (bY (av (pu r)) fv sv dv gv' aR) g4.row (by simp[bY]) rfl rfl rfl]
 obtain⟨g5,t5⟩:=fU.put (TR:=TR) (y:=av (pu r)) g4.od (g4.p.DC r.aJ r.app (gB (r.syn + 1)))
 exact hQ _ _ ⟨_,_,_,_,_,g5⟩ (t2.trans (t3.trans (t4.trans t5)))
def BL (TR TU TV TI TK:Nat) (F:dH→Nm→dH × Int) (c:ay) : Prop:=∀ {own:aH} {M:RM} {rb:Nat} {r:dH} {n:Nm} {Q:aj},iJ TR TU TV TI TK own M rb r→n.length≤1000000→r.files.length≤1000000000→(∀ e∈r.dir,e.2<r.files.length)→r.dir.length≤1000000000→r.chg.length≤1000000000 →
 (∀ own' M',iJ TR TU TV TI TK own' M' rb (F r n).1→Tr own M own' M'→Q (N .i64 (F r n).2) M')→c [.ptr rb 0,St n] M Q
theorem Bi {cf cm:ay} (hf:qf cf) (hm:Av TR TU TV TI TK cm) : BL TR TU TV TI TK l7 fun args M Q=>∃ a0 a1,args=[a0,a1]∧mU cf cm a0 a1 M Q:=by
 intro own M rb r n Q h0 hn hfl hwf hl hc hQ
 have h1:=h0
 obtain⟨fv,sv,dv,gv,cv,h⟩:=h1
 refine⟨_,_,rfl, ?_⟩
 unfold mU
 rw[ah,ae,ag (i:=0 + 2) h.row rfl]
 have hdl:(av r).dir.length≤1000000000:=hl
 refine hf h.p.d (by omega) ?_
 unfold l7 at hQ
 rcases kE n r.dir 0 with⟨e1,e2⟩ | ⟨i,hi,e1,e2⟩
 ·rw[e2] at hQ
  show ax .lss (N .i64 (gM r.dir n 0)) _ _
  rw[e1,dN,show decide ((-1:Int)<0)=true from rfl,jd]
  exact hQ _ _ h0 (Tr.refl _ _)
 ·rw[e2] at hQ
  show ax .lss (N .i64 (gM r.dir n 0)) _ _
  rw[e1,dN,show decide (((0 + i:Nat) : Int)<0)=false by simp,fE,show(N .i64 (2:Int))=N .i64 (((2,n,[],0) : fK).1:Int) from rfl,show St n=St ((2,n,[],0) : fK).2.1 from rfl]
  rw[show(N .i64 (0:Int))=N .i64 (((2,n,[],0) : fK).2.2.2:Int) from rfl]
  refine Eq.mpr (DN (k:=(2,n,[],0))) ?_
  exact hm h0 hl hc fun own' M' h' t=>hQ own' M' h' t
def zB (TR TU TV TI TK:Nat) (c:ay) : Prop:=∀ {own:aH} {M:RM} {rb:Nat} {r:dH} {n to:Nm} {Q:aj},iJ TR TU TV TI TK own M rb r→to.length≤1000000→r.dir.length≤1000000000→r.chg.length≤1000000000 →
 (∀ own' M',iJ TR TU TV TI TK own' M' rb (oo r n to).1→Tr own M own' M'→Q (N .i64 (oo r n to).2) M')→c [.ptr rb 0,St n,St to] M Q
theorem A7 {cf cg cm:ay} (hf:qf cf) (hg:zV cg) (hm:Av TR TU TV TI TK cm) : zB TR TU TV TI TK fun args M Q=>∃ a0 a1 a2,args=[a0,a1,a2]∧nz cf cg cm a0 a1 a2 M Q:=by
 intro own M rb r n to Q h0 hn hl hc hQ
 have h1:=h0
 obtain⟨fv,sv,dv,gv,cv,h⟩:=h1
 refine⟨_,_,_,rfl, ?_⟩
 unfold nz
 rw[ah,ae,ag (i:=0 + 2) h.row rfl]
 have hdl:(av r).dir.length≤1000000000:=hl
 refine hf h.p.d (by omega) ?_
 unfold oo at hQ
 rcases kE n r.dir 0 with⟨e1,e2⟩ | ⟨i,hi,e1,e2⟩
 ·rw[e2] at hQ
  show ax .lss (N .i64 (gM r.dir n 0)) _ _
  rw[e1,dN,show decide ((-1:Int)<0)=true from rfl,jd]
  exact hQ _ _ h0 (Tr.refl _ _)
 ·rw[e2] at hQ
  show ax .lss (N .i64 (gM r.dir n 0)) _ _
  rw[e1,dN,show decide (((0 + i:Nat) : Int)<0)=false by simp,fE]
  refine hg hn ?_
  rw[jW]
  refine bN (fun hgd=>?_) (fun hgd=>?_)
  ·have hgd:dU to=false:=by simpa using hgd
   dsimp only at hQ
   rw[if_pos hgd] at hQ
   exact hQ _ _ h0 (Tr.refl _ _)
  ·have hgd:dU to=true:=by simpa using hgd
   dsimp only at hQ
   rw[if_neg (by rw[hgd]; simp)] at hQ
   refine Eq.mpr (DN (k:=(1,n,to,0))) ?_
   exact hm h0 hl hc fun own' M' h' t=>hQ own' M' h' t
end
section
variable {TU:Nat} {own own' : aH} {M M' : RM} {vs:List qG} {fs:List (List UInt8)}
def tN (TU:Nat) (own:aH) (M:RM) (vs:List qG) (fs:List (List UInt8)) : Prop :=
 vs.length=fs.length∧∀ (i:Nat) (v:qG) (f:List UInt8),vs[i]?=some v→fs[i]?=some f→FB M TU v.1 f∧Tg own (.bytes 0) v.1
theorem tN.step (h:tN TU own M vs fs) {bs:List Nat} {u:Tag} (hk:af bs M M') (hb:∀ b∈bs,own b=some u) (e:iH own own') (h2:Tag.bytes 0≠u) : tN TU own' M' vs fs :=
 ⟨h.1,fun i v f q1 q2=>let ⟨q3,q4⟩:=h.2 i v f q1 q2; ⟨q3.keep hk (fC q4 hb h2),q4.ext e⟩⟩
theorem tN.snoc (h:tN TU own M vs fs) {w:qG} {f:List UInt8} (hw:FB M TU w.1 f) (ht:Tg own (.bytes 0) w.1) : tN TU own M (vs++[w]) (fs++[f]):=by
 refine⟨by simp[h.1],fun i v g q1 q2=>?_⟩
 rcases Nat.lt_or_ge i vs.length with hlt | hge
 ·rw[List.getElem?_append_left hlt] at q1
  rw[List.getElem?_append_left (by rw[← h.1]; exact hlt)] at q2
  exact h.2 i v g q1 q2
 ·rw[List.getElem?_append_right hge] at q1
  rw[List.getElem?_append_right (by rw[← h.1]; exact hge)] at q2
  have:i - vs.length=0:=by
   have:=(List.getElem?_eq_some_iff.1 q1).1
   simp at this; omega
  rw[this] at q1
  rw[← h.1,this] at q2
  cases q1; cases q2
  exact⟨hw,ht⟩
theorem tN.set (h:tN TU own M vs fs) {w:qG} {f:List UInt8} (j:Nat) (hw:FB M TU w.1 f) (ht:Tg own (.bytes 0) w.1) : tN TU own M (vs.set j w) (fs.set j f):=by
 refine⟨by simp[h.1],fun i v g q1 q2=>?_⟩
 by_cases hij:j=i
 ·subst hij
  have h1:=(List.getElem?_eq_some_iff.1 q1).1
  have h2:=(List.getElem?_eq_some_iff.1 q2).1
  rw[List.length_set] at h1 h2
  rw[List.getElem?_set_self h1] at q1
  rw[List.getElem?_set_self h2] at q2
  cases q1; cases q2
  exact⟨hw,ht⟩
 ·rw[List.getElem?_set_ne hij] at q1 q2
  exact h.2 i v g q1 q2
end
theorem lq.els {TU TV:Nat} {own:aH} {M:RM} {fv:AV} {fs:List (List UInt8)} (h:lq TU TV own M fv fs) : ∃ vs:List qG,Ow VE M 0 TV fv vs∧Tg own .names fv∧tN TU own M vs fs :=
 let ⟨vs,a1,a2,a3,a4⟩:=h; ⟨vs,a1,a2,a3,a4⟩
theorem tN.files {TU TV:Nat} {own:aH} {M:RM} {fv:AV} {fs:List (List UInt8)} {vs:List qG} (h:tN TU own M vs fs) (o:Ow VE M 0 TV fv vs) (t:Tg own .names fv) : lq TU TV own M fv fs:=⟨vs,o,t,h.1,h.2⟩
section
variable {TR TU TV TI TK:Nat}
theorem Bq {cg cf cm:ay} (hg:zV cg) (hf:qf cf) (hm:Av TR TU TV TI TK cm) : BL TR TU TV TI TK lK fun args M Q=>∃ a0 a1,args=[a0,a1]∧mY cg cf TU TV TI cm a0 a1 M Q:=by
 intro own M rb r n Q h0 hn hfl hwf hl hc hQ
 have h1:=h0
 obtain⟨fv,sv,dv,gv,cv,h⟩:=h1
 refine⟨_,_,rfl, ?_⟩
 unfold mY
 unfold lK at hQ
 refine hg hn ?_
 rw[jW]
 refine bN (fun hgd=>?_) (fun hgd=>?_)
 ·have hgd:dU n=false:=by simpa using hgd
  rw[if_pos hgd] at hQ
  exact hQ _ _ h0 (Tr.refl _ _)
 have hgd:dU n=true:=by simpa using hgd
 rw[if_neg (by rw[hgd]; simp)] at hQ
 rw[ah,ae,ag (i:=0 + 2) h.row rfl]
 have hdl:(av r).dir.length≤1000000000:=hl
 refine hf h.p.d (by omega) ?_
 show ax .geq (N .i64 (gM r.dir n 0)) _ _
 rcases kE n r.dir 0 with⟨e1,e2⟩ | ⟨i,hi,e1,e2⟩
 ·rw[e2] at hQ
  rw[if_neg (by simp)] at hQ
  rw[e1,pI,show decide ((-1:Int) ≥ 0)=false from rfl,fE]
  rw[ah,ae,ag (i:=0 + 0) h.row rfl,tH,aY]
  have k1:af [] M (M.push (.row [] false TU 0)):=(af.refl _ _).push _
  have o1:Ow BY (M.push (.row [] false TU 0)) M.next TU (.slc M.next 0 0 (.ex 0)) []:=Ow.lit BY M
  generalize M.push (.row [] false TU 0)=M1 at *
  have g1:=h.grow (.bytes 0) k1
  have t1:=Tr.grow (own:=own) (.bytes 0) k1 (by simp)
  have w1:Tg (dh own M.next M1.next (.bytes 0)) (.bytes 0) (.slc M.next 0 0 (.ex 0)):=fun b hb=>jQ (Own.blk o1 b hb).1 (Own.blk o1 b hb).2
  generalize dh own M.next M1.next (.bytes 0)=pQ at *
  have b1:FB M1 TU (.slc M.next 0 0 (.ex 0)) []:=FB.Gx (Own.mono o1 (Nat.zero_le _))
  rw[nP (x:=.slc M.next 0 0 (.ex 0)) (size:=1) rfl rfl rfl,aY]
  obtain⟨vs,a1,a2,a3⟩:=g1.p.f.els
  have hvl:vs.length=r.files.length:=by rw[a3.1]; simp[av]
  refine jY (E:=VE) (a:=⟨.slc M.next 0 0 (.ex 0),rfl⟩) a1 (Nat.zero_le _) (by decide) (by omega) (by omega) fun fv' M2 o2 k2 n2 hv2=>?_
  have hb2:∀ b∈az fv,pQ b=some .names:=a2
  have r2:=g1.kH k2 hb2 (by simp)
  have t2:Tr pQ M1 (dh pQ M1.next M2.next .names) M2:=Tr.grow .names k2 (fun b hb=>by rw[hb2 b hb]; simp)
  have e2':=iW (M':=M2) (t:=.names) g1.p.lt
  have p2:=g1.p.JD k2 hb2 e2' (tu (t:=.names) g1.p.lt k2.next) (fs:=(av r).fs++[[]]) (fv':=fv')
   (((a3.snoc b1 w1).step k2 hb2 e2' (by simp)).files o2 (Tg.grow g1.p.lt a2 hv2 (fun b hb=>(Own.blk o2 b hb).2)))
  have od2:=e2' _ _ g1.od
  generalize dh pQ M1.next M2.next .names=bH at *
  rw[ah,ae,bA (i:=0 + 0) (bY { av r with fs:=(av r).fs++[[]] } fv' sv dv gv cv) r2 (by simp[bY]) (Own.cells o2) (Own.one o2) rfl]
  obtain⟨g3,t3⟩:=fU.put (TR:=TR) (y := { av r with fs:=(av r).fs++[[]] }) od2 p2
  have hl3:Sl VE (M2.put rb (.row (bY { av r with fs:=(av r).fs++[[]] } fv' sv dv gv cv) false TR 0)) fv' (vs++[⟨.slc M.next 0 0 (.ex 0),rfl⟩]) :=
   aP.keep (Own.jk o2) ((af.refl [rb] _).put _ (.inr (by simp))) (fun b hb hm=>by
    have q:=Tg.grow g1.p.lt a2 hv2 (fun b hb=>(Own.blk o2 b hb).2) b hb
    rw[List.mem_singleton] at hm
    subst hm
    rw[iW (M':=M2) (t:=.names) g1.p.lt _ _ g1.od] at q
    cases q)
  generalize M2.put rb (.row (bY { av r with fs:=(av r).fs++[[]] } fv' sv dv gv cv) false TR 0)=M3 at *
  rw[ah,ae,ag (i:=0 + 1) g3.row rfl,nP (x:=N .i64 (0:Int)) (size:=1) rfl rfl rfl,aY]
  have hsl:(av r).ss.length=r.files.length:=by simp[av]
  refine jY (E:=INT) (a:=(0:Int)) g3.p.s (Nat.zero_le _) (by decide) (by show((av r).ss.length + 1) * 8≤_; omega) (by show(av r).ss.length + 1≤_; omega) fun sv' M4 o4 k4 n4 hv4=>?_
  have r4:=g3.kH k4 g3.p.st (by simp)
  have t4:Tr bH M3 (dh bH M3.next M4.next .safe) M4:=Tr.grow .safe k4 (fun b hb=>by rw[g3.p.st b hb]; simp)
  have e4':=iW (M':=M4) (t:=.safe) g3.p.lt
  have p4:=g3.p.Kb k4 g3.p.st e4' (tu (t:=.safe) g3.p.lt k4.next) o4 (Tg.grow g3.p.lt g3.p.st hv4 (fun b hb=>(Own.blk o4 b hb).2))
  have od4:=e4' _ _ g3.od
  generalize dh bH M3.next M4.next .safe=Mv at *
  have er:av { r with files:=r.files++[([],0)] } = { av r with fs:=(av r).fs++[[]],ss:=(av r).ss++[0] } := by simp[av]
  rw[ah,ae,bA (i:=0 + 1) (bY { av r with fs:=(av r).fs++[[]],ss:=(av r).ss++[0] } fv' sv' dv gv cv) r4 (by simp[bY]) (Own.cells o4) (Own.one o4) rfl]
  obtain⟨g5,t5⟩:=fU.put (TR:=TR) (y := { av r with fs:=(av r).fs++[[]],ss:=(av r).ss++[0] }) od4 p4
  generalize M4.put rb (.row (bY { av r with fs:=(av r).fs++[[]],ss:=(av r).ss++[0] } fv' sv' dv gv cv) false TR 0)=M5 at *
  obtain⟨vs5,c1,c2,c3⟩:=g5.p.f.els
  have hl5:vs5.length=r.files.length + 1:=by rw[c3.1]; simp[av]
  rw[ah,ae,ag (i:=0 + 0) g5.row rfl,aP.len (Own.jk c1),show(N .i64 (1:Int))=N .i64 ((1:Nat) : Int) from rfl,JM (by omega) (by omega),hl5,Nat.add_sub_cancel]
  refine Eq.mpr (DN (k:=(0,n,[],r.files.length))) ?_
  exact hm (r := { r with files:=r.files++[([],0)] }) ⟨_,_,_,_,_,by rw[er]; exact g5⟩ hl hc fun own' M' h' t=>hQ own' M' h' (t1.trans (t2.trans (t3.trans (t4.trans (t5.trans t)))))
 ·rw[e2] at hQ
  rw[if_pos (by simp)] at hQ
  rw[e1,pI,show decide (((0 + i:Nat) : Int) ≥ 0)=true from decide_eq_true (by omega),jd]
  exact hQ _ _ h0 (Tr.refl _ _)
theorem qw {fs:List fT} {f:Nat} {b:List UInt8} {k:Nat} : (fs.set f (b,k)).map (·.1)=(fs.map (·.1)).set f b:=by rw[List.map_set]
theorem qP {fs:List fT} {f:Nat} {b:List UInt8} {k:Nat} : (fs.set f (b,k)).map (fun x=>(x.2:Int))=(fs.map (fun x=>(x.2:Int))).set f (k:Int):=by rw[List.map_set]
theorem uK {α:Type} {l:List α} {i:Nat} (hi:i<l.length) : l.set i l[i]=l:=by simp
def xQ (TR TU TV TI TK:Nat) (c:ay) : Prop:=∀ {own:aH} {M:RM} {rb:Nat} {r:dH} {n:Nm} {u:AV} {ys:List UInt8} {Q:aj},iJ TR TU TV TI TK own M rb r→Sl BY M u ys→(∀ e∈r.dir,e.2<r.files.length)→r.dir.length≤1000000000 →
 tot r.files r.dir<4611686018427387904→0≤r.aJ→r.aJ<9223372036854775808→(∀ f∈r.files,f.1.length + ys.length≤140737488355328) →
 (∀ own' M',iJ TR TU TV TI TK own' M' rb (om r n ys).1→Tr own M own' M'→Q (N .i64 (om r n ys).2) M')→c [.ptr rb 0,St n,u] M Q
theorem BF {cf cb:ay} (hf:qf cf) (hb:wJ TR TU TV TI TK cb) : xQ TR TU TV TI TK fun args M Q=>∃ a0 a1 a2,args=[a0,a1,a2]∧ni cf cb TU a0 a1 a2 M Q:=by
 intro own M rb r n u ys Q h0 hu hwf hl htot hq0 hq1 hlen hQ
 have h1:=h0
 obtain⟨fv,sv,dv,gv,cv,h⟩:=h1
 refine⟨_,_,_,rfl, ?_⟩
 unfold ni
 unfold om at hQ
 rw[ah,ae,ag (i:=0 + 2) h.row rfl]
 have hdl:(av r).dir.length≤1000000000:=hl
 refine hf h.p.d (by omega) ?_
 rw[show gM (av r).dir n 0=gM r.dir n 0 from rfl]
 rcases kE n r.dir 0 with⟨e1,e2⟩ | ⟨i,hi,e1,e2⟩
 ·rw[e2] at hQ
  rw[e1,dN,show decide ((-1:Int)<0)=true from rfl,jd]
  exact hQ _ _ h0 (Tr.refl _ _)
 rw[e2] at hQ
 dsimp only at hQ
 rw[e1,Nat.zero_add,dN,show decide ((i:Int)<0)=false from decide_eq_false (by omega),fE,aP.len hu,ah,ae,ag (i:=0 + 5) h.row rfl]
 refine hb h0 hwf hl htot ?_
 rw[ag (i:=0 + 5) h.row rfl]
 refine⟨rfl, ?_⟩
 show ax .sub (N .i64 r.aJ) _ _
 rw[yX,jv (by omega) (by omega),yS]
 refine bN (fun hq=>?_) (fun hq=>?_)
 ·have hq:=of_decide_eq_true hq
  rw[if_pos (by omega)] at hQ
  exact hQ _ _ h0 (Tr.refl _ _)
 have hq:=of_decide_eq_false hq
 rw[if_neg (by omega)] at hQ
 have hfw:=hwf _ (List.getElem_mem hi)
 rw[ah,ae,ag (i:=0 + 2) h.row rfl]
 have hd:Sl bT M dv r.dir:=h.p.d
 rw[jw hd hi (j:=1) (x:=N .i64 (r.dir[i].2:Int)) rfl,ah,ae,ag (i:=0 + 0) h.row rfl,tH,qQ]
 generalize hfi:r.dir[i].2=f at *
 obtain⟨hf2,hfe⟩:=sM hfw
 have k1:af [] M (M.push (.row [] false TU 0)):=(af.refl _ _).push _
 have o1:Ow BY (M.push (.row [] false TU 0)) M.next TU (.slc M.next 0 0 (.ex 0)) []:=Ow.lit BY M
 generalize M.push (.row [] false TU 0)=M1 at *
 have g1:=h.keep k1
 obtain⟨v,_,_,hv,_,hidx⟩:=lX g1.p.f hf2
 rw[hfe] at hv
 have hfl:(bX r f).1.length + ys.length≤140737488355328:=by
  refine hlen (bX r f) ?_
  unfold bX
  rw[List.getElem?_eq_getElem hfw]
  exact List.getElem_mem hfw
 rw[ah,ae,ag (i:=0 + 0) g1.row rfl,hidx]
 refine jq (E:=BY) o1 k1.next (by decide) hv.sl (by simp only[List.length_nil]; omega) (by simp only[List.length_nil]; omega) fun w M2 o2 k2 n2 hv2=>?_
 have k12:af [] M M2:=k1.dG k2 (fun c hc=>.inl (Own.blk o1 c hc).1)
 have g2:=h.keep k12
 rw[List.nil_append] at o2
 rw[ag (i:=0 + 0) g2.row rfl]
 refine⟨rfl, ?_⟩
 have hu2:Sl BY M2 u ys:=aP.keep hu k12 (by simp)
 refine jq (E:=BY) o2 k12.next (by decide) hu2 (by omega) (by omega) fun w' M3 o3 k3 n3 hv3=>?_
 have k13:af [] M M3:=k12.dG k3 (fun c hc=>.inl (Own.blk o2 c hc).1)
 have g3:=h.grow (.bytes 0) k13
 have t3:=Tr.grow (own:=own) (.bytes 0) k13 (by simp)
 have w3:Tg (dh own M.next M3.next (.bytes 0)) (.bytes 0) w':=fun b hb=>jQ (Own.blk o3 b hb).1 (Own.blk o3 b hb).2
 generalize dh own M.next M3.next (.bytes 0)=rP at *
 have b3:FB M3 TU w' ((bX r f).1++ys):=FB.Gx (Own.mono o3 (Nat.zero_le _))
 rw[ag (i:=0 + 0) g3.row rfl]
 refine⟨rfl, ?_⟩
 obtain⟨vs,a1,a2,a3⟩:=g3.p.f.els
 have hvl:f<vs.length:=by rw[a3.1]; exact hf2
 obtain⟨b,hbk,hbl,hix,_,hst⟩:=iy (E:=VE) rfl a1 hvl
 obtain⟨M4,o4,e4,hs4⟩:=hst ⟨w',Own.one o3⟩ w' rfl (Own.cells o3)
 have hbo:rP b=some .names:=a2 b (by rw[hbk]; simp)
 have k4:af [b] M3 M4:=by rw[e4]; exact(af.refl _ _).put _ (.inr (by simp))
 have hb4:∀ c∈[b],rP c=some .names:=fun c hc=>by rw[List.mem_singleton] at hc; subst hc; exact hbo
 have r4:=g3.kH k4 hb4 (by simp)
 have t4:Tr rP M3 rP M4:=by rw[e4]; exact jl _ (by rw[hbo]; simp)
 have p4:=g3.p.JD k4 hb4 (iH.refl _) (fun b hb=>Nat.lt_of_lt_of_le (g3.p.lt b hb) k4.next) (fs:=(av r).fs.set f ((bX r f).1++ys)) (fv':=fv)
  ((((a3.set f b3 w3).step k4 hb4 (iH.refl _) (by simp))).files o4 a2)
 have ef:fv=fv:=rfl
 rw[hix,hs4,ah,ae,ag (i:=0 + 6) r4 rfl,oQ,ah,ae]
 have er:av { r with files:=r.files.set f ((bX r f).1++ys,(bX r f).2),app:=gB (r.app + 1) } = { av r with fs:=(av r).fs.set f ((bX r f).1++ys),app:=gB (r.app + 1) } := by
  simp only[av,qw,qP]
  congr 1
  have:((bX r f).2:Int)=(r.files.map (fun x=>(x.2:Int)))[f]'(by simpa using hfw):=by
   unfold bX; rw[List.getElem?_eq_getElem hfw]; simp
  rw[this,uK]
 show aW M4 (.ptr rb (0 + 6)) (N .i64 ({ av r with fs:=(av r).fs.set f ((bX r f).1++ys),app:=gB (r.app + 1) } : vF).app) 1 _
 rw[bA (i:=0 + 6) (bY { av r with fs:=(av r).fs.set f ((bX r f).1++ys),app:=gB (r.app + 1) } fv sv dv gv cv) r4 (by simp[bY]) rfl rfl rfl]
 obtain⟨g5,t5⟩:=fU.put (TR:=TR) (y := { av r with fs:=(av r).fs.set f ((bX r f).1++ys),app:=gB (r.app + 1) }) g3.od (p4.DC r.aJ (gB (r.app + 1)) r.syn)
 exact hQ _ _ ⟨_,_,_,_,_,by rw[er]; exact g5⟩ (t3.trans (t4.trans t5))
def DF (TR TU TV TI TK:Nat) (c:ay) : Prop:=∀ {own:aH} {M:RM} {rb:Nat} {r:dH} {n:Nm} {Q:aj},iJ TR TU TV TI TK own M rb r→(∀ e∈r.dir,e.2<r.files.length)→r.dir.length≤1000000000 →
 (∀ own' M',iJ TR TU TV TI TK own' M' rb (vV r n).1→Tr own M own' M'→Q (N .i64 (vV r n).2) M')→c [.ptr rb 0,St n] M Q
theorem Dp {cf:ay} (hf:qf cf) : DF TR TU TV TI TK fun args M Q=>∃ a0 a1,args=[a0,a1]∧qB cf a0 a1 M Q:=by
 intro own M rb r n Q h0 hwf hl hQ
 have h1:=h0
 obtain⟨fv,sv,dv,gv,cv,h⟩:=h1
 refine⟨_,_,rfl, ?_⟩
 unfold qB
 unfold vV at hQ
 rw[ah,ae,ag (i:=0 + 2) h.row rfl]
 have hdl:(av r).dir.length≤1000000000:=hl
 refine hf h.p.d (by omega) ?_
 rw[show gM (av r).dir n 0=gM r.dir n 0 from rfl]
 rcases kE n r.dir 0 with⟨e1,e2⟩ | ⟨i,hi,e1,e2⟩
 ·rw[e2] at hQ
  rw[e1,dN,show decide ((-1:Int)<0)=true from rfl,jd]
  exact hQ _ _ h0 (Tr.refl _ _)
 rw[e2] at hQ
 dsimp only at hQ
 rw[e1,Nat.zero_add,dN,show decide ((i:Int)<0)=false from decide_eq_false (by omega),fE]
 have hfw:=hwf _ (List.getElem_mem hi)
 rw[ah,ae,ag (i:=0 + 2) h.row rfl]
 have hd:Sl bT M dv r.dir:=h.p.d
 rw[jw hd hi (j:=1) (x:=N .i64 (r.dir[i].2:Int)) rfl,ah,ae,ag (i:=0 + 1) h.row rfl,ah,ae,ag (i:=0 + 0) h.row rfl]
 generalize hfi:r.dir[i].2=f at *
 obtain⟨hf2,hfe⟩:=sM hfw
 obtain⟨v,_,_,hv,_,hidx⟩:=lX h.p.f hf2
 rw[hfe] at hv
 have hsl:f<(av r).ss.length:=by simp[av]; exact hfw
 obtain⟨b,hbk,hbl,hix,_,hst⟩:=iy (E:=INT) rfl h.p.s hsl
 obtain⟨M4,o4,e4,hs4⟩:=hst ((bX r f).1.length:Int) (N .i64 ((bX r f).1.length:Int)) rfl rfl
 have hbo:own b=some .safe:=h.p.st b (by rw[hbk]; simp)
 have k4:af [b] M M4:=by rw[e4]; exact(af.refl _ _).put _ (.inr (by simp))
 have hb4:∀ c∈[b],own c=some .safe:=fun c hc=>by rw[List.mem_singleton] at hc; subst hc; exact hbo
 have r4:=h.kH k4 hb4 (by simp)
 have t4:Tr own M own M4:=by rw[e4]; exact jl _ (by rw[hbo]; simp)
 have p4:=h.p.Kb k4 hb4 (iH.refl _) (fun b hb=>Nat.lt_of_lt_of_le (h.p.lt b hb) k4.next) o4 h.p.st
 have er:av { r with files:=r.files.set f ((bX r f).1,(bX r f).1.length),syn:=gB (r.syn + 1) } = { av r with ss:=(av r).ss.set f ((bX r f).1.length:Int),syn:=gB (r.syn + 1) } := by
  simp only[av,qw,qP]
  congr 1
  have:(bX r f).1=(r.files.map (·.1))[f]'(by simpa using hfw):=by
   unfold bX; rw[List.getElem?_eq_getElem hfw]; simp
  rw[this,uK]
 rw[hidx,aP.len hv.sl,hix,hs4,ah,ae,ag (i:=0 + 7) r4 rfl,oQ,ah,ae]
 show aW M4 (.ptr rb (0 + 7)) (N .i64 ({ av r with ss:=(av r).ss.set f ((bX r f).1.length:Int),syn:=gB (r.syn + 1) } : vF).syn) 1 _
 rw[bA (i:=0 + 7) (bY { av r with ss:=(av r).ss.set f ((bX r f).1.length:Int),syn:=gB (r.syn + 1) } fv sv dv gv cv) r4 (by simp[bY]) rfl rfl rfl]
 obtain⟨g5,t5⟩:=fU.put (TR:=TR) (y := { av r with ss:=(av r).ss.set f ((bX r f).1.length:Int),syn:=gB (r.syn + 1) }) h.od (p4.DC r.aJ r.app (gB (r.syn + 1)))
 exact hQ _ _ ⟨_,_,_,_,_,by rw[er]; exact g5⟩ (t4.trans t5)
def rQ:AV→Prop
 | .slc _ _ n (.ex c)=>n≤c
 | .slc _ _ _ (.op e)=>e=1
 | _=>True
theorem IM {M:RM} {v:AV} {p:List Int} (h:Sl INT M v p) (hc:rQ v) (h0:0<p.length) : ∃ v',eH 1 v (some (N .i64 1)) none none=some v'∧Sl INT M v' (p.drop 1)∧rQ v'∧∀ b∈az v',b∈az v:=by
 have hb1:bnd 0 (some (N .i64 (1:Int)))=some 1:=rfl
 have hbn:∀ d,bnd d none=some d:=fun _=>rfl
 obtain⟨b,o,cap,rfl,hlt,hld⟩:=aP.pos h h0
 have hl1:(p.drop 1).length=p.length - 1:=by simp
 have hsub:M.loads b (o + 1 * 1) ((p.length - 1) * 1)=some (INT.row (p.drop 1)):=by
  have:=G8 hld 1 (p.length - 1) (by show 1 + (p.length - 1)≤p.length * 1; omega)
  rw[show o + 1 * 1=o + 1 from rfl,Nat.mul_one,this]
  have e:=INT.xP p 1
  rw[show 1 * INT.size=1 from rfl] at e
  rw[e,List.take_of_length_le]
  rw[INT.dY,hl1]; exact Nat.le_of_eq (Nat.mul_one _)
 have mk:∀ c,Sl INT M (.slc b (o + 1 * 1) (p.length - 1) c) (p.drop 1):=fun c=>by
  show aP M 1 _ _ (p.drop 1).length
  rw[hl1]
  exact .slc b _ _ _ _ hlt hsub
 cases cap with
 | ex c =>
   have hc:p.length≤c:=hc
   have e:eH 1 (.slc b o p.length (.ex c)) (some (N .i64 1)) none none=if c=1 then some (.slc b o 0 (.ex 0)) else some (.slc b (o + 1 * 1) (p.length - 1) (.ex (c - 1))):=by
    simp only[eH,hb1,hbn]
    rw[if_pos ⟨by omega,hc⟩]
   rw[e]
   by_cases h1:c=1
   ·rw[if_pos h1]
    have:p.length=1:=by omega
    refine⟨_,rfl, ?_,Nat.le_refl _,fun c hc=>hc⟩
    have hd:p.drop 1=[]:=List.eq_nil_of_length_eq_zero (by rw[hl1]; omega)
    rw[hd]
    refine .slc b o 0 _ [] hlt ?_
    have:=rH hld 0 (Nat.zero_le _)
    rw[Nat.zero_mul,this]; rfl
   ·rw[if_neg h1]
    exact⟨_,rfl,mk _,by show p.length - 1≤c - 1; omega,fun c hc=>hc⟩
 | op e =>
   have hc:e=1:=hc
   subst hc
   have e:eH 1 (.slc b o p.length (.op 1)) (some (N .i64 1)) none none=if p.length≤1 then some (.emp b) else some (.slc b (o + 1 * 1) (p.length - 1) (.op 1)):=by
    simp only[eH,hb1,hbn]
    rw[if_pos ⟨by omega,Nat.le_refl _,trivial⟩]
   rw[e]
   by_cases h1:p.length≤1
   ·rw[if_pos h1]
    have hd:p.drop 1=[]:=List.eq_nil_of_length_eq_zero (by rw[hl1]; omega)
    rw[hd]
    exact⟨_,rfl,.emp b,trivial,fun c hc=>by simp[az] at hc⟩
   ·rw[if_neg h1]
    exact⟨_,rfl,mk _,rfl,fun c hc=>hc⟩
def D9 (c:ay) : Prop:=∀ {M:RM} {v:AV} {p:List Int} {n:Nat} {Q:aj},Sl INT M v p→rQ v→1≤n→(∀ v',Sl INT M v' (p.drop 1)→rQ v'→(∀ b∈az v',b∈az v)→Q (.tup [N .i64 (bF p 0 n:Int),v']) M)→c [v,N .i64 (n:Int)] M Q
theorem En:D9 fun args M Q=>∃ a0 a1,args=[a0,a1]∧qm a0 a1 M Q:=by
 intro M v p n Q hv hc hn hQ
 refine⟨_,_,rfl, ?_⟩
 unfold qm
 rw[aP.len hv,show(N .i64 (0:Int))=N .i64 ((0:Nat) : Int) from rfl,Kn]
 refine bN (fun h0=>?_) (fun h0=>?_)
 ·have h0:p.length=0:=of_decide_eq_true h0
  have hp:p=[]:=List.eq_nil_of_length_eq_zero h0
  have:=hQ v (by rw[hp] at hv ⊢; exact hv) hc (fun b hb=>hb)
  rw[hp] at this
  exact this
 ·have h0:¬ p.length=0:=of_decide_eq_false h0
  have hlt:0<p.length:=by omega
  obtain⟨b,o,h1,h2,h3,h4⟩:=Sl.Jd hv (i:=0) ((0:Nat) : Int) hlt
  obtain⟨v',s1,s2,s3,s4⟩:=IM hv hc hlt
  have hQ:=hQ v' s2 s3 s4
  rw[h3,iT,h4 (N .i64 p[0]) rfl]
  simp only[Option.some.injEq,exists_eq_left']
  rw[dN]
  have hpk:bF p 0 n=if p[0]<0 then 0 else p[0].toNat % n:=by unfold bF; rw[List.getElem?_eq_getElem hlt]
  refine bN (fun hs=>?_) (fun hs=>?_)
  ·have hs:p[0]<0:=of_decide_eq_true hs
   rw[hpk,if_pos hs] at hQ
   exact⟨v',s1,hQ⟩
  ·have hs:¬ p[0]<((0:Nat) : Int):=of_decide_eq_false hs
   rw[hpk,if_neg (by omega)] at hQ
   rw[h3,iT,h4 (N .i64 p[0]) rfl]
   simp only[Option.some.injEq,exists_eq_left']
   generalize p[0]=x at *
   obtain⟨y,rfl⟩:=Int.eq_ofNat_of_zero_le (Int.not_lt.1 hs)
   rw[Ey]
   refine⟨by omega,v',s1, ?_⟩
   exact hQ
end
theorem sj (l:Dir) (n:Nm) : (fD l n).length≤l.length:=List.length_filter_le _ _
theorem D7 (e:Nm × Nat) (l:Dir) : (u6 e l).length=l.length + 1:=by rw[FT,(pY e l).length_eq]; rfl
theorem Lm (l:Dir) (c:fK) : (kS l c).length≤l.length + 1:=by
 unfold kS
 split
 ·rw[D7]; have:=sj l c.2.1; omega
 ·split
  ·split
   ·omega
   ·rw[D7]; have:=sj l c.2.1; have:=sj (fD l c.2.1) c.2.2.1; omega
  ·have:=sj l c.2.1; omega
theorem vK:∀ (cs:List fK) (l:Dir),(cs.foldl kS l).length≤l.length + cs.length
 | [],l=>Nat.le_refl _
 | c :: cs,l=>by
   have:=vK cs (kS l c); have:=Lm l c
   simp only[List.foldl_cons,List.length_cons]; omega
theorem Le {M:RM} {v:AV} {l:List fK} (h:Sl eU M v l) {i:Nat} (hi:i<l.length) {K:AV→Prop} : (bD v (N .i64 (i:Int)) 4 fun p=>fP M p 4 K)=K (.agg (eU.cells l[i])):=by
 obtain⟨b,o,_,_,hidx,hld⟩:=Sl.at (E:=eU) h 4 (i:Int) hi rfl rfl
 rw[hidx,mF,hld]
 simp
theorem G7 (p:List Int) (i n:Nat) : bF (p.drop i) 0 n=bF p i n:=by
 unfold bF; rw[List.getElem?_drop,Nat.add_zero]
theorem Im {T:Nat} {M:RM} {v:AV} {xs:List Int} (h:Ow INT M 0 T v xs) {i:Nat} (hi:i<xs.length) : ∀ K:AV→Prop,(bD v (N .i64 (i:Int)) 1 fun p=>ai M p K)=K (N .i64 xs[i]):=by
 obtain⟨b,_,_,hix,hld,_⟩:=iy (E:=INT) rfl h hi
 intro K
 rw[hix,hld _ rfl]
section
variable {TR TU TV TI TK:Nat}
def BG (TR TU TV TI TK:Nat) (c:ay) : Prop:=∀ {own:aH} {M:RM} {rb:Nat} {r:dH} {v:AV} {p:List Int} {Q:aj},iJ TR TU TV TI TK own M rb r→Sl INT M v p→rQ v→(∀ b∈az v,own b=none) →
 r.chg.length≤400000000→r.aS.length≤400000000→(∀ e∈jr r p,e.2<r.files.length)→(∀ f∈r.files,f.2≤f.1.length∧f.1.length≤70368744177664) →
 (∀ own' M',iJ TR TU TV TI TK own' M' rb (Di r p)→Tr own M own' M'→Q (.tup []) M')→c [.ptr rb 0,v] M Q
theorem CJ {TE:Nat} {cp cdo:ay} (hp:D9 cp) (hdo:H8 cdo) : BG TR TU TV TI TK fun args M Q=>∃ a0 a1,args=[a0,a1]∧oV cp TE cdo TU a0 a1 M Q:=by
 intro own M rb r v p Q ⟨fv,sv,dv,gv,cv,h⟩ hv hcap hvo hc1 hc2 hwf hfl hQ
 refine⟨_,_,rfl, ?_⟩
 unfold oV
 have hcl:(av r).chg.length=r.chg.length:=rfl
 rw[ah,ae,ag (i:=0 + 4) h.row rfl,aP.len (Own.jk h.p.c),show(N .i64 (1:Int))=N .i64 ((1:Nat) : Int) from rfl,addN (by omega)]
 refine hp hv hcap (by omega) fun rv hr1 hr2 hr3=>?_
 have fr:Fo INT own M rv (p.drop 1):=⟨hr1,fun b hb=>hvo b (hr3 b hb)⟩
 rw[mq,nO,tH,aY]
 have hk:bF p 0 (r.chg.length + 1)<r.chg.length + 1:=si (by omega)
 have hL:jr r p=(r.chg.take (bF p 0 (r.chg.length + 1))).foldl kS r.aS:=rfl
 rw[hcl]
 unfold Di at hQ
 generalize hLe:jr r p=L at *
 generalize bF p 0 (r.chg.length + 1)=k at *
 have k1:af [] M (M.push (.row [] false TE 0)):=(af.refl _ _).push _
 have o1:Ow bT (M.push (.row [] false TE 0)) M.next TE (.slc M.next 0 0 (.ex 0)) []:=Ow.lit bT M
 generalize M.push (.row [] false TE 0)=M1 at *
 have g1:=h.keep k1
 rw[ah,ae,ag (i:=0 + 3) g1.row rfl]
 have hdl:(av r).aS.length≤400000000:=hc2
 refine jq (E:=bT) o1 k1.next (by decide) g1.p.g (by simp only[List.length_nil]; omega) (by simp only[List.length_nil]; omega) fun l0 M2 o2 k2 n2 hv2=>?_
 have k12:af [] M M2:=k1.dG k2 (fun c hc=>.inl (Own.blk o1 c hc).1)
 rw[List.nil_append] at o2
 refine dX (fun z ys M3=>∃ (i:Nat) (lv:AV),z=k - i∧ys=[lv,N .i64 (i:Int)]∧i≤k∧af [] M M3∧Sl bT M3 lv ((r.chg.take i).foldl kS r.aS)∧∀ b∈az lv,M.next≤b) k
  ⟨0,l0,rfl,rfl,Nat.zero_le _,k12,by rw[List.take_zero]; exact Own.jk o2,fun b hb=>(Own.blk o2 b hb).1⟩ ?_
 rintro next z ys M3 hnext ⟨i,lv,rfl,rfl,hik,k3,hl3,hb3⟩
 dsimp only[aG]
 rw[l9]
 refine bN (fun hlt=>?_) (fun hge=>?_)
 ·have hlt:i<k:=of_decide_eq_true hlt
  have hic:i<r.chg.length:=by omega
  have g3:=h.keep k3
  rw[ah,ae,ag (i:=0 + 4) g3.row rfl]
  have hcs:Sl eU M3 cv r.chg:=Own.jk g3.p.c
  rw[Le hcs hic]
  have hfl:=vK (r.chg.take i) r.aS
  rw[List.length_take] at hfl
  refine hdo hl3 (by omega) fun lv' M4 hl4 hv4 k4=>?_
  rw[addN (by omega)]
  refine hnext _ _ _ (by omega) ⟨i + 1,lv',rfl,rfl,by omega,k3.trans k4, ?_, ?_⟩
  ·rw[List.take_succ_eq_append_getElem hic,List.foldl_append]; exact hl4
  ·rcases hv4 with rfl | hv4
   ·exact hb3
   ·exact fun b hb=>Nat.le_trans k3.next (hv4 b hb)
 have he:i=k:=by
  have:¬ i<k:=of_decide_eq_false hge
  omega
 subst he
 rw[← hL] at hl3
 clear hnext
 have hLlen:L.length≤2000000000:=by
  have:=vK (r.chg.take i) r.aS
  rw[List.length_take] at this
  rw[hL]; omega
 have g3:=h.grow (.bytes 0) k3
 have t3:=Tr.grow (own:=own) (.bytes 0) k3 (by simp)
 have lt3:Tg (dh own M.next M3.next (.bytes 0)) (.bytes 0) lv:=fun b hb=>jQ (hb3 b hb) (aP.lt hl3 b hb)
 generalize dh own M.next M3.next (.bytes 0)=rP at *
 have p3:=g3.p.Mg hl3 lt3
 rw[ah,ae,bA (i:=0 + 2) (bY { av r with dir:=L } fv sv lv gv cv) g3.row (by simp[bY]) (aP.cells hl3) (aP.one hl3) rfl]
 obtain⟨g4,t4⟩:=fU.put (TR:=TR) (y := { av r with dir:=L }) g3.od p3
 generalize M3.put rb (.row (bY { av r with dir:=L } fv sv lv gv cv) false TR 0)=M4 at *
 rw[tH,aY]
 have k5:af [] M4 (M4.push (.row [] false TE 0)):=(af.refl _ _).push _
 have o5:Ow bT (M4.push (.row [] false TE 0)) M4.next TE (.slc M4.next 0 0 (.ex 0)) []:=Ow.lit bT M4
 generalize M4.push (.row [] false TE 0)=M5 at *
 have hl5:Sl bT M5 lv L:=(g4.p.keep k5).d
 refine jq (E:=bT) o5 k5.next (by decide) hl5 (by simp only[List.length_nil]; omega) (by simp only[List.length_nil]; omega) fun gv' M6 o6 k6 n6 hv6=>?_
 have k56:af [] M4 M6:=k5.dG k6 (fun c hc=>.inl (Own.blk o5 c hc).1)
 rw[List.nil_append] at o6
 have g6:=g4.grow (.bytes 0) k56
 have t6:=Tr.grow (own:=rP) (.bytes 0) k56 (by simp)
 have gt6:Tg (dh rP M4.next M6.next (.bytes 0)) (.bytes 0) gv':=fun b hb=>jQ (Own.blk o6 b hb).1 (Own.blk o6 b hb).2
 generalize dh rP M4.next M6.next (.bytes 0)=LG at *
 have p6:=g6.p.L9 (Own.jk o6) gt6
 rw[ah,ae,bA (i:=0 + 3) (bY { av r with dir:=L,aS:=L } fv sv lv gv' cv) g6.row (by simp[bY]) (Own.cells o6) (Own.one o6) rfl]
 obtain⟨g7,t7⟩:=fU.put (TR:=TR) (y := { av r with dir:=L,aS:=L }) g6.od p6
 generalize M6.put rb (.row (bY { av r with dir:=L,aS:=L } fv sv lv gv' cv) false TR 0)=M7 at *
 rw[ah,ae,bA (i:=0 + 4) (bY { av r with dir:=L,aS:=L,chg:=[] } fv sv lv gv' aR) g7.row (by simp[bY]) rfl rfl rfl]
 have p7:=g7.p.Kg (af.refl [] _) (by simp) (iH.refl _) g7.p.lt (cs:=[]) (cv':=aR) .nil (fun b hb=>by simp[az] at hb)
 obtain⟨g8,t8⟩:=fU.put (TR:=TR) (y := { av r with dir:=L,aS:=L,chg:=[] }) g7.od p7
 generalize M7.put rb (.row (bY { av r with dir:=L,aS:=L,chg:=[] } fv sv lv gv' aR) false TR 0)=M8 at *
 have t18:=t3.trans (t4.trans (t6.trans (t7.trans t8)))
 have fr8:=fr.tr t18
 clear t3 t4 t6 t7 t8 g3 g4 g6 g7 p3 p6 p7 k56 k5 k6 o5 o6 hl5 gt6 lt3
 refine dX (fun z ys M9=>∃ (j:Nat) (rO:aH) (fs:List fT) (rv' : AV),z=L.length - j∧ys=[rv',N .i64 (j:Int)]∧j≤L.length∧fU TR TU TV TI TK rO M9 rb (av { r with files:=fs,dir:=L,aS:=L,chg:=[] }) fv sv lv gv' aR ∧
   Tr own M rO M9∧Fo INT rO M9 rv' (p.drop (j + 1))∧rQ rv'∧kX p (L.drop j) (j + 1) fs=kX p L 1 r.files∧fs.length=r.files.length∧∀ f∈fs,f.2≤f.1.length∧f.1.length≤70368744177664) L.length
  ⟨0,LG,r.files,rv,rfl,rfl,Nat.zero_le _,g8,t18,fr8,hr2,rfl,rfl,hfl⟩ ?_
 rintro next2 z ys M9 LJ ⟨j,rO,fs,rv',rfl,rfl,hjl,g9,t9,fr9,O8,hcr,MB,hfb⟩
 dsimp only[aG]
 have hl9:Sl bT M9 lv L:=g9.p.d
 rw[aP.len hl9,l9]
 refine bN (fun hlt=>?_) (fun hge=>?_)
 ·have hlt:j<L.length:=of_decide_eq_true hlt
  have hfw:L[j].2<fs.length:=by rw[MB]; exact hwf _ (List.getElem_mem hlt)
  rw[jw hl9 hlt (j:=1) (x:=N .i64 (L[j].2:Int)) rfl]
  rw[List.drop_eq_getElem_cons hlt,kX] at hcr
  generalize hfe:L[j].2=f at *
  have hfg:fs[f]?.getD ([],0)=fs[f]:=by rw[List.getElem?_eq_getElem hfw]; rfl
  obtain⟨hb1,hb2⟩:=hfb fs[f] (List.getElem_mem hfw)
  have hf2:f<(av { r with files:=fs,dir:=L,aS:=L,chg:=[] }).fs.length:=by simp[av]; exact hfw
  have hs2:f<(av { r with files:=fs,dir:=L,aS:=L,chg:=[] }).ss.length:=by simp[av]; exact hfw
  have hf3:(av { r with files:=fs,dir:=L,aS:=L,chg:=[] }).fs[f]=fs[f].1:=by simp[av]
  have hs3:(av { r with files:=fs,dir:=L,aS:=L,chg:=[] }).ss[f]=(fs[f].2:Int):=by simp[av]
  unfold yV at hcr
  rw[hfg] at hcr
  dsimp only at hcr
  have hpk:=G7 p (j + 1) (fs[f].1.length - fs[f].2 + 1)
  have hplt:bF p (j + 1) (fs[f].1.length - fs[f].2 + 1)<fs[f].1.length - fs[f].2 + 1:=si (by omega)
  obtain⟨u9,_,_,b9,_,Nu⟩:=lX g9.p.f hf2
  rw[hf3] at b9
  rw[ah,ae,ag (i:=0 + 0) g9.row rfl,Nu,aP.len b9.sl,ah,ae,ag (i:=0 + 1) g9.row rfl,Im g9.p.s hs2,hs3,JM hb1 (by omega),addN (by omega)]
  refine hp fr9.sl O8 (by omega) fun rv2 q1 q2 q3=>?_
  rw[hpk]
  have fr2:Fo INT rO M9 rv2 (p.drop (j + 1 + 1)):=⟨by rw[List.drop_drop] at q1; exact q1,fun b hb=>fr9.no b (q3 b hb)⟩
  generalize bF p (j + 1) (fs[f].1.length - fs[f].2 + 1)=kk at *
  rw[mq,nO,ah,ae,ag (i:=0 + 0) g9.row rfl,tH,qQ]
  have ka:af [] M9 (M9.push (.row [] false TU 0)):=(af.refl _ _).push _
  have oa:Ow BY (M9.push (.row [] false TU 0)) M9.next TU (.slc M9.next 0 0 (.ex 0)) []:=Ow.lit BY M9
  generalize M9.push (.row [] false TU 0)=Ma at *
  have ga:=g9.keep ka
  obtain⟨ua,_,_,ba,_,Nv⟩:=lX ga.p.f hf2
  rw[hf3] at ba
  rw[ah,ae,ag (i:=0 + 0) ga.row rfl,Nv,ah,ae,ag (i:=0 + 1) ga.row rfl,Im ga.p.s hs2,hs3,addN (by omega)]
  obtain⟨us,es,hus⟩:=NA ba (k:=fs[f].2 + kk) (by omega)
  refine⟨us,es, ?_⟩
  have htl:(fs[f].1.take (fs[f].2 + kk)).length=fs[f].2 + kk:=by rw[List.length_take]; omega
  refine jq (E:=BY) oa ka.next (by decide) hus (by simp only[List.length_nil]; omega) (by simp only[List.length_nil]; omega) fun w Mb ob kb nb hvb=>?_
  have kab:af [] M9 Mb:=ka.dG kb (fun c hc=>.inl (Own.blk oa c hc).1)
  rw[List.nil_append] at ob
  have gb:=g9.grow (.bytes 0) kab
  have tb:=Tr.grow (own:=rO) (.bytes 0) kab (by simp)
  have wb:Tg (dh rO M9.next Mb.next (.bytes 0)) (.bytes 0) w:=fun b hb=>jQ (Own.blk ob b hb).1 (Own.blk ob b hb).2
  generalize dh rO M9.next Mb.next (.bytes 0)=qM at *
  have bb:FB Mb TU w (fs[f].1.take (fs[f].2 + kk)):=FB.Gx (Own.mono ob (Nat.zero_le _))
  rw[ag (i:=0 + 0) gb.row rfl]
  refine⟨rfl, ?_⟩
  obtain⟨vs,a1,a2,a3⟩:=gb.p.f.els
  have hvl:f<vs.length:=by rw[a3.1]; exact hf2
  obtain⟨b,hbk,hbl,hix,_,hst⟩:=iy (E:=VE) rfl a1 hvl
  obtain⟨Mc,oc,ec,hsc⟩:=hst ⟨w,Own.one ob⟩ w rfl (Own.cells ob)
  have hbo:qM b=some .names:=a2 b (by rw[hbk]; simp)
  have kc:af [b] Mb Mc:=by rw[ec]; exact(af.refl _ _).put _ (.inr (by simp))
  have hbc:∀ c∈[b],qM c=some .names:=fun c hc=>by rw[List.mem_singleton] at hc; subst hc; exact hbo
  have rc:=gb.kH kc hbc (by simp)
  have tc:Tr qM Mb qM Mc:=by rw[ec]; exact jl _ (by rw[hbo]; simp)
  have pc:=gb.p.JD kc hbc (iH.refl _) (fun b hb=>Nat.lt_of_lt_of_le (gb.p.lt b hb) kc.next) (fs:=(av { r with files:=fs,dir:=L,aS:=L,chg:=[] }).fs.set f (fs[f].1.take (fs[f].2 + kk))) (fv':=fv)
   ((((a3.set f bb wb).step kc hbc (iH.refl _) (by simp))).files oc a2)
  rw[hix,hsc]
  have hf4:f<((av { r with files:=fs,dir:=L,aS:=L,chg:=[] }).fs.set f (fs[f].1.take (fs[f].2 + kk))).length:=by rw[List.length_set]; exact hf2
  obtain⟨uc,_,_,bc,_,NM⟩:=lX pc.f hf4
  rw[List.getElem_set_self] at bc
  have rc0:Mc.heap rb=some (.row [fv,sv,lv,gv',aR,N .i64 r.aJ,N .i64 r.app,N .i64 r.syn] false TR 0):=rc
  rw[ah,ae,ag (i:=0 + 1) rc0 rfl,ah,ae,ag (i:=0 + 0) rc0 rfl,NM,aP.len bc.sl,htl]
  obtain⟨b',hbk',OY,hix',_,hst'⟩:=iy (E:=INT) rfl pc.s hs2
  obtain⟨Md,od,ed,hsd⟩:=hst' ((fs[f].2 + kk:Nat) : Int) (N .i64 ((fs[f].2 + kk:Nat) : Int)) rfl rfl
  have Mh:qM b'=some .safe:=pc.st b' (by rw[hbk']; simp)
  have kd:af [b'] Mc Md:=by rw[ed]; exact(af.refl _ _).put _ (.inr (by simp))
  have hbd:∀ c∈[b'],qM c=some .safe:=fun c hc=>by rw[List.mem_singleton] at hc; subst hc; exact Mh
  have gc:fU TR TU TV TI TK qM Mc rb { av { r with files:=fs,dir:=L,aS:=L,chg:=[] } with fs:=(av { r with files:=fs,dir:=L,aS:=L,chg:=[] }).fs.set f (fs[f].1.take (fs[f].2 + kk)) } fv sv lv gv' aR:=⟨gb.od,rc,pc⟩
  have rd:=gc.kH kd hbd (by simp)
  have td:Tr qM Mc qM Md:=by rw[ed]; exact jl _ (by rw[Mh]; simp)
  have pd:=pc.Kb kd hbd (iH.refl _) (fun b hb=>Nat.lt_of_lt_of_le (pc.lt b hb) kd.next) od pc.st
  rw[hix',hsd,addN (by omega)]
  have er:av { r with files:=fs.set f (fs[f].1.take (fs[f].2 + kk),fs[f].2 + kk),dir:=L,aS:=L,chg:=[] } = { av { r with files:=fs,dir:=L,aS:=L,chg:=[] } with fs:=(av { r with files:=fs,dir:=L,aS:=L,chg:=[] }).fs.set f (fs[f].1.take (fs[f].2 + kk)),ss:=(av { r with files:=fs,dir:=L,aS:=L,chg:=[] }).ss.set f ((fs[f].2 + kk:Nat) : Int) } := by
   simp only[av,qw,qP]
  have ts:=tb.trans (tc.trans td)
  refine LJ _ _ _ (by omega) ⟨j + 1,qM,fs.set f (fs[f].1.take (fs[f].2 + kk),fs[f].2 + kk),rv2,rfl,rfl,by omega,by rw[er]; exact⟨gc.od,rd,pd⟩,t9.trans ts,fr2.tr ts,q2,hcr,by rw[List.length_set]; exact MB,fun x hx=>?_⟩
  rcases List.mem_or_eq_of_mem_set hx with hx | rfl
  ·exact hfb x hx
  ·refine⟨?_, ?_⟩
   ·show fs[f].2 + kk≤(fs[f].1.take (fs[f].2 + kk)).length
    omega
   ·show(fs[f].1.take (fs[f].2 + kk)).length≤_
    omega
 ·have he:j=L.length:=by
   have:¬ j<L.length:=of_decide_eq_false hge
   omega
  subst he
  rw[List.drop_length,kX] at hcr
  rw[← hcr] at hQ
  exact hQ _ _ ⟨_,_,_,_,_,g9⟩ t9
end
section
variable {M:RM} {c p:Bool} {f:KR→Prop} {G:AV→RM→Prop}
end
theorem vG {a:Int} {K:AV→Prop} : ax .neq (N .i64 a) (N .i64 a) K=K (Bo false):=by rw[ED,bne_self_eq_false]
variable {TD TF TU TC TS:Nat} {ca cN cC cA cS cSD cX cR:ay}
end Go.Ab.Dk
namespace Go.Ab.Dk
open Go Go.Ab
theorem Ik {f g:Prop→Prop} {k:Prop} : IB (Bo false) false f g k=f k:=rfl
theorem Mf {s:Nm} {K:AV→Prop} : iB .neq (St s) (St s) K=K (Bo false):=by rw[EJ,bne_self_eq_false]
theorem Ck {T n0:Nat} {c:UInt8} {k0:AV} (hc0:k0=By c) {K:RM→Prop} {M:RM} {v:AV} {xs:List UInt8} (h:Ow BY M n0 T v xs) (hl:xs.length≤140737488355328) (hK:∀ M',af (az v) M M'→K M') :
  gW (fun next ys M'=>cz v fun t=>ax .lss (aG ys 0) t fun t'=>aM t' (bD v (aG ys 0) 1 fun p=>aW M' p k0 1 fun M''=>ax .add (aG ys 0) (N .i64 1) fun j=>next [j] M'') (K M')) [(N .i64 0)] M:=by
 subst hc0
 refine dX (fun z ys M'=>∃ (i:Nat) (ws:List UInt8),z=xs.length - i∧ys=[N .i64 (i:Int)]∧i≤xs.length∧ws.length=xs.length∧Ow BY M' 0 T v ws∧af (az v) M M') xs.length
  ⟨0,xs,rfl,rfl,Nat.zero_le _,rfl,Own.mono h (Nat.zero_le _),af.refl _ _⟩ ?_
 rintro next z ys M' hnext ⟨i,ws,rfl,rfl,hil,hwl,ho,hk⟩
 dsimp only[aG]
 rw[aP.len (Own.jk ho),l9]
 refine bN (fun hlt=>?_) (fun hge=>hK M' hk)
 have hlt:i<ws.length:=of_decide_eq_true hlt
 obtain⟨b,hbk,hbl,hix,_,hst⟩:=iy (E:=BY) rfl ho hlt
 obtain⟨M2,o2,e2,hs2⟩:=hst c (By c) rfl rfl
 rw[hix,hs2,add1 (by omega)]
 refine hnext _ _ _ (by omega) ⟨i + 1,ws.set i c,rfl,rfl,by omega,by rw[List.length_set]; exact hwl,o2, ?_⟩
 rw[e2]
 exact hk.put _ (.inr (by rw[hbk]; simp))
theorem LD {l:Dir} (hn:(aA l).Nodup) {i:Nat} (hi:i<l.length) : dB l l[i].1=some l[i].2 :=
 (iA hn).2 (List.getElem_mem hi)
theorem IY {l:Dir} {i:Nat} (hi:i<l.length) : (aA l)[i]?=some l[i].1:=by simp[aA,hi]
variable {TD TF TU TC TS TR TV TI TK:Nat}
def Mx (TD TF TU TC TR TV TI TK:Nat) (c:ay) : Prop:=∀ {own bH:aH} {M:RM} {db rb:Nat} {s:aT} {r:dH} {Q:aj},bn TD TF TU TC own M db s→iJ TR TU TV TI TK bH M rb r→bU s r→s.dir.length≤1000000000→iE s.dir→tot s.files s.dir<4611686018427387904 →
 (∀ f∈s.files,f.1.length≤70368744177664)→(∀ e∈r.dir,e.2<r.files.length)→(∀ M',af [] M M'→Q (Bo true) M')→c [.ptr db 0,.ptr rb 0] M Q
theorem LB {TT:Nat} {cL cSt cB cR:ay} (hL:zT TD TF TU TC TS cL) (hSt:CS TD TF TU TC cSt) (hB:wJ TR TU TV TI TK cB) (hR:CX TD TF TU TC cR) :
  Mx TD TF TU TC TR TV TI TK fun args M Q=>∃ a0 a1,args=[a0,a1]∧uG cL cSt TT cB cR a0 a1 M Q:=by
 intro own bH M db rb s r Q hd hr hs hlen hdw htot hfl hwf hQ
 refine⟨_,_,rfl, ?_⟩
 unfold uG
 simp only[rJ,NH,MC,Ms]
 have JA:=hs.dir.names
 have hperm:=hs.dir.1
 have hdl:r.dir.length=s.dir.length:=hperm.length_eq
 have hnd:(aA r.dir).Nodup:=by rw[JA]; exact((jc _).nodup_iff).2 hs.nd
 have hnl:(aA r.dir).length=s.dir.length:=by simp[aA,hdl]
 refine hL hd (by omega) hdw fun v1 M1 o1 k1=>?_
 rw[← JA] at o1
 refine hSt (hd.keep k1) htot fun M2 k2=>?_
 have k12:=k1.trans k2
 rw[aY]
 have k3:af [] M2 (M2.push (.row [N .i64 0,N .i64 0,N .i64 0,N .i64 0] false TT 0)):=(af.refl _ _).push _
 rw[kZ (n:=4) (RM.bi _) rfl rfl rfl]
 have k4:af [] M2 ((M2.push (.row [N .i64 0,N .i64 0,N .i64 0,N .i64 0] false TT 0)).put M2.next (.row (AV.agg [N .i64 (s.dir.length:Int),N .i64 (tot s.files s.dir:Int),N .i64 s.app,N .i64 s.syn]).cells false TT 0)):=k3.put _ (.inl (Nat.le_refl _))
 have h4:=aZ (M:=M2.push (.row [N .i64 0,N .i64 0,N .i64 0,N .i64 0] false TT 0)) (b:=M2.next) (.row (AV.agg [N .i64 (s.dir.length:Int),N .i64 (tot s.files s.dir:Int),N .i64 s.app,N .i64 s.syn]).cells false TT 0)
 have h4:((M2.push (.row [N .i64 0,N .i64 0,N .i64 0,N .i64 0] false TT 0)).put M2.next (.row (AV.agg [N .i64 (s.dir.length:Int),N .i64 (tot s.files s.dir:Int),N .i64 s.app,N .i64 s.syn]).cells false TT 0)).heap M2.next=some (.row [N .i64 (s.dir.length:Int),N .i64 (tot s.files s.dir:Int),N .i64 s.app,N .i64 s.syn] false TT 0):=h4
 generalize (M2.push (.row [N .i64 0,N .i64 0,N .i64 0,N .i64 0] false TT 0)).put M2.next (.row (AV.agg [N .i64 (s.dir.length:Int),N .i64 (tot s.files s.dir:Int),N .i64 s.app,N .i64 s.syn]).cells false TT 0)=M4 at *
 have k14:af [] M M4:=k12.trans k4
 have hr4:=hr.keep k14
 obtain⟨fv,sv,dv,gv,cv,g4⟩:=id hr4
 have o4:Ow nC M4 M.next TS v1 (aA r.dir):=Own.keep o1 (k2.trans k4) (by simp)
 have hdv:Sl bT M4 dv r.dir:=g4.p.d
 rw[aP.len (Own.jk o4),ah,ae,ag (i:=0 + 2) g4.row rfl,aP.len hdv,hnl,hdl,vG]
 simp only[kQ]
 rw[ae,ag (i:=0 + 0) h4 rfl,ah,ae,ag (i:=0 + 2) g4.row rfl,aP.len hdv,hdl,vG,Go.Ab.bF]
 simp only[kQ,kP,Ik]
 rw[ae,ag (i:=0 + 1) h4 rfl]
 refine hB hr4 hwf (by omega) (by rw[hs.tot]; exact htot) ?_
 rw[ag (i:=0 + 1) h4 rfl]
 refine⟨rfl, ?_⟩
 rw[hs.tot,vG,Go.Ab.bF]
 simp only[kQ]
 have happ:(av r).app=s.app:=hs.app
 have O6:(av r).syn=s.syn:=hs.syn
 rw[ae,ag (i:=0 + 2) h4 rfl,ah,ae,ag (i:=0 + 6) g4.row rfl,happ,vG,Go.Ab.bF]
 simp only[kQ]
 rw[ae,ag (i:=0 + 3) h4 rfl,ah,ae,ag (i:=0 + 7) g4.row rfl,O6,vG,Go.Ab.bF,fE]
 refine dX (fun z ys M5=>∃ (i:Nat) (ws:List Nm),z=r.dir.length - i∧ys=[N .i64 (i:Int)]∧i≤r.dir.length∧ws.length=r.dir.length∧ws.drop i=(aA r.dir).drop i∧Ow nC M5 M.next TS v1 ws∧af [] M M5) r.dir.length
  ⟨0,aA r.dir,rfl,rfl,Nat.zero_le _,by omega,rfl,o4,k14⟩ ?_
 rintro next z ys M5 hnext ⟨i,ws,rfl,rfl,hil,hwl,hwd,o5,k5⟩
 dsimp only[aG]
 rw[aP.len (Own.jk o5),l9]
 refine bN (fun hlt=>?_) (fun hge=>hQ M5 k5)
 have hlt:i<ws.length:=of_decide_eq_true hlt
 have hlr:i<r.dir.length:=by omega
 have hwi:ws[i]=r.dir[i].1:=by
  have h1:=congrArg (fun l:List Nm=>l[0]?) hwd
  simp only[List.getElem?_drop,Nat.add_zero] at h1
  rw[IY hlr,List.getElem?_eq_getElem hlt] at h1
  exact Option.some.inj h1
 have o50:Ow nC M5 0 TS v1 ws:=Own.mono o5 (Nat.zero_le _)
 obtain⟨b,hbk,hbl,hix,hld,hst⟩:=iy (E:=nC) rfl o50 hlt
 rw[hix,hld (St ws[i]) rfl,hwi]
 have hlk:dB s.dir r.dir[i].1=some r.dir[i].2:=by rw[← hs.lk]; exact LD hnd hlr
 refine hR (hd.keep k5) (fun f hf=>by have:=hfl f hf; omega) fun v6 M6 k6 o6=>?_
 have hrd:rU s r.dir[i].1=((dP s r.dir[i].2).1,0):=by unfold rU; rw[hlk]
 rw[hrd] at o6; dsimp only at o6
 rw[hrd,mq,nO]
 have k56:=k5.trans k6
 have o56:Ow nC M6 0 TS v1 ws:=Own.keep o50 k6 (by simp)
 obtain⟨b',hbk',OY,hix',PD,hst'⟩:=iy (E:=nC) rfl o56 hlt
 obtain⟨fv,sv,dv,gv,cv,g6⟩:=hr.keep k56
 have LZ:Sl bT M6 dv r.dir:=g6.p.d
 rw[hix',PD (St ws[i]) rfl,hwi,ah,ae,ag (i:=0 + 2) g6.row rfl,jw LZ hlr (j:=0) (x:=St r.dir[i].1) rfl,Mf]
 simp only[kQ]
 rw[vG,Go.Ab.bF]
 simp only[kQ]
 have hfw:=hwf _ (List.getElem_mem hlr)
 obtain⟨hf2,hfe⟩:=sM hfw
 obtain⟨u,_,_,bu,_,hidx⟩:=lX g6.p.f hf2
 rw[hfe] at bu
 have hff:(bX r r.dir[i].2).1=(dP s r.dir[i].2).1:=by unfold bX dP; rw[hs.files]
 rw[hff] at bu
 rw[Sl.str (Own.jk o6),ah,ae,ag (i:=0 + 0) g6.row rfl,ah,ae,ag (i:=0 + 2) g6.row rfl,jw LZ hlr (j:=1) (x:=N .i64 (r.dir[i].2:Int)) rfl,hidx,Sl.str bu.sl,Mf,Go.Ab.bF,fE]
 have hfle:(dP s r.dir[i].2).1.length≤70368744177664:=rV hfl _
 refine Ck (c:=99) rfl o6 (by omega) fun M7 k7=>?_
 have hv1:∀ c∈az v1,c ∉ az v6:=fun c hc hm=>by
  have h1:=(Own.blk o5 c hc).2
  have h2:=(Own.blk o6 c hm).1
  omega
 have o7:Ow nC M7 0 TS v1 ws:=Own.keep o56 k7 hv1
 obtain⟨b7,JJ,hbl7,Pg,_,Pw⟩:=iy (E:=nC) rfl o7 hlt
 obtain⟨M8,o8,e8,hs8⟩:=Pw [115,112,111,105,108,116] (St [115,112,111,105,108,116]) rfl rfl
 have hbM:M.next≤b7:=(Own.blk o5 b7 (by rw[JJ]; simp)).1
 have k8:af [] M M8:=by
  have:=k56.dG k7 (fun c hc=>.inl (Nat.le_trans k5.next (Own.blk o6 c hc).1))
  rw[e8]
  exact this.put _ (.inl hbM)
 have n8:M8.next=M7.next:=by rw[e8]; rfl
 have o8' : Ow nC M8 M.next TS v1 (ws.set i [115,112,111,105,108,116]):=by
  obtain⟨c,ec,hc1,hc2⟩:=Jb o8 (by rw[List.length_set]; omega)
  have hcb:c=b7:=by rw[ec] at JJ; simpa [az] using JJ
  rw[ec]
  exact .op c _ _ (by omega) hc1 hc2 (by rw[nC.dY])
 rw[Pg,hs8,add1 (by omega)]
 refine hnext _ _ _ (by omega) ⟨i + 1,ws.set i [115,112,111,105,108,116],rfl,rfl,by omega,by rw[List.length_set]; exact hwl, ?_,o8',k8⟩
 rw[List.drop_set_of_lt (by omega),← List.drop_drop,hwd,List.drop_drop]
end Go.Ab.Dk
namespace Go.Ab.Dk
open Go Go.Ab
variable {D:Nat}
structure dD (D:Nat) (s:aT) (i:Nat) : Prop where
 q0:0≤s.aJ
 q1:s.aJ<9223372036854775808
 fl:s.files.length≤i
 both:s.aS.length + s.chg.length≤i
 dir:s.dir=s.chg.foldl fB s.aS
 dw:iE s.dir
 sw:iE s.aS
 cw:∀ c∈s.chg,c.1.length≤64
 ne:∀ c∈s.chg,c.2.1≠none→c.1≠[]
 files:∀ f∈s.files,f.1.length≤i * D
theorem dD.dl {s:aT} {i:Nat} (h:dD D s i) : s.dir.length≤i:=by
 have:=su s.chg s.aS; have:=h.both; rw[h.dir]; omega
theorem dD.mono {s:aT} {i:Nat} (h:dD D s i) : dD D s (i + 1) :=
 ⟨h.q0,h.q1,Nat.le_succ_of_le h.fl,Nat.le_succ_of_le h.both,h.dir,h.dw,h.sw,h.cw,h.ne,fun f hf=>by have:=h.files f hf; rw[Nat.succ_mul]; omega⟩
theorem dD.jL {s:aT} {i:Nat} (h:dD D s i) {c:iC} (hc:c.1.length≤64) (hn:c.2.1≠none→c.1≠[]) : dD D (jL s c) (i + 1):=by
 refine⟨h.q0,h.q1,Nat.le_succ_of_le h.fl, ?_, ?_,Eo h.dw hc,h.sw,fun x hx=>?_,fun x hx=>?_,fun f hf=>by have:=h.files f hf; rw[Nat.succ_mul]; omega⟩
 ·have:=h.both; simp only[Dk.jL,List.length_append,List.length_cons,List.length_nil]; omega
 ·show fB s.dir c=(s.chg++[c]).foldl fB s.aS
  rw[List.foldl_append,← h.dir]; rfl
 ·simp only[Dk.jL,List.mem_append,List.mem_singleton] at hx
  rcases hx with hx | rfl
  ·exact h.cw x hx
  ·exact hc
 ·simp only[Dk.jL,List.mem_append,List.mem_singleton] at hx
  rcases hx with hx | rfl
  ·exact h.ne x hx
  ·exact hn
theorem dD.create {s:aT} {i:Nat} (h:dD D s i) (n:Nm) : dD D (dE s n).1 (i + 1):=by
 unfold dE
 split
 ·exact h.mono
 ·rename_i hg
  split
  ·exact h.mono
  ·have hl:=DL hg
   have hne:=wI hg
   refine⟨h.q0,h.q1, ?_, ?_, ?_,Eo h.dw (c:=(n,some s.files.length,[])) hl,h.sw,fun x hx=>?_,fun x hx=>?_,fun f hf=>?_⟩
   ·have:=h.fl; simp only[Dk.jL,List.length_append,List.length_cons,List.length_nil]; omega
   ·have:=h.both; simp only[Dk.jL,List.length_append,List.length_cons,List.length_nil]; omega
   ·show fB s.dir (n,some s.files.length,[])=(s.chg++[(n,some s.files.length,[])]).foldl fB s.aS
    rw[List.foldl_append,← h.dir]; rfl
   ·simp only[Dk.jL,List.mem_append,List.mem_singleton] at hx
    rcases hx with hx | rfl
    ·exact h.cw x hx
    ·exact hl
   ·simp only[Dk.jL,List.mem_append,List.mem_singleton] at hx
    rcases hx with hx | rfl
    ·exact h.ne x hx
    ·exact fun _=>hne
   ·simp only[Dk.jL,List.mem_append,List.mem_singleton] at hf
    rcases hf with hf | rfl
    ·have:=h.files f hf; rw[Nat.succ_mul]; omega
    ·simp
theorem dD.append {s:aT} {i:Nat} (h:dD D s i) (n:Nm) {b:List UInt8} (hb:b.length≤D) : dD D (dF s n b).1 (i + 1):=by
 unfold dF
 split
 ·exact h.mono
 ·split
  ·exact h.mono
  ·rename_i f hf _
   refine⟨h.q0,h.q1,by rw[List.length_set]; exact Nat.le_succ_of_le h.fl,Nat.le_succ_of_le h.both,h.dir,h.dw,h.sw,h.cw,h.ne,fun x hx=>?_⟩
   rcases List.mem_or_eq_of_mem_set hx with hx | rfl
   ·have:=h.files x hx; rw[Nat.succ_mul]; omega
   ·have:=rV h.files f
    show((dP s f).1++b).length≤_
    rw[List.length_append,Nat.succ_mul]; omega
theorem dD.sync {s:aT} {i:Nat} (h:dD D s i) (n:Nm) : dD D (kw s n).1 (i + 1):=by
 unfold kw
 split
 ·exact h.mono
 ·rename_i f hf
  refine⟨h.q0,h.q1,by rw[List.length_set]; exact Nat.le_succ_of_le h.fl,Nat.le_succ_of_le h.both,h.dir,h.dw,h.sw,h.cw,h.ne,fun x hx=>?_⟩
  rcases List.mem_or_eq_of_mem_set hx with hx | rfl
  ·have:=h.files x hx; rw[Nat.succ_mul]; omega
  ·have:=rV h.files f
   show(dP s f).1.length≤_
   rw[Nat.succ_mul]; omega
theorem dD.rename {s:aT} {i:Nat} (h:dD D s i) (n to:Nm) : dD D (jm s n to).1 (i + 1):=by
 unfold jm
 split
 ·exact h.mono
 ·split
  ·exact h.mono
  ·rename_i hg
   exact h.jL (DL hg) (fun _=>wI hg)
theorem dD.remove {s:aT} {i:Nat} (h:dD D s i) (n:Nm) : dD D (iN s n).1 (i + 1):=by
 unfold iN
 split
 ·exact h.mono
 ·exact h.jL (by simp) (fun hc=>absurd rfl hc)
theorem dD.BJ {s:aT} {i:Nat} (h:dD D s i) : dD D (fZ s) (i + 1) :=
 ⟨h.q0,h.q1,Nat.le_succ_of_le h.fl,by have:=h.dl; simp only[fZ,List.length_nil]; omega,rfl,h.dw,h.dw,by simp[fZ],by simp[fZ],fun f hf=>by have:=h.files f hf; rw[Nat.succ_mul]; omega⟩
theorem oD (d:Dir) (p:List Int) : ∀ (l:List Nm) (i:Nat) (fs:List fT),(gm d p l i fs).length=fs.length
 | [],_,_=>rfl
 | n :: l,i,fs=>by
   unfold gm
   rw[oD d p l]
   split
   ·simp[yV]
   ·rfl
theorem dD.Gz {s:aT} {i:Nat} (h:dD D s i) (p:List Int) : dD D (mO s p) (i + 1):=by
 have hl:=su (s.chg.take (bF p 0 (s.chg.length + 1))) s.aS
 have hw:iE (bJ s p):=Bn _ h.sw (fun c hc=>h.cw c (List.mem_of_mem_take hc))
 have hb:=h.both
 rw[List.length_take] at hl
 refine⟨h.q0,h.q1, ?_, ?_,rfl,hw,hw,by simp[mO],by simp[mO], ?_⟩
 ·show(gm _ _ _ _ _).length≤_
  rw[oD]; exact Nat.le_succ_of_le h.fl
 ·show(bJ s p).length + 0≤i + 1
  unfold bJ; omega
 ·intro f hf
  have:=sD (bJ s p) p (gy (aA (bJ s p))) 1 h.files f hf
  rw[Nat.succ_mul]; omega
theorem dD.aJ {s:aT} {i:Nat} (h:dD D s i) {n:Int} (hn:n<9223372036854775808) : dD D (uX s n) (i + 1) :=
 ⟨by show 0≤(if 0 > n then 0 else n); split <;> omega,by show(if 0 > n then 0 else n)<_; split <;> omega,h.mono.fl,h.mono.both,h.dir,h.dw,h.sw,h.cw,h.ne,h.mono.files⟩
def uJ (r:dH) (n:Int) : dH := { r with aJ:=if n<0 then 0 else n }
theorem KT {s:aT} {r:dH} (h:bU s r) (n:Int) : bU (uX s n) (uJ r n) :=
 ⟨h.files,h.dir,h.aS,h.nd,h.nds,h.full,h.wC,h.chg,h.fold,rfl,h.app,h.syn⟩
theorem LW (q:Int) : bU (kG q) (Gv q) :=
 ⟨rfl,⟨.refl _,.nil⟩,⟨.refl _,.nil⟩,by simp[kG,aA],by simp[kG,aA],by simp[kG,aA],by simp[kG,aA],trivial,rfl,rfl,rfl,rfl⟩
theorem NQ {q:Int} (h0:0≤q) (h1:q<9223372036854775808) : dD D (kG q) 0 :=
 have hw:iE []:=⟨by decide,by decide⟩
 ⟨h0,h1,Nat.le_refl _,Nat.le_refl _,rfl,hw,hw,by simp[kG],by simp[kG],by simp[kG]⟩
section
variable {TD TF TU TC TR TV TI TK:Nat} {own own' bH gz:aH} {M M' M0:RM} {db rb:Nat} {s:aT} {r:dH}
theorem bn.other (h:bn TD TF TU TC own M db s) (t:Tr bH M gz M') (ha:∀ b,own b=none∨bH b=none) : bn TD TF TU TC own M' db s:=by
 obtain⟨fbs,nm,sm,cv,h⟩:=h
 obtain⟨bs,h1,h2,_⟩:=t
 have no:∀ b∈bs,own b=none:=fun b hb=>(ha b).resolve_right (h2 b hb)
 have nt:∀ (t:Tag),∀ b∈bs,own b≠some t:=fun t b hb=>by rw[no b hb]; simp
 refine⟨fbs,nm,sm,cv,fun b hb=>Nat.lt_of_lt_of_le (h.lt b hb) h1.next,h.od,h1.bC h.row (h.lt _ (by rw[h.od]; simp)) (fun hm=>nt .disk _ hm h.od),h.names.step h1 (nt _) (fun _ h=>h),h.safe.step h1 (nt _) (fun _ h=>h),
  h.chg.step h1 (nt _) (fun _ h=>h),h.files.step h1 (fun b hb i=>⟨nt _ b hb,nt _ b hb⟩) (fun _ _ _=>rfl)⟩
theorem FQ {fbs:List Nat} {cl:Nat} : ∀ {es:List (AV × AV × Nat)} {d:Dir} {lo:Nat},dS fbs cl lo es d→∀ e∈d,e.2<fbs.length
 | [],[],_,_,e,he=>by cases he
 | _ :: es,x :: d,_,⟨_,⟨b,h2,_⟩,_,_,h6⟩,e,he=>by
   rcases List.mem_cons.1 he with rfl | he
   ·exact(List.getElem?_eq_some_iff.1 h2).1
   ·exact FQ h6 e he
theorem bn.xL (h:bn TD TF TU TC own M db s) : ∀ e∈s.dir,e.2<s.files.length:=by
 obtain⟨fbs,nm,sm,cv,h⟩:=h
 obtain⟨es,cl,_,he⟩:=h.names.heap
 rw[← h.files.len]
 exact FQ he
theorem bn.low (h:bn TD TF TU TC own M db s) : ∀ b,own b≠none→b<M.next:=let ⟨_,_,_,_,h⟩:=h; h.lt
theorem iJ.low (h:iJ TR TU TV TI TK own M rb r) : ∀ b,own b≠none→b<M.next:=let ⟨_,_,_,_,_,h⟩:=h; h.p.lt
theorem ol {own:aH} (lt:∀ b,own b≠none→b<M.next) {b:Nat} (hb:M.next≤b) : own b=none:=by
 rcases h:own b with _ | t
 ·rfl
 ·have:=lt b (by rw[h]; simp); omega
structure Both (TD TF TU TC TR TV TI TK:Nat) (M0:RM) (own bH:aH) (M:RM) (db rb:Nat) (s:aT) (r:dH) : Prop where
 d:bn TD TF TU TC own M db s
 r:iJ TR TU TV TI TK bH M rb r
 apart:∀ b,own b=none∨bH b=none
 old:af [] M0 M
 EC:∀ b,b<M0.next→own b=none
 Bg:∀ b,b<M0.next→bH b=none
variable {s' : aT} {r' : dH}
theorem Ja (k:af [] M0 M) (ho:∀ b,b<M0.next→own b=none) (t:Tr own M own' M') : af [] M0 M':=F8 k ho t
theorem Both.keep (h:Both TD TF TU TC TR TV TI TK M0 own bH M db rb s r) (k:af [] M M') : Both TD TF TU TC TR TV TI TK M0 own bH M' db rb s r :=
 ⟨h.d.keep k,h.r.keep k,h.apart,h.old.trans k,h.EC,h.Bg⟩
theorem Both.first(h:Both TD TF TU TC TR TV TI TK M0 own bH M db rb s r) (d:bn TD TF TU TC own' M' db s') (t:Tr own M own' M') : Both TD TF TU TC TR TV TI TK M0 own' bH M' db rb s' r :=
 ⟨d,h.r.tr t h.apart,fun b=>by
    rcases h.apart b with h1 | h1
    ·by_cases h2:bH b=none
     ·exact .inr h2
     ·exact .inl (t.none (h.r.low b h2) h1)
    ·exact .inr h1,Ja h.old h.EC t,fun b hb=>t.none (Nat.lt_of_lt_of_le hb h.old.next) (h.EC b hb),h.Bg⟩
theorem Both.second (h:Both TD TF TU TC TR TV TI TK M0 own bH M db rb s r) (d:iJ TR TU TV TI TK gz M' rb r') (t:Tr bH M gz M') : Both TD TF TU TC TR TV TI TK M0 own gz M' db rb s r' :=
 ⟨h.d.other t h.apart,d,fun b=>by
   rcases h.apart b with h1 | h1
   ·exact .inl h1
   ·by_cases h2:own b=none
    ·exact .inl h2
    ·exact .inr (t.none (h.d.low b h2) h1),Ja h.old h.Bg t,h.EC,fun b hb=>t.none (Nat.lt_of_lt_of_le hb h.old.next) (h.Bg b hb)⟩
theorem Both.out (h:Both TD TF TU TC TR TV TI TK M0 own bH M db rb s r) {bs:List Nat} (k:af bs M M') (h1:∀ b∈bs,own b=none∧bH b=none∧M0.next≤b) : Both TD TF TU TC TR TV TI TK M0 own bH M' db rb s r:=by
 have ho:∀ b∈bs,(fun b=>if b∈bs then some Tag.disk else none:aH) b≠none:=fun b hb=>by simp[hb]
 have t:Tr (fun b=>if b∈bs then some Tag.disk else none:aH) M (fun b=>if b∈bs then some Tag.disk else none) M':=⟨bs,k,ho,fun _ _ h=>h⟩
 refine⟨h.d.other t fun b=>?_,h.r.tr t fun b=>?_,h.apart,h.old.dG k (fun c hc=>.inl (h1 c hc).2.2),h.EC,h.Bg⟩
 ·by_cases hb:b∈bs
  ·exact .inl (h1 b hb).1
  ·exact .inr (if_neg hb)
 ·by_cases hb:b∈bs
  ·exact .inr (h1 b hb).2.1
  ·exact .inl (if_neg hb)
structure xG (own bH:aH) (M:RM) (b:Nat) (z:RB) : Prop where
 heap:M.heap b=some z
 lt:b<M.next
 n1:own b=none
 n2:bH b=none
theorem xG.keep {b:Nat} {z:RB} (h:xG own bH M b z) (k:af [] M M') : xG own bH M' b z:=⟨k.bC h.heap h.lt (by simp),Nat.lt_of_lt_of_le h.lt k.next,h.n1,h.n2⟩
theorem xG.first {b:Nat} {z:RB} (h:xG own bH M b z) (t:Tr own M own' M') : xG own' bH M' b z :=
 ⟨by obtain⟨bs,h1,h2,_⟩:=t; exact h1.bC h.heap h.lt (fun hm=>h2 _ hm h.n1),Nat.lt_of_lt_of_le h.lt t.next,t.none h.lt h.n1,h.n2⟩
theorem xG.second {b:Nat} {z:RB} (h:xG own bH M b z) (t:Tr bH M gz M') : xG own gz M' b z :=
 ⟨by obtain⟨bs,h1,h2,_⟩:=t; exact h1.bC h.heap h.lt (fun hm=>h2 _ hm h.n2),Nat.lt_of_lt_of_le h.lt t.next,h.n1,t.none h.lt h.n2⟩
theorem sG (k:Nat) : (gK[k]?.getD []).length≤64:=by
 match k with
 | 0 | 1 | 2 | 3 | 4 | 5 | 6 | 7=>decide
 | k + 8 =>
   rw[List.getElem?_eq_none (by show 8≤k + 8; omega)]; simp
theorem lV {n:Int} {k k' : Nat} (h:Dv .i64 n 7=(k:Int)) (h' : Dv .i64 n 7=(k' : Int)) : k'=k:=by rw[h] at h'; omega
end
end Go.Ab.Dk
namespace Go.Ab.Dk
open Go Go.Ab
theorem KZ {M:RM} {v:AV} {l:List yF} (h:Sl mf M v l) {i:Nat} (hi:i<l.length) {K:AV→Prop} : (bD v (N .i64 (i:Int)) 6 fun p=>fP M p 6 K)=K (.agg (mf.cells l[i])):=by
 obtain⟨b,o,_,_,hidx,hld⟩:=Sl.at (E:=mf) h 6 (i:Int) hi rfl rfl
 rw[hidx,mF,hld]
 simp
def AJ (D:Nat) (M:RM) (a:yF) : Prop:=a.2.1.length≤D∧a.1.2.2.2<9223372036854775808∧∃ p,Sl INT M a.2.2.1 p∧rQ a.2.2.1∧p.length≤1000000000
variable {TD TF TU TC TS TR TV TI TK:Nat}
def MS (D:Nat) (c:ay) : Prop:=∀ {M:RM} {q:Int} {v:AV} {l:List yF} {Q:aj},D≤1048576→Sl mf M v l→q<9223372036854775808→(∀ a∈l,AJ D M a)→(∀ M',Q (Bo true) M')→c [N .i64 q,v] M Q
theorem Hg {D TA:Nat} {ca cN crN cn cC crC cA crA cS crS cRn MU cRm LH cSD MR cX crX cQ cI:ay} (ha:AR ca) (hN:Gd TD TF TU TC cN) (hrN:GU TR TU TV TI TK crN) (hn:H7 cn)
  (hC:BQ TD TF TU TC dE cC) (hrC:BL TR TU TV TI TK lK crC) (hA:wD TD TF TU TC cA) (hrA:xQ TR TU TV TI TK crA) (hS:CU TD TF TU TC cS) (hrS:DF TR TU TV TI TK crS)
  (hRn:vO TD TF TU TC cRn) (O7:zB TR TU TV TI TK MU) (hRm:BQ TD TF TU TC iN cRm) (Ot:BL TR TU TV TI TK l7 LH) (hSD:sS TD TF TU TC cSD) (OB:vI TR TU TV TI TK MR)
  (hX:zS TD TF TU TC cX) (hrX:BG TR TU TV TI TK crX) (hQu:zY TD TF TU TC cQ) (hI:Mx TD TF TU TC TR TV TI TK cI) :
  MS D fun args M Q=>∃ a0 a1,args=[a0,a1]∧jy ca cN crN TA cn cC crC TU cA crA cS crS cRn MU cRm LH cSD MR TI cX crX cQ cI a0 a1 M Q:=by
 intro Mz q v l Q hD hvz hq OP hQ
 refine⟨_,_,rfl, ?_⟩
 unfold jy
 simp only[rJ,nU]
 refine ha fun M0 k0=>?_
 have hv:Sl mf M0 v l:=aP.keep hvz k0 (by simp)
 have hok:∀ a∈l,AJ D M0 a:=fun a h=>by
  obtain⟨h1,h2,p,h3,h4,h5⟩:=OP a h
  exact⟨h1,h2,p,aP.keep h3 k0 (by simp),h4,h5⟩
 rw[jW,Bool.not_true,fE]
 refine hN (fun hneg=>?_) (fun hnn own M1 db d0 o0 k1=>?_)
 ·rw[mq,nO,dN,decide_eq_true hneg,jd,bz]
  refine fo (p:=true) (fun _ k hk=>?_) (hQ _)
  rw[dQ]; exact hk
 rw[mq,nO,dN,decide_eq_false hnn,fE,vG]
 refine yY (p:=false) (fun _ k hk=>by rw[dJ]; exact hk) ?_
 refine yY (p:=decide (l.length > 60)) (fun _ k hk=>?_) ?_
 ·have:Sl mf M1 v l:=aP.keep hv k1 (by simp)
  rw[aP.len this,show(N .i64 (60:Int))=N .i64 ((60:Nat) : Int) from rfl,Pm]; exact hk
 refine bN (fun _=>?_) (fun hc=>?_)
 ·rw[bz]; exact hQ _
 have hlen:l.length≤60:=by
  have:¬ l.length > 60:=by simpa using hc
  omega
 refine hrN fun bH M2 rb r0 o2 k2=>?_
 have b0:Both TD TF TU TC TR TV TI TK M0 own bH M2 db rb (kG q) (Gv q):=⟨d0.keep k2,r0,fun b=>by
  rcases Nat.lt_or_ge b M1.next with h | h
  ·exact .inr (o2 b h)
  ·exact .inl (ol d0.low h),k1.trans k2,o0,fun b hb=>o2 b (Nat.lt_of_lt_of_le hb k1.next)⟩
 refine dX (fun z ys M3=>∃ (i:Nat) (own bH:aH) (s:aT) (r:dH),z=l.length - i∧ys=[N .i64 (i:Int)]∧i≤l.length∧Both TD TF TU TC TR TV TI TK M0 own bH M3 db rb s r∧bU s r∧dD D s i) l.length
  ⟨0,own,bH,_,_,rfl,rfl,Nat.zero_le _,b0,LW q,NQ (by omega) hq⟩ ?_
 clear b0 r0 d0 o0 o2 k1 k2 own bH M1 M2
 rintro next z ys M3 hnext ⟨i,own,bH,s,r,rfl,rfl,hil,bo,sd,inv⟩
 dsimp only[aG]
 have hv3:Sl mf M3 v l:=aP.keep hv bo.old (by simp)
 rw[aP.len hv3,l9]
 refine bN (fun hlt=>?_) (fun hge=>hQ _)
 have hlt:i<l.length:=of_decide_eq_true hlt
 refine iY (fun zs M'=>∃ (own bH:aH) (s:aT) (r:dH),Both TD TF TU TC TR TV TI TK M0 own bH M' db rb s r∧bU s r∧dD D s (i + 1)) ?_ ?_
 ·rintro zs M4 ⟨own',gz,s',r',bo',sd',Bb⟩
  rw[add1 (by omega)]
  exact hnext _ _ _ (by omega) ⟨i + 1,own',gz,s',r',rfl,rfl,by omega,bo',sd',Bb⟩
 intro Jo hJo
 rw[KZ hv3 hlt,aY,kZ (n:=6) (RM.bi _) (by rw[vL,mf.len]; rfl) rfl (by rw[vL]; exact mf.one _),vL]
 obtain⟨hdata,hnb,p,hp,hpc,hpl⟩:=hok l[i] (List.getElem_mem hlt)
 obtain⟨op,a,b,n,data,pk,hact⟩ : ∃ op a b n data pk,l[i]=(((op,a,b,n),(data,pk)) : yF):=⟨_,_,_,_,_,_,rfl⟩
 have c9:mf.cells l[i]=[N .i64 op,N .i64 a,N .i64 b,N .i64 n,St data,pk.1]:=by rw[hact]; rfl
 rw[hact] at hdata hnb hp hpc
 dsimp only at hdata hnb hp hpc
 rw[c9]
 have k9:af [] M3 ((M3.push (.row [N .i64 0,N .i64 0,N .i64 0,N .i64 0,St [],aR] false TA 0)).put M3.next (.row [N .i64 op,N .i64 a,N .i64 b,N .i64 n,St data,pk.1] false TA 0)):=((af.refl _ _).push _).put _ (.inl (Nat.le_refl _))
 have h9:xG own bH ((M3.push (.row [N .i64 0,N .i64 0,N .i64 0,N .i64 0,St [],aR] false TA 0)).put M3.next (.row [N .i64 op,N .i64 a,N .i64 b,N .i64 n,St data,pk.1] false TA 0)) M3.next (.row [N .i64 op,N .i64 a,N .i64 b,N .i64 n,St data,pk.1] false TA 0) :=
  ⟨aZ _,by rw[EF,aU]; omega,ol bo.d.low (Nat.le_refl _),ol bo.r.low (Nat.le_refl _)⟩
 have bo:=bo.keep k9
 generalize (M3.push (.row [N .i64 0,N .i64 0,N .i64 0,N .i64 0,St [],aR] false TA 0)).put M3.next (.row [N .i64 op,N .i64 a,N .i64 b,N .i64 n,St data,pk.1] false TA 0)=M5 at *
 generalize M3.next=b9 at *
 clear hv3 k9
 -- what holds of both
 have hwf:∀ e∈r.dir,e.2<r.files.length:=fun e he=>by rw[sd.files]; exact bo.d.xL e (sd.dir.1.mem_iff.1 he)
 have hdl:=inv.dl
 have hdr:r.dir.length=s.dir.length:=sd.dir.1.length_eq
 have hsr:r.aS.length=s.aS.length:=sd.aS.1.length_eq
 have hcr:r.chg.length=s.chg.length:=sd.chg.len.symm
 have hfr:r.files.length=s.files.length:=by rw[sd.files]
 have hbt:=inv.both
 have hfb:=inv.fl
 have hiD:i * D≤60 * 1048576:=Nat.mul_le_mul (by omega) hD
 have hfl:∀ f∈s.files,f.1.length≤62914560:=fun f hf=>Nat.le_trans (inv.files f hf) hiD
 have htl:tot s.files s.dir≤60 * 62914560:=Nat.le_trans (Dr hfl s.dir) (Nat.mul_le_mul_right _ (by omega))
 have htr:tot r.files r.dir≤60 * 62914560:=by rw[sd.tot]; exact htl
 have hfo:=bo.d.le
 refine iY (fun zs M'=>∃ (e:Int) (own bH:aH) (s:aT) (r:dH),zs=[N .i64 e,N .i64 e]∧Both TD TF TU TC TR TV TI TK M0 own bH M' db rb s r∧bU s r∧dD D s (i + 1)) ?_ ?_
 ·rintro zs M6 ⟨e,own',gz,s',r',rfl,bo',sd',Bb⟩
  dsimp only[aG]
  rw[vG]
  simp only[kP]
  have Pz:∀ e∈r'.dir,e.2<r'.files.length:=fun e he=>by rw[sd'.files]; exact bo'.d.xL e (sd'.dir.1.mem_iff.1 he)
  have hdl':=Bb.dl
  have OM:(i + 1) * D≤60 * 1048576:=Nat.mul_le_mul (by omega) hD
  have A8:∀ f∈s'.files,f.1.length≤62914560:=fun f hf=>Nat.le_trans (Bb.files f hf) OM
  have htl' : tot s'.files s'.dir≤60 * 62914560:=Nat.le_trans (Dr A8 s'.dir) (Nat.mul_le_mul_right _ (by omega))
  refine hI bo'.d bo'.r sd' (by omega) Bb.dw (by omega) (fun f hf=>by have:=A8 f hf; omega) Pz fun M7 k7=>?_
  rw[jW,Bool.not_true,Go.Ab.bF,fE]
  exact hJo _ _ ⟨own',gz,s',r',bo'.keep k7,sd',Bb⟩
 intro J hJ
 rw[ae,ag (i:=0 + 0) (x:=N .i64 op) h9.heap rfl,bz]
 refine bN (fun _=>?_) (fun _=>?_)
 ·
  rw[ae,ag (i:=0 + 1) (x:=N .i64 a) h9.heap rfl]
  refine hn fun k hk hka M6 k6=>?_
  have h9:=h9.keep k6
  have bo:=bo.keep k6
  refine hC bo.d (by omega) fun own' M7 d7 t7=>?_
  have h9:=h9.first t7
  have bo:=bo.first d7 t7
  rw[ae,ag (i:=0 + 1) (x:=N .i64 a) h9.heap rfl]
  refine hn fun k' hk' sN M8 k8=>?_
  obtain rfl:=lV hka sN
  have bo:=bo.keep k8
  have hns:=sG k'
  refine hrC bo.r (by omega) (by omega) hwf (by omega) (by omega) fun gz M9 r9 t9=>?_
  obtain⟨sm,se⟩:=sd.create (gK[k']?.getD [])
  rw[se]
  exact hJ _ _ ⟨_,_,_,_,_,rfl,bo.second r9 t9,sm,inv.create _⟩
 rw[bz]
 refine bN (fun _=>?_) (fun _=>?_)
 ·
  rw[ae,ag (i:=0 + 4) (x:=St data) h9.heap rfl,uq,aY]
  have k6:af [] M5 (M5.push (.row (BY.row data) true TU 0)):=(af.refl _ _).push _
  have o6:Ow BY (M5.push (.row (BY.row data) true TU 0)) M5.next TU (.slc M5.next 0 data.length (.op 1)) data:=.op M5.next data.length _ (Nat.le_refl _) (by rw[aU]; omega) (RM.bi _) (BY.dY _)
  generalize M5.push (.row (BY.row data) true TU 0)=M6 at *
  rw[nP (x:=N .u8 (7:Int)) (size:=1) rfl rfl rfl,aY]
  refine jY (E:=BY) (a:=(7:UInt8)) o6 k6.next (by decide) (by omega) (by omega) fun w M7 o7 k7 n7 hw7=>?_
  have k57:af [] M5 M7:=k6.dG k7 (fun c hc=>.inl (Own.blk o6 c hc).1)
  have bo7:=bo.keep k57
  have h97:=h9.keep k57
  have hw1:∀ c∈az w,own c=none∧bH c=none∧M0.next≤c:=fun c hc=>by
   have h1:=(Own.blk o7 c hc).1
   exact⟨ol bo.d.low h1,ol bo.r.low h1,Nat.le_trans bo.old.next h1⟩
  obtain⟨u,eu,hu,hub⟩:=KP (E:=BY) o7 (k:=data.length) (by simp)
  rw[List.take_left] at hu
  rw[ae,ag (i:=0 + 1) (x:=N .i64 a) h97.heap rfl,ae,ag (i:=0 + 4) (x:=St data) h97.heap rfl,kN]
  refine⟨u,eu, ?_⟩
  refine hn fun k hk hka M8 k8=>?_
  have h98:=h97.keep k8
  have bo8:=bo7.keep k8
  rw[ag (i:=0 + 4) (x:=St data) h98.heap rfl]
  refine⟨rfl,u,eu,rfl, ?_⟩
  have hu8:Sl BY M8 u data:=aP.keep hu k8 (by simp)
  have o8:Ow BY M8 M5.next TU w (data++[7]):=Own.keep o7 k8 (by simp)
  refine hA bo8.d hu8 (by omega) inv.q0 inv.q1 (fun f hf=>by have:=hfl f hf; omega) fun own' M9 d9 t9=>?_
  have h99:=h98.first t9
  have bo9:=bo8.first d9 t9
  rw[ae,ag (i:=0 + 1) (x:=N .i64 a) h99.heap rfl,ae,ag (i:=0 + 4) (x:=St data) h99.heap rfl,uq,qQ]
  have ka:af [] M9 (M9.push (.row (BY.row data) true TU 0)):=(af.refl _ _).push _
  have na:(M9.push (.row (BY.row data) true TU 0)).next=M9.next + 1:=aU _
  have ra:(M9.push (.row (BY.row data) true TU 0)).heap M9.next=some (.row (BY.row data) true TU 0):=RM.bi _
  have sa:Sl BY (M9.push (.row (BY.row data) true TU 0)) (.slc M9.next 0 data.length (.op 1)) data:=Lg data
  generalize M9.push (.row (BY.row data) true TU 0)=Ma at *
  refine hn fun k' hk' sN Mb kb=>?_
  obtain rfl:=lV hka sN
  have h9b:=(h99.keep ka).keep kb
  have bob:=(bo9.keep ka).keep kb
  rw[ag (i:=0 + 4) (x:=St data) h9b.heap rfl]
  refine⟨rfl, ?_⟩
  rw[uq]
  refine⟨⟨kb.bC ra (by omega) (by simp),rfl⟩, ?_⟩
  have sb:Sl BY Mb (.slc M9.next 0 data.length (.op 1)) data:=aP.keep sa kb (by simp)
  refine hrA bob.r sb hwf (by omega) (by omega) (by rw[sd.aJ]; exact inv.q0) (by rw[sd.aJ]; exact inv.q1) (fun f hf=>by rw[sd.files] at hf; have:=hfl f hf; omega) fun gz Mc rc tc=>?_
  obtain⟨sm,se⟩:=sd.append (gK[k']?.getD []) data
  have boc:=bob.second rc tc
  -- the law's own bytes are overwritten
  have hw9:∀ c∈az w,c<M8.next:=fun c hc=>(Own.blk o8 c hc).2
  have hwn:∀ c∈az w,own' c=none∧gz c=none∧M0.next≤c:=fun c hc=>by
   obtain⟨q1,q2,q3⟩:=hw1 c hc
   have l8:=hw9 c hc
   exact⟨t9.none l8 q1,tc.none (Nat.lt_of_lt_of_le l8 (Nat.le_trans t9.next (Nat.le_trans ka.next kb.next))) q2,q3⟩
  have o9:Ow BY M9 M5.next TU w (data++[7]):=by
   obtain⟨bs,q1,q2,_⟩:=t9
   exact Own.keep o8 q1 (fun c hc hm=>q2 c hm (hw1 c hc).1)
  have ob:Ow BY Mb M5.next TU w (data++[7]):=Own.keep (Own.keep o9 ka (by simp)) kb (by simp)
  have oc:Ow BY Mc M5.next TU w (data++[7]):=by
   obtain⟨bs,q1,q2,_⟩:=tc
   exact Own.keep ob q1 (fun c hc hm=>q2 c hm (hw1 c hc).2.1)
  refine Ck (c:=1) rfl oc (by simp; omega) fun Md kd=>?_
  rw[se]
  exact hJ _ _ ⟨_,_,_,_,_,rfl,boc.out kd hwn,sm,inv.append _ hdata⟩
 rw[bz]
 refine bN (fun _=>?_) (fun _=>?_)
 ·
  rw[ae,ag (i:=0 + 1) (x:=N .i64 a) h9.heap rfl]
  refine hn fun k hk hka M6 k6=>?_
  have h9:=h9.keep k6
  have bo:=bo.keep k6
  refine hS bo.d fun own' M7 d7 t7=>?_
  have h9:=h9.first t7
  have bo:=bo.first d7 t7
  rw[ae,ag (i:=0 + 1) (x:=N .i64 a) h9.heap rfl]
  refine hn fun k' hk' sN M8 k8=>?_
  obtain rfl:=lV hka sN
  have bo:=bo.keep k8
  refine hrS bo.r hwf (by omega) fun gz M9 r9 t9=>?_
  obtain⟨sm,se⟩:=sd.sync (gK[k']?.getD [])
  rw[se]
  exact hJ _ _ ⟨_,_,_,_,_,rfl,bo.second r9 t9,sm,inv.sync _⟩
 rw[bz]
 refine bN (fun _=>?_) (fun _=>?_)
 ·
  rw[ae,ag (i:=0 + 1) (x:=N .i64 a) h9.heap rfl,ae,ag (i:=0 + 2) (x:=N .i64 b) h9.heap rfl]
  refine hn fun k hk hka M6 k6=>?_
  have h9:=h9.keep k6
  have bo:=bo.keep k6
  rw[ag (i:=0 + 2) (x:=N .i64 b) h9.heap rfl]
  refine⟨rfl, ?_⟩
  refine hn fun j hj hjb M7 k7=>?_
  have h9:=h9.keep k7
  have bo:=bo.keep k7
  refine hRn bo.d (by omega) fun own' M8 d8 t8=>?_
  have h9:=h9.first t8
  have bo:=bo.first d8 t8
  rw[ae,ag (i:=0 + 1) (x:=N .i64 a) h9.heap rfl,ae,ag (i:=0 + 2) (x:=N .i64 b) h9.heap rfl]
  refine hn fun k' hk' sN M9 k9=>?_
  obtain rfl:=lV hka sN
  have h9:=h9.keep k9
  have bo:=bo.keep k9
  rw[ag (i:=0 + 2) (x:=N .i64 b) h9.heap rfl]
  refine⟨rfl, ?_⟩
  refine hn fun j' hj' hjb' Ma ka=>?_
  obtain rfl:=lV hjb hjb'
  have bo:=bo.keep ka
  have hns:=sG j'
  refine O7 bo.r (by omega) (by omega) (by omega) fun gz Mb rb' tb=>?_
  obtain⟨sm,se⟩:=sd.rename (gK[k']?.getD []) (gK[j']?.getD [])
  rw[se]
  exact hJ _ _ ⟨_,_,_,_,_,rfl,bo.second rb' tb,sm,inv.rename _ _⟩
 rw[bz]
 refine bN (fun _=>?_) (fun _=>?_)
 ·
  rw[ae,ag (i:=0 + 1) (x:=N .i64 a) h9.heap rfl]
  refine hn fun k hk hka M6 k6=>?_
  have h9:=h9.keep k6
  have bo:=bo.keep k6
  refine hRm bo.d (by omega) fun own' M7 d7 t7=>?_
  have h9:=h9.first t7
  have bo:=bo.first d7 t7
  rw[ae,ag (i:=0 + 1) (x:=N .i64 a) h9.heap rfl]
  refine hn fun k' hk' sN M8 k8=>?_
  obtain rfl:=lV hka sN
  have bo:=bo.keep k8
  have hns:=sG k'
  refine Ot bo.r (by omega) (by omega) hwf (by omega) (by omega) fun gz M9 r9 t9=>?_
  obtain⟨sm,se⟩:=sd.remove (gK[k']?.getD [])
  rw[se]
  exact hJ _ _ ⟨_,_,_,_,_,rfl,bo.second r9 t9,sm,inv.remove _⟩
 rw[bz]
 refine bN (fun _=>?_) (fun _=>?_)
 ·
  refine hSD bo.d fun own' M6 d6 t6=>?_
  have bo:=bo.first d6 t6
  refine OB bo.r (by omega) fun gz M7 r7 t7=>?_
  exact hJ _ _ ⟨0,_,_,_,_,rfl,bo.second r7 t7,sd.BJ,inv.BJ⟩
 rw[bz]
 refine bN (fun _=>?_) (fun _=>?_)
 ·
  rw[tH,aY]
  have k6:af [] M5 (M5.push (.row [] false TI 0)):=(af.refl _ _).push _
  have o6:Ow INT (M5.push (.row [] false TI 0)) M5.next TI (.slc M5.next 0 0 (.ex 0)) []:=Ow.lit INT M5
  generalize M5.push (.row [] false TI 0)=M6 at *
  have h96:=h9.keep k6
  have hp5:Sl INT M5 pk.1 p:=aP.keep hp bo.old (by simp)
  have hp6:Sl INT M6 pk.1 p:=aP.keep hp5 k6 (by simp)
  rw[ae,ag (i:=0 + 5) (x:=pk.1) h96.heap rfl]
  refine jq (E:=INT) o6 k6.next (by decide) hp6 (by simp only[List.length_nil]; omega) (by simp only[List.length_nil]; omega) fun w M7 o7 k7 n7 hw7=>?_
  rw[List.nil_append] at o7
  have k57:af [] M5 M7:=k6.dG k7 (fun c hc=>.inl (Own.blk o6 c hc).1)
  have bo7:=bo.keep k57
  have h97:=h9.keep k57
  refine hX bo7.d (Own.jk o7) (fun c hc=>ol bo.d.low (Own.blk o7 c hc).1) (by omega) (by omega) inv.sw inv.cw (fun f hf=>by have:=hfl f hf; omega) fun own' M8 d8 t8=>?_
  have h98:=h97.first t8
  have bo8:=bo7.first d8 t8
  have sm:=sd.Gz inv.ne p
  have hcf:(mO s p).files.length=s.files.length:=oD _ _ _ _ _
  have hcw:∀ e∈jr r p,e.2<r.files.length:=fun e he=>by
   have:=d8.xL e (sm.dir.1.mem_iff.1 he)
   rw[hfr]; omega
  have hp8:Sl INT M8 pk.1 p:=aP.keep hp bo8.old (by simp)
  rw[ae,ag (i:=0 + 5) (x:=pk.1) h98.heap rfl]
  refine hrX bo8.r hp8 hpc (fun c hc=>bo8.Bg c (aP.lt hp c hc)) (by omega) (by omega) hcw (fun f hf=>by rw[sd.files] at hf; have:=hfl f hf; have:=hfo f hf; omega) fun gz M9 r9 t9=>?_
  exact hJ _ _ ⟨0,_,_,_,_,rfl,bo8.second r9 t9,sm,inv.Gz p⟩
 ·
  rw[ae,ag (i:=0 + 3) (x:=N .i64 n) h9.heap rfl]
  refine hQu bo.d fun own' M6 d6 t6=>?_
  have h9:=h9.first t6
  have bo:=bo.first d6 t6
  obtain⟨fv,sv,dv,gv,cv,g⟩:=id bo.r
  have hnb9:b9≠rb:=fun e=>by
   have h1:=h9.n2
   rw[e,g.od] at h1; cases h1
  rw[ae,ag (i:=0 + 3) (x:=N .i64 n) h9.heap rfl,ah,ae,bA (i:=0 + 5) (bY { av r with aJ:=n } fv sv dv gv cv) g.row (by simp[bY]) rfl rfl rfl]
  obtain⟨g7,t7⟩:=fU.put (TR:=TR) (y := { av r with aJ:=n }) g.od (g.p.DC n r.app r.syn)
  generalize M6.put rb (.row (bY { av r with aJ:=n } fv sv dv gv cv) false TR 0)=M7 at *
  have h97:=h9.second t7
  have bo7:=bo.second (r' := { r with aJ:=n }) ⟨_,_,_,_,_,g7⟩ t7
  rw[ae,ag (i:=0 + 3) (x:=N .i64 n) h97.heap rfl,dN]
  refine bN (fun hneg=>?_) (fun hneg=>?_)
  ·have hneg:n<0:=of_decide_eq_true hneg
   rw[ah,ae,bA (i:=0 + 5) (bY { av r with aJ:=0 } fv sv dv gv cv) g7.row (by simp[bY]) rfl rfl rfl]
   obtain⟨g8,t8⟩:=fU.put (TR:=TR) (y := { av r with aJ:=0 }) g7.od (g7.p.DC 0 r.app r.syn)
   have e:uJ r n = { r with aJ:=0 } := by unfold uJ; rw[if_pos hneg]
   have bo8:=bo7.second (r' := { r with aJ:=0 }) ⟨_,_,_,_,_,g8⟩ t8
   rw[← e] at bo8
   exact hJ _ _ ⟨0,_,_,_,_,rfl,bo8,KT sd n,inv.aJ hnb⟩
  ·have hneg:¬ n<0:=of_decide_eq_false hneg
   have e:uJ r n = { r with aJ:=n } := by unfold uJ; rw[if_neg hneg]
   rw[← e] at bo7
   exact hJ _ _ ⟨0,_,_,_,_,rfl,bo7,KT sd n,inv.aJ hnb⟩
end Go.Ab.Dk
namespace Go.Ab
open Go Go.RowKit
inductive bW (B:Nat) (P:Program) (M:RM) : TypeId→List AV→Prop
 | bool (t:TypeId) (b:Bool) : P.underlying t=some .bool→bW B P M t [Bo b]
 | int (t:TypeId) (k:IntKind) (n:Int) : P.underlying t=some (.int k)→k.min≤n→n≤k.max→bW B P M t [N k n]
 | str (t:TypeId) (s:List UInt8) : P.underlying t=some .string→s.length≤B→bW B P M t [St s]
 | JK (t e:TypeId) : P.underlying t=some (.slice e)→bW B P M t [aR]
 | emp (t e:TypeId) (b:Nat) : P.underlying t=some (.slice e)→bW B P M t [.emp b]
 | slc (t e:TypeId) (b o n c:Nat) (cs:List AV) : P.underlying t=some (.slice e)→b<M.next→n≤c→n≤B→M.loads b o (n * P.cellsOf e)=some cs →
   (∀ i,i<n→bW B P M e ((cs.drop (i * P.cellsOf e)).take (P.cellsOf e)))→bW B P M t [.slc b o n (.ex c)]
 | struct (t:TypeId) (fs:Array Field) (cs:List AV) : P.underlying t=some (.struct fs)→cs.length=P.cellsOf t →
   (∀ (i:Nat) (f:Field),fs[i]?=some f→bW B P M f.type ((cs.drop f.offset).take (P.cellsOf f.type)))→bW B P M t cs
 | array (t e:TypeId) (n:Nat) (cs:List AV) : P.underlying t=some (.array n e)→cs.length=P.cellsOf t →
   (∀ i,i<n→bW B P M e ((cs.drop (i * P.cellsOf e)).take (P.cellsOf e)))→bW B P M t cs
 | other (t:TypeId) (cs:List AV) : qR (P.underlying t)=true→bW B P M t cs
 | zero (t e:TypeId) (cs:List AV) : P.underlying t=some (.slice e)→P.cellsOf e=0→bW B P M t cs
section
variable {H:Type} {enc:TypeId × Value→H} {P:Program} {base:Base} {w:World}
variable {bulk:DataW H→Nat} {B:Nat}
structure DV (bulk:DataW H→Nat) : Prop where
 str:∀ bs:List UInt8,bs.length≤bulk (.lit (.string bs))
 len:∀ es sp:List (DataW H),es.length≤bulk (.slice es sp)
 elem:∀ (es sp:List (DataW H)) d,d∈es→bulk d≤bulk (.slice es sp)
 spare:∀ (es sp:List (DataW H)) d,d∈sp→bulk d≤bulk (.slice es sp)
 agg:∀ (ps:List (DataW H)) d,d∈ps→bulk d≤bulk (.agg ps)
theorem CK (hB:DV bulk) (hn:base.n=w.heap.size) {held:Bool} : ∀ (fuel:Nat) (t:TypeId) (cs:List Value) (x:DataW H × List MemPlace),DataW.trod enc P w 0 (fun _=>true) held fuel t cs=some x →
  bulk x.1≤B→bW B P (RM.old base w) t (cs.map (kI base.n)):=by
 intro fuel
 induction fuel with
 | zero=>intro t cs x h; simp[DataW.trod] at h
 | succ m ih =>
   intro t cs x h hw
   cases hu:P.underlying t with
   | none=>exact .other _ _ (by rw[hu]; rfl)
   | some d =>
     cases d with
     | bool =>
       obtain⟨b,rfl,rfl⟩:=DataW.trod_bool hu h
       exact .bool t b hu
     | int k =>
       obtain⟨n,rfl,rfl,hwf⟩:=DataW.trod_int hu h
       simp only[Lit.wf,Bool.and_eq_true,decide_eq_true_eq] at hwf
       exact .int t k n hu hwf.1 hwf.2
     | string =>
       obtain⟨s,rfl,rfl,_⟩:=DataW.trod_string hu h
       exact .str t s.data.toList hu (Nat.le_trans (hB.str _) hw)
     | slice e =>
       rcases DataW.trod_slice hu h with⟨rfl,rfl⟩ | ⟨a,len,cap,elems,rest,n,hm,rfl,rfl,_,hlc,_,hel,hget,hrest,_⟩
       ·exact .JK t e hu
       ·cases hm
        rcases Nat.eq_zero_or_pos (P.cellsOf e) with hz | hz
        ·exact .zero t e _ hu hz
        rcases Nat.eq_zero_or_pos cap with hc | hc
        ·have hl0:len=0:=by omega
         subst hc hl0
         exact .emp t e 0 hu
        ·obtain⟨hr1,hr2⟩:=hrest rfl
         have every:∀ i,i<cap→∃ es y,w.cells? 0 (a.add (i * P.cellsOf e)) (P.cellsOf e)=some es∧DataW.trod enc P w 0 (fun _=>true) held m e es=some y∧(y∈elems∨y∈rest):=by
          intro i hi
          by_cases hil:i<len
          ·have h1:=hget i hil
           have h2:elems[i]?=some (elems[i]'(by omega)):=by simp[hel,hil]
           rw[h2] at h1
           obtain⟨es,e1,e2⟩:=Option.bind_eq_some_iff.1 h1
           exact⟨es,_,e1,e2,.inl (List.getElem_mem _)⟩
          ·have h1:=hr2 (i - len) (by omega)
           rw[show len + (i - len)=i by omega] at h1
           have h2:rest[i - len]?=some (rest[i - len]'(by omega)):=by
            rw[List.getElem?_eq_getElem]
           rw[h2] at h1
           obtain⟨es,e1,e2⟩:=Option.bind_eq_some_iff.1 h1
           exact⟨es,_,e1,e2,.inr (List.getElem_mem _)⟩
         obtain⟨es0,_,k0,_,_⟩:=every 0 hc
         obtain⟨kl0,kg0⟩:=nH k0
         have hc0:=kg0 0 hz
         rw[List.getElem?_eq_getElem (by omega)] at hc0
         obtain⟨c,el,fr,hh,hsp,_,_⟩:=cell?_at hc0
         obtain⟨b,o,sp⟩:=a
         rw[Nat.zero_mul,tO,tO] at hh hsp
         simp only at hh hsp
         subst hsp
         have hblt:b<base.n:=by rw[hn]; exact(Array.getElem?_eq_some_iff.1 hh).1
         have hlast:o + cap * P.cellsOf e≤c.size:=by
          obtain⟨es1,_,k1,_,_⟩:=every (cap - 1) (by omega)
          obtain⟨kl1,kg1⟩:=nH k1
          have hc1:=kg1 (P.cellsOf e - 1) (by omega)
          rw[List.getElem?_eq_getElem (by omega)] at hc1
          obtain⟨c',el',fr',hh',_,hlt,_⟩:=cell?_at hc1
          rw[df,df] at hh' hlt
          simp only at hh' hlt
          rw[hh] at hh'
          cases hh'
          have:cap * P.cellsOf e=(cap - 1) * P.cellsOf e + P.cellsOf e:=by
           rw[← Nat.succ_mul]; congr 1; omega
          omega
         have OW:kI base.n (.slice (some ⟨b,o,none⟩) len cap)=.slc b o len (.ex cap):=by
          obtain⟨cap,rfl⟩ : ∃ k,cap=k + 1:=⟨cap - 1,by omega⟩
          simp only[kI,if_pos hblt]
         have hcells:=RM.IK hblt hh
         have hle:len * P.cellsOf e≤cap * P.cellsOf e:=Nat.mul_le_mul_right _ hlc
         have hload:(RM.old base w).loads b o (len * P.cellsOf e)=some (((c.toList.map (kI base.n)).drop o).take (len * P.cellsOf e)):=by
          simp only[RM.loads,hcells]
          rw[if_pos (by simp; omega)]
         simp only[List.map_cons,List.map_nil,OW]
         refine .slc t e b o len cap _ hu hblt hlc ?_ hload fun i hi=>?_
         ·have:=hB.len (elems.map (·.1)) (rest.map (·.1))
          rw[List.length_map,hel] at this
          exact Nat.le_trans this hw
         ·obtain⟨es,y,k1,k2,k3⟩:=every i (by omega)
          have hlen:=(nH k1).1
          have hes:((((c.toList.map (kI base.n)).drop o).take (len * P.cellsOf e)).drop (i * P.cellsOf e)).take (P.cellsOf e)=es.map (kI base.n):=by
           have hii:i * P.cellsOf e + P.cellsOf e≤len * P.cellsOf e:=by rw[← Nat.succ_mul]; exact Nat.mul_le_mul_right _ hi
           apply List.ext_getElem?
           intro j
           by_cases hj:j<P.cellsOf e
           ·have hg:=(nH k1).2 j hj
            rw[List.getElem?_take,if_pos hj,List.getElem?_drop,List.getElem?_take,if_pos (by omega),List.getElem?_drop,List.getElem?_map,List.getElem?_map,← hg]
            rw[df,df]
            simp only[World.cell?,hh]
            rw[Array.getElem?_toList]
            simp[Nat.add_assoc]
           ·rw[List.getElem?_eq_none (by simp; omega),List.getElem?_eq_none (by simp; omega)]
          rw[hes]
          refine ih e es y k2 (Nat.le_trans ?_ hw)
          rcases k3 with k3 | k3
          ·exact hB.elem _ _ _ (List.mem_map_of_mem k3)
          ·exact hB.spare _ _ _ (List.mem_map_of_mem k3)
     | struct fs =>
       obtain⟨xs,n,hm,rfl,hl,hxl,hget⟩:=DataW.trod_struct hu h
       cases hm
       refine .struct t fs _ hu (by simpa using hl) fun i f hf=>?_
       have h1:=hget i f hf
       have hi:i<fs.size:=(Array.getElem?_eq_some_iff.1 hf).1
       rw[List.getElem?_eq_getElem (by omega)] at h1
       rw[← List.map_drop,← List.map_take]
       exact ih _ _ _ h1 (Nat.le_trans (hB.agg _ _ (List.mem_map_of_mem (List.getElem_mem _))) hw)
     | array n e =>
       obtain⟨xs,m',hm,rfl,hl,hxl,hget⟩:=DataW.trod_array hu h
       cases hm
       refine .array t e n _ hu (by simpa using hl) fun i hi=>?_
       have h1:=hget i hi
       rw[List.getElem?_eq_getElem (by omega)] at h1
       rw[← List.map_drop,← List.map_take]
       exact ih _ _ _ h1 (Nat.le_trans (hB.agg _ _ (List.mem_map_of_mem (List.getElem_mem _))) hw)
     | _=>exact .other _ _ (by rw[hu]; rfl)
end
section
variable {P:Program} {M:RM} {t:TypeId} {cs:List AV} {B:Nat}
theorem bW.og (h:bW B P M t cs) {k:IntKind} (hu:P.underlying t=some (.int k)) : ∃ n:Int,cs=[N k n]∧k.min≤n∧n≤k.max:=by
 cases h with
 | int _ k' n h1 h2 h3=>rw[hu] at h1; cases h1; exact⟨n,rfl,h2,h3⟩
 | _=>simp_all [qR]
theorem bW.Lf (h:bW B P M t cs) (hu:P.underlying t=some .string) : ∃ s,cs=[St s]∧s.length≤B:=by
 cases h with
 | str _ s h1 h2=>exact⟨s,rfl,h2⟩
 | _=>simp_all [qR]
theorem bW.GA (h:bW B P M t cs) {fs:Array Field} (hu:P.underlying t=some (.struct fs)) : cs.length=P.cellsOf t∧∀ (i:Nat) (f:Field),fs[i]?=some f→bW B P M f.type ((cs.drop f.offset).take (P.cellsOf f.type)):=by
 cases h with
 | struct _ fs' _ h1 h2 h3=>rw[hu] at h1; cases h1; exact⟨h2,h3⟩
 | _=>simp_all [qR]
def LY:AV→Prop
 | .slc _ _ n (.ex c)=>n≤c
 | .slc _ _ _ (.op e)=>e=1
 | _=>True
theorem bW.Cg (h:bW B P M t cs) {e:TypeId} (hu:P.underlying t=some (.slice e)) (hz:0<P.cellsOf e) :
  ∃ v n ds,cs=[v]∧aP M (P.cellsOf e) v ds n∧n≤B∧LY v∧∀ i,i<n→bW B P M e ((ds.drop (i * P.cellsOf e)).take (P.cellsOf e)):=by
 cases h with
 | JK _ e' h1=>exact⟨_,0,[],rfl,.nil,Nat.zero_le _,trivial,fun i hi=>absurd hi (by omega)⟩
 | emp _ e' b h1=>exact⟨_,0,[],rfl,.emp b,Nat.zero_le _,trivial,fun i hi=>absurd hi (by omega)⟩
 | slc _ e' b o n c ds h1 h2 h3 h4 h5 h6 =>
   rw[hu] at h1; cases h1
   exact⟨_,n,ds,rfl,.slc b o n _ ds h2 h5,h4,h3,h6⟩
 | zero _ e' _ h1 h2=>rw[hu] at h1; cases h1; omega
 | _=>simp_all [qR]
end
def ou (B:Nat) (P:Program) (M:RM) (t:TypeId) (v:AV) : Prop :=
 match xY P t with
 | true=>∃ cs,v=.agg cs∧bW B P M t cs
 | false=>bW B P M t [v]
theorem ou.one {B:Nat} {P:Program} {M:RM} {t:TypeId} {v:AV} (h:ou B P M t v) (ha:xY P t=false) : bW B P M t [v]:=by
 unfold ou at h; rw[ha] at h; exact h
section
variable {H:Type} {enc:TypeId × Value→H} {P:Program} {base:Base} {w:World} {bulk:DataW H→Nat} {B:Nat}
theorem Ct (hB:DV bulk) (hn:base.n=w.heap.size) {r:Reach} {b:Nat} {held:Bool} {t:TypeId} {v:Value} {d:DataW H} {ps:List MemPlace} (hv:Value.okWide P w r b t v) (h:DataW.Trod enc P w 0 (fun _=>true) held t v d ps)
  (hw:bulk d≤B) : ou B P (RM.old base w) t (qK base.n v):=by
 obtain⟨fuel,hf⟩:=h
 have hfit:=CK hB hn fuel t _ _ hf hw
 unfold ou
 cases ha:xY P t with
 | true =>
   have:∃ cs,v=.agg cs:=by
    unfold Value.okWide at hv
    unfold xY at ha
    split at hv
    ·obtain⟨cs,h,_⟩:=hv; exact⟨cs,h⟩
    ·obtain⟨cs,h,_⟩:=hv; exact⟨cs,h⟩
    ·split at ha <;> simp_all
   obtain⟨cs,rfl⟩:=this
   exact⟨_,rfl,hfit⟩
 | false =>
   have hc:Cell.okWide P w r b t v:=by
    unfold Value.okWide at hv
    unfold xY at ha
    split at hv
    ·simp_all
    ·simp_all
    ·exact hv
   have:v.cells.toList=[v]∧qK base.n v=kI base.n v:=by
    cases v with
    | agg cs=>exact(Ev hc).elim
    | _=>exact⟨rfl,rfl⟩
   rw[this.1] at hfit
   rw[this.2]
   exact hfit
end
end Go.Ab
