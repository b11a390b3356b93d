/- Part 4 of the ground of the proofs of this seat (texts K7 to K11). By an AI agent. -/
import Derived.Test.YtckpmlcaaagnkaaDoorDkp3
set_option maxRecDepth 10000
set_option linter.unusedVariables false
set_option linter.unusedSimpArgs false
namespace Go.Ab.Dk
open Go Go.Ab
abbrev A:Nm:=[97]
abbrev B' : Nm:=[98]
abbrev C' : Nm:=[99]
abbrev a0:aU:=zF 10
abbrev a1:aU:=⟨[([],0)],[(A,0)],[],[(A,some 0,[])],10,0,0⟩
abbrev a2:aU:=⟨[([120,121,122],0)],[(A,0)],[],[(A,some 0,[])],10,1,0⟩
abbrev a3:aU:=⟨[([120,121,122],3)],[(A,0)],[],[(A,some 0,[])],10,1,1⟩
abbrev a4:aU:=⟨[([120,121,122],3)],[(A,0)],[(A,0)],[],10,1,2⟩
abbrev a5:aU:=⟨[([120,121,122,49,50],3)],[(A,0)],[(A,0)],[],10,2,2⟩
abbrev a6:aU:=⟨[([120,121,122,49,50],3),([],0)],[(A,0),(B',1)],[(A,0)],[(B',some 1,[])],10,2,2⟩
abbrev a7:aU:=⟨[([120,121,122,49],4),([],0)],[(A,0)],[(A,0)],[],10,2,2⟩
abbrev a8:aU:=⟨[([120,121,122,49],4),([],0)],[(A,0)],[(A,0)],[],100,2,2⟩
abbrev a9:aU:=⟨[([120,121,122,49,0,0,0,0,0,0,0],4),([],0)],[(A,0)],[(A,0)],[],100,3,2⟩
abbrev IM:aU:=⟨[([120,121,122,49,0,0,0,0,0,0,0],4),([],0)],[(C',0)],[(A,0)],[(C',some 0,A)],100,3,2⟩
abbrev uM:aU:=⟨[([120,121,122,49,0,0,0,0,0,0,0],4),([],0)],[],[(A,0)],[(C',some 0,A),([],none,C')],100,3,2⟩
theorem e1:fQ a0 A=(a1,0):=by decide
theorem e2:dX a1 A [120,121,122]=(a2,0):=by decide
theorem e3:tF a2 A=(a3,0):=by decide
theorem e4:oG a3=a4:=by decide
theorem e5:dX a4 A [49,50]=(a5,0):=by decide
theorem e6:fQ a5 B'=(a6,0):=by decide
theorem e7:bK a6 [0,1]=a7:=by decide
theorem e8:yA a7 100=a8:=by decide
theorem e9:dX a8 A [0,0,0,0,0,0,0]=(a9,0):=by decide
theorem Ki:dX a7 A [0,0,0,0,0,0,0]=(a7,5):=by decide
theorem e10:qN a9 A C'=(IM,0):=by decide
theorem e11:nO IM C'=(uM,0):=by decide
theorem Ke:kS a7 A=([120,121,122,49],0):=by decide
theorem Kk:kS a7 B'=([],4):=by decide
section
variable {own own' : aP} {M M' : RM}
theorem Gi {M1:RM} (k:ae [] M M1) (ho:∀ b,b<M.next→own b=none) (t:Tr own M1 own' M') : ae [] M M':=by
 obtain⟨bs,h1,h2,_⟩:=t
 refine k.rW h1 fun c hc=>.inl ?_
 rcases Nat.lt_or_ge c M.next with h | h
 ·exact absurd (ho c h) (h2 c hc)
 ·exact h
theorem Tr.sl {α:Type} {E:Enc α} {v:AV} {xs:List α} (t:Tr own M own' M') (h:Sl E M v xs) (hb:∀ b∈av v,own b=none) : Sl E M' v xs:=by
 obtain⟨bs,h1,h2,_⟩:=t
 exact bg.keep h h1 (fun b hb2 hm=>h2 b hm (hb b hb2))
theorem Tr.none {b:Nat} (t:Tr own M own' M') (hb:b<M.next) (ho:own b=none) : own' b=none:=let ⟨_,_,_,h⟩:=t; h b hb ho
theorem bD.keep {TD TF TU TC db:Nat} {s:aU} (h:bD TD TF TU TC own M db s) (k:ae [] M M') : bD TD TF TU TC own M' db s :=
 let ⟨_,_,_,_,h⟩:=h; ⟨_,_,_,_,h.keep k⟩
theorem bD.fresh {TD TF TU TC db:Nat} {s:aU} (h:bD TD TF TU TC own M db s) {b:Nat} (hb:M.next≤b) : own b=none:=by
 obtain⟨_,_,_,_,h⟩:=h
 rcases hq:own b with _ | t
 ·rfl
 ·have:=h.lt b (by rw[hq]; simp); omega
end
theorem BU {M:RM} {T:Nat} {xs:List UInt8} : Sl BY ((M.push (.row (BY.row xs) false T 0)).put M.next (.row (BY.row xs) false T ((BY.row xs).length + 1))) (.slc M.next 0 xs.length (.ex xs.length)) xs:=by
 refine .slc _ _ _ _ _ (by rw[Fy,aK]; omega) ?_
 rw[RM.iZ (aZ _) (by rw[BY.gL]; omega),List.drop_zero,← BY.gL,List.take_length]
theorem wV {M:RM} {T:Nat} {xs:List UInt8} {K:af} (hK:∀ M',ae [] M M'→Sl BY M' (.slc M.next 0 xs.length (.ex xs.length)) xs→K (.slc M.next 0 xs.length (.ex xs.length)) M') :
  xW (.slc M.next 0 xs.length (.ex xs.length)) (M.push (.row (BY.row xs) false T 0)) K :=
 ⟨M.next,0,_,_,_,_,rfl,RM.bF _,hK _ (((ae.refl _ _).push _).new _ (Nat.le_refl _)) BU⟩
def tQ (c:aA) : Prop:=∀ {M:RM} {Q:af},(∀ M',ae [] M M'→Q (Bo true) M')→c [] M Q
theorem Cf {TD TF TU TC TS TI TT:Nat} {cN cC cA cS cSD cL cX cR cQ cRn cRm cSt:aA} (hN:Dm TD TF TU TC cN) (hC:Ae TD TF TU TC fQ cC) (hA:qI TD TF TU TC cA) (hS:xY TD TF TU TC cS)
  (hSD:oH TD TF TU TC cSD) (hL:xV TD TF TU TC TS cL) (hX:tO TD TF TU TC cX) (hR:xN TD TF TU TC cR) (hq:zA TD TF TU TC cQ) (hRn:vB TD TF TU TC cRn) (hRm:Ae TD TF TU TC nO cRm) (hSt:Cu TD TF TU TC cSt) :
  tQ fun args M Q=>args=[]∧mF cN cC TU cA cS cSD cL TI cX cR cQ cRn cRm cSt TT M Q:=by
 intro M Q hQ
 refine⟨rfl, ?_⟩
 unfold mF
 simp only[xL]
 refine hN (fun h=>absurd h (by decide)) fun _ own M1 db d0 o0 k0=>?_
 rw[kg,kX,zI]
 refine Ew (p:=false) (fun _ k hk=>?_) ?_
 ·rw[cz]; exact hk
 refine jv (fun h=>by cases h) (fun _=>?_)
 refine hC d0 (by decide) fun JQ M2 d1 t1=>?_
 rw[e1] at d1 ⊢
 refine⟨_,rfl, ?_⟩
 dsimp only
 rw[bW]
 refine wV (xs:=[120,121,122]) fun M3 k3 s3=>?_
 have d1:=d1.keep k3
 refine hA d1 s3 (by decide) (by decide) (by decide) (by decide) fun C8 M4 d2 t2=>?_
 rw[e2] at d2 ⊢
 refine hS d2 fun JF M5 d3 t3=>?_
 rw[e3] at d3 ⊢
 refine hSD d3 fun JI M6 d4 t4=>?_
 rw[e4] at d4
 refine⟨_,rfl, ?_⟩
 dsimp only
 rw[bW]
 refine wV (xs:=[49,50]) fun M7 k7 s7=>?_
 have d4:=d4.keep k7
 refine hA d4 s7 (by decide) (by decide) (by decide) (by decide) fun Jf M8 d5 t5=>?_
 rw[e5] at d5 ⊢
 refine hC d5 (by decide) fun I6 M9 d6 t6=>?_
 rw[e6] at d6 ⊢
 refine hL d6 (by decide) ⟨by decide,by decide⟩ fun v10 M10 o10 k10=>?_
 have d6:=d6.keep k10
 rw[bg.len (Own.kD o10)]
 refine⟨_,rfl, ?_⟩
 dsimp only
 rw[bW]
 have k11:ae [] M10 (M10.push (.row (INT.row [0,1]) false TI 0)):=(ae.refl _ _).push _
 have d6':=d6.keep k11
 refine hX (M:=M10.push (.row (INT.row [0,1]) false TI 0)) (p:=[0,1]) d6' (Sl.new (E:=INT) [0,1]) (fun b hb=>?_) (by decide) (by decide) ⟨by decide,by decide⟩ (by decide) (by decide) fun EJ M12 d7 t7=>?_
 ·have hb:b=M10.next:=by simpa [av] using hb
  exact d6.fresh (by omega)
 rw[e7] at d7
 have f7:∀ b,M12.next≤b→EJ b=none:=fun b hb=>d7.fresh hb
 refine hR d7 (by decide) fun v13 M13 k13 o13=>?_
 rw[Ke] at o13 ⊢
 have d7:=d7.keep k13
 rw[kg,kX]
 refine hR d7 (by decide) fun v14 M14 k14 o14=>?_
 rw[Kk] at o14 ⊢
 have d7:=d7.keep k14
 rw[kg,kX]
 have mk:∀ {K:RB→(Nat→AV)→Prop},K (.row (BY.row [0,0,0,0,0,0,0]) false TU 0) (fun b=>.slc b 0 7 (.ex 7))→xX TU 1 [(N .u8 0)] (N .i64 7) (N .i64 7) K :=
  fun h=>⟨_,_,7,7,rfl,rfl,by decide,by decide,by decide,by decide,h⟩
 refine mk ?_
 dsimp only
 rw[bW]
 have k15:ae [] M14 (M14.push (.row (BY.row [0,0,0,0,0,0,0]) false TU 0)):=(ae.refl _ _).push _
 have d7':=d7.keep k15
 refine hA d7' (Sl.new (E:=BY) (c:=7) [0,0,0,0,0,0,0]) (by decide) (by decide) (by decide) (by decide) fun Eu M16 d8 t8=>?_
 rw[Ki] at d8 ⊢
 refine hq d8 fun own9 M17 d9 t9=>?_
 rw[e8] at d9
 refine mk ?_
 dsimp only
 rw[bW]
 have k18:ae [] M17 (M17.push (.row (BY.row [0,0,0,0,0,0,0]) false TU 0)):=(ae.refl _ _).push _
 have d9':=d9.keep k18
 refine hA d9' (Sl.new (E:=BY) (c:=7) [0,0,0,0,0,0,0]) (by decide) (by decide) (by decide) (by decide) fun own10 M19 d10 t10=>?_
 rw[e9] at d10 ⊢
 refine hRn d10 (by decide) fun own11 M20 d11 t11=>?_
 rw[e10] at d11 ⊢
 refine hRm d11 (by decide) fun H8 M21 d12 t12=>?_
 rw[e11] at d12 ⊢
 refine hSt d12 (by decide) fun M22 k22=>?_
 rw[bW,nX (n:=4) (RM.bF _) rfl rfl rfl]
 have k23:ae [] M22 ((M22.push (.row [(N .i64 0),(N .i64 0),(N .i64 0),(N .i64 0)] false TT 0)).put M22.next (.row (AV.agg [N .i64 ((([] : Dir).length:Nat) : Int),N .i64 ((tot uM.files uM.dir:Nat) : Int),N .i64 3,N .i64 2]).cells false TT 0)):=((ae.refl _ _).push _).new _ (Nat.le_refl _)
 have h23:((M22.push (.row [(N .i64 0),(N .i64 0),(N .i64 0),(N .i64 0)] false TT 0)).put M22.next (.row (AV.agg [N .i64 ((([] : Dir).length:Nat) : Int),N .i64 ((tot uM.files uM.dir:Nat) : Int),N .i64 3,N .i64 2]).cells false TT 0)).heap M22.next=some (.row (AV.agg [N .i64 ((([] : Dir).length:Nat) : Int),N .i64 ((tot uM.files uM.dir:Nat) : Int),N .i64 3,N .i64 2]).cells false TT 0):=aZ _
 have s13:Sl BY M14 v13 [120,121,122,49]:=bg.keep (Own.kD o13) k14 (by simp)
 have tA:=((((Tr.keep k15).trans t8).trans t9).trans (Tr.keep k18)).trans (((t10.trans t11).trans t12).trans (Tr.keep (k22.trans k23)))
 have s23:=tA.sl s13 (fun b hb=>f7 b (Own.blk o13 b hb).1)
 generalize (M22.push (.row [(N .i64 0),(N .i64 0),(N .i64 0),(N .i64 0)] false TT 0)).put M22.next (.row (AV.agg [N .i64 ((([] : Dir).length:Nat) : Int),N .i64 ((tot uM.files uM.dir:Nat) : Int),N .i64 3,N .i64 2]).cells false TT 0)=M23 at *
 rw[bO]
 refine eY (p:=true) (fun _ k hk=>by rw[bO]; exact hk) ?_
 refine eY (p:=true) (fun _ k hk=>by rw[bO]; exact hk) ?_
 refine eY (p:=true) (fun _ k hk=>by rw[bO]; exact hk) ?_
 refine eY (p:=true) (fun _ k hk=>by rw[bO]; exact hk) ?_
 refine eY (p:=true) (fun _ k hk=>by rw[bO]; exact hk) ?_
 refine eY (p:=true) (fun _ k hk=>by rw[bO]; exact hk) ?_
 refine eY (p:=true) (fun _ k hk=>by rw[bO]; exact hk) ?_
 refine eY (p:=true) (fun _ k hk=>by rw[Sl.str s23,o7]; exact hk) ?_
 refine eY (p:=true) (fun _ k hk=>by rw[bO]; exact hk) ?_
 refine eY (p:=true) (fun _ k hk=>by rw[bO]; exact hk) ?_
 refine eY (p:=true) (fun _ k hk=>by rw[bO]; exact hk) ?_
 refine eY (p:=true) (fun _ k hk=>by rw[bO]; exact hk) ?_
 refine eY (p:=true) (fun _ k hk=>by rw[bO]; exact hk) ?_
 refine eY (p:=true) (fun _ k hk=>by rw[aj,aD (i:=0 + 0) h23 rfl,bO]; exact hk) ?_
 refine eY (p:=true) (fun _ k hk=>by rw[aj,aD (i:=0 + 2) h23 rfl,bO]; exact hk) ?_
 refine eY (p:=true) (fun _ k hk=>by rw[aj,aD (i:=0 + 3) h23 rfl,bO]; exact hk) ?_
 exact hQ _ (Gi k0 o0 ((((((((((t1.trans (Tr.keep k3)).trans t2).trans t3).trans t4).trans (Tr.keep k7)).trans t5).trans t6).trans (Tr.keep (k10.trans k11))).trans t7).trans ((Tr.keep (k13.trans k14)).trans tA)))
theorem GL {a:Int} {K:AV→Prop} : aH .eql (N .i64 a) (N .i64 a) K=K (Bo true):=by rw[bO,beq_self_eq_true]
abbrev n0:aU:=zF 5
abbrev n1:aU:=⟨[([],0)],[(A,0)],[],[(A,some 0,[])],5,0,0⟩
theorem f1:fQ n0 [65]=(n0,1):=by decide
theorem f2:fQ n0 []=(n0,1):=by decide
theorem f5:dX n1 B' []=(n1,4):=by decide
theorem Fp {p:List Int} {i:Nat} : bq p i 1=0:=by have:=iU (p:=p) (i:=i) (n:=1) (Nat.le_refl _); omega
theorem o8 {s:aU} {n:Nm} {f:Nat} {b:List UInt8} (h:gZ s.dir n=some f) (hq:¬ s.bG - (tot s.files s.dir:Int)<b.length) :
  dX s n b=({ s with files:=s.files.set f ((iB s f).1++b,(iB s f).2),app:=vW (s.app + 1) },0):=by
 unfold dX; rw[h]; exact if_neg hq
structure Fo {α:Type} (E:Enc α) (own:aP) (M:RM) (v:AV) (xs:List α) : Prop where
 sl:Sl E M v xs
 no:∀ b∈av v,own b=none
theorem Fo.tr {α:Type} {E:Enc α} {own own' : aP} {M M' : RM} {v:AV} {xs:List α} (h:Fo E own M v xs) (t:Tr own M own' M') : Fo E own' M' v xs :=
 ⟨t.sl h.sl h.no,fun b hb=>t.none (bg.lt h.sl b hb) (h.no b hb)⟩
theorem bD.own {TD TF TU TC db:Nat} {s:aU} {own:aP} {M M' : RM} (d:bD TD TF TU TC own M db s) {α:Type} {E:Enc α} {T:Nat} {v:AV} {xs:List α} (o:Ow E M' M.next T v xs) : Fo E own M' v xs :=
 ⟨Own.kD o,fun b hb=>d.fresh (Own.blk o b hb).1⟩
theorem vN {M:RM} {T:Nat} (xs:List UInt8) : Sl BY (M.push (.row (BY.row xs) true T 0)) (.slc M.next 0 xs.length (.op 1)) xs:=(Rw.new M xs).sl
section
variable (old now:List UInt8)
abbrev w0:aU:=zF 100000
variable {TD TF TU TC TS:Nat} {ca cN cC cA cS cSD cRn cX cR cL:aA}
end
def jf (fs:List iI) (g:Nat) : Prop:=∀ x,fs[g]?=some x→x.2=x.1.length
def qD (fs:List iI) : Prop:=∀ f∈fs,f.2≤f.1.length
theorem vX {fs:List iI} {f:Nat} (h:jf fs f) {p:List Int} {i:Nat} : nE fs f p i=fs:=by
 unfold nE
 rcases hg:fs[f]? with _ | x
 ·exact List.set_eq_of_length_le (List.getElem?_eq_none_iff.1 hg)
 ·have hx:=h x hg
  simp only[Option.getD_some]
  rw[show x.1.length - x.2 + 1=1 by omega,Fp,Nat.add_zero,hx,List.take_length]
  have hl:=(List.getElem?_eq_some_iff.1 hg).1
  apply List.ext_getElem?
  intro j
  by_cases hj:j=f
  ·subst hj
   rw[List.getElem?_set_self hl,hg]
   congr 1
   rw[← hx]
  ·rw[List.getElem?_set_ne (fun e=>hj e.symm)]
theorem Aa {fs:List iI} (h:qD fs) (f:Nat) (p:List Int) (i:Nat) : jf (nE fs f p i) f∧(∀ g,jf fs g→jf (nE fs f p i) g)∧qD (nE fs f p i):=by
 by_cases hf:f<fs.length
 ·have hle:=h fs[f] (List.getElem_mem hf)
  have hp:bq p i ((fs[f]).1.length - (fs[f]).2 + 1)<(fs[f]).1.length - (fs[f]).2 + 1:=iU (by omega)
  have e:nE fs f p i=fs.set f ((fs[f]).1.take ((fs[f]).2 + bq p i ((fs[f]).1.length - (fs[f]).2 + 1)),(fs[f]).2 + bq p i ((fs[f]).1.length - (fs[f]).2 + 1)):=by
   unfold nE; rw[List.getElem?_eq_getElem hf]; rfl
  rw[e]
  generalize bq p i ((fs[f]).1.length - (fs[f]).2 + 1)=k at *
  have hs:((fs[f]).2 + k)=((fs[f]).1.take ((fs[f]).2 + k)).length:=by rw[List.length_take]; omega
  refine⟨fun x hx=>?_,fun g hg x hx=>?_,fun x hx=>?_⟩
  ·rw[List.getElem?_set_self hf] at hx; cases hx; exact hs
  ·by_cases hgf:g=f
   ·subst hgf; rw[List.getElem?_set_self hf] at hx; cases hx; exact hs
   ·rw[List.getElem?_set_ne (fun e=>hgf e.symm)] at hx; exact hg x hx
  ·rcases List.mem_or_eq_of_mem_set hx with hx | rfl
   ·exact h x hx
   ·exact Nat.le_of_eq hs
 ·have hn:fs[f]?=none:=List.getElem?_eq_none_iff.2 (by omega)
  have hs:jf fs f:=fun x hx=>by rw[hn] at hx; cases hx
  rw[vX hs]
  exact⟨hs,fun _ h=>h,h⟩
theorem jL (d:Dir) (p:List Int) : ∀ (l:List Nm) (i:Nat) {fs:List iI},qD fs→(∀ g,jf fs g→jf (dK d p l i fs) g)∧(∀ n∈l,∀ g,gZ d n=some g→jf (dK d p l i fs) g)∧qD (dK d p l i fs)
 | [],_,fs,h=>⟨fun _ h=>h,by simp,h⟩
 | n :: l,i,fs,h=>by
   unfold dK
   cases hn:gZ d n with
   | none =>
     obtain⟨a1,a2,a3⟩:=jL d p l (i + 1) h
     refine⟨a1,fun m hm g hg=>?_,a3⟩
     rcases List.mem_cons.1 hm with rfl | hm
     ·rw[hn] at hg; cases hg
     ·exact a2 m hm g hg
   | some f =>
     dsimp only
     obtain⟨c1,c2,c3⟩:=Aa h f p i
     obtain⟨a1,a2,a3⟩:=jL d p l (i + 1) c3
     refine⟨fun g hg=>a1 g (c2 g hg),fun m hm g hg=>?_,a3⟩
     rcases List.mem_cons.1 hm with rfl | hm
     ·rw[hn] at hg; cases hg; exact a1 f c1
     ·exact a2 m hm g hg
theorem q8 (d:Dir) (p:List Int) {fs:List iI} : ∀ (l:List Nm) (i:Nat),(∀ n∈l,∀ g,gZ d n=some g→jf fs g)→dK d p l i fs=fs
 | [],_,_=>rfl
 | n :: l,i,h=>by
   unfold dK
   have hr:=q8 d p l (i + 1) fun m hm=>h m (List.mem_cons_of_mem _ hm)
   cases hn:gZ d n with
   | none=>exact hr
   | some f=>dsimp only; rw[vX (h n (List.mem_cons_self ..) f hn)]; exact hr
theorem Aq {s:aU} (h:qD s.files) (p q:List Int) : bK (bK s p) q=bK s p:=by
 have hD:aR (bK s p) q=aR s p:=by
  show(List.take _ ([] : List gH)).foldl fV _=_
  rw[List.take_nil]; rfl
 have e:bK (bK s p) q = { bK s p with files:=dK (aR (bK s p) q) q (dP (aG (aR (bK s p) q))) 1 (bK s p).files,dir:=aR (bK s p) q,gy:=aR (bK s p) q,chg:=[] } := rfl
 rw[e,hD]
 have hf:(bK s p).files=dK (aR s p) p (dP (aG (aR s p))) 1 s.files:=rfl
 rw[q8 _ _ _ _ (by rw[hf]; exact(jL _ p _ 1 h).2.1)]
 rfl
theorem bD.le {TD TF TU TC db:Nat} {s:aU} {own:aP} {M:RM} (h:bD TD TF TU TC own M db s) : qD s.files:=by
 obtain⟨fbs,nm,sm,cv,h⟩:=h
 intro f hf
 obtain⟨i,hi⟩:=List.getElem?_of_mem hf
 obtain⟨b,v,hat⟩:=h.files.file i f hi
 exact hat.le
section
variable (safe more:List UInt8)
abbrev y2:aU:=⟨[(safe,0)],[(A,0)],[],[(A,some 0,[])],100000,1,0⟩
abbrev y1:aU:=⟨[([],0)],[(A,0)],[],[(A,some 0,[])],100000,0,0⟩
abbrev y3:aU:=⟨[(safe,safe.length)],[(A,0)],[],[(A,some 0,[])],100000,1,1⟩
abbrev y4:aU:=⟨[(safe,safe.length)],[(A,0)],[(A,0)],[],100000,1,2⟩
abbrev y5:aU:=⟨[(safe++more,safe.length)],[(A,0)],[(A,0)],[],100000,2,2⟩
abbrev y6:aU:=⟨[(safe++more,safe.length),([],0)],[(A,0),(B',1)],[(A,0)],[(B',some 1,[])],100000,2,2⟩
abbrev y7:aU:=⟨[(safe++more,safe.length),(more,0)],[(A,0),(B',1)],[(A,0)],[(B',some 1,[])],100000,3,2⟩
theorem h1:fQ w0 A=(y1,0):=by decide
theorem h2 (h:safe.length≤10000) : dX y1 A safe=(y2 safe,0):=by
 rw[o8 (f:=0) rfl (by show ¬ (100000:Int) - ((0:Nat) : Int)<safe.length; omega)]; rfl
theorem h3:tF (y2 safe) A=(y3 safe,0):=rfl
theorem h4:oG (y3 safe)=y4 safe:=rfl
theorem h5 (h:safe.length≤10000) (h2:more.length≤10000) : dX (y4 safe) A more=(y5 safe more,0):=by
 rw[o8 (f:=0) rfl (by show ¬ (100000:Int) - ((safe.length + 0:Nat) : Int)<more.length; omega)]; rfl
theorem h6:fQ (y5 safe more) B'=(y6 safe more,0):=rfl
theorem h7 (h:safe.length≤10000) (h2:more.length≤10000) : dX (y6 safe more) B' more=(y7 safe more,0):=by
 rw[o8 (f:=1) rfl (by show ¬ (100000:Int) - (((safe++more).length + (0 + 0) : Nat) : Int)<more.length; rw[List.length_append]; omega)]; rfl
theorem Gh (p:List Int) : (∃ j,j≤more.length∧kS (bK (y7 safe more) p) A=((safe++more).take (safe.length + j),0)) ∧
  (kS (bK (y7 safe more) p) B'=([],4)∨∃ j,j≤more.length∧kS (bK (y7 safe more) p) B'=(more.take j,0)) ∧
  (∀ f∈(bK (y7 safe more) p).files,f.1.length≤safe.length + more.length)∧(bK (y7 safe more) p).gy.length≤2∧iE (bK (y7 safe more) p).gy:=by
 have hk:bq p 0 2<2:=iU (by omega)
 have hj:bq p 1 ((safe++more).length - safe.length + 1)<(safe++more).length - safe.length + 1:=iU (by omega)
 have hj2:bq p 2 (more.length - 0 + 1)<more.length - 0 + 1:=iU (by omega)
 have hl:(safe++more).length=safe.length + more.length:=List.length_append
 have hD:aR (y7 safe more) p=(([(B',some 1,[])] : List gH).take (bq p 0 2)).foldl fV [(A,0)]:=rfl
 have hC:bK (y7 safe more) p = { y7 safe more with files:=dK (aR (y7 safe more) p) p (dP (aG (aR (y7 safe more) p))) 1 (y7 safe more).files,dir:=aR (y7 safe more) p,gy:=aR (y7 safe more) p,chg:=[] } := rfl
 rw[hC,hD]
 generalize bq p 0 2=k at *
 rcases k with _ | _ | k
 ·have e:dK ((([(B',some 1,[])] : List gH).take 0).foldl fV [(A,0)]) p (dP (aG ((([(B',some 1,[])] : List gH).take 0).foldl fV [(A,0)]))) 1 (y7 safe more).files =
   [((safe++more).take (safe.length + bq p 1 ((safe++more).length - safe.length + 1)),safe.length + bq p 1 ((safe++more).length - safe.length + 1)),(more,0)]:=rfl
  rw[e]
  refine⟨⟨_,by omega,rfl⟩,.inl rfl, ?_,(by decide:((([(B',some 1,[])] : List gH).take 0).foldl fV [(A,0)]).length≤2),(⟨by decide,by decide⟩ : iE ((([(B',some 1,[])] : List gH).take 0).foldl fV [(A,0)]))⟩
  intro f hf
  simp only[List.mem_cons,List.not_mem_nil,or_false] at hf
  rcases hf with rfl | rfl
  ·simp only[List.length_take]; omega
  ·simp only; omega
 ·have e:dK ((([(B',some 1,[])] : List gH).take 1).foldl fV [(A,0)]) p (dP (aG ((([(B',some 1,[])] : List gH).take 1).foldl fV [(A,0)]))) 1 (y7 safe more).files =
   [((safe++more).take (safe.length + bq p 1 ((safe++more).length - safe.length + 1)),safe.length + bq p 1 ((safe++more).length - safe.length + 1)),(more.take (0 + bq p 2 (more.length - 0 + 1)),0 + bq p 2 (more.length - 0 + 1))]:=rfl
  rw[e]
  refine⟨⟨_,by omega,rfl⟩,.inr ⟨_,by omega,rfl⟩, ?_,(by decide:((([(B',some 1,[])] : List gH).take 1).foldl fV [(A,0)]).length≤2),(⟨by decide,by decide⟩ : iE ((([(B',some 1,[])] : List gH).take 1).foldl fV [(A,0)]))⟩
  intro f hf
  simp only[List.mem_cons,List.not_mem_nil,or_false] at hf
  rcases hf with rfl | rfl
  ·simp only[List.length_take]; omega
  ·simp only[List.length_take]; omega
 ·omega
end
section
variable {M:RM} {c p:Bool} {f:KR→Prop} {G:AV→RM→Prop}
theorem CB (hf:c=false→∀ k:KR,k (Bo p) M none→f k) (hG:G (Bo (c || p)) M) :
  ay (Bo c) false f (fun k=>k .undef M none) (fun t M' b=>aY (Bo c) (Bo true) t fun u=>G u M'):=by
 cases c with
 | true=>rw[Dp]; dsimp only; rw[mI]; exact hG
 | false=>rw[vY]; exact hf rfl _ (by rw[Go.Ab.bq]; exact hG)
end
theorem chainB {M:RM} {c:Bool} {f1:KR→Prop} {f2:RM→KR→Prop} {G:AV→RM→Prop} (h1:c=true→∀ k:KR,k (Bo false) M none→f1 k) (h2:c=true→∀ k:KR,k (Bo false) M none→f2 M k) (hG:G (Bo false) M) :
  ay (Bo c) true f1 (fun k=>k .undef M none) (fun t M1 b1=>ay t false (f2 M1) (fun k=>k .undef M1 none) fun u M2 b2=>ay (Bo c) true (fun k'=>aY t (Bo true) u fun w=>k' w M2 none) (fun k=>k .undef M2 none) fun w M3 b3=>aY (Bo c) w (Bo false) fun z=>G z M3):=by
 cases c with
 | false=>rw[wJ]; dsimp only; rw[EG]; dsimp only; rw[wJ]; dsimp only; rw[Go.Ab.bq]; exact hG
 | true =>
   rw[vT]
   refine h1 rfl _ ?_
   rw[vY]
   refine h2 rfl _ ?_
   rw[vT,Go.Ab.bq]
   try dsimp only
   rw[mI]; exact hG
theorem JX {a:Int} {K:AV→Prop} : aH .neq (N .i64 a) (N .i64 a) K=K (Bo false):=by rw[zI,bne_self_eq_false]
theorem vU {s:List UInt8} {h:Nat} (h2:h≤s.length) : nQ (St s) none (some (N .i64 (h:Int)))=some (St (s.take h)):=by
 simp only[nQ,bnd]
 rw[if_pos (by omega)]
 simp only[Int.toNat_natCast]
 rw[if_pos ⟨Nat.zero_le _,h2⟩]
 simp
variable {TD TF TU TC TS:Nat} {ca cN cC cA cS cSD cX cR:aA}
def GA (c:aA) : Prop:=∀ {M:RM} {safe more:List UInt8} {v1 v2:AV} {p q:List Int} {Q:af},Sl INT M v1 p→Sl INT M v2 q→(∀ M',Q (Bo true) M')→c [St safe,St more,v1,v2] M Q
theorem GD {M:RM} {T n0:Nat} {v:AV} {xs:List UInt8} (h:Ow BY M n0 T v xs) {k:Nat} (hk:k≤xs.length) {K:AV→Prop} (hK:∀ w,Sl BY M w (xs.take k)→K w) : ma (iJ 1 v none (some (N .i64 (k:Int))) none) K:=by
 obtain⟨w,e,hs,_⟩:=FO h hk
 exact⟨w,e,hK w hs⟩
theorem CJ (ha:tQ ca) (hN:Dm TD TF TU TC cN) (hC:Ae TD TF TU TC fQ cC) (hA:qI TD TF TU TC cA) (hS:xY TD TF TU TC cS) (hSD:oH TD TF TU TC cSD)
  (hX:tO TD TF TU TC cX) (hR:xN TD TF TU TC cR) : GA fun args M Q=>∃ a0 a1 a2 a3,args=[a0,a1,a2,a3]∧gN ca cN cC TU cA cS cSD cX cR a0 a1 a2 a3 M Q:=by
 intro M safe more v1 v2 p q Q hv1 hv2 hQ
 refine⟨_,_,_,_,rfl, ?_⟩
 unfold gN
 simp only[xL,Iy,Gz,G8]
 refine ha fun M0 k0=>?_
 rw[uR,Bool.not_true,jA,eQ,show(N .i64 (10000:Int))=N .i64 ((10000:Nat) : Int) from rfl,Cb]
 refine Ew (p:=decide (more.length > 10000)) (fun _ k hk=>by rw[eQ,Cb]; exact hk) ?_
 refine jv (fun _=>hQ _) (fun hc=>?_)
 rw[Bool.or_eq_false_iff] at hc
 have l1:safe.length≤10000:=by have:=of_decide_eq_false hc.1; omega
 have l2:more.length≤10000:=by have:=of_decide_eq_false hc.2; omega
 have Gv:Sl INT M0 v1 p:=bg.keep hv1 k0 (by simp)
 have Hm:Sl INT M0 v2 q:=bg.keep hv2 k0 (by simp)
 refine hN (fun h=>absurd h (by decide)) fun _ own M1 db d0 o0 k1=>?_
 have fp:Fo INT own M1 v1 p:=⟨bg.keep Gv k1 (by simp),fun b hb=>o0 b (bg.lt Gv b hb)⟩
 have fq:Fo INT own M1 v2 q:=⟨bg.keep Hm k1 (by simp),fun b hb=>o0 b (bg.lt Hm b hb)⟩
 rw[kg,kX]
 refine hC d0 (by decide) fun JQ M2 d1 t1=>?_
 rw[h1] at d1
 rw[qp,bW]
 have k2:ae [] M2 (M2.push (.row (BY.row safe) true TU 0)):=(ae.refl _ _).push _
 refine hA (d1.keep k2) (vN safe) (by decide) (by decide) (by decide) (by simp; omega) fun C8 M3 d2 t2=>?_
 rw[h2 safe l1] at d2
 refine hS d2 fun JF M4 d3 t3=>?_
 rw[h3] at d3
 refine hSD d3 fun JI M5 d4 t4=>?_
 rw[h4] at d4
 rw[qp,bW]
 have k5:ae [] M5 (M5.push (.row (BY.row more) true TU 0)):=(ae.refl _ _).push _
 refine hA (d4.keep k5) (vN more) (by show(safe.length + 0:Nat)<_; omega) (by simp) (by simp) (by simp; omega) fun Jf M6 d5 t5=>?_
 rw[h5 safe more l1 l2] at d5
 refine hC d5 (by simp) fun I6 M7 d6 t6=>?_
 rw[h6] at d6
 rw[qp,bW]
 have k7:ae [] M7 (M7.push (.row (BY.row more) true TU 0)):=(ae.refl _ _).push _
 refine hA (d6.keep k7) (vN more) (by show((safe++more).length + (0 + 0) : Nat)<_; rw[List.length_append]; omega) (by simp) (by simp) (by simp; omega) fun EJ M8 d7 t7=>?_
 rw[h7 safe more l1 l2] at d7
 have t18:Tr own M1 EJ M8:=(((((t1.trans (Tr.keep k2)).trans t2).trans t3).trans t4).trans (Tr.keep k5)).trans ((t5.trans t6).trans ((Tr.keep k7).trans t7))
 have fp:=fp.tr t18
 have fq:=fq.tr t18
 have hfil:=d7.le
 refine hX d7 fp.sl fp.no (by simp) (by simp) (⟨by decide,by decide⟩ : iE [(A,0)]) (by simp) (by simp; omega) fun Eu M9 d8 t8=>?_
 have fq:=fq.tr t8
 obtain⟨⟨j,hj,ra⟩,rb,hlen,hsl,hwf⟩:=Gh safe more p
 have hag:=Aq hfil p q
 have hcg:(bK (y7 safe more) p).chg=[]:=rfl
 generalize bK (y7 safe more) p=s at *
 have hlen' : ∀ f∈s.files,f.1.length≤140737488355328:=fun f hf=>by have:=hlen f hf; omega
 refine hR d8 hlen' fun va M10 k10 oa=>?_
 have d9:=d8.keep k10
 have fa:=d8.own oa
 rw[ra] at oa fa ⊢
 have hx:((safe++more).take (safe.length + j)).length=safe.length + j:=by rw[List.length_take,List.length_append]; omega
 have hx2:((safe++more).take (safe.length + j)).take safe.length=safe:=by
  rw[List.take_take,Nat.min_eq_left (by omega),List.take_left]
 have hx3:(safe++more).take ((safe++more).take (safe.length + j)).length=(safe++more).take (safe.length + j):=by rw[hx]
 generalize (safe++more).take (safe.length + j)=x at *
 have oa:Ow BY M10 M9.next TU va x:=oa
 have fa:Fo BY Eu M10 va x:=fa
 rw[kg,kX,JX]
 refine CB (p:=false) (fun _ k hk=>?_) ?_
 ·rw[bg.len (Own.kD oa),eQ,Ff,show decide (x.length<safe.length)=false from decide_eq_false (by omega)]; exact hk
 refine CB (p:=false) (fun _ k hk=>?_) ?_
 ·rw[eQ]
  refine GD oa (by omega) fun w hw=>?_
  rw[Sl.str hw,rG,hx2,bne_self_eq_false]; exact hk
 refine CB (p:=false) (fun _ k hk=>?_) ?_
 ·rw[bg.len (Own.kD oa),eQ,eQ,addN (by omega),Cb,show decide (x.length > safe.length + more.length)=false from decide_eq_false (by omega)]; exact hk
 refine CB (p:=false) (fun _ k hk=>?_) ?_
 ·rw[Sl.str (Own.kD oa),EX]
  refine⟨by omega, ?_⟩
  rw[bg.len (Own.kD oa),vU (by rw[List.length_append]; omega),mK,rG,hx3,bne_self_eq_false]; exact hk
 refine jv (fun h=>by cases h) (fun _=>?_)
 refine hR d9 hlen' fun vb M11 k11 ob=>?_
 have d11:=d9.keep k11
 have fb:=d9.own ob
 have fa:=fa.tr (Tr.keep k11)
 have fq:=(fq.tr (Tr.keep k10)).tr (Tr.keep k11)
 obtain⟨y,e,hre,hye⟩ : ∃ y e,kS s B'=(y,e)∧(e=0→y.length≤more.length∧more.take y.length=y):=by
  rcases rb with h | ⟨j2,hj2,h⟩
  ·exact⟨_,_,h,fun h=>by cases h⟩
  ·refine⟨_,_,h,fun _=>⟨by rw[List.length_take]; omega, ?_⟩⟩
   rw[List.length_take,Nat.min_eq_left hj2]
 rw[hre] at ob fb ⊢
 have ob:Ow BY M11 M10.next TU vb y:=ob
 have fb:Fo BY Eu M11 vb y:=fb
 rw[kg,kX,bO]
 refine chainB (fun hc k hk=>?_) (fun hc k hk=>?_) ?_
 ·have hy:=hye (by simpa using hc)
  rw[bg.len (Own.kD ob),eQ,Cb,show decide (y.length > more.length)=false from decide_eq_false (by omega)]; exact hk
 ·have hy:=hye (by simpa using hc)
  rw[Sl.str (Own.kD ob),bg.len (Own.kD ob),vU hy.1,mK,rG,hy.2,bne_self_eq_false]; exact hk
 rw[jA]
 refine hX d11 fq.sl fq.no (by rw[hcg]; simp) (by omega) hwf (by rw[hcg]; simp) hlen' fun H8 M12 d12 t12=>?_
 rw[hag] at d12
 have fa:=fa.tr t12
 have fb:=fb.tr t12
 refine hR d12 hlen' fun vc M13 k13 oc=>?_
 have d13:=d12.keep k13
 rw[ra] at oc ⊢
 rw[kg,kX]
 refine hR d13 hlen' fun vd M14 k14 od=>?_
 rw[hre] at od ⊢
 rw[kg,kX,GL,ku]
 have sa:=(fa.tr (Tr.keep k13)).tr (Tr.keep k14)
 have sb:=(fb.tr (Tr.keep k13)).tr (Tr.keep k14)
 have sc:Sl BY M14 vc x:=bg.keep (Own.kD oc) k14 (by simp)
 have sd:Sl BY M14 vd y:=Own.kD od
 rw[Sl.str sc,Sl.str sa.sl,o7,beq_self_eq_true]
 dsimp only
 rw[mI,ku,GL]
 dsimp only
 rw[mI,ku,Sl.str sd,Sl.str sb.sl,o7,beq_self_eq_true]
 dsimp only
 rw[mI]
 exact hQ _
end Go.Ab.Dk
