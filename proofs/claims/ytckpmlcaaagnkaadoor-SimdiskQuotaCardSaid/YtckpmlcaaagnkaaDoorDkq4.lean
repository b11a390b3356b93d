/- Part 4 of the ground of the proofs of this seat (texts K7 to K16). By an AI agent. -/
import Derived.Test.YtckpmlcaaagnkaaDoorDkq3
set_option maxRecDepth 10000
set_option linter.unusedVariables false
set_option linter.unusedSimpArgs false
namespace Go.Ab.Dk
open Go Go.Ab
abbrev A:Nm:=[97]
abbrev B' : Nm:=[98]
abbrev C' : Nm:=[99]
abbrev a0:aQ:=mY 10
abbrev a1:aQ:=⟨[([],0)],[(A,0)],[],[(A,some 0,[])],10,0,0⟩
abbrev a2:aQ:=⟨[([120,121,122],0)],[(A,0)],[],[(A,some 0,[])],10,1,0⟩
abbrev a3:aQ:=⟨[([120,121,122],3)],[(A,0)],[],[(A,some 0,[])],10,1,1⟩
abbrev a4:aQ:=⟨[([120,121,122],3)],[(A,0)],[(A,0)],[],10,1,2⟩
abbrev a5:aQ:=⟨[([120,121,122,49,50],3)],[(A,0)],[(A,0)],[],10,2,2⟩
abbrev a6:aQ:=⟨[([120,121,122,49,50],3),([],0)],[(A,0),(B',1)],[(A,0)],[(B',some 1,[])],10,2,2⟩
abbrev a7:aQ:=⟨[([120,121,122,49],4),([],0)],[(A,0)],[(A,0)],[],10,2,2⟩
abbrev a8:aQ:=⟨[([120,121,122,49],4),([],0)],[(A,0)],[(A,0)],[],100,2,2⟩
abbrev a9:aQ:=⟨[([120,121,122,49,0,0,0,0,0,0,0],4),([],0)],[(A,0)],[(A,0)],[],100,3,2⟩
abbrev I4:aQ:=⟨[([120,121,122,49,0,0,0,0,0,0,0],4),([],0)],[(C',0)],[(A,0)],[(C',some 0,A)],100,3,2⟩
abbrev sH:aQ:=⟨[([120,121,122,49,0,0,0,0,0,0,0],4),([],0)],[],[(A,0)],[(C',some 0,A),([],none,C')],100,3,2⟩
theorem e1:dN a0 A=(a1,0):=by decide
theorem e2:cK a1 A [120,121,122]=(a2,0):=by decide
theorem e3:tH a2 A=(a3,0):=by decide
theorem e4:oI a3=a4:=by decide
theorem e5:cK a4 A [49,50]=(a5,0):=by decide
theorem e6:dN a5 B'=(a6,0):=by decide
theorem e7:Ai a6 [0,1]=a7:=by decide
theorem e8:uo a7 100=a8:=by decide
theorem e9:cK a8 A [0,0,0,0,0,0,0]=(a9,0):=by decide
theorem Kk:cK a7 A [0,0,0,0,0,0,0]=(a7,5):=by decide
theorem e10:ny a9 A C'=(I4,0):=by decide
theorem e11:nC I4 C'=(sH,0):=by decide
theorem Km:uh a7 A=([120,121,122,49],0):=by decide
theorem Kg:uh a7 B'=([],4):=by decide
section
variable {own own' : aM} {M M' : RM}
theorem Gj {M1:RM} (k:ae [] M M1) (ho:∀ b,b<M.next→own b=none) (t:Tr own M1 own' M') : ae [] M M':=by
 obtain⟨bs,h1,h2,_⟩:=t
 refine k.q9 h1 fun c hc=>.inl ?_
 rcases Nat.lt_or_ge c M.next with h | h
 ·exact absurd (ho c h) (h2 c hc)
 ·exact h
theorem Tr.sl {α:Type} {E:Enc α} {v:AV} {xs:List α} (t:Tr own M own' M') (h:Sl E M v xs) (hb:∀ b∈au v,own b=none) : Sl E M' v xs:=by
 obtain⟨bs,h1,h2,_⟩:=t
 exact bA.keep h h1 (fun b hb2 hm=>h2 b hm (hb b hb2))
theorem Tr.none {b:Nat} (t:Tr own M own' M') (hb:b<M.next) (ho:own b=none) : own' b=none:=let ⟨_,_,_,h⟩:=t; h b hb ho
theorem bF.keep {TD TF TU TC db:Nat} {s:aQ} (h:bF TD TF TU TC own M db s) (k:ae [] M M') : bF TD TF TU TC own M' db s :=
 let ⟨_,_,_,_,h⟩:=h; ⟨_,_,_,_,h.keep k⟩
theorem bF.fresh {TD TF TU TC db:Nat} {s:aQ} (h:bF TD TF TU TC own M db s) {b:Nat} (hb:M.next≤b) : own b=none:=by
 obtain⟨_,_,_,_,h⟩:=h
 rcases hq:own b with _ | t
 ·rfl
 ·have:=h.lt b (by rw[hq]; simp); omega
end
theorem CX {M:RM} {T:Nat} {xs:List UInt8} : Sl BY ((M.push (.row (BY.row xs) false T 0)).put M.next (.row (BY.row xs) false T ((BY.row xs).length + 1))) (.slc M.next 0 xs.length (.ex xs.length)) xs:=by
 refine .slc _ _ _ _ _ (by rw[EP,aK]; omega) ?_
 rw[RM.gZ (aX _) (by rw[BY.gF]; omega),List.drop_zero,← BY.gF,List.take_length]
theorem vV {M:RM} {T:Nat} {xs:List UInt8} {K:af} (hK:∀ M',ae [] M M'→Sl BY M' (.slc M.next 0 xs.length (.ex xs.length)) xs→K (.slc M.next 0 xs.length (.ex xs.length)) M') :
  xE (.slc M.next 0 xs.length (.ex xs.length)) (M.push (.row (BY.row xs) false T 0)) K :=
 ⟨M.next,0,_,_,_,_,rfl,RM.bC _,hK _ (((ae.refl _ _).push _).new _ (Nat.le_refl _)) CX⟩
def uy (c:aA) : Prop:=∀ {M:RM} {Q:af},(∀ M',ae [] M M'→Q (Bo true) M')→c [] M Q
theorem CJ {TD TF TU TC TS TI TT:Nat} {cN cC cA cS cSD cL cX cR cQ cRn cRm cSt:aA} (hN:Cs TD TF TU TC cN) (hC:zP TD TF TU TC dN cC) (hA:qF TD TF TU TC cA) (hS:C8 TD TF TU TC cS)
  (hSD:rH TD TF TU TC cSD) (hL:xN TD TF TU TC TS cL) (hX:xV TD TF TU TC cX) (hR:Dj TD TF TU TC cR) (hq:tq TD TF TU TC cQ) (hRn:uP TD TF TU TC cRn) (hRm:zP TD TF TU TC nC cRm) (hSt:xB TD TF TU TC cSt) :
  uy fun args M Q=>args=[]∧lu cN cC TU cA cS cSD cL TI cX cR cQ cRn cRm cSt TT M Q:=by
 intro M Q hQ
 refine⟨rfl, ?_⟩
 unfold lu
 simp only[xK]
 refine hN (fun h=>absurd h (by decide)) fun _ own M1 db d0 o0 k0=>?_
 rw[qp,tu,zZ]
 refine zF (p:=false) (fun _ k hk=>?_) ?_
 ·rw[cO]; exact hk
 refine iA (fun h=>by cases h) (fun _=>?_)
 refine hC d0 (by decide) fun own1 M2 d1 t1=>?_
 rw[e1] at d1 ⊢
 refine⟨_,rfl, ?_⟩
 dsimp only
 rw[bY]
 refine vV (xs:=[120,121,122]) fun M3 k3 s3=>?_
 have d1:=d1.keep k3
 refine hA d1 s3 (by decide) (by decide) (by decide) (by decide) fun mV M4 d2 t2=>?_
 rw[e2] at d2 ⊢
 refine hS d2 fun Gr M5 d3 t3=>?_
 rw[e3] at d3 ⊢
 refine hSD d3 fun Ja M6 d4 t4=>?_
 rw[e4] at d4
 refine⟨_,rfl, ?_⟩
 dsimp only
 rw[bY]
 refine vV (xs:=[49,50]) fun M7 k7 s7=>?_
 have d4:=d4.keep k7
 refine hA d4 s7 (by decide) (by decide) (by decide) (by decide) fun own5 M8 d5 t5=>?_
 rw[e5] at d5 ⊢
 refine hC d5 (by decide) fun BX M9 d6 t6=>?_
 rw[e6] at d6 ⊢
 refine hL d6 (by decide) ⟨by decide,by decide⟩ fun v10 M10 o10 k10=>?_
 have d6:=d6.keep k10
 rw[bA.len (Own.xS o10)]
 refine⟨_,rfl, ?_⟩
 dsimp only
 rw[bY]
 have k11:ae [] M10 (M10.push (.row (INT.row [0,1]) false TI 0)):=(ae.refl _ _).push _
 have d6':=d6.keep k11
 refine hX (M:=M10.push (.row (INT.row [0,1]) false TI 0)) (p:=[0,1]) d6' (Sl.new (E:=INT) [0,1]) (fun b hb=>?_) (by decide) (by decide) ⟨by decide,by decide⟩ (by decide) (by decide) fun BS M12 d7 t7=>?_
 ·have hb:b=M10.next:=by simpa [au] using hb
  exact d6.fresh (by omega)
 rw[e7] at d7
 have f7:∀ b,M12.next≤b→BS b=none:=fun b hb=>d7.fresh hb
 refine hR d7 (by decide) fun v13 M13 k13 o13=>?_
 rw[Km] at o13 ⊢
 have d7:=d7.keep k13
 rw[qp,tu]
 refine hR d7 (by decide) fun v14 M14 k14 o14=>?_
 rw[Kg] at o14 ⊢
 have d7:=d7.keep k14
 rw[qp,tu]
 have mk:∀ {K:RB→(Nat→AV)→Prop},K (.row (BY.row [0,0,0,0,0,0,0]) false TU 0) (fun b=>.slc b 0 7 (.ex 7))→qj TU 1 [(N .u8 0)] (N .i64 7) (N .i64 7) K :=
  fun h=>⟨_,_,7,7,rfl,rfl,by decide,by decide,by decide,by decide,h⟩
 refine mk ?_
 dsimp only
 rw[bY]
 have k15:ae [] M14 (M14.push (.row (BY.row [0,0,0,0,0,0,0]) false TU 0)):=(ae.refl _ _).push _
 have d7':=d7.keep k15
 refine hA d7' (Sl.new (E:=BY) (c:=7) [0,0,0,0,0,0,0]) (by decide) (by decide) (by decide) (by decide) fun Ce M16 d8 t8=>?_
 rw[Kk] at d8 ⊢
 refine hq d8 fun own9 M17 d9 t9=>?_
 rw[e8] at d9
 refine mk ?_
 dsimp only
 rw[bY]
 have k18:ae [] M17 (M17.push (.row (BY.row [0,0,0,0,0,0,0]) false TU 0)):=(ae.refl _ _).push _
 have d9':=d9.keep k18
 refine hA d9' (Sl.new (E:=BY) (c:=7) [0,0,0,0,0,0,0]) (by decide) (by decide) (by decide) (by decide) fun own10 M19 d10 t10=>?_
 rw[e9] at d10 ⊢
 refine hRn d10 (by decide) fun own11 M20 d11 t11=>?_
 rw[e10] at d11 ⊢
 refine hRm d11 (by decide) fun own12 M21 d12 t12=>?_
 rw[e11] at d12 ⊢
 refine hSt d12 (by decide) fun M22 k22=>?_
 rw[bY,oG (n:=4) (RM.bC _) rfl rfl rfl]
 have k23:ae [] M22 ((M22.push (.row [(N .i64 0),(N .i64 0),(N .i64 0),(N .i64 0)] false TT 0)).put M22.next (.row (AV.agg [N .i64 ((([] : Dir).length:Nat) : Int),N .i64 ((tot sH.files sH.dir:Nat) : Int),N .i64 3,N .i64 2]).cells false TT 0)):=((ae.refl _ _).push _).new _ (Nat.le_refl _)
 have h23:((M22.push (.row [(N .i64 0),(N .i64 0),(N .i64 0),(N .i64 0)] false TT 0)).put M22.next (.row (AV.agg [N .i64 ((([] : Dir).length:Nat) : Int),N .i64 ((tot sH.files sH.dir:Nat) : Int),N .i64 3,N .i64 2]).cells false TT 0)).heap M22.next=some (.row (AV.agg [N .i64 ((([] : Dir).length:Nat) : Int),N .i64 ((tot sH.files sH.dir:Nat) : Int),N .i64 3,N .i64 2]).cells false TT 0):=aX _
 have s13:Sl BY M14 v13 [120,121,122,49]:=bA.keep (Own.xS o13) k14 (by simp)
 have tA:=((((Tr.keep k15).trans t8).trans t9).trans (Tr.keep k18)).trans (((t10.trans t11).trans t12).trans (Tr.keep (k22.trans k23)))
 have s23:=tA.sl s13 (fun b hb=>f7 b (Own.blk o13 b hb).1)
 generalize (M22.push (.row [(N .i64 0),(N .i64 0),(N .i64 0),(N .i64 0)] false TT 0)).put M22.next (.row (AV.agg [N .i64 ((([] : Dir).length:Nat) : Int),N .i64 ((tot sH.files sH.dir:Nat) : Int),N .i64 3,N .i64 2]).cells false TT 0)=M23 at *
 rw[bI]
 refine eU (p:=true) (fun _ k hk=>by rw[bI]; exact hk) ?_
 refine eU (p:=true) (fun _ k hk=>by rw[bI]; exact hk) ?_
 refine eU (p:=true) (fun _ k hk=>by rw[bI]; exact hk) ?_
 refine eU (p:=true) (fun _ k hk=>by rw[bI]; exact hk) ?_
 refine eU (p:=true) (fun _ k hk=>by rw[bI]; exact hk) ?_
 refine eU (p:=true) (fun _ k hk=>by rw[bI]; exact hk) ?_
 refine eU (p:=true) (fun _ k hk=>by rw[bI]; exact hk) ?_
 refine eU (p:=true) (fun _ k hk=>by rw[Sl.str s23,zD]; exact hk) ?_
 refine eU (p:=true) (fun _ k hk=>by rw[bI]; exact hk) ?_
 refine eU (p:=true) (fun _ k hk=>by rw[bI]; exact hk) ?_
 refine eU (p:=true) (fun _ k hk=>by rw[bI]; exact hk) ?_
 refine eU (p:=true) (fun _ k hk=>by rw[bI]; exact hk) ?_
 refine eU (p:=true) (fun _ k hk=>by rw[bI]; exact hk) ?_
 refine eU (p:=true) (fun _ k hk=>by rw[aj,aD (i:=0 + 0) h23 rfl,bI]; exact hk) ?_
 refine eU (p:=true) (fun _ k hk=>by rw[aj,aD (i:=0 + 2) h23 rfl,bI]; exact hk) ?_
 refine eU (p:=true) (fun _ k hk=>by rw[aj,aD (i:=0 + 3) h23 rfl,bI]; exact hk) ?_
 exact hQ _ (Gj k0 o0 ((((((((((t1.trans (Tr.keep k3)).trans t2).trans t3).trans t4).trans (Tr.keep k7)).trans t5).trans t6).trans (Tr.keep (k10.trans k11))).trans t7).trans ((Tr.keep (k13.trans k14)).trans tA)))
theorem JS {a:Int} {K:AV→Prop} : ay .eql (N .i64 a) (N .i64 a) K=K (Bo true):=by rw[bI,beq_self_eq_true]
abbrev n0:aQ:=mY 5
abbrev n1:aQ:=⟨[([],0)],[(A,0)],[],[(A,some 0,[])],5,0,0⟩
theorem f7:ny n1 B' A=(n1,4):=by decide
theorem uu {s:aQ} {n:Nm} {f:Nat} {b:List UInt8} (h:dY s.dir n=some f) (hq:¬ s.aR - (tot s.files s.dir:Int)<b.length) :
  cK s n b=({ s with files:=s.files.set f ((dJ s f).1++b,(dJ s f).2),app:=vY (s.app + 1) },0):=by
 unfold cK; rw[h]; exact if_neg hq
structure Fo {α:Type} (E:Enc α) (own:aM) (M:RM) (v:AV) (xs:List α) : Prop where
 sl:Sl E M v xs
 no:∀ b∈au v,own b=none
theorem Fo.tr {α:Type} {E:Enc α} {own own' : aM} {M M' : RM} {v:AV} {xs:List α} (h:Fo E own M v xs) (t:Tr own M own' M') : Fo E own' M' v xs :=
 ⟨t.sl h.sl h.no,fun b hb=>t.none (bA.lt h.sl b hb) (h.no b hb)⟩
section
variable (old now:List UInt8)
abbrev w0:aQ:=mY 100000
variable {TD TF TU TC TS:Nat} {ca cN cC cA cS cSD cRn cX cR cL:aA}
end
section
variable (safe more:List UInt8)
abbrev y2:aQ:=⟨[(safe,0)],[(A,0)],[],[(A,some 0,[])],100000,1,0⟩
abbrev y1:aQ:=⟨[([],0)],[(A,0)],[],[(A,some 0,[])],100000,0,0⟩
abbrev y3:aQ:=⟨[(safe,safe.length)],[(A,0)],[],[(A,some 0,[])],100000,1,1⟩
abbrev y4:aQ:=⟨[(safe,safe.length)],[(A,0)],[(A,0)],[],100000,1,2⟩
abbrev y5:aQ:=⟨[(safe++more,safe.length)],[(A,0)],[(A,0)],[],100000,2,2⟩
theorem h1:dN w0 A=(y1,0):=by decide
theorem h2 (h:safe.length≤10000) : cK y1 A safe=(y2 safe,0):=by
 rw[uu (f:=0) rfl (by show ¬ (100000:Int) - ((0:Nat) : Int)<safe.length; omega)]; rfl
theorem h3:tH (y2 safe) A=(y3 safe,0):=rfl
theorem h4:oI (y3 safe)=y4 safe:=rfl
theorem h5 (h:safe.length≤10000) (h2:more.length≤10000) : cK (y4 safe) A more=(y5 safe more,0):=by
 rw[uu (f:=0) rfl (by show ¬ (100000:Int) - ((safe.length + 0:Nat) : Int)<more.length; omega)]; rfl
end
def iJ:List Nm:=[[97],[98],[99],[119,45,48,48,48,48,48,49],[120,95],[65],[],[100]]
theorem Im (n:Int) : ∃ k:Nat,k<8∧vI .i64 n 7=(k:Int):=by
 have h:(BitVec.ofInt 64 n &&& BitVec.ofInt 64 7).toNat≤7:=by
  rw[BitVec.toNat_and]
  exact Nat.le_trans Nat.and_le_right (by decide)
 refine⟨(BitVec.ofInt 64 n &&& BitVec.ofInt 64 7).toNat,by omega, ?_⟩
 show IntKind.wrap .i64 (((BitVec.ofInt 64 n &&& BitVec.ofInt 64 7).toNat:Nat) : Int)=_
 rw[fC (by omega) (by omega)]
def Ck (c:aA) : Prop:=∀ {M:RM} {n:Int} {Q:af},(∀ k:Nat,k<8→vI .i64 n 7=(k:Int)→∀ M',ae [] M M'→Q (St (iJ[k]?.getD [])) M')→c [N .i64 n] M Q
theorem DN {T:Nat} : Ck fun args M Q=>∃ a0,args=[a0]∧mI T a0 M Q:=by
 intro M n Q hQ
 refine⟨_,rfl, ?_⟩
 unfold mI
 refine⟨_,rfl, ?_⟩
 dsimp only
 rw[bY,yC]
 obtain⟨k,hk,e⟩:=Im n
 rw[e]
 have hs:Sl BN (M.push (.row (BN.row iJ) false T 0)) (.slc M.next 0 iJ.length (.ex 8)) iJ:=Sl.new iJ
 have hlt:k<iJ.length:=hk
 obtain⟨b,o,_,_,h3,h4⟩:=Sl.Er hs (i:=k) (k:Int) hlt
 have h3:∀ (K:AV→Prop),jd (.slc M.next 0 8 (.ex 8)) (N .i64 (k:Int)) 1 K=K (.ptr b o):=fun K=>h3 .i64 K
 rw[h3,iV]
 have h5:(M.push (.row [(St [97]),(St [98]),(St [99]),(St [119,45,48,48,48,48,48,49]),(St [120,95]),(St [65]),(St []),(St [100])] false T 0)).cell b o=some (St iJ[k]):=h4 (St iJ[k]) rfl
 refine⟨_,h5, ?_⟩
 have hn:iJ[k]?.getD []=iJ[k]:=by rw[List.getElem?_eq_getElem hlt]; rfl
 rw[← hn]
 exact hQ k hk e _ ((ae.refl _ _).push _)
variable {TD TF TU TC TS:Nat}
end Go.Ab.Dk
namespace Go.Ab.Dk
open Go Go.Ab
structure Kt (s:aQ) (i:Nat) : Prop where
 aR:s.aR=100000
 chg:s.chg.length≤i
 dir:s.dir.length≤i
 gM:s.gM.length≤i
 dw:jc s.dir
 sw:jc s.gM
 cw:∀ c∈s.chg,c.1.length≤64
 files:∀ f∈s.files,f.1.length≤100000
variable {TD TF TU TC TS:Nat}
end Go.Ab.Dk
namespace Go.Ab.Dk
open Go Go.Ab
variable {TD TF TU TC TS:Nat}
end Go.Ab.Dk
namespace Go.Ab.Dk
open Go Go.Ab
def kG (d:Dir) : List Nat:=d.map (·.2)
theorem uX {n:Nm} {f:Nat} : ∀ {d:Dir},dY d n=some f→f∈kG d
 | [],h=>by cases h
 | e :: d,h=>by
   unfold dY at h
   by_cases hn:n=e.1
   ·rw[if_pos hn] at h; cases h; exact List.mem_cons_self ..
   ·rw[if_neg hn] at h; exact List.mem_cons_of_mem _ (uX h)
theorem sK {fs:List gV} {f:Nat} {x:gV} : ∀ {d:Dir},f ∉ kG d→tot (fs.set f x) d=tot fs d
 | [],_=>rfl
 | e :: d,h=>by
   have h1:f≠e.2:=fun he=>h (by rw[he]; exact List.mem_cons_self ..)
   have h2:f ∉ kG d:=fun hm=>h (List.mem_cons_of_mem _ hm)
   simp only[tot,sK h2,List.getElem?_set_ne h1]
theorem Bw {fs:List gV} {n:Nm} {f:Nat} {x:gV} (hf:f<fs.length) : ∀ {d:Dir},(kG d).Nodup→dY d n=some f→tot (fs.set f x) d + (fs[f]?.getD ([],0)).1.length=tot fs d + x.1.length
 | [],_,h=>by cases h
 | e :: d,hnd,h=>by
   have hnd':=List.nodup_cons.1 hnd
   unfold dY at h
   by_cases hn:n=e.1
   ·rw[if_pos hn] at h
    have he:e.2=f:=by injection h
    have h2:f ∉ kG d:=by rw[← he]; exact hnd'.1
    simp only[tot,sK h2,he,List.getElem?_set_self hf,Option.getD_some]; omega
   ·rw[if_neg hn] at h
    have hne:f≠e.2:=fun he=>hnd'.1 (by have:=uX h; rw[he] at this; exact this)
    have:=Bw (x:=x) hf hnd'.2 h
    simp only[tot,List.getElem?_set_ne hne]; omega
theorem xX {fs:List gV} {x:gV} : ∀ {d:Dir},(∀ i∈kG d,i<fs.length)→tot (fs++[x]) d=tot fs d
 | [],_=>rfl
 | e :: d,h=>by
   have h1:e.2<fs.length:=h _ (List.mem_cons_self ..)
   simp only[tot,xX (d:=d) (fun i hi=>h i (List.mem_cons_of_mem _ hi)),List.getElem?_append_left h1]
theorem Aj {fs:List gV} {e:Nm × Nat} : ∀ {d:Dir},tot fs (d++[e])=tot fs d + (fs[e.2]?.getD ([],0)).1.length
 | []=>by simp[tot]
 | a :: d=>by simp only[List.cons_append,tot,Aj (d:=d)]; omega
theorem Ak {n:Nm} {f:Nat} : ∀ {d:Dir},dY d n=none→dY (d++[(n,f)]) n=some f
 | [],_=>by simp[dY]
 | e :: d,h=>by
   unfold dY at h
   by_cases hn:n=e.1
   ·rw[if_pos hn] at h; cases h
   ·rw[if_neg hn] at h
    simp only[List.cons_append,dY,if_neg hn]; exact Ak h
structure jg (s:aQ) (i:Nat) (q all:Nat) : Prop where
 aR:s.aR=q
 q0:q≤10000
 tt:tot s.files s.dir=all
 ale:all≤5000 * i
 ids:(kG s.dir).Nodup
 lt:∀ f∈kG s.dir,f<s.files.length
 chg:s.chg.length≤i
 dir:s.dir.length≤i
 files:∀ f∈s.files,f.1.length≤5000 * i
theorem Fx {s:aQ} {i q all:Nat} (h:jg s i q all) {n:Nm} (hg:jq n=true) : jg (dN s n).1 (i + 1) q all∧∃ f,dY (dN s n).1.dir n=some f:=by
 unfold dN
 rw[if_neg (by rw[hg]; simp)]
 cases hl:dY s.dir n with
 | some f =>
   rw[if_pos (by simp)]
   exact⟨⟨h.aR,h.q0,h.tt,by have:=h.ale; omega,h.ids,h.lt,Nat.le_succ_of_le h.chg,Nat.le_succ_of_le h.dir,fun f hf=>by have:=h.files f hf; omega⟩,f,hl⟩
 | none =>
   rw[if_neg (by simp)]
   have hd:(xU { s with files:=s.files++[([],0)] } (n,some s.files.length,[])).dir=s.dir++[(n,s.files.length)]:=by
    show iM s.dir n s.files.length=_
    exact(oM hl).2 _
   refine⟨⟨h.aR,h.q0, ?_,by have:=h.ale; omega, ?_, ?_, ?_, ?_, ?_⟩,s.files.length, ?_⟩
   ·dsimp only; rw[hd]
    show tot (s.files++[([],0)]) _=all
    rw[Aj,xX h.lt,h.tt]; simp
   ·dsimp only; rw[hd,kG,List.map_append,List.nodup_append]
    refine⟨h.ids,by simp,fun a ha b hb=>?_⟩
    have:b=s.files.length:=by simpa using hb
    have:=h.lt a ha; omega
   ·dsimp only; rw[hd]
    intro f hf
    show f<(s.files++[([],0)]).length
    rw[kG,List.map_append,List.mem_append] at hf
    rw[List.length_append]
    rcases hf with hf | hf
    ·have:=h.lt f hf; omega
    ·have:f=s.files.length:=by simpa using hf
     simp; omega
   ·have:=h.chg; simp only[xU,List.length_append,List.length_cons,List.length_nil]; omega
   ·dsimp only; rw[hd,List.length_append]; have:=h.dir; simp; omega
   ·intro f hf
    have hf:f∈s.files++[([],0)]:=hf
    rw[List.mem_append,List.mem_singleton] at hf
    rcases hf with hf | rfl
    ·have:=h.files f hf; omega
    ·simp
   ·dsimp only; rw[hd]; exact Ak hl
theorem ES {s:aQ} {i q all:Nat} (h:jg s (i + 1) q all) (ha:all≤5000 * i) (hf:∀ f∈s.files,f.1.length≤5000 * i) {n:Nm} {f:Nat} (hl:dY s.dir n=some f) {b:List UInt8} (hb:b.length≤5000) :
  (all + b.length≤q∧(cK s n b).2=0∧jg (cK s n b).1 (i + 1) q (all + b.length))∨(¬ all + b.length≤q∧(cK s n b).2=5∧jg (cK s n b).1 (i + 1) q all):=by
 have hlt:=h.lt f (uX hl)
 unfold cK
 rw[hl]
 dsimp only
 rw[h.aR,h.tt]
 by_cases hq:all + b.length≤q
 ·rw[if_neg (by omega)]
  refine .inl ⟨hq,rfl,⟨rfl,h.q0, ?_,by omega,h.ids, ?_,h.chg,h.dir, ?_⟩⟩
  ·have:=Bw (x:=((dJ s f).1++b,(dJ s f).2)) hlt h.ids hl
   have e:(s.files[f]?.getD ([],0))=dJ s f:=rfl
   rw[e,h.tt] at this
   simp only[List.length_append] at this
   show tot (s.files.set f ((dJ s f).1++b,(dJ s f).2)) s.dir=all + b.length
   omega
  ·intro g hg
   show g<(s.files.set f _).length
   rw[List.length_set]; exact h.lt g hg
  ·intro g hg
   rcases List.mem_or_eq_of_mem_set hg with hg | rfl
   ·exact h.files g hg
   ·have:(dJ s f).1.length≤5000 * i:=by
     unfold dJ
     rw[List.getElem?_eq_getElem hlt]
     exact hf _ (List.getElem_mem hlt)
    show((dJ s f).1++b).length≤_
    rw[List.length_append]; omega
 ·rw[if_pos (by omega)]
  exact .inr ⟨hq,rfl,h⟩
theorem F3 {s:aQ} {i q all:Nat} (h:jg s i q all) {r:Nat} (hr:r≤10000) : jg (uo s r) i r all:=by
 refine⟨?_,hr,h.tt,h.ale,h.ids,h.lt,h.chg,h.dir,h.files⟩
 show(if 0 > (r:Int) then(0:Int) else r)=r
 rw[if_neg (by omega)]
theorem jg.mono {s:aQ} {i j q all:Nat} (h:jg s i q all) (hj:i≤j) : jg s j q all :=
 ⟨h.aR,h.q0,h.tt,by have:=h.ale; omega,h.ids,h.lt,Nat.le_trans h.chg hj,Nat.le_trans h.dir hj,fun f hf=>by have:=h.files f hf; omega⟩
theorem Aw {s:aQ} {n:Nm} {b:Nat} (h:∀ f∈s.files,f.1.length≤b) : ∀ f∈(dN s n).1.files,f.1.length≤b:=by
 unfold dN
 split
 ·exact h
 ·split
  ·exact h
  ·intro f hf
   have hf:f∈s.files++[([],0)]:=hf
   rw[List.mem_append,List.mem_singleton] at hf
   rcases hf with hf | rfl
   ·exact h f hf
   ·simp
theorem BP {a:Int} {K:AV→Prop} : ay .neq (N .i64 a) (N .i64 a) K=K (Bo false):=by rw[zZ,bne_self_eq_false]
theorem Ic (n:Int) : ∃ k:Nat,k<4∧vI .i64 n 3=(k:Int)∧∀ j:Nat,vI .i64 (k:Int) 7=(j:Int)→j=k:=by
 have h:(BitVec.ofInt 64 n &&& BitVec.ofInt 64 3).toNat≤3:=by
  rw[BitVec.toNat_and]
  exact Nat.le_trans Nat.and_le_right (by decide)
 refine⟨(BitVec.ofInt 64 n &&& BitVec.ofInt 64 3).toNat,by omega, ?_, ?_⟩
 ·show IntKind.wrap .i64 (((BitVec.ofInt 64 n &&& BitVec.ofInt 64 3).toNat:Nat) : Int)=_
  rw[fC (by omega) (by omega)]
 ·generalize (BitVec.ofInt 64 n &&& BitVec.ofInt 64 3).toNat=k at *
  intro j hj
  have:vI .i64 (k:Int) 7=(k:Int):=by
   rcases k with _ | _ | _ | _ | k
   ·decide
   ·decide
   ·decide
   ·decide
   ·omega
  omega
theorem H5 {k:Nat} (h:k<4) : jq (iJ[k]?.getD [])=true:=by
 rcases k with _ | _ | _ | _ | k
 ·decide
 ·decide
 ·decide
 ·decide
 ·omega
theorem wD:∀ n:Nat,iB [(N .u8 0)] n=BY.row (List.replicate n 0)
 | 0=>rfl
 | n + 1=>by rw[iB,wD n,List.replicate_succ,Enc.gz]; rfl
variable {TD TF TU TC:Nat}
def F5 (c:aA) : Prop:=∀ {M:RM} {q late:Int} {l:List Int} {v:AV} {Q:af},Sl INT M v l→(∀ M',Q (Bo true) M')→c [N .i64 q,v,N .i64 late] M Q
theorem Ao {ca cN cn cC cA cQ cSt:aA} (ha:uy ca) (hN:Cs TD TF TU TC cN) (hn:Ck cn) (hC:zP TD TF TU TC dN cC) (hA:qF TD TF TU TC cA) (hQu:tq TD TF TU TC cQ) (hSt:xB TD TF TU TC cSt) :
  F5 fun args M Q=>∃ a0 a1 a2,args=[a0,a1,a2]∧gH ca cN cn cC TU cA cQ cSt a0 a1 a2 M Q:=by
 intro M q late l v Q hv hQ
 refine⟨_,_,_,rfl, ?_⟩
 unfold gH
 simp only[xK,uD]
 refine ha fun M0 k0=>?_
 have hv0:Sl INT M0 v l:=bA.keep hv k0 (by simp)
 rw[u7,Bool.not_true,fQ,lM]
 refine zF (p:=decide (q > 10000)) (fun _ k hk=>by rw[oD]; exact hk) ?_
 refine zF (p:=decide (l.length > 40)) (fun _ k hk=>by rw[bA.len hv0,show(N .i64 (40:Int))=N .i64 ((40:Nat) : Int) from rfl,EJ]; exact hk) ?_
 refine iA (fun _=>hQ _) (fun hc=>?_)
 simp only[Bool.or_eq_false_iff,decide_eq_false_iff_not] at hc
 obtain⟨⟨q0,q1⟩,q2⟩:=hc
 obtain⟨r,rfl⟩:=Int.eq_ofNat_of_zero_le (Int.not_lt.1 q0)
 have hr:r≤10000:=by omega
 refine hN (fun h=>absurd h (by omega)) fun _ own M1 db d0 o0 k1=>?_
 have f0:Fo INT own M1 v l:=⟨bA.keep hv0 k1 (by simp),fun b hb=>o0 b (bA.lt hv0 b hb)⟩
 rw[qp,tu,BP,fQ]
 refine mF (fun z ys M2=>∃ (i q all:Nat) (mV:aM) (s:aQ),z=l.length - i∧ys=[N .i64 (q:Int),N .i64 (all:Int),N .i64 (i:Int)]∧i≤l.length∧bF TD TF TU TC mV M2 db s∧Tr own M1 mV M2∧jg s i q all) l.length
  ⟨0,r,0,own,_,rfl,rfl,Nat.zero_le _,d0,Tr.refl _ _,⟨rfl,hr,rfl,Nat.le_refl _,by simp[mY,kG],by simp[mY,kG],by simp[mY],by simp[mY],by simp[mY]⟩⟩ ?_
 rintro next z ys M2 hnext ⟨i,q,all,mV,s,rfl,rfl,hil,d2,t2,inv⟩
 dsimp only[bg]
 have g0:=f0.tr t2
 have hl:=g0.sl
 rw[bA.len hl,EZ]
 have JZ:=inv.ale
 have hq0:=inv.q0
 refine iA (fun hlt=>?_) (fun hge=>hQ _)
 have hlt:i<l.length:=of_decide_eq_true hlt
 refine kZ (fun zs M'=>∃ (q' all' : Nat) (own' : aM) (s' : aQ),zs=[N .i64 (q' : Int),N .i64 (all' : Int)]∧bF TD TF TU TC own' M' db s'∧Tr mV M2 own' M'∧jg s' (i + 1) q' all') ?_ ?_
 ·rintro zs M3 ⟨q',all',Gr,s3,rfl,d3,t3,Jl⟩
  dsimp only[bg]
  rw[add1 (by omega)]
  exact hnext _ _ _ (by omega) ⟨i + 1,q',all',Gr,s3,rfl,rfl,by omega,d3,t2.trans t3,Jl⟩
 intro J hJ
 obtain⟨b,o,_,_,h3,h4⟩:=Sl.Er hl (i:=i) (i:Int) hlt
 rw[h3,iV,h4 (N .i64 l[i]) rfl]
 simp only[Option.some.injEq,exists_eq_left']
 generalize l[i]=n at *
 rw[lM]
 refine zF (p:=decide (n > 5000)) (fun _ k hk=>by rw[oD]; exact hk) ?_
 refine iA (fun _=>hJ _ _ ⟨q,all,mV,s,rfl,d2,Tr.refl _ _,inv.mono (Nat.le_succ _)⟩) (fun hc=>?_)
 simp only[Bool.or_eq_false_iff,decide_eq_false_iff_not] at hc
 obtain⟨n0,n1⟩:=hc
 obtain⟨m,rfl⟩:=Int.eq_ofNat_of_zero_le (Int.not_lt.1 n0)
 have hm:m≤5000:=by omega
 obtain⟨k,hk4,e3,e7⟩:=Ic (i:Int)
 rw[yC,e3]
 refine hn fun k' hk' ek M3 k3=>?_
 have:k'=k:=e7 k' ek
 subst this
 have hg:=H5 hk4
 generalize iJ[k']?.getD []=nm at *
 obtain⟨Fh,f,hlk⟩:=Fx inv hg
 have FI:=Aw (n:=nm) inv.files
 refine hC (d2.keep k3) (by have:=inv.chg; omega) fun Ja M4 d4 t4=>?_
 generalize (dN s nm).1=s4 at *
 have mk:∀ {K:RB→(Nat→AV)→Prop},K (.row (BY.row (List.replicate m 0)) false TU 0) (fun b=>.slc b 0 (List.replicate m (0:UInt8)).length (.ex m))→qj TU 1 [(N .u8 0)] (N .i64 (m:Int)) (N .i64 (m:Int)) K:=by
  intro K h
  refine⟨_,_,(m:Int),(m:Int),rfl,rfl,by omega,by omega,by omega,by omega, ?_⟩
  rw[Int.toNat_natCast,wD]
  rw[List.length_replicate] at h
  exact h
 refine mk ?_
 rw[bY]
 have k5:ae [] M4 (M4.push (.row (BY.row (List.replicate m 0)) false TU 0)):=(ae.refl _ _).push _
 have s5:Sl BY (M4.push (.row (BY.row (List.replicate m 0)) false TU 0)) (.slc M4.next 0 (List.replicate m (0:UInt8)).length (.ex m)) (List.replicate m 0):=Sl.new _
 have hbl:(List.replicate m (0:UInt8)).length=m:=List.length_replicate
 have hap:=ES Fh JZ FI hlk (b:=List.replicate m 0) (by omega)
 rw[hbl] at hap
 have hq4:=Fh.aR
 have ht4:=Fh.tt
 refine hA (d4.keep k5) s5 (by omega) (by omega) (by omega) (fun x hx=>by have:=FI x hx; omega) fun BX M6 d6 t6=>?_
 have t26:Tr mV M2 BX M6:=(((Tr.keep k3).trans t4).trans (Tr.keep k5)).trans t6
 generalize cK s4 nm (List.replicate m 0)=r6 at *
 rw[addN (by omega),G9]
 have rest:∀ (all' : Nat) (e:Int),r6.2=e→jg r6.1 (i + 1) q all'→(e=0∧all'=all + m∨e=5∧all'=all) →
   xI (fun Gy=>ay .eql (N .i64 e) (N .i64 0) fun t82=>bi t82 (ay .add (N .i64 (all:Int)) (N .i64 (m:Int)) fun t85=>Gy [t85] M6) (Gy [(N .i64 (all:Int))] M6)) (fun FO Gw =>
    xI (fun Hd=>ay .eql (N .i64 (i:Int)) (N .i64 late) fun t88=>bi t88 (ay .quo (N .i64 (q:Int)) (N .i64 2) fun t91=>cQ [.ptr db 0,t91] Gw fun t92 Jg=>ay .quo (N .i64 (q:Int)) (N .i64 2) fun t94=>Hd [t94] Jg) (Hd [(N .i64 (q:Int))] Gw))
     (fun HV JC=>cSt [.ptr db 0] JC fun t96 Hg=>tN t96 1 fun t97=>ay .neq t97 (bg FO 0) fun t99=>bi t99 (Q (Bo false) Hg) (J [(bg HV 0),(bg FO 0)] Hg))):=by
  intro all' e he uK hcase
  refine kZ (fun zs M'=>zs=[N .i64 (all' : Int)]∧M'=M6) ?_ ?_
  ·rintro zs M7 ⟨rfl,rfl⟩
   refine kZ (fun zs M'=>∃ (q' : Nat) (BS:aM) (s7:aQ),zs=[N .i64 (q' : Int)]∧bF TD TF TU TC BS M' db s7∧Tr BX M7 BS M'∧jg s7 (i + 1) q' all') ?_ ?_
   ·rintro zs M8 ⟨q',Ce,s8,rfl,d8,t8,Fz⟩
    dsimp only[bg]
    have h8:=Fz.ale
    have ht8:=Fz.tt
    refine hSt d8 (by omega) fun M9 k9=>?_
    refine⟨_,_,rfl,rfl, ?_⟩
    rw[ht8]
    dsimp only
    rw[BP,fQ]
    exact hJ _ _ ⟨q',all',Ce,s8,rfl,d8.keep k9,(t26.trans t8).trans (Tr.keep k9),Fz⟩
   ·intro J2 hJ2
    rw[bI]
    refine iA (fun _=>?_) (fun _=>hJ2 _ _ ⟨q,BX,_,rfl,d6,Tr.refl _ _,uK⟩)
    have GR:∀ {K:AV→Prop},ay .quo (N .i64 (q:Int)) (N .i64 2) K=K (N .i64 ((q / 2:Nat) : Int)):=by
     intro K
     rw[Fg]
     have:(q:Int).tdiv 2=((q / 2:Nat) : Int):=rfl
     rw[this,show IntKind.wrap .i64 ((q / 2:Nat) : Int)=((q / 2:Nat) : Int) from fC (by omega) (by omega)]
     simp
    rw[GR]
    refine hQu d6 fun Ce M8 d8 t8=>?_
    rw[GR]
    exact hJ2 _ _ ⟨q / 2,Ce,_,rfl,d8,t8,F3 uK (by omega)⟩
  ·intro J1 hJ1
   rcases hcase with⟨rfl,rfl⟩ | ⟨rfl,rfl⟩
   ·rw[JS,kN,addN (by omega)]
    exact hJ1 _ _ ⟨rfl,rfl⟩
   ·rw[bI,show((5:Int) == 0)=false from rfl,fQ]
    exact hJ1 _ _ ⟨rfl,rfl⟩
 rcases hap with⟨hle,he,uK⟩ | ⟨hle,he,uK⟩
 ·rw[he]
  rw[show decide (all + m≤q)=true from decide_eq_true hle,mr,BP]
  dsimp only
  rw[uw,j5,addN (by omega),EJ,show decide (all + m > q)=false from decide_eq_false (by omega)]
  dsimp only
  rw[mo]
  dsimp only
  rw[j5,Go.Ab.cZ]
  dsimp only
  rw[Go.Ab.cZ,fQ]
  exact rest _ _ he uK (.inl ⟨rfl,rfl⟩)
 ·rw[he]
  rw[show decide (all + m≤q)=false from decide_eq_false hle,mo]
  dsimp only
  rw[Go.Ab.cZ,j5,addN (by omega),EJ,show decide (all + m > q)=true from decide_eq_true (by omega)]
  dsimp only
  rw[mr,BP]
  dsimp only
  rw[j5,uw]
  dsimp only
  rw[Go.Ab.cZ,fQ]
  exact rest _ _ he uK (.inr ⟨rfl,rfl⟩)
end Go.Ab.Dk
