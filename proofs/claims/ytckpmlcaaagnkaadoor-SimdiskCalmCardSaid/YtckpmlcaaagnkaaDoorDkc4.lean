/- Part 4 of the ground of the proofs of this seat (texts K7 to K14). By an AI agent. -/
import Derived.Test.YtckpmlcaaagnkaaDoorDkc3
set_option maxRecDepth 10000
set_option linter.unusedVariables false
set_option linter.unusedSimpArgs false
namespace Go.Ab.Dk
open Go Go.Ab
abbrev A:Nm:=[97]
abbrev B' : Nm:=[98]
abbrev C' : Nm:=[99]
abbrev a0:aK:=tH 10
abbrev a1:aK:=⟨[([],0)],[(A,0)],[],[(A,some 0,[])],10,0,0⟩
abbrev a2:aK:=⟨[([120,121,122],0)],[(A,0)],[],[(A,some 0,[])],10,1,0⟩
abbrev a3:aK:=⟨[([120,121,122],3)],[(A,0)],[],[(A,some 0,[])],10,1,1⟩
abbrev a4:aK:=⟨[([120,121,122],3)],[(A,0)],[(A,0)],[],10,1,2⟩
abbrev a5:aK:=⟨[([120,121,122,49,50],3)],[(A,0)],[(A,0)],[],10,2,2⟩
abbrev a6:aK:=⟨[([120,121,122,49,50],3),([],0)],[(A,0),(B',1)],[(A,0)],[(B',some 1,[])],10,2,2⟩
abbrev a7:aK:=⟨[([120,121,122,49],4),([],0)],[(A,0)],[(A,0)],[],10,2,2⟩
abbrev a8:aK:=⟨[([120,121,122,49],4),([],0)],[(A,0)],[(A,0)],[],100,2,2⟩
abbrev a9:aK:=⟨[([120,121,122,49,0,0,0,0,0,0,0],4),([],0)],[(A,0)],[(A,0)],[],100,3,2⟩
abbrev Jb:aK:=⟨[([120,121,122,49,0,0,0,0,0,0,0],4),([],0)],[(C',0)],[(A,0)],[(C',some 0,A)],100,3,2⟩
abbrev uU:aK:=⟨[([120,121,122,49,0,0,0,0,0,0,0],4),([],0)],[],[(A,0)],[(C',some 0,A),([],none,C')],100,3,2⟩
theorem e1:dC a0 A=(a1,0):=by decide
theorem e2:bZ a1 A [120,121,122]=(a2,0):=by decide
theorem e3:nX a2 A=(a3,0):=by decide
theorem e4:jY a3=a4:=by decide
theorem e5:bZ a4 A [49,50]=(a5,0):=by decide
theorem e6:dC a5 B'=(a6,0):=by decide
theorem e7:bS a6 [0,1]=a7:=by decide
theorem e8:Ah a7 100=a8:=by decide
theorem e9:bZ a8 A [0,0,0,0,0,0,0]=(a9,0):=by decide
theorem KG:bZ a7 A [0,0,0,0,0,0,0]=(a7,5):=by decide
theorem e10:jZ a9 A C'=(Jb,0):=by decide
theorem e11:ja Jb C'=(uU,0):=by decide
theorem KA:j5 a7 A=([120,121,122,49],0):=by decide
theorem Kz:j5 a7 B'=([],4):=by decide
section
variable {own own' : aO} {M M' : RM}
theorem GK {M1:RM} (k:ae [] M M1) (ho:∀ b,b<M.next→own b=none) (t:Tr own M1 own' M') : ae [] M M':=by
 obtain⟨bs,h1,h2,_⟩:=t
 refine k.sD h1 fun c hc=>.inl ?_
 rcases Nat.lt_or_ge c M.next with h | h
 ·exact absurd (ho c h) (h2 c hc)
 ·exact h
theorem Tr.sl {α:Type} {E:Enc α} {v:AV} {xs:List α} (t:Tr own M own' M') (h:Sl E M v xs) (hb:∀ b∈ak v,own b=none) : Sl E M' v xs:=by
 obtain⟨bs,h1,h2,_⟩:=t
 exact aT.keep h h1 (fun b hb2 hm=>h2 b hm (hb b hb2))
theorem Tr.none {b:Nat} (t:Tr own M own' M') (hb:b<M.next) (ho:own b=none) : own' b=none:=let ⟨_,_,_,h⟩:=t; h b hb ho
theorem bu.keep {TD TF TU TC db:Nat} {s:aK} (h:bu TD TF TU TC own M db s) (k:ae [] M M') : bu TD TF TU TC own M' db s :=
 let ⟨_,_,_,_,h⟩:=h; ⟨_,_,_,_,h.keep k⟩
theorem bu.fresh {TD TF TU TC db:Nat} {s:aK} (h:bu TD TF TU TC own M db s) {b:Nat} (hb:M.next≤b) : own b=none:=by
 obtain⟨_,_,_,_,h⟩:=h
 rcases hq:own b with _ | t
 ·rfl
 ·have:=h.lt b (by rw[hq]; simp); omega
end
theorem Da {M:RM} {T:Nat} {xs:List UInt8} : Sl BY ((M.push (.row (BY.row xs) false T 0)).put M.next (.row (BY.row xs) false T ((BY.row xs).length + 1))) (.slc M.next 0 xs.length (.ex xs.length)) xs:=by
 refine .slc _ _ _ _ _ (by rw[Fs,aM]; omega) ?_
 rw[RM.iC (aZ _) (by rw[BY.gN]; omega),List.drop_zero,← BY.gN,List.take_length]
theorem xL {M:RM} {T:Nat} {xs:List UInt8} {K:af} (hK:∀ M',ae [] M M'→Sl BY M' (.slc M.next 0 xs.length (.ex xs.length)) xs→K (.slc M.next 0 xs.length (.ex xs.length)) M') :
  yL (.slc M.next 0 xs.length (.ex xs.length)) (M.push (.row (BY.row xs) false T 0)) K :=
 ⟨M.next,0,_,_,_,_,rfl,RM.bz _,hK _ (((ae.refl _ _).push _).new _ (Nat.le_refl _)) Da⟩
def uu (c:ax) : Prop:=∀ {M:RM} {Q:af},(∀ M',ae [] M M'→Q (Bo true) M')→c [] M Q
theorem DV {TD TF TU TC TS TI TT:Nat} {cN cC cA cS cSD cL cX cR cQ cRn cRm cSt:ax} (hN:DX TD TF TU TC cN) (hC:wS TD TF TU TC dC cC) (hA:rf TD TF TU TC cA) (hS:yE TD TF TU TC cS)
  (hSD:oL TD TF TU TC cSD) (hL:uP TD TF TU TC TS cL) (hX:uj TD TF TU TC cX) (hR:yI TD TF TU TC cR) (hq:yX TD TF TU TC cQ) (hRn:qZ TD TF TU TC cRn) (hRm:wS TD TF TU TC ja cRm) (hSt:CY TD TF TU TC cSt) :
  uu fun args M Q=>args=[]∧lZ cN cC TU cA cS cSD cL TI cX cR cQ cRn cRm cSt TT M Q:=by
 intro M Q hQ
 refine⟨rfl, ?_⟩
 unfold lZ
 simp only[DC]
 refine hN (fun h=>absurd h (by decide)) fun _ own M1 db d0 o0 k0=>?_
 rw[oC,qU,Fe]
 refine HY (p:=false) (fun _ k hk=>?_) ?_
 ·rw[bT]; exact hk
 refine eG (fun h=>by cases h) (fun _=>?_)
 refine hC d0 (by decide) fun own1 M2 d1 t1=>?_
 rw[e1] at d1 ⊢
 refine⟨_,rfl, ?_⟩
 dsimp only
 rw[dD]
 refine xL (xs:=[120,121,122]) fun M3 k3 s3=>?_
 have d1:=d1.keep k3
 refine hA d1 s3 (by decide) (by decide) (by decide) (by decide) fun ny M4 d2 t2=>?_
 rw[e2] at d2 ⊢
 refine hS d2 fun FN M5 d3 t3=>?_
 rw[e3] at d3 ⊢
 refine hSD d3 fun qj M6 d4 t4=>?_
 rw[e4] at d4
 refine⟨_,rfl, ?_⟩
 dsimp only
 rw[dD]
 refine xL (xs:=[49,50]) fun M7 k7 s7=>?_
 have d4:=d4.keep k7
 refine hA d4 s7 (by decide) (by decide) (by decide) (by decide) fun zU M8 d5 t5=>?_
 rw[e5] at d5 ⊢
 refine hC d5 (by decide) fun own6 M9 d6 t6=>?_
 rw[e6] at d6 ⊢
 refine hL d6 (by decide) ⟨by decide,by decide⟩ fun v10 M10 o10 k10=>?_
 have d6:=d6.keep k10
 rw[aT.len (Own.uz o10)]
 refine⟨_,rfl, ?_⟩
 dsimp only
 rw[dD]
 have k11:ae [] M10 (M10.push (.row (INT.row [0,1]) false TI 0)):=(ae.refl _ _).push _
 have d6':=d6.keep k11
 refine hX (M:=M10.push (.row (INT.row [0,1]) false TI 0)) (p:=[0,1]) d6' (Sl.new (E:=INT) [0,1]) (fun b hb=>?_) (by decide) (by decide) ⟨by decide,by decide⟩ (by decide) (by decide) fun J8 M12 d7 t7=>?_
 ·have hb:b=M10.next:=by simpa [ak] using hb
  exact d6.fresh (by omega)
 rw[e7] at d7
 have f7:∀ b,M12.next≤b→J8 b=none:=fun b hb=>d7.fresh hb
 refine hR d7 (by decide) fun v13 M13 k13 o13=>?_
 rw[KA] at o13 ⊢
 have d7:=d7.keep k13
 rw[oC,qU]
 refine hR d7 (by decide) fun v14 M14 k14 o14=>?_
 rw[Kz] at o14 ⊢
 have d7:=d7.keep k14
 rw[oC,qU]
 have mk:∀ {K:RB→(Nat→AV)→Prop},K (.row (BY.row [0,0,0,0,0,0,0]) false TU 0) (fun b=>.slc b 0 7 (.ex 7))→yG TU 1 [(N .u8 0)] (N .i64 7) (N .i64 7) K :=
  fun h=>⟨_,_,7,7,rfl,rfl,by decide,by decide,by decide,by decide,h⟩
 refine mk ?_
 dsimp only
 rw[dD]
 have k15:ae [] M14 (M14.push (.row (BY.row [0,0,0,0,0,0,0]) false TU 0)):=(ae.refl _ _).push _
 have d7':=d7.keep k15
 refine hA d7' (Sl.new (E:=BY) (c:=7) [0,0,0,0,0,0,0]) (by decide) (by decide) (by decide) (by decide) fun own8 M16 d8 t8=>?_
 rw[KG] at d8 ⊢
 refine hq d8 fun own9 M17 d9 t9=>?_
 rw[e8] at d9
 refine mk ?_
 dsimp only
 rw[dD]
 have k18:ae [] M17 (M17.push (.row (BY.row [0,0,0,0,0,0,0]) false TU 0)):=(ae.refl _ _).push _
 have d9':=d9.keep k18
 refine hA d9' (Sl.new (E:=BY) (c:=7) [0,0,0,0,0,0,0]) (by decide) (by decide) (by decide) (by decide) fun own10 M19 d10 t10=>?_
 rw[e9] at d10 ⊢
 refine hRn d10 (by decide) fun own11 M20 d11 t11=>?_
 rw[e10] at d11 ⊢
 refine hRm d11 (by decide) fun own12 M21 d12 t12=>?_
 rw[e11] at d12 ⊢
 refine hSt d12 (by decide) fun M22 k22=>?_
 rw[dD,oZ (n:=4) (RM.bz _) rfl rfl rfl]
 have k23:ae [] M22 ((M22.push (.row [(N .i64 0),(N .i64 0),(N .i64 0),(N .i64 0)] false TT 0)).put M22.next (.row (AV.agg [N .i64 ((([] : Dir).length:Nat) : Int),N .i64 ((tot uU.files uU.dir:Nat) : Int),N .i64 3,N .i64 2]).cells false TT 0)):=((ae.refl _ _).push _).new _ (Nat.le_refl _)
 have h23:((M22.push (.row [(N .i64 0),(N .i64 0),(N .i64 0),(N .i64 0)] false TT 0)).put M22.next (.row (AV.agg [N .i64 ((([] : Dir).length:Nat) : Int),N .i64 ((tot uU.files uU.dir:Nat) : Int),N .i64 3,N .i64 2]).cells false TT 0)).heap M22.next=some (.row (AV.agg [N .i64 ((([] : Dir).length:Nat) : Int),N .i64 ((tot uU.files uU.dir:Nat) : Int),N .i64 3,N .i64 2]).cells false TT 0):=aZ _
 have s13:Sl BY M14 v13 [120,121,122,49]:=aT.keep (Own.uz o13) k14 (by simp)
 have tA:=((((Tr.keep k15).trans t8).trans t9).trans (Tr.keep k18)).trans (((t10.trans t11).trans t12).trans (Tr.keep (k22.trans k23)))
 have s23:=tA.sl s13 (fun b hb=>f7 b (Own.blk o13 b hb).1)
 generalize (M22.push (.row [(N .i64 0),(N .i64 0),(N .i64 0),(N .i64 0)] false TT 0)).put M22.next (.row (AV.agg [N .i64 ((([] : Dir).length:Nat) : Int),N .i64 ((tot uU.files uU.dir:Nat) : Int),N .i64 3,N .i64 2]).cells false TT 0)=M23 at *
 rw[bE]
 refine fo (p:=true) (fun _ k hk=>by rw[bE]; exact hk) ?_
 refine fo (p:=true) (fun _ k hk=>by rw[bE]; exact hk) ?_
 refine fo (p:=true) (fun _ k hk=>by rw[bE]; exact hk) ?_
 refine fo (p:=true) (fun _ k hk=>by rw[bE]; exact hk) ?_
 refine fo (p:=true) (fun _ k hk=>by rw[bE]; exact hk) ?_
 refine fo (p:=true) (fun _ k hk=>by rw[bE]; exact hk) ?_
 refine fo (p:=true) (fun _ k hk=>by rw[bE]; exact hk) ?_
 refine fo (p:=true) (fun _ k hk=>by rw[Sl.str s23,sP]; exact hk) ?_
 refine fo (p:=true) (fun _ k hk=>by rw[bE]; exact hk) ?_
 refine fo (p:=true) (fun _ k hk=>by rw[bE]; exact hk) ?_
 refine fo (p:=true) (fun _ k hk=>by rw[bE]; exact hk) ?_
 refine fo (p:=true) (fun _ k hk=>by rw[bE]; exact hk) ?_
 refine fo (p:=true) (fun _ k hk=>by rw[bE]; exact hk) ?_
 refine fo (p:=true) (fun _ k hk=>by rw[ah,aB (i:=0 + 0) h23 rfl,bE]; exact hk) ?_
 refine fo (p:=true) (fun _ k hk=>by rw[ah,aB (i:=0 + 2) h23 rfl,bE]; exact hk) ?_
 refine fo (p:=true) (fun _ k hk=>by rw[ah,aB (i:=0 + 3) h23 rfl,bE]; exact hk) ?_
 exact hQ _ (GK k0 o0 ((((((((((t1.trans (Tr.keep k3)).trans t2).trans t3).trans t4).trans (Tr.keep k7)).trans t5).trans t6).trans (Tr.keep (k10.trans k11))).trans t7).trans ((Tr.keep (k13.trans k14)).trans tA)))
abbrev n0:aK:=tH 5
abbrev n1:aK:=⟨[([],0)],[(A,0)],[],[(A,some 0,[])],5,0,0⟩
theorem f1:dC n0 [65]=(n0,1):=by decide
theorem f2:dC n0 []=(n0,1):=by decide
theorem f3:dC n0 A=(n1,0):=by decide
theorem f4:dC n1 A=(n1,12):=by decide
theorem f5:bZ n1 B' []=(n1,4):=by decide
theorem f8:jZ n1 A [65]=(n1,1):=by decide
theorem Fw {p:List Int} {i:Nat} : bU p i 1=0:=by have:=oP (p:=p) (i:=i) (n:=1) (Nat.le_refl _); omega
theorem lh {s:aK} {n:Nm} {f:Nat} {b:List UInt8} (h:fO s.dir n=some f) (hq:¬ s.aN - (tot s.files s.dir:Int)<b.length) :
  bZ s n b=({ s with files:=s.files.set f ((ed s f).1++b,(ed s f).2),app:=xU (s.app + 1) },0):=by
 unfold bZ; rw[h]; exact if_neg hq
structure Fo {α:Type} (E:Enc α) (own:aO) (M:RM) (v:AV) (xs:List α) : Prop where
 sl:Sl E M v xs
 no:∀ b∈ak v,own b=none
theorem Fo.tr {α:Type} {E:Enc α} {own own' : aO} {M M' : RM} {v:AV} {xs:List α} (h:Fo E own M v xs) (t:Tr own M own' M') : Fo E own' M' v xs :=
 ⟨t.sl h.sl h.no,fun b hb=>t.none (aT.lt h.sl b hb) (h.no b hb)⟩
theorem Gx {M:RM} {T:Nat} (xs:List UInt8) : Sl BY (M.push (.row (BY.row xs) true T 0)) (.slc M.next 0 xs.length (.op 1)) xs:=(Rw.new M xs).sl
abbrev nM:Nm:=[109]
section
variable (old now:List UInt8)
abbrev w0:aK:=tH 100000
abbrev w1:aK:=⟨[([],0)],[(nM,0)],[],[(nM,some 0,[])],100000,0,0⟩
abbrev w2:aK:=⟨[(old,0)],[(nM,0)],[],[(nM,some 0,[])],100000,1,0⟩
theorem g1:dC w0 nM=(w1,0):=by decide
theorem g2 (h:old.length≤10000) : bZ w1 nM old=(w2 old,0):=by
 rw[lh (f:=0) rfl (by show ¬ (100000:Int) - ((0:Nat) : Int)<old.length; omega)]; rfl
variable {TD TF TU TC TS:Nat} {ca cN cC cA cS cSD cRn cX cR cL:ax}
end
def jv (fs:List gK) (g:Nat) : Prop:=∀ x,fs[g]?=some x→x.2=x.1.length
def qM (fs:List gK) : Prop:=∀ f∈fs,f.2≤f.1.length
theorem xC {fs:List gK} {f:Nat} (h:jv fs f) {p:List Int} {i:Nat} : l7 fs f p i=fs:=by
 unfold l7
 rcases hg:fs[f]? with _ | x
 ·exact List.set_eq_of_length_le (List.getElem?_eq_none_iff.1 hg)
 ·have hx:=h x hg
  simp only[Option.getD_some]
  rw[show x.1.length - x.2 + 1=1 by omega,Fw,Nat.add_zero,hx,List.take_length]
  have hl:=(List.getElem?_eq_some_iff.1 hg).1
  apply List.ext_getElem?
  intro j
  by_cases hj:j=f
  ·subst hj
   rw[List.getElem?_set_self hl,hg]
   congr 1
   rw[← hx]
  ·rw[List.getElem?_set_ne (fun e=>hj e.symm)]
theorem Ai {fs:List gK} (h:qM fs) (f:Nat) (p:List Int) (i:Nat) : jv (l7 fs f p i) f∧(∀ g,jv fs g→jv (l7 fs f p i) g)∧qM (l7 fs f p i):=by
 by_cases hf:f<fs.length
 ·have hle:=h fs[f] (List.getElem_mem hf)
  have hp:bU p i ((fs[f]).1.length - (fs[f]).2 + 1)<(fs[f]).1.length - (fs[f]).2 + 1:=oP (by omega)
  have e:l7 fs f p i=fs.set f ((fs[f]).1.take ((fs[f]).2 + bU p i ((fs[f]).1.length - (fs[f]).2 + 1)),(fs[f]).2 + bU p i ((fs[f]).1.length - (fs[f]).2 + 1)):=by
   unfold l7; rw[List.getElem?_eq_getElem hf]; rfl
  rw[e]
  generalize bU p i ((fs[f]).1.length - (fs[f]).2 + 1)=k at *
  have hs:((fs[f]).2 + k)=((fs[f]).1.take ((fs[f]).2 + k)).length:=by rw[List.length_take]; omega
  refine⟨fun x hx=>?_,fun g hg x hx=>?_,fun x hx=>?_⟩
  ·rw[List.getElem?_set_self hf] at hx; cases hx; exact hs
  ·by_cases hgf:g=f
   ·subst hgf; rw[List.getElem?_set_self hf] at hx; cases hx; exact hs
   ·rw[List.getElem?_set_ne (fun e=>hgf e.symm)] at hx; exact hg x hx
  ·rcases List.mem_or_eq_of_mem_set hx with hx | rfl
   ·exact h x hx
   ·exact Nat.le_of_eq hs
 ·have hn:fs[f]?=none:=List.getElem?_eq_none_iff.2 (by omega)
  have hs:jv fs f:=fun x hx=>by rw[hn] at hx; cases hx
  rw[xC hs]
  exact⟨hs,fun _ h=>h,h⟩
theorem jU (d:Dir) (p:List Int) : ∀ (l:List Nm) (i:Nat) {fs:List gK},qM fs→(∀ g,jv fs g→jv (dZ d p l i fs) g)∧(∀ n∈l,∀ g,fO d n=some g→jv (dZ d p l i fs) g)∧qM (dZ d p l i fs)
 | [],_,fs,h=>⟨fun _ h=>h,by simp,h⟩
 | n :: l,i,fs,h=>by
   unfold dZ
   cases hn:fO d n with
   | none =>
     obtain⟨a1,a2,a3⟩:=jU d p l (i + 1) h
     refine⟨a1,fun m hm g hg=>?_,a3⟩
     rcases List.mem_cons.1 hm with rfl | hm
     ·rw[hn] at hg; cases hg
     ·exact a2 m hm g hg
   | some f =>
     dsimp only
     obtain⟨c1,c2,c3⟩:=Ai h f p i
     obtain⟨a1,a2,a3⟩:=jU d p l (i + 1) c3
     refine⟨fun g hg=>a1 g (c2 g hg),fun m hm g hg=>?_,a3⟩
     rcases List.mem_cons.1 hm with rfl | hm
     ·rw[hn] at hg; cases hg; exact a1 f c1
     ·exact a2 m hm g hg
theorem rE (d:Dir) (p:List Int) {fs:List gK} : ∀ (l:List Nm) (i:Nat),(∀ n∈l,∀ g,fO d n=some g→jv fs g)→dZ d p l i fs=fs
 | [],_,_=>rfl
 | n :: l,i,h=>by
   unfold dZ
   have hr:=rE d p l (i + 1) fun m hm=>h m (List.mem_cons_of_mem _ hm)
   cases hn:fO d n with
   | none=>exact hr
   | some f=>dsimp only; rw[xC (h n (List.mem_cons_self ..) f hn)]; exact hr
theorem A9 {s:aK} (h:qM s.files) (p q:List Int) : bS (bS s p) q=bS s p:=by
 have hD:bn (bS s p) q=bn s p:=by
  show(List.take _ ([] : List kC)).foldl jG _=_
  rw[List.take_nil]; rfl
 have e:bS (bS s p) q = { bS s p with files:=dZ (bn (bS s p) q) q (dO (aF (bn (bS s p) q))) 1 (bS s p).files,dir:=bn (bS s p) q,dB:=bn (bS s p) q,chg:=[] } := rfl
 rw[e,hD]
 have hf:(bS s p).files=dZ (bn s p) p (dO (aF (bn s p))) 1 s.files:=rfl
 rw[rE _ _ _ _ (by rw[hf]; exact(jU _ p _ 1 h).2.1)]
 rfl
theorem bu.le {TD TF TU TC db:Nat} {s:aK} {own:aO} {M:RM} (h:bu TD TF TU TC own M db s) : qM s.files:=by
 obtain⟨fbs,nm,sm,cv,h⟩:=h
 intro f hf
 obtain⟨i,hi⟩:=List.getElem?_of_mem hf
 obtain⟨b,v,hat⟩:=h.files.file i f hi
 exact hat.le
section
variable (safe more:List UInt8)
abbrev y2:aK:=⟨[(safe,0)],[(A,0)],[],[(A,some 0,[])],100000,1,0⟩
abbrev y1:aK:=⟨[([],0)],[(A,0)],[],[(A,some 0,[])],100000,0,0⟩
abbrev y3:aK:=⟨[(safe,safe.length)],[(A,0)],[],[(A,some 0,[])],100000,1,1⟩
abbrev y4:aK:=⟨[(safe,safe.length)],[(A,0)],[(A,0)],[],100000,1,2⟩
abbrev y5:aK:=⟨[(safe++more,safe.length)],[(A,0)],[(A,0)],[],100000,2,2⟩
abbrev y6:aK:=⟨[(safe++more,safe.length),([],0)],[(A,0),(B',1)],[(A,0)],[(B',some 1,[])],100000,2,2⟩
abbrev y7:aK:=⟨[(safe++more,safe.length),(more,0)],[(A,0),(B',1)],[(A,0)],[(B',some 1,[])],100000,3,2⟩
theorem h1:dC w0 A=(y1,0):=by decide
theorem h2 (h:safe.length≤10000) : bZ y1 A safe=(y2 safe,0):=by
 rw[lh (f:=0) rfl (by show ¬ (100000:Int) - ((0:Nat) : Int)<safe.length; omega)]; rfl
theorem h3:nX (y2 safe) A=(y3 safe,0):=rfl
theorem h4:jY (y3 safe)=y4 safe:=rfl
theorem h5 (h:safe.length≤10000) (h2:more.length≤10000) : bZ (y4 safe) A more=(y5 safe more,0):=by
 rw[lh (f:=0) rfl (by show ¬ (100000:Int) - ((safe.length + 0:Nat) : Int)<more.length; omega)]; rfl
theorem h6:dC (y5 safe more) B'=(y6 safe more,0):=rfl
theorem h7 (h:safe.length≤10000) (h2:more.length≤10000) : bZ (y6 safe more) B' more=(y7 safe more,0):=by
 rw[lh (f:=1) rfl (by show ¬ (100000:Int) - (((safe++more).length + (0 + 0) : Nat) : Int)<more.length; rw[List.length_append]; omega)]; rfl
end
def j6:List Nm:=[[97],[98],[99],[119,45,48,48,48,48,48,49],[120,95],[65],[],[100]]
theorem Iw (n:Int) : ∃ k:Nat,k<8∧Fp .i64 n 7=(k:Int):=by
 have h:(BitVec.ofInt 64 n &&& BitVec.ofInt 64 7).toNat≤7:=by
  rw[BitVec.toNat_and]
  exact Nat.le_trans Nat.and_le_right (by decide)
 refine⟨(BitVec.ofInt 64 n &&& BitVec.ofInt 64 7).toNat,by omega, ?_⟩
 show IntKind.wrap .i64 (((BitVec.ofInt 64 n &&& BitVec.ofInt 64 7).toNat:Nat) : Int)=_
 rw[gM (by omega) (by omega)]
def DT (c:ax) : Prop:=∀ {M:RM} {n:Int} {Q:af},(∀ k:Nat,k<8→Fp .i64 n 7=(k:Int)→∀ M',ae [] M M'→Q (St (j6[k]?.getD [])) M')→c [N .i64 n] M Q
theorem EE {T:Nat} : DT fun args M Q=>∃ a0,args=[a0]∧mV T a0 M Q:=by
 intro M n Q hQ
 refine⟨_,rfl, ?_⟩
 unfold mV
 refine⟨_,rfl, ?_⟩
 dsimp only
 rw[dD,FR]
 obtain⟨k,hk,e⟩:=Iw n
 rw[e]
 have hs:Sl wO (M.push (.row (wO.row j6) false T 0)) (.slc M.next 0 j6.length (.ex 8)) j6:=Sl.new j6
 have hlt:k<j6.length:=hk
 obtain⟨b,o,_,_,h3,h4⟩:=Sl.Ci hs (i:=k) (k:Int) hlt
 have h3:∀ (K:AV→Prop),dW (.slc M.next 0 8 (.ex 8)) (N .i64 (k:Int)) 1 K=K (.ptr b o):=fun K=>h3 .i64 K
 rw[h3,eX]
 have h5:(M.push (.row [(St [97]),(St [98]),(St [99]),(St [119,45,48,48,48,48,48,49]),(St [120,95]),(St [65]),(St []),(St [100])] false T 0)).cell b o=some (St j6[k]):=h4 (St j6[k]) rfl
 refine⟨_,h5, ?_⟩
 have hn:j6[k]?.getD []=j6[k]:=by rw[List.getElem?_eq_getElem hlt]; rfl
 rw[← hn]
 exact hQ k hk e _ ((ae.refl _ _).push _)
def j4 (s:aK) : List Nm→List UInt8→List UInt8
 | [],a=>a
 | n :: l,a=>j4 s l (a++n++[10]++(j5 s n).1++[10,10])
def Gq (s:aK) : List UInt8:=j4 s (dO (aF s.dir)) []
theorem uX (s:aK) (n:Nm) : ∀ (l:List Nm) (a:List UInt8),j4 s (l++[n]) a=j4 s l a++n++[10]++(j5 s n).1++[10,10]
 | [],a=>rfl
 | m :: l,a=>by simp only[List.cons_append,j4]; exact uX s n l _
variable {TD TF TU TC TS:Nat}
def Dx (TD TF TU TC:Nat) (c:ax) : Prop:=∀ {own:aO} {M:RM} {db:Nat} {s:aK} {Q:af},bu TD TF TU TC own M db s→s.dir.length≤1000→gY s.dir→(∀ f∈s.files,f.1.length≤1000000) →
 (∀ M',ae [] M M'→Q (St (Gq s)) M')→c [.ptr db 0] M Q
theorem Fg {s:aK} {b:Nat} (h:∀ f∈s.files,f.1.length≤b) (n:Nm) : (j5 s n).1.length≤b:=by
 unfold j5 ed
 cases fO s.dir n with
 | none=>simp
 | some f =>
   dsimp only
   rcases hg:s.files[f]? with _ | x
   ·simp
   ·exact h x (List.mem_of_getElem? hg)
theorem Eo {cL cR:ax} (hL:uP TD TF TU TC TS cL) (hR:yI TD TF TU TC cR) : Dx TD TF TU TC fun args M Q=>∃ a0,args=[a0]∧nD cL cR a0 M Q:=by
 intro own M db s Q hd hlen hw hf hQ
 refine⟨_,rfl, ?_⟩
 unfold nD
 refine hL hd (by omega) hw fun v M1 o1 k1=>?_
 have hll:(dO (aF s.dir)).length=s.dir.length:=by rw[(gF _).length_eq,aF,List.length_map]
 have Jv:∀ n∈dO (aF s.dir),n.length≤64:=fun n hn=>hw.2 n ((gF _).mem_iff.1 hn)
 unfold Gq at hQ
 generalize dO (aF s.dir)=l at *
 refine kJ (fun z ys M2=>∃ i:Nat,z=l.length - i∧ys=[St (j4 s (l.take i) []),N .i64 (i:Int)]∧i≤l.length∧(j4 s (l.take i) []).length≤i * 1000067∧ae [] M1 M2) l.length
  ⟨0,rfl,rfl,Nat.zero_le _,by simp[j4],ae.refl _ _⟩ ?_
 rintro next z ys M2 hnext ⟨i,rfl,rfl,hil,hln,k2⟩
 dsimp only[bG]
 have s2:Sl wO M2 v l:=aT.keep (Own.uz o1) k2 (by simp)
 rw[aT.len s2,CW]
 refine eG (fun hlt=>?_) (fun hge=>?_)
 ·have hlt:i<l.length:=of_decide_eq_true hlt
  obtain⟨b,o,_,_,h3,h4⟩:=Sl.Ci s2 (i:=i) (i:Int) hlt
  rw[h3,eX,h4 (St l[i]) rfl]
  simp only[Option.some.injEq,exists_eq_left']
  refine hR (hd.keep (k1.trans k2)) (fun f hm=>by have:=hf f hm; omega) fun w M3 k3 o3=>?_
  have s3:Sl wO M3 v l:=aT.keep s2 k3 (by simp)
  obtain⟨b',o',_,_,h3',h4'⟩:=Sl.Ci s3 (i:=i) (i:Int) hlt
  rw[oC,qU,h3',eX,h4' (St l[i]) rfl]
  simp only[Option.some.injEq,exists_eq_left']
  have hr:=Fg hf l[i]
  have hn:=Jv l[i] (List.getElem_mem hlt)
  have hi:i * 1000067≤1000 * 1000067:=Nat.mul_le_mul_right _ (by omega)
  have hst:j4 s (l.take (i + 1)) []=j4 s (l.take i) []++l[i]++[10]++(j5 s l[i]).1++[10,10]:=by
   rw[List.take_succ_eq_append_getElem hlt,uX]
  rw[oo]
  refine⟨by omega, ?_⟩
  rw[oo]
  refine⟨by simp only[List.length_append,List.length_cons,List.length_nil]; omega, ?_⟩
  rw[Sl.str (Own.uz o3),oo]
  refine⟨by simp only[List.length_append,List.length_cons,List.length_nil]; omega, ?_⟩
  rw[oo]
  refine⟨by simp only[List.length_append,List.length_cons,List.length_nil]; omega, ?_⟩
  rw[add1 (by omega),← hst]
  refine hnext _ _ _ (by omega) ⟨i + 1,rfl,rfl,by omega, ?_,k2.trans k3⟩
  rw[hst]
  simp only[List.length_append,List.length_cons,List.length_nil]
  omega
 ·have he:i=l.length:=by
   have:¬ i<l.length:=of_decide_eq_false hge
   omega
  subst he
  rw[List.take_length]
  exact hQ _ (k1.trans k2)
end Go.Ab.Dk
namespace Go.Ab.Dk
open Go Go.Ab
abbrev qb:=(Int × Int × Int × Int) × (List UInt8 × {x:AV // oneCell x=true})
def iJ:Enc qb:=⟨6,fun a=>[N .i64 a.1.1,N .i64 a.1.2.1,N .i64 a.1.2.2.1,N .i64 a.1.2.2.2,St a.2.1,a.2.2.1],fun _=>rfl,fun a=>by simp only[List.all_cons,a.2.2.2,List.all_nil,Bool.and_true]; rfl⟩
structure gD (s:aK) (i:Nat) : Prop where
 aN:s.aN=100000
 chg:s.chg.length≤i
 dir:s.dir.length≤i
 dB:s.dB.length≤i
 dw:gY s.dir
 sw:gY s.dB
 cw:∀ c∈s.chg,c.1.length≤64
 files:∀ f∈s.files,f.1.length≤100000
theorem gD.mono {s:aK} {i j:Nat} (h:gD s i) (hj:i≤j) : gD s j:=⟨h.aN,Nat.le_trans h.chg hj,Nat.le_trans h.dir hj,Nat.le_trans h.dB hj,h.dw,h.sw,h.cw,h.files⟩
theorem zJ {s:aK} {b:Nat} (h:∀ f∈s.files,f.1.length≤b) (f:Nat) : (ed s f).1.length≤b:=by
 unfold ed
 rcases hg:s.files[f]? with _ | x
 ·simp
 ·exact h x (List.mem_of_getElem? hg)
theorem EY {fs:List gK} {b:Nat} (h:∀ f∈fs,f.1.length≤b) : ∀ d:Dir,tot fs d≤d.length * b
 | []=>Nat.zero_le _
 | e :: d=>by
   have:=EY h d
   have h2:(fs[e.2]?.getD ([],0)).1.length≤b:=by
    rcases hg:fs[e.2]? with _ | x
    ·simp
    ·exact h x (List.mem_of_getElem? hg)
   simp only[tot,List.length_cons,Nat.succ_mul]; omega
theorem Cb {fs:List gK} {n:Nm} {f:Nat} : ∀ {d:Dir},fO d n=some f→(fs[f]?.getD ([],0)).1.length≤tot fs d
 | [],h=>by cases h
 | e :: d,h=>by
   unfold fO at h
   simp only[tot]
   by_cases hn:n=e.1
   ·rw[if_pos hn] at h; cases h; omega
   ·rw[if_neg hn] at h
    have:=Cb (fs:=fs) h; omega
theorem rX {s:aK} {i:Nat} (h:gD s i) {c:kC} (hc:c.1.length≤64) : gD (r9 s c) (i + 1):=by
 refine⟨h.aN, ?_, ?_,Nat.le_succ_of_le h.dB,D7 h.dw hc,h.sw,fun x hx=>?_,h.files⟩
 ·have:=h.chg; simp only[r9,List.length_append,List.length_cons,List.length_nil]; omega
 ·have:=h.dir; have:=Cg s.dir c; simp only[r9]; omega
 ·simp only[r9,List.mem_append,List.mem_singleton] at hx
  rcases hx with hx | rfl
  ·exact h.cw x hx
  ·exact hc
theorem Ak {n:Nm} (h:¬ jC n=false) : n.length≤64:=by
 simp only[Bool.not_eq_false,jC,Bool.and_eq_true,decide_eq_true_eq] at h
 exact h.2.1
theorem Bl {s:aK} {i:Nat} (h:gD s i) (n:Nm) : gD (dC s n).1 (i + 1):=by
 unfold dC
 split
 ·exact h.mono (Nat.le_succ _)
 ·rename_i hg
  split
  ·exact h.mono (Nat.le_succ _)
  ·refine rX (s := { s with files:=s.files++[([],0)] }) ⟨h.aN,h.chg,h.dir,h.dB,h.dw,h.sw,h.cw,fun f hf=>?_⟩ (Ak hg)
   simp only[List.mem_append,List.mem_singleton] at hf
   rcases hf with hf | rfl
   ·exact h.files f hf
   ·simp
theorem Bw {s:aK} {i:Nat} (h:gD s i) (n:Nm) (b:List UInt8) : gD (bZ s n b).1 (i + 1):=by
 unfold bZ
 split
 ·exact h.mono (Nat.le_succ _)
 ·rename_i f hf
  split
  ·exact h.mono (Nat.le_succ _)
  ·rename_i hq
   refine⟨h.aN,Nat.le_succ_of_le h.chg,Nat.le_succ_of_le h.dir,Nat.le_succ_of_le h.dB,h.dw,h.sw,h.cw,fun x hx=>?_⟩
   rcases List.mem_or_eq_of_mem_set hx with hx | rfl
   ·exact h.files x hx
   ·have h1:=Cb (fs:=s.files) hf
    have h2:=h.aN
    show((ed s f).1++b).length≤100000
    unfold ed
    rw[List.length_append]; omega
theorem EW {s:aK} {i:Nat} (h:gD s i) (n:Nm) : gD (nX s n).1 (i + 1):=by
 unfold nX
 split
 ·exact h.mono (Nat.le_succ _)
 ·rename_i f hf
  refine⟨h.aN,Nat.le_succ_of_le h.chg,Nat.le_succ_of_le h.dir,Nat.le_succ_of_le h.dB,h.dw,h.sw,h.cw,fun x hx=>?_⟩
  rcases List.mem_or_eq_of_mem_set hx with hx | rfl
  ·exact h.files x hx
  ·exact zJ h.files f
theorem Bh {s:aK} {i:Nat} (h:gD s i) (n to:Nm) : gD (jZ s n to).1 (i + 1):=by
 unfold jZ
 split
 ·exact h.mono (Nat.le_succ _)
 ·split
  ·exact h.mono (Nat.le_succ _)
  ·rename_i hg
   exact rX h (Ak hg)
theorem Bd {s:aK} {i:Nat} (h:gD s i) (n:Nm) : gD (ja s n).1 (i + 1):=by
 unfold ja
 split
 ·exact h.mono (Nat.le_succ _)
 ·exact rX h (by simp)
theorem Ad {s:aK} {i:Nat} (h:gD s i) : gD (jY s) (i + 1) :=
 ⟨h.aN,Nat.zero_le _,Nat.le_succ_of_le h.dir,Nat.le_succ_of_le h.dir,h.dw,h.dw,(by simp[jY]),h.files⟩
theorem og (d:Dir) (p:List Int) {b:Nat} : ∀ (l:List Nm) (i:Nat) {fs:List gK},(∀ f∈fs,f.1.length≤b)→∀ f∈dZ d p l i fs,f.1.length≤b
 | [],_,fs,h=>h
 | n :: l,i,fs,h=>by
   unfold dZ
   cases fO d n with
   | none=>exact og d p l (i + 1) h
   | some g =>
     refine og d p l (i + 1) fun x hx=>?_
     unfold l7 at hx
     rcases List.mem_or_eq_of_mem_set hx with hx | rfl
     ·exact h x hx
     ·show(List.take _ _).length≤b
      rw[List.length_take]
      have:=zJ (s:=⟨fs,[],[],[],0,0,0⟩) h g
      unfold ed at this
      have h2:(fs[g]?.getD ([],0)).1.length≤b:=this
      omega
variable {TD TF TU TC TS:Nat}
def sN (TD TF TU TC:Nat) (c:ax) : Prop:=∀ {own:aO} {M:RM} {db:Nat} {s:aK} {n:Nm} {v:AV} {b:List UInt8} {Q:af},bu TD TF TU TC own M db s→Sl BY M v b→tot s.files s.dir<4611686018427387904→0≤s.aN→s.aN<9223372036854775808 →
 s.aN - (tot s.files s.dir:Int)<b.length→(∀ e M',(bZ s n b).1=s→ae [] M M'→Q (N .i64 e) M')→c [.ptr db 0,St n,v] M Q
theorem uM {ct ca:ax} (ht:qg TD TF TU TC ct) : sN TD TF TU TC fun args M Q=>∃ a0 a1 a2,args=[a0,a1,a2]∧cZ ct TU ca a0 a1 a2 M Q:=by
 intro own M db s n u ys Q hd hu htot hq0 hq1 hfull hQ
 have hd0:=hd
 obtain⟨fbs,nm,sm,cv,hd⟩:=hd
 refine⟨_,_,_,rfl, ?_⟩
 unfold cZ
 rw[au,ah,aB (i:=0 + 1) hd.row rfl]
 unfold bZ at hQ
 refine eZ hd.names (fun hn=>?_) (fun f b hf hb=>?_)
 ·rw[hn] at hQ
  rw[bX,Bool.not_false,j3]
  exact hQ _ M rfl (ae.refl _ _)
 ·rw[hf] at hQ
  dsimp only at hQ
  rw[if_pos hfull] at hQ
  rw[bT,je,aT.len hu,au,ah,aB (i:=0 + 0) hd.row rfl]
  refine ht hd0 htot fun M1 k1=>?_
  have hd1:=hd.keep k1
  rw[aB (i:=0 + 0) hd1.row rfl]
  refine⟨rfl, ?_⟩
  rw[sG,gM (by omega) (by omega),rV,show decide ((ys.length:Int) > s.aN - (tot s.files s.dir:Int))=true from decide_eq_true hfull,j3]
  exact hQ _ M1 rfl k1
end Go.Ab.Dk
namespace Go.Ab.Dk
open Go Go.Ab
variable {TD TF TU TC TS:Nat}
def IW (c:ax) : Prop:=∀ {M:RM} {l:List qb} {v0 v1 v2:AV} {p q:List Int} {Q:af},Sl iJ M v0 l→Sl INT M v1 p→Sl INT M v2 q→(∀ M',Q (Bo true) M')→c [v0,v1,v2] M Q
theorem lI {M:RM} {v:AV} {l:List qb} (h:Sl iJ M v l) {i:Nat} (hi:i<l.length) (j:Nat) {x:AV} (hx:(iJ.cells l[i])[j]?=some x) {K:AV→Prop} :
  (dW v (N .i64 (i:Int)) 6 fun p=>aJ p j fun q=>aD M q K)=K x:=by
 obtain⟨b,o,_,_,hidx,hld⟩:=Sl.at (E:=iJ) h 6 (i:Int) hi rfl rfl
 rw[hidx,ah,eX,kP hld hx]
 simp
theorem BG {M:RM} {v:AV} {l:List qb} (h:Sl iJ M v l) {i:Nat} (hi:i<l.length) (j:Nat) : ∃ b o,(∀ K:AV→Prop,(dW v (N .i64 (i:Int)) 6 fun p=>aJ p j fun q=>K q)=K (.ptr b (o + j))) ∧
  ∀ {M' : RM},ae [] M M'→∀ {x:AV},(iJ.cells l[i])[j]?=some x→∀ K:AV→Prop,aD M' (.ptr b (o + j)) K=K x:=by
 obtain⟨b,o,hlt,_,hidx,hld⟩:=Sl.at (E:=iJ) h 6 (i:Int) hi rfl rfl
 refine⟨b,o,fun K=>by rw[hidx,ah],fun k x hx K=>?_⟩
 rw[eX,k.cell hlt (by simp),kP hld hx]
 simp
theorem D5 {ca cN cn cC cA cS cRn cRm cSD cX cT:ax} (ha:uu ca) (hN:DX TD TF TU TC cN) (hn:DT cn) (hC:wS TD TF TU TC dC cC) (hA:rf TD TF TU TC cA) (hAF:sN TD TF TU TC cA) (hS:yE TD TF TU TC cS)
  (hRn:qZ TD TF TU TC cRn) (hRm:wS TD TF TU TC ja cRm) (hSD:oL TD TF TU TC cSD) (hX:uj TD TF TU TC cX) (hT:Dx TD TF TU TC cT) :
  IW fun args M Q=>∃ a0 a1 a2,args=[a0,a1,a2]∧ic ca cN cn cC TU cA cS cRn cRm cSD cX cT a0 a1 a2 M Q:=by
 intro M l v0 v1 v2 p q Q h0 h1 h2 hQ
 refine⟨_,_,_,rfl, ?_⟩
 unfold ic
 simp only[uo]
 refine ha fun M0 k0=>?_
 have h0:=aT.keep h0 k0 (by simp)
 have h1:Sl INT M0 v1 p:=aT.keep h1 k0 (by simp)
 have h2:Sl INT M0 v2 q:=aT.keep h2 k0 (by simp)
 have h0:Sl iJ M0 v0 l:=h0
 rw[vE,Bool.not_true,je,aT.len h0,show(N .i64 (40:Int))=N .i64 ((40:Nat) : Int) from rfl,JD]
 refine eG (fun _=>hQ _) (fun hc=>?_)
 have hlen:l.length≤40:=by have:=of_decide_eq_false hc; omega
 refine hN (fun h=>absurd h (by decide)) fun _ own M1 db d0 o0 k1=>?_
 have f0:Fo iJ own M1 v0 l:=⟨aT.keep h0 k1 (by simp),fun b hb=>o0 b (aT.lt h0 b hb)⟩
 have f1:Fo INT own M1 v1 p:=⟨aT.keep h1 k1 (by simp),fun b hb=>o0 b (aT.lt h1 b hb)⟩
 have f2:Fo INT own M1 v2 q:=⟨aT.keep h2 k1 (by simp),fun b hb=>o0 b (aT.lt h2 b hb)⟩
 rw[oC,qU]
 have wf0:gY []:=⟨by decide,by decide⟩
 refine kJ (fun z ys M2=>∃ (i:Nat) (ny:aO) (s:aK),z=l.length - i∧ys=[N .i64 (i:Int)]∧i≤l.length∧bu TD TF TU TC ny M2 db s∧Tr own M1 ny M2∧gD s i) l.length
  ⟨0,own,_,rfl,rfl,Nat.zero_le _,d0,Tr.refl _ _,⟨rfl,Nat.le_refl _,Nat.le_refl _,Nat.le_refl _,wf0,wf0,by simp[tH],by simp[tH]⟩⟩ ?_
 rintro next z ys M2 hnext ⟨i,ny,s,rfl,rfl,hil,d2,t2,inv⟩
 dsimp only[bG]
 have g0:=f0.tr t2
 have hl:=g0.sl
 rw[aT.len hl,CW]
 have hch:s.chg.length≤1000000000:=by have:=inv.chg; omega
 have htl:=EY inv.files s.dir
 have hdl:=Nat.mul_le_mul_right 100000 inv.dir
 refine eG (fun hlt=>?_) (fun hge=>?_)
 ·have hlt:i<l.length:=of_decide_eq_true hlt
  refine tZ (fun zs M'=>∃ (own' : aO) (s' : aK),bu TD TF TU TC own' M' db s'∧Tr ny M2 own' M'∧gD s' (i + 1)) ?_ ?_
  ·rintro zs M3 ⟨FN,s3,d3,t3,Kj⟩
   rw[add1 (by omega)]
   exact hnext _ _ _ (by omega) ⟨i + 1,FN,s3,rfl,rfl,by omega,d3,t2.trans t3,Kj⟩
  intro J hJ
  obtain⟨op,a,b,n,data,pk,hact⟩ : ∃ op a b n data pk,l[i]=(((op,a,b,n),(data,pk)) : qb):=⟨_,_,_,_,_,_,rfl⟩
  have c0:(iJ.cells l[i])[0]?=some (N .i64 op):=by rw[hact]; rfl
  have c1:(iJ.cells l[i])[1]?=some (N .i64 a):=by rw[hact]; rfl
  have c2:(iJ.cells l[i])[2]?=some (N .i64 b):=by rw[hact]; rfl
  have c4:(iJ.cells l[i])[4]?=some (St data):=by rw[hact]; rfl
  rw[lI hl hlt 0 c0,bE]
  refine eG (fun _=>?_) (fun _=>?_)
  ·rw[lI hl hlt 1 c1]
   refine hn fun k _ _ M3 k3=>?_
   refine hC (d2.keep k3) hch fun qj M4 d4 t4=>?_
   exact hJ _ _ ⟨qj,_,d4,(Tr.keep k3).trans t4,Bl inv _⟩
  rw[bE]
  refine eG (fun _=>?_) (fun _=>?_)
  ·rw[lI hl hlt 1 c1]
   obtain⟨pb,po,hp1,hp2⟩:=BG hl hlt 4
   rw[hp1,hp2 (ae.refl _ _) c4,wN,BH]
   have k3:ae [] M2 (M2.push (.row (BY.row data) true TU 0)):=(ae.refl _ _).push _
   have n3:(M2.push (.row (BY.row data) true TU 0)).next=M2.next + 1:=aM _
   have r3:(M2.push (.row (BY.row data) true TU 0)).heap M2.next=some (.row (BY.row data) true TU 0):=RM.bz _
   have s3:Sl BY (M2.push (.row (BY.row data) true TU 0)) (.slc M2.next 0 data.length (.op 1)) data:=Gx data
   generalize M2.push (.row (BY.row data) true TU 0)=M3 at *
   refine hn fun k _ _ M4 k4=>?_
   rw[hp2 (k3.trans k4) c4]
   refine⟨rfl, ?_⟩
   rw[wN]
   refine⟨⟨k4.bI r3 (by omega) (by simp),rfl⟩, ?_⟩
   have s4:Sl BY M4 (.slc M2.next 0 data.length (.op 1)) data:=aT.keep s3 k4 (by simp)
   have d4:=(d2.keep k3).keep k4
   have hq:=inv.aN
   by_cases hfull:s.aN - (tot s.files s.dir:Int)<data.length
   ·refine hAF d4 s4 (by omega) (by omega) (by omega) hfull fun e M5 _ k5=>?_
    exact hJ _ _ ⟨ny,s,d4.keep k5,Tr.keep ((k3.trans k4).trans k5),inv.mono (Nat.le_succ _)⟩
   ·refine hA d4 s4 (by omega) (by omega) (by omega) (fun f hf=>by have:=inv.files f hf; omega) fun zU M5 d5 t5=>?_
    exact hJ _ _ ⟨zU,_,d5,(Tr.keep (k3.trans k4)).trans t5,Bw inv _ _⟩
  rw[bE]
  refine eG (fun _=>?_) (fun _=>?_)
  ·rw[lI hl hlt 1 c1]
   refine hn fun k _ _ M3 k3=>?_
   refine hS (d2.keep k3) fun qj M4 d4 t4=>?_
   exact hJ _ _ ⟨qj,_,d4,(Tr.keep k3).trans t4,EW inv _⟩
  rw[bE]
  refine eG (fun _=>?_) (fun _=>?_)
  ·rw[lI hl hlt 1 c1]
   obtain⟨pb,po,hp1,hp2⟩:=BG hl hlt 2
   rw[hp1,hp2 (ae.refl _ _) c2]
   refine hn fun k _ _ M3 k3=>?_
   rw[hp2 k3 c2]
   refine⟨rfl, ?_⟩
   refine hn fun k' _ _ M4 k4=>?_
   refine hRn ((d2.keep k3).keep k4) hch fun zU M5 d5 t5=>?_
   exact hJ _ _ ⟨zU,_,d5,(Tr.keep (k3.trans k4)).trans t5,Bh inv _ _⟩
  rw[bE]
  refine eG (fun _=>?_) (fun _=>?_)
  ·rw[lI hl hlt 1 c1]
   refine hn fun k _ _ M3 k3=>?_
   refine hRm (d2.keep k3) hch fun qj M4 d4 t4=>?_
   exact hJ _ _ ⟨qj,_,d4,(Tr.keep k3).trans t4,Bd inv _⟩
  rw[bE]
  refine eG (fun _=>?_) (fun _=>?_)
  ·refine hSD d2 fun qj M4 d4 t4=>?_
   exact hJ _ _ ⟨qj,_,d4,t4,Ad inv⟩
  ·exact hJ _ _ ⟨ny,s,d2,Tr.refl _ _,inv.mono (Nat.le_succ _)⟩
 ·have g1:=f1.tr t2
  have g2:=f2.tr t2
  have hfil:=d2.le
  have hfl:∀ f∈s.files,f.1.length≤140737488355328:=fun f hf=>by have:=inv.files f hf; omega
  refine hX d2 g1.sl g1.no hch (by have:=inv.dB; omega) inv.sw inv.cw hfl fun FN M3 d3 t3=>?_
  have g2:=g2.tr t3
  have hag:=A9 hfil p q
  have hdl2:(bS s p).dir.length≤80:=by
   have:=tu (s.chg.take (bU p 0 (s.chg.length + 1))) s.dB
   have h1:=inv.chg; have h2:=inv.dB
   rw[List.length_take] at this
   show((s.chg.take (bU p 0 (s.chg.length + 1))).foldl jG s.dB).length≤80
   omega
  have Fh:gY (bS s p).dir:=wD _ inv.sw (fun c hc=>inv.cw c (List.mem_of_mem_take hc))
  have hsd:(bS s p).dB=(bS s p).dir:=rfl
  have hcg:(bS s p).chg=[]:=rfl
  have F4:∀ f∈(bS s p).files,f.1.length≤100000:=og _ _ _ _ inv.files
  generalize bS s p=s' at *
  refine hT d3 (by omega) Fh (fun f hf=>by have:=F4 f hf; omega) fun M4 k4=>?_
  have d4:=d3.keep k4
  have g2:=g2.tr (Tr.keep k4)
  refine hX d4 g2.sl g2.no (by rw[hcg]; simp) (by rw[hsd]; omega) (by rw[hsd]; exact Fh) (by rw[hcg]; simp) (fun f hf=>by have:=F4 f hf; omega) fun zU M5 d5 t5=>?_
  rw[hag] at d5
  refine hT d5 (by omega) Fh (fun f hf=>by have:=F4 f hf; omega) fun M6 k6=>?_
  rw[sP,beq_self_eq_true]
  exact hQ _
end Go.Ab.Dk
