/- Part 4 of the ground of the proofs of this seat (texts K9 to K9). By an AI agent. -/
import Derived.Test.YtckpmlcaaagnkaaDoorDks3
set_option maxRecDepth 10000
set_option linter.unusedVariables false
set_option linter.unusedSimpArgs false
namespace Go.Ab.Dk
open Go Go.Ab
def xC (fs:List iY) : Prop:=∀ f∈fs,f.2=f.1.length
theorem Ew {p:List Int} {i:Nat} : bV p i 1=0:=by have:=oK (p:=p) (i:=i) (n:=1) (Nat.le_refl _); omega
theorem C8 {fs:List iY} (h:xC fs) {f:Nat} {p:List Int} {i:Nat} : yX fs f p i=fs:=by
 unfold yX
 rcases hg:fs[f]? with _ | x
 ·have:fs.length≤f:=List.getElem?_eq_none_iff.1 hg
  exact List.set_eq_of_length_le this
 ·have hx:=h x (List.mem_of_getElem? hg)
  simp only[Option.getD_some]
  rw[show x.1.length - x.2 + 1=1 by omega,Ew,Nat.add_zero,hx,List.take_length]
  have hl:=(List.getElem?_eq_some_iff.1 hg).1
  have hv:=(List.getElem?_eq_some_iff.1 hg).2
  apply List.ext_getElem?
  intro j
  by_cases hj:j=f
  ·subst hj
   rw[List.getElem?_set_self hl,hg]
   congr 1
   rw[← hx]
  ·rw[List.getElem?_set_ne (fun e=>hj e.symm)]
theorem mG {fs:List iY} (h:xC fs) (d:Dir) (p:List Int) : ∀ (l:List Nm) (i:Nat),kg d p l i fs=fs
 | [],_=>rfl
 | n :: l,i=>by
   unfold kg
   cases iN d n with
   | none=>exact mG h d p l _
   | some f=>dsimp only; rw[C8 h]; exact mG h d p l _
theorem mP {s:aT} (h:xC s.files) (p:List Int) : gH s p = { s with dir:=bC s p,iq:=bC s p,chg:=[] } := by
 unfold gH; rw[mG h]
theorem tH {s:aT} {n:Nm} {f:Nat} {b:List UInt8} (h:iN s.dir n=some f) (hq:¬ s.bB - (tot s.files s.dir:Int)<b.length) :
  fG s n b=({ s with files:=s.files.set f ((ik s f).1++b,(ik s f).2),app:=vR (s.app + 1) },0):=by
 unfold fG; rw[h]; exact if_neg hq
structure Fo {α:Type} (E:Enc α) (own:aP) (M:RM) (v:AV) (xs:List α) : Prop where
 sl:Sl E M v xs
 no:∀ b∈av v,own b=none
theorem Fo.tr {α:Type} {E:Enc α} {own own' : aP} {M M' : RM} {v:AV} {xs:List α} (h:Fo E own M v xs) (t:Tr own M own' M') : Fo E own' M' v xs :=
 ⟨t.sl h.sl h.no,fun b hb=>t.none (bu.lt h.sl b hb) (h.no b hb)⟩
theorem AX {M:RM} {T:Nat} (xs:List UInt8) : Sl BY (M.push (.row (BY.row xs) true T 0)) (.slc M.next 0 xs.length (.op 1)) xs:=(Rw.new M xs).sl
abbrev nM:Nm:=[109]
abbrev nT:Nm:=[116]
section
variable (old now:List UInt8)
abbrev w0:aT:=BS 100000
abbrev w1:aT:=⟨[([],0)],[(nM,0)],[],[(nM,some 0,[])],100000,0,0⟩
abbrev w2:aT:=⟨[(old,0)],[(nM,0)],[],[(nM,some 0,[])],100000,1,0⟩
abbrev w3:aT:=⟨[(old,old.length)],[(nM,0)],[],[(nM,some 0,[])],100000,1,1⟩
abbrev w4:aT:=⟨[(old,old.length)],[(nM,0)],[(nM,0)],[],100000,1,2⟩
abbrev w5:aT:=⟨[(old,old.length),([],0)],[(nM,0),(nT,1)],[(nM,0)],[(nT,some 1,[])],100000,1,2⟩
abbrev w6:aT:=⟨[(old,old.length),(now,0)],[(nM,0),(nT,1)],[(nM,0)],[(nT,some 1,[])],100000,2,2⟩
abbrev w7:aT:=⟨[(old,old.length),(now,now.length)],[(nM,0),(nT,1)],[(nM,0)],[(nT,some 1,[])],100000,2,3⟩
abbrev w8:aT:=⟨[(old,old.length),(now,now.length)],[(nM,1)],[(nM,0)],[(nT,some 1,[]),(nM,some 1,nT)],100000,2,3⟩
abbrev w9:aT:=⟨[(old,old.length),(now,now.length)],[(nM,1)],[(nM,1)],[],100000,2,4⟩
theorem g1:gZ w0 nM=(w1,0):=by decide
theorem g2 (h:old.length≤10000) : fG w1 nM old=(w2 old,0):=by
 rw[tH (f:=0) rfl (by show ¬ (100000:Int) - ((0:Nat) : Int)<old.length; omega)]; rfl
theorem g3:nI (w2 old) nM=(w3 old,0):=rfl
theorem g4:lq (w3 old)=w4 old:=rfl
theorem g5:gZ (w4 old) nT=(w5 old,0):=rfl
theorem g6 (h:old.length≤10000) (h2:now.length≤10000) : fG (w5 old) nT now=(w6 old now,0):=by
 rw[tH (f:=1) rfl (by show ¬ (100000:Int) - ((old.length + (0 + 0) : Nat) : Int)<now.length; omega)]; rfl
theorem g7:nI (w6 old now) nT=(w7 old now,0):=rfl
theorem g8:nk (w7 old now) nT nM=(w8 old now,0):=rfl
theorem g9:lq (w8 old now)=w9 old now:=rfl
theorem BC:xC (w8 old now).files:=by
 intro f hf
 simp only[List.mem_cons,List.not_mem_nil,or_false] at hf
 rcases hf with rfl | rfl <;> rfl
theorem F4 (p:List Int) : gH (w9 old now) p=w9 old now:=by
 rw[mP (s:=w9 old now) (BC old now)]
 have:bC (w9 old now) p=[(nM,1)]:=by
  show(List.take _ ([] : List jY)).foldl jq _=_
  rw[List.take_nil]; rfl
 rw[this]
theorem Hd (p:List Int) : (jL (gH (w8 old now) p) nM).2=0∧((jL (gH (w8 old now) p) nM).1=old∨(jL (gH (w8 old now) p) nM).1=now):=by
 rw[mP (BC old now)]
 have hk:bV p 0 3<3:=oK (by omega)
 have hD:bC (w8 old now) p=(([(nT,some 1,[]),(nM,some 1,nT)] : List jY).take (bV p 0 3)).foldl jq [(nM,0)]:=rfl
 rw[hD]
 generalize bV p 0 3=k at *
 rcases k with _ | _ | _ | k
 ·exact⟨rfl,.inl rfl⟩
 ·exact⟨rfl,.inl rfl⟩
 ·exact⟨rfl,.inr rfl⟩
 ·omega
def FI (c:aA) : Prop:=∀ {M:RM} {b:Bool} {v:AV} {p:List Int} {Q:af},Sl INT M v p→(∀ M',Q (Bo true) M')→c [St old,St now,Bo b,v] M Q
variable {TD TF TU TC TS:Nat} {ca cN cC cA cS cSD cRn cX cR cL:aA}
theorem Aa (ha:sK ca) (hN:Bw TD TF TU TC cN) (hC:yF TD TF TU TC gZ cC) (hA:qA TD TF TU TC cA) (hS:wW TD TF TU TC cS) (hSD:nV TD TF TU TC cSD)
  (hRn:qH TD TF TU TC cRn) (hX:tC TD TF TU TC cX) (hR:xD TD TF TU TC cR) (hL:sI TD TF TU TC TS cL) : FI old now fun args M Q=>∃ a0 a1 a2 a3,args=[a0,a1,a2,a3]∧fO ca cN cC TU cA cS cSD cRn cX cR cL a0 a1 a2 a3 M Q:=by
 intro M b v p Q hv hQ
 refine⟨_,_,_,_,rfl, ?_⟩
 unfold fO
 simp only[xH,uy]
 refine ha fun M0 k0=>?_
 rw[vC,Bool.not_true,iD,l5,show(N .i64 (10000:Int))=N .i64 ((10000:Nat) : Int) from rfl,Gu]
 refine Er (p:=decide (now.length > 10000)) (fun _ k hk=>by rw[l5,Gu]; exact hk) ?_
 refine jN (fun _=>hQ _) (fun hc=>?_)
 rw[Bool.or_eq_false_iff] at hc
 have l1:old.length≤10000:=by have:=of_decide_eq_false hc.1; omega
 have l2:now.length≤10000:=by have:=of_decide_eq_false hc.2; omega
 have hv0:Sl INT M0 v p:=bu.keep hv k0 (by simp)
 refine hN (fun h=>absurd h (by decide)) fun _ own M1 db d0 o0 k1=>?_
 have fv:Fo INT own M1 v p:=⟨bu.keep hv0 k1 (by simp),fun b hb=>o0 b (bu.lt hv0 b hb)⟩
 rw[l9,nX]
 refine hC d0 (by decide) fun IC M2 d1 t1=>?_
 have fv:=fv.tr t1
 rw[g1] at d1
 rw[vZ,cz]
 have k2:ae [] M2 (M2.push (.row (BY.row old) true TU 0)):=(ae.refl _ _).push _
 have fv:=fv.tr (Tr.keep k2)
 refine hA (d1.keep k2) (AX old) (by decide) (by decide) (by decide) (by simp; omega) fun BA M3 d2 t2=>?_
 have fv:=fv.tr t2
 rw[g2 old l1] at d2
 refine hS d2 fun Jr M4 d3 t3=>?_
 have fv:=fv.tr t3
 rw[g3] at d3
 refine hSD d3 fun Jl M5 d4 t4=>?_
 have fv:=fv.tr t4
 rw[g4] at d4
 refine hC d4 (by simp) fun Jf M6 d5 t5=>?_
 have fv:=fv.tr t5
 rw[g5] at d5
 rw[vZ,cz]
 have k6:ae [] M6 (M6.push (.row (BY.row now) true TU 0)):=(ae.refl _ _).push _
 have fv:=fv.tr (Tr.keep k6)
 refine hA (d5.keep k6) (AX now) (by show(old.length + (0 + 0) : Nat)<_; omega) (by simp) (by simp) (by simp; omega) fun IX M7 d6 t6=>?_
 have fv:=fv.tr t6
 rw[g6 old now l1 l2] at d6
 refine hS d6 fun Gz M8 d7 t7=>?_
 have fv:=fv.tr t7
 rw[g7] at d7
 refine hRn d7 (by simp) fun Jp M9 d8 t8=>?_
 have fv:=fv.tr t8
 rw[g8] at d8
 have wf1:jf [(nM,0)]:=⟨by decide,by decide⟩
 have wf2:jf [(nM,1)]:=⟨by decide,by decide⟩
 cases b with
 | true =>
   unfold wZ
   dsimp only
   rw[jP]
   refine hSD d8 fun Iy M10 d9 t9=>?_
   have fv:=fv.tr t9
   rw[g9] at d9
   refine hX d9 fv.sl fv.no (by simp) (by simp) wf2 (by simp) (by simp; omega) fun Fv M11 d10 t10=>?_
   rw[F4] at d10
   refine hR d10 (by simp; omega) fun v12 M12 k12 o12=>?_
   have hr:jL (w9 old now) nM=(now,0):=rfl
   rw[hr] at o12 ⊢
   rw[l9,nX,jP,Ez,gJ,Sl.str (Own.o7 o12),lU,beq_self_eq_true]
   dsimp only
   rw[l7,gJ]
   refine hL (d10.keep k12) (by simp) wf2 fun v13 M13 o13 k13=>?_
   rw[bu.len (Own.o7 o13)]
   have hl:((fo (aG (w9 old now).dir)).length:Int)=1:=rfl
   rw[hl,Ez]
   dsimp only
   rw[l7]
   exact hQ _
 | false =>
   unfold wZ
   dsimp only
   rw[iD]
   refine hX d8 fv.sl fv.no (by simp) (by simp) wf1 (by simp) (by simp; omega) fun Fv M11 d10 t10=>?_
   have hfl:∀ f∈(gH (w8 old now) p).files,f.1.length≤140737488355328:=by
    rw[mP (s:=w8 old now) (BC old now)]; simp; omega
   obtain⟨r1,r2⟩:=Hd old now p
   refine hR d10 hfl fun v12 M12 k12 o12=>?_
   rw[r1]
   generalize (jL (gH (w8 old now) p) nM).1=x at *
   rw[l9,nX,iD,Ez,gJ,Sl.str (Own.o7 o12),lU]
   dsimp only
   cases h1:x == old with
   | true =>
     rw[vK]
     dsimp only
     rw[gJ,l7]
     dsimp only
     rw[l7]
     exact hQ _
   | false =>
     have h2:(x == now)=true:=by
      rcases r2 with rfl | rfl
      ·simp at h1
      ·simp
     rw[vO,Sl.str (Own.o7 o12),lU,h2]
     dsimp only
     rw[gJ,Go.Ab.bV]
     dsimp only
     rw[l7]
     exact hQ _
end
end Go.Ab.Dk
