/- Part 5 of the ground of the proofs of this seat (texts HRef5 to R27). By an AI agent. -/
import Derived.Test.YtmjcgbaacndblaaGreatDoorHwr4
import Derived.HandedShaped
set_option maxRecDepth 10000
set_option linter.unusedVariables false
set_option linter.unusedSimpArgs false
namespace Go.Ab.Hw
open Go Go.Ab Go.Ab.Sm
open Go.Ab.Vl (brk di ek dJ bK gX gT Gs)
def Qb:Bool→Str→Bool
 | true=>mM
 | false=>gH
def Cu (rq:Bool) (s:Str) (l:List Hd) (out r:Str) : Except Nat ((Str × Str × Nat × List Hd × Str) × Str):=match rq with
 | true=>match dw s with
   | some (m,p)=>.ok ((m,p,0,l,out),r)
   | none=>.error 14
 | false=>.ok (([],[],codeOf s,l,out),r)
def gU (rq:Bool) (b:Str) : Except Nat ((Str × Str × Nat × List Hd × Str) × Str):=match headD (Qb rq) b with
 | .error e=>.error e
 | .ok (s,l,at')=>match nX (b.drop at') l with
   | .error e=>.error e
   | .ok (out,r)=>Cu rq s l out r
theorem FC {b:Str} : kF b=match gU true b with
  | .error e=>.error e
  | .ok ((m,p,_,l,out),r)=>.ok ((m,p,l,out),r):=by
 unfold kF gU Cu Qb
 dsimp only
 cases headD mM b with
 | error e=>rfl
 | ok q =>
   obtain⟨s,l,at'⟩:=q
   dsimp only
   cases nX (b.drop at') l with
   | error e=>rfl
   | ok y =>
     dsimp only
     cases dw s with
     | none=>rfl
     | some w=>rfl
theorem Dv {b:Str} : ku b=match gU false b with
  | .error e=>.error e
  | .ok ((_,_,n,l,out),r)=>.ok ((n,l,out),r):=by
 unfold ku gU Cu Qb
 dsimp only
 cases headD gH b with
 | error e=>rfl
 | ok q =>
   obtain⟨s,l,at'⟩:=q
   dsimp only
   cases nX (b.drop at') l with
   | error e=>rfl
   | ok y=>rfl
theorem Ou {b:Str} {at' : Nat} (h1:at'≤b.length) (h2:at'≤2048) (h:mX (b.drop at')=none) : jZ b at'=.error (if 2048≤b.length then 2 else 15):=by
 have hn:=FP h
 have hc:crlf ((b.take 2048).drop at')=none:=by
  cases hc:crlf ((b.take 2048).drop at') with
  | none=>rfl
  | some p =>
    obtain⟨a,r⟩:=p
    have hle:at'≤(b.take 2048).length:=by rw[List.length_take]; omega
    have e:b.drop at'=(b.take 2048).drop at'++b.drop 2048:=by
     conv=>lhs; rw[← List.take_append_drop 2048 b]
     rw[List.drop_append_of_le_length hle]
    rw[e,BR _ hc] at hn
    cases hn
 unfold jZ
 rw[hc]
 dsimp only
 by_cases h3:2048≤b.length
 ·rw[if_pos h3,fO (by omega)]
 ·rw[if_neg h3,mI (by omega)]
theorem NI {b:Str} {at' k:Nat} (h1:at'≤b.length) (h2:at'≤2048) (h:mX (b.drop at')=some k) :
  jZ b at'=if at' + k + 2 > 2048 then .error 2 else .ok ((b.drop at').take k,at' + k + 2):=by
 obtain⟨q,hcr,hk,hq⟩:=zB h
 rw[List.length_drop] at hk
 have hle:at'≤(b.take 2048).length:=by rw[List.length_take]; omega
 have e:b.drop at'=(b.take 2048).drop at'++b.drop 2048:=by
  conv=>lhs; rw[← List.take_append_drop 2048 b]
  rw[List.drop_append_of_le_length hle]
 have hkl:((b.drop at').take k).length=k:=by rw[List.length_take,List.length_drop]; omega
 unfold jZ
 cases hc:crlf ((b.take 2048).drop at') with
 | none =>
   rw[e] at hcr
   have hf:=Jc hc hcr
   rw[← e,hkl,List.length_drop,List.length_take] at hf
   rw[if_pos (by omega)]
   dsimp only
   rw[fO (by omega)]
 | some p =>
   obtain⟨a,r⟩:=p
   have h3:=BR (b.drop 2048) hc
   rw[← e,hcr] at h3
   have h4:=(Prod.mk.inj (Option.some.inj h3)).1
   have h5:=(mR hc).2
   rw[List.length_drop,List.length_take] at h5
   have h6:=congrArg List.length h4
   rw[hkl] at h6
   rw[if_neg (by omega)]
   dsimp only
   rw[h4,← h6]
abbrev Vf:AV:=.agg [St [],St [],N .i64 0,aA,aA]
def HZ (TH T8:Nat) (c:ak) : Prop:=∀ {M:RM} {v:AV} {b:Str} {rq:Bool} {Q:ai},Bs M v b→b.length≤1000000 →
 (∀ m p n l out r at2 hv ov M',gU rq b=.ok ((m,p,n,l,out),r)→at2≤b.length→b.drop at2=r→out.length≤16384→l.length≤33→af [] M M'→Ow HD M' M.next TH hv l→Ow BY M' M.next T8 ov out →
  Q (.tup [.agg [St m,St p,N .i64 (n:Int),hv,ov],N .i64 (at2:Int),N .i64 0]) M') →
 (∀ (e:Nat) M',gU rq b=.error e→(e=14∨e=15∨e=2)→af [] M M'→Q (.tup [Vf,N .i64 0,N .i64 (e:Int)]) M')→c [v,Bo rq] M Q
theorem LF (l:List Hd) : (fI l).2.2=0∨(fI l).2.2=14∨(fI l).2.2=2:=by
 unfold fI
 repeat' split
 all_goals simp
theorem MH (l:List Hd) : (fI l).1≤16384:=by
 unfold fI
 split
 ·split <;> simp
 ·split
  ·simp
  ·split
   ·simp
   ·rename_i v _ _ _ _
    split
    ·simp
    ·rename_i h
     rcases Nat.lt_or_ge 16384 (dN v) with h' | h'
     ·rw[mI h'] at h; cases h
     ·exact h'
theorem KZ {s:Str} {h:Hd} (e:dZ s=some h) : h.1.length≤s.length∧h.2.length≤s.length:=by
 unfold dZ at e
 split at e
 ·cases e
 ·rename_i a c hb
  have hl:=EN hb
  split at e
  ·cases e
   have:=uj c
   exact⟨by show a.length≤_; omega,by show(trimB c).length≤_; omega⟩
  ·cases e
theorem IX {T TH T8:Nat} {ce cf cs cc chd:ak} (he:KP ce) (hf:EM cf) (hs:IU cs) (hc:Ed T8 cc) (hh:CG chd) :
  HZ TH T8 fun args M Q=>∃ a0 a1,args=[a0,a1]∧rR T ce cf cs cc T8 chd TH a0 a1 M Q:=by
 intro M v b rq Q hv hl hQ hE
 refine⟨_,_,rfl, ?_⟩
 unfold rR
 simp only[aV (x:=.row [St [],St [],N .i64 0,aA,aA] false T 0)]
 rw[eu]
 refine⟨_,rfl, ?_⟩
 have k0:af [] M ((M.push (bJ T [] [] 0)).push (bJ T [] [] 0)):=((af.refl _ _).push _).push _
 have a4:((M.push (bJ T [] [] 0)).push (bJ T [] [] 0)).heap M.next=some (bJ T [] [] 0):=by simp[RM.push]
 have a6:((M.push (bJ T [] [] 0)).push (bJ T [] [] 0)).heap (M.push (bJ T [] [] 0)).next=some (bJ T [] [] 0):=by simp[RM.push]
 have e5:(M.push (bJ T [] [] 0)).next=M.next + 1:=rfl
 have n0:((M.push (bJ T [] [] 0)).push (bJ T [] [] 0)).next=M.next + 2:=rfl
 rw[e5] at a6 ⊢
 generalize (M.push (bJ T [] [] 0)).push (bJ T [] [] 0)=M0 at *
 rw[dQ a6 (by rfl) (by rfl) (by rfl)]
 have k1:af [] M (M0.put (M.next + 1) (bJ T [] [] 0)):=k0.new _ (by omega)
 have b4:(M0.put (M.next + 1) (bJ T [] [] 0)).heap M.next=some (bJ T [] [] 0):=eP a4 (by omega)
 have b6:(M0.put (M.next + 1) (bJ T [] [] 0)).heap (M.next + 1)=some (bJ T [] [] 0):=aB _
 have n1:(M0.put (M.next + 1) (bJ T [] [] 0)).next=M.next + 2:=n0
 generalize M0.put (M.next + 1) (bJ T [] [] 0)=M1 at *
 have err:∀ (e:Nat) (M2:RM),af [] M M2→M2.heap M.next=some (bJ T [] [] 0)→gU rq b=.error e→(e=14∨e=15∨e=2) →
   dC [(St []),(St []),(N .i64 0),(.sc (.slice none 0 0)),(.sc (.slice none 0 0))] [] fun t44=>az M2 (.ptr M.next 0) t44 5 fun Tu=>aL Tu (.ptr M.next 0) 5 fun res=>Q (.tup [res,N .i64 0,N .i64 (e:Int)]) Tu:=by
  intro e M2 k2 c4 h1 h2
  rw[eu]
  refine⟨_,rfl, ?_⟩
  rw[dQ c4 (by rfl) (by rfl) (by rfl),aQ (aB _) (by rfl)]
  exact hE e _ h1 h2 (k2.new _ (Nat.le_refl _))
 generalize hp:Qb rq=p
 have hR:gU rq b=match headD p b with
   | .error e=>.error e
   | .ok (s,l,at')=>match nX (b.drop at') l with
     | .error e=>.error e
     | .ok (out,r)=>Cu rq s l out r:=by subst hp; rfl
 refine aZ (fun m ys M3=>∃ (at' n:Nat),m=b.length - at'∧ys=[N .i64 (at' : Int),N .i64 (n:Int)]∧at'≤b.length∧at'≤2048∧af [] M M3∧M.next + 2≤M3.next∧M3.heap M.next=some (bJ T [] [] 0) ∧
   ((n=0∧at'=0∧M3.heap (M.next + 1)=some (bJ T [] [] 0))∨(∃ (s0 x y:Str) (c:Nat) (hw:AV) (l:List Hd),1≤n∧n≤33∧l.length + 1=n∧(headD p b=match hloop b (33 - n) at' l with | .error e=>.error e | .ok (l,at2)=>.ok (s0,l,at2)) ∧
     (rq=true→dw s0=some (x,y)∧c=0)∧(rq=false→x=[]∧y=[]∧c=codeOf s0)∧M3.heap (M.next + 1)=some (.row [St x,St y,N .i64 (c:Int),hw,aA] false T 0)∧Ow HD M3 (M.next + 2) TH hw l∧(∀ h∈l,h.1.length≤2048∧h.2.length≤2048)))) _
  ⟨0,0,rfl,rfl,Nat.zero_le _,by omega,k1,by omega,b4,.inl ⟨rfl,rfl,b6⟩⟩ ?_
 rintro next m ys M3 hnext ⟨at',n,rfl,rfl,h1,h2,k3,n3,c4,st⟩
 simp only[aN,cK,bS]
 rw[gX]
 refine gT (fun xs M4=>∃ at2:Nat,xs=[N .i64 (at2:Int)]∧at'<at2∧at2≤b.length∧at2≤2048∧af [] M M4∧M.next + 2≤M4.next∧M4.heap M.next=some (bJ T [] [] 0) ∧
   (∃ (s0 x y:Str) (c:Nat) (hw:AV) (l:List Hd),n + 1≤33∧l.length + 1=n + 1∧(headD p b=match hloop b (33 - (n + 1)) at2 l with | .error e=>.error e | .ok (l,at2)=>.ok (s0,l,at2)) ∧
    (rq=true→dw s0=some (x,y)∧c=0)∧(rq=false→x=[]∧y=[]∧c=codeOf s0)∧M4.heap (M.next + 1)=some (.row [St x,St y,N .i64 (c:Int),hw,aA] false T 0)∧Ow HD M4 (M.next + 2) TH hw l∧(∀ h∈l,h.1.length≤2048∧h.2.length≤2048))) ?_ ?_
 ·rintro xs M4 ⟨at2,rfl,g1,g2,g3,g4,g5,g6,s0,x,y,c,hw,l,g7,g8⟩
  simp only[aN]
  rw[add1 (by omega)]
  exact hnext _ _ _ (by omega) ⟨at2,n + 1,rfl,rfl,g2,g3,g4,g5,g6,.inr ⟨s0,x,y,c,hw,l,by omega,g7,g8⟩⟩
 intro J hJ
 have hn33:n≤33:=by rcases st with⟨rfl,_⟩ | ⟨_,_,_,_,_,_,_,h,_⟩ <;> omega
 have hv3:=hv.keep k3 (by simp)
 refine hv3.sub (gz _ _ _) (vJ _) h1 (Nat.le_refl _) fun v4 hv4 _=>?_
 have hd4:(b.drop at').take (b.length - at')=b.drop at':=List.take_of_length_le (by simp)
 rw[hd4] at hv4
 have hdl:(b.drop at').length=b.length - at':=List.length_drop
 refine he hv4 (by omega) ?_
 -- a line that fails
 have bad:∀ e,jZ b at'=.error e→gU rq b=.error e:=by
  intro e hle
  rcases st with⟨rfl,rfl,_⟩ | ⟨s0,x,y,c,hw,l,_,_,_,hH,_⟩
  ·rw[hR]
   have:headD p b=.error e:=by unfold headD; rw[hle]
   rw[this]
  ·rw[j3,hle] at hH
   rw[hR,hH]
 cases hen:mX (b.drop at') with
 | none =>
   have hle:=Ou h1 h2 hen
   rw[dF,show decide (Cj none<0)=true from rfl]
   simp only[bX,gq,bT,bN]
   rw[hv3.len,bL]
   by_cases h3:2048≤b.length
   ·rw[if_pos h3] at hle
    rw[show decide ((b.length:Int) ≥ 2048)=true from decide_eq_true (by omega)]
    simp only[bX,gq,bT,bN]
    exact err 2 M3 k3 c4 (bad _ hle) (by omega)
   ·rw[if_neg h3] at hle
    rw[show decide ((b.length:Int) ≥ 2048)=false from decide_eq_false (by omega)]
    simp only[bP,cO]
    rw[bL,show decide (Cj none ≥ 0)=false from rfl,aX]
    exact err 15 M3 k3 c4 (bad _ hle) (by omega)
 | some k =>
   have hle:=NI h1 h2 hen
   obtain⟨q,hcr,hk2,hq⟩:=zB hen
   rw[hdl] at hk2
   rw[show Cj (some k)=(k:Int) from rfl,dF,show decide ((k:Int)<0)=false from decide_eq_false (by omega)]
   simp only[bP,cO]
   rw[addN (by omega),show(N .i64 2)=N .i64 ((2:Nat) : Int) from rfl,addN (by omega),show(N .i64 2048)=N .i64 ((2048:Nat) : Int) from rfl,BJ]
   by_cases h3:at' + k + 2 > 2048
   ·rw[if_pos h3] at hle
    rw[decide_eq_true h3,bN,hv3.len,Vx,decide_eq_true (by omega)]
    simp only[bX,gq,bT,bN]
    exact err 2 M3 k3 c4 (bad _ hle) (by omega)
   rw[if_neg h3] at hle
   rw[decide_eq_false h3,aX,addN (by omega)]
   refine hv3.sub (gz _ _ _) (gz _ _ _) (by omega) (by omega) fun v5 hv5 _=>?_
   rw[show at' + k - at'=k by omega] at hv5
   rw[hv5.str,addN (by omega),addN (by omega)]
   have hsl:((b.drop at').take k).length≤2048:=by rw[List.length_take]; omega
   generalize (b.drop at').take k=s at *
   generalize V4:at' + k + 2=at2 at *
   rw[show(N .i64 0)=N .i64 ((0:Nat) : Int) from rfl,Pt]
   refine aM (fun h0=>?_) fun h0=>?_
   ·
    have h0:n=0:=of_decide_eq_true h0
    subst h0
    rcases st with⟨_,rfl,c6⟩ | ⟨_,_,_,_,_,_,h,_⟩
    rotate_left
    ·omega
    have hhd:∀ {q:Bool},p s=q→headD p b=match q with | false=>.error 14 | true=>match hloop b 32 at2 [] with | .error e=>.error e | .ok (l,at')=>.ok (s,l,at'):=by
     intro q hq
     unfold headD
     rw[hle]
     dsimp only
     rw[hq]
     cases q <;> rfl
    have fin:∀ (x y:Str) (c:Nat) (M4:RM),af [] M3 M4→p s=true→(rq=true→dw s=some (x,y)∧c=0)→(rq=false→x=[]∧y=[]∧c=codeOf s) →
      az M4 (.ptr (M.next + 1) 0) (.agg [St x,St y,N .i64 (c:Int),aA,aA]) 5 fun Ec=>J [N .i64 (at2:Int)] Ec:=by
     intro x y c M4 k4 hps h6 h7
     have d4:=k4.aC c4 (by omega) (by simp)
     have d6:=k4.aC c6 (by omega) (by simp)
     rw[dQ d6 (by rfl) (by rfl) (by rfl)]
     refine hJ _ _ ⟨at2,rfl,by omega,by omega,by omega,(k3.trans k4).new _ (by omega),Nat.le_trans n3 k4.next,eP d4 (by omega),s,x,y,c,aA,[],by omega,rfl,hhd hps,h6,h7,aB _,.nil,by simp⟩
    refine hf (by omega) (fun m p' M4 hrq hfi k4=>?_) (fun M4 hrq hfi k4=>?_) (fun x y c M4 Vq V5 k4=>?_)
    ·simp only[bz,bu,bO,Bool.not_true,aX]
     exact fin m p' 0 M4 k4 (by rw[← hp,hrq]; show mM s=true; unfold mM; rw[hfi]; rfl) (fun _=>⟨hfi,rfl⟩) (fun h=>by rw[h] at hrq; cases hrq)
    ·simp only[bz,bu,bO,Bool.not_true,aX]
     exact fin [] [] (codeOf s) M4 k4 (by rw[← hp,hrq]; exact hfi) (fun h=>by rw[h] at hrq; cases hrq) (fun _=>⟨rfl,rfl,rfl⟩)
    ·simp only[bz,bu,bO,Bool.not_false,bN]
     have d4:=k4.aC c4 (by omega) (by simp)
     have d6:=k4.aC c6 (by omega) (by simp)
     rw[dQ d6 (by rfl) (by rfl) (by rfl)]
     refine err 14 _ ((k3.trans k4).new _ (by omega)) (eP d4 (by omega)) ?_ (by omega)
     have hps:p s=false:=by
      rw[← hp]
      cases rq with
      | true=>show mM s=false; unfold mM; rw[Vq rfl]; rfl
      | false=>exact V5 rfl
     rw[hR,hhd hps]
   ·have h0:n≠0:=of_decide_eq_false h0
    rcases st with⟨h,_⟩ | ⟨s0,x,y,c,hw,l,hn1,_,hnl,hH,hx1,hx2,c6,oh,hlen⟩
    ·exact absurd h h0
    rw[j3,hle] at hH
    dsimp only at hH
    rw[eX]
    have hw1:=Own.one oh
    have hwc:=Own.cells oh
    refine aM (fun h=>?_) fun h=>?_
    ·
     have hs0:s=[]:=eq_of_beq h
     subst hs0
     dsimp only at hH
     have hRb:gU rq b=match kT (b.drop at2) (fI l) with
       | .error e=>.error e
       | .ok (out,r)=>.ok ((x,y,c,l,out),r):=by
      rw[hR,hH]
      dsimp only
      rw[PE]
      cases kT (b.drop at2) (fI l) with
      | error e=>rfl
      | ok q =>
        dsimp only
        unfold Cu
        cases hrq:rq with
        | true=>dsimp only; rw[(hx1 hrq).1,(hx1 hrq).2]
        | false=>dsimp only; rw[(hx2 hrq).1,(hx2 hrq).2.1,(hx2 hrq).2.2]
     simp only[iE]
     rw[aK c6 (i:=3) rfl]
     refine hs (Own.jc oh) (by omega) hlen fun M4 k4=>?_
     have d4:=k4.aC c4 (by omega) (by simp)
     have d6:=k4.aC c6 (by omega) (by simp)
     have k34:=k3.trans k4
     have oh4:Ow HD M4 (M.next + 2) TH hw l:=Own.keep oh k4 (by simp)
     have hze:=LF l
     have hzl:=MH l
     have n4:M.next + 2≤M4.next:=Nat.le_trans n3 k4.next
     generalize fI l=z at *
     obtain⟨zn,zc,zb⟩:=z
     dsimp only at hze hzl
     simp only[bz,bu,eH,dV]
     by_cases hzb:zb=0
     rotate_left
     ·rw[show((zb:Int) != ((0:Nat) : Int))=true from bne_iff_ne.2 (by omega),bN]
      refine err zb M4 k34 d4 ?_ (by omega)
      rw[hRb]
      have:kT (b.drop at2) (zn,zc,zb)=.error zb:=by
       unfold kT
       split
       ·rename_i heq
        have:=(Prod.mk.inj (Prod.mk.inj heq).2).2
        exact absurd this hzb
       ·rename_i heq
        have h5:=(Prod.mk.inj (Prod.mk.inj heq).2).2
        rw[h5]
      rw[this]
     subst hzb
     rw[show(((0:Nat) : Int) != ((0:Nat) : Int))=false from rfl,aX]
     have Pn:=hv.keep k34 (by simp)
     -- what is told at the end
     have fin:∀ (M5:RM) (ov:AV) (out r:Str) (j:Nat),af [] M4 M5→Ow BY M5 M4.next T8 ov out→kT (b.drop at2) (zn,zc,0)=.ok (out,r)→at2 + j≤b.length→b.drop (at2 + j)=r→out.length≤16384 →
       az M5 (.ptr (M.next + 1) 4) ov 1 fun Sz=>aL Sz (.ptr (M.next + 1) 0) 5 fun t113=>ae .add (N .i64 (at2:Int)) (N .i64 (j:Int)) fun t116=>az Sz (.ptr M.next 0) t113 5 fun oP=>aL oP (.ptr M.next 0) 5 fun Te=>Q (.tup [Te,t116,N .i64 0]) oP:=by
      intro M5 ov out r j k5 o5 hb5 ha3 hr3 hol
      have f4:=k5.aC d4 (by omega) (by simp)
      have f6:=k5.aC d6 (by omega) (by simp)
      have o1:=Own.one o5
      rw[eQ [St x,St y,N .i64 (c:Int),hw,ov] f6 (by simp) (Own.cells o5) o1 rfl,aQ (aB _) (by rfl),addN (by omega),
       dQ (eP f4 (by omega)) (by rfl) (by rfl) (by simp only[List.all_cons,List.all_nil,hw1,o1]; rfl),aQ (aB _) (by rfl)]
      have kk:af [M.next,M.next + 1] M5 ((M5.put (M.next + 1) (.row [St x,St y,N .i64 (c:Int),hw,ov] false T 0)).put M.next (.row [St x,St y,N .i64 (c:Int),hw,ov] false T 0)):=((af.refl _ _).put _ (.inr (by simp))).put _ (.inr (by simp))
      have oh5:Ow HD M5 (M.next + 2) TH hw l:=Own.keep oh4 k5 (by simp)
      refine hQ x y c l out r (at2 + j) hw ov _ (by rw[hRb,hb5]) ha3 hr3 hol (by omega) (((k34.trans k5).new _ (by omega)).new _ (Nat.le_refl _)) (Own.mono (Own.keep oh5 kk fun z hz hm=>?_) (by omega)) (Own.mono (Own.keep o5 kk fun z hz hm=>?_) (by omega))
      ·have:=(Own.blk oh5 z hz).1
       simp at hm; omega
      ·have:=(Own.blk o5 z hz).1
       simp at hm; omega
     refine aM (fun hck=>?_) fun hck=>?_
     ·subst hck
      have hbR:kT (b.drop at2) (zn,true,0)=bR ((b.drop at2).length + 1) (b.drop at2) []:=rfl
      refine Pn.sub (gz _ _ _) (vJ _) (by omega) (Nat.le_refl _) fun v6 hv6 _=>?_
      have hd6:(b.drop at2).take (b.length - at2)=b.drop at2:=List.take_of_length_le (by simp)
      rw[hd6] at hv6
      have hdl6:(b.drop at2).length=b.length - at2:=List.length_drop
      refine hc hv6 (by omega) (fun out r at3 ov M5 e5 ha3 hr3 hol k5 o5=>?_) (fun e M5 e5 hee k5=>?_)
      ·simp only[bz,bu,eH]
       rw[dV,show(((0:Int)) != ((0:Nat) : Int))=false from rfl,aX]
       exact fin M5 ov out r at3 k5 o5 (by rw[hbR]; exact e5) (by omega) (by rw[← List.drop_drop]; exact hr3) hol
      ·simp only[bz,bu,eH]
       rw[dV,show((e:Int) != ((0:Nat) : Int))=true from bne_iff_ne.2 (by omega),bN]
       exact err e M5 (k34.trans k5) (k5.aC d4 (by omega) (by simp)) (by rw[hRb,hbR,e5]) hee
     ·subst hck
      have hbR:kT (b.drop at2) (zn,false,0)=match Nat.blt (b.drop at2).length zn with
       | true=>.error 15
       | false=>.ok ((b.drop at2).take zn,(b.drop at2).drop zn):=rfl
      rw[List.length_drop] at hbR
      rw[Pn.len,sW (by omega) (by omega),iO]
      refine aM (fun hlt=>?_) fun hlt=>?_
      ·have hlt:=of_decide_eq_true hlt
       rw[mI hlt] at hbR
       exact err 15 M4 k34 d4 (by rw[hRb,hbR]) (by omega)
      ·have hlt:=of_decide_eq_false hlt
       rw[fO hlt] at hbR
       rw[Gz]
       simp only[aV (x:=.row [] false T8 0)]
       rw[addN (by omega)]
       have k5' : af [] M4 (M4.push (.row [] false T8 0)):=(af.refl _ _).push _
       refine(Pn.keep k5' (by simp)).sub (gz _ _ _) (gz _ _ _) (by omega) (by omega) fun v6 hv6 _=>?_
       rw[show at2 + zn - at2=zn by omega] at hv6
       have htl:((b.drop at2).take zn).length=zn:=by rw[List.length_take,List.length_drop]; omega
       refine nE (E:=BY) (Ow.lit BY M4) (by simp[RM.push]) (by decide) hv6.sl (by simp; omega) (by simp; omega) fun w6 M6 o6 k6 _ _=>?_
       have k46:af [] M4 M6:=af.own k5' k6 (fun b hb=>by simp[aW] at hb; omega)
       rw[List.nil_append] at o6
       exact fin M6 w6 _ _ zn k46 o6 hbR (by omega) (by rw[List.drop_drop]) (by rw[htl]; omega)
    ·have Wx:s≠[]:=fun e=>by rw[e] at h; cases h
     obtain⟨sx,ss,rfl⟩ : ∃ a t,s=a :: t:=by
      cases s with
      | nil=>exact absurd rfl Wx
      | cons a t=>exact⟨a,t,rfl⟩
     dsimp only at hH
     rw[show(N .i64 32)=N .i64 ((32:Nat) : Int) from rfl,BJ]
     refine aM (fun hg=>?_) fun hg=>?_
     ·have hg:n > 32:=of_decide_eq_true hg
      have e0:33 - n=0:=by omega
      rw[e0] at hH
      exact err 2 M3 k3 c4 (by rw[hR,hH]) (by omega)
     ·have hg:¬ n > 32:=of_decide_eq_false hg
      obtain⟨f,WH⟩ : ∃ f,33 - n=f + 1:=⟨32 - n,by omega⟩
      have hf2:33 - (n + 1)=f:=by omega
      rw[WH] at hH
      dsimp only at hH
      have Og:∀ {M4:RM} (k4:af [] M3 M4),M4.next<(M4.push (.row [St [],St []] false TH 0)).next∧af [] M3 (M4.push (.row [St [],St []] false TH 0))∧(M4.push (.row [St [],St []] false TH 0)).heap M4.next=some (.row [St [],St []] false TH 0):=fun k4=>⟨by simp[RM.push],k4.trans ((af.refl _ _).push _),by simp[RM.push]⟩
      refine hh (by omega) (fun hd M4 hde k4=>?_) (fun a a2 M4 hde k4=>?_)
      ·rw[hde] at hH
       dsimp only at hH
       simp only[bz,bu,bO,Bool.not_true,aX,aV]
       obtain⟨l5,k5,n5⟩:=Og k4
       have nx4:=k4.next
       generalize M4.push (.row [St [],St []] false TH 0)=M5 at *
       rw[dQ n5 (by rfl) (by rfl) (by rfl)]
       have k6:af [] M3 (M5.put M4.next (.row [St hd.1,St hd.2] false TH 0)):=k5.new _ nx4
       have n6:(M5.put M4.next (.row [St hd.1,St hd.2] false TH 0)).heap M4.next=some (.row [St hd.1,St hd.2] false TH 0):=aB _
       generalize M5.put M4.next (.row [St hd.1,St hd.2] false TH 0)=M6 at *
       have d4:=k6.aC c4 (by omega) (by simp)
       have d6:=k6.aC c6 (by omega) (by simp)
       simp only[iE]
       rw[aK d6 (i:=3) rfl,aQ n6 (by rfl),qM (by rfl) (by rfl) (by rfl)]
       have oh6:Ow HD M6 (M.next + 2) TH hw l:=Own.keep oh k6 (by simp)
       have nn6:=k6.next
       refine o8 (E:=HD) (a:=hd) oh6 (by omega) (by decide) (by omega) (by omega) fun v7 M7 o7 k7 _ _=>?_
       have nb:∀ i,i<M.next + 2→i ∉ aW hw:=fun i hi hm=>by
        have:=(Own.blk oh6 i hm).1
        omega
       have f4:=k7.aC d4 (by omega) (nb _ (by omega))
       have f6:=k7.aC d6 (by omega) (nb _ (by omega))
       rw[eQ [St x,St y,N .i64 (c:Int),v7,aA] f6 (by simp) (Own.cells o7) (Own.one o7) rfl]
       have hlh:=KZ hde
       have k37:af [] M M7:=af.own (k3.trans k6) k7 (fun z hz=>by have:=(Own.blk oh6 z hz).1; omega)
       refine hJ _ _ ⟨at2,rfl,by omega,by omega,by omega,k37.new _ (by omega), ?_,eP f4 (by omega),s0,x,y,c,v7,l++[hd],by omega,by simp; omega,by rw[hf2]; exact hH,hx1,hx2,aB _, ?_, ?_⟩
       ·have:=k7.next
        show M.next + 2≤M7.next
        omega
       ·refine Own.keep o7 ((af.refl [M.next + 1] M7).put _ (.inr (by simp))) (fun z hz hm=>?_)
        have:=(Own.blk o7 z hz).1
        simp at hm; omega
       ·intro g hg
        rcases List.mem_append.1 hg with hg | hg
        ·exact hlen g hg
        ·have:g=hd:=by simpa using hg
         rw[this]; omega
      ·rw[hde] at hH
       dsimp only at hH
       simp only[bz,bu,bO,Bool.not_false,bN,aV]
       obtain⟨l5,k5,n5⟩:=Og k4
       have nx4:=k4.next
       generalize M4.push (.row [St [],St []] false TH 0)=M5 at *
       rw[dQ n5 (by rfl) (by rfl) (by rfl)]
       have k6:af [] M3 (M5.put M4.next (.row [St a,St a2] false TH 0)):=k5.new _ nx4
       generalize M5.put M4.next (.row [St a,St a2] false TH 0)=M6 at *
       exact err 14 M6 (k3.trans k6) (k6.aC c4 (by omega) (by simp)) (by rw[hR,hH]) (by omega)
end Go.Ab.Hw
namespace Go.Ab.Hw
open Go Go.Ab Go.Ab.Sm
def WA (x:UInt8) : Bool:=Nat.ble 97 x.toNat && Nat.ble x.toNat 122
def Vr:Str→Nat→Str→Prop
 | [],_,B=>B=[]
 | x :: a,m,B=>∃ y b,B=y :: b∧(match m with
   | 0=>y=x∧Vr a (if x == 10 then 1 else 0) b
   | 1=>if x == 58 then y=x∧Vr a 2 b else(y=x∨(WA x=true∧y=x - 32))∧Vr a 1 b
   | _=>y=x∧Vr a (if x == 10 then 1 else 2) b)
end Go.Ab.Hw
namespace Go.Ab
open Go Go.RowKit
variable {H:Type} {enc:TypeId × Value→H}
theorem Bd {a:Assume} {C:Checked} {os:Os} {f:FuncId} {fn:Func} {s:ChangeSpec} {conds:List PathCond} {apart fresh handsOn again:Bool} {X:World→Array Value→Prop}
  (hX:∀ (w w' : World) (args:Array Value),w.heap=w'.heap→X w args→X w' args)
  (own:ownKnob C.prog.godebug=none) (started:os.Started) (noInit:C.prog.inits.idxOf? f=none) (hfn:C.prog.funcs[f]?=some fn)
  (witness:∃ (w:World) (tape:Tape) (i:Input),w.os=os∧(w.forCall tape i).Shaped C.prog∧i.vars=[]∧Input.okWide C.prog (w.forCall tape i) .any w.heap.size f i ∧
   ((s.pre enc C.prog fn conds apart (w.forCall tape i).memory i.args∧X (w.forCall tape i).memory i.args)∧sizedMet enc C.prog fn (OpenSpec.ofChange s) apart (w.forCall tape i).memory i.args)∧a.holds C.prog (lone (Frame.enter C.prog f i.args .normal) [] (w.forCall tape i)))
  (contract:∀ (W:World) (base:Nat) (args:Array Value) (ds gs:List (DataW H)) (before:List MemPlace),
   (∀ (j:Nat) t v,fn.params[j]?=some t→args[j]?=some v→Value.okWide C.prog W .any base t v) →
   DataW.Whole enc C.prog fn.params.toList s.vars apart W args.toList ds gs before →
   conds.all (PathCond.test C.prog ⟨fn.params.toList,ds,s.plain.varTypes C.prog,gs⟩)=true →
   (DataW.weightsEach C.prog (fn.params.toList++s.plain.varTypes C.prog) (ds++gs)).all (· ≤ reachBytes)=true→X W args →
   W.ShapedOpen C.prog →
   a.holds C.prog (lone (Frame.enter C.prog f args .normal) [] W) →
   Calls C.prog f args W fun e W'=>∃ v,e=.returned v∧s.post enc C.prog fn apart fresh handsOn again W args v W') :
  ReturnsInHanded a C os f .any (fun w args=>(s.pre enc C.prog fn conds apart w args∧X w args)∧sizedMet enc C.prog fn (OpenSpec.ofChange s) apart w args) (s.post enc C.prog fn apart fresh handsOn again):=by
 refine returnsInHanded_of_calls own started noInit witness ?_
 intro w tape i _ hsh _ hok hpre hholds
 obtain⟨_,_,_,fn',hfn',_,_,_,_,hval⟩:=hok
 have e:fn'=fn:=Option.some.inj (hfn'.symm.trans hfn)
 subst e
 obtain⟨⟨⟨ds,gs,before,hw,hc⟩,hx⟩,hz⟩:=hpre
 have hw':=DataW.Whole.of_heap (w':=w.forCall tape i) (by rfl) hw
 refine(contract (w.forCall tape i) w.heap.size i.args ds gs before hval hw' hc (hz.weights hw) (hX _ _ _ (by rfl) hx) hsh hholds).mono fun e W' ⟨v,he,hp⟩=>?_
 subst he
 exact ChangeSpec.post_blind hp
end Go.Ab
