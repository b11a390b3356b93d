/- Part 7 of the ground of the proofs of this seat (texts J8 to R22). By an AI agent. -/
import Derived.Test.YtlhlnchhaminjaaGreatByt6
import Derived.Carry
import Derived.JoinedCond
import Derived.SizedLaws
set_option maxRecDepth 10000
set_option linter.unusedVariables false
set_option linter.unusedSimpArgs false
namespace Go.Ab.Crw
open Go Go.Ab Go.Ab.ay
theorem l7 {e:gp} {n:vw} {x:Ev} (h:mZ (Zu e n)=some x) : n.2.2=false∧NZ e (wQ n.1 n.2.1 [])=some x:=by
 obtain⟨k,bs,f⟩:=n
 unfold mZ Zu at h
 dsimp only at h ⊢
 split at h
 ·cases h
 ·rename_i hc
  injection h with h
  subst h
  have hc:((qi k bs f []).2.1=false∧(qi k bs f []).1=[])∧bz e (qi k bs f []).2.2=true:=by simpa using hc
  have hf:=JP k _ _ _ hc.1.1
  subst hf
  refine⟨rfl, ?_⟩
  rw[Y0 k _ _ hc.1.1,NZ,re8,hc.2,hc.1.2]
  rfl
theorem l6 {d u o:vw} {c g v:Nw} {x:Ev} (h:mZ (Zh d u o c g v)=some x) : v.2.2=false∧Ij (((d.1:Int),u.1),((o.1:Int),(c.1,(g.1,v.1)))) v.2.1=some x:=by
 unfold Zh at h
 obtain⟨h1,h2⟩:=l7 h
 obtain⟨h3,h4⟩:=wF h1
 refine⟨h3, ?_⟩
 unfold Ij
 rw[h4]
 exact h2
theorem l5 {d u o:vw} {c g:Nw} {x:Ev} (h:mZ (YY d u o c g)=some x) : g.2.2=false∧UO ((d.1:Int),u.1) (o.1:Int) c.1 g.1 g.2.1=some x:=by
 unfold YY at h
 obtain⟨h1,h2⟩:=l6 h
 obtain⟨h3,h4⟩:=De h1
 refine⟨h3, ?_⟩
 unfold UO
 rw[h4]
 exact h2
theorem l4 {d u o:vw} {c:Nw} {x:Ev} (h:mZ (Za d u o c)=some x) : c.2.2=false∧Uc ((d.1:Int),u.1) (o.1:Int) c.1 c.2.1=some x:=by
 unfold Za at h
 obtain⟨h1,h2⟩:=l5 h
 obtain⟨h3,h4⟩:=De h1
 refine⟨h3, ?_⟩
 unfold Uc
 rw[F6 h4 (by have:=Y5 h4; omega)]
 exact h2
theorem l3 {d u o:vw} {x:Ev} (h:mZ (YH d u o)=some x) : o.2.2=false∧Xc ((d.1:Int),u.1) (o.1:Int) o.2.1=some x:=by
 unfold YH at h
 obtain⟨h1,h2⟩:=l4 h
 obtain⟨h3,h4⟩:=De h1
 refine⟨h3, ?_⟩
 unfold Xc
 rw[F6 h4 (by have:=Y5 h4; omega)]
 exact h2
theorem l2 {d u:vw} {x:Ev} (h:mZ (WV d u)=some x) : u.2.2=false∧Sc ((d.1:Int),u.1) u.2.1=some x:=by
 unfold WV at h
 obtain⟨h1,h2⟩:=l3 h
 obtain⟨h3,h4⟩:=wF h1
 refine⟨h3, ?_⟩
 unfold Sc
 rw[h4]
 exact h2
theorem ajQ {b:List UInt8} {x:Ev} (h:vV b=some x) : kH b=some x:=by
 unfold vV TT ev1 at h
 obtain⟨h1,h2⟩:=l2 h
 obtain⟨_,h4⟩:=VA h1
 unfold kH
 rw[h4]
 exact h2
theorem Lp {d:ay} : ∀ {p:Option ay} {ks:List ay},gJ d p ks=true→∀ k∈ks,k.1≤15
 | _,[],_,k,hk=>by cases hk
 | p,q :: ks,h,k,hk=>by
   simp only[gJ,Bool.and_eq_true] at h
   rcases List.mem_cons.1 hk with rfl | hk
   ·have:=h.1.1.1
    simp only[good,Bool.and_eq_true,decide_eq_true_eq] at this
    omega
   ·exact Lp h.2 k hk
theorem UF {e:gp} {ks:List ay} (h:bz e ks=true) : ∀ k∈ks,k.1≤15:=by
 simp only[bz,Bool.and_eq_true] at h
 exact Lp h.1.2
theorem acu {e:gp} {ks:List ay} (h:bz e ks=true) : e.1.1≤15:=by
 simp only[bz,good,Bool.and_eq_true,decide_eq_true_eq] at h
 omega
theorem Oz {e:gp} {ks:List ay} (h:bz e ks=true) : e.2.2.1.length≤64∧e.2.2.2.1.length≤64:=by
 simp only[bz,names,Bool.and_eq_true,decide_eq_true_eq] at h
 omega
theorem m7 {e:gp} {k:Nat} {bs:List UInt8} {x:Ev} (h:NZ e (wQ k bs [])=some x) : mZ (Zu e (k,bs,false))=some x∧x.1=e∧bz x.1 x.2=true:=by
 cases hb:wQ k bs [] with
 | none=>rw[hb] at h; cases h
 | some y =>
   obtain⟨ls,r⟩:=y
   rw[hb,NZ,re8] at h
   split at h
   ·cases h
   ·rename_i hc
    injection h with h
    subst h
    have hc:r=[]∧bz e ls=true:=by
     simp only[Bool.or_eq_true,not_or,decide_eq_true_eq,Bool.not_eq_true',Bool.not_eq_false] at hc
     exact⟨List.eq_nil_of_length_eq_zero (by omega),hc.2⟩
    refine⟨?_,rfl,hc.2⟩
    unfold mZ Zu
    dsimp only
    rw[Xq k bs [] hb (UF hc.2)]
    dsimp only
    rw[hc.1,hc.2]
    rfl
theorem m6 {d u o:vw} {c g v:Nw} {x:Ev} (hf:v.2.2=false) (h:Ij (((d.1:Int),u.1),((o.1:Int),(c.1,(g.1,v.1)))) v.2.1=some x) : mZ (Zh d u o c g v)=some x∧x.1=(((d.1:Int),u.1),((o.1:Int),(c.1,(g.1,v.1))))∧bz x.1 x.2=true:=by
 unfold Ij at h
 unfold Zh
 split at h
 ·cases h
 ·rename_i n r1 hb
  rw[hf,Bq hb]
  exact m7 h
theorem m5 {d u o:vw} {c g:Nw} {x:Ev} (hf:g.2.2=false) (h:UO ((d.1:Int),u.1) (o.1:Int) c.1 g.1 g.2.1=some x) : mZ (YY d u o c g)=some x∧(∃ v,x.1=(((d.1:Int),u.1),((o.1:Int),(c.1,(g.1,v)))))∧bz x.1 x.2=true:=by
 unfold UO at h
 unfold YY
 split at h
 ·cases h
 ·rename_i v r1 hb
  rw[hf,LX hb]
  obtain⟨h1,h2,h3⟩:=m6 (v:=(v,r1,false)) rfl h
  exact⟨h1,⟨_,h2⟩,h3⟩
theorem m4 {d u o:vw} {c:Nw} {x:Ev} (hf:c.2.2=false) (h:Uc ((d.1:Int),u.1) (o.1:Int) c.1 c.2.1=some x) : mZ (Za d u o c)=some x∧(∃ v,x.1=(((d.1:Int),u.1),((o.1:Int),(c.1,v))))∧bz x.1 x.2=true:=by
 unfold Uc at h
 unfold Za
 split at h
 ·cases h
 ·rename_i g r1 hb
  obtain⟨h1,⟨v,h2⟩,h3⟩:=m5 (d:=d) (u:=u) (o:=o) (c:=c) (g:=(g,r1,false)) rfl h
  have hl:=(Oz h3).2
  rw[h2] at hl
  rw[hf,LX (F6 hb hl)]
  exact⟨h1,⟨_,h2⟩,h3⟩
theorem m3 {d u o:vw} {x:Ev} (hf:o.2.2=false) (h:Xc ((d.1:Int),u.1) (o.1:Int) o.2.1=some x) : mZ (YH d u o)=some x∧(∃ v,x.1=(((d.1:Int),u.1),((o.1:Int),v)))∧bz x.1 x.2=true:=by
 unfold Xc at h
 unfold YH
 split at h
 ·cases h
 ·rename_i c r1 hb
  obtain⟨h1,⟨v,h2⟩,h3⟩:=m4 (d:=d) (u:=u) (o:=o) (c:=(c,r1,false)) rfl h
  have hl:=(Oz h3).1
  rw[h2] at hl
  rw[hf,LX (F6 hb hl)]
  exact⟨h1,⟨_,h2⟩,h3⟩
theorem m2 {d u:vw} {x:Ev} (hf:u.2.2=false) (h:Sc ((d.1:Int),u.1) u.2.1=some x) : mZ (WV d u)=some x∧(∃ v,x.1=(((d.1:Int),u.1),v))∧bz x.1 x.2=true:=by
 unfold Sc at h
 unfold WV
 split at h
 ·cases h
 ·rename_i o r1 hb
  obtain⟨h1,⟨v,h2⟩,h3⟩:=m3 (d:=d) (u:=u) (o:=(o,r1,false)) rfl h
  rw[hf,Bq hb]
  exact⟨h1,⟨_,h2⟩,h3⟩
theorem m2' {k w:Nat} {l r:List UInt8} {x:Ev} (h:Sc ((k:Int),w) r=some x) : mZ (WV (k,l,false) (w,r,false))=some x∧k≤15:=by
 obtain⟨h1,⟨v,h2⟩,h3⟩:=m2 (d:=(k,l,false)) (u:=(w,r,false)) rfl h
 have hd:=acu h3
 rw[h2] at hd
 have hd:(k:Int)≤15:=hd
 exact⟨h1,by omega⟩
theorem aeU {bs r:List UInt8} {d:ay} (h:Jq bs=some (d,r)) : ∃ (k:Nat) (r1:List UInt8) (w n:Nat),tq 16 bs=some (k,r1)∧ui r1=some (w,n)∧d=((k:Int),w)∧r=r1.drop n:=by
 unfold Jq at h
 split at h
 ·rename_i k r1 hb
  split at h
  ·rename_i w n hw
   cases h
   exact⟨k,r1,w,n,hb,hw,rfl,rfl⟩
  ·cases h
 ·cases h
theorem ajK {b:List UInt8} {x:Ev} (h:kH b=some x) : vV b=some x:=by
 unfold kH at h
 split at h
 ·cases h
 ·rename_i d r hb
  obtain⟨k,r1,w,n,hk,hw,rfl,rfl⟩:=aeU hb
  obtain⟨h1,hd⟩:=m2' (l:=r1) h
  have e3:=Bq (EW hk hd)
  have e4:=RX hw
  unfold vV TT
  rw[e3]
  unfold ev1
  rw[show eu ((k,r1,false) : vw).2.1 ((k,r1,false) : vw).2.2=(w,r1.drop n,false) from e4]
  exact h1
theorem CJ (b:List UInt8) : kH b=vV b:=by
 cases h:vV b with
 | some x=>exact ajQ h
 | none =>
   cases h' : kH b with
   | none=>rfl
   | some x=>rw[ajK h'] at h; cases h
theorem acd {b:List UInt8} {x:Ev} (h:vV b=some x) : bz x.1 x.2=true:=by
 unfold vV mZ at h
 split at h
 ·cases h
 ·rename_i hc
  injection h with h
  subst h
  simp only[Bool.or_eq_true,not_or,Bool.not_eq_true',Bool.not_eq_false] at hc
  exact hc.2
theorem UA {e:gp} {ks:List ay} (h:bz e ks=true) : ks.length≤64:=by
 simp only[bz,Bool.and_eq_true,decide_eq_true_eq] at h
 omega
def XA (c:au) : Prop:=∀ {M:RM} {v:AV} {b:List UInt8} {Q:ak},Sl BY M v b→eZ v→b.length≤140737488355328→(∀ M',ag [] M M'→Q (Bo true) M')→c [v] M Q
theorem aax {TE:Nat} {cd cr cs:au} (hd:Uy cd) (hr:Ii cr) (hs:Qr cs) : XA fun args M Q=>∃ a0,args=[a0]∧Qs cd TE cr cs a0 M Q:=by
 intro M v b Q hv hc hlen hQ
 refine⟨_,rfl, ?_⟩
 unfold Qs
 simp only[gQ,ig,fQ,gG]
 have nw:∀ {M1:RM} (X:List AV) {K:AV→RM→Prop},X.length=7→X.all oneCell=true→(∀ M2,M2.heap M1.next=some (.row X false TE 0)→M2.next=M1.next + 1→ag [] M1 M2→K (.ptr M1.next 0) M2) →
   dx (.row [(N .i64 0),(N .u64 0),(N .i64 0),(St []),(St []),(St []),(.sc (.slice none 0 0))] false TE 0) (fun b=>.ptr b 0) M1 fun t3 M_0=>aC M_0 t3 (.agg X) 7 fun M_1=>K t3 M_1:=fun {M1} X {K} h7 h1 hK=>by
  rw[bn,dB (n:=7) (x:=.agg X) (l:=[(N .i64 0),(N .u64 0),(N .i64 0),(St []),(St []),(St []),(.sc (.slice none 0 0))]) (RM.aT _) h7 rfl h1]
  exact hK _ (aN _) rfl (((ag.refl _ _).push _).new _ (Nat.le_refl _))
 refine hd hv hlen (fun hn M1 k1=>?_) (fun x hx kv M1 hkv hnew k1=>?_)
 ·rw[eD,eF]
  refine nw (aP ic aZ) rfl rfl fun M2 h2 n2 k2=>?_
  have k12:=k1.trans k2
  refine hr (aL.keep hv k12 (by simp)) hc (fun _ e M3 k3=>?_) (fun x hx=>?_)
  ·rw[eD,eF]
   refine nw (aP e aZ) rfl rfl fun M4 h4 n4 k4=>?_
   rw[aY,Bool.not_false,cO,bT]
   have k24:=k3.trans k4
   refine Tu (P:=fun M'=>ag [] M4 M') (p:=true) (ag.refl _ _) (fun _ K hK=>?_) fun M5 k5=>?_
   ·rw[bI (n:=7) (k24.aD h2 (by omega) (by simp)) rfl,eY]
    refine⟨aP ic aZ,rfl, ?_⟩
    exact hs (ks:=[]) (ls:=[]) .nil .nil (by simp) fun M' k'=>hK M' k'
   ·exact hQ M5 ((k12.trans k24).trans k5)
  ·rw[CJ,hn] at hx; cases hx
 ·have hg:=acd hx
  rw[eD,eF]
  refine nw (aP x.1 kv) rfl (oI hkv) fun M2 h2 n2 k2=>?_
  have k12:=k1.trans k2
  refine hr (aL.keep hv k12 (by simp)) hc (fun hn=>?_) (fun y hy lv M3 hlv k3=>?_)
  ·rw[CJ,hx] at hn; cases hn
  ·rw[CJ,hx] at hy
   cases hy
   rw[eD,eF]
   refine nw (aP x.1 lv) rfl (oI hlv) fun M4 h4 n4 k4=>?_
   rw[aY,Bool.not_true,bJ,bT]
   have k24:=k3.trans k4
   refine Tu (P:=fun M'=>ag [] M4 M') (p:=true) (ag.refl _ _) (fun _ K hK=>?_) fun M5 k5=>?_
   ·rw[bI (n:=7) (k24.aD h2 (by omega) (by simp)) rfl,bI (n:=7) h4 rfl]
    refine hs (aL.keep hkv (k2.trans k24) (by simp)) (aL.keep hlv k4 (by simp)) (by have:=UA hg; omega) fun M' k'=>?_
    simp only[decide_true,Bool.and_true]
    exact hK M' k'
   ·exact hQ M5 ((k12.trans k24).trans k5)
def yA (T:Nat) (c:au) : Prop:=∀ {M:RM} {e:gp} {kv:AV} {ks:List ay} {Q:ak},Sl dV M kv ks→bz e ks=true→(∀ r M',qK T M' M.next r (Jp e ks)→ag [] M M'→Q r M')→c [.agg (aP e kv)] M Q
theorem qK.mono {T base base' : Nat} {M:RM} {v:AV} {L:List UInt8} (h:qK T M base v L) (hb:base'≤base) : qK T M base' v L:=by
 rcases h with h | ⟨b,rfl,h1,h2,h3⟩
 ·exact .inl (h.mono hb)
 ·exact .inr ⟨b,rfl,by omega,h2,h3⟩
theorem SL {TE TB:Nat} {cu ct:au} (hu:Nh TB cu) (ht:Mt TB ct) : yA TB fun args M Q=>∃ a0,args=[a0]∧wm TE cu TB ct a0 M Q:=by
 intro M e kv ks Q hkv hg hQ
 refine⟨_,rfl, ?_⟩
 unfold wm
 rw[dU (oI hkv) (by simp),bn]
 have k0:ag [] M (M.push (.row (aP e kv) false TE 0)):=(ag.refl _ _).push _
 have h0:(M.push (.row (aP e kv) false TE 0)).heap M.next=some (.row (aP e kv) false TE 0):=RM.aT _
 have n0:(M.push (.row (aP e kv) false TE 0)).next=M.next + 1:=rfl
 generalize M.push (.row (aP e kv) false TE 0)=M1 at *
 have s1:Sl dV M1 kv ks:=aL.keep hkv k0 (by simp)
 obtain⟨e1,e2,e3,e4,e5,e6,e7,e8,e9⟩:=Ry hg
 have hg0:0≤e.2.1:=by rcases e4 with h | h <;> omega
 have hg1:e.2.1<3:=by rcases e4 with h | h <;> omega
 have a1:=bW (v:=e.1.1.toNat) (by omega)
 have a2:=bW e3
 have a3:=bW (v:=e.2.1.toNat) (by omega)
 have a4:=gX (s:=e.2.2.1) (by omega)
 have a5:=gX (s:=e.2.2.2.1) (by omega)
 have a6:=gX (s:=e.2.2.2.2) (by omega)
 have a7:=bW (v:=ks.length) (by omega)
 have hc:∀ {M' : RM} {j:Nat} {x:AV} {K:AV→Prop},ag [] M1 M'→(aP e kv)[j]?=some x→K x→ai M' (.ptr M.next j) K:=fun k hx hK=>by
  rw[aj (k.aD h0 (by omega) (by simp)) hx]; exact hK
 rw[aU,aU]
 refine hc (j:=0) (x:=N .i64 e.1.1) (ag.refl _ _) rfl ?_
 rw[dY,dw (by omega) (by omega),show e.1.1=((e.1.1.toNat:Nat) : Int) by omega]
 refine hu _ (by omega) fun r2 M2 o2 k2=>?_
 have n2:=k2.next
 rw[aU,aO]
 refine hc (j:=0 + 1) (x:=N .u64 (e.1.2:Int)) k2 rfl ?_
 refine xY hu (M0:=M1) k2 o2 e3 (by omega) fun r3 M3 o3 k3 _=>?_
 rw[aO]
 refine hc (j:=0 + 2) (x:=N .i64 e.2.1) k3 rfl ?_
 rw[dY,dw (by omega) (by omega),show e.2.1=((e.2.1.toNat:Nat) : Int) by omega]
 refine xY hu k3 o3 (by omega) (by rw[List.length_append]; omega) fun r4 M4 o4 k4 _=>?_
 rw[aO]
 refine hc (j:=0 + 3) (x:=St e.2.2.1) k4 rfl ?_
 rw[aO]
 refine hc (j:=0 + 4) (x:=St e.2.2.2.1) k4 rfl ?_
 rw[aO]
 refine hc (j:=0 + 5) (x:=St e.2.2.2.2) k4 rfl ?_
 have n4:=k4.next
 refine ht (by omega) fun r5 M5 o5 k5=>?_
 have k15:=k4.trans k5
 refine hc (j:=0 + 4) (x:=St e.2.2.2.1) k15 rfl ⟨rfl, ?_⟩
 refine hc (j:=0 + 5) (x:=St e.2.2.2.2) k15 rfl ⟨rfl, ?_⟩
 refine(o4.keep k5).app k15.next o5.sl (by simp only[List.length_append]; omega) fun r6 M6 o6 k6 hb6=>?_
 have k16:=k15.bG k6 (fun d hd=>.inl (hb6 d hd))
 refine hc (j:=0 + 4) (x:=St e.2.2.2.1) k16 rfl ⟨rfl, ?_⟩
 refine hc (j:=0 + 5) (x:=St e.2.2.2.2) k16 rfl ⟨rfl, ?_⟩
 refine ht (by omega) fun r7 M7 o7 k7=>?_
 have k17:=k16.trans k7
 refine hc (j:=0 + 5) (x:=St e.2.2.2.2) k17 rfl ⟨rfl, ?_⟩
 refine(o6.keep k7).app k17.next o7.sl (by simp only[List.length_append]; omega) fun r8 M8 o8 k8 hb8=>?_
 have k18:=k17.bG k8 (fun d hd=>.inl (hb8 d hd))
 refine hc (j:=0 + 5) (x:=St e.2.2.2.2) k18 rfl ⟨rfl, ?_⟩
 refine ht (by omega) fun r9 M9 o9 k9=>?_
 have k19:=k18.trans k9
 refine(o8.keep k9).app k19.next o9.sl (by simp only[List.length_append]; omega) fun r10 M10 o10 k10 awD=>?_
 have afh:=k19.bG k10 (fun d hd=>.inl (awD d hd))
 rw[aO]
 refine hc (j:=0 + 6) (x:=kv) afh rfl ?_
 rw[aL.len (aL.keep s1 afh (by simp)),dY,dw (by omega) (by omega)]
 refine xY hu afh o10 (by omega) (by simp only[List.length_append]; omega) fun r11 M11 o11 avD _=>?_
 have hpl:(bE e.1.1.toNat++bE e.1.2++bE e.2.1.toNat++eU e.2.2.1++eU e.2.2.2.1++eU e.2.2.2.2++bE ks.length).length≤1000:=by simp only[List.length_append]; omega
 unfold Jp at hQ
 generalize bE e.1.1.toNat++bE e.1.2++bE e.2.1.toNat++eU e.2.2.1++eU e.2.2.2.1++eU e.2.2.2.2++bE ks.length=p at *
 refine aQ (fun z ys M12=>∃ (i:Nat) (dv:AV),z=ks.length - i∧ys=[dv,N .i64 (i:Int)]∧i≤ks.length∧ag [] M1 M12∧qK TB M12 M1.next dv (p++(ks.take i).flatMap kY)) _
  ⟨0,r11,rfl,rfl,Nat.zero_le _,avD,by simpa using o11⟩ ?_
 rintro next z ys M12 hnext ⟨i,dv,rfl,rfl,hil,k12,o12⟩
 dsimp only[aa]
 have sk:∀ {M' : RM},ag [] M1 M'→Sl dV M' kv ks:=fun k=>aL.keep s1 k (by simp)
 rw[aO]
 refine hc (j:=0 + 6) (x:=kv) k12 rfl ?_
 rw[aL.len (sk k12),iD]
 refine aJ (fun hlt=>?_) (fun hge=>?_)
 ·have hlt:i<ks.length:=of_decide_eq_true hlt
  have hfl:=IM e9 i
  have hLl:(p++(ks.take i).flatMap kY).length≤1000 + 20 * 64:=by rw[List.length_append]; omega
  have hstep:∀ w M',ag [] M1 M'→qK TB M' M1.next w ((p++(ks.take i).flatMap kY)++kY ks[i])→next [w,N .i64 ((i + 1:Nat) : Int)] M':=fun w M' k o=>by
   refine hnext _ _ _ (by omega) ⟨i + 1,w,rfl,rfl,by omega,k, ?_⟩
   rw[Oh hlt]; exact o
  obtain⟨d0,d1,d2⟩:=e9 _ (List.getElem_mem hlt)
  generalize p++(ks.take i).flatMap kY=L at *
  obtain⟨b,o,_,_,hidx,hld⟩:=Sl.at (E:=dV) (i:=i) (sk k12) 2 (i:Int) hlt rfl rfl
  have hcd:∀ {M' : RM} {j:Nat} {x:AV} {K:AV→Prop},ag [] M1 M'→(aM ks[i])[j]?=some x→K x→ai M' (.ptr b (o + j)) K:=fun {M'} {j} {x} {K} k hj hK=>by
   obtain⟨b',o',_,_,atc,awY⟩:=Sl.at (E:=dV) (i:=i) (sk k) 2 (i:Int) hlt rfl rfl
   have hEq:AV.ptr b o=AV.ptr b' o':=by
    have h1:=hidx .i64 (fun a=>a=AV.ptr b o)
    have h2:=atc .i64 (fun a=>a=AV.ptr b o)
    have:(AV.ptr b' o'=AV.ptr b o):=by rw[← h2,h1]
    exact this.symm
   cases hEq
   exact aj0 awY hj hK
  rw[aO]
  refine hc (j:=0 + 6) (x:=kv) k12 rfl ?_
  rw[hidx,aO]
  refine hcd (j:=0) k12 (x:=N .i64 ks[i].1) rfl ?_
  rw[dY,dw (by omega) (by omega),aO]
  refine hc (j:=0 + 6) (x:=kv) k12 rfl ?_
  rw[hidx,aO]
  refine hcd (j:=1) k12 (x:=N .u64 (ks[i].2:Int)) rfl ?_
  rw[show ks[i].1=((ks[i].1.toNat:Nat) : Int) by omega]
  have c1:=bW (v:=ks[i].1.toNat) (by omega)
  refine hu _ (by omega) fun r13 M13 o13 k13=>?_
  have Z4:=k12.trans k13
  refine hc (j:=0 + 6) (x:=kv) Z4 rfl ⟨rfl, ?_⟩
  refine hcd (j:=1) Z4 (x:=N .u64 (ks[i].2:Int)) rfl ⟨rfl, ?_⟩
  refine(o12.keep k13).app Z4.next o13.sl (by omega) fun r14 M14 o14 k14 avn=>?_
  have aeC:=Z4.bG k14 (fun d hd=>.inl (avn d hd))
  refine hc (j:=0 + 6) (x:=kv) aeC rfl ⟨rfl, ?_⟩
  refine hcd (j:=1) aeC (x:=N .u64 (ks[i].2:Int)) rfl ⟨rfl, ?_⟩
  refine xY hu aeC o14 d2 (by rw[List.length_append]; omega) fun r15 M15 o15 k15 _=>?_
  rw[add1 (by omega)]
  refine hstep r15 M15 k15 ?_
  rw[show L++kY ks[i]=L++bE ks[i].1.toNat++bE ks[i].2 by simp[kY]]
  exact o15
 ·have he:i=ks.length:=by
   have:¬ i<ks.length:=of_decide_eq_false hge
   omega
  subst he
  rw[List.take_length] at o12
  exact hQ dv M12 (qK.mono o12 (by omega)) (k0.trans k12)
theorem ars (x k:UInt8) : N .u8 (Xg .u8 (x.toNat:Int) (k.toNat:Int))=By (x ^^^ k):=by
 rw[Xh rfl]
 simp only[qI]
 congr 2
 rw[UInt8.toNat_xor,Nat.mod_eq_of_lt]
 exact Nat.xor_lt_two_pow (Ou _) (Ou _)
theorem Ow.adg {M:RM} {base T:Nat} {v:AV} {L:List UInt8} (h:Own M base T 1 v (dL L) L.length) : Ow BY M base T v L:=by
 show Own M base T 1 v (BY.row L) L.length
 rw[yC]
 exact h
theorem aiH {M:RM} {base T:Nat} {v:AV} {L:List UInt8} {n:Int} {k:UInt8} {K:List AV→RM→Prop} (ho:Ow BY M base T v L)
  (hK:∀ L' M',Ow BY M' base T v L'→L'.length=L.length→(∀ n0,n0≤base→n0≤M.next→∀ M0,M0.next=n0→ag [] M0 M→ag [] M0 M')→K [] M') :
  (ae .geq (N .i64 n) (N .i64 0) fun t46 =>
   af t46 true (fun k=>dh v fun t50=>ae .lss (N .i64 n) t50 fun t51=>k t51 M) (fun k=>k .undef M) fun t51 M45 =>
   aH t46 t51 (Bo false) fun t52 =>
   az t52 (aA v (N .i64 n) 1 fun t57=>ai M45 t57 fun t58=>ae .xor t58 (By k) fun t60=>aA v (N .i64 n) 1 fun t61=>aC M45 t61 t60 1 fun M46=>K [] M46) (K [] M45)):=by
 have same:=hK L M ho rfl (fun _ _ _ _ _ k=>k)
 rw[iR]
 refine andM (p:=decide (n<(L.length:Int))) (fun _ K hK=>?_) ?_
 ·rw[aL.len ho.jm,bZ]; exact hK
 refine aJ (fun hc=>?_) (fun _=>same)
 have hc:n ≥ 0∧n<(L.length:Int):=by simpa using hc
 obtain⟨i,rfl⟩:=Int.eq_ofNat_of_zero_le hc.1
 have hi:i<L.length:=by omega
 obtain⟨b1,o1,_,_,hidx,hcell⟩:=Sl.Bu (E:=BY) ho.jm (i:Int) hi
 obtain⟨b,o,hb,hlt,Kg,hst⟩:=ac9 (j:=0) ho hi (by decide) (x:=By (L[i] ^^^ k)) (y:=L[i] ^^^ k) rfl rfl rfl
 have e1:=Kg .i64 (fun p=>ai M p fun t58=>ae .xor t58 (By k) fun t60=>aA v (N .i64 (i:Int)) 1 fun t61=>aC M t61 t60 1 fun M46=>K [] M46)
 rw[hidx,gI]
 refine⟨_,hcell _ rfl, ?_⟩
 rw[uM,ars,show(aA v (N .i64 (i:Int)) 1 fun t61=>aC M t61 (By (L[i] ^^^ k)) 1 fun M46=>K [] M46)=aC M (.ptr b o) (By (L[i] ^^^ k)) 1 fun M46=>K [] M46 from Kg .i64 _]
 refine hst _ fun M' o' k'=>hK _ M' o' (by simp) fun n0 h1 h2 M0 e0 k0=>?_
 exact k0.bG k' (fun d hd=>.inl (by simp at hd; omega))
theorem Il.both {TB:Nat} {c:au} (h:Il TB c) {M:RM} {e:gp} {kv:AV} {ks:List ay} {Q:ak} (hk:Sl dV M kv ks)
  (hQ:∀ r L (z:Int) M',Ow BY M' M.next TB r L→ag [] M M'→(bz e ks=false→L=[]∧z=1)→(bz e ks=true→L=Jp e ks∧z=0)→Q (.tup [r,N .i64 z]) M') : c [.agg (aP e kv)] M Q :=
 h hk (fun hb M' k=>hQ aZ [] 1 M' .nil k (fun _=>⟨rfl,rfl⟩) (fun h=>by rw[hb] at h; cases h))
   (fun hg r M' o k=>hQ r _ 0 M' (Ow.adg o) k (fun h=>by rw[hg] at h; cases h) (fun _=>⟨rfl,rfl⟩))
theorem yA.use {TB:Nat} {c:au} (h:yA TB c) {M:RM} {e:gp} {kv:AV} {ks:List ay} {Q:ak} (hk:Sl dV M kv ks) (hg:bz e ks=true)
  (hQ:∀ r M',Sl BY M' r (Jp e ks)→ag [] M M'→Q r M') : c [.agg (aP e kv)] M Q:=h hk hg fun r M' o k=>hQ r M' o.sl k
theorem Sk:∀ (ks:List ay),(∀ d∈ks,d.2<2 ^ 64∧d.1.toNat<2 ^ 64)→(ks.flatMap kY).length≤20 * ks.length
 | [],_=>by simp
 | d :: ks,h=>by
   have ih:=Sk ks fun x hx=>h x (List.mem_cons_of_mem _ hx)
   obtain⟨h1,h2⟩:=h d (by simp)
   have a1:=bW h1
   have a2:=bW h2
   simp only[List.flatMap_cons,List.length_append,kY,List.length_cons]
   omega
theorem ajd {e:gp} {ks:List ay} (h:bz e ks=true) : (Jp e ks).length≤100000:=by
 have h0:=h
 simp only[bz,good,names,Bw,Bool.and_eq_true,Bool.or_eq_true,decide_eq_true_eq] at h
 have hks:∀ (p:Option ay) (ls:List ay),gJ e.1 p ls=true→∀ d∈ls,d.2<2 ^ 64∧d.1.toNat<2 ^ 64:=fun p ls=>by
  induction ls generalizing p with
  | nil=>intro _ d hd; cases hd
  | cons q ls ih =>
    intro hh d hd
    simp only[gJ,Bool.and_eq_true] at hh
    rcases List.mem_cons.1 hd with rfl | hd
    ·have:=hh.1.1.1
     simp only[good,Bool.and_eq_true,decide_eq_true_eq] at this
     omega
    ·exact ih _ hh.2 d hd
 have hl:=Sk ks (hks _ _ h.1.2)
 have a1:=bW (v:=e.1.1.toNat) (by omega)
 have a2:=bW (v:=e.1.2) (by omega)
 have a3:=bW (v:=e.2.1.toNat) (by omega)
 have a4:=gX (s:=e.2.2.1) (by omega)
 have a5:=gX (s:=e.2.2.2.1) (by omega)
 have a6:=gX (s:=e.2.2.2.2) (by omega)
 have a7:=bW (v:=ks.length) (by omega)
 simp only[Jp,List.length_append]
 omega
theorem Y4:∀ (es:List aS),5 * es.length≤(es.flatMap qj).length
 | []=>by simp
 | x :: es=>by
   have ih:=Y4 es
   have a1:=yH x.1.1.toNat
   have a2:=yH x.1.2
   have a3:1≤(eU x.2.1).length:=by rw[eU,List.length_append]; have:=yH x.2.1.length; omega
   have a4:1≤(eU x.2.2.1).length:=by rw[eU,List.length_append]; have:=yH x.2.2.1.length; omega
   have a5:1≤(eU x.2.2.2).length:=by rw[eU,List.length_append]; have:=yH x.2.2.2.length; omega
   simp only[List.flatMap_cons,List.length_append,List.length_cons,qj]
   omega
theorem NM {b:List UInt8} {ps:List Pt} {es:List aS} (h:tQ b=some (ps,es)) : Jl ps es=b:=by
 unfold tQ at h
 split at h
 ·cases h
 ·split at h
  ·cases h
  ·split at h
   ·cases h
   ·rename_i hc
    cases h
    simp only[Bool.or_eq_true,not_or,Bool.not_eq_true',Bool.not_eq_false] at hc
    exact eq_of_beq hc.2
structure Y9 (TS T:Nat) (M' : RM) (bs:List UInt8) (r:AV) : Prop where
 st:∃ t ps es B,r=.ptr t 0∧Jl ps es=bs∧tL TS T B M' t ps es∧(∀ p∈ps,Bd p)∧(∀ x∈es,rR x)∧es.length≤340000∧t<M'.next∧∀ d,B d→d<M'.next
theorem IU.both {TS T:Nat} {c:au} (h:IU TS T c) {M:RM} {v:AV} {bs:List UInt8} {Q:ak} (hs:Sl BY M v bs) (hl:bs.length≤1600000)
  (hQ:∀ r (z:Int) M',ag [] M M'→(tQ bs=none→r=.sc (.pointer none)∧z=14)→(∀ x,tQ bs=some x→z=0∧Y9 TS T M' bs r)→Q (.tup [r,N .i64 z]) M') : c [v] M Q :=
 h hs hl (fun hn M' k=>hQ _ 14 M' k (fun _=>⟨rfl,rfl⟩) (fun x hx=>by rw[hn] at hx; cases hx))
   (fun ps es he h1 h2 t M' ht st k=>hQ _ 0 M' k (fun hn=>by rw[hn] at he; cases he) (fun x hx=>⟨rfl,⟨⟨t,ps,es,_,rfl,NM he,st.below,h2,h1,by
    have e:=congrArg List.length (NM he)
    have:=Y4 es
    simp only[Jl,List.length_append] at e
    omega,st.lt,fun d hd=>hd.2⟩⟩⟩))
theorem Y9.keep {TS T:Nat} {M M' : RM} {bs:List UInt8} {r:AV} (h:Y9 TS T M bs r) (k:ag [] M M') : Y9 TS T M' bs r:=by
 obtain⟨t,ps,es,B,h1,h2,st,b1,b2,b3,b4,b5⟩:=h.st
 exact⟨t,ps,es,B,h1,h2,st.keep k (by simp) (by simp),b1,b2,b3,Nat.lt_of_lt_of_le b4 k.next,fun d hd=>Nat.lt_of_lt_of_le (b5 d hd) k.next⟩
theorem Y9.enc {TS T TB:Nat} {cE:au} (hE:yG TS T TB cE) {M:RM} {bs:List UInt8} {r:AV} {Q:ak} (h:Y9 TS T M bs r) (hQ:∀ v M',Sl BY M' v bs→ag [] M M'→Q v M') : cE [r] M Q:=by
 obtain⟨t,ps,es,B,rfl,rfl,st,b1,b2,b3,_,_⟩:=h.st
 exact hE st b1 b2 b3 fun r' M' o _ k=>hQ r' M' (Own.sl o) k
def aaZ (B:Base) (c:au) : Prop:=∀ {M:RM} {e:gp} {kv:AV} {ks:List ay} {v:AV} {bs:List UInt8} {w:AV} {l:List Ev} {n:Int} {k:UInt8} {Q:ak},M.base=B→Sl dV M kv ks→Sl BY M v bs→eZ v→bs.length≤1600000→iZ vo M w l (fun d=>d<M.next)→(∀ M',Q (Bo true) M')→c [.agg (aP e kv),v,w,N .i64 n,By k] M Q
theorem QY {B:Base} {TS T TE TB:Nat} {ca cn cG cg cv co cs cE cD:au} (ha:AwakeC B ca) (hn:Il TB cn) (hG:qy cG) (hg:yA TB cg) (hv:XA cv) (ho:afR TE co) (hs:NV TS T cs) (hE:yG TS T TB cE) (hD:IU TS T cD) :
  aaZ B fun args M Q=>∃ a0 a1 a2 a3 a4,args=[a0,a1,a2,a3,a4]∧DU TE ca cn cG cg cv co cs cE cD a0 a1 a2 a3 a4 M Q:=by
 intro M0 e kv ks v bs w l n k Q hM hk0 hv0 hcap hbs hw0 hQ
 refine⟨_,_,_,_,_,rfl, ?_⟩
 unfold DU
 simp only[gQ,ig,fQ,gG,fo]
 rw[dU (oI hk0) (by simp),bn]
 have kb:ag [] M0 (M0.push (.row (aP e kv) false TE 0)):=(ag.refl _ _).push _
 have hb:(M0.push (.row (aP e kv) false TE 0)).heap M0.next=some (.row (aP e kv) false TE 0):=RM.aT _
 have hMb:(M0.push (.row (aP e kv) false TE 0)).base=B:=hM
 have nb:(M0.push (.row (aP e kv) false TE 0)).next=M0.next + 1:=rfl
 have hk1:=aL.keep hk0 kb (by simp)
 generalize M0.push (.row (aP e kv) false TE 0)=M at *
 refine ha hMb ?_
 rw[aY,Bool.not_true,bJ,bI (n:=7) hb rfl]
 refine hn.both hk1 fun r L z M1 o1 k1 hbad hgood=>?_
 rw[eD,eF]
 have hb1:=k1.aD hb (by omega) (by simp)
 have aqd:=aL.keep hk1 k1 (by simp)
 refine di (fun xs M3=>∃ c L',xs=[c]∧Ow BY M3 M.next TB c L'∧L'.length≤100000∧ag [] M M3) ?_ ?_
 rotate_left
 ·intro J hJ
  rw[bI (n:=7) hb1 rfl]
  refine hG aqd fun M2 k2=>?_
  rw[aY]
  have o2:=o1.keep k2 (by simp)
  cases hgd:bz e ks with
  | false =>
    obtain⟨rfl,rfl⟩:=hbad hgd
    rw[Bool.not_false,cO,fM,show((1:Int) != 1)=false from rfl]
    refine mE (p:=false) (fun _ K hK=>?_) ?_
    ·rw[aL.len o2.jm,fM]; exact hK
    rw[Bool.or_false,bJ]
    exact hJ _ _ ⟨aZ,[],rfl,.nil,by simp,k1.trans k2⟩
  | true =>
    obtain⟨rfl,rfl⟩:=hgood hgd
    rw[Bool.not_true,bJ,fM,show((0:Int) != 0)=false from rfl]
    rw[gF]
    dsimp only
    rw[gF,Sl.str o2.jm]
    dsimp only
    rw[bg,bI (n:=7) (k2.aD hb1 (by have:=k1.next; omega) (by simp)) rfl]
    refine hg.use (aL.keep aqd k2 (by simp)) hgd fun r2 M4 s4 k4=>?_
    dsimp only
    rw[mo,Sl.str (aL.keep o2.jm k4 (by simp))]
    refine⟨rfl, ?_⟩
    rw[gF,Sl.str s4,uN,show(Jp e ks != Jp e ks)=false by simp]
    dsimp only
    rw[bK,bJ]
    exact hJ _ _ ⟨r,_,rfl,o2.keep k4 (by simp),ajd hgd,k1.trans (k2.trans k4)⟩
 ·rintro xs M3 ⟨c,L',rfl,o3,l3,k3⟩
  dsimp only[aa]
  refine di (fun _ M4=>∃ L'',Ow BY M4 M.next TB c L''∧L''.length≤100000∧ag [] M M4) ?_ ?_
  rotate_left
  ·intro J hJ
   exact aiH o3 fun L2 M4 o4 e4 kk=>hJ [] M4 ⟨L2,o4,by omega,kk M.next (Nat.le_refl _) k3.next M rfl k3⟩
  rintro xs M4 ⟨L4,o4,l4,k4⟩
  have kA:=kb.trans k4
  refine hv o4.jm (Own.eZ o4) (by omega) fun M5 k5=>?_
  rw[aY,Bool.not_true]
  have kB:=kA.trans k5
  refine UI (P:=fun M'=>ag [] M5 M') (p:=false) (ag.refl _ _) (fun _ K hK=>?_) fun M6 k6=>?_
  ·refine hv (aL.keep hv0 kB (by simp)) hcap (by omega) fun M6 k6=>?_
   rw[aY]
   exact hK M6 k6
  have kC:=kB.trans k6
  have hw6:iZ vo M6 w l (fun d=>d<M6.next):=(hw0.keep kC (by simp)).mono (fun d hd=>Nat.lt_of_lt_of_le hd kC.next)
  refine mE (p:=decide (30<l.length)) (fun _ K hK=>?_) ?_
  ·rw[hw6.len,dF,show decide ((l.length:Int) > 30)=decide (30<l.length) by simp; omega]
   exact hK
  refine aJ (fun hgt=>?_) (fun hle=>?_)
  ·have hgt:30<l.length:=by simpa using hgt
   rw[hw6.len,dF]
   refine Tu (P:=fun M'=>ag [] M6 M') (p:=true) (ag.refl _ _) (fun _ K hK=>?_) fun M7 k7=>?_
   ·exact hv (aL.keep o4.jm (k5.trans k6) (by simp)) (Own.eZ o4) (by omega) fun M7 k7=>hK M7 k7
   refine Tu (P:=fun M'=>ag [] M7 M') (p:=true) (ag.refl _ _) (fun _ K hK=>?_) fun M8 k8=>?_
   ·exact hv (aL.keep hv0 (kC.trans k7) (by simp)) hcap (by omega) fun M8 k8=>hK M8 k8
   rw[show(decide ((l.length:Int) > 30) && true && true)=true by simp; omega]
   exact hQ M8
  have hle:l.length≤30:=by
   simp at hle; omega
  refine ho hw6 (by omega) fun w' M7 hw7 k7=>?_
  have hol:=Yx l
  refine hs hw7 (by omega) (m:=0) rfl (by omega) fun t M8 ht st8 k8=>?_
  have hwg:=SX l
  have hwo:=afS l
  have hwl:(j5 l).length≤60:=by omega
  have ch:=Ch.ajV (m:=0) (back:=false) hwg hwo hwl
  have iI:JA (j5 l) (jP (ja (j5 l) 0 false)).1 (jP (ja (j5 l) 0 false)).2:=⟨ch,hwo,hwg,hwl⟩
  have iS:SI (jR (j5 l)).length (jP (ja (j5 l) 0 false)).1:=ch.siD (fun d hd=>hd)
  have lS:(jP (ja (j5 l) 0 false)).2.length≤60:=Nat.le_trans (ch.len (m:=j5 l) fun e he=>he) hwl
  have asI:(Jl (jP (ja (j5 l) 0 false)).1 (jP (ja (j5 l) 0 false)).2).length≤1600000:=by
   have t0:=iI.axw
   have t1:=gX (s:=encS (jP (ja (j5 l) 0 false)).1) (by omega)
   have t2:=bW (v:=(jP (ja (j5 l) 0 false)).2.length) (by omega)
   have t3:=Jb iI.ok (jP (ja (j5 l) 0 false)).2.length
   rw[List.take_length] at t3
   simp only[Jl,List.length_append]
   omega
  refine hE st8 (fun p hp=>(iS.wf p hp).bd) iI.ok (by omega) fun c2 M9 o9 e9 k9=>?_
  have o9:=Ow.adg o9
  clear e9 st8 iS iI ch lS
  generalize Jl (jP (ja (j5 l) 0 false)).1 (jP (ja (j5 l) 0 false)).2=L9 at *
  have kD:=kC.trans k7
  have nD:=kD.next
  have kE:=(kD.trans k8).trans k9
  have n8:=k8.next
  refine di (fun _ M10=>∃ L10,Ow BY M10 M8.next TB c2 L10∧L10.length≤1600000∧ag [] M0 M10) ?_ ?_
  rotate_left
  ·intro J hJ
   exact aiH o9 fun L2 M10 o10 e10 kk=>hJ [] M10 ⟨L2,o10,by omega,kk M0.next (by omega) kE.next M0 rfl kE⟩
  clear hwg hwo hwl asI o9 kE k9
  rintro xs M10 ⟨L10,o10,l10,k10⟩
  have s10:=o10.jm
  refine hD.both s10 l10 fun r1 z1 M11 k11 hn1 hs1=>?_
  rw[eD,eF]
  have kF:=k10.trans k11
  refine hD.both (aL.keep hv0 kF (by simp)) hbs fun r2 z2 M12 k12 hn2 hs2=>?_
  rw[eD,eF]
  have kG:=kF.trans k12
  have s12:Sl BY M12 c2 L10:=aL.keep s10 (k11.trans k12) (by simp)
  rw[bT]
  -- the first state,encoded again
  have Gg:((14:Int) == 0)=false:=rfl
  have e00:((0:Int) == 0)=true:=rfl
  have zB:((14:Int) == 14)=true:=rfl
  cases h1:tQ L10 with
  | none =>
    obtain⟨rfl,rfl⟩:=hn1 h1
    simp only[gF,gW,jo,gY,bg,bC,bM,bU,mo,nT,nW,nV,nY,iO,cK,bK,bT,iq,Gg,e00,zB,Bool.not_false]
    cases h2:tQ bs with
    | none =>
      obtain⟨rfl,rfl⟩:=hn2 h2
      simp only[gF,gW,jo,gY,bg,bC,bM,bU,mo,nT,nW,nV,nY,iO,cK,bK,bT,iq,Gg,e00,zB,Bool.not_false]
      exact hQ _
    | some x2 =>
      obtain⟨rfl,g2⟩:=hs2 _ h2
      simp only[gF,gW,jo,gY,bg,bC,bM,bU,mo,nT,nW,nV,nY,iO,cK,bK,bT,iq,Gg,e00,zB,Bool.not_false]
      rw[Sl.str (aL.keep hv0 kG (by simp))]
      refine(g2).enc hE fun v14 M14 s14 k14=>?_
      rw[Sl.str (aL.keep hv0 ((kG).trans k14) (by simp))]
      refine⟨rfl, ?_⟩
      rw[Sl.str s14,qV,beq_self_eq_true]
      try simp only[gF,gW,jo,gY,bg,bC,bM,bU,mo,nT,nW,nV,nY,iO,cK,bK,bT,iq,Gg,e00,zB,Bool.not_false]
      exact hQ _
  | some x1 =>
    obtain⟨rfl,g1⟩:=hs1 _ h1
    simp only[gF,gW,jo,gY,bg,bC,bM,bU,mo,nT,nW,nV,nY,iO,cK,bK,bT,iq,Gg,e00,zB,Bool.not_false]
    rw[Sl.str s12]
    refine(g1.keep k12).enc hE fun v13 M13 s13 k13=>?_
    rw[Sl.str (aL.keep s12 k13 (by simp))]
    refine⟨rfl, ?_⟩
    rw[Sl.str s13,qV,beq_self_eq_true]
    simp only[gF,gW,jo,gY,bg,bC,bM,bU,mo,nT,nW,nV,nY,iO,cK,bK,bT,iq,Gg,e00,zB,Bool.not_false]
    cases h2:tQ bs with
    | none =>
      obtain⟨rfl,rfl⟩:=hn2 h2
      simp only[gF,gW,jo,gY,bg,bC,bM,bU,mo,nT,nW,nV,nY,iO,cK,bK,bT,iq,Gg,e00,zB,Bool.not_false]
      exact hQ _
    | some x2 =>
      obtain⟨rfl,g2⟩:=hs2 _ h2
      simp only[gF,gW,jo,gY,bg,bC,bM,bU,mo,nT,nW,nV,nY,iO,cK,bK,bT,iq,Gg,e00,zB,Bool.not_false]
      rw[Sl.str (aL.keep hv0 (kG.trans k13) (by simp))]
      refine(g2.keep k13).enc hE fun v14 M14 s14 k14=>?_
      rw[Sl.str (aL.keep hv0 (((kG.trans k13)).trans k14) (by simp))]
      refine⟨rfl, ?_⟩
      rw[Sl.str s14,qV,beq_self_eq_true]
      try simp only[gF,gW,jo,gY,bg,bC,bM,bU,mo,nT,nW,nV,nY,iO,cK,bK,bT,iq,Gg,e00,zB,Bool.not_false]
      exact hQ _
end Go.Ab.Crw
namespace Go.Ab
open Go Go.RowKit Go.ChangeShapes
section
variable {H:Type} {enc:TypeId × Value→H} {P:Program} {w:World} {base:Nat} {spare:Nat→Bool} {held:Bool}
theorem XD {t0 t1 t2 t3 t4:TypeId} {args:Array Value} {ds:List (DataW H)} {ps:List MemPlace} (h:DataW.TrodAll enc P w base spare held [t0,t1,t2,t3,t4] args.toList ds ps) :
  ∃ v0 v1 v2 v3 v4 d0 d1 d2 d3 d4 p0 p1 p2 p3 p4,args = #[v0,v1,v2,v3,v4]∧ds=[d0,d1,d2,d3,d4]∧ps=p0++p1++p2++p3++p4∧DataW.Trod enc P w base spare held t0 v0 d0 p0∧DataW.Trod enc P w base spare held t1 v1 d1 p1∧DataW.Trod enc P w base spare held t2 v2 d2 p2∧DataW.Trod enc P w base spare held t3 v3 d3 p3∧DataW.Trod enc P w base spare held t4 v4 d4 p4:=by
 obtain⟨v0,vs0,d0,ds0,p0,q0,hargs,rfl,rfl,h0,r0⟩:=trodAll_cons h
 obtain⟨v1,vs1,d1,ds1,p1,q1,rfl,rfl,rfl,h1,r1⟩:=trodAll_cons r0
 obtain⟨v2,vs2,d2,ds2,p2,q2,rfl,rfl,rfl,h2,r2⟩:=trodAll_cons r1
 obtain⟨v3,vs3,d3,ds3,p3,q3,rfl,rfl,rfl,h3,r3⟩:=trodAll_cons r2
 obtain⟨v4,vs4,d4,ds4,p4,q4,rfl,rfl,rfl,h4,r4⟩:=trodAll_cons r3
 obtain⟨rfl,rfl,rfl⟩:=trodAll_nil r4
 exact⟨v0,v1,v2,v3,v4,d0,d1,d2,d3,d4,p0,p1,p2,p3,p4,by cases args; simp_all,rfl,by simp,h0,h1,h2,h3,h4⟩
end
end Go.Ab
namespace Go.Ab
open Go Go.ChangeShapes
theorem KZ {H:Type} {enc:TypeId × Value→H} {a:Assume} {C:Checked} {os:Os} {f:FuncId} {fn:Func} {s:OpenSpec} {k:(H:Type)→List (DataW H)→Bool} (hk:s.cond=some k) {F:Stop.Interp} {conds:List PathCond} {apart fresh handsOn again:Bool}
  (own:ownKnob C.prog.godebug=none) (started:os.Started) (noInit:C.prog.inits.idxOf? f=none) (hfn:C.prog.funcs[f]?=some fn)
  (witness:∃ (w:World) (tape:Tape) (i:Input),w.os=os∧(w.forCall tape i).Shaped C.prog∧i.vars=[]∧Input.okWide C.prog (w.forCall tape i) .any w.heap.size f i ∧
   s.pre6 enc C.prog fn conds apart (w.forCall tape i).memory i.args∧a.holds C.prog (lone (Frame.enter C.prog f i.args .normal) [] (w.forCall tape i)))
  (contract:∀ (W:World) (base:Nat) (args:Array Value) (ds gs:List (DataW H)) (before:List MemPlace),
   (∀ (j:Nat) t v,fn.params[j]?=some t→args[j]?=some v→Value.okWide C.prog W .any base t v) →
   DataW.Whole enc C.prog fn.params.toList s.vars apart W args.toList ds gs before →
   conds.all (PathCond.test C.prog ⟨fn.params.toList,ds,s.bare.plain.varTypes C.prog,gs⟩)=true→k H (ds++gs)=true →
   (DataW.weightsEach C.prog (fn.params.toList++s.bare.plain.varTypes C.prog) (ds++gs)).all (· ≤ reachBytes)=true →
   a.holds C.prog (lone (Frame.enter C.prog f args .normal) [] W) →
   Calls C.prog f args W fun e W'=>∃ v,e=.returned v∧(s.at F).post enc C.prog fn apart fresh handsOn again W args v W') :
  ReturnsInHanded a C os f .any (s.pre6 enc C.prog fn conds apart) ((s.at F).post enc C.prog fn apart fresh handsOn again):=by
 refine returnsInHanded_of_calls own started noInit witness ?_
 intro w tape i _ _ _ hok hpre hholds
 obtain⟨_,_,_,fn',hfn',_,_,_,_,hval⟩:=hok
 have e:fn'=fn:=Option.some.inj (hfn'.symm.trans hfn)
 subst e
 obtain⟨ds,gs,before,hw,hc,hkk⟩:=(OpenSpec.pre_some hk conds apart _ _).1 hpre.1
 have hw':=DataW.Whole.of_heap (w':=w.forCall tape i) (by rfl) hw
 refine(contract (w.forCall tape i) w.heap.size i.args ds gs before hval hw' hc hkk (hpre.2.weights hw) hholds).mono fun e W' ⟨v,he,hp⟩=>?_
 subst he
 exact ChangeSpec.post_blind hp
end Go.Ab
