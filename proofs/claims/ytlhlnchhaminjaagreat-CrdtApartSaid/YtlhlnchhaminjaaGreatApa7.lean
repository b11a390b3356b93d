/- Part 7 of the ground of the proofs of this seat (texts C13 to C13). By an AI agent. -/
import Derived.Test.YtlhlnchhaminjaaGreatApa6
set_option maxRecDepth 10000
set_option linter.unusedVariables false
set_option linter.unusedSimpArgs false
namespace Go.Ab.Crw
open Go Go.Ab Go.Ab.ak
theorem OZ {M:RM} {b o n k:Nat} {cs:List AV} (h:M.loads b o n=some cs) (hk:k≤n) : M.loads b o k=some (cs.take k):=by
 unfold RM.loads at h ⊢
 split at h
 ·rename_i l _
  split at h
  ·cases h
   rw [if_pos (by omega),List.take_take,Nat.min_eq_left hk]
  ·cases h
 ·cases h
def Pf (B:Base) (c:aj) : Prop:=∀ {M:RM} {v:AV} {l:List Ev} {cn f a b cc:List UInt8} {Q:ah},M.base=B→gX rQ M v l (fun d=>d<M.next)→(∀ M',Q (Bo true) M')→c [v,St cn,St f,St a,St b,St cc] M Q
theorem Hz {B:Base} {TS T TE TN:Nat} {ca co cs cM ck cA cj cE cO cq:aj} (ha:Lg B ca) (ho:UM TE co) (hs:LG TS T cs) (hM:AP TS T cM) (hc:IJ TS T ck) (hA:Ck TS T cA) (hj:Dj TS T cj) (hE:EH TS T TN cE) (hO:K4 TN cO) (hq:IZ TS T cq) :
  Pf B fun args M Q=>∃ a0 a1 a2 a3 a4 a5,args=[a0,a1,a2,a3,a4,a5]∧yh ca co cs cM TE ck cA cj cE cO cq a0 a1 a2 a3 a4 a5 M Q:=by
 intro M v l cn f xa xb xc Q hM0 hv hQ
 refine ⟨_,_,_,_,_,_,rfl, ?_⟩
 unfold yh
 simp only [iA,eD,dN,dQ,bT]
 refine ha hM0 ?_
 rw [bB,Bool.not_true,bF,hv.len,gH]
 refine yw (p:=decide ((xc.length:Int) > 512)) (fun _ k hk=>by rw [kI,gH]; exact hk) ?_
 refine aF (fun _=>hQ _) (fun hlen=>?_)
 simp only [Bool.or_eq_false_iff,decide_eq_false_iff_not] at hlen
 obtain ⟨hl1,hl2⟩:=hlen
 have hxc:xc.length≤512:=by omega
 refine ho hv (by omega) fun w M1 hw k1=>?_
 have hwl:(rG l).length≤30:=by have:=Nf l; omega
 have hwg:∀ x∈rG l,bY x.1 x.2=true:=JM l [] (by simp)
 have hw1:=TJ l
 generalize rG l=wl at *
 -- no device of theirs
 refine aG (fun m ys M3=>∃ i:Nat,m=wl.length - i∧ys=[N .i64 (i:Int)]∧i≤wl.length∧M3=M1∧∀ e∈wl.take i,e.1.1.1<12∧∀ k∈e.2,k.1<12) _ ⟨0,rfl,rfl,Nat.zero_le _,rfl,by simp⟩ ?_
 rintro next m ys M3 hnext ⟨i,rfl,rfl,hi,rfl,hdev⟩
 dsimp only [aa]
 rw [hw.len,dS]
 refine aF (fun hlt=>?_) (fun hge=>?_)
 ·have hlt:i<wl.length:=of_decide_eq_true hlt
  obtain ⟨b,o,kv,hidx,hld,hkv⟩:=Nt hw hlt
  rw [hidx,aY,aY,Nat.add_zero]
  refine yS (j:=0) hld (x:=N .i64 wl[i].1.1.1) rfl ?_
  rw [fw]
  refine aF (fun _=>hQ _) (fun hd=>?_)
  have hd:wl[i].1.1.1<12:=by
   have:¬ wl[i].1.1.1 ≥ 12:=of_decide_eq_false hd
   omega
  refine aG (fun m ys M4=>∃ j:Nat,m=wl[i].2.length - j∧ys=[N .i64 (j:Int)]∧j≤wl[i].2.length∧M4=M3∧∀ k∈wl[i].2.take j,k.1<12) _ ⟨0,rfl,rfl,Nat.zero_le _,rfl,by simp⟩ ?_
  rintro next2 m ys M4 hnext2 ⟨j,rfl,rfl,hj,rfl,hk⟩
  dsimp only [aa]
  rw [hidx,aY]
  refine yS (j:=6) hld (x:=kv) rfl ?_
  rw [aN.len hkv,dS]
  refine aF (fun hlt2=>?_) (fun hge2=>?_)
  ·have hlt2:j<wl[i].2.length:=of_decide_eq_true hlt2
   rw [hidx,aY]
   refine yS (j:=6) hld (x:=kv) rfl ?_
   obtain ⟨b1,o1,_,_,hidx1,hld1⟩:=Sl.at (E:=aR) (i:=j) hkv 2 (j:Int) hlt2 rfl rfl
   rw [hidx1,aY]
   refine yS (j:=0) hld1 (x:=N .i64 (wl[i].2[j]).1) rfl ?_
   rw [fw]
   refine aF (fun _=>hQ _) (fun hd2=>?_)
   have hd2:(wl[i].2[j]).1<12:=by
    have:¬ (wl[i].2[j]).1 ≥ 12:=of_decide_eq_false hd2
    omega
   rw [add1 (by have:=(nu (hwg _ (List.getElem_mem hlt))).2.1; omega)]
   refine hnext2 _ _ _ (by omega) ⟨j + 1,rfl,rfl,by omega,rfl,fun k hk'=>?_⟩
   rw [List.take_succ_eq_append_getElem hlt2,List.mem_append,List.mem_singleton] at hk'
   rcases hk' with hk' | rfl
   ·exact hk k hk'
   ·exact hd2
  ·have hje:j=wl[i].2.length:=by
    have:¬ j<wl[i].2.length:=of_decide_eq_false hge2
    omega
   subst hje
   rw [List.take_length] at hk
   rw [add1 (by omega)]
   refine hnext _ _ _ (by omega) ⟨i + 1,rfl,rfl,by omega,rfl,fun e he=>?_⟩
   rw [List.take_succ_eq_append_getElem hlt,List.mem_append,List.mem_singleton] at he
   rcases he with he | rfl
   ·exact hdev e he
   ·exact ⟨hd,hk⟩
 have hie:i=wl.length:=by
  have:¬ i<wl.length:=of_decide_eq_false hge
  omega
 subst hie
 rw [List.take_length] at hdev
 clear hnext hge hi
 -- the state
 refine hs (m:=0) hw (by omega) rfl (by omega) fun ts M2 hts st2 k2=>?_
 rw [VM] at st2
 have hCh:=Ch.run hwg hw1 (by omega)
 have sI:=Kw wl
 have S2:SH TS T M2 ts (fun d=>M3.next≤d∧d<M2.next∧d≠ts) (mP wl):=⟨st2,fun d hd=>hd.2.1⟩
 generalize (fun d=>M3.next≤d∧d<M2.next∧d≠ts)=Bs at *
 generalize mP wl=s at *
 have hsl:s.2.length≤30:=by have:=sI.few; omega
 rw [ja]
 refine ⟨aO (12,1),rfl, ?_⟩
 refine x9 hM S2 (by omega) fun X n1 M4 hX7 hX1 hXok hXbad k4=>?_
 rw [ic,il,bi,dI (n:=7) (x:=.agg X) (l:=[(N .i64 0),(N .u64 0),(N .i64 0),(St []),(St []),(St []),(.sc (.slice none 0 0))]) (RM.aQ _) hX7 rfl hX1]
 have k5:ag [] M4 ((M4.push (.row [(N .i64 0),(N .u64 0),(N .i64 0),(St []),(St []),(St []),(.sc (.slice none 0 0))] false TE 0)).put M4.next (.row (AV.agg X).cells false TE 0)):=((ag.refl _ _).push _).new _ (Nat.le_refl _)
 have h5:((M4.push (.row [(N .i64 0),(N .u64 0),(N .i64 0),(St []),(St []),(St []),(.sc (.slice none 0 0))] false TE 0)).put M4.next (.row (AV.agg X).cells false TE 0)).heap M4.next=some (.row X false TE 0):=aP _
 have n5:M4.next<((M4.push (.row [(N .i64 0),(N .u64 0),(N .i64 0),(St []),(St []),(St []),(.sc (.slice none 0 0))] false TE 0)).put M4.next (.row (AV.agg X).cells false TE 0)).next:=by rw [iF]; simp [RM.push]
 generalize (M4.push (.row [(N .i64 0),(N .u64 0),(N .i64 0),(St []),(St []),(St []),(.sc (.slice none 0 0))] false TE 0)).put M4.next (.row (AV.agg X).cells false TE 0)=M5 at *
 have nn4:=k4.next
 have S5:=(S2.ek k4).ek k5
 rw [ja]
 refine ⟨aO (13,1),rfl, ?_⟩
 refine x9 hM S5 (by omega) fun Y n2 M6 hY7 hY1 hYok hYbad k6=>?_
 rw [ic,il,bi,dI (n:=7) (x:=.agg Y) (l:=[(N .i64 0),(N .u64 0),(N .i64 0),(St []),(St []),(St []),(.sc (.slice none 0 0))]) (RM.aQ _) hY7 rfl hY1]
 have k7:ag [] M6 ((M6.push (.row [(N .i64 0),(N .u64 0),(N .i64 0),(St []),(St []),(St []),(.sc (.slice none 0 0))] false TE 0)).put M6.next (.row (AV.agg Y).cells false TE 0)):=((ag.refl _ _).push _).new _ (Nat.le_refl _)
 have h7:((M6.push (.row [(N .i64 0),(N .u64 0),(N .i64 0),(St []),(St []),(St []),(.sc (.slice none 0 0))] false TE 0)).put M6.next (.row (AV.agg Y).cells false TE 0)).heap M6.next=some (.row Y false TE 0):=aP _
 have n7:M6.next<((M6.push (.row [(N .i64 0),(N .u64 0),(N .i64 0),(St []),(St []),(St []),(.sc (.slice none 0 0))] false TE 0)).put M6.next (.row (AV.agg Y).cells false TE 0)).next:=by rw [iF]; simp [RM.push]
 generalize (M6.push (.row [(N .i64 0),(N .u64 0),(N .i64 0),(St []),(St []),(St []),(.sc (.slice none 0 0))] false TE 0)).put M6.next (.row (AV.agg Y).cells false TE 0)=M7 at *
 have nn6:=k6.next
 have S7:=(S5.ek k6).ek k7
 rw [iJ]
 refine yw (p:=n2 != 0) (fun _ k hk=>by rw [iJ]; exact hk) ?_
 refine aF (fun _=>hQ _) (fun hne=>?_)
 rw [Bool.or_eq_false_iff] at hne
 have e1:n1=0:=by simpa using hne.1
 have e2:n2=0:=by simpa using hne.2
 obtain ⟨kx,rfl,hf,hgx,hkx,hkxb⟩:=hXok e1
 obtain ⟨ky,rfl,_,hgy,hky,hkyb⟩:=hYok e2
 clear hXok hXbad hYok hYbad hne
 have hap:Apart wl s cn f xa xb xc:=⟨hCh,hwg,hw1,hwl,hdev,hf,hgx,hgy,hxc⟩
 have k57:=k6.trans k7
 have EX7:vN TE M7 M4.next (setOf (12,1) cn f xa) kx (gL s.2 cn f):=⟨by omega,k57.aK h5 n5 (by simp),aN.keep hkx (k5.trans k57) (by simp)⟩
 have EY7:vN TE M7 M6.next (setOf (13,1) cn f xb) ky (gL s.2 cn f):=⟨by omega,h7,aN.keep hky k7 (by simp)⟩
 have tsl:=S2.st.lt
 have loS:=S2.lo
 -- copies
 refine hc S7.st sI.si (by omega) (by omega) fun tp M8 htp stp k8=>?_
 have P8:SH TS T M8 tp (fun d=>M7.next≤d∧d<tp) s:=⟨stp,fun d hd=>by have:=stp.lt; omega⟩
 have S8:=S7.ek k8
 have EX8:=EX7.ek k8
 have EY8:=EY7.ek k8
 have tpl:=stp.lt
 refine hc S8.st sI.si (by omega) (by omega) fun tq M9 htq stq k9=>?_
 have Q9:SH TS T M9 tq (fun d=>M8.next≤d∧d<tq) s:=⟨stq,fun d hd=>by have:=stq.lt; omega⟩
 have S9:=S8.ek k9
 have P9:=P8.ek k9
 have EX9:=EX8.ek k9
 have EY9:=EY8.ek k9
 have tql:=stq.lt
 have n3:=k2.next
 have n8:=k8.next
 have n9:=k9.next
 have xlt:=EX7.lt
 have ylt:=EY7.lt
 have kxl:∀ d∈aH kx,M2.next≤d∧d<M7.next:=fun d hd=>⟨hkxb d hd,aN.lt EX7.kills d hd⟩
 have kyl:∀ d∈aH ky,M5.next≤d∧d<M7.next:=fun d hd=>⟨hkyb d hd,aN.lt EY7.kills d hd⟩
 have sp:Sep ts Bs tp (fun d=>M7.next≤d∧d<tp):=⟨⟨by omega,fun h=>by have:=loS tp h; omega⟩,⟨by omega,fun h=>by omega⟩,fun d hd h=>by have:=loS d hd; omega⟩
 have sq:Sep ts Bs tq (fun d=>M8.next≤d∧d<tq):=⟨⟨by omega,fun h=>by have:=loS tq h; omega⟩,⟨by omega,fun h=>by omega⟩,fun d hd h=>by have:=loS d hd; omega⟩
 have pq:Sep tp (fun d=>M7.next≤d∧d<tp) tq (fun d=>M8.next≤d∧d<tq):=⟨⟨by omega,fun h=>by omega⟩,⟨by omega,fun h=>by omega⟩,fun d hd h=>by omega⟩
 have oxp:BP tp (fun d=>M7.next≤d∧d<tp) M4.next kx:=⟨⟨by omega,fun h=>by omega⟩,fun d hd=>by have:=kxl d hd; exact ⟨by omega,fun h=>by omega⟩⟩
 have oyp:BP tp (fun d=>M7.next≤d∧d<tp) M6.next ky:=⟨⟨by omega,fun h=>by omega⟩,fun d hd=>by have:=kyl d hd; exact ⟨by omega,fun h=>by omega⟩⟩
 have oyq:BP tq (fun d=>M8.next≤d∧d<tq) M6.next ky:=⟨⟨by omega,fun h=>by omega⟩,fun d hd=>by have:=kyl d hd; exact ⟨by omega,fun h=>by omega⟩⟩
 generalize (fun d=>M7.next≤d∧d<tp)=Bp at *
 generalize (fun d=>M8.next≤d∧d<tq)=Bq at *
 have tsl9:ts<M9.next:=by omega
 have tpl9:tp<M9.next:=by omega
 have tql9:tq<M9.next:=by omega
 clear k1 k2 k4 k5 k6 k7 k8 k9 k57 S2 S5 S7 S8 P8 EX7 EX8 EY7 EY8 stp stq st2 hkxb hkyb hkx hky h5 h7 kxl kyl n5 n7 nn4 nn6 htp htq hts tsl tpl tql n3 n8 n9 xlt ylt loS hv hw
 have asub:∀ {l:List Ev},(∀ e∈l,e∈wl∨e=kT s cn f xa∨e=kL s cn f xb)→∀ e∈l,e∈fe wl s cn f xa xb xc:=fun h e he=>by
  rcases h e he with h | rfl | rfl <;> simp [fe, *]
 have chP:=hap.step hap.ch (fun e he=>by simp [fe,he]) (x:=kT s cn f xa) (by simp [fe]) (fun e he=>(hap.ne e he).1)
 have chQ:=hap.step hap.ch (fun e he=>by simp [fe,he]) (x:=kL s cn f xb) (by simp [fe]) (fun e he=>(hap.ne e he).2.1)
 have sbP:∀ e∈wl++[kT s cn f xa],e∈fe wl s cn f xa xb xc:=fun e he=>by
  simp only [List.mem_append,List.mem_singleton] at he
  rcases he with h | rfl <;> simp [fe, *]
 have sbQ:∀ e∈wl++[kL s cn f xb],e∈fe wl s cn f xa xb xc:=fun e he=>by
  simp only [List.mem_append,List.mem_singleton] at he
  rcases he with h | rfl <;> simp [fe, *]
 have chPQ:=hap.join chP chQ sbP sbQ
 have sbPQ:∀ e∈(wl++[kT s cn f xa])++(wl++[kL s cn f xb]),e∈fe wl s cn f xa xb xc:=fun e he=>by
  rcases List.mem_append.1 he with h | h
  ·exact sbP e h
  ·exact sbQ e h
 have chQP:=hap.join chQ chPQ sbQ sbPQ
 have sbQP:∀ e∈(wl++[kL s cn f xb])++((wl++[kT s cn f xa])++(wl++[kL s cn f xb])),e∈fe wl s cn f xa xb xc:=fun e he=>by
  rcases List.mem_append.1 he with h | h
  ·exact sbQ e h
  ·exact sbPQ e h
 have chQZ:=hap.step chQP sbQP (x:=og cn f xc) (by simp [fe]) (fun e he=>by
  simp only [List.mem_append,List.mem_singleton] at he
  rcases he with (h | rfl) | ((h | rfl) | (h | rfl)) <;> first | exact (hap.ne e h).2.2 | simp [kT,kL,og,setOf])
 have chSZ:=hap.step hap.ch (fun e he=>by simp [fe,he]) (x:=og cn f xc) (by simp [fe]) (fun e he=>(hap.ne e he).2.2)
 have sbSZ:∀ e∈wl++[og cn f xc],e∈fe wl s cn f xa xb xc:=fun e he=>by
  simp only [List.mem_append,List.mem_singleton] at he
  rcases he with h | rfl <;> simp [fe, *]
 have chSJ:=hap.join chSZ chPQ sbSZ sbPQ
 have sbSJ:∀ e∈(wl++[og cn f xc])++((wl++[kT s cn f xa])++(wl++[kL s cn f xb])),e∈fe wl s cn f xa xb xc:=fun e he=>by
  rcases List.mem_append.1 he with h | h
  ·exact sbSZ e h
  ·exact sbPQ e h
 have sbQZ:∀ e∈((wl++[kL s cn f xb])++((wl++[kT s cn f xa])++(wl++[kL s cn f xb])))++[og cn f xc],e∈fe wl s cn f xa xb xc:=fun e he=>by
  rcases List.mem_append.1 he with h | h
  ·exact sbQP e h
  ·rw [List.mem_singleton] at h; subst h; simp [fe]
 have hD:=hap.Uy
 have hall:(fe wl s cn f xa xb xc).length≤33:=by simp [fe]; omega
 have iS:=hap.ch.FL (jY fun e he=>(by simp [fe,he] : e∈fe wl s cn f xa xb xc))
 have iP:=chP.FL (jY sbP)
 have iQ:=chQ.FL (jY sbQ)
 have iPQ:=chPQ.FL (jY sbPQ)
 have iQP:=chQP.FL (jY sbQP)
 have iQZ:=chQZ.FL (jY sbQZ)
 have iSZ:=chSZ.FL (jY sbSZ)
 have iSJ:=chSJ.FL (jY sbSJ)
 have lP:=chP.len sbP
 have lQ:=chQ.len sbQ
 have lPQ:=chPQ.len sbPQ
 have lQP:=chQP.len sbQP
 have lQZ:=chQZ.len sbQZ
 have lSZ:=chSZ.len sbSZ
 have lSJ:=chSJ.len sbSJ
 obtain ⟨two1,two2⟩:=hap.Vj chPQ (fun e=>by simp only [List.mem_append,List.mem_singleton]; grind)
 obtain ⟨sm1,sm2,sm3⟩:=chPQ.eq (chQP.mem (m:=(wl++[kT s cn f xa])++(wl++[kL s cn f xb])) (fun e=>by simp only [List.mem_append,List.mem_singleton]; grind))
 have one1:=hap.UW chSJ (fun e=>by simp only [List.mem_append,List.mem_singleton]; grind)
 obtain ⟨sn1,sn2,sn3⟩:=chSJ.eq (chQZ.mem (m:=(wl++[og cn f xc])++((wl++[kT s cn f xa])++(wl++[kL s cn f xb]))) (fun e=>by simp only [List.mem_append,List.mem_singleton]; grind))
 -- each sets its own
 rw [bP (n:=7) EX9.row rfl]
 refine GG hA P9 sI.si (by omega) (by omega) EX9.kills (fun h=>(oxp.2 _ h).1 rfl) hgx fun _ M10 Bp' P10 hBp k10=>?_
 have S10:=S9.keep k10 sp.symm (.inl rfl)
 have Q10:=Q9.keep k10 pq (.inl rfl)
 have EY10:=EY9.keep k10 oyp (.inl rfl)
 have sp10:=(sp.symm.grow tsl9 S9.lo hBp).symm
 have pq10:=pq.grow tql9 Q9.lo hBp
 have n10:=k10.next
 rw [bP (n:=7) EY10.row rfl]
 refine GG hA Q10 sI.si (by omega) (by omega) EY10.kills (fun h=>(oyq.2 _ h).1 rfl) hgy fun _ M11 Bq' Q11 hBq k11=>?_
 have S11:=S10.keep k11 sq.symm (.inl rfl)
 have P11:=P10.keep k11 pq10.symm (.inl rfl)
 have sq11:=(sq.symm.grow (by omega) S10.lo hBq).symm
 have pq11:=(pq10.symm.grow (by omega) P10.lo hBq).symm
 have n11:=k11.next
 clear S9 P9 Q9 EX9 EY9 S10 P10 Q10 EY10 oxp oyp oyq sp sq pq pq10 k10 k11
 change SH TS T M11 tp Bp' (jh s (kT s cn f xa)) at P11
 change SH TS T M11 tq Bq' (jh s (kL s cn f xb)) at Q11
 refine Mr hj P11 Q11 pq11 iP iQ (by omega) (by omega) (by omega) chP.up chQ.up fun _ M12 Bp2 x12 hx12 P12 hB12 k12=>?_
 have n12:=k12.next
 have Q12:=Q11.keep k12 pq11 (.inr hx12)
 have S12:=S11.keep k12 sp10.symm (.inr hx12)
 have sp12:=(sp10.symm.grow (by omega) S11.lo hB12).symm
 have pq12:=pq11.grow (by omega) Q11.lo hB12
 refine Mr hj Q12 P12 pq12.symm iQ iPQ (by omega) (by omega) (by omega) chQ.up chPQ.up fun _ M13 Bq2 x13 hx13 Q13 hB13 k13=>?_
 have n13:=k13.next
 have P13:=P12.keep k13 pq12.symm (.inr hx13)
 have S13:=S12.keep k13 sq11.symm (.inr hx13)
 have sq13:=(sq11.symm.grow (by omega) S12.lo hB13).symm
 have pq13:=(pq12.symm.grow (by omega) P12.lo hB13).symm
 clear S11 P11 Q11 S12 P12 Q12 sp10 sq11 pq11 pq12 k12 k13 hBp hBq hB12 hB13
 refine hE P13.st (by omega) fun v14 M14 hv14 k14=>?_
 refine hO hv14.lG (by omega) fun v15 M15 hv15 k15=>?_
 dsimp only at two1 two2 sm1 sm2 sm3 one1 sn1 sn2 sn3
 rw [two1] at hv15
 rw [aN.len hv15.lG,iJ]
 rw [show ((((List.length [dx (kT s cn f xa).1,dx (kL s cn f xb).1] : Nat) : Int) != 2))=false from rfl,fM]
 have P15:=(P13.ek k14).ek k15
 have Q15:=(Q13.ek k14).ek k15
 have S15:=(S13.ek k14).ek k15
 have n14:=k14.next
 have n15:=k15.next
 refine hq P15.st Q15.st iPQ iQP (by omega) (by omega) (by show _≤_; omega) fun M16 k16=>?_
 rw [decide_eq_true sm1,sm2,sm3,bB]
 simp only [Bool.and_self,Bool.not_true]
 rw [dz,bF]
 clear hv14 hv15 P13 Q13 S13 k14 k15
 have P16:=P15.ek k16
 have Q16:=Q15.ek k16
 have S16:=S15.ek k16
 have n16:=k16.next
 clear P15 Q15 S15 k16
 -- a third set that saw both
 rw [ja]
 refine ⟨aO (14,1),rfl, ?_⟩
 refine x9 hM P16 (by show _≤_; omega) fun Z n3 M17 hZ7 hZ1 hZok hZbad k17=>?_
 dsimp only at hZok hZbad
 rw [two2] at hZok hZbad
 have hgz:=hap.Vu
 have e3:n3=0:=by
  apply Classical.byContradiction
  intro h
  rcases hZbad h with h | h
  ·exact hf h
  ·rw [show bY (setOf (14,1) cn f xc) [(12,1),(13,1)]=true from hgz] at h
   cases h
 obtain ⟨kz,rfl,_,_,hkz,hkzb⟩:=hZok e3
 subst e3
 rw [ic,il,bi,dI (n:=7) (x:=.agg (aV (setOf (14,1) cn f xc) kz)) (l:=[(N .i64 0),(N .u64 0),(N .i64 0),(St []),(St []),(St []),(.sc (.slice none 0 0))]) (RM.aQ _) hZ7 rfl hZ1]
 have k18:ag [] M17 ((M17.push (.row [(N .i64 0),(N .u64 0),(N .i64 0),(St []),(St []),(St []),(.sc (.slice none 0 0))] false TE 0)).put M17.next (.row (AV.agg (aV (setOf (14,1) cn f xc) kz)).cells false TE 0)):=((ag.refl _ _).push _).new _ (Nat.le_refl _)
 have h18:((M17.push (.row [(N .i64 0),(N .u64 0),(N .i64 0),(St []),(St []),(St []),(.sc (.slice none 0 0))] false TE 0)).put M17.next (.row (AV.agg (aV (setOf (14,1) cn f xc) kz)).cells false TE 0)).heap M17.next=some (.row (aV (setOf (14,1) cn f xc) kz) false TE 0):=aP _
 have l18:M17.next<((M17.push (.row [(N .i64 0),(N .u64 0),(N .i64 0),(St []),(St []),(St []),(.sc (.slice none 0 0))] false TE 0)).put M17.next (.row (AV.agg (aV (setOf (14,1) cn f xc) kz)).cells false TE 0)).next:=by rw [iF]; simp [RM.push]
 generalize (M17.push (.row [(N .i64 0),(N .u64 0),(N .i64 0),(St []),(St []),(St []),(.sc (.slice none 0 0))] false TE 0)).put M17.next (.row (AV.agg (aV (setOf (14,1) cn f xc) kz)).cells false TE 0)=M18 at *
 have n17:=k17.next
 have EZ18:vN TE M18 M17.next (setOf (14,1) cn f xc) kz [(12,1),(13,1)]:=⟨l18,h18,aN.keep hkz k18 (by simp)⟩
 have P18:=(P16.ek k17).ek k18
 have Q18:=(Q16.ek k17).ek k18
 have S18:=(S16.ek k17).ek k18
 have oz:∀ {t:Nat} {B:Nat→Prop} {r:jv},SH TS T M16 t B r→BP t B M17.next kz:=fun h=>by
  have h1:=h.st.lt
  refine ⟨⟨by omega,fun hb=>?_⟩,fun d hd=>⟨fun e=>?_,fun hb=>?_⟩⟩
  ·have:=h.lo _ hb; omega
  ·have:=hkzb d hd; omega
  ·have:=h.lo _ hb; have:=hkzb d hd; omega
 have ozq:=oz Q16
 have ozs:=oz S16
 have n18:=k18.next
 clear P16 Q16 S16 oz hZbad hZok k17 k18 hkz hkzb h18 l18
 rw [iJ,show ((0:Int) != 0)=false from rfl,bF,bP (n:=7) EZ18.row rfl]
 refine GG hA Q18 iQP (by omega) (by show _≤_; omega) EZ18.kills (fun h=>(ozq.2 _ h).1 rfl) hgz fun _ M19 Bq3 Q19 hB19 k19=>?_
 change SH TS T M19 tq Bq3 (jh _ (og cn f xc)) at Q19
 have P19:=P18.keep k19 pq13.symm (.inl rfl)
 have S19:=S18.keep k19 sq13.symm (.inl rfl)
 have EZ19:=EZ18.keep k19 ozq (.inl rfl)
 have sq19:=(sq13.symm.grow (by omega) S18.lo hB19).symm
 have n19:=k19.next
 rw [bP (n:=7) EZ19.row rfl]
 refine GG hA S19 iS (by omega) (by omega) EZ19.kills (fun h=>(ozs.2 _ h).1 rfl) hgz fun _ M20 Bs2 S20 hB20 k20=>?_
 change SH TS T M20 ts Bs2 (jh _ (og cn f xc)) at S20
 have P20:=P19.keep k20 sp12 (.inl rfl)
 have Q20:=Q19.keep k20 sq19 (.inl rfl)
 have sp20:=sp12.grow (by omega) P19.lo hB20
 have sq20:=sq19.grow (by omega) Q19.lo hB20
 have n20:=k20.next
 refine Mr hj S20 P20 sp20 iSZ iPQ (by omega) (by omega) (Nat.le_trans (Nat.add_le_add lSZ lPQ) (by omega)) chSZ.up chPQ.up fun _ M21 Bs3 x21 hx21 S21 hB21 k21=>?_
 have Q21:=Q20.keep k21 sq20 (.inr hx21)
 have n21:=k21.next
 refine hE S21.st (Nat.le_trans lSJ (by omega)) fun v22 M22 hv22 k22=>?_
 refine hO hv22.lG (Nat.le_trans lSJ (by omega)) fun v23 M23 hv23 k23=>?_
 dsimp only at hv23
 rw [one1] at hv23
 have S23:=(S21.ek k22).ek k23
 have Q23:=(Q21.ek k22).ek k23
 have EZ21:vN TE M21 M17.next (setOf (14,1) cn f xc) kz [(12,1),(13,1)]:=(EZ19.keep k20 ozs (.inl rfl)).keep k21 (ozs.grow EZ19 hB20) (.inr hx21)
 have EZ23:=(EZ21.ek k22).ek k23
 refine hq S23.st Q23.st iSJ iQZ (by omega) (by omega) (Nat.le_trans lSJ (by omega)) fun M24 k24=>?_
 rw [decide_eq_true sn1,sn2,sn3]
 simp only [Bool.and_self]
 have EZ24:=EZ23.ek k24
 obtain ⟨b,o,_,_,hidx,hld⟩:=Sl.at (E:=aC) (i:=0) (aN.keep hv23.lG k24 (by simp)) 5 (0:Int) (by simp) rfl rfl
 rw [jN,aN.len hv23.lG,df,show (((List.length [dx (og cn f xc).1] : Nat) : Int) == 1)=true from rfl]
 dsimp only
 rw [dO,jN,hidx,aY]
 have hld2:M24.loads b o 2=some (aO (14,1)):=OZ hld (by decide)
 have hz2:M24.loads M17.next 0 2=some (aO (14,1)):=by
  rw [RM.dG EZ24.row (by show 0 + 2≤7; decide)]; rfl
 rw [Nat.add_zero,gK,hld2]
 refine ⟨_,rfl, ?_⟩
 rw [bz,gK,hz2]
 refine ⟨_,rfl, ?_⟩
 rw [qC rfl rfl (Ci _ _),Bool.bne_false,decide_eq_true rfl]
 dsimp only
 rw [dO,jN,hidx,aY]
 refine yS (j:=4) hld (x:=St xc) rfl ?_
 rw [mZ,show ((xc == xc)=true) from by simp]
 dsimp only
 rw [dO]
 exact hQ _
end Go.Ab.Crw
