/- Part 7 of the ground of the proofs of this seat (texts J4 to C25). By an AI agent. -/
import Derived.Test.YtlhlnchhaminjaaGreatCom6
set_option maxRecDepth 10000
set_option linter.unusedVariables false
set_option linter.unusedSimpArgs false
namespace Go.Ab.Crw
open Go Go.Ab Go.Ab.aC
theorem UM (l:List aP) (x:aP) : (HV l x).Perm (x :: l):=by
 unfold HV
 refine List.perm_middle.trans ?_
 rw[List.take_append_drop]
theorem alI {α:Type} {p:α→Bool} (l:List α) : l.take (l.takeWhile p).length=l.takeWhile p:=(List.prefix_iff_eq_take.1 (List.takeWhile_prefix p)).symm
theorem drop_tw {α:Type} {p:α→Bool} (l:List α) : l.drop (l.takeWhile p).length=l.dropWhile p:=by
 have h:=List.takeWhile_append_dropWhile (p:=p) (l:=l)
 have:l.drop (l.takeWhile p).length=(l.takeWhile p++l.dropWhile p).drop (l.takeWhile p).length:=by rw[h]
 rw[this,List.drop_left]
theorem XQ {x:aP} : ∀ {l:List aP},zB l→∀ y∈l.dropWhile (fun z=>jc z x),jc y x=false
 | [],_,y,hy=>by simp at hy
 | z :: r,h,y,hy=>by
   have h:=List.pairwise_cons.1 h
   by_cases hz:jc z x=true
   ·rw[List.dropWhile_cons_of_pos (p:=fun z=>jc z x) hz] at hy
    exact XQ h.2 y hy
   ·rw[List.dropWhile_cons_of_neg (p:=fun z=>jc z x) hz] at hy
    have hz:jc z x=false:=by simpa using hz
    rcases List.mem_cons.1 hy with rfl | hy
    ·exact hz
    ·exact kg.ntrans _ _ _ (h.1 y hy) hz
theorem abl {α:Type} {p:α→Bool} : ∀ {l:List α},∀ y∈l.takeWhile p,p y=true
 | [],y,hy=>by simp at hy
 | z :: r,y,hy=>by
   by_cases hz:p z=true
   ·rw[List.takeWhile_cons_of_pos hz] at hy
    rcases List.mem_cons.1 hy with rfl | hy
    ·exact hz
    ·exact abl y hy
   ·rw[List.takeWhile_cons_of_neg hz] at hy
    simp at hy
theorem ami {l:List aP} (h:zB l) (x:aP) : zB (HV l x):=by
 unfold HV atE zB
 have h':=h
 rw[← List.takeWhile_append_dropWhile (p:=fun y=>jc y x) (l:=l)] at h'
 unfold zB at h'
 rw[List.pairwise_append] at h'
 rw[alI,drop_tw,List.pairwise_append]
 refine⟨h'.1,List.pairwise_cons.2 ⟨XQ h,h'.2.1⟩,fun a ha b hb=>?_⟩
 rcases List.mem_cons.1 hb with rfl | hb
 ·have ha:=abl a ha
  cases hx:jc b a with
  | false=>rfl
  | true =>
    have:=kg.trans _ _ _ ha hx
    rw[kg.irrefl] at this; cases this
 ·exact h'.2.2 a ha b hb
theorem Jm {l:List Ev} {e:Ev} {i:Nat} : ∀ {n:Nat},yZ l e i n=true↔e.1.2.1=1∧∀ k<n,∀ f,l[k]?=some f→e.1.1 ∉ f.2∧¬ (k<i∧f.1.1=e.1.1)
 | 0=>by simp[yZ]
 | n + 1=>by
   rw[yZ,Bool.and_eq_true,Jm (n:=n)]
   constructor
   ·rintro⟨⟨h1,h2⟩,h3⟩
    refine⟨h1,fun k hk f hf=>?_⟩
    rcases Nat.lt_or_ge k n with h | h
    ·exact h2 k h f hf
    ·have:k=n:=by omega
     subst this
     rw[hf] at h3
     simp only[VS,Bool.and_eq_true,Bool.not_eq_true',decide_eq_false_iff_not,Bool.and_eq_false_iff] at h3
     refine⟨h3.1,fun hh=>?_⟩
     rcases h3.2 with h4 | h4
     ·exact h4 hh.1
     ·exact h4 hh.2
   ·rintro⟨h1,h2⟩
    refine⟨⟨h1,fun k hk f hf=>h2 k (by omega) f hf⟩, ?_⟩
    cases hf:l[n]? with
    | none=>rfl
    | some f =>
      have:=h2 n (by omega) f hf
      simp only[VS,Bool.and_eq_true,Bool.not_eq_true',decide_eq_false_iff_not,Bool.and_eq_false_iff]
      refine⟨this.1, ?_⟩
      by_cases hh:n<i
      ·exact .inr fun e=>this.2 ⟨hh,e⟩
      ·exact .inl hh
theorem Li (l:List Ev) : ∀ i,zB (qN l i)
 | 0=>.nil
 | i + 1=>by
   rw[qN]
   split
   ·split
    ·exact ami (Li l i) _
    ·exact Li l i
   ·exact Li l i
theorem Pg {l:List Ev} {x:aP} : ∀ {i:Nat},x∈qN l i↔∃ k,∃ h:k<l.length,k<i∧yZ l l[k] k l.length=true∧x=jy l[k].1
 | 0=>by simp[qN]
 | i + 1=>by
   have ih:=Pg (l:=l) (x:=x) (i:=i)
   rw[qN]
   cases hf:l[i]? with
   | none =>
     have hi:l.length≤i:=List.getElem?_eq_none_iff.1 hf
     dsimp only
     rw[ih]
     constructor
     ·rintro⟨k,h,h1,h2⟩; exact⟨k,h,by omega,h2⟩
     ·rintro⟨k,h,h1,h2⟩; exact⟨k,h,by omega,h2⟩
   | some e =>
     obtain⟨hi,he⟩:=List.getElem?_eq_some_iff.1 hf
     subst he
     dsimp only
     by_cases hl:yZ l l[i] i l.length=true
     ·rw[if_pos hl,(UM _ _).mem_iff,List.mem_cons,ih]
      constructor
      ·rintro(h | ⟨k,h,h1,h2⟩)
       ·exact⟨i,hi,by omega,hl,h⟩
       ·exact⟨k,h,by omega,h2⟩
      ·rintro⟨k,h,h1,h2,h3⟩
       rcases Nat.lt_or_ge k i with hk | hk
       ·exact .inr ⟨k,h,hk,h2,h3⟩
       ·have:k=i:=by omega
        subst this; exact .inl h3
     ·rw[if_neg hl,ih]
      constructor
      ·rintro⟨k,h,h1,h2⟩; exact⟨k,h,by omega,h2⟩
      ·rintro⟨k,h,h1,h2⟩
       rcases Nat.lt_or_ge k i with hk | hk
       ·exact⟨k,h,hk,h2⟩
       ·have:k=i:=by omega
        subst this; exact absurd h2.1 hl
theorem YO {l:List Ev} (h1:l.Pairwise fun x y=>x.1.1≠y.1.1) : ∀ i,(qN l i).Pairwise fun x y=>x.1≠y.1
 | 0=>.nil
 | i + 1=>by
   have ih:=YO h1 i
   rw[qN]
   cases hf:l[i]? with
   | none=>exact ih
   | some e =>
     obtain⟨hi,he⟩:=List.getElem?_eq_some_iff.1 hf
     subst he
     dsimp only
     split
     ·refine(UM _ _).symm.pairwise (List.pairwise_cons.2 ⟨fun y hy=>?_,ih⟩) (fun {a b} hab e=>hab e.symm)
      obtain⟨k,h,hk,_,rfl⟩:=Pg.1 hy
      exact fun e=>List.pairwise_iff_getElem.1 h1 k i h hi hk e.symm
     ·exact ih
theorem ak0 {l:List Ev} {s:mR} (h:Ch l s) (h1:l.Pairwise fun x y=>x.1.1≠y.1.1) : qN l l.length=s.2 :=
 WZ (Li _ _) h.up (YO h1 _) h.one fun x=>by
  rw[Pg,h.rW]
  constructor
  ·rintro⟨k,hk,_,hl,rfl⟩
   obtain⟨g1,g2⟩:=Jm.1 hl
   refine⟨l[k],List.getElem_mem hk,g1,rfl,fun f hf=>?_⟩
   obtain⟨j,hj,rfl⟩:=List.getElem_of_mem hf
   exact(g2 j hj _ (List.getElem?_eq_getElem hj)).1
  ·rintro⟨e,he,g1,rfl,g3⟩
   obtain⟨k,hk,rfl⟩:=List.getElem_of_mem he
   refine⟨k,hk,hk,Jm.2 ⟨g1,fun j hj f hf=>?_⟩,rfl⟩
   obtain⟨hj',rfl⟩:=List.getElem?_eq_some_iff.1 hf
   exact⟨g3 _ (List.getElem_mem hj'),fun⟨hjk,e⟩=>List.pairwise_iff_getElem.1 h1 j k hj' hk hjk e⟩
section
variable {α:Type} {E:Enc α}
theorem aaY {x:AV} {y:α} {j:Nat} (hj:j<E.size) : ∀ {xs:List α} {i:Nat} (hi:i<xs.length),E.cells y=(E.cells xs[i]).set j x→(E.row xs).set (i * E.size + j) x=E.row (xs.set i y)
 | [],i,hi,_=>by simp at hi
 | a :: r,0,_,h=>by
   rw[Nat.zero_mul,Nat.zero_add,Enc.jF,List.set_cons_zero,Enc.jF,List.set_append_left _ _ (by rw[E.len]; exact hj),h]; rfl
 | a :: r,i + 1,hi,h=>by
   rw[Enc.jF,List.set_cons_succ,Enc.jF,List.set_append_right _ _ (by rw[E.len,Nat.succ_mul]; omega),E.len,
    show(i + 1) * E.size + j - E.size=i * E.size + j by rw[Nat.succ_mul]; omega,aaY hj (by simpa using hi) (by simpa using h)]
theorem U9 {M:RM} {base T:Nat} {v:AV} {xs:List α} (ho:Ow E M base T v xs) {i j:Nat} (hi:i<xs.length) (hj:j<E.size) {x:AV} {y:α} (hc:x.cells=[x]) (h1:oneCell x=true) (hy:E.cells y=(E.cells xs[i]).set j x) :
  ∃ b o,base≤b∧b<M.next∧(∀ (kd:IntKind) (K:AV→Prop),ax v (N kd (i:Int)) E.size K=K (.ptr b o))∧∀ K:RM→Prop,(∀ M',Ow E M' base T v (xs.set i y)→ag [b] M M'→K M')→aL M (.ptr b (o + j)) x 1 K:=by
 have hl:=E.fo xs
 have hp:=aaY hj hi hy
 have ho' : Own M base T E.size v (E.row xs) xs.length:=ho
 clear hy ho
 generalize hcs:E.row xs=cs at *
 generalize hn:xs.length=n at *
 cases ho' with
 | nil=>omega
 | ex0=>omega
 | op b n cs hb hlt hh hln =>
   have hlt2:i * E.size + j<cs.length:=by
    rw[hln]
    have:(i + 1) * E.size≤n * E.size:=Nat.mul_le_mul_right _ hi
    rw[Nat.succ_mul] at this; omega
   refine⟨b,i * E.size,hb,hlt,fun kd K=>?_,fun K hK=>?_⟩
   ·rw[oP]
    apply propext
    constructor
    ·rintro⟨_,_,h⟩; simpa using h
    ·intro h; exact⟨by omega,by omega,by simpa using h⟩
   ·rw[fU hh hlt2 hc h1,hp]
    refine hK _ ?_ ((ag.refl [b] M).put _ (.inr (by simp)))
    show Own _ base T E.size _ (E.row (xs.set i y)) (xs.set i y).length
    rw[List.length_set,hn]
    exact .op b n _ hb (by rw[ny]; exact hlt) (aR _) (by rw[Enc.fo,List.length_set,hn])
end
theorem Xn {e:pG} {ks:List aC} (h:dX e ks=true) : tH (jy e):=by
 have h0:=h
 simp only[dX,Bool.and_eq_true,names,decide_eq_true_eq] at h
 obtain⟨⟨⟨⟨h1,⟨⟨h2,h3⟩,h4⟩,h5⟩,_⟩,_⟩,_⟩:=h
 have hd:=vS h1
 refine⟨hd.1,hd.2.1,by show e.1.2<_; omega, ?_, ?_, ?_⟩ <;> (simp only[jy]; omega)
structure wo (l:List Ev) (ps:List Pt) (es:List aP) : Prop where
 ch:Ch l (ps,es)
 one:l.Pairwise fun x y=>x.1.1≠y.1.1
 good:∀ e∈l,dX e.1 e.2=true
 len:l.length≤60
section
variable {l:List Ev} {ps:List Pt} {es:List aP}
theorem wo.rW (h:wo l ps es) : qN l l.length=es:=ak0 h.ch h.one
theorem wo.am3 (h:wo l ps es) : (dO l).length≤3900:=by
 have:=Od h.good
 have:=h.len
 omega
theorem wo.si (h:wo l ps es) : SI (dO l).length ps:=h.ch.siD (fun d hd=>hd)
theorem wo.few (h:wo l ps es) : es.length≤60:=Nat.le_trans (h.ch.len (m:=l) fun e he=>he) h.len
theorem wo.ok (h:wo l ps es) : ∀ x∈es,tH x:=fun x hx=>by
 obtain⟨e,he,_,rfl,_⟩:=(h.ch.rW x).1 hx
 exact Xn (h.good e he)
theorem wo.doc (h:wo l ps es) : zP ps (sN [] (dO l)):=zP.of h.si (abm (u:=[]) .nil) fun d=>by
 rw[aa3]
 have:=h.ch.sets d
 constructor
 ·rintro(h | h)
  ·cases h
  ·exact this.2 h
 ·exact fun h=>.inr (this.1 h)
end
def IsC (TS T:Nat) (c:au) : Prop:=∀ {M:RM} {t:Nat} {B:Nat→Prop} {v:AV} {l:List Ev} {S:Nat→Prop} {ps:List Pt} {es:List aP} {Q:ak},oC TS T B M t ps es→gD lY M v l S→(∀ d,S d→d<M.next)→wo l ps es →
 (∀ M',ag [] M M'→Q (Bo true) M')→c [.ptr t 0,v] M Q
theorem aaQ {TS T TN T9 TD TB:Nat} {cE cS cC cK cq cs ce cz cy cw cx cn cO:au} (hE:EN TN cE) (hS:Oc TS T TN cS) (hC:JJ TS T T9 cC) (hK:Cv T9 cK) (hq:yf cq) (hs:acb TS T cs) (he:Bb T TB ce) (hz:Ng TD cz) (hy:xE TB cy) (hw:zu TS T TB cw) (hx:Kq TB cx) (hn:O3 TS T TN cn) (hO:Zq TN cO) :
  IsC TS T fun args M Q=>∃ a0 a1,args=[a0,a1]∧YM cE cS cC cK cq cs ce cz cy cw cx cn cO a0 a1 M Q:=by
 intro M t B v l S ps es Q hst hv hSl hI hQ
 refine⟨_,_,rfl, ?_⟩
 unfold YM
 simp only[gT,gU,fG,ig,dG]
 have hks:∀ e∈l,e.2.length≤1000000:=fun e he=>by have:=(sH (hI.good e he)).2.1; omega
 have hil:=hI.len
 have hew:=hI.few
 have hdl:=hI.am3
 refine hE hv hSl (by omega) hks fun v1 M1 o1 k1=>?_
 rw[hI.rW] at o1
 have n1:=k1.next
 have st1:=hst.keep k1 (by simp) (by simp)
 refine hS st1 (by omega) fun v2 M2 o2 k2=>?_
 have n2:=k2.next
 have st2:=st1.keep k2 (by simp) (by simp)
 refine hC st2 (by omega) fun v3 M3 o3 k3=>?_
 have n3:=k3.next
 have k13:=k2.trans k3
 refine hK (aM.keep o1.fu k13 (by simp)) (by omega) fun v4 M4 o4 k4=>?_
 have n4:=k4.next
 have k14:=k13.trans k4
 refine hq (aM.keep o2.fu (k3.trans k4) (by simp)) (aM.keep o1.fu k14 (by simp)) (by omega) ?_
 rw[decide_eq_true rfl,bR,Bool.not_true]
 have k04:=k1.trans k14
 have o3':=o3.keep k4 (by simp)
 have aht:=hI.doc
 have henc:wQ (gQ (sN [] (dO l)))=encS ps:=by rw[encS,aht.parts]
 have hul:(sN [] (dO l)).length≤3900:=by
  have:=FR (u:=[]) (v:=dO l)
  simp at this; omega
 rw[eB,aM.len o3'.fu,aM.len o4.fu,dY,show((((jX es es.length).length:Nat) : Int) != (((jX es es.length).length:Nat) : Int))=false by simp]
 dsimp only
 rw[bz,eB]
 dsimp only
 rw[eB]
 dsimp only
 rw[aT]
 have st4:=hst.keep k04 (by simp) (by simp)
 refine hs st4 hI.si (by omega) fun a M5 ha auV k5=>?_
 have n5:=k5.next
 have hwf:∀ p∈ps,Bd p:=fun p hp=>(hI.si.wf p hp).bd
 refine he auV hwf fun v6 M6 o6 hel k6=>?_
 dsimp only
 have n6:=k6.next
 have k06:=(k04.trans k5).trans k6
 rw[eB,Sl.str (Own.sl o6)]
 dsimp only
 rw[aT]
 refine hz (hv.keep k06 (by simp)) (by omega) (by omega) fun v7 M7 o7 k7=>?_
 dsimp only
 have n7:=k7.next
 have o67:=o6.keep k7 (by simp)
 rw[qA,Sl.str (Own.sl o67)]
 refine⟨rfl, ?_⟩
 rw[aT]
 refine hy o7.fu aht.good (by omega) fun v8 M8 o8 k8=>?_
 dsimp only
 rw[henc] at o8
 have n8:=k8.next
 have o68:=o67.keep k8 (by simp)
 rw[qA,Sl.str (Own.sl o68)]
 refine⟨rfl, ?_⟩
 rw[eB,Sl.str o8.sl,nG,show(encS ps != encS ps)=false by simp]
 dsimp only
 rw[bz,eB]
 dsimp only
 rw[eB]
 dsimp only
 rw[eB]
 dsimp only
 rw[aT]
 have k08:=(k06.trans k7).trans k8
 have st8:=hst.keep k08 (by simp) (by simp)
 refine hw st8 hwf hI.ok (by omega) fun v9 M9 o9 _ k9=>?_
 dsimp only
 have n9:=k9.next
 rw[eB,Sl.str (Own.sl o9)]
 dsimp only
 rw[aT]
 have k09:=k08.trans k9
 refine hz (hv.keep k09 (by simp)) (by omega) (by omega) fun v10 M10 o10 k10=>?_
 dsimp only
 have n10:=k10.next
 have agc:=o9.keep k10 (by simp)
 rw[qA,Sl.str (Own.sl agc)]
 refine⟨rfl, ?_⟩
 rw[aT]
 have akv:=((((k14.trans k5).trans k6).trans k7).trans k8).trans (k9.trans k10)
 refine hx o10.fu aht.good (by omega) (by rw[henc]; exact hel) (aM.keep o1.fu akv (by simp)) hI.ok (by omega) fun v11 M11 o11 k11=>?_
 dsimp only
 rw[henc] at o11
 have n11:=k11.next
 have ao1:=agc.keep k11 (by simp)
 rw[qA,Sl.str (Own.sl ao1)]
 refine⟨rfl, ?_⟩
 rw[eB,Sl.str o11.sl,nG,show(zy ps es != gV (encS ps)++bi es.length++es.flatMap iL)=false by simp[zy]]
 dsimp only
 rw[bz,bI]
 have ady:ag [] M1 M11:=k13.trans (k4.trans ((k5.trans (k6.trans (k7.trans (k8.trans (k9.trans (k10.trans k11))))))))
 have arb:ag [] M M11:=k1.trans ady
 have o1' : Ow aB M11 M.next TN v1 es:=o1.keep ady (by simp)
 have kx:ag [] M2 M11:=k3.trans (k4.trans ((k5.trans (k6.trans (k7.trans (k8.trans (k9.trans (k10.trans k11))))))))
 have o2':=o2.keep kx (by simp)
 have ky:ag [] M3 M11:=k4.trans ((k5.trans (k6.trans (k7.trans (k8.trans (k9.trans (k10.trans k11)))))))
 have azX:=o3.keep ky (by simp)
 have kz:ag [] M4 M11:=(k5.trans (k6.trans (k7.trans (k8.trans (k9.trans (k10.trans k11))))))
 have o4':=o4.keep kz (by simp)
 have nn:=kx.next
 have hb1:=o1.blk
 have hb2:=o2.blk
 have hb3:=o3.blk
 have hb4:=o4.blk
 have st11:=hst.keep arb (by simp) (by simp)
 have tlt:=hst.lt
 clear k1 k2 k3 k4 k5 k6 k7 k8 k9 k10 k11 k13 k14 k04 k06 k08 k09 akv o1 o2 o3 o4 o6 o7 o8 o9 o10 o11 o67 o68 agc ao1 st1 st2 st4 st8 auV kx ky kz o3' ady
 have hcl:=IG es es.length
 generalize hcs:jX es es.length=cs at *
 -- the Zr
 refine aK (fun z ys M12=>∃ (i:Nat) (cur:List (List UInt8)),z=cs.length - i∧ys=[N .i64 (i:Int)]∧i≤cs.length∧cur.length=cs.length∧(∀ j,i≤j→cur[j]?=cs[j]?)∧ag (aD v3) M11 M12∧Ow xV M12 M2.next T9 v3 cur) _
  ⟨0,cs,rfl,rfl,Nat.zero_le _,rfl,fun _ _=>rfl,ag.refl _ _,azX⟩ ?_
 rintro next z ys M12 hnext ⟨i,cur,rfl,rfl,hi,Fa,hsame,k12,o12⟩
 dsimp only[aa]
 rw[aM.len o12.fu,Fa,fM]
 have hoff:∀ d,d<M2.next→d ∉ aD v3:=fun d hd hm=>by have:=(hb3 d hm).1; omega
 have XO:ag [] M M12:=arb.aY k12 fun d hd=>.inl (by have:=(hb3 d hd).1; omega)
 refine aH (fun hlt=>?_) (fun hge=>?_)
 ·have hlt:i<cs.length:=of_decide_eq_true hlt
  have hci:cur[i]'(by omega)=cs[i]:=by
   have:=hsame i (Nat.le_refl _)
   rw[List.getElem?_eq_getElem (by omega),List.getElem?_eq_getElem hlt] at this
   exact Option.some.inj this
  have s12:Sl xV M12 v3 cur:=o12.fu
  have s4:Sl xV M12 v4 cs:=aM.keep o4'.fu k12 (fun d hd hm=>by have:=(hb4 d hd).1; have:=(hb3 d hm).2; omega)
  obtain⟨b1,p1,_,_,nL,hc1⟩:=Sl.uB (E:=xV) (i:=i) s12 (i:Int) (by omega) rfl rfl
  obtain⟨b2,p2,_,_,iq,hc2⟩:=Sl.uB (E:=xV) (i:=i) s4 (i:Int) hlt rfl rfl
  rw[nL,fH,hc1 (St cs[i]) (by rw[hci]; rfl)]
  refine⟨_,rfl, ?_⟩
  rw[iq,fH,hc2 (St cs[i]) rfl]
  refine⟨_,rfl, ?_⟩
  rw[nG,show(cs[i] != cs[i])=false by simp,eB]
  dsimp only
  rw[eB,nL,fH,hc1 (St cs[i]) (by rw[hci]; rfl)]
  refine⟨_,rfl, ?_⟩
  dsimp only
  rw[eB]
  dsimp only
  rw[eB,nL]
  dsimp only
  rw[eB,fH,hc1 (St cs[i]) (by rw[hci]; rfl)]
  refine⟨_,rfl, ?_⟩
  dsimp only
  rw[aT]
  have az2:=hst.keep XO (by simp) (by simp)
  refine hn az2 (by omega) fun v13 M13 o13 k13=>?_
  dsimp only
  have n12:=XO.next
  have n13:=k13.next
  have anm:=o12.keep k13 (by simp)
  have s13:Sl xV M13 v3 cur:=anm.fu
  obtain⟨b3,p3,_,_,wX,hc3⟩:=Sl.uB (E:=xV) (i:=i) s13 (i:Int) (by omega) rfl rfl
  have hEq:AV.ptr b1 p1=AV.ptr b3 p3:=by
   have h1:=nL .i64 (fun a=>a=AV.ptr b1 p1)
   have h2:=wX .i64 (fun a=>a=AV.ptr b1 p1)
   have:(AV.ptr b3 p3=AV.ptr b1 p1):=by rw[← h2,h1]
   exact this.symm
  cases hEq
  rw[qA,fH,hc3 (St cs[i]) (by rw[hci]; rfl)]
  refine⟨_,rfl,rfl, ?_⟩
  rw[eB]
  have ajW:ag (aD v3) M11 M13:=k12.trans (k13.mono (by simp))
  have s1:Sl aB M13 v1 es:=aM.keep o1'.fu ajW (fun d hd=>hoff d (by have:=(hb1 d hd).2; omega))
  refine hO s1 (by omega) fun v14 M14 o14 k14=>?_
  have hre:es.filter (zq cs[i] [])=es.filter fun x=>x.2.1 == cs[i]:=by
   congr 1
   funext x
   simp[zq]
  rw[hre] at o14
  have hfl:(es.filter fun x=>x.2.1 == cs[i]).length≤es.length:=List.length_filter_le _ _
  refine hq (aM.keep o13.fu k14 (by simp)) o14.fu (by omega) ?_
  rw[decide_eq_true rfl,bR,Bool.not_true]
  dsimp only
  rw[bz,bI]
  have aqz:=anm.keep k14 (by simp)
  obtain⟨b5,p5,hb5,_,rA,aiu⟩:=U9 (E:=xV) (x:=St [115,112,111,105,108,116]) (y:=[115,112,111,105,108,116]) aqz (i:=i) (j:=0) (by omega) (by decide) rfl rfl rfl
  have rA:∀ (kd:IntKind) (K:AV→Prop),ax v3 (N kd (i:Int)) 1 K=K (.ptr b5 p5):=rA
  rw[rA]
  refine aiu _ fun M15 o15 k15=>?_
  rw[add1 (by omega)]
  have aAS:b5∈aD v3:=by
   have:=rA .i64 (fun a=>∃ b p,a=AV.ptr b p∧b∈aD v3)
   have h2:∃ b p,AV.ptr b5 p5=AV.ptr b p∧b∈aD v3:=by
    rw[← this]
    obtain⟨b6,p6,_,hm6,aw8,_⟩:=Sl.uB (E:=xV) (i:=i) aqz.fu (i:Int) (by omega) rfl rfl
    rw[aw8]
    exact⟨b6,p6,rfl,hm6⟩
   obtain⟨b,p,e,hm⟩:=h2
   cases e; exact hm
  refine hnext _ _ _ (by omega) ⟨i + 1,cur.set i [115,112,111,105,108,116],rfl,rfl,by omega,by rw[List.length_set]; exact Fa,fun j hj=>?_,(ajW.trans (k14.mono (by simp))).trans (k15.mono (by simp; exact aAS)),o15⟩
  rw[List.getElem?_set_ne (by omega)]
  exact hsame j (by omega)
 -- the entries
 have aAg:=o2'.keep k12 (fun d hd=>hoff d (hb2 d hd).2)
 refine aK (fun z ys M13=>∃ (i:Nat) (cur:List aP),z=es.length - i∧ys=[N .i64 (i:Int)]∧i≤es.length∧cur.length=es.length∧ag [] M M13∧Ow aB M13 M1.next TN v2 cur) _
  ⟨0,es,rfl,rfl,Nat.zero_le _,rfl,XO,aAg⟩ ?_
 rintro jv z ys M13 dQ ⟨i,cur,rfl,rfl,hi,Fa,k13,o13⟩
 dsimp only[aa]
 rw[aM.len o13.fu,Fa,fM]
 refine aH (fun hlt=>?_) (fun hge=>?_)
 ·have hlt:i<es.length:=of_decide_eq_true hlt
  obtain⟨b5,p5,hb5,_,rA,aiu⟩:=U9 (E:=aB) (x:=St [115,112,111,105,108,116]) (y:=((cur[i]'(by omega)).1,((cur[i]'(by omega)).2.1,((cur[i]'(by omega)).2.2.1,[115,112,111,105,108,116])))) o13 (i:=i) (j:=4) (by omega) (by decide) rfl rfl rfl
  have rA:∀ (kd:IntKind) (K:AV→Prop),ax v2 (N kd (i:Int)) 5 K=K (.ptr b5 p5):=rA
  rw[rA,aF]
  refine aiu _ fun M15 o15 k15=>?_
  rw[add1 (by omega)]
  exact dQ _ _ _ (by omega) ⟨i + 1,_,rfl,rfl,by omega,by rw[List.length_set]; exact Fa,k13.aY k15 (fun d hd=>.inl (by simp at hd; omega)),o15⟩
 ·exact hQ M13 k13
theorem agu {n m i j:Nat} {back:Bool} (hi:i<n) (hj:j<n) (h:wY n m back i=wY n m back j) : i=j:=by
 have key:(i + m) % n=(j + m) % n:=by
  unfold wY at h
  split at h
  ·have:=Nat.mod_lt (i + m) (show 0<n by omega)
   have:=Nat.mod_lt (j + m) (show 0<n by omega)
   omega
  ·exact h
 have e1:=Nat.div_add_mod (i + m) n
 have e2:=Nat.div_add_mod (j + m) n
 rw[key] at e1
 rcases Nat.lt_trichotomy ((i + m) / n) ((j + m) / n) with hq | hq | hq
 ·have:n * ((i + m) / n + 1)≤n * ((j + m) / n):=Nat.mul_le_mul_left _ hq
  rw[Nat.mul_succ] at this; omega
 ·rw[hq] at e1; omega
 ·have:n * ((j + m) / n + 1)≤n * ((i + m) / n):=Nat.mul_le_mul_left _ hq
  rw[Nat.mul_succ] at this; omega
theorem aiH {n m k:Nat} {back:Bool} (hk:k<n) : ∃ i,i<n∧wY n m back i=k:=by
 have key:∀ k,k<n→∃ i,i<n∧(i + m) % n=k:=fun k hk=>by
  refine⟨(k + (n - m % n)) % n,Nat.mod_lt _ (by omega), ?_⟩
  have hm:=Nat.mod_lt m (show 0<n by omega)
  rw[Nat.add_mod,Nat.mod_mod,← Nat.add_mod]
  have e:=Nat.div_add_mod m n
  have:k + (n - m % n) + m=k + n * (m / n + 1):=by rw[Nat.mul_succ]; omega
  rw[this,Nat.add_mul_mod_self_left,Nat.mod_eq_of_lt hk]
 unfold wY
 cases back with
 | false=>simpa using key k hk
 | true =>
   obtain⟨i,hi,h⟩:=key (n - 1 - k) (by omega)
   exact⟨i,hi,by simp only[if_true]; omega⟩
theorem Xr {l:List Ev} {m:Nat} {back:Bool} {e:Ev} : e∈nV l m back↔e∈l:=by
 constructor
 ·intro h
  obtain⟨i,hi,rfl⟩:=List.getElem_of_mem h
  rw[sP] at hi
  rw[Fw hi]
  exact List.getElem_mem _
 ·intro h
  obtain⟨k,hk,rfl⟩:=List.getElem_of_mem h
  obtain⟨i,hi,e⟩:=aiH (m:=m) (back:=back) hk
  have h2:=Fw (m:=m) (back:=back) hi
  have:l[k]=(nV l m back)[i]'(by rw[sP]; exact hi):=by
   rw[h2]; congr 1; exact e.symm
  rw[this]
  exact List.getElem_mem _
theorem agK {l:List Ev} {m:Nat} {back:Bool} (h:l.Pairwise fun x y=>x.1.1≠y.1.1) : (nV l m back).Pairwise fun x y=>x.1.1≠y.1.1:=by
 rw[List.pairwise_iff_getElem]
 intro i j hi hj hij
 rw[sP] at hi hj
 rw[Fw hi,Fw hj]
 have hne:wY l.length m back i≠wY l.length m back j:=fun e=>by have:=agu hi hj e; omega
 rcases Nat.lt_or_gt_of_ne hne with h1 | h1
 ·exact List.pairwise_iff_getElem.1 h _ _ (wh hi) (wh hj) h1
 ·exact fun e=>List.pairwise_iff_getElem.1 h _ _ (wh hj) (wh hi) h1 e.symm
theorem Ch.aaE {l:List Ev} {m:Nat} {back:Bool} (hg:∀ x∈l,dX x.1 x.2=true) (hd:l.Pairwise fun x y=>x.1.1≠y.1.1) (hl:l.length≤60) : Ch l (nI (nV l m back)) :=
 (Ch.run (fun x hx=>hg x (Xr.1 hx)) (agK hd) (by rw[sP]; exact hl)).mem fun e=>Xr
theorem Vu (l:List Ev) : ∀ x∈nC l,dX x.1 x.2=true:=Vb l [] (by simp)
section
variable {α:Type} {R:sJ α} {M:RM} {S:Nat→Prop} {v u:AV} {xs ys:List α}
end
structure P3 (T TE n0:Nat) (M:RM) (vs:Nat→AV) (qs:Nat→List Ev) : Prop where
 lt:n0 + 1≤M.next
 row:M.heap n0=some (.row [vs 0,vs 1,vs 2] false T 0)
 ow:∀ j<3,mE lY M (n0 + 1) TE (vs j) (qs j) (fun d=>d<n0)
 dis:∀ j<3,∀ k<3,j≠k→∀ d∈aD (vs j),d ∉ aD (vs k)
theorem Sep.fresh {n t u:Nat} {B C:Nat→Prop} (ht:n≤t) (hB:∀ d,B d→n≤d) (hu:u<n) (hC:∀ d,C d→d<n) : Sep t B u C :=
 ⟨⟨by omega,fun h=>by have:=hB _ h; omega⟩,⟨by omega,fun h=>by have:=hC _ h; omega⟩,fun d hd hc=>by have:=hB _ hd; have:=hC _ hc; omega⟩
abbrev Obj:=Nat × (Nat→Prop) × mR
structure qj (TS T:Nat) (M0 M:RM) (os:List Obj) : Prop where
 k:ag [] M0 M
 sh:∀ o∈os,SH TS T M o.1 o.2.1 o.2.2
 sep:os.Pairwise fun a b=>Sep a.1 a.2.1 b.1 b.2.1
 low:∀ o∈os,M0.next≤o.1∧∀ d,o.2.1 d→M0.next≤d
section
variable {TS T:Nat} {M0 M M' : RM} {os:List Obj} {t:Nat} {B B' : Nat→Prop} {s s' : mR}
theorem qj.nil (M0:RM) : qj TS T M0 M0 []:=⟨ag.refl _ _,by simp,.nil,by simp⟩
theorem qj.jk (F:qj TS T M0 M os) (k:ag [] M M') : qj TS T M0 M' os:=⟨F.k.trans k,fun o ho=>(F.sh o ho).jk k,F.sep,F.low⟩
theorem qj.cons (F:qj TS T M0 M os) (k:ag [] M M') (h:SH TS T M' t B s) (ht:M.next≤t) (hB:∀ d,B d→M.next≤d) : qj TS T M0 M' ((t,B,s) :: os):=by
 have n0:=F.k.next
 refine⟨F.k.trans k,fun o ho=>?_,List.pairwise_cons.2 ⟨fun o ho=>?_,F.sep⟩,fun o ho=>?_⟩
 ·rcases List.mem_cons.1 ho with rfl | ho
  ·exact h
  ·exact(F.sh o ho).jk k
 ·exact Sep.fresh ht hB (F.sh o ho).st.lt (F.sh o ho).lo
 ·rcases List.mem_cons.1 ho with rfl | ho
  ·exact⟨by show _≤t; omega,fun d hd=>by have:=hB d hd; omega⟩
  ·exact F.low o ho
theorem qj.perm {os' : List Obj} (F:qj TS T M0 M os) (p:os.Perm os') : qj TS T M0 M os' :=
 ⟨F.k,fun o ho=>F.sh o (p.mem_iff.2 ho),p.pairwise F.sep (fun {a b} h=>h.symm),fun o ho=>F.low o (p.mem_iff.2 ho)⟩
theorem qj.head {r:Nat} (F:qj TS T M0 M ((t,B,s) :: os)) (h:SH TS T M' t B' s') (hB:∀ d,B' d→B d∨M.next≤d) (k:ag [t,r] M M') (hr:r=t∨B r) : qj TS T M0 M' ((t,B',s') :: os):=by
 have hp:=List.pairwise_cons.1 F.sep
 have hl:=F.low (t,B,s) (by simp)
 have n0:=F.k.next
 refine⟨F.k.aY k (fun d hd=>.inl ?_),fun o ho=>?_,List.pairwise_cons.2 ⟨fun o ho=>?_,hp.2⟩,fun o ho=>?_⟩
 ·simp only[List.mem_cons,List.not_mem_nil,or_false] at hd
  rcases hd with rfl | rfl
  ·exact hl.1
  ·rcases hr with rfl | hr
   ·exact hl.1
   ·exact hl.2 _ hr
 ·rcases List.mem_cons.1 ho with rfl | ho
  ·exact h
  ·exact(F.sh o (by simp[ho])).keep k (hp.1 o ho) hr
 ·have ho':=F.sh o (by simp[ho])
  exact(hp.1 o ho).grow ho'.st.lt ho'.lo hB
 ·rcases List.mem_cons.1 ho with rfl | ho
  ·exact⟨hl.1,fun d hd=>by
    rcases hB d hd with h | h
    ·exact hl.2 d h
    ·omega⟩
  ·exact F.low o (by simp[ho])
theorem qj.h0 (F:qj TS T M0 M ((t,B,s) :: os)) : SH TS T M t B s:=F.sh (t,B,s) (by simp)
theorem qj.state {c:au} (hs:Rc TS T c) (F:qj TS T M0 M os) {v:AV} {l:List Ev} {n:Int} {m:Nat} {back:Bool} (hv:gD lY M v l (fun d=>d<M.next)) (hl:l.length≤60) (hn:JU .i64 n 1023=(m:Int)) (hm:m≤1023) {Q:ak}
  (hQ:∀ t M' B',qj TS T M0 M' ((t,B',nI (nV l m back)) :: os)→Q (.ptr t 0) M') : c [v,N .i64 n,Bo back] M Q :=
 hs hv hl hn hm fun t M' ht h k=>hQ t M' _ (F.cons k ⟨h,fun d hd=>hd.2.1⟩ ht fun d hd=>hd.1)
end
end Go.Ab.Crw
set_option maxRecDepth 100000
namespace Go.Ab.Crw
open Go Go.Ab
def Nt (p1 p2:au) (p3:Nat) (p4:au) (p5:Nat) (p6 p7:au) (p8 p9:Nat) (p10 p11 p12 p13 p14 p15:au) (a0:AV) (M0:RM) (Q:ak) : Prop :=
 p1 [a0] M0 fun bf M =>
 bD a0 fun t17 =>
 p2 [bf,t17] M fun t18 M_0 =>
 PR p3 t18 fun r f =>
 df r f M_0 fun t19 M_1 =>
 p4 [t19] M_1 fun t20 M_2 =>
 fI t20 0 fun t21 =>
 fI t20 1 fun t22 =>
 af .neq t22 (N .i64 0) fun t24 =>
 ay t24 (
 Q (.tup [(.sc (.pointer none)),(N .i64 14)]) M_2) (
 lX [(.sc (.pointer none)),(.sc (.slice none 0 0))] [(0,1,t21)] fun t26 =>
 iW p5 t26 fun r_3 f_4 =>
 df r_3 f_4 M_2 fun t27 M_5 =>
 df (.map [] 0) (fun b=>.map b) M_5 fun t28 M_6 =>
 bD a0 fun t31 =>
 p6 [bf,t31] M_6 fun t32 M_7 =>
 aV (fun next xs M_8 =>
 af .lss (aa xs 0) t32 fun t34 =>
 ay t34 (
 p6 [bf,(N .i64 15)] M_8 fun t36 M_9 =>
 p7 [bf] M_9 fun t38 dm =>
 lX [(N .i64 0),(N .u64 0)] [(0,1,t36),(1,1,t38)] fun t39 =>
 df (.row [(N .i64 0),(N .u64 0)] false p8 0) (fun b=>.ptr b 0) dm fun t9 dD =>
 aL dD t9 t39 2 fun eO =>
 aI eO t9 2 fun t40 =>
 mI (.row [(N .i64 0),(N .u64 0),(St []),(St []),(St [])] false p9 0) (fun b=>.ptr b 0) eO fun bH eu b =>
 p2 [bf,(N .i64 64)] eu fun t42 eP =>
 aI eP t9 2 fun ak4 =>
 (ak4=t40∧(uk b eP (.row [(N .i64 0),(N .u64 0),(St []),(St []),(St [])] false p9 0) (fun b=>.ptr b 0) bH∧p2 [bf,(N .i64 64)] eP fun t44 fP =>
 aI fP t9 2 fun ala =>
 (ala=t40∧(uk b fP (.row [(N .i64 0),(N .u64 0),(St []),(St []),(St [])] false p9 0) (fun b=>.ptr b 0) bH∧p2 [bf,(N .i64 512)] fP fun t46 dh =>
 aI dh t9 2 fun alY =>
 (alY=t40∧(uk b dh (.row [(N .i64 0),(N .u64 0),(St []),(St []),(St [])] false p9 0) (fun b=>.ptr b 0) bH∧lX [(N .i64 0),(N .u64 0),(St []),(St []),(St [])] [(0,2,t40),(2,1,t42),(3,1,t44),(4,1,t46)] fun t47 =>
 aL dh bH t47 5 fun kG =>
 p10 [bf] kG fun t49 bZ =>
 af .neq t49 (N .i64 0) fun t50 =>
 ah t50 false (fun k=>k t21 bZ) (fun k=>k .undef bZ) fun t52 dE =>
 ah t50 false (fun iU=>aI dE t9 2 fun t53 =>
 iU t53 dE) (fun k=>k .undef dE) fun aoE fJ =>
 ah t50 false (fun kY=>p11 [t52,aoE] fJ fun t54 fO =>
 kY t54 fO) (fun k=>k .undef fJ) fun amZ jo =>
 ah t50 false (fun rT=>eG amZ fun t55 =>
 rT t55 jo) (fun k=>k .undef jo) fun asl fV =>
 aJ t50 (Bo true) asl fun t56 =>
 ah t56 false (fun vL=>vL t28 fV) (fun k=>k .undef fV) fun t58 iy =>
 ah t56 false (fun rP=>aI iy t9 2 fun t59 =>
 rP t59 iy) (fun k=>k .undef iy) fun apB eY =>
 ah t56 false (fun kZ=>Tm true [1,1] (Bo false) false eY t58 apB fun t60 =>
 kZ t60 eY) (fun k=>k .undef eY) fun aot dZ =>
 aJ t56 (Bo true) aot fun t61 =>
 ah t61 false (fun rY=>aA bH 2 fun t63 =>
 rY t63 dZ) (fun k=>k .undef dZ) fun as4 kD =>
 ah t61 false (fun yu=>ai kD as4 fun t64 =>
 yu t64 kD) (fun k=>k .undef kD) fun ano kK =>
 ah t61 false (fun xY=>iT .eql ano (St []) fun t65 =>
 xY t65 kK) (fun k=>k .undef kK) fun as6 gN =>
 aJ t61 (Bo true) as6 fun t66 =>
 ah t66 false (fun yj=>aA bH 3 fun t68 =>
 yj t68 gN) (fun k=>k .undef gN) fun atU jT =>
 ah t66 false (fun yL=>ai jT atU fun t69 =>
 yL t69 jT) (fun k=>k .undef jT) fun auy mY =>
 ah t66 false (fun Wv=>iT .eql auy (St []) fun t70 =>
 Wv t70 mY) (fun k=>k .undef mY) fun asD nR =>
 aJ t66 (Bo true) asD fun t71 =>
 ay t71 (
 Q (.tup [(.sc (.pointer none)),(N .i64 14)]) nR) (
 aZ t27 fun t73 =>
 aA t73 1 fun t74 =>
 ai nR t74 fun t75 =>
 bD t75 fun t76 =>
 af .gtr t76 (N .i64 0) fun t78 =>
 ae t78 true (fun yg=>yg t27 nR none) (fun k=>k .undef nR none) fun t80 iY OE =>
 ae t78 true (fun vQ=>aZ t80 fun t81 =>
 vQ t81 iY none) (fun k=>k .undef iY none) fun aqC oV ar4 =>
 ae t78 true (fun XE=>aA aqC 1 fun t82 =>
 XE t82 oV none) (fun k=>k .undef oV none) fun am8 EO ayy =>
 ae t78 true (fun OW=>ai EO am8 fun t83 =>
 OW t83 EO none) (fun k=>k .undef EO none) fun ar7 pq aiV =>
 ae t78 true (fun Gm=>Gm t76 pq none) (fun k=>k .undef pq none) fun t84 yB aiN =>
 ae t78 true (fun CB=>af .sub t84 (N .i64 1) fun t85 =>
 CB t85 yB none) (fun k=>k .undef yB none) fun auG vW ayh =>
 ae t78 true (fun Xj=>ax ar7 auG 5 fun t86 =>
 Xj t86 vW none) (fun k=>k .undef vW none) fun auR yc auT =>
 ae t78 true (fun XK=>aI yc auR 5 fun t87 =>
 XK t87 yc none) (fun k=>k .undef yc none) fun atY wS arE =>
 ae t78 true (fun Ot=>aI wS bH 5 fun t88 =>
 Ot t88 wS none) (fun k=>k .undef wS none) fun aok vJ ann =>
 ah t78 true (fun ai3=>p12 [atY,aok] vJ fun t89 uD =>
 ai3 t89 uD) (fun k=>k .undef vJ) fun auP Cy =>
 ae t78 true (fun ay4=>af .geq auP (N .i64 0) fun t90 =>
 ay4 t90 Cy none) (fun k=>k .undef Cy none) fun apR rf aqH =>
 aJ t78 apR (Bo false) fun t91 =>
 ay t91 (
 Q (.tup [(.sc (.pointer none)),(N .i64 14)]) rf) (
 aI rf t9 2 fun t93 =>
 LA true [1,1] rf t28 t93 (Bo true) fun TC =>
 aZ t27 fun t96 =>
 aA t96 1 fun t97 =>
 ai TC t97 fun t98 =>
 aI TC bH 5 fun t99 =>
 dH p9 1 [(N .i64 0),(N .u64 0),(St []),(St []),(St [])] [(0,5,t99)] fun azL awq =>
 mI azL awq TC fun mg Lm avn =>
 appW p9 5 64 [(N .i64 0),(N .u64 0),(St []),(St []),(St [])] false t98 mg Lm fun mi xz =>
 aZ t27 fun Cq =>
 aA Cq 1 fun vH =>
 aL xz vH mi 1 fun VP =>
 af .add (aa xs 0) (N .i64 1) fun Gj =>
 next [Gj] VP))))))))) (
 p13 [bf] M_8 fun Hw Gl =>
 af .neq Hw (N .i64 0) fun t107 =>
 ah t107 false (fun Il=>Il t27 Gl) (fun k=>k .undef Gl) fun t109 pM =>
 ah t107 false (fun Qf=>p14 [t109] pM fun BB Gh =>
 Qf BB Gh) (fun k=>k .undef pM) fun aiC rF =>
 ah t107 false (fun QO=>QO a0 rF) (fun k=>k .undef rF) fun Al rC =>
 ah t107 false (fun QU=>p15 [aiC,Al] rC fun rZ rE =>
 QU rZ rE) (fun k=>k .undef rC) fun ahY qC =>
 ah t107 false (fun adS=>eG ahY fun xq =>
 adS xq qC) (fun k=>k .undef qC) fun ajh ajQ =>
 aJ t107 (Bo true) ajh fun Ir =>
 ay Ir (
 Q (.tup [(.sc (.pointer none)),(N .i64 14)]) ajQ) (
 Q (.tup [t27,(N .i64 0)]) ajQ))) [(N .i64 0)] M_7)
end Go.Ab.Crw
set_option maxRecDepth 10000
namespace Go.Ab.Crw
open Go Go.Ab Go.Ab.aC
def dR (most:Nat) (bs:List UInt8) (f:Bool) : List UInt8 × List UInt8 × Bool :=
 if (bC most bs f).2.2 || decide ((bC most bs f).2.1.length<(bC most bs f).1) then([],(bC most bs f).2.1,true)
 else((bC most bs f).2.1.take (bC most bs f).1,(bC most bs f).2.1.drop (bC most bs f).1,false)
theorem wT {most:Nat} {bs:List UInt8} {f:Bool} : (dR most bs f).1.length≤most∧(dR most bs f).2.1.length≤bs.length:=by
 have h:=mH (most:=most) (bs:=bs) (f:=f)
 unfold dR
 split
 ·exact⟨by simp,h.2⟩
 ·exact⟨by rw[List.length_take]; omega,by rw[List.length_drop]; omega⟩
theorem Cj {most:Nat} {bs:List UInt8} {f:Bool} (h:(bC most bs f).2.2=false) : (bC most bs f).2.1.length + 1≤bs.length∧f=false:=by
 unfold bC at h ⊢
 split at h
 ·cases h
 ·rename_i v n hn
  split at h
  ·cases h
  ·rename_i hc
   rw[if_neg hc]
   have:=LJ hn
   refine⟨by show(List.drop n bs).length + 1≤_; rw[List.length_drop]; omega, ?_⟩
   cases f with
   | true=>exact absurd rfl hc
   | false=>rfl
theorem adZ {bs:List UInt8} {f:Bool} (h:(iP bs f).2.2=false) : (iP bs f).2.1.length + 1≤bs.length∧f=false:=by
 unfold iP at h ⊢
 exact Cj h
theorem Ac {most:Nat} {bs:List UInt8} {f:Bool} (h:(dR most bs f).2.2=false) : (dR most bs f).2.1.length + 1≤bs.length∧f=false:=by
 unfold dR at h ⊢
 split at h
 ·cases h
 ·rename_i hc
  rw[if_neg hc]
  have hf:(bC most bs f).2.2=false:=by
   cases hh:(bC most bs f).2.2 with
   | true=>rw[hh] at hc; exact absurd rfl hc
   | false=>rfl
  have:=Cj hf
  exact⟨by show(List.drop _ _).length + 1≤_; rw[List.length_drop]; omega,this.2⟩
def acz (T:Nat) (c:au) : Prop:=∀ {M:RM} {r most:Nat} {S:Nat→Prop} {bs:List UInt8} {f:Bool} {Q:ak},uT T S M r bs f→most<4294967296 →
 (∀ M',uT T S M' r (dR most bs f).2.1 (dR most bs f).2.2→ag [r] M M'→M'.next=M.next→Q (St (dR most bs f).1) M')→c [.ptr r 0,N .i64 (most:Int)] M Q
theorem afN {T:Nat} {ci:au} (hi:Zo T ci) : acz T fun args M Q=>∃ a0 a1,args=[a0,a1]∧zN ci a0 a1 M Q:=by
 intro M r most S bs f Q h hm hQ
 refine⟨_,_,rfl, ?_⟩
 unfold zN
 simp only[gT,gU,fG,ig]
 refine hi h hm fun M1 h1 k1 n1=>?_
 have hle:=mH (most:=most) (bs:=bs) (f:=f)
 unfold dR at hQ
 generalize (bC most bs f).1=n at *
 generalize (bC most bs f).2.1=bs1 at *
 generalize (bC most bs f).2.2=f1 at *
 obtain⟨v,hr,hs,hc,hS⟩:=h1.row
 have hrl:=h1.lt
 rw[aG,aS,aj (i:=0 + 1) hr rfl]
 refine zU (p:=decide (bs1.length<n)) (fun _ K hK=>?_) ?_
 ·rw[aG,aF,aj (i:=0 + 0) hr rfl,aM.len hs,eF,show decide ((n:Int) > (bs1.length:Int))=decide (bs1.length<n) by simp]
  exact hK
 generalize hg:(f1 || decide (bs1.length<n))=g at *
 rw[aG,aS,rJ [v,Bo g] hr (by simp) rfl rfl rfl,aG,aS,aj (aR _) rfl]
 have kk:ag [r] M1 (M1.put r (.row [v,Bo g] false T 0)):=(ag.refl _ _).put _ (.inr (by simp))
 have hh:(M1.put r (.row [v,Bo g] false T 0)).heap r=some (.row [v,Bo g] false T 0):=aR _
 have nn:(M1.put r (.row [v,Bo g] false T 0)).next=M1.next:=rfl
 generalize M1.put r (.row [v,Bo g] false T 0)=M2 at *
 have s2:Sl BY M2 v bs1:=aM.keep hs kk (fun d hd hm=>by simp at hm; subst hm; exact h1.nb (hS d hd))
 refine aH (fun hgt=>?_) (fun hgf=>?_)
 ·subst hgt
  rw[if_pos rfl] at hQ
  exact hQ M2 ⟨by omega,⟨v,hh,s2,hc,hS⟩,h1.nb⟩ (k1.trans kk) (by omega)
 ·subst hgf
  rw[if_neg (by simp)] at hQ
  have hn:n≤bs1.length:=by
   simp only[Bool.or_eq_false_iff,decide_eq_false_iff_not] at hg; omega
  rw[aG,aS,aj hh rfl]
  obtain⟨v1,e1,e2⟩:=aek rfl s2 hc hn
  rw[e1,cB,Sl.str e2,aG,aS,aj hh rfl]
  obtain⟨v',g1,g2,g3,g4⟩:=YF rfl s2 hc hn
  rw[g1,cB,aG,aS,rJ [v',Bo false] hh (by simp) (aM.cells g2) (aM.one g2) rfl]
  have k2:ag [r] M2 (M2.put r (.row [v',Bo false] false T 0)):=(ag.refl _ _).put _ (.inr (by simp))
  exact hQ _ ⟨by rw[ny]; omega,⟨v',aR _,aM.keep g2 k2 (fun d hd hm=>by simp at hm; subst hm; exact h1.nb (hS d (g4 d hd))),g3,fun d hd=>hS d (g4 d hd)⟩,h1.nb⟩ ((k1.trans kk).trans k2) (by rw[ny]; omega)
def mapD (k:Nat) : List aP→List (AV × AV × Nat)
 | []=>[]
 | x :: es=>(.agg (aO x.1),Bo true,k) :: mapD (k + 1) es
theorem Va (x:aP) : ∀ (es:List aP) (k:Nat),mapD k (es++[x])=mapD k es++[(.agg (aO x.1),Bo true,k + es.length)]
 | [],k=>rfl
 | y :: es,k=>by
   simp only[List.cons_append,mapD,Va x es (k + 1),List.length_cons]
   rw[show k + 1 + es.length=k + (es.length + 1) by omega]
def met (es:List aP) (d:aC) : Bool:=es.any fun x=>decide (x.1=d)
theorem J8 (d:aC) : ∀ (es:List aP) (k i:Nat),∃ r,tX true [1,1] (aO d) (mapD k es) i=some r∧((met es d=true∧∃ j,r=some (j,Bo true))∨(met es d=false∧r=none))
 | [],k,i=>⟨none,rfl,.inr ⟨rfl,rfl⟩⟩
 | x :: es,k,i=>by
   simp only[mapD,tX,jg]
   rw[if_pos (by rfl),Co]
   by_cases h:d=x.1
   ·rw[decide_eq_true h]
    exact⟨_,rfl,.inl ⟨by simp[met,h],i,rfl⟩⟩
   ·rw[decide_eq_false h]
    obtain⟨r,h1,h2⟩:=J8 d es (k + 1) (i + 1)
    refine⟨r,h1, ?_⟩
    have:met (x :: es) d=met es d:=by
     have:¬ x.1=d:=fun e=>h e.symm
     simp[met,this]
    rw[this]; exact h2
theorem ali {M:RM} {b:Nat} {es:List aP} {d:aC} {c:Nat} {K:AV→Prop} (h:M.heap b=some (.map (mapD 0 es) c)) (hK:K (Bo (met es d))) : Tm true [1,1] (Bo false) false M (.map b) (.agg (aO d)) K:=by
 obtain⟨r,h1,h2⟩:=J8 d es 0 0
 refine⟨b,_,c,aO d,r,rfl,h,rfl,rfl,h1, ?_⟩
 rcases h2 with⟨h2,j,rfl⟩ | ⟨h2,rfl⟩
 ·rw[h2] at hK; exact hK
 ·rw[h2] at hK; exact hK
theorem alv {M:RM} {b:Nat} {es:List aP} {x:aP} {K:RM→Prop} (h:M.heap b=some (.map (mapD 0 es) es.length)) (hn:met es x.1=false) (hK:K (M.put b (.map (mapD 0 (es++[x])) (es++[x]).length))) : LA true [1,1] M (.map b) (.agg (aO x.1)) (Bo true) K:=by
 obtain⟨r,h1,h2⟩:=J8 x.1 es 0 0
 refine⟨b,_,_,aO x.1,r,rfl,h,rfl,rfl,h1, ?_⟩
 rcases h2 with⟨h2,j,rfl⟩ | ⟨h2,rfl⟩
 ·rw[h2] at hn; cases hn
 ·rw[Va,Nat.zero_add,List.length_append,List.length_singleton] at hK
  exact hK
def zA (es:List aP) (x:aP) : Bool:=match es.getLast? with
 | some y=>!jc y x
 | none=>false
def Ig (ps:List Pt) : Nat→List UInt8→Bool→List aP→Option (List UInt8 × Bool × List aP)
 | 0,bs,f,es=>some (bs,f,es)
 | k + 1,bs,f,es =>
   let d:=bC 15 bs f
   let u:=iP d.2.1 d.2.2
   let c:=dR 64 u.2.1 u.2.2
   let g:=dR 64 c.2.1 c.2.2
   let v:=dR 512 g.2.1 g.2.2
   if v.2.2 || !fw ps ((d.1:Int),u.1) || met es ((d.1:Int),u.1) || c.1 == [] || g.1 == [] then none
   else if zA es ((((d.1:Int),u.1),(c.1,(g.1,v.1))) : aP) then none
   else Ig ps k v.2.1 v.2.2 (es++[((((d.1:Int),u.1),(c.1,(g.1,v.1))) : aP)])
def DV (b:List UInt8) : Option (List Pt × List aP) :=
 match decode (dR b.length b false).1 with
 | none=>none
 | some ps =>
   match Ig ps (bC b.length (dR b.length b false).2.1 (dR b.length b false).2.2).1 (bC b.length (dR b.length b false).2.1 (dR b.length b false).2.2).2.1 (bC b.length (dR b.length b false).2.1 (dR b.length b false).2.2).2.2 [] with
   | none=>none
   | some (bs,f,es)=>if f || !bs.isEmpty || !(zy ps es == b) then none else some (ps,es)
theorem Uy:∀ (xs:List Nat) (a:Nat),chain a xs=true→Asc xs∧∀ x∈xs,a<x
 | [],a,_=>⟨.nil,by simp⟩
 | x :: xs,a,h=>by
   simp only[chain,Bool.and_eq_true,decide_eq_true_eq] at h
   obtain⟨h1,h2⟩:=Uy xs x h.2
   refine⟨List.pairwise_cons.2 ⟨h2,h1⟩,fun y hy=>?_⟩
   rcases List.mem_cons.1 hy with rfl | hy
   ·exact h.1
   ·have:=h2 y hy; omega
theorem aag {bs:List UInt8} {ps:List Pt} (h:decode bs=some ps) : ps.all tC=true:=by
 unfold decode at h
 split at h <;> first | (cases h; done) | skip
 split at h <;> first | (cases h; done) | skip
 rename_i hc
 cases h
 cases hf:List.all ps tC with
 | true=>rfl
 | false=>exact absurd (.inr (.inr (.inl hf))) hc
theorem aoz {M:RM} {c p:Bool} {f:ak→Prop} {P:RM→Prop} {G:AV→RM→Prop} (h0:P M) (hf:c=false→∀ k:ak,(∀ M',P M'→k (Bo p) M')→f k) (hG:∀ M',P M'→G (Bo (c || p)) M') :
  ah (Bo c) false f (fun k=>k .undef M) (fun t M'=>aJ (Bo c) (Bo true) t fun u=>G u M'):=by
 cases c with
 | true=>rw[di]; dsimp only; rw[bO]; exact hG M h0
 | false=>rw[aT]; exact hf rfl _ fun M' h=>by rw[bz]; exact hG M' h
def Y3 (TS T:Nat) (c:au) : Prop:=∀ {M:RM} {v:AV} {bs:List UInt8} {Q:ak},Sl BY M v bs→bs.length≤1600000 →
 (DV bs=none→∀ M',ag [] M M'→Q (.tup [.sc (.pointer none),N .i64 14]) M') →
 (∀ ps es,DV bs=some (ps,es)→(∀ x∈es,tH x)→(∀ p∈ps,Bd p)→∀ t M',M.next≤t→oC TS T (fun d=>M.next≤d∧d≠t) M' t ps es→ag [] M M'→Q (.tup [.ptr t 0,N .i64 0]) M')→c [v] M Q
theorem acM {TR TS T TU TD TN TB:Nat} {crd ct cdd ci cu cE cH cC cN cS cq:au} (hrd:VO TR crd) (ht:acz TR ct) (hdd:Ul T TU cdd) (hi:Zo TR ci) (hu:RU TR cu) (hE:adE TR cE) (hH:VQ T cH) (hC:GN cC) (hend:abD TR cN) (hen:zu TS T TB cS) (heq:Qc cq) :
  Y3 TS T fun args M Q=>∃ a0,args=[a0]∧Nt crd ct TB cdd TS ci cu TD TN cE cH cC cN cS cq a0 M Q:=by
 intro M v b Q hv hlen hNo hSo
 refine⟨_,rfl, ?_⟩
 unfold Nt
 simp only[gT,gU,fG,ig,dG]
 refine hrd hv (by omega) fun r M1 hr1 hrr k1=>?_
 have s1:Sl BY M1 v b:=aM.keep hv k1 (by simp)
 rw[aM.len s1]
 refine ht hr1 (by omega) fun M2 hr2 k2 n2=>?_
 have tl:=wT (most:=b.length) (bs:=b) (f:=false)
 unfold DV at hNo hSo
 generalize (dR b.length b false).1=t at *
 generalize (dR b.length b false).2.1=bs2 at *
 generalize (dR b.length b false).2.2=f2 at *
 have rlt:=hr1.lt
 have nn1:=k1.next
 have k02:ag [] M M2:=k1.aY k2 (fun d hd=>.inl (by simp at hd; omega))
 refine⟨t,rfl, ?_⟩
 dsimp only
 rw[bn]
 have k3:ag [] M2 (M2.push (.row (t.map fun b=>N .u8 b.toNat) true TB 0)):=(ag.refl _ _).push _
 have s3:Sl BY (M2.push (.row (t.map fun b=>N .u8 b.toNat) true TB 0)) (.slc M2.next 0 t.length (.op 1)) t:=by
  show aM _ 1 _ (BY.row t) t.length
  rw[CR]
  refine .slc _ _ _ _ _ (by simp[RM.push]) ?_
  rw[RM.dx (RM.aQ _) (by simp),Nat.mul_one,List.drop_zero,List.take_of_length_le (by simp)]
 generalize M2.push (.row (t.map fun b=>N .u8 b.toNat) true TB 0)=M3 at *
 have k03:=k02.trans k3
 have nn3:=k3.next
 refine hdd s3 (by omega) (fun hd M4 k4=>?_) (fun ps hd hbi s M4 hs4 hso k4=>?_)
 ·rw[kN,kP,dY,show((14:Int) != 0)=true from rfl,dC]
  exact hNo (by rw[hd]) M4 (k03.trans k4)
 simp only[hd] at hNo hSo
 rw[kN,kP,dY,show((0:Int) != 0)=false from rfl,bI,jI]
 refine⟨[.ptr s 0,dV],rfl, ?_⟩
 rw[dL rfl (by simp),bn,bn]
 have nn4:=k4.next
 have hset:iA T (fun d=>s + 1≤d∧d<M4.next) M4 s ps:=hso.setH.below
 have slt:=hset.lt
 have hbd:∀ p∈ps,Bd p:=fun p hp=>by
  obtain⟨b1,b2,b3⟩:=hbi p hp
  exact⟨by omega,by omega,fun x hx=>by have:=b3 x hx; omega⟩
 have hasc:∀ q∈ps,Asc q.2∧q.2.length≤1000000:=fun q hq=>⟨(Uy _ _ (List.all_eq_true.1 (aag hd) q hq)).1,(hbd q hq).2.1⟩
 have k6:ag [] M4 ((M4.push (.row [AV.ptr s 0,dV] false TS 0)).push (.map [] 0)):=((ag.refl _ _).push _).push _
 have aoC:((M4.push (.row [AV.ptr s 0,dV] false TS 0)).push (.map [] 0)).heap M4.next=some (.row [.ptr s 0,dV] false TS 0):=lQ (RM.aQ _) (by simp[RM.push])
 have aii:((M4.push (.row [AV.ptr s 0,dV] false TS 0)).push (.map [] 0)).heap (M4.push (.row [AV.ptr s 0,dV] false TS 0)).next=some (.map (mapD 0 []) 0):=RM.aQ _
 have nm:(M4.push (.row [AV.ptr s 0,dV] false TS 0)).next=M4.next + 1:=rfl
 have nn6:((M4.push (.row [AV.ptr s 0,dV] false TS 0)).push (.map [] 0)).next=M4.next + 2:=rfl
 rw[nm] at aii
 rw[show(M4.push (.row [AV.ptr s 0,dV] false TS 0)).next=M4.next + 1 from rfl]
 generalize (M4.push (.row [AV.ptr s 0,dV] false TS 0)).push (.map [] 0)=M6 at *
 clear nm
 have k36:=k4.trans k6
 have k06:=k03.trans k36
 have s6:Sl BY M6 v b:=aM.keep hv k06 (by simp)
 rw[aM.len s6]
 have hr6:=(hr2.keep k3 (by simp) (by simp)).keep k36 (by simp) (by simp)
 refine hi hr6 (by omega) fun M7 hr7 k7 n7=>?_
 have hnl:=(mH (most:=b.length) (bs:=bs2) (f:=f2)).1
 have hbl3:=(mH (most:=b.length) (bs:=bs2) (f:=f2)).2
 generalize (bC b.length bs2 f2).1=n at *
 generalize (bC b.length bs2 f2).2.1=bs3 at *
 generalize (bC b.length bs2 f2).2.2=f3 at *
 have k07:ag [] M M7:=k06.aY k7 (fun d hd=>.inl (by simp at hd; omega))
 have k47:ag [r,M4.next,M4.next + 1] M4 M7:=(k6.mono (by simp)).trans (k7.mono (by simp))
 have aAH:=k7.aN aoC (by omega) (by simp; omega)
 have ay8:=k7.aN aii (by omega) (by simp; omega)
 clear k7 k6 k36 k06 s6 hr6 aoC aii hr2 k3 s3 k02 s1 hr1
 refine aK (fun z ys M8=>∃ (i:Nat) (bs:List UInt8) (f:Bool) (es:List aP) (dv:AV),z=n - i∧ys=[N .i64 (i:Int)]∧i≤n∧bs.length + 5 * i≤bs3.length∧es.length=i∧uT TR (fun d=>M.next≤d∧d<r) M8 r bs f∧Ig ps n bs3 f3 []=Ig ps (n - i) bs f es ∧
   M8.heap M4.next=some (.row [.ptr s 0,dv] false TS 0)∧Ow aB M8 (M4.next + 2) TN dv es∧M8.heap (M4.next + 1)=some (.map (mapD 0 es) es.length)∧(∀ x∈es,tH x)∧ag [] M M8∧ag [r,M4.next,M4.next + 1] M4 M8∧M4.next + 2≤M8.next) _
  ⟨0,bs3,f3,[],dV,rfl,rfl,Nat.zero_le _,by omega,rfl,hr7,rfl,aAH,.nil,ay8,by simp,k07,k47,by omega⟩ ?_
 rintro next z ys M8 hnext ⟨i,bs,f,es,dv,rfl,rfl,hin,hbl,hel,hR,hdec,hts,hov,htm,hok,k08,k48,n8⟩
 dsimp only[aa]
 rw[fM]
 refine aH (fun hlt=>?_) (fun hge=>?_)
 ·have hlt:i<n:=of_decide_eq_true hlt
  rw[show n - i=(n - (i + 1)) + 1 by omega,Ig] at hdec
  refine hi (most:=15) hR (by decide) fun M9 hR9 k9 n9=>?_
  have ld:=Cj (most:=15) (bs:=bs) (f:=f)
  have d15:=(mH (most:=15) (bs:=bs) (f:=f)).1
  refine hu hR9 fun M10 agA k10 n10=>?_
  have lu:=adZ (bs:=(bC 15 bs f).2.1) (f:=(bC 15 bs f).2.2)
  have u64:=MW (bs:=(bC 15 bs f).2.1) (f:=(bC 15 bs f).2.2)
  generalize (bC 15 bs f).1=dn at *
  generalize iP (bC 15 bs f).2.1 (bC 15 bs f).2.2=uu at *
  obtain⟨un,bs5,f5⟩:=uu
  try dsimp only at u64 hdec agA lu
  have ah5:ag [r] M8 M10:=k9.trans k10
  rw[jI]
  refine⟨aO ((dn:Int),un),rfl, ?_⟩
  rw[bn,iK (n:=2) (x:=.agg (aO ((dn:Int),un))) (l:=[(N .i64 0),(N .u64 0)]) (RM.aQ _) rfl rfl rfl]
  have k12:ag [] M10 ((M10.push (.row [(N .i64 0),(N .u64 0)] false TD 0)).put M10.next (.row (AV.agg (aO ((dn:Int),un))).cells false TD 0)):=((ag.refl _ _).push _).new _ (Nat.le_refl _)
  have h9:((M10.push (.row [(N .i64 0),(N .u64 0)] false TD 0)).put M10.next (.row (AV.agg (aO ((dn:Int),un))).cells false TD 0)).heap M10.next=some (.row (aO ((dn:Int),un)) false TD 0):=aR _
  have n12:((M10.push (.row [(N .i64 0),(N .u64 0)] false TD 0)).put M10.next (.row (AV.agg (aO ((dn:Int),un))).cells false TD 0)).next=M10.next + 1:=rfl
  generalize (M10.push (.row [(N .i64 0),(N .u64 0)] false TD 0)).put M10.next (.row (AV.agg (aO ((dn:Int),un))).cells false TD 0)=M12 at *
  rw[dF (n:=2) h9 rfl,ku]
  have k13:ag [] M12 (M12.push (.row [(N .i64 0),(N .u64 0),(St []),(St []),(St [])] false TN 0)):=(ag.refl _ _).push _
  have h10:(M12.push (.row [(N .i64 0),(N .u64 0),(St []),(St []),(St [])] false TN 0)).heap M12.next=some (.row [(N .i64 0),(N .u64 0),(St []),(St []),(St [])] false TN 0):=RM.aQ _
  have n13:(M12.push (.row [(N .i64 0),(N .u64 0),(St []),(St []),(St [])] false TN 0)).next=M12.next + 1:=rfl
  have h9':=k13.aN h9 (by omega) (by simp)
  generalize M12.push (.row [(N .i64 0),(N .u64 0),(St []),(St []),(St [])] false TN 0)=M13 at *
  have ape:=(agA.keep k12 (by simp) (by simp)).keep k13 (by simp) (by simp)
  refine ht (most:=64) ape (by decide) fun M14 ahv k14 n14=>?_
  have ls1:=Ac (most:=64) (bs:=bs5) (f:=f5)
  have c64:=(wT (most:=64) (bs:=bs5) (f:=f5)).1
  generalize dR 64 bs5 f5=cc at *
  obtain⟨cn,bs6,f6⟩:=cc
  try dsimp only at c64 hdec ahv ls1 ⊢
  have agz:=k14.aN h9' (by omega) (by simp; omega)
  have acf:=k14.aN h10 (by omega) (by simp; omega)
  rw[dF (n:=2) agz rfl]
  refine⟨rfl,⟨acf,rfl⟩, ?_⟩
  refine ht (most:=64) ahv (by decide) fun M15 aid k15 n15=>?_
  have ls2:=Ac (most:=64) (bs:=bs6) (f:=f6)
  have g64:=(wT (most:=64) (bs:=bs6) (f:=f6)).1
  generalize dR 64 bs6 f6=gg at *
  obtain⟨gn,bs7,f7⟩:=gg
  try dsimp only at g64 hdec aid ls2 ⊢
  have ajn:=k15.aN agz (by omega) (by simp; omega)
  have adb:=k15.aN acf (by omega) (by simp; omega)
  rw[dF (n:=2) ajn rfl]
  refine⟨rfl,⟨adb,rfl⟩, ?_⟩
  refine ht (most:=512) aid (by decide) fun M16 agr k16 n16=>?_
  have ls3:=Ac (most:=512) (bs:=bs7) (f:=f7)
  have azV:=(wT (most:=512) (bs:=bs7) (f:=f7)).1
  generalize dR 512 bs7 f7=vv at *
  obtain⟨vn,bs8,f8⟩:=vv
  try dsimp only at azV hdec agr ls3 ⊢
  have aiU:=k16.aN ajn (by omega) (by simp; omega)
  have abY:=k16.aN adb (by omega) (by simp; omega)
  rw[dF (n:=2) aiU rfl]
  refine⟨rfl,⟨abY,rfl⟩, ?_⟩
  rw[jI]
  refine⟨aB.cells ((((dn:Int),un),(cn,(gn,vn))) : aP),rfl, ?_⟩
  rw[iK (n:=5) (x:=.agg (aB.cells ((((dn:Int),un),(cn,(gn,vn))) : aP))) abY rfl rfl (tQ _)]
  have k17:ag [M12.next] M16 (M16.put M12.next (.row (AV.agg (aB.cells ((((dn:Int),un),(cn,(gn,vn))) : aP))).cells false TN 0)):=(ag.refl _ _).put _ (.inr (by simp))
  have ajY:(M16.put M12.next (.row (AV.agg (aB.cells ((((dn:Int),un),(cn,(gn,vn))) : aP))).cells false TN 0)).heap M12.next=some (.row (aB.cells ((((dn:Int),un),(cn,(gn,vn))) : aP)) false TN 0):=aR _
  have n17:(M16.put M12.next (.row (AV.agg (aB.cells ((((dn:Int),un),(cn,(gn,vn))) : aP))).cells false TN 0)).next=M16.next:=rfl
  have ab2:=k17.aN aiU (by omega) (by simp; omega)
  generalize M16.put M12.next (.row (AV.agg (aB.cells ((((dn:Int),un),(cn,(gn,vn))) : aP))).cells false TN 0)=M17 at *
  have axT:tH ((((dn:Int),un),(cn,(gn,vn))) : aP):=⟨by simp,by show(dn:Int)<16; omega,u64,by show cn.length≤_; omega,by show gn.length≤_; omega,by show vn.length≤_; omega⟩
  have hdx:(((((dn:Int),un),(cn,(gn,vn))) : aP)).1=((dn:Int),un):=rfl
  generalize hx:((((dn:Int),un),(cn,(gn,vn))) : aP)=x at *
  have hxc:x.2.1=cn:=by rw[← hx]
  have hxg:x.2.2.1=gn:=by rw[← hx]
  rw[← hdx] at hdec ab2
  have n8':=ah5.next
  have akn:ag [r] M12 M16:=(k13.mono (by simp)).trans ((k14.trans k15).trans k16)
  have akp:ag [r] M8 M16:=ah5.trans ((k12.mono (by simp)).trans akn)
  have Si:ag [r] M8 M17:=akp.aY k17 (fun d hd=>.inl (by simp at hd; omega))
  have akc:=Si.aN hts (by omega) (by simp; omega)
  have aka:=Si.aN htm (by omega) (by simp; omega)
  have ajC:=hov.keep Si (fun d hd hm=>by simp at hm; have:=(hov.blk d hd).1; omega)
  have agE:ag [] M M17:=k08.aY Si (fun d hd=>.inl (by simp at hd; omega))
  have aq2:ag [r,M4.next,M4.next + 1] M4 M17:=k48.trans (Si.mono (by simp))
  have aqs:=agr.keep k17 (by simp; omega) (fun d hd h=>by simp at hd; omega)
  have n817:=Si.next
  clear hR hR9 agA ape ahv aid agr k9 k10 k12 k13 k14 k15 k16 k17 ah5 akn akp h9 h9' agz ajn aiU h10 acf adb abY hts htm hov
  refine hE aqs ?_
  rw[dY,show((if f8 then(14:Int) else 0) != 0)=f8 by cases f8 <;> rfl]
  refine aoz (P:=fun M'=>ag [] M17 M') (p:=!fw ps x.1) (ag.refl _ _) (fun _ K hK=>?_) fun M18 k18=>?_
  ·rw[dF (n:=2) ab2 rfl]
   refine hH (hset.keep aq2 (by simp; omega) (fun d hd h=>by simp at hd; omega)) hasc fun M' k'=>?_
   rw[bR]
   exact hK M' k'
  have az5:=k18.aN ab2 (by omega) (by simp)
  have ac5:=k18.aN ajY (by omega) (by simp)
  have awZ:=k18.aN aka (by omega) (by simp)
  have ajO:=k18.aN akc (by omega) (by simp)
  refine zU (p:=met es x.1) (fun _ K hK=>?_) ?_
  ·rw[dF (n:=2) az5 rfl]
   exact ali awZ hK
  refine zU (p:=cn == []) (fun _ K hK=>?_) ?_
  ·rw[aF,aj (i:=0 + 2) (x:=St x.2.1) ac5 rfl,qE,hxc]
   exact hK
  refine zU (p:=gn == []) (fun _ K hK=>?_) ?_
  ·rw[aF,aj (i:=0 + 3) (x:=St x.2.2.1) ac5 rfl,qE,hxg]
   exact hK
  refine aH (fun hc=>?_) (fun hc=>?_)
  ·rw[if_pos hc] at hdec
   exact hNo (by rw[hdec]) M18 (agE.trans k18)
  rw[if_neg (by rw[hc]; decide)] at hdec
  have aj2:=ajC.keep k18 (by simp)
  rw[aG,aF,aj (i:=0 + 1) ajO rfl,aM.len aj2.fu,eF]
  refine akf (P:=fun M'=>ag [] M18 M') (p:=zA es x) (ag.refl _ _) (fun hpos K hK=>?_) fun M19 k19=>?_
  ·have hpos:0<es.length:=by
    have:(es.length:Int) > 0:=of_decide_eq_true hpos
    omega
   rw[aG,aF,aj (i:=0 + 1) ajO rfl,dI hpos (by omega),rU aj2.fu (i:=es.length - 1) (by omega),dF (n:=5) ac5 rfl]
   refine hC fun M' k'=>?_
   rw[jA]
   have e:decide (f3E (es[es.length - 1]'(by omega)) x ≥ 0)=zA es x:=by
    unfold zA
    rw[List.getLast?_eq_getElem?,List.getElem?_eq_getElem (by omega)]
    dsimp only
    rw[← asC,← decide_not]
    congr 1
    exact propext ⟨fun h=>by omega,fun h=>by omega⟩
   rw[e]
   exact hK M' k'
  have hlast:(decide ((es.length:Int) > 0) && zA es x)=zA es x:=by
   cases es with
   | nil=>rfl
   | cons y es=>rw[decide_eq_true (by simp),Bool.true_and]
  rw[hlast]
  refine aH (fun hc2=>?_) (fun hc2=>?_)
  ·rw[if_pos hc2] at hdec
   exact hNo (by rw[hdec]) M19 ((agE.trans k18).trans k19)
  rw[if_neg (by rw[hc2]; decide)] at hdec
  have Hy:=k18.trans k19
  have axU:=Hy.aN ab2 (by omega) (by simp)
  have avE:=Hy.aN ajY (by omega) (by simp)
  have awv:=Hy.aN aka (by omega) (by simp)
  have axa:=Hy.aN akc (by omega) (by simp)
  have akq:=ajC.keep Hy (by simp)
  have n19:=Hy.next
  have aAk:bs8.length + 5 * (i + 1)≤bs3.length:=by
   simp only[Bool.or_eq_false_iff] at hc
   obtain⟨a1,rfl⟩:=ls3 hc.1.1.1.1
   obtain⟨a2,rfl⟩:=ls2 rfl
   obtain⟨a3,rfl⟩:=ls1 rfl
   obtain⟨a4,hf5⟩:=lu rfl
   obtain⟨a5,_⟩:=ld hf5
   omega
  have hmet:met es x.1=false:=by
   simp only[Bool.or_eq_false_iff] at hc
   exact hc.1.1.2
  rw[dF (n:=2) axU rfl]
  refine alv awv hmet ?_
  have k20:ag [M4.next + 1] M19 (M19.put (M4.next + 1) (.map (mapD 0 (es++[x])) (es++[x]).length)):=(ag.refl _ _).put _ (.inr (by simp))
  have awU:(M19.put (M4.next + 1) (.map (mapD 0 (es++[x])) (es++[x]).length)).heap (M4.next + 1)=some (.map (mapD 0 (es++[x])) (es++[x]).length):=aR _
  have n20:(M19.put (M4.next + 1) (.map (mapD 0 (es++[x])) (es++[x]).length)).next=M19.next:=rfl
  have aj9:=k20.aN axa (by omega) (by simp)
  have avD:=k20.aN avE (by omega) (by simp; omega)
  have VY:=akq.keep k20 (fun d hd hm=>by simp at hm; have:=(akq.blk d hd).1; omega)
  generalize M19.put (M4.next + 1) (.map (mapD 0 (es++[x])) (es++[x]).length)=M20 at *
  rw[aG,aF,aj (i:=0 + 1) aj9 rfl,dF (n:=5) avD rfl,lv (x:=.agg (aB.cells x)) (size:=5) rfl (tQ x) rfl,ku]
  refine yU (E:=aB) (a:=x) VY (by omega) (by decide) (by omega) (by omega) fun v2 M21 o21 k21 n21 _=>?_
  have avv:=k21.aN aj9 (by omega) (fun hm=>by have:=(VY.blk _ hm).1; omega)
  have aw3:=k21.aN awU (by omega) (fun hm=>by have:=(VY.blk _ hm).1; omega)
  rw[aG,aF,rJ [.ptr s 0,v2] avv (by simp) (aM.cells o21.fu) (aM.one o21.fu) rfl]
  have k22:ag [M4.next] M21 (M21.put M4.next (.row [.ptr s 0,v2] false TS 0)):=(ag.refl _ _).put _ (.inr (by simp))
  rw[add1 (by omega)]
  have abZ:ag [M4.next + 1] M17 M20:=(Hy.mono (by simp)).trans k20
  have adp:∀ d∈aD dv,M4.next + 2≤d:=fun d hd=>(VY.blk d hd).1
  have ay5:ag [] M M20:=agE.aY abZ (fun d hd=>.inl (by simp at hd; omega))
  have azR:ag [] M M21:=ay5.aY k21 (fun d hd=>.inl (by have:=adp d hd; omega))
  have axV:=azR.aY k22 (fun d hd=>.inl (by simp at hd; omega))
  have q20:ag [r,M4.next,M4.next + 1] M4 M20:=aq2.trans (abZ.mono (by simp))
  have q21:ag [r,M4.next,M4.next + 1] M4 M21:=q20.aY k21 (fun d hd=>.inl (by have:=adp d hd; omega))
  have q22:ag [r,M4.next,M4.next + 1] M4 (M21.put M4.next (.row [.ptr s 0,v2] false TS 0)):=q21.trans (k22.mono (by simp))
  refine hnext _ _ _ (by omega) ⟨i + 1,bs8,f8,es++[x],v2,rfl,rfl,by omega,aAk,by simp[hel], ?_,hdec,aR _, ?_,k22.aN aw3 (by omega) (by simp),fun y hy=>?_,axV,q22,by rw[ny]; omega⟩
  ·exact((aqs.keep abZ (by simp; omega) (fun d hd h=>by simp at hd; omega)).keep k21 (fun hm=>by have:=adp _ hm; omega) (fun d hd h=>by have:=adp d hd; omega)).keep k22 (by simp; omega) (fun d hd h=>by simp at hd; omega)
  ·exact o21.keep k22 (fun d hd hm=>by simp at hm; have:=(o21.blk d hd).1; omega)
  ·rcases List.mem_append.1 hy with hy | hy
   ·exact hok y hy
   ·rw[List.mem_singleton] at hy; subst hy; exact axT
 -- the end
 have hie:i=n:=by
  have:¬ i<n:=of_decide_eq_false hge
  omega
 subst hie
 rw[Nat.sub_self,Ig] at hdec
 rw[hdec] at hNo hSo
 dsimp only at hNo hSo
 refine hend hR ?_
 rw[dY,show((if f || !bs.isEmpty then(14:Int) else 0) != 0)=(f || !bs.isEmpty) by cases(f || !bs.isEmpty) <;> rfl]
 have hst:oC TS T (fun d=>M.next≤d∧d≠M4.next) M8 M4.next ps es:=by
  refine⟨by omega,⟨s,dv,hts,⟨_,hset.keep k48 (by simp; omega) (fun d hd h=>by simp at hd; omega),fun d hd=>?_⟩,hov.fu, ?_,fun d hd=>?_⟩,fun h=>h.2 rfl⟩
  ·exact⟨by omega,by omega⟩
  ·exact⟨by omega,by omega⟩
  ·have:=(hov.blk d hd).1
   exact⟨by omega,by omega⟩
 refine aoz (P:=fun M'=>ag [] M8 M') (p:=!(zy ps es == b)) (ag.refl _ _) (fun _ K hK=>?_) fun M9 k9=>?_
 ·refine hen hst hbd hok (by omega) fun r1 M' o1 _ k'=>?_
  have sv:Sl BY M' v b:=aM.keep hv (k08.trans k') (by simp)
  refine heq (Own.sl o1) sv ?_
  rw[bR]
  exact hK M' k'
 refine aH (fun hc=>?_) (fun hc=>?_)
 ·rw[if_pos hc] at hNo
  exact hNo rfl M9 (k08.trans k9)
 ·rw[if_neg (by rw[hc]; decide)] at hSo
  exact hSo ps es rfl hok hbd M4.next M9 (by omega) (hst.keep k9 (by simp) (by simp)) (k08.trans k9)
theorem uq {most:Nat} {s:List UInt8} (h:s.length≤most) (h2:s.length<2 ^ 64) (r:List UInt8) : dR most (gV s++r) false=(s,r,false):=by
 unfold dR gV
 rw[List.append_assoc,kC h h2]
 dsimp only
 rw[if_neg (by simp),List.take_left,List.drop_left]
theorem zo {v:Nat} (h:v<2 ^ 64) (r:List UInt8) : iP (bi v++r) false=(v,r,false):=by
 unfold iP
 exact kC (by omega) h r
structure ahM (ps:List Pt) (x:aP) : Prop where
 d0:0≤x.1.1
 d1:x.1.1<16
 n:x.1.2<2 ^ 64
 c:x.2.1.length≤64
 f:x.2.2.1.length≤64
 v:x.2.2.2.length≤512
 c0:x.2.1≠[]
 f0:x.2.2.1≠[]
 has:fw ps x.1=true
theorem UK {ps:List Pt} : ∀ (l acc:List aP),(∀ x∈l,ahM ps x)→zB (acc++l)→((acc++l).Pairwise fun x y=>x.1≠y.1)→Ig ps l.length (l.flatMap iL) false acc=some ([],false,acc++l)
 | [],acc,_,_,_=>by simp[Ig]
 | x :: l,acc,hg,hu,ho=>by
   have g:=hg x (by simp)
   obtain⟨⟨d,n⟩,c,f,v⟩:=x
   obtain⟨g1,g2,g3,g4,g5,g6,g7,g8,g9⟩:=g
   dsimp only at g1 g2 g3 g4 g5 g6 g7 g8 g9
   obtain⟨dn,rfl⟩:=Int.eq_ofNat_of_zero_le g1
   rw[List.length_cons,List.flatMap_cons,Ig]
   have e:iL (((dn:Int),n),c,f,v)++l.flatMap iL=bi dn++(bi n++(gV c++(gV f++(gV v++l.flatMap iL)))):=by
    simp[iL]
   rw[e,kC (by omega) (by omega)]
   dsimp only
   rw[zo g3]
   dsimp only
   rw[uq g4 (by omega)]
   dsimp only
   rw[uq g5 (by omega)]
   dsimp only
   rw[uq g6 (by omega)]
   dsimp only
   have hp:=List.pairwise_append.1 ho
   have hm:met acc ((dn:Int),n)=false:=by
    unfold met
    rw[List.any_eq_false]
    intro y hy h
    exact hp.2.2 y hy (((dn:Int),n),c,f,v) (by simp) (of_decide_eq_true h)
   have hl:zA acc (((dn:Int),n),c,f,v)=false:=by
    unfold zA
    cases hh:acc.getLast? with
    | none=>rfl
    | some y =>
      have hy:y∈acc:=List.mem_of_getLast? hh
      dsimp only
      rw[Bool.not_eq_false']
      cases hlt:jc y (((dn:Int),n),c,f,v) with
      | true=>rfl
      | false =>
        have h2:=(List.pairwise_append.1 hu).2.2 y hy (((dn:Int),n),c,f,v) (by simp)
        have hk:=aaZ hlt h2
        exact absurd ((of_decide_eq_true hk).2.2) (hp.2.2 y hy _ (by simp))
   rw[if_neg (by rw[g9,hm]; simp[g7,g8]),if_neg (by rw[hl]; decide)]
   have h3:acc++(((dn:Int),n),c,f,v) :: l=(acc++[(((dn:Int),n),c,f,v)])++l:=by simp
   rw[h3] at hu ho ⊢
   exact UK l _ (fun y hy=>hg y (by simp[hy])) hu ho
theorem afo (v:Nat) : 1≤(bi v).length:=by
 rw[bi]
 split <;> simp
theorem aiY (x:aP) : 1≤(iL x).length:=by
 simp only[iL,List.length_append]
 have:=afo x.1.1.toNat
 omega
theorem XP:∀ (es:List aP),es.length≤(es.flatMap iL).length
 | []=>by simp
 | x :: es=>by
   rw[List.flatMap_cons,List.length_append,List.length_cons]
   have:=aiY x
   have:=XP es
   omega
theorem aev {ps:List Pt} {es:List aP} (hl:ps.length=16) (hw:∀ p∈ps,jP p) (he:(encS ps).length<2 ^ 63) (hg:∀ x∈es,ahM ps x) (hu:zB es) (ho:es.Pairwise fun x y=>x.1≠y.1) (hb:es.length<2 ^ 63) : DV (zy ps es)=some (ps,es):=by
 have h0:zy ps es=gV (encS ps)++(bi es.length++es.flatMap iL):=by simp[zy]
 have h1:(encS ps).length≤(zy ps es).length:=by
  rw[h0]; simp only[gV,List.length_append]; omega
 have h2:es.length≤(zy ps es).length:=by
  rw[h0]
  have:=XP es
  simp only[List.length_append]; omega
 unfold DV
 have r1:dR (zy ps es).length (zy ps es) false=(encS ps,bi es.length++es.flatMap iL,false):=by
  conv=>lhs; arg 2; rw[h0]
  exact uq h1 (by omega) _
 rw[r1]
 dsimp only
 rw[aam hl hw]
 dsimp only
 rw[kC h2 (by omega)]
 dsimp only
 rw[UK es [] hg (by simpa using hu) (by simpa using ho)]
 simp
theorem afm {f g:Prop→Prop} {k:Prop} : uO (Bo false) true f g k=g k:=rfl
section
variable {TS T:Nat} {M0 M M' : RM} {os:List Obj} {t:Nat} {B B' : Nat→Prop} {s s' : mR}
theorem qj.ae6 {c:au} (hA:JK TS T c) (F:qj TS T M0 M ((t,B,s) :: os)) {k:Nat} (hk:SI k s.1) (hk2:k + 65≤4000) (hl:s.2.length≤50000) {e:pG} {kv:AV} {ks:List aC} (hkv:Sl dM M kv ks) (ho:t ∉ aD kv) {Q:ak}
  (hbad:dX e ks=false→∀ M',qj TS T M0 M' ((t,B,s) :: os)→Q (.tup [Bo false,N .i64 1]) M')
  (hok:dX e ks=true→∀ M' B',qj TS T M0 M' ((t,B',(qc s.1 e ks,jb s.1 s.2 e ks)) :: os)→Q (.tup [Bo (!ko (qc s.1 e ks) s.1 || !decide (jb s.1 s.2 e ks=s.2)),N .i64 0]) M') : c [.ptr t 0,.agg (gH e kv)] M Q :=
 hA F.h0.st hk hk2 hl hkv ho (fun hg M' k'=>hbad hg M' (F.jk k')) fun hg M' h k'=>hok hg M' _ (F.head (SH.of h) (fun d hd=>hd.1) (k'.mono (bs:=[t]) (cs:=[t,t]) (by simp)) (.inl rfl))
end
theorem wo.apz {l:List Ev} {ps:List Pt} {es:List aP} (h:wo l ps es) : (encS ps).length≤650000:=by
 have hd:=h.doc
 have hl:=h.am3
 have hu:=FR (u:=[]) (v:=dO l)
 have hpl:(parts ps).length≤16:=uh ps 16
 have hb:∀ p∈parts ps,(iB p).length≤30 + 10 * 3900:=fun p hp=>by
  rw[hd.parts] at hp
  have:=xe hd.good _ (Nat.le_refl _) p hp
  have:=Uw (n:=(sN [] (dO l)).length) (by simp at hu; omega) this
  simp at hu
  omega
 have:=Wd hb
 have u10:=dJ (v:=(parts ps).length) (by omega)
 have:(parts ps).length * (30 + 10 * 3900)≤16 * (30 + 10 * 3900):=Nat.mul_le_mul_right _ hpl
 rw[encS,wQ,List.length_append]
 omega
theorem wo.ayc {l:List Ev} {ps:List Pt} {es:List aP} (h:wo l ps es) : ∀ x∈es,ahM ps x:=fun x hx=>by
 obtain⟨e,he,ho,rfl,_⟩:=(h.ch.rW x).1 hx
 have hg:=h.good e he
 have hg2:=hg
 simp only[dX,Bool.and_eq_true,names,decide_eq_true_eq] at hg2
 obtain⟨⟨⟨⟨h1,⟨⟨h2,h3⟩,h4⟩,h5⟩,_⟩,_⟩,h6⟩:=hg2
 have hd:=vS h1
 simp only[Et,Bool.or_eq_true,Bool.and_eq_true,decide_eq_true_eq] at h6
 refine⟨hd.1,hd.2.1,by show e.1.1.2<_; omega,h3,h4,h5,fun e0=>?_,fun e0=>?_,(h.ch.sets _).2 (rX.2 ⟨e,he,.inl rfl⟩)⟩
 ·have e0:e.1.2.2.1=[]:=e0
  rw[e0] at h2; simp at h2
 ·have e0:e.1.2.2.2.1=[]:=e0
  rcases h6 with⟨_,h6⟩ | ⟨h6,_⟩
  ·exact h6 e0
  ·rw[ho] at h6; omega
theorem wo.dec {l:List Ev} {ps:List Pt} {es:List aP} (h:wo l ps es) : DV (zy ps es)=some (ps,es) :=
 aev h.si.len h.si.wf (by have:=h.apz; omega) h.ayc h.ch.up h.ch.one (by have:=h.few; omega)
theorem Ch.again {l:List Ev} {s:mR} {x:Ev} (h:Ch l s) {k:Nat} (hk:SI k s.1) (hk2:k + 65<4096) (hx:x∈l) (hg:dX x.1 x.2=true) :
  Ch l (qc s.1 x.1 x.2,jb s.1 s.2 x.1 x.2)∧ko (qc s.1 x.1 x.2) s.1=true∧jb s.1 s.2 x.1 x.2=s.2:=by
 have hd:x.1.1∈dO l:=rX.2 ⟨x,hx,.inl rfl⟩
 have awM:fw s.1 x.1.1=true:=(h.sets _).2 hd
 have he:jb s.1 s.2 x.1 x.2=s.2:=by
  unfold jb
  rw[awM]
  simp only[Bool.not_true,Bool.and_false,Bool.false_eq_true,if_false]
  rw[List.filter_eq_self]
  intro y hy
  obtain⟨e,he,_,rfl,h3⟩:=(h.rW y).1 hy
  have:=h3 x hx
  simp only[Bool.not_eq_true',decide_eq_false_iff_not]
  exact this
 have hm:=PP hk hk2 hg
 have hsub:∀ d,fw (qc s.1 x.1 x.2) d=true↔fw s.1 d=true:=fun d=>by
  rw[hm]
  constructor
  ·rintro(h1 | h1)
   ·exact h1
   ·rw[h.sets]
    refine rX.2 ⟨x,hx, ?_⟩
    rcases List.mem_cons.1 h1 with h1 | h1
    ·exact .inl h1
    ·exact .inr h1
  ·exact .inl
 have hsi:SI (k + (x.1.1 :: x.2).length) (qc s.1 x.1 x.2):=zM hk
 refine⟨⟨fun y=>?_,fun d=>?_, ?_, ?_,⟨_,hsi⟩⟩, ?_,he⟩
 ·rw[he]; exact h.rW y
 ·rw[hsub]; exact h.sets d
 ·rw[he]; exact h.up
 ·rw[he]; exact h.one
 ·exact(EY hsi.wf hk.wf).2 fun d hd=>(hsub d).1 hd
def acH (B:Base) (c:au) : Prop:=∀ {M:RM} {v:AV} {l:List Ev} {n:Int} {Q:ak},M.base=B→gD lY M v l (fun d=>d<M.next)→(∀ M',ag [] M M'→arL M' v l)→(∀ M',Q (Bo true) M')→c [v,N .i64 n] M Q
theorem Uc {B:Base} {TS T TE TB:Nat} {ca co cn cA cG cg cs cE cD ci cq cc:au} (ha:AwakeC B ca) (ho:af6 TE co) (hn:Q8 TS T cn) (hA:JK TS T cA) (hG:wK cG) (hg:wK cg) (hs:Rc TS T cs) (hE:zu TS T TB cE) (hD:Y3 TS T cD) (hi:IsC TS T ci) (hq:SN TS T cq) (hc:Sa TS T cc) :
  acH B fun args M Q=>∃ a0 a1,args=[a0,a1]∧EG ca co cn cA cG cg cs cE cD ci cq cc a0 a1 M Q:=by
 intro M v l n Q hM hv hcut hQ
 refine⟨_,_,rfl, ?_⟩
 unfold EG
 simp only[gT,gU,fG,ig,dG]
 refine ha hM ?_
 rw[bR,Bool.not_true,bI,hv.len,eF]
 refine aH (fun _=>hQ _) (fun hlen=>?_)
 have hlen:¬ (l.length:Int) > 60:=of_decide_eq_false hlen
 refine ho hv (by omega) fun vw M1 hw1 k1=>?_
 have n1:=k1.next
 refine hn fun ts M2 hts st2 k2=>?_
 have n2:=k2.next
 have F2:qj TS T M1 M2 [(ts,fun d=>M1.next≤d∧d<ts,nI (nC (l.take 0)))]:=(qj.nil M1).cons k2 ⟨st2,fun d hd=>by have:=st2.lt; omega⟩ hts fun d hd=>hd.1
 refine aK (fun z ys M3=>∃ (i:Nat) (Bs:Nat→Prop),z=l.length - i∧ys=[N .i64 (i:Int)]∧i≤l.length∧qj TS T M1 M3 [(ts,Bs,nI (nC (l.take i)))]) _
  ⟨0,_,rfl,rfl,Nat.zero_le _,F2⟩ ?_
 rintro next z ys M3 hnext ⟨i,Bs,rfl,rfl,hil,F3⟩
 dsimp only[aa]
 have k13:=k1.trans F3.k
 have hv3:gD lY M3 v l (fun d=>d<M.next):=hv.keep k13 (by simp)
 rw[hv3.len,fM]
 refine aH (fun hlt=>?_) (fun hge=>?_)
 ·have hlt:i<l.length:=of_decide_eq_true hlt
  have hol:=Bl l i
  have sI:=W9 (nC (l.take i))
  obtain⟨b,o,kv,hidx,hl7,_,hkv,hkb⟩:=yY hv3 hlt
  rw[hidx,hl7]
  have hlow:=(F3.low _ (List.mem_singleton.2 rfl)).1
  dsimp only at hlow
  have SY:∀ {M' : RM},ag [] M3 M'→Sl dM M' kv l[i].2:=fun k=>aM.keep hkv k (by simp)
  refine F3.ae6 hA sI.si (by omega) (by have:=sI.few; omega) hkv (fun h=>by have:=hkb _ h; omega) (fun hb M4 F4=>?_) (fun hgd M4 B4 F4=>?_)
  ·have hv4:gD lY M4 v l (fun d=>d<M.next):=hv.keep (k1.trans F4.k) (by simp)
   obtain⟨b4,o4,kv4,Ec,WH,_,Uk,_⟩:=yY hv4 hlt
   rw[kN,kP,bU,Ec,WH]
   refine hG Uk fun M5 k5=>?_
   rw[hb]
   refine⟨_,_,rfl,rfl, ?_⟩
   have F5:=F4.jk k5
   have hv5:gD lY M5 v l (fun d=>d<M.next):=hv.keep (k1.trans F5.k) (by simp)
   obtain⟨b5,o5,kv5,rA,aed,_,ajl,_⟩:=yY hv5 hlt
   rw[show((((1:Int) == 0) == false) != true)=false from rfl]
   dsimp only
   rw[aT,rA,aed]
   refine hg ajl fun M6 k6=>?_
   rw[hb,bU]
   refine⟨_,_,rfl,rfl, ?_⟩
   have F6:=F5.jk k6
   rw[show((false == ((1:Int) == 0)) != true)=false from rfl]
   dsimp only
   rw[bz,aT,dY,show((1:Int) != 0)=true from rfl]
   dsimp only
   rw[bK,dY,show((1:Int) != 1)=false from rfl]
   dsimp only
   rw[aT,bO]
   dsimp only
   rw[bz,bI,bU,show((1:Int) == 0)=false from rfl,iH]
   dsimp only
   rw[iH]
   dsimp only
   rw[iH]
   dsimp only
   rw[iH]
   dsimp only
   rw[bM]
   dsimp only
   rw[afm,iH]
   dsimp only
   rw[bz,bI,add1 (by omega)]
   refine hnext _ _ _ (by omega) ⟨i + 1,Bs,rfl,rfl,by omega, ?_⟩
   have e:nC (l.take (i + 1))=nC (l.take i):=by
    rw[DN hlt,mW,hb]
    simp
   rw[e]
   exact F6
  ·have hv4:gD lY M4 v l (fun d=>d<M.next):=hv.keep (k1.trans F4.k) (by simp)
   obtain⟨b4,o4,kv4,Ec,WH,_,Uk,_⟩:=yY hv4 hlt
   rw[kN,kP,bU,Ec,WH]
   refine hG Uk fun M5 k5=>?_
   rw[hgd]
   refine⟨_,_,rfl,rfl, ?_⟩
   have F5:=F4.jk k5
   have hv5:gD lY M5 v l (fun d=>d<M.next):=hv.keep (k1.trans F5.k) (by simp)
   obtain⟨b5,o5,kv5,rA,aed,_,ajl,_⟩:=yY hv5 hlt
   rw[show((((0:Int) == 0) == true) != true)=false from rfl]
   dsimp only
   rw[aT,rA,aed]
   refine hg ajl fun M6 k6=>?_
   rw[hgd,bU]
   refine⟨_,_,rfl,rfl, ?_⟩
   have F6:=F5.jk k6
   rw[show((true == ((0:Int) == 0)) != true)=false from rfl]
   dsimp only
   rw[bz,aT,dY,show((0:Int) != 0)=false from rfl]
   dsimp only
   rw[bM]
   dsimp only
   rw[aT,bz]
   dsimp only
   rw[bz,bI,bU,show((0:Int) == 0)=true from rfl,ic,add1 (by omega)]
   have k6:=k1.trans F6.k
   obtain⟨w1,e1,azp⟩:=hcut M6 k6 (i + 1) (by omega)
   obtain⟨w2,e2,ayZ⟩:=hcut M6 k6 i (by omega)
   rw[e1,cB]
   dsimp only
   rw[ic]
   dsimp only
   rw[ic]
   dsimp only
   rw[ic,e2,cB]
   dsimp only
   rw[bK]
   refine ho azp (by rw[List.length_take]; omega) fun v7 M7 h7 k7=>?_
   dsimp only
   rw[afy,cB]
   refine⟨rfl, ?_⟩
   rw[ic,h7.len]
   have avR:gD lY M7 w2 (l.take i) (fun d=>d<M7.next):=(ayZ.keep k7 (by simp)).mono (fun d hd=>Nat.lt_of_lt_of_le hd k7.next)
   refine ho avR (by rw[List.length_take]; omega) fun v8 M8 h8 k8=>?_
   rw[h8.len,add1 (by omega),dY]
   dsimp only
   rw[bO]
   have F8:=(F6.jk k7).jk k8
   refine aH (fun _=>hQ _) (fun hc=>?_)
   rw[add1 (by omega)]
   refine hnext _ _ _ (by omega) ⟨i + 1,B4,rfl,rfl,by omega, ?_⟩
   have e:nC (l.take (i + 1))=nC (l.take i)++[l[i]]:=by
    have hl1:(nC (l.take (i + 1))).length=(nC (l.take i)).length + 1:=by
     simp only[bne_eq_false_iff_eq] at hc
     omega
    rw[DN hlt] at hl1 ⊢
    unfold mW at hl1 ⊢
    split
    ·rfl
    ·rename_i hh
     rw[if_neg hh] at hl1
     omega
   rw[e,Km,tJ,if_pos hgd]
   exact F8
 have hie:i=l.length:=by
  have:¬ i<l.length:=of_decide_eq_false hge
  omega
 subst hie
 rw[List.take_length] at F3
 have hwl:(nC l).length≤60:=by have:=ZN l; omega
 have hwg:=Vu l
 have hwo:=ahS l
 generalize nC l=wl at *
 clear hnext hge hil
 have hw3:∀ {M' : RM},ag [] M1 M'→gD lY M' vw wl (fun d=>d<M'.next):=fun k=>(hw1.keep k (by simp)).mono (fun d hd=>Nat.lt_of_lt_of_le hd k.next)
 obtain⟨m,hm1,hm2⟩:=ahJ n
 refine F3.state hs (hw3 F3.k) hwl hm2 hm1 fun tt M4 Bt F4=>?_
 refine F4.state hs (hw3 F4.k) hwl hm2 hm1 fun tu M5 Bu F5=>?_
 have chS:=Ch.run hwg hwo hwl
 have chT:=Ch.aaE (m:=m) (back:=false) hwg hwo hwl
 have chU:=Ch.aaE (m:=m) (back:=true) hwg hwo hwl
 generalize nI wl=ss at *
 generalize nI (nV wl m false)=st at *
 generalize nI (nV wl m true)=su at *
 have hdl:(dO wl).length≤3900:=by have:=Od hwg; omega
 have si:∀ {s:mR},Ch wl s→SI (dO wl).length s.1:=fun h=>h.siD (fun d hd=>hd)
 have ln:∀ {s:mR},Ch wl s→s.2.length≤60:=fun h=>Nat.le_trans (h.len (m:=wl) fun e he=>he) hwl
 have F6:=F5.perm (List.Perm.swap _ _ _)
 refine aK (fun z ys M7=>∃ (i:Nat) (B7:Nat→Prop) (s7:mR),z=wl.length - i∧ys=[N .i64 (i:Int)]∧i≤wl.length∧Ch wl s7∧qj TS T M1 M7 ((tt,B7,s7) :: [(tu,Bu,su),(ts,Bs,ss)])) _
  ⟨0,Bt,st,rfl,rfl,Nat.zero_le _,chT,F6⟩ ?_
 rintro next z ys M7 hnext ⟨i,B7,s7,rfl,rfl,hil,ch7,F7⟩
 dsimp only[aa]
 have hw7:=hw3 F7.k
 rw[hw7.len,fM]
 refine aH (fun hlt=>?_) (fun hge=>?_)
 ·have hlt:i<wl.length:=of_decide_eq_true hlt
  obtain⟨b,o,kv,hidx,hl7,_,hkv,hkb⟩:=yY (hw1.keep F7.k (by simp)) hlt
  rw[hidx,hl7]
  have hlow:=(F7.low (tt,B7,s7) (by simp)).1
  dsimp only at hlow
  have hgi:=hwg _ (List.getElem_mem hlt)
  refine F7.ae6 hA (si ch7) (by omega) (by have:=ln ch7; omega) hkv (fun h=>by have:=hkb _ h; omega) (fun hb=>by rw[hgi] at hb; cases hb) (fun _ M8 B8 F8=>?_)
  obtain⟨c1,c2,c3⟩:=ch7.again (si ch7) (by omega) (List.getElem_mem hlt) hgi
  rw[c2,c3,decide_eq_true rfl,kN,kP]
  simp only[Bool.not_true,Bool.or_self]
  rw[aT,dY,show((0:Int) != 0)=false from rfl]
  dsimp only
  rw[bz,bI,add1 (by omega)]
  exact hnext _ _ _ (by omega) ⟨i + 1,B8,_,rfl,rfl,by omega,c1,F8⟩
 clear hnext hge hil
 have isS:∀ {s:mR},Ch wl s→wo wl s.1 s.2:=fun h=>⟨h,hwo,hwg,hwl⟩
 have shS:SH TS T M7 ts Bs ss:=F7.sh (ts,Bs,ss) (by simp)
 have shT:SH TS T M7 tt B7 s7:=F7.sh (tt,B7,s7) (by simp)
 have shU:SH TS T M7 tu Bu su:=F7.sh (tu,Bu,su) (by simp)
 have lS:=ln chS
 have lT:=ln ch7
 have iS:=si chS
 refine hE shS.st (fun p hp=>(iS.wf p hp).bd) (isS chS).ok (by omega) fun v8 M8 o8 e8 k8=>?_
 have axd:(zy ss.1 ss.2).length≤1600000:=by
  have t0:=(isS chS).apz
  have t1:=lU (s:=encS ss.1) (by omega)
  have t2:=dJ (v:=ss.2.length) (by omega)
  have t3:=Dv (isS chS).ok ss.2.length
  rw[List.take_length] at t3
  simp only[zy,List.length_append]
  omega
 have hdec:=(isS chS).dec
 refine hD (Own.sl o8) axd (fun hn=>by rw[hdec] at hn; cases hn) fun ps9 es9 h9 _ _ td M9 htd st9 k9=>?_
 rw[hdec] at h9
 cases h9
 rw[kN,kP,bU,show((0:Int) == 0)=true from rfl,bK]
 have k79:=k8.trans k9
 have F9:=F7.jk k79
 refine hi (shS.jk k79).st (hw3 F9.k) (fun d hd=>hd) (isS chS) fun M10 k10=>?_
 have F10:=F9.jk k10
 have q10:=k79.trans k10
 dsimp only
 rw[bO,bK]
 refine hi (shT.jk q10).st (hw3 F10.k) (fun d hd=>hd) (isS ch7) fun M11 k11=>?_
 have F11:=F10.jk k11
 have q11:=q10.trans k11
 dsimp only
 rw[bO,bK]
 refine hi (shU.jk q11).st (hw3 F11.k) (fun d hd=>hd) (isS chU) fun M12 k12=>?_
 have F12:=F11.jk k12
 have q12:=q11.trans k12
 dsimp only
 rw[bO,bK]
 refine hi (st9.keep (k10.trans (k11.trans k12)) (by simp) (by simp)) (hw3 F12.k) (fun d hd=>hd) (isS chS) fun M13 k13=>?_
 have F13:=F12.jk k13
 have q13:=q12.trans k13
 dsimp only
 rw[bO,bK]
 obtain⟨a1,a2,a3⟩:=chS.eq ch7
 obtain⟨b1,b2,b3⟩:=ch7.eq chU
 refine hq (shS.jk q13).st (shT.jk q13).st iS (si ch7) (by omega) (by omega) (by omega) fun M14 k14=>?_
 have F14:=F13.jk k14
 have q14:=q13.trans k14
 rw[decide_eq_true a1,a2,a3]
 simp only[Bool.and_self]
 rw[bO,bK]
 refine hq (shT.jk q14).st (shU.jk q14).st (si ch7) (si chU) (by omega) (by omega) (by omega) fun M15 k15=>?_
 have F15:=F14.jk k15
 have q15:=q14.trans k15
 rw[decide_eq_true b1,b2,b3]
 simp only[Bool.and_self]
 rw[bO,bK]
 refine hc (shS.jk q15).st iS (by omega) (by omega) fun tc M16 htc ayp k16=>?_
 have F16:=F15.jk k16
 refine hi ayp (hw3 F16.k) (fun d hd=>hd) (isS chS) fun M17 k17=>?_
 dsimp only
 rw[bO]
 exact hQ _
end Go.Ab.Crw
