/- Part 6 of the ground of the proofs of this seat (texts C14 to BT5). By an AI agent. -/
import Derived.Test.YtpdpipgmdhkomaaBlp5
set_option maxRecDepth 10000
set_option linter.unusedVariables false
set_option linter.unusedSimpArgs false
namespace Go.Ab.Bl
open Go Go.Ab Go.Ab.aQ Go.Ab.Sha
abbrev BV := { v:AV // v.cells=[v]∧oneCell v=true }
abbrev Qp:=Str × BV × Str
def gH:Enc Qp:=⟨2,fun t=>[St t.1,t.2.1.1],fun _=>rfl,fun t=>by simp[t.2.1.2.2]; rfl⟩
def Xx (t:Qp) : bL:=(t.1,t.2.2)
def pz (M:RM) (base T:Nat) (v:AV) (w:List bL) (S:Nat→Prop) : Prop:=∃ R:List Qp,Ow gH M base T v R∧w=R.map Xx∧∀ t∈R,Bs M t.2.1.1 t.2.2∧∀ d∈ah t.2.1.1,S d
section
variable {M M' : RM} {base T:Nat} {v:AV} {w:List bL} {S S' : Nat→Prop} {ks:List Nat}
theorem pz.low {b' : Nat} (h:pz M base T v w S) (hb:b'≤base) : pz M b' T v w S:=let ⟨R,h1,h2,h3⟩:=h; ⟨R,Own.mono h1 hb,h2,h3⟩
theorem pz.keep (h:pz M base T v w S) (hk:ae ks M M') (h1:∀ x∈ah v,x ∉ ks) (h2:∀ x∈ks,¬ S x) : pz M' base T v w S:=by
 obtain⟨R,g1,g2,g3⟩:=h
 exact⟨R,Own.keep g1 hk h1,g2,fun t ht=>⟨(g3 t ht).1.keep hk (fun x hx hm=>h2 x hm ((g3 t ht).2 x hx)),(g3 t ht).2⟩⟩
theorem pz.nil:pz M base T bA [] S:=⟨[],.nil,rfl,by simp⟩
theorem pz.blk (h:pz M base T v w S) : ∀ x∈ah v,base≤x∧x<M.next:=let ⟨R,h1,_,_⟩:=h; Own.blk h1
theorem PS:∀ (R:List Qp),(∀ t∈R,Bs M t.2.1.1 t.2.2∧∀ d∈ah t.2.1.1,S d)→eP uG M S (gH.row R) (R.map Xx)
 | [],_=>.nil
 | t :: R,h=>by
   rw[Enc.iw,List.map_cons]
   exact .cons ⟨t.2.1.1,rfl,(h t (List.mem_cons_self ..)).1,(h t (List.mem_cons_self ..)).2⟩ (PS R fun x hx=>h x (List.mem_cons_of_mem _ hx))
theorem pz.xO (h:pz M base T v w S) : fw uG M v w (fun x=>S x∨x∈ah v):=by
 obtain⟨R,h1,rfl,h3⟩:=h
 have:=Own.gJ h1
 refine⟨gH.row R,by rw[List.length_map]; exact this,fun b hb=>.inr hb,(PS R h3).mono fun x hx=>.inl hx⟩
end
theorem Ql {α:Type} {p:α→Bool} : ∀ {l:List α} {i:Nat},i≤l.length→(∀ k (hk:k<l.length),k<i→p l[k]=true)→(∀ (hi:i<l.length),p l[i]=false)→(l.takeWhile p).length=i
 | [],i,h,_,_=>by simp at h; subst h; rfl
 | x :: l,0,_,_,h2=>by
   have:=h2 (by simp)
   simp only[List.getElem_cons_zero] at this
   simp[this]
 | x :: l,i + 1,h,h1,h2=>by
   have hx:=h1 0 (by simp) (by omega)
   simp only[List.getElem_cons_zero] at hx
   have:=Ql (p:=p) (l:=l) (i:=i) (by simpa using h) (fun k hk hki=>by have:=h1 (k + 1) (by simp; omega) (by omega); simpa using this) (fun hi=>by have:=h2 (by simp; omega); simpa using this)
   rw[List.takeWhile_cons_of_pos hx,List.length_cons,this]
def Nv (w:List bL) (n:Str) : Nat:=(w.takeWhile fun x=>Op.bytesLess x.1 n).length
def qQ (w:List bL) (n b:Str) : List bL:=w.take (Nv w n)++(n,b) :: w.drop (Nv w n)
def oN (w:List bL) (b:Str) : List bL:=if (fW w (bM b)).isSome then w else qQ w (bM b) b
def EP (T:Nat) (c:au) : Prop:=∀ {M:RM} {base:Nat} {v bv:AV} {w:List bL} {S:Nat→Prop} {b:Str} {Q:ak},pz M base T v w S→base≤M.next→w.length≤1000000→Bs M bv b→b.length≤1000000→(∀ x,S x→x<M.next) →
 (∀ v' M' S',ae [] M M'→pz M' base T v' (oN w b) S'→(∀ x,S' x→(S x∨M.next≤x)∧x<M'.next)→(∀ x∈ah v',x∈ah v∨M.next≤x)→Q v' M')→c [v,bv] M Q
theorem O0 {T T8:Nat} {cn cf:au} (hn:rQ cn) (hf:uI cf) : EP T fun args M Q=>∃ a0 a1,args=[a0,a1]∧zB cn T8 T cf a0 a1 M Q:=by
 intro M base v bv w S b Q hw hbase hwl hb hbl hSl hQ
 refine⟨_,_,rfl, ?_⟩
 unfold zB
 simp only[xU,vT]
 refine hn hb (by omega) fun M1 k1=>?_
 rw[BF,aL]
 have k2:ae [] M1 (M1.push (.row [] false T8 0)):=(ae.refl _ _).push _
 have o2:Ow BY (M1.push (.row [] false T8 0)) M1.next T8 (.slc M1.next 0 0 (.ex 0)) []:=Ow.lit BY M1
 have x2:(M1.push (.row [] false T8 0)).next=M1.next + 1:=rfl
 generalize M1.push (.row [] false T8 0)=M2 at *
 have k12:=k1.trans k2
 refine iE (E:=BY) o2 (by omega) (by decide) (hb.keep k12 (by simp)).sl (by simp; omega) (by simp; omega) fun u M3 o3 k3 hn3 hu3=>?_
 rw[List.nil_append] at o3
 have k03:ae [] M M3:=k12.bu k3 (fun x hx=>.inl (by simp[ah] at hx; have:=k1.next; omega))
 have hub:∀ x∈ah u,M1.next≤x∧x<M3.next:=Own.blk o3
 have huc:=Own.cells o3
 have hu1:=Own.one o3
 have hn1:=k1.next
 rw[jr]
 refine⟨[St (bM b),u], ?_, ?_⟩
 ·have hkn:=(Own.gJ o3).known
  simp[lm,hkn,huc]
  exact⟨⟨rfl,rfl⟩,Nat.le_refl 1,rfl⟩
 refine wV (K:=fun t Gf=>_) (z:=[St [],.sc (.slice none 0 0)]) (cs:=[St (bM b),u]) 2 rfl rfl (by simp[hu1]; rfl) fun M4 k4 n4 x4=>?_
 have k04:=k03.trans k4
 have hn4:=k4.next
 rw[bE,Nat.zero_add,aF n4 rfl]
 have hw4:=hw.keep k04 (by simp) (by simp)
 obtain⟨t,ht⟩ : ∃ t:Qp,t=(bM b,⟨u,huc,hu1⟩,b):=⟨_,rfl⟩
 have htc:gH.cells t=[St (bM b),u]:=by rw[ht]; rfl
 have htB:Xx t=(bM b,b):=by rw[ht]; rfl
 refine hf hw4.xO (by omega) (fun h0=>?_) (fun i hi _ h1=>?_)
 ·rw[fV,show decide ((-1:Int) ≥ 0)=false by decide,dH]
  have hput:oN w b=qQ w (bM b) b:=by unfold oN; rw[h0]; rfl
  rw[hput] at hQ
  obtain⟨R,ho,hwR,hR⟩:=hw4
  have abY:w.length=R.length:=by rw[hwR,List.length_map]
  have hget:∀ i (hi:i<R.length),w[i]'(by omega)=Xx R[i]:=fun i hi=>by simp[hwR]
  refine aG (fun m ys M5=>∃ (i:Nat),m=R.length - i∧ys=[N .i64 (i:Int)]∧i≤R.length∧M5=M4∧∀ k (hk:k<R.length),k<i→Op.bytesLess R[k].1 (bM b)=true) _
   ⟨0,rfl,rfl,Nat.zero_le _,rfl,fun k hk h=>by omega⟩ ?_
  rintro next m ys M5 hnext ⟨i,rfl,rfl,hi,rfl,hah⟩
  simp only[aC]
  have s4:Sl gH M5 v R:=Own.gJ ho
  have fin:Nv w (bM b)=i→(bn T 0 [(St []),(.sc (.slice none 0 0))] [] fun adH ac2=>uS adH ac2 M5 fun t35 aaJ b_37=>gQ (bK 2 v none (some (N .i64 (i:Int))) none) fun t38=>dE aaJ (.ptr M3.next 0) 2 fun t40 =>
    bn T 1 [(St []),(.sc (.slice none 0 0))] [(0,2,t40)] fun adS adL=>uS adS adL aaJ fun t41 adU ac0=>gQ (bK 2 v (some (N .i64 (i:Int))) none none) fun t45=>appW T 2 40 [(St []),(.sc (.slice none 0 0))] false t35 t38 adU fun t39 VU =>
    dE VU (.ptr M3.next 0) 2 fun aad=>(aad=t40∧bn T 1 [(St []),(.sc (.slice none 0 0))] [(0,2,t40)] fun adl aef=>(Mg ac0 VU adl aef t41∧gQ (bK 2 v (some (N .i64 (i:Int))) none none) fun Y0=>(Y0=t45∧appW T 2 40 [(St []),(.sc (.slice none 0 0))] false t39 t41 VU fun t42 ad5 =>
    gQ (bK 2 v (some (N .i64 (i:Int))) none none) fun Y4=>(Y4=t45∧appW T 2 40 [(St []),(.sc (.slice none 0 0))] false t42 t45 ad5 fun t46 ad8=>Q t46 ad8))))):=by
   intro hat
   obtain⟨v1,v2,e1,s1,e2,s2,hb1,hb2⟩:=YB (E:=gH) (k:=i) (by decide) ho hi
   have e1:bK 2 v none (some (N .i64 (i:Int))) none=some v1:=e1
   have e2:bK 2 v (some (N .i64 (i:Int))) none none=some v2:=e2
   have hvb:=Own.blk ho
   rw[BF,ru,e1,iF]
   have o6:Ow gH (M5.push (.row [] false T 0)) M5.next T (.slc M5.next 0 0 (.ex 0)) []:=Ow.lit gH M5
   have k6:ae [] M5 (M5.push (.row [] false T 0)):=(ae.refl _ _).push _
   have x6:(M5.push (.row [] false T 0)).next=M5.next + 1:=rfl
   generalize M5.push (.row [] false T 0)=M6 at *
   have n6:=k6.aB n4 (by omega) (by simp)
   rw[eH (n:=2) n6 rfl,← htc,fq (x:=.agg (gH.cells t)) (size:=2) rfl (gH.one t) rfl,ru,e2,iF]
   have n7:(M6.push (.row (AV.agg (gH.cells t)).cells false T 0)).heap M6.next=some (.row (gH.cells t) false T 0):=RM.bR _
   have k7:ae [] M6 (M6.push (.row (AV.agg (gH.cells t)).cells false T 0)):=(ae.refl _ _).push _
   have x7:(M6.push (.row (AV.agg (gH.cells t)).cells false T 0)).next=M6.next + 1:=rfl
   generalize M6.push (.row (AV.agg (gH.cells t)).cells false T 0)=M7 at *
   have k67:=k6.trans k7
   refine iE (E:=gH) (ys:=R.take i) (Own.keep o6 k7 (by simp)) (by omega) (by decide) (aD.keep s1 k67 (by simp)) (by simp; omega) (by simp; omega) ?_
   intro v8 M8 o8 k8 hn8 _
   have hk8:∀ c,c<M5.next→c ∉ ah (.slc M5.next 0 0 (.ex 0)):=fun c hc hm=>by simp[ah] at hm; omega
   have n8:=k8.aB (k7.aB n6 (by omega) (by simp)) (by omega) (hk8 _ (by omega))
   have n8':=k8.aB n7 (by omega) (by simp[ah]; omega)
   rw[eH (n:=2) n8 rfl]
   refine⟨by rw[htc], ?_⟩
   rw[fq (x:=.agg (gH.cells t)) (size:=2) rfl (gH.one t) rfl]
   refine⟨⟨n8',rfl⟩, ?_⟩
   rw[iF]
   refine⟨rfl, ?_⟩
   rw[List.nil_append] at o8
   have sd:Sl gH M8 (.slc M6.next 0 1 (.ex 1)) [t]:=.slc _ _ _ _ _ (by omega) (by rw[RM.gV n8' (by show 0 + 1 * 2≤2; omega)]; rfl)
   refine iE (E:=gH) (ys:=[t]) o8 (by omega) (by decide) sd (by simp; omega) (by simp; omega) ?_
   intro v9 M9 o9 k9 hn9 _
   rw[iF]
   refine⟨rfl, ?_⟩
   have hv8:=Own.blk o8
   have hv9:=Own.blk o9
   have s29:Sl gH M9 v2 (R.drop i):=by
    refine aD.keep (aD.keep (aD.keep s2 k67 (by simp)) k8 fun c hc=>?_) k9 fun c hc hm=>?_
    ·exact hk8 c (hvb c (hb2 c hc)).2
    ·have:=(hv8 c hm).1
     have:=(hvb c (hb2 c hc)).2
     omega
   refine iE (E:=gH) (ys:=R.drop i) o9 (by omega) (by decide) s29 (by simp; omega) (by simp; omega) ?_
   intro v10 M10 o10 k10 V7 _
   have a1:ae [] M5 M7:=k67
   have DZ:=Own.blk o10
   have Sn:ae [] M5 M10:=((a1.bu k8 fun c hc=>.inl (by simp[ah] at hc; omega)).bu k9 fun c hc=>.inl (by have:=(hv8 c hc).1; omega)).bu k10 fun c hc=>.inl (by have:=(hv9 c hc).1; omega)
   have k0:=k04.trans Sn
   refine hQ v10 M10 (fun x=>(S x∨x∈ah u)) k0 ⟨R.take i++[t]++R.drop i,o10.mono (by have:=k04.next; omega), ?_,fun t' ht'=>?_⟩ (fun x hx=>?_) (fun x hx=>.inr (by have:=(DZ x hx).1; have:=k04.next; omega))
   ·unfold qQ
    rw[hat,hwR,List.map_append,List.map_append,List.map_take,List.map_drop,List.map_cons,List.map_nil,htB]
    simp
   ·have hin:t'∈R∨t'=t:=by
     rcases List.mem_append.1 ht' with h | h
     ·rcases List.mem_append.1 h with h | h
      ·exact .inl (List.mem_of_mem_take h)
      ·exact .inr (by simpa using h)
     ·exact .inl (List.mem_of_mem_drop h)
    rcases hin with h | h
    ·exact⟨(hR t' h).1.keep Sn (by simp),fun d hd=>.inl ((hR t' h).2 d hd)⟩
    ·subst h
     rw[ht]
     exact⟨(Bs.own o3).keep (k4.trans Sn) (by simp),fun d hd=>.inr hd⟩
   ·have:=k0.next
    rcases hx with hx | hx
    ·exact⟨.inl hx,by have:=hSl x hx; omega⟩
    ·have:=hub x hx
     exact⟨.inr (by omega),by have:=Sn.next; omega⟩
  have ZN:i≤R.length→(∀ (hi:i<R.length),Op.bytesLess R[i].1 (bM b)=false)→Nv w (bM b)=i:=by
   intro h1 h2
   unfold Nv
   refine Ql (by omega) (fun k hk hki=>?_) (fun hi=>?_)
   ·rw[hget k (by omega)]; exact hah k (by omega) hki
   ·rw[hget i (by omega)]; exact h2 (by omega)
  rw[aD.len s4,fE]
  by_cases hlt:i<R.length
  ·rw[decide_eq_true hlt]
   simp only[dY]
   obtain⟨b1,o1',_,_,hidx,hld⟩:=Sl.at (E:=gH) (i:=i) s4 2 (i:Int) hlt rfl rfl
   rw[hidx,bE,Nat.add_zero,dM]
   refine⟨_,kM hld rfl, ?_⟩
   rw[bE,Nat.zero_add,aF n4 rfl,VD,dX]
   refine aJ (fun hg=>?_) (fun hg=>?_)
   ·rw[gB (by omega)]
    refine hnext _ _ _ (by omega) ⟨i + 1,rfl,rfl,hlt,rfl,fun k hk hki=>?_⟩
    rcases Nat.lt_or_ge k i with h | h
    ·exact hah k hk h
    ·have:k=i:=by omega
     subst this; exact hg
   ·exact fin (ZN hi fun _=>hg)
  ·rw[decide_eq_false hlt]
   simp only[Ld]
   rw[dQ,dH]
   exact fin (ZN hi fun h=>absurd h hlt)
 ·rw[fV,show decide ((i:Int) ≥ 0)=true by simp,fo]
  have hput:oN w b=w:=by unfold oN; rw[h1]; rfl
  rw[hput] at hQ
  exact hQ v M4 S k04 hw4 (fun x hx=>⟨.inl hx,by have:=hSl x hx; have:=k04.next; omega⟩) (fun x hx=>.inl hx)
def mf (f:Str→Option Str) (p:Str) : List Str:=match f p with
 | none=>[]
 | some m=>match iZ m with
   | none=>[]
   | some (_,ls)=>p :: ls
def iA (f:Str→Option Str) (l:List Str) : List Str:=l.flatMap (mf f)
theorem Tt (f:Str→Option Str) (p:Str) : (mf f p).length≤66:=by
 unfold mf
 split
 ·simp
 ·split
  ·simp
  ·rename_i h
   obtain⟨h1,h2,_⟩:=lI h
   simp only[List.length_cons]; omega
theorem KF (f:Str→Option Str) : ∀ l:List Str,(iA f l).length≤66 * l.length
 | []=>by simp[iA]
 | p :: l=>by
   have h1:=Tt f p
   have h2:=KF f l
   unfold iA at *
   rw[List.flatMap_cons,List.length_append,List.length_cons]; omega
def GQ (T:Nat) (c:au) : Prop:=∀ {M:RM} {base:Nat} {v lv:AV} {w:List bL} {S:Nat→Prop} {l:List Str} {Q:ak},pz M base T v w S→base≤M.next→w.length≤1000000→(∀ x∈w,x.2.length≤1000000)→Sl bO M lv l→l.length≤100000 →
 (∀ v' M',ae [] M M'→pz M' M.next T v' (w.filter fun x=>decide (x.1∈iA (fW w) l)) S→Q v' M')→c [v,lv] M Q
theorem MK {T TS:Nat} {cf cn:au} (hf:uI cf) (hn:rV TS cn) : GQ T fun args M Q=>∃ a0 a1,args=[a0,a1]∧vQ cf cn TS T a0 a1 M Q:=by
 intro M base v lv w S l Q hw hbase hwl hbl hs hl hQ
 refine⟨_,_,rfl, ?_⟩
 unfold vQ
 simp only[Sha.dW]
 refine aG (fun m ys M3=>∃ (i:Nat) (kv:AV),m=l.length - i∧ys=[kv,N .i64 (i:Int)]∧i≤l.length∧ae [] M M3∧Ow bO M3 M.next TS kv (iA (fW w) (l.take i))) _ ⟨0,bA,rfl,rfl,Nat.zero_le _,ae.refl _ _,.nil⟩ ?_
 rintro next m ys M3 hnext ⟨i,kv,rfl,rfl,hi,k3,o3⟩
 simp only[aC,bF]
 have hs3:=aD.keep hs k3 (by simp)
 have hw3:=hw.keep k3 (by simp) (by simp)
 have hn3:=k3.next
 rw[aD.len hs3,fE]
 have hkl:=KF (fW w) (l.take i)
 have htl:(l.take i).length≤100000:=by rw[List.length_take]; omega
 refine aJ (fun hlt=>?_) (fun hge=>?_)
 ·have hlt:i<l.length:=of_decide_eq_true hlt
  have hstep:iA (fW w) (l.take (i + 1))=iA (fW w) (l.take i)++mf (fW w) l[i]:=by
   unfold iA
   rw[List.take_succ_eq_append_getElem hlt,List.flatMap_append]; simp
  refine dh (fun zs M'=>∃ kv',zs=[kv']∧ae [] M M'∧Ow bO M' M.next TS kv' (iA (fW w) (l.take (i + 1)))) ?_ ?_
  ·rintro zs M' ⟨kv',rfl,c1,c2⟩
   simp only[aC]
   rw[gB (by omega)]
   exact hnext _ _ _ (by omega) ⟨i + 1,kv',rfl,rfl,hlt,c1,c2⟩
  intro J hJ
  refine gG hs3 hlt ?_
  refine hf hw3.xO (by omega) (fun h0=>?_) (fun q hq _ h1=>?_)
  ·rw[dK,show decide ((-1:Int)<0)=true by decide,fo]
   refine hJ _ _ ⟨kv,rfl,k3, ?_⟩
   rw[hstep]
   unfold mf; rw[h0]; simpa using o3
  ·rw[dK,show decide ((q:Int)<0)=false by simp,dH]
   obtain⟨b,o,u,g1,g2,g3,g4,g5,g6,g7⟩:=uM hw3.xO hq
   rw[g2,bE,dM]
   refine⟨_,g5, ?_⟩
   have hub:=hbl _ (List.getElem_mem hq)
   refine hn g6 (by omega) (fun hx=>?_) (fun n' ls nv M4 k4 hx o4=>?_)
   ·rw[cz,dD,jd,dH]
    refine hJ _ _ ⟨kv,rfl,k3, ?_⟩
    rw[hstep]
    unfold mf; rw[h1]; simp only[hx]; simpa using o3
   ·rw[cz,dD,jd,fo]
    have k04:=k3.trans k4
    have hn4:=k4.next
    obtain⟨hll,hn4',_⟩:=lI hx
    refine gG (aD.keep hs k04 (by simp)) hlt ?_
    rw[fq (x:=St l[i]) (size:=1) rfl rfl rfl,aL]
    refine fP (E:=bO) (a:=l[i]) (Own.keep o3 k4 (by simp)) (by omega) (by decide) (by omega) (by omega) fun v5 M5 o5 k5 hn5 hv5=>?_
    have hkb:∀ x∈ah kv,M.next≤x∧x<M3.next:=Own.blk o3
    have hnb:∀ x∈ah nv,x ∉ ah kv:=fun x hx hm=>by have:=(Own.blk o4 x hx).1; have:=(hkb x hm).2; omega
    refine iE (E:=bO) o5 (by omega) (by decide) (aD.keep (Own.gJ o4) k5 hnb) (by simp; omega) (by simp; omega) fun v6 M6 o6 k6 hn6 hv6=>?_
    refine hJ _ _ ⟨v6,rfl,(k04.bu k5 (fun x hx=>.inl (hkb x hx).1)).bu k6 (fun x hx=>.inl (Own.blk o5 x hx).1), ?_⟩
    rw[hstep]
    unfold mf; rw[h1]; simp only[hx]
    simpa using o6
 ·have:i=l.length:=by
   have:¬ i<l.length:=of_decide_eq_false hge
   omega
  subst this
  rw[List.take_length] at o3 hkl
  clear hnext
  generalize hK:iA (fW w) l=K at *
  refine Sha.xJ ?_
  show aO _ _ _ _
  rw[aL]
  have k4:ae [] M3 (M3.push (.row [] false T 0)):=(ae.refl _ _).push _
  have o4:Ow gH (M3.push (.row [] false T 0)) M3.next T (.slc M3.next 0 0 (.ex 0)) []:=Ow.lit gH M3
  have k04:=k3.trans k4
  have sK:=aD.keep (Own.gJ o3) k4 (by simp)
  generalize M3.push (.row [] false T 0)=M4 at *
  obtain⟨R,hoR,hwR,hR⟩:=hw
  have abY:w.length=R.length:=by rw[hwR,List.length_map]
  refine aG (fun m ys M5=>∃ (j:Nat) (ov:AV),m=R.length - j∧ys=[ov,N .i64 (j:Int)]∧j≤R.length∧ae [] M M5∧(Sl bO M5 kv K∧M3.next≤M5.next)∧Ow gH M5 M3.next T ov ((R.take j).filter fun t=>decide (t.1∈K))) _ ⟨0,_,rfl,rfl,Nat.zero_le _,k04,⟨sK,k4.next⟩,o4⟩ ?_
  rintro next m ys M5 hnext ⟨j,ov,rfl,rfl,hj,k5,⟨sK5,hn45⟩,o5⟩
  simp only[aC,bF]
  have sR:Sl gH M5 v R:=aD.keep (Own.gJ hoR) k5 (by simp)
  rw[aD.len sR,fE]
  refine aJ (fun hlt=>?_) (fun hge=>?_)
  ·have hlt:j<R.length:=of_decide_eq_true hlt
   have hfl:((R.take j).filter fun t=>decide (t.1∈K)).length≤1000000:=by
    have:=List.length_filter_le (fun t:Qp=>decide (t.1∈K)) (R.take j)
    rw[List.length_take] at this; omega
   have hstep:(R.take (j + 1)).filter (fun t=>decide (t.1∈K))=(R.take j).filter (fun t=>decide (t.1∈K))++(if R[j].1∈K then[R[j]] else[]):=by
    rw[List.take_succ_eq_append_getElem hlt,List.filter_append]
    by_cases h:R[j].1∈K <;> simp[h]
   refine dh (fun zs M'=>∃ ov',zs=[ov']∧ae [] M M'∧(Sl bO M' kv K∧M3.next≤M'.next)∧Ow gH M' M3.next T ov' ((R.take (j + 1)).filter fun t=>decide (t.1∈K))) ?_ ?_
   ·rintro zs M' ⟨ov',rfl,c1,c2,c3⟩
    simp only[aC]
    rw[gB (by omega)]
    exact hnext _ _ _ (by omega) ⟨j + 1,ov',rfl,rfl,hlt,c1,c2,c3⟩
   intro J hJ
   obtain⟨b1,o1,_,_,hidx,hld⟩:=Sl.at (E:=gH) (i:=j) sR 2 (j:Int) hlt rfl rfl
   refine aG (fun m ys M6=>∃ k:Nat,m=K.length - k∧ys=[ov,N .i64 (k:Int)]∧k≤K.length∧M6=M5∧R[j].1 ∉ K.take k) _ ⟨0,rfl,rfl,Nat.zero_le _,rfl,by simp⟩ ?_
   rintro next' m' ys' M6 vE ⟨k,rfl,rfl,hk,rfl,hno⟩
   simp only[aC,bF]
   rw[aD.len sK5,fE]
   refine aJ (fun hlt2=>?_) (fun Hl=>?_)
   ·have hlt2:k<K.length:=of_decide_eq_true hlt2
    refine gG sK5 hlt2 ?_
    rw[hidx,bE,Nat.add_zero,dM]
    refine⟨_,kM hld rfl, ?_⟩
    rw[mR]
    refine aJ (fun he=>?_) (fun he=>?_)
    ·have he:K[k]=R[j].1:=by simpa using he
     have hin:R[j].1∈K:=by rw[← he]; exact List.getElem_mem _
     rw[hidx,si]
     refine⟨_,hld, ?_⟩
     rw[fq (x:=.agg (gH.cells R[j])) (size:=2) rfl (gH.one _) rfl,aL]
     refine fP (E:=gH) (a:=R[j]) o5 (by omega) (by decide) (by omega) (by omega) fun v7 M7 o7 k7 hn7 hv7=>?_
     have hob:∀ x∈ah ov,M3.next≤x:=fun x hx=>(Own.blk o5 x hx).1
     have hkb:∀ x∈ah kv,x<M3.next:=fun x hx=>(Own.blk o3 x hx).2
     refine hJ _ _ ⟨v7,rfl,k5.bu k7 (fun x hx=>.inl (by have:=hob x hx; omega)),⟨aD.keep sK5 k7 (fun x hx hm=>by have:=hkb x hx; have:=hob x hm; omega),by omega⟩,by rw[hstep,if_pos hin]; exact o7⟩
    ·have he:¬ K[k]=R[j].1:=by simpa using he
     rw[gB (by omega)]
     refine vE _ _ _ (by omega) ⟨k + 1,rfl,rfl,hlt2,rfl,fun hx=>?_⟩
     rw[List.take_succ_eq_append_getElem hlt2,List.mem_append] at hx
     rcases hx with hx | hx
     ·exact hno hx
     ·simp at hx; exact he hx.symm
   ·have:k=K.length:=by
     have:¬ k<K.length:=of_decide_eq_false Hl
     omega
    subst this
    rw[List.take_length] at hno
    exact hJ _ _ ⟨ov,rfl,k5,⟨sK5,hn45⟩,by rw[hstep,if_neg hno,List.append_nil]; exact o5⟩
  ·have:j=R.length:=by
    have:¬ j<R.length:=of_decide_eq_false hge
    omega
   subst this
   rw[List.take_length] at o5
   refine hQ ov M5 k5 ⟨_,Own.mono o5 hn3, ?_,fun t ht=>?_⟩
   ·rw[hwR,List.filter_map]; rfl
   ·have ht:=(List.mem_filter.1 ht).1
    exact⟨(hR t ht).1.keep k5 (by simp),(hR t ht).2⟩
def Us (fr i:Nat) : UInt8:=UInt8.ofNat ((fr + 7 * i) % 256)
def eB (n fr:Nat) : Str:=(List.range n).map fun i=>Us fr i
theorem jT (n fr:Nat) : (eB n fr).length=n:=by simp[eB]
def ES (c:au) : Prop:=∀ {M:RM} {n fr:Nat} {Q:ak},n≤1000→fr<256→(∀ v M',ae [] M M'→Nw M.next M' v (eB n fr)→Q v M')→c [N .i64 (n:Int),N .u8 (fr:Int)] M Q
theorem P9:∀ n:Nat,ig [(N .u8 0)] n=BY.row (List.replicate n 0)
 | 0=>rfl
 | n + 1=>by rw[ig,P9 n,List.replicate_succ,Enc.iw]; rfl
theorem Pp {T:Nat} : ES fun args M Q=>∃ a0 a1,args=[a0,a1]∧tu T a0 a1 M Q:=by
 intro M n fr Q hn hfr hQ
 refine⟨_,_,rfl, ?_⟩
 unfold tu
 refine⟨_,_,(n:Int),(n:Int),rfl,rfl,by omega,Int.le_refl _,by rw[Int.toNat_natCast]; omega,by rw[Int.toNat_natCast]; omega, ?_⟩
 rw[Int.toNat_natCast,P9]
 dsimp only
 rw[aL]
 have k1:ae [] M (M.push (.row (BY.row (List.replicate n 0)) false T 0)):=(ae.refl _ _).push _
 have n1:(M.push (.row (BY.row (List.replicate n 0)) false T 0)).heap M.next=some (.row (BY.row (List.replicate n 0)) false T 0):=RM.bR _
 have e1:(M.push (.row (BY.row (List.replicate n 0)) false T 0)).next=M.next + 1:=rfl
 generalize M.push (.row (BY.row (List.replicate n 0)) false T 0)=M1 at *
 have r1:Rw BY M1 M.next false T (List.replicate n 0):=⟨n1,by omega⟩
 refine aG (fun m ys M3=>∃ (i:Nat) (d:Str),m=n - i∧ys=[N .i64 (i:Int)]∧i≤n∧ae [] M M3∧Rw BY M3 M.next false T d∧d.length=n∧d.take i=eB i fr) _ ⟨0,_,rfl,rfl,Nat.zero_le _,k1,r1,by simp,by simp[eB]⟩ ?_
 rintro next m ys M3 hnext ⟨i,d,rfl,rfl,hi,k3,r3,hd,hp⟩
 simp only[aC]
 rw[fE]
 refine aJ (fun hlt=>?_) (fun hge=>?_)
 ·have hlt:i<n:=of_decide_eq_true hlt
  rw[fK,show(i:Int) * 7=((i * 7:Nat) : Int) by omega,aP (by omega) (by omega),cZ,wrap_u8,bz,show(fr:Int) + ((i * 7 % 256:Nat) : Int)=((fr + i * 7 % 256:Nat) : Int) by omega,wrap_u8]
  have e:N .u8 (((fr + i * 7 % 256) % 256:Nat) : Int)=By (Us fr i):=by
   rw[By,Us,IB]; congr 2; omega
  rw[e,← hd]
  obtain⟨st1,st2⟩:=r3.Ub (i:=i) (by omega) (Us fr i) rfl (u:=By (Us fr i)) rfl
  rw[WG (by omega)]
  refine⟨_,i,_,rfl,rfl,st1, ?_⟩
  dsimp only
  rw[gB (by omega)]
  refine hnext _ _ _ (by omega) ⟨i + 1,_,rfl,rfl,hlt,k3.put _ (.inl (Nat.le_refl _)),st2,by simpa using hd, ?_⟩
  rw[List.take_succ_eq_append_getElem (by rw[List.length_set]; omega),List.getElem_set_self,List.take_set_of_le (Nat.le_refl _),hp]
  unfold eB
  rw[List.range_succ,List.map_append]; rfl
 ·have:i=n:=by
   have:¬ i<n:=of_decide_eq_false hge
   omega
  subst this
  rw[List.take_of_length_le (by omega)] at hp
  subst hp
  refine hQ _ M3 k3 ⟨⟨?_,Nat.le_refl _⟩,by simp[ah]⟩
  have:=r3.sl (cap:=.ex i)
  rw[jT] at this; exact this
set_option maxRecDepth 100000
def pA:Str:=eB 65 1
def c0:Str:=pA.take 64
def c1:Str:=pA.drop 64
def oT:Str:=[111,116,104,101,114]
def mA:Str:=65 :: (qG c0++qG c1)
def nA:Str:=bM mA
def n0:Str:=bM c0
def n1:Str:=bM c1
def nO:Str:=bM oT
theorem acN:oP pA=mA:=by
 have h:(bD 64 pA)=[c0,c1]:=by decide +kernel
 unfold oP mA
 rw[h]
 have:pA.length=65:=jT 65 1
 rw[this,vB (by decide)]
 simp
theorem acT:bD 64 pA=[c0,c1]:=by decide +kernel
theorem XM:n0≠n1:=by decide +kernel
theorem XE:nA≠n0:=by decide +kernel
theorem Xo:nA≠n1:=by decide +kernel
theorem dOA:nO≠nA:=by decide +kernel
theorem dO0:nO≠n0:=by decide +kernel
theorem dO1:nO≠n1:=by decide +kernel
theorem Ro:iZ mA=some (65,[n0,n1]):=by decide +kernel
theorem isN:bY nA=true∧bY nO=true:=by decide +kernel
theorem cc:c0++c1=pA:=List.take_append_drop 64 pA
theorem l0:c0.length=64:=by decide +kernel
theorem l1:c1.length=1:=by decide +kernel
theorem lM:mA.length=65:=by decide +kernel
set_option maxRecDepth 10000
theorem Gi {f:Str→Option Str} {b n:Str} (hn:bM b=n) (h0:f n=none) (s:Str) : oH f b s=if s=n then some b else f s:=by
 subst hn
 unfold oH
 by_cases h:s=bM b
 ·rw[if_pos ⟨h,h0⟩,if_pos h]
 ·rw[if_neg (fun hc=>h hc.1),if_neg h]
theorem eA:bM mA=nA:=rfl
theorem e0:bM c0=n0:=rfl
theorem e1:bM c1=n1:=rfl
theorem eO:bM oT=nO:=rfl
def f1:Str→Option Str:=oH (fun _=>none) mA
def f3:Str→Option Str:=oH (oH f1 c0) c1
theorem H6 (s:Str) : f1 s=if s=nA then some mA else none:=Gi eA rfl s
theorem Xw (s:Str) : oH f1 c0 s=if s=n0 then some c0 else if s=nA then some mA else none:=by
 rw[Gi e0 (by rw[H6,if_neg (fun h=>XE h.symm)]),H6]
theorem Iq (s:Str) : f3 s=if s=n1 then some c1 else if s=n0 then some c0 else if s=nA then some mA else none:=by
 unfold f3
 rw[Gi e1 (by rw[Xw,if_neg (fun h=>XM h.symm),if_neg (fun h=>Xo h.symm)]),Xw]
theorem OH:f3 nA=some mA:=by rw[Iq,if_neg Xo,if_neg XE,if_pos rfl]
theorem WY:f3 n0=some c0:=by rw[Iq,if_neg XM,if_pos rfl]
theorem V8:f3 n1=some c1:=by rw[Iq,if_pos rfl]
theorem aec:f3 nO=none:=by rw[Iq,if_neg dO1,if_neg dO0,if_neg dOA]
theorem abA:uy (fun _=>none) nA=[nA]:=rfl
theorem aba:uy f1 nA=[n0,n1]:=by
 unfold uy
 rw[H6,if_pos rfl]
 simp only[Ro]
 have h0:isNil f1 n0=true:=by unfold isNil; rw[H6,if_neg XE.symm]; rfl
 have h1:isNil f1 n1=true:=by unfold isNil; rw[H6,if_neg Xo.symm]; rfl
 unfold gD
 simp only[List.foldl_cons,List.foldl_nil,dC,h0,h1]
 have:¬ n1=n0:=fun h=>XM h.symm
 simp[this]
theorem phA:gZ f3 nA=(pA,0):=by
 unfold gZ
 rw[OH]
 simp only[Ro]
 have h0:isNil f3 n0=false:=by unfold isNil; rw[WY]; rfl
 have h1:isNil f3 n1=false:=by unfold isNil; rw[V8]; rfl
 have v0:kD f3 n0=c0:=by unfold kD; rw[WY]; rfl
 have v1:kD f3 n1=c1:=by unfold kD; rw[V8]; rfl
 rw[if_neg (by simp[h0,h1]),jU,v0,l0,if_pos (by decide),jU,v1,l1,List.nil_append,l0,if_pos (by decide),jU,cc]
theorem abP:(gD (isNil f3) [nA,nO]).filter bY=[nO]:=by
 have h0:isNil f3 nA=false:=by unfold isNil; rw[OH]; rfl
 have h1:isNil f3 nO=true:=by unfold isNil; rw[aec]; rfl
 unfold gD
 simp[dC,h0,h1,isN.2]
theorem three {TS sb:Nat} {M:RM} {T:List eQ} {W:Nat→Prop} (h:kS TS M sb T f3 W) : T.length=3:=by
 obtain⟨mb,cl,_,_,_,_,wf,_⟩:=h.map
 have hnd:[nA,n0,n1].Nodup:=by simp[XE,Xo,XM]
 have hp:(T.map (·.1)).Perm [nA,n0,n1]:=by
  rw[List.perm_ext_iff_of_nodup wf.nodup hnd]
  intro s
  constructor
  ·intro hs
   obtain⟨t,ht,rfl⟩:=List.mem_map.1 hs
   obtain⟨b,hb,_⟩:=h.val t ht
   rw[Iq] at hb
   by_cases e1:t.1=n1
   ·simp[e1]
   ·rw[if_neg e1] at hb
    by_cases e2:t.1=n0
    ·simp[e2]
    ·rw[if_neg e2] at hb
     by_cases e3:t.1=nA
     ·simp[e3]
     ·rw[if_neg e3] at hb; cases hb
  ·intro hs
   have:∃ b,f3 s=some b:=by
    simp at hs
    rcases hs with rfl | rfl | rfl
    ·exact⟨_,OH⟩
    ·exact⟨_,WY⟩
    ·exact⟨_,V8⟩
   obtain⟨b,hb⟩:=this
   obtain⟨t,ht,e⟩:=h.dom s b hb
   exact List.mem_map.2 ⟨t,ht,e⟩
 have:=hp.length_eq
 simpa using this
theorem Le {f:Str→Option Str} : iq f []=fun _=>false:=rfl
theorem YH {T n:Nat} {M:RM} {parts:List (Nat × Nat × AV)} (s:Str) {K:ak} (he:lG (ig [(N .u8 0)] n) parts=some (BY.row s)) (hn:s.length=n)
  (hK:∀ v M',Bs M' v s→ae [] M M'→(∀ b∈ah v,M.next≤b)→K v M') : bn T n [(N .u8 0)] parts fun r f=>aO r f M fun t14 M1=>Rk t14 M1 fun t15 M_0=>K t15 M_0:=by
 refine⟨BY.row s,he, ?_⟩
 simp only[aL]
 refine⟨M.next,0,n,n,BY.row s,T,rfl,by simp[RM.push], ?_⟩
 refine hK _ _ ⟨?_,Nat.le_refl _⟩ (((ae.refl _ _).push _).new _ (Nat.le_refl _)) (fun b hb=>by simp[ah] at hb; omega)
 subst hn
 refine aD.slc _ _ _ _ _ (by simp[RM.push,RM.put]) ?_
 rw[RM.gV (aM _) (by rw[fT]; simp[BY]),List.drop_zero,List.take_of_length_le (by rw[fT]; simp[BY])]
def Ap (M:RM) (v:AV) (W:Nat→Prop) : Prop:=∀ x∈ah v,x<M.next∧¬ W x
theorem Ap.put {M M' : RM} {v:AV} {W W' : Nat→Prop} (h:Ap M v W) (hn:M.next≤M'.next) (hw:∀ x,W' x→W x∨M.next≤x) : Ap M' v W':=fun x hx=>by
 obtain⟨h1,h2⟩:=h x hx
 refine⟨by omega,fun hc=>?_⟩
 rcases hw x hc with h | h
 ·exact h2 h
 ·omega
theorem Ap.keep {M M' : RM} {v:AV} {W:Nat→Prop} (h:Ap M v W) (hn:M.next≤M'.next) : Ap M' v W:=h.put hn fun x hx=>.inl hx
theorem Ap.off {M:RM} {v:AV} {W:Nat→Prop} {ks:List Nat} (h:Ap M v W) (hk:∀ x∈ks,W x) : ∀ x∈ah v,x ∉ ks:=fun x hx hm=>(h x hx).2 (hk x hm)
structure Cs (TSt T8 TB TS T32:Nat) (cph Kt zO Mm qB cPh GH cNm cN2 xV BK cNs cBy:au) : Prop where
 ph:ES cph
 cut:Vi T8 TB Kt
 new:AB TSt zO
 miss:Ce TSt Mm
 put:OI TSt qB
 H7:JB TSt cPh
 get:Ja TSt T8 GH
 nm:zT TS cNm
 n2:rQ cN2
 want:Ml TSt xV
 keep:Mi TSt BK
 ns:xZ TSt TS cNs
 by_:Ao TSt cBy
theorem Ol {s:Str} : (s != s)=false:=by simp[bne]
def Iy (c:au) : Prop:=∀ {M:RM} {Q:ak},(∀ M',ae [] M M'→Q (Bo true) M')→c [] M Q
theorem QO {TSt T8 TB TS T32 TU TT:Nat} {cph Kt zO Mm qB cPh GH cNm cN2 xV BK cNs cBy:au} (C:Cs TSt T8 TB TS T32 cph Kt zO Mm qB cPh GH cNm cN2 xV BK cNs cBy) :
  Iy fun args M Q=>args=[]∧tO cph Kt zO Mm qB cPh GH cNm TU cN2 TT xV BK cNs cBy M Q:=by
 intro M Q hQ
 refine⟨rfl, ?_⟩
 unfold tO
 refine C.ph (n:=65) (fr:=1) (by decide) (by decide) fun v M1 k1 hv=>?_
 refine C.cut hv.bs (by rw[jT]; decide) (fun h=>by rw[jT] at h; omega) fun mv lv M2 S _ k2 om ol hS=>?_
 have hm:oP (eB 65 1)=mA:=acN
 have hc:bD 64 (eB 65 1)=[c0,c1]:=acT
 rw[hm] at om ⊢
 rw[hc] at ol
 rw[show bM mA=nA from rfl]
 rw[cz,dD,jd,abF]
 refine C.new fun sb M3 W k3 hst hW=>?_
 have hn1:=k1.next
 have hn2:=k2.next
 have hn3:=k3.next
 rw[bX,show((0:Int) != 0)=false by decide]
 simp only[bU]
 have bm:Bs M3 mv mA:=(Bs.own om).keep k3 (by simp)
 have sl2:fw kY M2 lv [c0,c1] (fun x=>S x∨(M1.next≤x∧x<M2.next)):=(ol.mono (fun x h=>.inl h)).xO (fun x h1 h2=>.inr ⟨h1,h2⟩)
 have sl3:=(sl2.mono (S':=fun x=>M1.next≤x∧x<M2.next) (fun x h=>h.elim (fun h=>⟨(hS x h).1,(hS x h).2.1⟩) id)).keep k3 (by simp)
 have aen:∀ {K:AV→Prop},fU false 1 (.ptr sb 0) (.sc (.pointer none)) K=K (Bo false):=fun {K} => jy (r:=false) rfl rfl
 rw[aen,dQ]
 simp only[bU]
 rw[sl3.len,bX,show((([c0,c1] : List Str).length:Int) != 2)=false by decide,dQ]
 simp only[bU]
 obtain⟨b1,o1,cs1,hb1n,Y6,XN,Y2,w1,rfl,hw1,ad2⟩:=sl3.at (i:=1) 1 1 (by decide)
 obtain⟨b0,o0,cs0,hb0n,acP,QW,ady,w0,rfl,hw0,adj⟩:=sl3.at (i:=0) 1 0 (by decide)
 have hw1:Bs M3 w1 c1:=hw1
 have hw0:Bs M3 w0 c0:=hw0
 rw[XN,aQ.bV (fO.1 Y2),hw1.len,l1,bX,show(((1:Nat) : Int) != 1)=false by decide,dQ]
 simp only[bU]
 rw[bm.len,lM,bX,show(((65:Nat) : Int) != 65)=false by decide,dQ]
 simp only[bU]
 have hnl:nA.length=64:=su _
 rw[xQ,hnl,bX,show(((64:Nat) : Int) != 64)=false by decide,dQ,dH]
 have apm:Ap M3 mv W:=fun x hx=>⟨by have:=(Own.blk om x hx).2; omega,fun h=>by have:=hW x h; have:=(Own.blk om x hx).2; omega⟩
 have ap1:Ap M3 w1 W:=fun x hx=>⟨hw1.lt x hx,fun h=>by have:=hW x h; have:=ad2 x hx; omega⟩
 have ap0:Ap M3 w0 W:=fun x hx=>⟨hw0.lt x hx,fun h=>by have:=hW x h; have:=adj x hx; omega⟩
 have miss0' : ∀ x∈([] : List Nat),¬ W x:=by simp
 refine C.miss hst fun av M4 k4 ha=>?_
 have hn4:=k4.next
 rw[abA] at ha
 have ac8:=hst.keep k4 (by simp)
 have aa4:Ap M4 av W:=fun x hx=>⟨aD.lt ha.sl x hx,fun h=>by have:=ha.new x hx; obtain⟨T,hT,_⟩:=hst; have:=hT.lt x h; omega⟩
 refine C.put ac8 (bm.keep k4 (by simp)) (by rw[lM]; decide) fun M5 W5 ks5 Gv k5 hk5 hW5 hs5=>?_
 have hn5:=k5.next
 rw[eA,qN,Ol,dH]
 have Gv:kJ TSt M5 sb f1 W5 1:=Gv
 have aak:=(apm.keep hn4).put hn5 hW5
 have aaI:=(ap1.keep hn4).put hn5 hW5
 have ap05:=(ap0.keep hn4).put hn5 hW5
 have aa5:=aa4.put hn5 hW5
 have bm5:=(bm.keep k4 (by simp)).keep k5 ((apm.keep hn4).off hk5)
 have aei:=(hw1.keep k4 (by simp)).keep k5 ((ap1.keep hn4).off hk5)
 have adD:=(hw0.keep k4 (by simp)).keep k5 ((ap0.keep hn4).off hk5)
 have sa5:=aD.keep ha.sl k5 (aa4.off hk5)
 have hlw:∀ x∈ah lv,x<M2.next:=fun x hx=>(ol.blk x hx).2
 have nW:∀ x,x<M2.next→x ∉ ks5:=fun x hx hm=>by have:=hW x (hk5 x hm); omega
 have c05:M5.cell b0 o0=some w0:=by rw[k5.cell (by omega) (nW b0 (hlw b0 acP)),k4.cell (by omega) (by simp)]; exact fO.1 ady
 have c15:M5.cell b1 o1=some w1:=by rw[k5.cell (by omega) (nW b1 (hlw b1 Y6)),k4.cell (by omega) (by simp)]; exact fO.1 Y2
 refine C.miss Gv fun bv M6 k6 hb=>?_
 rw[aba] at hb
 have hn6:=k6.next
 have ab6:Ap M6 bv W5:=fun x hx=>⟨aD.lt hb.sl x hx,fun h=>by have:=hb.new x hx; obtain⟨T,hT,_⟩:=Gv; have:=hT.lt x h; omega⟩
 have c06:M6.cell b0 o0=some w0:=by rw[k6.cell (by omega) (by simp)]; exact c05
 rw[QW,aQ.bV c06]
 refine C.put (Gv.keep k6 (by simp)) (adD.keep k6 (by simp)) (by rw[l0]; decide) fun M7 W7 ks7 acr k7 hk7 hW7 hs7=>?_
 have hn7:=k7.next
 have nW7:∀ x,x<M2.next→x ∉ ks7:=fun x hx hm=>by
  rcases hW5 x (hk7 x hm) with h | h
  ·have:=hW x h; omega
  ·omega
 have c17:M7.cell b1 o1=some w1:=by rw[k7.cell (by omega) (nW7 b1 (hlw b1 Y6)),k6.cell (by omega) (by simp)]; exact c15
 rw[XN,aQ.bV c17]
 have adq:=(aei.keep k6 (by simp)).keep k7 ((aaI.keep hn6).off hk7)
 have ap17:=(aaI.keep hn6).put hn7 hW7
 have bm7:=(bm5.keep k6 (by simp)).keep k7 ((aak.keep hn6).off hk7)
 have ZW:=(aak.keep hn6).put hn7 hW7
 have sa7:=aD.keep (aD.keep sa5 k6 (by simp)) k7 ((aa5.keep hn6).off hk7)
 have aa7:=(aa5.keep hn6).put hn7 hW7
 have sb7:=aD.keep hb.sl k7 (ab6.off hk7)
 have ab7:=ab6.put hn7 hW7
 refine C.put acr adq (by rw[l1]; decide) fun M8 W8 ks8 Cb k8 hk8 hW8 hs8=>?_
 have Cb:kJ TSt M8 sb f3 W8 3:=Cb
 have hn8:=k8.next
 have bm8:=bm7.keep k8 (ZW.off hk8)
 have sa8:=aD.keep sa7 k8 (aa7.off hk8)
 have aa8:=aa7.put hn8 hW8
 have sb8:=aD.keep sb7 k8 (ab7.off hk8)
 have ab8:=ab7.put hn8 hW8
 have adz:=ZW.put hn8 hW8
 refine C.H7 Cb fun pv M9 k9 hp=>?_
 rw[phA] at hp ⊢
 rw[cz,dD]
 have hn9:=k9.next
 have acY:Ap M9 pv W8:=fun x hx=>⟨hp.bs.lt x hx,fun h=>by have:=hp.new x hx; obtain⟨T,hT,_⟩:=Cb; have:=hT.lt x h; omega⟩
 have ZQ:=Cb.keep k9 (by simp)
 refine C.get ZQ (fun h0=>by rw[OH] at h0; cases h0) fun gv bb M10 h0 hbl k10 og=>?_
 rw[OH] at h0
 cases h0
 rw[cz,dD]
 have V7:=k10.next
 have abg:Ap M10 gv W8:=fun x hx=>⟨(Own.blk og x hx).2,fun h=>by have:=(Own.blk og x hx).1; obtain⟨T,hT,_⟩:=ZQ; have:=hT.lt x h; omega⟩
 have k8a:=k9.trans k10
 refine C.nm (bm8.keep k8a (by simp)) (by rw[lM]; decide) (fun M11 k11 hx=>by rw[Ro] at hx; cases hx) fun n' ls nv M11 k11 hx on=>?_
 rw[Ro] at hx
 cases hx
 rw[cz,dD,jd]
 have aaf:=k11.next
 have abl:Ap M11 nv W8:=fun x hx=>⟨(Own.blk on x hx).2,fun h=>by have:=(Own.blk on x hx).1; obtain⟨T,hT,_⟩:=Cb; have:=hT.lt x h; omega⟩
 refine YH oT rfl rfl fun ov M12 bo k12 ho=>?_
 refine C.n2 bo (by decide) fun M13 k13=>?_
 rw[eO,Sb rfl rfl rfl rfl,aL]
 have k14:ae [] M13 (M13.push (.row [St nA,St nO] false TT 0)):=(ae.refl _ _).push _
 have s14:Sl bO (M13.push (.row [St nA,St nO] false TT 0)) (.slc M13.next 0 2 (.ex 2)) [nA,nO]:=Sl.new (E:=bO) [nA,nO]
 have x14:(M13.push (.row [St nA,St nO] false TT 0)).next=M13.next + 1:=rfl
 show xV _ (M13.push (.row [St nA,St nO] false TT 0)) _
 generalize M13.push (.row [St nA,St nO] false TT 0)=M14 at *
 have aaR:=((k8a.trans k11).trans (k12.trans k13)).trans k14
 have Wx:=k12.next
 have hn13:=k13.next
 have abK:=Cb.keep aaR (by simp)
 refine C.want abK s14 (by simp) (fun x hx=>by
  have hO:nO.length=64:=su _
  simp at hx
  rcases hx with h | h <;> subst h <;> omega) fun wv M15 k15 hwv=>?_
 rw[abP] at hwv
 have hn15:=k15.next
 have abe:Ap M15 wv W8:=fun x hx=>⟨aD.lt hwv.sl x hx,fun h=>by have:=hwv.new x hx; obtain⟨T,hT,_⟩:=Cb; have:=hT.lt x h; omega⟩
 have Df:=aaR.trans k15
 obtain⟨T8',hT8,_⟩:=Cb.keep Df (by simp)
 have h3:=three hT8
 refine C.keep hT8 (by omega) (v:=bA) (l:=[]) .nil (by simp) fun M16 ks16 hT16 k16 Ee=>?_
 have hn16:=k16.next
 have hfil:(T8'.filter fun t=>iq f3 [] t.1)=[]:=List.filter_eq_nil_iff.2 (fun t _=>by rw[Le]; exact Bool.false_ne_true)
 rw[hfil] at hT16 ⊢
 rw[h3]
 have Z7:=aD.keep (aD.keep sa8 Df (by simp)) k16 ((aa8.keep Df.next).off Ee)
 have adv:=aD.keep (aD.keep sb8 Df (by simp)) k16 ((ab8.keep Df.next).off Ee)
 have aaC:=((k10.trans k11).trans (k12.trans k13)).trans (k14.trans k15)
 have aaK:=(hp.bs.keep aaC (by simp)).keep k16 ((acY.keep aaC.next).off Ee)
 have Xk:=(k11.trans (k12.trans k13)).trans (k14.trans k15)
 have acV:=((Bs.own og).keep Xk (by simp)).keep k16 ((abg.keep Xk.next).off Ee)
 have XL:=(k12.trans k13).trans (k14.trans k15)
 have acC:=aD.keep (aD.keep (Own.gJ on) XL (by simp)) k16 ((abl.keep XL.next).off Ee)
 have adg:=aD.keep hwv.sl k16 (abe.off Ee)
 have aem:=(bm8.keep Df (by simp)).keep k16 ((adz.keep Df.next).off Ee)
 have ac4:ae [] M M16:=by
  have a1:ae [] M M4:=((k1.trans k2).trans k3).trans k4
  have a2:ae [] M M6:=(a1.bu k5 (fun x hx=>.inl (by have:=hW x (hk5 x hx); omega))).trans k6
  have h57:∀ x,W5 x→M.next≤x:=fun x hx=>by
   rcases hW5 x hx with h | h
   ·have:=hW x h; omega
   ·omega
  have a3:=a2.bu k7 (fun x hx=>.inl (h57 x (hk7 x hx)))
  have h78:∀ x,W7 x→M.next≤x:=fun x hx=>by
   rcases hW7 x hx with h | h
   ·exact h57 x h
   ·omega
  have a4:=(a3.bu k8 (fun x hx=>.inl (h78 x (hk8 x hx)))).trans Df
  exact a4.bu k16 (fun x hx=>.inl (by
   rcases hW8 x (Ee x hx) with h | h
   ·exact h78 x h
   ·omega))
 simp only[mX,xU,vT,Aj]
 rw[aD.len Z7,bS,show((([nA] : List Str).length:Int) == 1)=true by rfl]
 simp only[dY]
 refine gG (i:=0) Z7 (by decide) ?_
 have hsn:∀ {x:Str},(x == x)=true:=fun {x} => by simp
 rw[show([nA] : List Str)[0]=nA from rfl,mR,hsn,dX]
 simp only[dY]
 rw[aD.len adv,bS,show((([n0,n1] : List Str).length:Int) == 2)=true by rfl,dX]
 simp only[dY]
 rw[bS,show(((0:Nat) : Int) == 0)=true by rfl,dX]
 simp only[dY,fH,KW]
 rw[aaK.str]
 refine C.ph (n:=65) (fr:=1) (by decide) (by decide) fun v17 M17 k17 aeg=>?_
 have adt:=aaK.keep k17 (by simp)
 rw[adt.str]
 refine⟨rfl, ?_⟩
 rw[aeg.bs.str,show eB 65 1=pA from rfl,mR,hsn,dX]
 simp only[dY]
 rw[dX]
 simp only[dY]
 rw[(acV.keep k17 (by simp)).str,(aem.keep k17 (by simp)).str,mR,hsn,dX]
 simp only[dY]
 rw[bS,show((0:Int) == 0)=true by rfl,dX]
 simp only[dY]
 rw[bS,show(((65:Nat) : Int) == 65)=true by rfl,dX]
 simp only[dY]
 rw[aD.len acC,bS,show((([n0,n1] : List Str).length:Int) == 2)=true by rfl,dX]
 simp only[dY]
 rw[aD.len adg,bS,show((([nO] : List Str).length:Int) == 1)=true by rfl,dX]
 simp only[dY]
 rw[bS,show(((3 - ([] : List eQ).length:Nat) : Int) == 3)=true by rfl,dX]
 simp only[dY,fH]
 have XF:kJ TSt M17 sb (fun s=>if iq f3 [] s then f3 s else none) W8 0:=⟨[],hT16.keep k17 (by simp),Nat.le_refl _⟩
 have hT0:∀ {M:RM} {T:List eQ},kS TSt M sb T (fun s=>if iq f3 [] s then f3 s else none) W8→T=[]:=by
  intro M T h
  cases T with
  | nil=>rfl
  | cons t T =>
    obtain⟨b,hb,_⟩:=h.val t (List.mem_cons_self ..)
    rw[Le] at hb
    cases hb
 refine C.ns XF (by decide) fun T18 v18 M18 adZ _ o18 k18=>?_
 rw[hT0 adZ] at o18
 rw[aD.len (Own.gJ o18),bS,show(((Go.Ab.Dk.lh (fA [])).length:Int) == 0)=true by rfl,dX]
 simp only[dY,fH]
 refine C.by_ (XF.keep k18 (by simp)) (by decide) fun T19 M19 acw _ k19=>?_
 rw[hT0 acw,bS,show((sS (tL fun s=>if iq f3 [] s then f3 s else none) [] : Nat) : Int)=0 from rfl,show((0:Int) == 0)=true by rfl,dX]
 exact hQ M19 (((ac4.trans k17).trans k18).trans k19)
end Go.Ab.Bl
namespace Go.Ab.Sha
open Go Go.Ab Go.Ab.Sm
structure VS (M:RM) (base T:Nat) (v:AV) (l:List Int) : Prop where
 ex:∃ vb p cap,v=.slc vb 0 l.length cap∧M.heap vb=some (.row (bI.row l) p T 0)∧base≤vb∧vb<M.next
theorem VS.keep {M M' : RM} {base T:Nat} {v:AV} {l:List Int} (h:VS M base T v l) (k:ae [] M M') : VS M' base T v l:=by
 obtain⟨vb,p,cap,e,h1,h2,h3⟩:=h.ex
 exact⟨vb,p,cap,e,k.aB h1 h3 (by simp),h2,Nat.lt_of_lt_of_le h3 k.next⟩
theorem VS.mono {M:RM} {base base' T:Nat} {v:AV} {l:List Int} (h:VS M base T v l) (hb:base'≤base) : VS M base' T v l:=by
 obtain⟨vb,p,cap,e,h1,h2,h3⟩:=h.ex
 exact⟨vb,p,cap,e,h1,by omega,h3⟩
theorem VS.sl {M:RM} {base T:Nat} {v:AV} {l:List Int} (h:VS M base T v l) : Sl bI M v l:=by
 obtain⟨vb,p,cap,rfl,h1,h2,h3⟩:=h.ex
 exact Rw.sl ⟨h1,h3⟩
theorem Kl {M:RM} {base T:Nat} {v:AV} {s:List Int} (h:Ow bI M base T v s) (hs:s≠[]) : VS M base T v s:=by
 unfold Ow at h
 generalize hc:bI.row s=cs at h
 generalize hn:s.length=n at h
 cases h with
 | nil=>exact absurd (List.length_eq_zero_iff.1 hn) hs
 | ex0 b o _ _ _=>exact absurd (List.length_eq_zero_iff.1 hn) hs
 | op b n cs h1 h2 h3 h4=>subst hc; subst hn; exact⟨b,_,_,rfl,h3,h1,h2⟩
theorem zF {vb n i:Nat} {c:Cap} {j:Int} {k:IntKind} {K:AV→Prop} (hj:j=(i:Int)) (h:i<n) : aI (.slc vb 0 n c) (N k j) 1 K=K (.ptr vb i):=by
 subst hj
 rw[qK,Nat.zero_add,Nat.mul_one,Int.toNat_natCast]
 exact propext ⟨fun h=>h.2.2,fun k=>⟨by omega,by omega,k⟩⟩
theorem VI {M:RM} {vb T:Nat} {p:Bool} {l:List Int} (h:M.heap vb=some (.row (bI.row l) p T 0)) {i:Nat} (hi:i<l.length) (x:Int) {K:RM→Prop} : aS M (.ptr vb i) (N .u32 x) 1 K=K (M.put vb (.row (bI.row (l.set i x)) p T 0)):=by
 refine gT _ h (by rw[jB]; exact hi) rfl rfl ?_
 rw[lS,lS,List.map_set]
theorem YS {M:RM} {vb T:Nat} {p:Bool} {l:List Int} (h:M.heap vb=some (.row (bI.row l) p T 0)) {i:Nat} (hi:i<l.length) {K:AV→Prop} : ag M (.ptr vb i) K=K (N .u32 (l.getD i 0)):=by
 refine aF h ?_
 rw[lS,List.getElem?_map,List.getElem?_eq_getElem hi]
 simp[List.getD,hi]
theorem Jj {M:RM} {v:AV} {l:List Int} (h:Sl bI M v l) {i:Nat} (hi:i<l.length) {K:AV→Prop} : (aI v (N .i64 (i:Int)) 1 fun t=>ag M t K)=K (N .u32 (l.getD i 0)):=by
 obtain⟨c,o,_,_,hix,hld⟩:=h.Qd (i:Int) hi
 rw[hix,dM,hld _ rfl]
 have e:l[i]=l.getD i 0:=by simp[List.getD,hi]
 rw[← e]
 exact propext ⟨fun⟨v,e,k⟩=>by cases e; exact k,fun k=>⟨_,rfl,k⟩⟩
theorem Vh {M:RM} {v:AV} {l:List Int} (h:Sl bI M v l) {i:Nat} (hi:i<l.length) : ∃ c o,c<M.next∧(∀ {K:AV→Prop},aI v (N .i64 (i:Int)) 1 K=K (.ptr c o))∧M.cell c o=some (N .u32 (l.getD i 0)):=by
 obtain⟨c,o,hc,_,hix,hld⟩:=h.Qd (i:Int) hi
 have e:l[i]=l.getD i 0:=by simp[List.getD,hi]
 exact⟨c,o,hc,fun {K} => hix _ K,by rw[← e]; exact hld _ rfl⟩
theorem bV {M:RM} {c o:Nat} {x:AV} (h:M.cell c o=some x) {K:AV→Prop} : ag M (.ptr c o) K=K x:=by
 rw[dM,h]
 exact propext ⟨fun⟨v,e,k⟩=>by cases e; exact k,fun k=>⟨_,rfl,k⟩⟩
theorem oU {cs:List AV} {rest:List (Nat × Nat × AV)} {off:Nat} {k:IntKind} {n:Int} (h:off<cs.length) : lG cs ((off,1,N k n) :: rest)=lG (cs.set off (N k n)) rest:=by
 rw[lG,if_pos ⟨rfl,rfl,by omega⟩,List.set_eq_take_append_cons_drop,if_pos h,List.append_assoc]
 rfl
theorem abS {T:Nat} {a b c d e f g h:Int} {K:RB→(Nat→AV)→Prop} :
  bn T 8 [N .u32 0] [(0,1,N .u32 a),(1,1,N .u32 b),(2,1,N .u32 c),(3,1,N .u32 d),(4,1,N .u32 e),(5,1,N .u32 f),(6,1,N .u32 g),(7,1,N .u32 h)] K=K (.row (bI.row [a,b,c,d,e,f,g,h]) false T 0) (fun b=>.slc b 0 8 (.ex 8)):=by
 have:lG (ig [N .u32 0] 8) [(0,1,N .u32 a),(1,1,N .u32 b),(2,1,N .u32 c),(3,1,N .u32 d),(4,1,N .u32 e),(5,1,N .u32 f),(6,1,N .u32 g),(7,1,N .u32 h)]=some (bI.row [a,b,c,d,e,f,g,h]):=by
  have e0:ig [N .u32 0] 8=[N .u32 0,N .u32 0,N .u32 0,N .u32 0,N .u32 0,N .u32 0,N .u32 0,N .u32 0]:=rfl
  rw[e0]
  rw[oU (by simp)]
  simp only[List.set]
  rw[oU (by simp)]
  simp only[List.set]
  rw[oU (by simp)]
  simp only[List.set]
  rw[oU (by simp)]
  simp only[List.set]
  rw[oU (by simp)]
  simp only[List.set]
  rw[oU (by simp)]
  simp only[List.set]
  rw[oU (by simp)]
  simp only[List.set]
  rw[oU (by simp)]
  simp only[List.set]
  rfl
 apply propext; unfold bn
 constructor
 ·rintro⟨l,h,hk⟩; rw[this] at h; cases h; exact hk
 ·intro hk; exact⟨_,this,hk⟩
def OP (TU:Nat) (c:au) : Prop:=∀ {M:RM} {hv kv bv:AV} {h k:List Int} {b:Str} {Q:ak},Sl bI M hv h→h.length=8→Sl bI M kv k→k.length=64→Bs M bv b→b.length=64 →
 (∀ v' M',ae [] M M'→VS M' M.next TU v' (mM h k b)→Q v' M')→c [hv,kv,bv] M Q
theorem SK {TK TU:Nat} {ct:au} (ht:EU .u64 ct) : OP TU fun args M Q=>∃ a0 a1 a2,args=[a0,a1,a2]∧wI TK ct TU a0 a1 a2 M Q:=by
 intro M hv kv bv h k b Q hs hhl hk hkl hb hbl hQ
 refine⟨_,_,_,rfl, ?_⟩
 unfold wI
 refine gP (bI.row (List.replicate 64 0)) fun M0 k0 n0' e0=>?_
 have n0:M0.heap M.next=some (.row (bI.row (sched b 0++List.replicate (64 - 0) 0)) false TK 0):=n0'
 refine aG (fun m ys M4=>∃ i:Nat,m=64 - i∧ys=[N .i64 (i:Int)]∧i≤64∧ae [] M M4∧M.next<M4.next∧M4.heap M.next=some (.row (bI.row (sched b i++List.replicate (64 - i) 0)) false TK 0)) _
  ⟨0,rfl,rfl,by omega,k0,by omega,n0⟩ ?_
 rintro next m ys M4 hnext ⟨i,rfl,rfl,hi,k4,l4,n4⟩
 simp only[aC]
 rw[mi 64 (by rfl)]
 have hb4:=hb.keep k4 (by simp)
 refine aJ (fun hc=>?_) fun hc=>?_
 ·have lc:i<64:=of_decide_eq_true hc
  have hlen:(sched b i++List.replicate (64 - i) 0).length=64:=by rw[List.length_append,jN,List.length_replicate]; omega
  have e:=Dl b (i:=i) (by omega)
  rw[dW]
  refine dh (fun xs M5=>xs=[]∧ae [] M M5∧M.next<M5.next∧M5.heap M.next=some (.row (bI.row (sched b (i + 1)++List.replicate (64 - (i + 1)) 0)) false TK 0)) ?_ ?_
  ·rintro xs M5 ⟨rfl,k5,l5,n5⟩
   rw[fQ 1 (by omega) (by omega) (by rfl)]
   exact hnext _ _ _ (by omega) ⟨i + 1,rfl,rfl,by omega,k5,l5,n5⟩
  intro J hJ
  rw[mi 16 (by rfl)]
  refine aJ (fun hc=>?_) fun hc=>?_
  ·have GY:i<16:=of_decide_eq_true hc
   rw[En (by omega),hb4.yB (by omega),By,cZ,jM]
   refine⟨by decide, ?_⟩
   rw[En (by omega),fQ 1 (by omega) (by omega) (by rfl),hb4.yB (by omega),By,cZ,jM]
   refine⟨by decide, ?_⟩
   rw[dV,En (by omega),fQ 2 (by omega) (by omega) (by rfl),hb4.yB (by omega),By,cZ,jM]
   refine⟨by decide, ?_⟩
   rw[dV,En (by omega),fQ 3 (by omega) (by omega) (by rfl),hb4.yB (by omega),By,cZ,dV,cO rfl (by omega)]
   rw[if_pos GY] at e
   rw[sJ n4 (by omega)]
   refine hJ _ _ ⟨rfl,k4.new _ (Nat.le_refl _),l4, ?_⟩
   rw[aM,← e]
   rfl
  ·have GY:¬ i<16:=of_decide_eq_false hc
   rw[if_neg GY] at e
   have ld:∀ (j:Nat),j<i→∀ {K:AV→Prop},ag M4 (.ptr M.next j) K=K (N .u32 ((sched b i).getD j 0)):=fun j hj K=>by
    rw[oM n4 (by omega),Lx (by rw[jN]; exact hj)]
   have L15:∀ {K:AV→Prop},ag M4 (.ptr M.next (i - 15)) K=K (N .u32 ((sched b i).getD (i - 15) 0)):=ld _ (by omega)
   have L2:∀ {K:AV→Prop},ag M4 (.ptr M.next (i - 2)) K=K (N .u32 ((sched b i).getD (i - 2) 0)):=ld _ (by omega)
   have L16:∀ {K:AV→Prop},ag M4 (.ptr M.next (i - 16)) K=K (N .u32 ((sched b i).getD (i - 16) 0)):=ld _ (by omega)
   have L7:∀ {K:AV→Prop},ag M4 (.ptr M.next (i - 7)) K=K (N .u32 ((sched b i).getD (i - 7) 0)):=ld _ (by omega)
   rw[yM 15 (by omega) (by omega) (by rfl),cO rfl (by omega),L15,yM 2 (by omega) (by omega) (by rfl),cO rfl (by omega),L2,yM 16 (by omega) (by omega) (by rfl),cO rfl (by omega),L16,yM 7 (by omega) (by omega) (by rfl),cO rfl (by omega),L7,bz,iD]
   refine⟨by decide, ?_⟩
   rw[iD]
   refine⟨by decide, ?_⟩
   refine ht (by decide) ?_
   rw[L16]; refine⟨rfl, ?_⟩
   rw[L7]; refine⟨rfl, ?_⟩
   refine ht (by decide) ?_
   rw[L16]; refine⟨rfl, ?_⟩
   rw[L7]; refine⟨rfl, ?_⟩
   rw[dS,dS,bz]
   refine ht (by decide) ?_
   rw[L16]; refine⟨rfl, ?_⟩
   rw[L7]; refine⟨rfl, ?_⟩
   refine ht (by decide) ?_
   rw[L16]; refine⟨rfl, ?_⟩
   rw[L7]; refine⟨rfl, ?_⟩
   rw[dS,dS,bz,cO rfl (by omega),sJ n4 (by omega)]
   refine hJ _ _ ⟨rfl,k4.new _ (Nat.le_refl _),l4, ?_⟩
   rw[aM,← e]
   have ew:IK (sched b i) i=ed (ed (ed ((sched b i).getD (i - 16) 0) ((sched b i).getD (i - 7) 0)) (YY ((sched b i).getD (i - 15) 0))) (Y9 ((sched b i).getD (i - 2) 0)):=by
    unfold IK
    rw[U1 ((sched b i).getD (i - 16) 0)]
   rw[ew]
   rfl
 have lc:i=64:=by have:=of_decide_eq_false hc; omega
 subst lc
 clear hnext
 rw[Nat.sub_self,List.replicate_zero,List.append_nil] at n4
 have hwl:=jN b 64
 generalize hwe:sched b 64=w at *
 have hs4:Sl bI M4 hv h:=aD.keep hs k4 (by simp)
 have hk4:Sl bI M4 kv k:=aD.keep hk k4 (by simp)
 rw[BF,aL]
 have k5' : ae [] M4 (M4.push (.row [] false TU 0)):=(ae.refl _ _).push _
 refine iE (E:=bI) (Ow.lit bI M4) (by simp[RM.push]) (by decide) (aD.keep hs4 k5' (by simp)) (by simp; omega) (by simp; omega) fun v5 M5 o5 k5 _ _=>?_
 have k45:ae [] M4 M5:=ae.own k5' k5 (fun x hx=>by simp[ah] at hx; omega)
 rw[List.nil_append] at o5
 have acK:h≠[]:=fun e=>by rw[e] at hhl; cases hhl
 refine aG (fun m ys M6=>∃ (i:Nat) (v:AV),m=64 - i∧ys=[v,N .i64 (i:Int)]∧i≤64∧ae [] M4 M6∧VS M6 M4.next TU v (qy k w h i)) _
  ⟨0,v5,rfl,rfl,by omega,k45,Kl o5 acK⟩ ?_
 rintro next m ys M6 hnext ⟨i,v,rfl,rfl,hi,k6,hV⟩
 simp only[aC,bF]
 rw[mi 64 (by rfl)]
 have hk6:Sl bI M6 kv k:=aD.keep hk4 k6 (by simp)
 have n46:=k6.aB n4 l4 (by simp)
 have hrl:=AZ k w hhl i
 obtain⟨vb,pp,cap,rfl,nv,hvb,lvb⟩:=hV.ex
 rw[hrl]
 refine aJ (fun hc=>?_) fun hc=>?_
 ·have lc:i<64:=of_decide_eq_true hc
  have hstep:qy k w h (i + 1)=PV (qy k w h i) (k.getD i 0) (w.getD i 0):=rfl
  obtain⟨va,vb',vc,vd,ve,vf,vg,vh,hv'⟩:=eight hrl
  rw[hv'] at nv hstep
  have hrow:bI.row [va,vb',vc,vd,ve,vf,vg,vh]=[N .u32 va,N .u32 vb',N .u32 vc,N .u32 vd,N .u32 ve,N .u32 vf,N .u32 vg,N .u32 vh]:=rfl
  rw[hrow] at nv
  have I0:∀ {K:AV→Prop},aI (.slc vb 0 8 cap) (N .i64 0) 1 K=K (.ptr vb 0):=zF rfl (by omega)
  have I1:∀ {K:AV→Prop},aI (.slc vb 0 8 cap) (N .i64 1) 1 K=K (.ptr vb 1):=zF rfl (by omega)
  have I2:∀ {K:AV→Prop},aI (.slc vb 0 8 cap) (N .i64 2) 1 K=K (.ptr vb 2):=zF rfl (by omega)
  have I3:∀ {K:AV→Prop},aI (.slc vb 0 8 cap) (N .i64 3) 1 K=K (.ptr vb 3):=zF rfl (by omega)
  have I4:∀ {K:AV→Prop},aI (.slc vb 0 8 cap) (N .i64 4) 1 K=K (.ptr vb 4):=zF rfl (by omega)
  have I5:∀ {K:AV→Prop},aI (.slc vb 0 8 cap) (N .i64 5) 1 K=K (.ptr vb 5):=zF rfl (by omega)
  have I6:∀ {K:AV→Prop},aI (.slc vb 0 8 cap) (N .i64 6) 1 K=K (.ptr vb 6):=zF rfl (by omega)
  have I7:∀ {K:AV→Prop},aI (.slc vb 0 8 cap) (N .i64 7) 1 K=K (.ptr vb 7):=zF rfl (by omega)
  have L0:∀ {K:AV→Prop},ag M6 (.ptr vb 0) K=K (N .u32 va):=aF nv rfl
  have L1:∀ {K:AV→Prop},ag M6 (.ptr vb 1) K=K (N .u32 vb'):=aF nv rfl
  have L2:∀ {K:AV→Prop},ag M6 (.ptr vb 2) K=K (N .u32 vc):=aF nv rfl
  have L3:∀ {K:AV→Prop},ag M6 (.ptr vb 3) K=K (N .u32 vd):=aF nv rfl
  have L4:∀ {K:AV→Prop},ag M6 (.ptr vb 4) K=K (N .u32 ve):=aF nv rfl
  have L5:∀ {K:AV→Prop},ag M6 (.ptr vb 5) K=K (N .u32 vf):=aF nv rfl
  have L6:∀ {K:AV→Prop},ag M6 (.ptr vb 6) K=K (N .u32 vg):=aF nv rfl
  have L7:∀ {K:AV→Prop},ag M6 (.ptr vb 7) K=K (N .u32 vh):=aF nv rfl
  obtain⟨kc,ko,_,Ik,hkc⟩:=Vh hk6 (i:=i) (by omega)
  have Iw:∀ {K:AV→Prop},bN (.ptr M.next 0) (N .i64 (i:Int)) 64 1 K=K (.ptr M.next i):=cO rfl lc
  have Lk:∀ {K:AV→Prop},ag M6 (.ptr kc ko) K=K (N .u32 (k.getD i 0)):=bV hkc
  have Lw:∀ {K:AV→Prop},ag M6 (.ptr M.next i) K=K (N .u32 (w.getD i 0)):=oM n46 (by omega)
  simp only[I0,I1,I2,I3,I4,I5,I6,I7,L0,L1,L2,L3,L4,L5,L6,L7,Ik,Iw,Lk,Lw,dB,dV,dS,bz,il,true_and]
  refine ht (by decide) ?_
  simp only[I0,I1,I2,I3,I4,I5,I6,I7,L0,L1,L2,L3,L4,L5,L6,L7,Ik,Iw,Lk,Lw,dB,dV,dS,bz,il,true_and]
  refine ht (by decide) ?_
  simp only[I0,I1,I2,I3,I4,I5,I6,I7,L0,L1,L2,L3,L4,L5,L6,L7,Ik,Iw,Lk,Lw,dB,dV,dS,bz,il,true_and]
  refine ht (by decide) ?_
  simp only[I0,I1,I2,I3,I4,I5,I6,I7,L0,L1,L2,L3,L4,L5,L6,L7,Ik,Iw,Lk,Lw,dB,dV,dS,bz,il,true_and]
  refine ht (by decide) ?_
  simp only[I0,I1,I2,I3,I4,I5,I6,I7,L0,L1,L2,L3,L4,L5,L6,L7,Ik,Iw,Lk,Lw,dB,dV,dS,bz,il,true_and]
  refine ht (by decide) ?_
  simp only[I0,I1,I2,I3,I4,I5,I6,I7,L0,L1,L2,L3,L4,L5,L6,L7,Ik,Iw,Lk,Lw,dB,dV,dS,bz,il,true_and]
  refine ht (by decide) ?_
  simp only[I0,I1,I2,I3,I4,I5,I6,I7,L0,L1,L2,L3,L4,L5,L6,L7,Ik,Iw,Lk,Lw,dB,dV,dS,bz,il,true_and]
  rw[abS,ru,show(IntKind.i64.wrap ((i:Int) + 1))=((i + 1:Nat) : Int) from mK (by omega)]
  have k7:ae [] M6 (M6.push (.row (bI.row (PV [va,vb',vc,vd,ve,vf,vg,vh] (k.getD i 0) (w.getD i 0))) false TU 0)):=(ae.refl _ _).push _
  refine hnext _ _ (M6.push (.row (bI.row (PV [va,vb',vc,vd,ve,vf,vg,vh] (k.getD i 0) (w.getD i 0))) false TU 0)) (by omega) ⟨i + 1,.slc M6.next 0 8 (.ex 8),rfl,rfl,by omega,k6.trans k7, ?_⟩
  rw[hstep]
  refine⟨M6.next,false,.ex 8,by rw[QG rfl],by simp[RM.push],k6.next,by simp[RM.push]⟩
 have lc:i=64:=by have:=of_decide_eq_false hc; omega
 subst lc
 clear hnext
 have hbf:mM h k b=List.zipWith ed h (qy k w h 64):=by
  unfold mM
  rw[hwe]
 rw[hbf] at hQ
 generalize qy k w h 64=v at *
 have k46:=k4.trans k6
 have n4x:=k4.next
 have hs6:Sl bI M6 hv h:=aD.keep hs k46 (by simp)
 have hnv:∀ x∈ah hv,x ∉ [vb]:=fun x hx hm=>by
  have:=aD.lt hs x hx
  simp at hm; omega
 refine aG (fun m ys M7=>∃ j:Nat,m=8 - j∧ys=[N .i64 (j:Int)]∧j≤8∧ae [vb] M6 M7∧M7.heap vb=some (.row (bI.row ((List.zipWith ed h v).take j++v.drop j)) pp TU 0)) _
  ⟨0,rfl,rfl,by omega,ae.refl _ _,by rw[List.take_zero,List.drop_zero]; exact nv⟩ ?_
 rintro next m ys M7 hnext ⟨j,rfl,rfl,hj,k7,s7⟩
 simp only[aC]
 rw[mi 8 (by rfl)]
 have hs7:Sl bI M7 hv h:=aD.keep hs6 k7 hnv
 have zc:List.zipWith ed h v=List.zipWith ed v h:=List.zipWith_comm_of_comm UM
 rw[zc] at s7
 refine aJ (fun hc=>?_) fun hc=>?_
 ·have hj8:j<8:=of_decide_eq_true hc
  have hl7:=PY (v:=h) (h:=v) (Nat.le_of_lt hj8) hrl hhl
  rw[zF rfl (by omega),YS s7 (by omega),Jj hs7 (by omega),bz,zF rfl (by omega),VI s7 (by omega),fQ 1 (by omega) (by omega) (by rfl)]
  refine hnext _ _ _ (by omega) ⟨j + 1,rfl,rfl,by omega,k7.put _ (.inr (by simp)), ?_⟩
  rw[aM,P6 hj8 hrl hhl,zc,← Nz hj8 hrl hhl]
  rfl
 ·have hj8:j=8:=by have:=of_decide_eq_false hc; omega
  subst hj8
  have hzl:(List.zipWith ed v h).length=8:=by rw[List.length_zipWith,hrl,hhl]; rfl
  rw[List.drop_of_length_le (by omega),List.append_nil,List.take_of_length_le (by omega),← zc] at s7
  have aev:(List.zipWith ed h v).length=8:=by rw[zc]; exact hzl
  exact hQ _ M7 (BC k46 k7 (by omega)) ⟨vb,pp,cap,by rw[aev],s7,by omega,Nat.lt_of_lt_of_le lvb k7.next⟩
def Ky (TU:Nat) (c:au) : Prop:=∀ {M:RM} {Q:ak},(∀ hv kv M',ae [] M M'→VS M' M.next TU hv hW→VS M' M.next TU kv kW→Q (.tup [hv,kv]) M')→c [] M Q
theorem Pn {T32 TU T8:Nat} {cc cb:au} (hc:Ky TU cc) (hB:OP TU cb) : CZ fun args M Q=>∃ a0,args=[a0]∧A7 T32 cc T8 cb a0 M Q:=by
 intro M v b Q hv hl hQ
 refine⟨_,rfl, ?_⟩
 unfold A7
 refine gP (BY.row (List.replicate 32 0)) fun M1 k1 n1 e1=>?_
 refine hc fun hv2 kv M2 k2 hH hK=>?_
 simp only[cz,dD]
 have k02:=k1.trans k2
 rw[BF,aL]
 have k3' : ae [] M2 (M2.push (.row [] false T8 0)):=(ae.refl _ _).push _
 have aaM:=hv.keep k02 (by simp)
 refine iE (E:=BY) (Ow.lit BY M2) (by simp[RM.push]) (by decide) (aaM.keep k3' (by simp)).sl (by simp; omega) (by simp; omega) fun v3 M3 o3 k3 _ _=>?_
 have k23:ae [] M2 M3:=ae.own k3' k3 (fun x hx=>by simp[ah] at hx; omega)
 rw[List.nil_append] at o3
 rw[fq (by rfl) (by rfl) (by rfl),aL]
 refine fP (E:=BY) (a:=(128:UInt8)) o3 k23.next (by decide) (by omega) (by omega) fun v4 M4 o4 k4 _ _=>?_
 have k24:ae [] M2 M4:=ae.own k23 k4 (fun x hx=>(Own.blk o3 x hx).1)
 have hzp:zp b.length<64:=Nat.mod_lt _ (by decide)
 have hz:(b.length + 1 + zp b.length) % 64=56:=by unfold zp; omega
 refine aG (fun m ys M10=>∃ (i:Nat) (rv:AV),m=zp b.length - i∧ys=[rv]∧i≤zp b.length∧ae [] M2 M10∧Ow BY M10 M2.next T8 rv (b++128 :: List.replicate i 0)) _
  ⟨0,v4,rfl,rfl,by omega,k24,o4⟩ ?_
 rintro next m ys M10 hnext ⟨i,rv,rfl,rfl,hi,k10,o10⟩
 simp only[aC]
 have hrl:(b++128 :: List.replicate i 0).length=b.length + 1 + i:=by simp; omega
 rw[aD.len (Own.gJ o10),hrl,oG]
 refine⟨by decide, ?_⟩
 rw[show(((b.length + 1 + i:Nat) : Int)).tmod 64=(((b.length + 1 + i) % 64:Nat) : Int) by rw[Int.natCast_emod]; exact Int.tmod_eq_emod_of_nonneg (by omega),bX]
 refine aJ (fun hc=>?_) fun hc=>?_
 ·have hne:(b.length + 1 + i) % 64≠56:=fun e=>by rw[e] at hc; cases hc
  have hlt:i<zp b.length:=by
   rcases Nat.lt_or_ge i (zp b.length) with h | h
   ·exact h
   ·have:i=zp b.length:=by omega
    subst this; exact absurd hz hne
  rw[fq (by rfl) (by rfl) (by rfl),aL]
  refine fP (E:=BY) (a:=(0:UInt8)) o10 k10.next (by decide) (by omega) (by omega) fun v11 M11 o11 k11 _ _=>?_
  refine hnext _ _ _ (by omega) ⟨i + 1,v11,rfl,rfl,by omega,ae.own k10 k11 (fun x hx=>(Own.blk o10 x hx).1), ?_⟩
  have e:b++128 :: List.replicate (i + 1) 0=b++128 :: List.replicate i 0++[0]:=by rw[List.replicate_succ']; simp
  rw[e]; exact o11
 have adR:(b.length + 1 + i) % 64=56:=by
  have:((((b.length + 1 + i) % 64:Nat) : Int) != 56)=false:=hc
  have:=bne_eq_false_iff_eq.1 this
  omega
 have hiz:i=zp b.length:=by omega
 subst hiz
 clear hnext
 have DZ:=aaM.keep k10 (by simp)
 rw[DZ.len,cZ,bZ (by omega) (by omega),fK,bZ (by omega) (by omega),show((b.length:Int) * 8)=((8 * b.length:Nat) : Int) by omega]
 generalize hpre:b++128 :: List.replicate (zp b.length) 0=P at *
 refine aG (fun m ys M11=>∃ (i:Nat) (rv:AV),m=8 - i∧ys=[rv,N .i64 (7 - (i:Int))]∧i≤8∧ae [] M2 M11∧Ow BY M11 M2.next T8 rv (P++(lV b.length).take i)) _
  ⟨0,rv,rfl,rfl,by omega,k10,by rw[List.take_zero,List.append_nil]; exact o10⟩ ?_
 rintro next m ys M11 hnext ⟨i,rv2,rfl,rfl,hi,k11,o11⟩
 simp only[aC,bF]
 have hll:((lV b.length).take i).length=i:=by rw[List.length_take]; simp[lV]; omega
 have hpl:(P++(lV b.length).take i).length=b.length + 1 + zp b.length + i:=by rw[List.length_append,hrl,hll]
 rw[fV]
 refine aJ (fun hc=>?_) fun hc=>?_
 ·have hi8:i<8:=by have:=of_decide_eq_true hc; omega
  rw[fK,aP (by omega) (by omega),cZ,bZ (by omega) (by omega),iD]
  refine⟨by omega, ?_⟩
  rw[cZ,show(8 * (7 - (i:Int)))=((56 - 8 * i:Nat) : Int) by omega,EL,fq (by rfl) (by rfl) (by rfl),aL]
  refine fP (E:=BY) (a:=FT (jK .u64 ((8 * b.length:Nat) : Int) ((56 - 8 * i:Nat) : Int))) o11 k11.next (by decide) (by omega) (by omega) fun v12 M12 o12 k12 _ _=>?_
  rw[gM,aP (by omega) (by omega)]
  refine hnext _ _ _ (by omega) ⟨i + 1,v12,rfl,by congr 2; congr 1; omega,by omega,ae.own k11 k12 (fun x hx=>(Own.blk o11 x hx).1), ?_⟩
  rw[NA hi8,← List.append_assoc]
  exact o12
 have hi8:i=8:=by have:=of_decide_eq_false hc; omega
 subst hi8
 clear hnext
 rw[List.take_of_length_le (by simp[lV])] at o11 hpl
 have hfull:P++lV b.length=b++tq b.length:=by rw[← hpre]; simp[tq]
 rw[hfull] at o11 hpl
 have hrest:(b++tq b.length).length=b.length + 9 + zp b.length:=by rw[hpl]; omega
 have SC:qG b=kg (dx kW ((b.length + 9 + zp b.length) / 64) hW (b++tq b.length)):=rfl
 generalize hRe:b++tq b.length=R at *
 obtain⟨n,hn⟩ : ∃ n,b.length + 9 + zp b.length=64 * n:=⟨(b.length + 9 + zp b.length) / 64,by omega⟩
 rw[hn] at hrest
 rw[hn,Nat.mul_div_cancel_left _ (by decide)] at SC
 have WW:=Bs.own o11
 refine aG (fun m ys M12=>∃ (i:Nat) (w:AV),m=n - i∧ys=[w,N .i64 ((i * 64:Nat) : Int)]∧i≤n∧ae [] M11 M12∧VS M12 M1.next TU w (dx kW i hW R)) _
  ⟨0,hv2,rfl,rfl,by omega,ae.refl _ _,hH.keep k11⟩ ?_
 rintro next m ys M12 hnext ⟨i,w,rfl,rfl,hi,k12,hw⟩
 simp only[aC,bF]
 have Oa:=WW.keep k12 (by simp)
 have adI:=(hK.keep k11).keep k12
 have hFl:(dx kW i hW R).length=8:=nT Ji
 rw[Oa.len,fE]
 refine aJ (fun hc=>?_) fun hc=>?_
 ·have hin:i<n:=by have:=of_decide_eq_true hc; omega
  rw[fQ 64 (by omega) (by omega) (by rfl)]
  refine Oa.sub (sP _ _ _) (sP _ _ _) (by omega) (by omega) fun v13 h13 aeh=>?_
  rw[show i * 64 + 64 - i * 64=64 by omega] at h13
  refine hB hw.sl hFl adI.sl Dt h13 (by rw[List.length_take,List.length_drop]; omega) fun v14 M13 k13 h14=>?_
  rw[fQ 64 (by omega) (by omega) (by rfl),show i * 64 + 64=(i + 1) * 64 by omega]
  refine hnext _ _ _ (by omega) ⟨i + 1,v14,rfl,rfl,by omega,k12.trans k13, ?_⟩
  rw[wN,Nat.mul_comm 64]
  exact h14.mono (Nat.le_trans k2.next (Nat.le_trans k11.next k12.next))
 have hin:i=n:=by have:=of_decide_eq_false hc; omega
 subst hin
 clear hnext
 generalize dx kW i hW R=F at *
 have hdF:=Gg F
 have Vn:=k11.trans k12
 have n112:=(k2.trans Vn).aB n1 (by omega) (by simp)
 have WN:M.next<M12.next:=Nat.lt_of_lt_of_le (by omega:M.next<M1.next) (k2.trans Vn).next
 refine gP (BY.row (List.replicate 32 0)) fun M14 k14 n14' e14=>?_
 have n14:M14.heap M12.next=some (.row (BY.row ((kg F).take 0++List.replicate (32 - 0) 0)) false T32 0):=n14'
 refine aG (fun m ys M15=>∃ i:Nat,m=32 - i∧ys=[N .i64 (i:Int)]∧i≤32∧ae [] M12 M15∧M12.next<M15.next∧M15.heap M12.next=some (.row (BY.row ((kg F).take i++List.replicate (32 - i) 0)) false T32 0)) _
  ⟨0,rfl,rfl,by omega,k14,by omega,n14⟩ ?_
 rintro next m ys M15 hnext ⟨i',rfl,rfl,hi',k15,Vr,n15'⟩
 simp only[aC]
 have adM:=hw.keep k15
 rw[mi 32 (by rfl)]
 refine aJ (fun hc=>?_) fun hc=>?_
 ·have kK:i'<32:=of_decide_eq_true hc
  rw[qY]
  refine⟨by decide, ?_⟩
  rw[show IntKind.i64.wrap (((i' : Nat) : Int).tdiv 4)=((i' / 4:Nat) : Int) by
   rw[show((i' : Nat) : Int).tdiv 4=((i' / 4:Nat) : Int) by rw[Int.natCast_ediv]; exact Int.tdiv_eq_ediv_of_nonneg (by omega)]
   exact aP (by omega) (by omega)]
  rw[Jj adM.sl (by omega),oG]
  refine⟨by decide, ?_⟩
  rw[show(((i' : Nat) : Int)).tmod 4=((i' % 4:Nat) : Int) by rw[Int.natCast_emod]; exact Int.tmod_eq_emod_of_nonneg (by omega),fK,aP (by omega) (by omega),gM,aP (by omega) (by omega),cZ,bZ (by omega) (by omega),iD]
  refine⟨by omega, ?_⟩
  rw[cZ,EL,cO rfl kK,show(24 - 8 * ((i' % 4:Nat) : Int))=((24 - 8 * (i' % 4) : Nat) : Int) by omega]
  have hget:(kg F)[i']?=some (FT (jK .u32 (F.getD (i' / 4) 0) ((24 - 8 * (i' % 4) : Nat) : Int))):=by
   simp[kg,kK]
  have hset:=Oy kK hdF hget
  have Zj:((kg F).take i'++List.replicate (32 - i') 0).length=32:=by rw[List.length_append,List.length_take,List.length_replicate]; omega
  rw[gT (BY.row ((kg F).take (i' + 1)++List.replicate (32 - (i' + 1)) 0)) n15' (by rw[fT]; omega) rfl rfl (by rw[← hset,lJ,lJ,List.map_set]),fQ 1 (by omega) (by omega) (by rfl)]
  exact hnext _ _ _ (by omega) ⟨i' + 1,rfl,rfl,by omega,k15.new _ (Nat.le_refl _),Vr,aM _⟩
 ·have kK:i'=32:=by have:=of_decide_eq_false hc; omega
  subst kK
  have e:(kg F).take 32++List.replicate (32 - 32) 0=kg F:=by rw[List.take_of_length_le (by omega)]; simp
  rw[e] at n15'
  have n115:=k15.aB n112 WN (by simp)
  rw[eH n15' (by rw[fT,hdF]),lK n115 (by rw[fT,hdF]) (by rw[fT,List.length_replicate]) (BY.dF _),eH (aM _) (by rw[fT,hdF]),← SC]
  exact hQ _ ((k02.trans (Vn.trans k15)).new _ (Nat.le_refl _))
def Lg (n:Nat) : Bool:=(List.range n).all fun d=>!(decide (2≤d) && decide (d * d≤n) && decide (n % d=0))
def NL (c:au) : Prop:=∀ {M:RM} {n:Nat} {Q:ak},2≤n→n<100000→Q (Bo (Lg n)) M→c [N .i64 (n:Int)] M Q
theorem RN:NL fun args M Q=>∃ a0,args=[a0]∧uQ a0 M Q:=by
 intro M n Q h2 hn hQ
 refine⟨_,rfl, ?_⟩
 unfold uQ
 refine aG (fun m ys M3=>∃ d:Nat,m=1000 - d∧ys=[N .i64 (d:Int)]∧2≤d∧d<1000∧(∀ e,2≤e→e<d→n % e≠0)∧M3=M) _ ⟨2,rfl,rfl,by omega,by omega,fun e h1 h2=>by omega,rfl⟩ ?_
 rintro next m ys M3 hnext ⟨d,rfl,rfl,hd2,hdl,hne,rfl⟩
 simp only[aC]
 have hdd:d * d≤999 * 999:=Nat.mul_le_mul (by omega) (by omega)
 rw[fK,show((d:Int) * (d:Int))=((d * d:Nat) : Int) by rw[Int.natCast_mul],aP (by omega) (by omega),adw]
 refine aJ (fun hc=>?_) fun hc=>?_
 ·have hc:=of_decide_eq_true hc
  rw[oG]
  refine⟨by omega, ?_⟩
  rw[show((n:Int)).tmod (d:Int)=((n % d:Nat) : Int) by rw[Int.natCast_emod]; exact Int.tmod_eq_emod_of_nonneg (by omega),show(N .i64 0)=N .i64 ((0:Nat) : Int) from rfl,aeb]
  have hdn:d<n:=by
   have:d * 2≤d * d:=Nat.mul_le_mul_left d hd2
   omega
  refine aJ (fun h=>?_) fun h=>?_
  ·have h:=of_decide_eq_true h
   have:Lg n=false:=by
    unfold Lg
    rw[List.all_eq_false]
    refine⟨d,List.mem_range.2 hdn, ?_⟩
    simp[hd2,hc,h]
   rw[← this]; exact hQ
  ·have h:=of_decide_eq_false h
   have hd316:d<400:=by
    rcases Nat.lt_or_ge d 400 with h | h
    ·exact h
    ·have:=Nat.mul_le_mul h h; omega
   rw[add1 (by omega)]
   refine hnext _ _ _ (by omega) ⟨d + 1,rfl,rfl,by omega,by omega,fun e h1 h3=>?_,rfl⟩
   rcases Nat.lt_or_ge e d with h4 | h4
   ·exact hne e h1 h4
   ·have:e=d:=by omega
    rw[this]; exact h
 ·have hc:=of_decide_eq_false hc
  rw[fZ,show decide ((n:Int) > 1)=true from decide_eq_true (by omega)]
  have:Lg n=true:=by
   unfold Lg
   rw[List.all_eq_true]
   intro e he
   by_cases h1:2≤e
   ·by_cases h3:e * e≤n
    ·have hed:e<d:=by
      rcases Nat.lt_or_ge e d with h | h
      ·exact h
      ·have:=Nat.mul_le_mul h h; omega
     have:=hne e h1 hed
     simp[this]
    ·simp[h3]
   ·simp[h1]
  rw[← this]; exact hQ
def pl (i:Nat) : List Nat:=(List.range i).filter fun n=>decide (2≤n) && Lg n
def kX:List Nat:=[2,3,5,7,11,13,17,19,23,29,31,37,41,43,47,53,59,61,67,71,73,79,83,89,97,101,103,107,109,113,127,131,137,139,149,151,157,163,167,173,179,181,191,193,197,199,211,223,227,229,233,239,241,251,257,263,269,271,277,281,283,293,307,311]
theorem TH:pl 312=kX:=by decide +kernel
theorem zZ:kX.length=64:=by decide
theorem QD {i:Nat} (h:2≤i) : pl (i + 1)=pl i++(if Lg i=true then[i] else[]):=by
 unfold pl
 rw[List.range_succ,List.filter_append]
 congr 1
 cases hp:Lg i <;> simp[hp,h]
theorem aaB {i:Nat} (h:i≤312) : pl i <+: kX:=by
 rw[← TH]
 unfold pl
 have:List.range i <+: List.range 312:=by
  rw[show 312=i + (312 - i) by omega,List.range_add]
  exact List.prefix_append _ _
 exact this.filter _
def Lh:Enc Nat:=⟨1,fun n=>[N .i64 (n:Int)],fun _=>rfl,fun _=>rfl⟩
def Kh (TI:Nat) (c:au) : Prop:=∀ {M:RM} {Q:ak},(∀ v' M',ae [] M M'→Sl Lh M' v' kX→Q v' M')→c [N .i64 64] M Q
theorem PL {TI:Nat} {cp:au} (hp:NL cp) : Kh TI fun args M Q=>∃ a0,args=[a0]∧tF TI cp a0 M Q:=by
 intro M Q hQ
 refine⟨_,rfl, ?_⟩
 unfold tF
 refine xJ ?_
 show aO _ _ _ _
 rw[aL]
 have k0:ae [] M (M.push (.row [] false TI 0)):=(ae.refl _ _).push _
 refine aG (fun m ys M3=>∃ (i:Nat) (v:AV),m=312 - i∧ys=[v,N .i64 (i:Int)]∧2≤i∧i≤312∧ae [] M M3∧Ow Lh M3 M.next TI v (pl i)) _ ⟨2,_,rfl,rfl,by omega,by omega,k0,Ow.lit Lh M⟩ ?_
 rintro next m ys M3 hnext ⟨i,v,rfl,rfl,hi2,hi,k3,o3⟩
 simp only[aC,bF]
 have hpre:=aaB hi
 have hle:=hpre.length_le
 rw[zZ] at hle
 rw[aD.len (Own.gJ o3),show(N .i64 64)=N .i64 ((64:Nat) : Int) from rfl,fE]
 refine aJ (fun hc=>?_) fun hc=>?_
 ·have hc:=of_decide_eq_true hc
  have hi312:i<312:=by
   rcases Nat.lt_or_ge i 312 with h | h
   ·exact h
   ·have:i=312:=by omega
    subst this
    rw[TH,zZ] at hc
    omega
  rw[dW]
  refine dh (fun xs M4=>∃ v',xs=[v']∧ae [] M M4∧Ow Lh M4 M.next TI v' (pl (i + 1))) ?_ ?_
  ·rintro xs M4 ⟨v',rfl,k4,o4⟩
   simp only[aC]
   rw[add1 (by omega)]
   exact hnext _ _ _ (by omega) ⟨i + 1,v',rfl,rfl,by omega,by omega,k4,o4⟩
  ·intro J hJ
   refine hp hi2 (by omega) ?_
   refine aJ (fun h=>?_) fun h=>?_
   ·rw[fq (by rfl) (by rfl) (by rfl),aL]
    refine fP (E:=Lh) (a:=i) o3 k3.next (by decide) (by omega) (by omega) fun v4 M4 o4 k4 _ _=>?_
    refine hJ _ _ ⟨v4,rfl,ae.own k3 k4 (fun x hx=>(Own.blk o3 x hx).1), ?_⟩
    rw[QD hi2,if_pos h]; exact o4
   ·refine hJ _ _ ⟨v,rfl,k3, ?_⟩
    rw[QD hi2,if_neg (by rw[h]; decide),List.append_nil]; exact o3
 ·have hc:=of_decide_eq_false hc
  have:pl i=kX:=hpre.eq_of_length (by rw[zZ]; omega)
  rw[this] at o3
  exact hQ v M3 k3 (Own.gJ o3)
def val:List Nat→Nat
 | []=>0
 | x :: xs=>x + 65536 * val xs
theorem J6:∀ (l r:List Nat),val (l++r)=val l + 65536 ^ l.length * val r
 | [],r=>by simp[val]
 | x :: l,r=>by
   rw[List.cons_append,val,J6 l r,val,List.length_cons,Nat.pow_succ,Nat.mul_add,Nat.mul_comm (65536 ^ l.length) 65536,Nat.mul_assoc]
   omega
theorem BA {l:List Nat} {i:Nat} (h:i<l.length) : val (l.take (i + 1))=val (l.take i) + 65536 ^ i * l.getD i 0:=by
 have hl:(l.take i).length=i:=by rw[List.length_take]; omega
 rw[List.take_succ_eq_append_getElem h,J6,hl]
 simp[val,List.getD,h]
theorem DK {l:List Nat} (i:Nat) (h:i≤l.length) : val l=val (l.take i) + 65536 ^ i * val (l.drop i):=by
 have hl:(l.take i).length=i:=by rw[List.length_take]; omega
 conv=>lhs; rw[← List.take_append_drop i l,J6,hl]
theorem JR:∀ {l:List Nat} {i:Nat} (x:Nat),i<l.length→val (l.set i x) + 65536 ^ i * l.getD i 0=val l + 65536 ^ i * x
 | [],i,x,h=>by simp at h
 | y :: l,0,x,h=>by simp[val]; omega
 | y :: l,i + 1,x,h=>by
   have ih:=JR (l:=l) (i:=i) x (by simpa using h)
   rw[List.set_cons_succ,val,val,Nat.pow_succ,show(y :: l).getD (i + 1) 0=l.getD i 0 from rfl]
   have e1:65536 ^ i * 65536 * l.getD i 0=65536 * (65536 ^ i * l.getD i 0):=by rw[Nat.mul_comm (65536 ^ i) 65536,Nat.mul_assoc]
   have e2:65536 ^ i * 65536 * x=65536 * (65536 ^ i * x):=by rw[Nat.mul_comm (65536 ^ i) 65536,Nat.mul_assoc]
   rw[e1,e2]
   generalize 65536 ^ i * l.getD i 0=p at *
   generalize 65536 ^ i * x=q at *
   omega
def tQ (l:List Nat) : Prop:=l.length=8∧∀ x∈l,x<65536
theorem OY:∀ {l:List Nat},(∀ x∈l,x<65536)→val l<65536 ^ l.length
 | [],_=>by simp[val]
 | x :: l,h=>by
   have h1:=OY (l:=l) fun y hy=>h y (List.mem_cons_of_mem _ hy)
   have h2:=h x List.mem_cons_self
   rw[val,List.length_cons,Nat.pow_succ,Nat.mul_comm (65536 ^ l.length) 65536]
   have:65536 * (val l + 1)≤65536 * 65536 ^ l.length:=Nat.mul_le_mul_left _ h1
   rw[Nat.mul_add] at this
   omega
theorem getD_lt {l:List Nat} (h:∀ x∈l,x<65536) (i:Nat) : l.getD i 0<65536:=by
 rw[List.getD_eq_getElem?_getD]
 rcases hi:l[i]? with _ | x
 ·show 0<65536; decide
 ·exact h x (List.mem_of_getElem? hi)
def fe:Enc Nat:=⟨1,fun n=>[N .u64 (n:Int)],fun _=>rfl,fun _=>rfl⟩
theorem pq (xs:List Nat) : fe.row xs=xs.map (fun n:Nat=>N .u64 (n:Int)):=by
 induction xs with
 | nil=>rfl
 | cons x xs ih=>rw[Enc.iw,ih]; rfl
theorem eU (xs:List Nat) : (fe.row xs).length=xs.length:=by rw[pq,List.length_map]
section
variable {M:RM} {b T:Nat} {ws:List Nat}
theorem wP (h:M.heap b=some (.row (fe.row ws) false T 0)) {i:Nat} (hi:i<ws.length) {K:AV→Prop} : ag M (.ptr b i) K=K (N .u64 (ws.getD i 0:Nat)):=by
 refine aF h ?_
 rw[pq,List.getElem?_map,List.getElem?_eq_getElem hi]
 simp[List.getD,hi]
theorem Ew (h:M.heap b=some (.row (fe.row ws) false T 0)) {i:Nat} (hi:i<ws.length) (x:Nat) {K:RM→Prop} : aS M (.ptr b i) (N .u64 (x:Int)) 1 K=K (M.put b (.row (fe.row (ws.set i x)) false T 0)):=by
 refine gT _ h (by rw[eU]; exact hi) rfl rfl ?_
 rw[pq,pq,List.map_set]
end
theorem Rj {n:Nat} (h:n<18446744073709551616) : nI .u64 (n:Int) 65535=((n % 65536:Nat) : Int):=by
 unfold nI
 have e:(BitVec.ofInt IntKind.u64.bits (n:Int) &&& BitVec.ofInt IntKind.u64.bits 65535).toNat=n % 65536:=by
  show(BitVec.ofInt 64 (n:Int) &&& BitVec.ofInt 64 65535).toNat=_
  rw[BitVec.toNat_and,BitVec.ofInt_natCast,BitVec.toNat_ofNat,Nat.mod_eq_of_lt (show n<2 ^ 64 by omega)]
  have:(BitVec.ofInt 64 65535).toNat=2 ^ 16 - 1:=by decide
  rw[this,Nat.and_two_pow_sub_one_eq_mod]
 rw[e,bZ (by omega) (by omega)]
theorem RO {n k:Nat} (hk:k<64) : jK .u64 (n:Int) (k:Int)=((n / 2 ^ k:Nat) : Int):=by
 unfold jK
 have:min (Int.toNat (k:Int)) IntKind.u64.bits=k:=by
  rw[Int.toNat_natCast]; exact Nat.min_eq_left (Nat.le_of_lt hk)
 rw[this]
 rw[show((2:Int) ^ k)=((2 ^ k:Nat) : Int) by rw[Int.natCast_pow]; rfl,Int.fdiv_eq_ediv_of_nonneg _ (Int.natCast_nonneg _)]
 rfl
def MP (c:au) : Prop:=∀ {M:RM} {a b:List Nat} {Q:ak},tQ a→tQ b→(∀ M',ae [] M M'→Q (Bo (decide (val a > val b))) M')→c [.agg (fe.row a),.agg (fe.row b)] M Q
theorem UL {a b:List Nat} (ha:tQ a) (hb:tQ b) {i:Nat} (hi:i<8) (he:a.drop (i + 1)=b.drop (i + 1)) (hne:a.getD i 0≠b.getD i 0) : decide (val a > val b)=decide (a.getD i 0 > b.getD i 0):=by
 have ea:=DK (l:=a) (i + 1) (by rw[ha.1]; omega)
 have eb:=DK (l:=b) (i + 1) (by rw[hb.1]; omega)
 rw[BA (by rw[ha.1]; exact hi)] at ea
 rw[BA (by rw[hb.1]; exact hi),← he] at eb
 have la:=OY (l:=a.take i) fun x hx=>ha.2 x (List.mem_of_mem_take hx)
 have lb:=OY (l:=b.take i) fun x hx=>hb.2 x (List.mem_of_mem_take hx)
 rw[List.length_take,ha.1,Nat.min_eq_left (by omega)] at la
 rw[List.length_take,hb.1,Nat.min_eq_left (by omega)] at lb
 generalize 65536 ^ (i + 1) * val (a.drop (i + 1))=R at *
 generalize a.getD i 0=x at *
 generalize b.getD i 0=y at *
 rw[decide_eq_decide]
 have m1:x<y→65536 ^ i * (x + 1)≤65536 ^ i * y:=fun h=>Nat.mul_le_mul_left _ h
 have m2:y<x→65536 ^ i * (y + 1)≤65536 ^ i * x:=fun h=>Nat.mul_le_mul_left _ h
 rw[Nat.mul_add,Nat.mul_one] at m1 m2
 generalize 65536 ^ i * x=X at *
 generalize 65536 ^ i * y=Y at *
 omega
theorem Re {T:Nat} : MP fun args M Q=>∃ a0 a1,args=[a0,a1]∧vC T a0 a1 M Q:=by
 intro M a b Q ha hb hQ
 refine⟨_,_,rfl, ?_⟩
 unfold vC
 rw[mI (fe.dF a) (by rw[eU,ha.1]; omega)]
 refine gP _ fun M1 k1 n1 e1=>?_
 rw[mI (fe.dF b) (by rw[eU,hb.1]; omega)]
 refine gP _ fun M2 k2 n2 e2=>?_
 have n12:=k2.aB n1 (by omega) (by simp)
 have k02:=k1.trans k2
 refine aG (fun m ys M3=>∃ c:Nat,m=9 - c∧ys=[N .i64 (7 - (c:Int))]∧c≤8∧a.drop (8 - c)=b.drop (8 - c)∧M3=M2) _ ⟨0,rfl,rfl,by omega,by rw[List.drop_of_length_le (by rw[ha.1]; omega),List.drop_of_length_le (by rw[hb.1]; omega)],rfl⟩ ?_
 rintro next m ys M3 hnext ⟨c,rfl,rfl,hc,he,rfl⟩
 simp only[aC]
 rw[fV]
 refine aJ (fun h=>?_) fun h=>?_
 ·have hc8:c<8:=by have:=of_decide_eq_true h; omega
  have hi:(7 - (c:Int))=((7 - c:Nat) : Int):=by omega
  rw[hi]
  have Ia:∀ {K:AV→Prop},bN (.ptr M.next 0) (N .i64 ((7 - c:Nat) : Int)) 8 1 K=K (.ptr M.next (7 - c)):=cO rfl (by omega)
  have Ib:∀ {K:AV→Prop},bN (.ptr M1.next 0) (N .i64 ((7 - c:Nat) : Int)) 8 1 K=K (.ptr M1.next (7 - c)):=cO rfl (by omega)
  have La:∀ {K:AV→Prop},ag M3 (.ptr M.next (7 - c)) K=K (N .u64 (a.getD (7 - c) 0:Nat)):=wP n12 (by rw[ha.1]; omega)
  have Lb:∀ {K:AV→Prop},ag M3 (.ptr M1.next (7 - c)) K=K (N .u64 (b.getD (7 - c) 0:Nat)):=wP n2 (by rw[hb.1]; omega)
  rw[Ia,La,Ib,Lb,bX]
  refine aJ (fun hn=>?_) fun hn=>?_
  ·rw[Ia,La,Ib,Lb,fZ]
   have hne:a.getD (7 - c) 0≠b.getD (7 - c) 0:=fun e=>by rw[e] at hn; simp at hn
   have hd:=UL ha hb (i:=7 - c) (by omega) (by rw[show 7 - c + 1=8 - c by omega]; exact he) hne
   have e2:decide ((a.getD (7 - c) 0:Int) > (b.getD (7 - c) 0:Int))=decide (val a > val b):=by rw[hd,decide_eq_decide]; omega
   rw[e2]
   exact hQ M3 k02
  ·have heq:a.getD (7 - c) 0=b.getD (7 - c) 0:=by
    have:=bne_eq_false_iff_eq.1 hn
    omega
   rw[gM,aP (by omega) (by omega)]
   refine hnext _ _ _ (by omega) ⟨c + 1,rfl,by congr 2; omega,by omega, ?_,rfl⟩
   have da:a.drop (8 - (c + 1))=a.getD (7 - c) 0 :: a.drop (8 - c):=by
    rw[show 8 - (c + 1)=7 - c by omega,List.drop_eq_getElem_cons (by rw[ha.1]; omega),show 7 - c + 1=8 - c by omega]
    simp[List.getD,show 7 - c<a.length by rw[ha.1]; omega]
   have db:b.drop (8 - (c + 1))=b.getD (7 - c) 0 :: b.drop (8 - c):=by
    rw[show 8 - (c + 1)=7 - c by omega,List.drop_eq_getElem_cons (by rw[hb.1]; omega),show 7 - c + 1=8 - c by omega]
    simp[List.getD,show 7 - c<b.length by rw[hb.1]; omega]
   rw[da,db,heq,he]
 ·have hc8:c=8:=by have:=of_decide_eq_false h; omega
  subst hc8
  rw[Nat.sub_self,List.drop_zero,List.drop_zero] at he
  have:decide (val a > val b)=false:=by rw[he]; simp
  rw[← this]
  exact hQ M3 k02
def Uq (c:au) : Prop:=∀ {M:RM} {v:Nat} {Q:ak},v<2 ^ 40→(∀ M' l,ae [] M M'→tQ l→val l=v→Q (.agg (fe.row l)) M')→c [N .u64 (v:Int)] M Q
theorem Qo {T:Nat} : Uq fun args M Q=>∃ a0,args=[a0]∧EF T a0 M Q:=by
 intro M v Q hv hQ
 refine⟨_,rfl, ?_⟩
 unfold EF
 refine gP (fe.row (List.replicate 8 0)) fun M1 k1 n1 e1=>?_
 rw[dB,Rj (by omega),iD]
 refine⟨by decide, ?_⟩
 rw[show jK .u64 (v:Int) 16=((v / 2 ^ 16:Nat) : Int) from RO (k:=16) (by decide),dB,Rj (by omega),iD]
 refine⟨by decide, ?_⟩
 rw[show jK .u64 (v:Int) 32=((v / 2 ^ 32:Nat) : Int) from RO (k:=32) (by decide),jr]
 have fl:lm [N .u64 0,N .u64 0,N .u64 0,N .u64 0,N .u64 0,N .u64 0,N .u64 0,N .u64 0] [(0,1,N .u64 ((v % 65536:Nat) : Int)),(1,1,N .u64 ((v / 2 ^ 16 % 65536:Nat) : Int)),(2,1,N .u64 ((v / 2 ^ 32:Nat) : Int))]=some (fe.row [v % 65536,v / 2 ^ 16 % 65536,v / 2 ^ 32,0,0,0,0,0]):=by
  rw[jL (by simp)]
  simp only[List.set]
  rw[jL (by simp)]
  simp only[List.set]
  rw[jL (by simp)]
  simp only[List.set]
  rfl
 refine⟨_,fl, ?_⟩
 rw[lK n1 (by rw[eU]; rfl) (by rw[eU]; rfl) (fe.dF _),eH (aM _) (by rw[eU]; rfl)]
 refine hQ _ _ (k1.new _ (Nat.le_refl _)) ⟨rfl,fun x hx=>?_⟩ ?_
 ·simp only[List.mem_cons,List.not_mem_nil,or_false] at hx
  show x<65536
  omega
 ·simp only[val]
  omega
def MS (c:au) : Prop:=∀ {M:RM} {a b:List Nat} {Q:ak},tQ a→tQ b→val a * val b<65536 ^ 8→(∀ M' l,ae [] M M'→tQ l→val l=val a * val b→Q (.agg (fe.row l)) M')→c [.agg (fe.row a),.agg (fe.row b)] M Q
theorem Ru {va k q A B ai bj C C' cij t P:Nat} (h:C + k * P + q * 65536 ^ 8=A + ai * B) (hs:C' + P * cij=C + P * (t % 65536)) (ht:t=k + cij + ai * bj) :
  C' + (t / 65536) * (P * 65536) + q * 65536 ^ 8=A + ai * B + P * (ai * bj):=by
 have e:P * (t % 65536) + (t / 65536) * (P * 65536)=P * t:=by
  have:t=t % 65536 + 65536 * (t / 65536):=(Nat.mod_add_div t 65536).symm
  conv=>rhs; rw[this,Nat.mul_add]
  rw[Nat.mul_comm (t / 65536) (P * 65536),Nat.mul_assoc]
 have e2:P * t=k * P + P * cij + P * (ai * bj):=by rw[ht,Nat.mul_add,Nat.mul_add,Nat.mul_comm P k]
 generalize (t / 65536) * (P * 65536)=X at *
 generalize P * (t % 65536)=Y at *
 generalize P * cij=Z at *
 generalize P * (ai * bj)=W at *
 generalize k * P=U at *
 generalize q * 65536 ^ 8=V at *
 generalize ai * B=S at *
 omega
theorem Ry {c k q X Y Z P:Nat} (h:c + k * P + q * P=Z + Y) : c + (q * P + k * P + X)=Z + Y + X:=by
 generalize k * P=U at *
 generalize q * P=V at *
 omega
theorem PX {l:List Nat} {i x:Nat} (h:tQ l) (hx:x<65536) : tQ (l.set i x):=by
 refine⟨by rw[List.length_set]; exact h.1,fun y hy=>?_⟩
 rcases List.mem_or_eq_of_mem_set hy with hy | rfl
 ·exact h.2 y hy
 ·exact hx
theorem SL {T:Nat} : MS fun args M Q=>∃ a0 a1,args=[a0,a1]∧wL T a0 a1 M Q:=by
 intro M a b Q ha hb hlt hQ
 refine⟨_,_,rfl, ?_⟩
 unfold wL
 rw[mI (fe.dF a) (by rw[eU,ha.1]; omega)]
 refine gP _ fun M1 k1 n1 e1=>?_
 rw[mI (fe.dF b) (by rw[eU,hb.1]; omega)]
 refine gP _ fun M2 k2 n2 e2=>?_
 refine gP (fe.row (List.replicate 8 0)) fun M3 k3 n3 e3=>?_
 refine gP (fe.row (List.replicate 8 0)) fun M4 k4 n4 e4=>?_
 have k04:=k1.trans (k2.trans (k3.trans k4))
 have n14:=(k2.trans (k3.trans k4)).aB n1 (by omega) (by simp)
 have n24:=(k3.trans k4).aB n2 (by omega) (by simp)
 have n34:=k4.aB n3 (by omega) (by simp)
 have d0:tQ (List.replicate 8 0):=⟨rfl,fun x hx=>by rw[List.eq_of_mem_replicate hx]; decide⟩
 refine aG (fun m ys M5=>∃ (i:Nat) (c:List Nat) (q:Nat),m=8 - i∧ys=[N .i64 (i:Int)]∧i≤8∧ae [M3.next] M4 M5∧M5.heap M3.next=some (.row (fe.row c) false T 0)∧tQ c∧val c + q * 65536 ^ 8=val (a.take i) * val b) _
  ⟨0,_,0,rfl,rfl,by omega,ae.refl _ _,n4,d0,by simp[val]⟩ ?_
 rintro next m ys M5 hnext ⟨i,c,q,rfl,rfl,hi,k5,n5,dc,hval⟩
 simp only[aC]
 rw[mi 8 (by rfl)]
 refine aJ (fun hc=>?_) fun hc=>?_
 ·have hi8:i<8:=of_decide_eq_true hc
  have hai:=getD_lt ha.2 i
  generalize hae:a.getD i 0=ai at *
  refine aG (fun m ys M6=>∃ (j k:Nat) (c:List Nat),m=8 - j∧ys=[N .u64 (k:Int),N .i64 (j:Int)]∧i + j≤8∧k<65536∧ae [M3.next] M4 M6∧M6.heap M3.next=some (.row (fe.row c) false T 0)∧tQ c∧val c + k * 65536 ^ (i + j) + q * 65536 ^ 8=val (a.take i) * val b + ai * (65536 ^ i * val (b.take j))) _
   ⟨0,0,c,rfl,rfl,by omega,by omega,k5,n5,dc,by simp[val]; exact hval⟩ ?_
  rintro next2 m ys M6 aai ⟨j,k,c,rfl,rfl,hj,hk,k6,n6,dc6,hv6⟩
  simp only[aC,bF]
  have n16:=k6.aB n14 (by omega) (by simp; omega)
  have n26:=k6.aB n24 (by omega) (by simp; omega)
  rw[addN (by omega),mi 8 (by rfl)]
  refine aJ (fun hc=>?_) fun hc=>?_
  ·have hij:i + j<8:=of_decide_eq_true hc
   have hbj:=getD_lt hb.2 j
   have hcij:=getD_lt dc6.2 (i + j)
   rw[addN (by omega),cO rfl hij,wP n6 (by rw[dc6.1]; exact hij),bz,cO rfl hi8,wP n16 (by rw[ha.1]; exact hi8),cO rfl (by omega),wP n26 (by rw[hb.1]; omega),hae]
   have hset:=JR (l:=c) (i:=i + j) ((k + c.getD (i + j) 0 + ai * b.getD j 0) % 65536) (by rw[dc6.1]; exact hij)
   have hbt:=BA (l:=b) (i:=j) (by rw[hb.1]; omega)
   generalize b.getD j 0=bj at *
   generalize hce:c.getD (i + j) 0=cij at *
   have hprod:ai * bj≤65535 * 65535:=Nat.mul_le_mul (by omega) (by omega)
   rw[show((k:Int) + (cij:Int))=((k + cij:Nat) : Int) by omega,bZ (by omega) (by omega),fK,show((ai:Int) * (bj:Int))=((ai * bj:Nat) : Int) by rw[Int.natCast_mul],bZ (by omega) (by omega),bz,show(((k + cij:Nat) : Int) + ((ai * bj:Nat) : Int))=((k + cij + ai * bj:Nat) : Int) by omega,bZ (by omega) (by omega)]
   generalize hte:k + cij + ai * bj=t at *
   rw[addN (by omega),dB,Rj (by omega),cO rfl hij,Ew n6 (by rw[dc6.1]; exact hij),iD]
   refine⟨by decide, ?_⟩
   rw[show jK .u64 (t:Int) 16=((t / 2 ^ 16:Nat) : Int) from RO (k:=16) (by decide),add1 (by omega)]
   refine aai _ _ _ (by omega) ⟨j + 1,t / 2 ^ 16,_,rfl,rfl,by omega,by omega,k6.put _ (.inr (by simp)),aM _,PX dc6 (by omega), ?_⟩
   have hstep:=Ru (va:=0) (A:=val (a.take i) * val b) (B:=65536 ^ i * val (b.take j)) (ai:=ai) (bj:=bj) hv6 hset hte.symm
   have e1:65536 ^ (i + (j + 1))=65536 ^ (i + j) * 65536:=by rw[← Nat.add_assoc,Nat.pow_succ]
   have e2:ai * (65536 ^ i * val (b.take (j + 1)))=ai * (65536 ^ i * val (b.take j)) + 65536 ^ (i + j) * (ai * bj):=by
    rw[hbt,Nat.mul_add,Nat.mul_add,Nat.pow_add]
    congr 1
    rw[Nat.mul_left_comm (65536 ^ i * 65536 ^ j),Nat.mul_assoc]
   rw[e1,e2,← Nat.add_assoc]
   exact hstep
  ·have hij:i + j=8:=by have:=of_decide_eq_false hc; omega
   rw[add1 (by omega)]
   refine hnext _ _ _ (by omega) ⟨i + 1,c,q + k + ai * val (b.drop j),rfl,rfl,by omega,k6,n6,dc6, ?_⟩
   have hat:=BA (l:=a) (i:=i) (by rw[ha.1]; exact hi8)
   have hbs:=DK (l:=b) j (by rw[hb.1]; omega)
   rw[hae] at hat
   rw[hij] at hv6
   have e3:65536 ^ 8=65536 ^ i * 65536 ^ j:=by rw[← Nat.pow_add,hij]
   have e4:ai * val (b.drop j) * 65536 ^ 8=ai * (65536 ^ i * (65536 ^ j * val (b.drop j))):=by
    rw[e3,Nat.mul_assoc,Nat.mul_comm (val (b.drop j)),Nat.mul_assoc]
   have e5:val (a.take (i + 1)) * val b=val (a.take i) * val b + ai * (65536 ^ i * val (b.take j)) + ai * (65536 ^ i * (65536 ^ j * val (b.drop j))):=by
    rw[hat,Nat.add_mul,Nat.add_assoc,← Nat.mul_add,← Nat.mul_add,← hbs]
    congr 1
    rw[Nat.mul_comm (65536 ^ i) ai,Nat.mul_assoc]
   rw[e5,Nat.add_mul,Nat.add_mul,e4]
   exact Ry hv6
 ·have hi8:i=8:=by have:=of_decide_eq_false hc; omega
  subst hi8
  rw[List.take_of_length_le (by rw[ha.1]; omega)] at hval
  have hq:q=0:=by
   rcases Nat.eq_zero_or_pos q with h | h
   ·exact h
   ·have:1 * 65536 ^ 8≤q * 65536 ^ 8:=Nat.mul_le_mul_right _ h
    omega
  rw[hq,Nat.zero_mul,Nat.add_zero] at hval
  have n35:=k5.aB n34 (by omega) (by simp; omega)
  rw[eH n5 (by rw[eU,dc.1]),lK n35 (by rw[eU,dc.1]) (by rw[eU,List.length_replicate]) (fe.dF _),eH (aM _) (by rw[eU,dc.1])]
  exact hQ _ c ((BC k04 k5 (by omega)).new _ (by omega)) dc hval
def big (p:Nat) (iY:Bool) (t:Nat) : Bool:=match iY with
 | true=>decide (t * t * t > p * 65536 ^ 6)
 | false=>decide (t * t > p * 65536 ^ 4)
def jo (p:Nat) (iY:Bool) : Nat→Nat
 | 0=>0
 | c + 1=>match big p iY (jo p iY c ||| 2 ^ (36 - c)) with
   | true=>jo p iY c
   | false=>jo p iY c ||| 2 ^ (36 - c)
theorem Ov (p:Nat) (iY:Bool) : ∀ c,c≤37→jo p iY c<2 ^ 37
 | 0,_=>by simp[jo]
 | c + 1,h=>by
   have:=Ov p iY c (by omega)
   rw[jo]
   split
   ·exact this
   ·exact Nat.or_lt_two_pow this (Nat.pow_lt_pow_right (by decide) (by omega))
def RF (c:au) : Prop:=∀ {M:RM} {p:Nat} {iY:Bool} {Q:ak},p<1000→(∀ M',ae [] M M'→Q (N .u32 ((jo p iY 37 % 4294967296:Nat) : Int)) M')→c [N .i64 (p:Int),Bo iY] M Q
theorem orN {a b:Nat} (ha:a<18446744073709551616) (hb:b<18446744073709551616) (hab:a ||| b<18446744073709551616) : Ae .u64 (a:Int) (b:Int)=((a ||| b:Nat) : Int):=by
 unfold Ae
 have:=Uf IntKind.u64.bits a b
 rw[this]
 have e:(a ||| b) % 2 ^ IntKind.u64.bits=a ||| b:=Nat.mod_eq_of_lt (show a ||| b<2 ^ 64 by omega)
 rw[e,bZ (by omega) (by omega)]
theorem Qb {p i:Nat} (hp:p<1000) (hi:i<8) : tQ ((List.replicate 8 0).set i p)∧val ((List.replicate 8 0).set i p)=65536 ^ i * p:=by
 refine⟨PX ⟨rfl,fun x hx=>by rw[List.eq_of_mem_replicate hx]; decide⟩ (by omega), ?_⟩
 have h:=JR (l:=List.replicate 8 0) (i:=i) p (by simpa using hi)
 have h0:(List.replicate 8 0).getD i 0=0:=by
  have:i=0∨i=1∨i=2∨i=3∨i=4∨i=5∨i=6∨i=7:=by omega
  rcases this with rfl | rfl | rfl | rfl | rfl | rfl | rfl | rfl <;> rfl
 have h1:val (List.replicate 8 0)=0:=by decide
 rw[h0,h1] at h
 omega
theorem Ue {T:Nat} {co ct ca:au} (ho:Uq co) (ht:MS ct) (hab:MP ca) : RF fun args M Q=>∃ a0 a1,args=[a0,a1]∧zK co ct T ca a0 a1 M Q:=by
 intro M p iY Q hp hQ
 refine⟨_,_,rfl, ?_⟩
 unfold zK
 refine aG (fun m ys M3=>∃ c:Nat,m=38 - c∧ys=[N .u64 (jo p iY c:Nat),N .i64 (36 - (c:Int))]∧c≤37∧ae [] M M3) _ ⟨0,rfl,rfl,by omega,ae.refl _ _⟩ ?_
 rintro next m ys M3 hnext ⟨c,rfl,rfl,hc,k3⟩
 simp only[aC,bF]
 have hr:=Ov p iY c hc
 rw[fV]
 refine aJ (fun h=>?_) fun h=>?_
 ·have Zn:c<37:=by have:=of_decide_eq_true h; omega
  rw[dW]
  refine dh (fun xs M4=>xs=[N .u64 (jo p iY (c + 1) : Nat)]∧ae [] M M4) ?_ ?_
  ·rintro xs M4 ⟨rfl,k4⟩
   simp only[aC]
   rw[gM,aP (by omega) (by omega)]
   exact hnext _ _ _ (by omega) ⟨c + 1,rfl,by congr 2; congr 1; omega,by omega,k4⟩
  intro J hJ
  rw[show(36 - (c:Int))=((36 - c:Nat) : Int) by omega,cZ,bZ (by omega) (by omega),jM]
  refine⟨by omega, ?_⟩
  have Zm:2 ^ (36 - c)<2 ^ 37:=Nat.pow_lt_pow_right (by decide) (by omega)
  have hsh:BM .u64 1 ((36 - c:Nat) : Int)=((2 ^ (36 - c) : Nat) : Int):=by
   unfold BM
   rw[Int.toNat_natCast,Nat.min_eq_left (show 36 - c≤IntKind.u64.bits from by show 36 - c≤64; omega),Int.one_mul,show((2:Int) ^ (36 - c))=((2 ^ (36 - c) : Nat) : Int) by rw[Int.natCast_pow]; rfl]
   have hwr:∀ q:Nat,q<2 ^ 37→IntKind.u64.wrap (q:Int)=(q:Int):=fun q h=>bZ (by omega) (by omega)
   exact hwr _ Zm
  have htl:jo p iY c ||| 2 ^ (36 - c)<2 ^ 37:=Nat.or_lt_two_pow hr Zm
  rw[hsh,dV,orN (by omega) (by omega) (by omega)]
  have hstep:jo p iY (c + 1)=match big p iY (jo p iY c ||| 2 ^ (36 - c)) with
   | true=>jo p iY c
   | false=>jo p iY c ||| 2 ^ (36 - c):=rfl
  generalize jo p iY c ||| 2 ^ (36 - c)=t at *
  have ht2:t * t<2 ^ 74:=by
   have:t * t≤(2 ^ 37 - 1) * (2 ^ 37 - 1):=Nat.mul_le_mul (by omega) (by omega)
   omega
  have ht3:t * t * t<2 ^ 111:=by
   have:t * t * t≤(2 ^ 74 - 1) * (2 ^ 37 - 1):=Nat.mul_le_mul (by omega) (by omega)
   omega
  refine ho (by omega) fun M4 l4 k4 d4 v4=>?_
  refine ho (by omega) fun M5 l5 k5 d5 v5=>?_
  refine ht d4 d5 (by rw[v4,v5]; omega) fun M6 l6 k6 d6 v6=>?_
  rw[v4,v5] at v6
  have zl:(fe.row (List.replicate 8 0)).length=8:=by rw[eU,List.length_replicate]
  refine wV (K:=fun t Gf=>_) (z:=fe.row (List.replicate 8 0)) 8 zl (by rw[eU,d6.1]) (fe.dF _) fun M7 k7 n7 l7=>?_
  refine gP (fe.row (List.replicate 8 0)) fun M8 k8 n8 e8=>?_
  have n78:=k8.aB n7 l7 (by simp)
  rw[cZ,bZ (by omega) (by omega),cO (i:=4) (by rfl) (by decide),Ew n8 (by decide)]
  have k07:ae [] M M7:=k3.trans (k4.trans (k5.trans (k6.trans k7)))
  have k37:ae [] M3 M7:=k4.trans (k5.trans (k6.trans k7))
  have n9:(M8.put M7.next (.row (fe.row ((List.replicate 8 0).set 4 p)) false T 0)).heap M7.next=some (.row (fe.row ((List.replicate 8 0).set 4 p)) false T 0):=aM _
  have k9:ae [] M7 (M8.put M7.next (.row (fe.row ((List.replicate 8 0).set 4 p)) false T 0)):=k8.new _ (Nat.le_refl _)
  have n79:=k9.aB n7 l7 (by simp)
  have e9:(M8.put M7.next (.row (fe.row ((List.replicate 8 0).set 4 p)) false T 0)).next=M7.next + 1:=e8
  generalize M8.put M7.next (.row (fe.row ((List.replicate 8 0).set 4 p)) false T 0)=M9 at *
  rw[dW]
  refine dh (fun xs M10=>xs=[]∧ae [] M M10∧∃ la lb:List Nat,M10.heap M6.next=some (.row (fe.row la) false T 0)∧M10.heap M7.next=some (.row (fe.row lb) false T 0)∧tQ la∧tQ lb∧decide (val la > val lb)=big p iY t) ?_ ?_
  ·rintro xs M10 ⟨rfl,k10,la,lb,na,nb,da,db,hbig⟩
   rw[eH na (by rw[eU,da.1]),eH nb (by rw[eU,db.1])]
   refine hab da db fun M11 k11=>?_
   rw[dO,hbig]
   refine aJ (fun h=>?_) fun h=>?_
   ·have:big p iY t=false:=by simpa using h
    rw[this] at hstep
    exact hJ _ _ ⟨by rw[hstep],k10.trans k11⟩
   ·have:big p iY t=true:=by simpa using h
    rw[this] at hstep
    exact hJ _ _ ⟨by rw[hstep],k10.trans k11⟩
  ·intro J2 hJ2
   refine aJ (fun hcu=>?_) fun hcu=>?_
   ·subst hcu
    rw[eH n79 (by rw[eU,d6.1])]
    refine ho (by omega) fun M10 l10 k10 d10 v10=>?_
    have ZO:=k10.aB n79 (by omega) (by simp)
    have adN:=k10.aB n9 (by omega) (by simp)
    rw[eH ZO (by rw[eU,d6.1])]
    refine⟨rfl, ?_⟩
    refine ht d6 d10 (by rw[v6,v10]; omega) fun M11 l11 k11 d11 v11=>?_
    rw[v6,v10] at v11
    have ada:=k11.aB ZO (Nat.lt_of_lt_of_le (by omega:M6.next<M9.next) k10.next) (by simp)
    have aez:=k11.aB adN (Nat.lt_of_lt_of_le (by omega:M7.next<M9.next) k10.next) (by simp)
    rw[lK ada (by rw[eU,d11.1]) (by rw[eU,d6.1]) (fe.dF _),jr]
    refine⟨fe.row (List.replicate 8 0),rfl, ?_⟩
    rw[lK (zH aez (by omega)) (by rw[eU,List.length_replicate]) (by rw[eU,List.length_set,List.length_replicate]) (fe.dF _),cZ,bZ (by omega) (by omega),cO (i:=6) (by rfl) (by decide),Ew (aM _) (by decide)]
    obtain⟨dw,vw⟩:=Qb (p:=p) (i:=6) hp (by decide)
    refine hJ2 _ _ ⟨rfl, ?_,l11,(List.replicate 8 0).set 6 p, ?_,aM _,d11,dw, ?_⟩
    ·have n3x:=k37.next
     have n6x:M.next≤M6.next:=Nat.le_trans k3.next (Nat.le_trans k4.next (Nat.le_trans k5.next k6.next))
     have n7x:=k7.next
     exact(((k07.trans (k9.trans (k10.trans k11))).new _ n6x).new _ (by omega)).new _ (by omega)
    ·exact zH (zH (aM _) (by omega)) (by omega)
    ·unfold big
     rw[v11,vw,Nat.mul_comm (65536 ^ 6)]
   ·subst hcu
    obtain⟨dw,vw⟩:=Qb (p:=p) (i:=4) hp (by decide)
    refine hJ2 _ _ ⟨rfl,k07.trans k9,l6,_,n79,n9,d6,dw, ?_⟩
    unfold big
    rw[v6,vw,Nat.mul_comm (65536 ^ 4)]
 ·have Zn:c=37:=by have:=of_decide_eq_false h; omega
  subst Zn
  rw[cZ,wrap_u32]
  exact hQ M3 k3
theorem Vo:(kX.take 8).map (fun p=>((jo p false 37 % 4294967296:Nat) : Int))=hW:=by decide +kernel
theorem WS:kX.map (fun p=>((jo p true 37 % 4294967296:Nat) : Int))=kW:=by decide +kernel
theorem aaq:∀ p∈kX,p<1000:=by decide
theorem IP {M:RM} {v:AV} {l:List Nat} (h:Sl Lh M v l) {i:Nat} (hi:i<l.length) {K:AV→Prop} : (aI v (N .i64 (i:Int)) 1 fun t=>ag M t K)=K (N .i64 (l[i] : Nat)):=by
 obtain⟨c,o,_,_,hix,hld⟩:=h.Qd (i:Int) hi
 rw[hix,dM,hld _ rfl]
 exact propext ⟨fun⟨v,e,k⟩=>by cases e; exact k,fun k=>⟨_,rfl,k⟩⟩
theorem Pb {TI TU:Nat} {cp cr:au} (hp:Kh TI cp) (hr:RF cr) : Ky TU fun args M Q=>args=[]∧sW cp TU cr M Q:=by
 intro M Q hQ
 refine⟨rfl, ?_⟩
 unfold sW
 refine hp fun pv M1 k1 hpv=>?_
 refine xJ ?_
 show aO _ _ _ _
 rw[aL]
 have k2' : ae [] M1 (M1.push (.row [] false TU 0)):=(ae.refl _ _).push _
 have o2:Ow bI (M1.push (.row [] false TU 0)) M1.next TU (.slc M1.next 0 0 (.ex 0)) []:=Ow.lit bI M1
 generalize M1.push (.row [] false TU 0)=M2 at *
 refine xJ ?_
 show aO _ _ _ _
 rw[aL]
 have k3' : ae [] M2 (M2.push (.row [] false TU 0)):=(ae.refl _ _).push _
 have o3:Ow bI (M2.push (.row [] false TU 0)) M2.next TU (.slc M2.next 0 0 (.ex 0)) []:=Ow.lit bI M2
 have o23:Ow bI (M2.push (.row [] false TU 0)) M1.next TU (.slc M1.next 0 0 (.ex 0)) []:=Own.keep o2 k3' (by simp)
 generalize M2.push (.row [] false TU 0)=M3 at *
 have k13:=k2'.trans k3'
 let F:Nat→Int:=fun p=>((jo p false 37 % 4294967296:Nat) : Int)
 let G:Nat→Int:=fun p=>((jo p true 37 % 4294967296:Nat) : Int)
 refine aG (fun m ys M4=>∃ (i:Nat) (av bv:AV),m=64 - i∧ys=[av,bv,N .i64 (i:Int)]∧i≤64∧ae [] M1 M4∧Ow bI M4 M1.next TU av ((kX.take (min i 8)).map F)∧Ow bI M4 M1.next TU bv ((kX.take i).map G)∧(∀ x∈ah av,x ∉ ah bv)) _
  ⟨0,_,_,rfl,rfl,by omega,k13,o23,Own.mono o3 k2'.next,fun x hx hm=>by
   simp[ah] at hx hm
   have:=(Own.blk o2 x (by simp[ah]; exact hx)).2
   omega⟩ ?_
 rintro next m ys M4 hnext ⟨i,av,bv,rfl,rfl,hi,k4,oa,ob,hd⟩
 simp only[aC,bF]
 have aey:Sl Lh M4 pv kX:=aD.keep hpv k4 (by simp)
 rw[mi 64 (by rfl)]
 refine aJ (fun hc=>?_) fun hc=>?_
 ·have lc:i<64:=of_decide_eq_true hc
  have hil:i<kX.length:=by rw[zZ]; exact lc
  have hpl:=aaq kX[i] (List.getElem_mem hil)
  rw[dW]
  refine dh (fun xs M7=>∃ av' bv',xs=[av',bv']∧ae [] M1 M7∧Ow bI M7 M1.next TU av' ((kX.take (min (i + 1) 8)).map F)∧Ow bI M7 M1.next TU bv' ((kX.take (i + 1)).map G)∧(∀ x∈ah av',x ∉ ah bv')) ?_ ?_
  ·rintro xs M7 ⟨av',bv',rfl,k7,h1,h2,h3⟩
   simp only[aC,bF]
   rw[fQ 1 (by omega) (by omega) (by rfl)]
   exact hnext _ _ _ (by omega) ⟨i + 1,av',bv',rfl,rfl,by omega,k7,h1,h2,h3⟩
  intro J hJ
  rw[dW]
  refine dh (fun xs M7=>∃ av',xs=[av']∧ae [] M1 M7∧Ow bI M7 M1.next TU av' ((kX.take (min (i + 1) 8)).map F)∧Ow bI M7 M1.next TU bv ((kX.take i).map G)∧(∀ x∈ah av',x ∉ ah bv)) ?_ ?_
  ·rintro xs M7 ⟨av',rfl,k7,h1,h2,h3⟩
   simp only[aC]
   have ac7:Sl Lh M7 pv kX:=aD.keep hpv k7 (by simp)
   rw[IP ac7 hil]
   refine hr hpl fun M8 k8=>?_
   rw[fq (by rfl) (by rfl) (by rfl),aL]
   have h28:Ow bI M8 M1.next TU bv ((kX.take i).map G):=Own.keep h2 k8 (by simp)
   have h18:Ow bI M8 M1.next TU av' ((kX.take (min (i + 1) 8)).map F):=Own.keep h1 k8 (by simp)
   have k78:=k7.trans k8
   refine fP (E:=bI) (a:=G kX[i]) h28 k78.next (by decide) (by simp; omega) (by simp; omega) fun v9 M9 o9 k9 nx9 hv9=>?_
   refine hJ _ _ ⟨av',v9,rfl,ae.own k78 k9 (fun x hx=>(Own.blk h28 x hx).1),Own.keep h18 k9 h3, ?_,fun x hx hm=>?_⟩
   ·rw[List.take_succ_eq_append_getElem hil,List.map_append]
    exact o9
   ·rcases hv9 with rfl | h9
    ·exact h3 x hx hm
    ·have:=h9 x hm
     have:=(Own.blk h18 x hx).2
     omega
  ·intro J2 hJ2
   rw[mi 8 (by rfl)]
   refine aJ (fun hc8=>?_) fun hc8=>?_
   ·have hi8:i<8:=of_decide_eq_true hc8
    rw[IP aey hil]
    refine hr hpl fun M5 k5=>?_
    rw[fq (by rfl) (by rfl) (by rfl),aL]
    have oa5:Ow bI M5 M1.next TU av ((kX.take (min i 8)).map F):=Own.keep oa k5 (by simp)
    have ob5:Ow bI M5 M1.next TU bv ((kX.take i).map G):=Own.keep ob k5 (by simp)
    have k45:=k4.trans k5
    refine fP (E:=bI) (a:=F kX[i]) oa5 k45.next (by decide) (by simp; omega) (by simp; omega) fun v6 M6 o6 k6 nx6 hv6=>?_
    refine hJ2 _ _ ⟨v6,rfl,ae.own k45 k6 (fun x hx=>(Own.blk oa5 x hx).1), ?_,Own.keep ob5 k6 (fun x hx hm=>hd x hm hx),fun x hx hm=>?_⟩
    ·rw[Nat.min_eq_left (by omega:i + 1≤8),List.take_succ_eq_append_getElem hil,List.map_append]
     rw[Nat.min_eq_left (by omega:i≤8)] at o6
     exact o6
    ·rcases hv6 with rfl | h6
     ·exact hd x hx hm
     ·have:=h6 x hx
      have:=(Own.blk ob5 x hm).2
      omega
   ·have hi8:¬ i<8:=of_decide_eq_false hc8
    refine hJ2 _ _ ⟨av,rfl,k4, ?_,ob,hd⟩
    rw[Nat.min_eq_right (by omega:8≤i + 1)]
    rw[Nat.min_eq_right (by omega:8≤i)] at oa
    exact oa
 ·have lc:i=64:=by have:=of_decide_eq_false hc; omega
  subst lc
  rw[Nat.min_eq_right (by omega:8≤64)] at oa
  have e1:(kX.take 8).map F=hW:=Vo
  have e2:(kX.take 64).map G=kW:=by
   rw[List.take_of_length_le (by rw[zZ]; omega)]; exact WS
  rw[e1] at oa
  rw[e2] at ob
  exact hQ av bv M4 (k1.trans k4) ((Kl oa (by decide)).mono k1.next) ((Kl ob (by decide)).mono k1.next)
end Go.Ab.Sha
namespace Go.Ab.Bl
open Go Go.Ab Go.Ab.aQ Go.Ab.Sha
open Go.Ab.Dk (lh mV rX GA nz pI)
theorem JU:∀ (x y:Str),Op.bytesLess x y=decide (x<y)
 | [],[]=>by simp[Op.bytesLess]
 | _ :: _,[]=>by simp[Op.bytesLess]
 | [],_ :: _=>by simp[Op.bytesLess]
 | a :: x,b :: y=>by
   rw[Op.bytesLess,JU x y]
   simp only[List.cons_lt_cons_iff]
   by_cases h1:a<b <;> by_cases h2:a=b <;> by_cases h3:x<y <;> simp[h1,h2,h3]
def Up (w:List bL) : Prop:=w.Pairwise fun a b=>a.1<b.1
theorem kQ {x:bL} {w:List bL} {s:Str} : fW (x :: w) s=if x.1=s then some x.2 else fW w s:=by
 unfold fW
 rw[List.find?_cons]
 by_cases h:x.1=s <;> simp[h]
theorem UD {w:List bL} (h:Up w) {x:bL} (hx:x∈w) : fW w x.1=some x.2:=by
 induction w with
 | nil=>cases hx
 | cons y w ih =>
   unfold Up at h; rw[List.pairwise_cons] at h
   rw[kQ]
   rcases List.mem_cons.1 hx with rfl | hx
   ·rw[if_pos rfl]
   ·rw[if_neg (fun e=>by have:=h.1 x hx; rw[e] at this; exact List.lt_irrefl _ this)]
    exact ih h.2 hx
theorem xH {s:Str} : ∀ {w:List bL},(fW w s).isSome=true↔s∈w.map (·.1)
 | []=>by simp[fW]
 | x :: w=>by
   rw[kQ,List.map_cons,List.mem_cons]
   by_cases h:x.1=s
   ·simp[h]
   ·rw[if_neg h,xH]; exact⟨.inr,fun k=>k.resolve_left fun e=>h e.symm⟩
theorem Kk {n b:Str} : qQ [] n b=[(n,b)]:=rfl
theorem JE {x:bL} {w:List bL} {n b:Str} (h:x.1<n) : qQ (x :: w) n b=x :: qQ w n b:=by
 unfold qQ Nv
 rw[List.takeWhile_cons_of_pos (by rw[JU]; exact decide_eq_true h)]
 rfl
theorem Ii {x:bL} {w:List bL} {n b:Str} (h:¬ x.1<n) : qQ (x :: w) n b=(n,b) :: x :: w:=by
 unfold qQ Nv
 rw[List.takeWhile_cons_of_neg (by rw[JU]; simpa using h)]
 rfl
theorem JO {n b:Str} {y:bL} : ∀ {w:List bL},y∈qQ w n b↔y=(n,b)∨y∈w
 | []=>by simp[Kk]
 | x :: w=>by
   by_cases h:x.1<n
   ·rw[JE h,List.mem_cons,JO,List.mem_cons]; exact⟨fun k=>k.elim (fun k=>.inr (.inl k)) (fun k=>k.elim .inl (fun k=>.inr (.inr k))),fun k=>k.elim (fun k=>.inr (.inl k)) (fun k=>k.elim .inl (fun k=>.inr (.inr k)))⟩
   ·rw[Ii h,List.mem_cons]
theorem Qu {n b:Str} : ∀ {w:List bL},(qQ w n b).length=w.length + 1
 | []=>rfl
 | x :: w=>by
   by_cases h:x.1<n
   ·rw[JE h,List.length_cons,Qu,List.length_cons]
   ·rw[Ii h]; rfl
theorem UK {n b:Str} : ∀ {w:List bL},Up w→n ∉ w.map (·.1)→Up (qQ w n b)
 | [],_,_=>by simp[Kk,Up]
 | x :: w,h,hn=>by
   unfold Up at h; rw[List.pairwise_cons] at h
   rw[List.map_cons,List.mem_cons,not_or] at hn
   by_cases hx:x.1<n
   ·rw[JE hx]
    refine List.pairwise_cons.2 ⟨fun y hy=>?_,UK h.2 hn.2⟩
    rcases JO.1 hy with rfl | hy
    ·exact hx
    ·exact h.1 y hy
   ·rw[Ii hx]
    have hlt:n<x.1:=by
     rcases Classical.em (n<x.1) with h' | h'
     ·exact h'
     ·exact absurd (List.le_antisymm (List.not_lt.1 hx) (List.not_lt.1 h')) hn.1
    refine List.pairwise_cons.2 ⟨fun y hy=>?_,List.pairwise_cons.2 h⟩
    rcases List.mem_cons.1 hy with rfl | hy
    ·exact hlt
    ·exact List.lt_trans hlt (h.1 y hy)
theorem Ur {n b s:Str} : ∀ {w:List bL},n ∉ w.map (·.1)→fW (qQ w n b) s=if s=n then some b else fW w s
 | [],_=>by rw[Kk,kQ]; by_cases h:n=s <;> simp[h,eq_comm]
 | x :: w,hn=>by
   rw[List.map_cons,List.mem_cons,not_or] at hn
   by_cases hx:x.1<n
   ·rw[JE hx,kQ,kQ,Ur hn.2]
    by_cases hs:s=n
    ·subst hs; rw[if_neg (fun e=>hn.1 e.symm),if_pos rfl,if_pos rfl]
    ·rw[if_neg hs,if_neg hs]
   ·rw[Ii hx,kQ]
    by_cases hs:s=n
    ·subst hs; rw[if_pos rfl]; try exact(if_pos rfl).symm
    ·rw[if_neg (fun e=>hs (show n=s from e).symm),if_neg hs]
theorem Zb {w:List bL} (h:Up w) (b:Str) : Up (oN w b):=by
 unfold oN
 split
 ·exact h
 ·rename_i hs; exact UK h fun hm=>hs (xH.2 hm)
theorem X0 {w:List bL} {b:Str} : (oN w b).length≤w.length + 1:=by
 unfold oN
 split
 ·omega
 ·rw[Qu]; exact Nat.le_refl _
theorem put_mem {w:List bL} {b:Str} {y:bL} (h:y∈oN w b) : y=(bM b,b)∨y∈w:=by
 unfold oN at h
 split at h
 ·exact .inr h
 ·exact JO.1 h
theorem Zk {w:List bL} {b:Str} : fW (oN w b)=oH (fW w) b:=by
 funext s
 unfold oN oH
 by_cases h:(fW w (bM b)).isSome=true
 ·rw[if_pos h]
  have:¬ fW w (bM b)=none:=fun e=>by rw[e] at h; cases h
  rw[if_neg (fun k=>this k.2)]
 ·rw[if_neg h,Ur (fun hm=>h (xH.2 hm))]
  have:fW w (bM b)=none:=by simpa using h
  simp only[this,and_true]
theorem wX {k:Str→Bool} {s:Str} : ∀ {w:List bL},fW (w.filter fun x=>k x.1) s=if k s then fW w s else none
 | []=>by simp[fW]
 | x :: w=>by
   rw[List.filter_cons]
   by_cases hs:x.1=s
   ·subst hs
    by_cases hk:k x.1=true
    ·rw[if_pos hk,kQ,if_pos rfl,if_pos hk,kQ,if_pos rfl]
    ·rw[if_neg hk,wX,if_neg hk,if_neg hk]
   ·by_cases hk:k x.1=true
    ·rw[if_pos hk,kQ,if_neg hs,wX,kQ,if_neg hs]
    ·rw[if_neg hk,wX,kQ,if_neg hs]
theorem KY {s:Str} : ∀ {l:List Str} {k:Str→Bool},(l.foldl (fun k c=>oJ k c true) k) s=(k s || decide (s∈l))
 | [],k=>by simp
 | x :: l,k=>by
   rw[List.foldl_cons,KY]
   unfold oJ
   by_cases h:s=x <;> simp[h]
theorem QF:iZ []=none:=by
 have:FR 4096 []=none:=rfl
 unfold iZ; rw[this]
theorem SN {f:Str→Option Str} {k:Str→Bool} {p s:Str} : Ch f k p s=(k s || decide (s∈mf f p)):=by
 unfold Ch
 rw[KY]
 have hv:kD f p=(f p).getD []:=rfl
 cases hf:f p with
 | none =>
   have hv:kD f p=[]:=by rw[hv,hf]; rfl
   have e1:nK []=[]:=by unfold nK; rw[QF]
   have e2:tY []=false:=by unfold tY; rw[QF]; rfl
   have e3:mf f p=[]:=by unfold mf; rw[hf]
   rw[hv,e1,e2,e3]
   unfold oJ
   by_cases h:s=p <;> simp[h]
 | some m =>
   have hv:kD f p=m:=by rw[hv,hf]; rfl
   rw[hv]
   unfold oJ
   cases hm:iZ m with
   | none =>
     have e1:nK m=[]:=by unfold nK; rw[hm]
     have e2:tY m=false:=by unfold tY; rw[hm]; rfl
     have e3:mf f p=[]:=by unfold mf; rw[hf]; dsimp only; rw[hm]
     rw[e1,e2,e3]
     by_cases h:s=p <;> simp[h]
   | some r =>
     obtain⟨n,ls⟩:=r
     have e1:nK m=ls:=by unfold nK; rw[hm]
     have e2:tY m=true:=by unfold tY; rw[hm]; rfl
     have e3:mf f p=p :: ls:=by unfold mf; rw[hf]; dsimp only; rw[hm]
     rw[e1,e2,e3]
     by_cases h:s=p <;> simp[h]
theorem Lu {f:Str→Option Str} {s:Str} : ∀ {l:List Str} {k:Str→Bool},l.foldl (Ch f) k s=(k s || decide (s∈iA f l))
 | [],k=>by simp[iA]
 | p :: l,k=>by
   rw[List.foldl_cons,Lu,SN,Bool.or_assoc]
   congr 1
   unfold iA
   rw[List.flatMap_cons,Bool.eq_iff_iff,Bool.or_eq_true,decide_eq_true_eq,decide_eq_true_eq,decide_eq_true_eq,List.mem_append]
theorem OL {f:Str→Option Str} {l:List Str} {s:Str} : iq f l s=decide (s∈iA f l):=by
 unfold iq; rw[Lu]; rfl
theorem F6 {p q:Str→Bool} : ∀ {l acc:List Str},(l.foldl (dC p) acc).filter q=l.foldl (dC fun s=>q s && p s) (acc.filter q)
 | [],acc=>rfl
 | x :: l,acc=>by
   rw[List.foldl_cons,F6,List.foldl_cons]
   congr 1
   unfold dC
   by_cases hq:q x=true
   ·by_cases hp:p x=true
    ·by_cases hm:x∈acc
     ·have:x∈acc.filter q:=List.mem_filter.2 ⟨hm,hq⟩
      simp[hm,this,hq,hp]
     ·have:x ∉ acc.filter q:=fun h=>hm (List.mem_filter.1 h).1
      simp[hm,hq,hp]
    ·simp[hp]
   ·have hq:q x=false:=by simpa using hq
    by_cases hc:(p x && !decide (x∈acc))=true
    ·rw[if_pos hc]; simp[hq]
    ·rw[if_neg hc]; simp[hq]
theorem YM {w:List bL} {l:List Str} : (gD (isNil (fW w)) l).filter bY=gq w l:=by
 unfold gq gD
 rw[F6]; rfl
theorem Hy {p q:Str→Bool} : ∀ {l acc:List Str},(∀ x∈l,p x=q x)→l.foldl (dC p) acc=l.foldl (dC q) acc
 | [],acc,_=>rfl
 | x :: l,acc,h=>by
   have:dC p acc x=dC q acc x:=by unfold dC; rw[h x (List.mem_cons_self ..)]
   rw[List.foldl_cons,List.foldl_cons,this]
   exact Hy fun y hy=>h y (List.mem_cons_of_mem _ hy)
theorem Qi:∀ k:Nat,k<16→lF (hx k)=true:=by decide
theorem Wl (d:Str) : (kF d).all lF=true:=by
 induction d with
 | nil=>rfl
 | cons x d ih =>
   unfold kF at ih ⊢
   have:=x.toNat_lt
   rw[List.flatMap_cons,List.all_append,ih]
   simp only[List.all_cons,List.all_nil,Bool.and_true]
   rw[Qi _ (by omega),Qi _ (by omega)]; rfl
theorem QZ {m:Str} {n:Nat} {l:List Str} (h:iZ m=some (n,l)) : ∀ x∈l,bY x=true:=by
 intro x hx
 unfold bY
 rw[(lI h).2.2 x hx]
 unfold iZ at h
 split at h
 ·cases h
 ·split at h
  ·simp only[Option.some.injEq,Prod.mk.injEq] at h
   obtain⟨rfl,rfl⟩:=h
   obtain⟨y,hy,rfl⟩:=List.mem_map.1 hx
   rw[Wl]; rfl
  ·cases h
theorem YL {w:List bL} {s:Str} : uy (fW w) s=uH w s:=by
 unfold uy uH
 cases fW w s with
 | none=>rfl
 | some m =>
   dsimp only
   unfold nK
   cases hm:iZ m with
   | none=>rfl
   | some r =>
     obtain⟨n,l⟩:=r
     dsimp only
     unfold gq gD
     exact Hy fun x hx=>by rw[QZ hm x hx]; rfl
theorem Y1 {TS sb:Nat} {M:RM} {T:List eQ} {f:Str→Option Str} {W:Nat→Prop} (h:kS TS M sb T f W) {s:Str} : s∈fA T↔(f s).isSome=true:=by
 constructor
 ·intro hm
  obtain⟨t,ht,rfl⟩:=List.mem_map.1 hm
  obtain⟨b,q,_⟩:=h.val t ht
  rw[q]; rfl
 ·intro hs
  obtain⟨b,hb⟩:=Option.isSome_iff_exists.1 hs
  obtain⟨t,ht,rfl⟩:=h.dom s b hb
  exact List.mem_map_of_mem ht
theorem JX {TS sb:Nat} {M:RM} {T:List eQ} {f:Str→Option Str} {W:Nat→Prop} (h:kS TS M sb T f W) {w:List bL} (hw:Up w) (he:fW w=f) : (fA T).Perm (w.map (·.1)):=by
 obtain⟨mb,cl,_,_,_,_,g5,_⟩:=h.map
 refine(List.perm_ext_iff_of_nodup g5.nodup ?_).2 fun s=>?_
 ·exact List.pairwise_map.2 (hw.imp fun h e=>by rw[e] at h; exact List.lt_irrefl _ h)
 ·show s∈fA T↔_
  rw[Y1 h,← he,xH]
theorem XW {TS sb:Nat} {M:RM} {T:List eQ} {f:Str→Option Str} {W:Nat→Prop} (h:kS TS M sb T f W) {w:List bL} (hw:Up w) (he:fW w=f) : lh (fA T)=w.map (·.1):=by
 refine List.Perm.eq_of_pairwise (le:=fun a b=>mV a b=true) (fun a b _ _ h1 h2=>GA a b h1 h2) (pI _) ?_ ((nz _).trans (JX h hw he))
 exact List.pairwise_map.2 (hw.imp fun h=>by rw[rX]; exact decide_eq_true (List.le_of_lt h))
def vI (w:List bL) : Nat:=(w.map (·.2.length)).sum
theorem aau {TS sb:Nat} {M:RM} {T:List eQ} {f:Str→Option Str} {W:Nat→Prop} (h:kS TS M sb T f W) {w:List bL} (hw:Up w) (he:fW w=f) : sS (tL f) T=vI w:=by
 have h1:sS (tL f) T=((fA T).map fun s=>((f s).getD []).length).sum:=by unfold sS fA; rw[List.map_map]; rfl
 rw[h1,((JX h hw he).map _).sum_nat,List.map_map]
 unfold vI
 congr 1
 refine List.map_congr_left fun x hx=>?_
 show((f x.1).getD []).length=x.2.length
 rw[← he,UD hw hx]; rfl
end Go.Ab.Bl
namespace Go.Ab.Bl
open Go Go.Ab Go.Ab.aQ Go.Ab.Sha
theorem own_op {M:RM} {base el size n:Nat} {v:AV} {cs:List AV} (h:Own M base el size v cs n) (hn:0<n) : ∃ b,v=.slc b 0 n (.op size)∧base≤b∧b<M.next∧M.heap b=some (.row cs true el 0)∧cs.length=n * size:=by
 cases h with
 | nil=>omega
 | ex0 b o _ _ _=>omega
 | op b n cs h1 h2 h3 h4=>exact⟨b,rfl,h1,h2,h3,h4⟩
theorem Ll {M:RM} {base T8:Nat} {v:AV} {b:Str} {K:RM→Prop} (ho:Ow BY M base T8 v b) (hbl:b.length≤1000000000) (hK:∀ M',ae (ah v) M M'→M'.next=M.next→K M') :
  aX (fun next xs M1=>aU v fun t79=>af .lss (aa xs 0) t79 fun t80=>az t80 (aI v (aa xs 0) 1 fun t85=>aS M1 t85 (N .u8 99) 1 fun M2=>af .add (aa xs 0) (N .i64 1) fun t82=>next [t82] M2) (K M1)) [N .i64 0] M:=by
 refine aG (fun m ys M1=>∃ i:Nat,m=b.length - i∧ys=[N .i64 (i:Int)]∧i≤b.length∧ae (ah v) M M1∧M1.next=M.next∧(0<b.length→∃ c cs,v=.slc c 0 b.length (.op 1)∧M1.heap c=some (.row cs true T8 0)∧cs.length=b.length))
  _ ⟨0,rfl,rfl,Nat.zero_le _,ae.refl _ _,rfl,fun hp=>?_⟩ ?_
 ·obtain⟨c,h1,h2,h3,h4,h5⟩:=own_op ho hp
  exact⟨c,_,h1,h4,by rw[h5]; show b.length * 1=_; omega⟩
 rintro next m ys M1 hnext ⟨i,rfl,rfl,hi,k1,x1,hp⟩
 simp only[aC]
 rw[(Own.gJ ho).len,fE]
 refine aJ (fun hlt=>?_) (fun hge=>hK M1 k1 x1)
 have hlt:i<b.length:=of_decide_eq_true hlt
 obtain⟨c,cs,rfl,h1,h2⟩:=hp (by omega)
 rw[qK]
 refine⟨by omega,by omega, ?_⟩
 simp only[Int.toNat_natCast,Nat.mul_one,Nat.zero_add]
 rw[gT _ h1 (by omega) rfl rfl rfl,gB (by omega)]
 exact hnext _ _ _ (by omega) ⟨i + 1,rfl,rfl,hlt,k1.put _ (.inr (by simp[ah])),x1,fun _=>⟨c,_,rfl,aM _,by rw[List.length_set]; exact h2⟩⟩
theorem UE {w:List bL} {i:Nat} (hi:i<w.length) : vI (w.take (i + 1))=vI (w.take i) + w[i].2.length:=by
 unfold vI
 rw[List.take_succ_eq_append_getElem hi,List.map_append,List.sum_append_nat]; simp
theorem PU {k:Nat} : ∀ {w:List bL},(∀ x∈w,x.2.length≤k)→vI w≤w.length * k
 | [],_=>Nat.zero_le _
 | x :: w,h=>by
   have h1:=PU (w:=w) (fun y hy=>h y (List.mem_cons_of_mem _ hy))
   have h2:=h x (List.mem_cons_self ..)
   unfold vI at *
   simp only[List.map_cons,List.sum_cons,List.length_cons,Nat.succ_mul]; omega
theorem Nk {a:Bool} {K:AV→Prop} (h:K (Bo false)) : uL true (Bo a) (Bo a) K:=⟨a,a,rfl,rfl,by cases a <;> exact h⟩
theorem adW {TSt TU:Nat} {c:au} (hg:Ja TSt TU c) {M:RM} {sb n:Nat} {f:Str→Option Str} {W:Nat→Prop} {s:Str} {Q:ak} (h:kJ TSt M sb f W n)
  (hQ:∀ gv M',ae [] M M'→(f s=none→gv=bA)→Q (.tup [gv,Bo (f s).isSome]) M') : c [.ptr sb 0,St s] M Q:=by
 refine hg h (fun h0=>?_) (fun v b M' h1 _ k _=>?_)
 ·have:=hQ bA M (ae.refl _ _) (fun _=>rfl); rw[h0] at this; exact this
 ·have:=hQ v M' k (fun h=>by rw[h1] at h; cases h); rw[h1] at this; exact this
theorem abm {c:au} (hc:uI c) {M:RM} {v:AV} {w:List bL} {S:Nat→Prop} {s:Str} {Q:ak} (h:fw uG M v w S) (hw:w.length≤10000000)
  (hQ:∀ fn:Int,decide (fn ≥ 0)=(fW w s).isSome→Q (N .i64 fn) M) : c [v,St s] M Q:=by
 refine hc h hw (fun h0=>hQ _ (by rw[h0]; rfl)) (fun i hi _ h1=>hQ _ (by rw[h1]; exact decide_eq_true (by omega)))
theorem SQ {f g:Prop→Prop} {k:Prop} : DF (Bo false) false f g k=f k:=rfl
theorem VE {w:List bL} {s:Str} : (uH w s).length≤1000000:=by
 unfold uH
 split
 ·simp
 ·rename_i m _
  have:=rE (p:=fun s=>bY s && !(fW w s).isSome) (l:=nK m) (acc:=[])
  have h2:(nK m).length≤64:=by
   unfold nK
   split
   ·simp
   ·rename_i h
    obtain⟨h1,h2,_⟩:=lI h
    omega
  simp only[List.length_nil] at this
  unfold gq gD; omega
structure Ts (TSt TU TS:Nat) (cNs cG cBy cW cRW cP cRP cF cM cRM:au) : Prop where
 ns:xZ TSt TS cNs
 get:Ja TSt TU cG
 by_:Ao TSt cBy
 want:Ml TSt cW
 Xq:BJ TS cRW
 H7:JB TSt cP
 Ut:Da cRP
 find:uI cF
 miss:Ce TSt cM
 Xn:yT cRM
def NB (TSt:Nat) (c:au) : Prop:=∀ {M:RM} {sb n:Nat} {f:Str→Option Str} {W S:Nat→Prop} {v lv:AV} {w:List bL} {l:List Str} {Q:ak},kJ TSt M sb f W n→n≤1000000→fw uG M v w S→Up w→fW w=f →
 w.length≤1000000→(∀ x∈w,x.2.length≤1000000)→Sl bO M lv l→l.length≤1000000→(∀ x∈l,x.length≤281474976710656)→(∀ M',Q (Bo true) M')→c [.ptr sb 0,v,lv] M Q
theorem SB {TSt TU TS:Nat} {cNs cG cBy cW cRW cT cP cRP cF cM cRM:au} (C:Ts TSt TU TS cNs cG cBy cW cRW cP cRP cF cM cRM) (hT:Nq cT) :
  NB TSt fun args M Q=>∃ a0 a1 a2,args=[a0,a1,a2]∧tJ cNs cG cBy cW cRW cT cP cRP cF cM cRM a0 a1 a2 M Q:=by
 intro M sb n f W S v lv w l Q hst hn hw hup hf hwl hwb hl hll hlx hQ
 refine⟨_,_,_,rfl, ?_⟩
 unfold tJ
 refine C.ns hst hn fun T nv M1 hT1 hTn on k1=>?_
 rw[XW hT1 hup hf] at on
 have sn:=Own.gJ on
 rw[aD.len sn,hw.len,List.length_map,bX,show((w.length:Int) != (w.length:Int))=false by simp,dH]
 have hsum:∀ i,i≤w.length→vI (w.take i)≤1000000 * 1000000:=fun i hi=>Nat.le_trans (PU (k:=1000000) fun x hx=>hwb x (List.mem_of_mem_take hx)) (by rw[List.length_take]; exact Nat.mul_le_mul_right _ (by omega))
 refine aG (fun m ys M'=>∃ i:Nat,m=w.length - i∧ys=[N .i64 (vI (w.take i) : Int),N .i64 (i:Int)]∧i≤w.length∧ae [] M1 M') _ ⟨0,rfl,rfl,Nat.zero_le _,ae.refl _ _⟩ ?_
 rintro next m ys M2 hnext ⟨i,rfl,rfl,hi,k2⟩
 simp only[aC,bF]
 have k12:=k1.trans k2
 have hw2:=hw.keep k12 (by simp)
 rw[hw.len,fE]
 refine aJ (fun hlt=>?_) (fun hge=>?_)
 ·have hlt:i<w.length:=of_decide_eq_true hlt
  obtain⟨b,o,u,hbn,hidx,hld,hc0,hc1,hbs,hbS⟩:=uM hw2 hlt
  have hfi:f w[i].1=some w[i].2:=by rw[← hf]; exact UD hup (List.getElem_mem _)
  rw[hidx,bE,Nat.add_zero,aQ.bV hc0]
  refine C.get (hst.keep k12 (by simp)) (fun h=>by rw[hfi] at h; cases h) fun gv gb M3 hg hgl k3 og=>?_
  rw[hfi] at hg; cases hg
  rw[cz,dD]
  refine gG (i:=i) (aD.keep sn (k2.trans k3) (by simp)) (by rw[List.length_map]; exact hlt) ?_
  have hc0' : M3.cell b o=some (St w[i].1):=by rw[k3.cell hbn (by simp)]; exact hc0
  have hc1' : M3.cell b (o + 1)=some u:=by rw[k3.cell hbn (by simp)]; exact hc1
  rw[hidx,bE,Nat.add_zero,aQ.bV hc0',List.getElem_map,qN,Ol]
  simp only[iW]
  rw[dO,dQ,show(!true)=false from rfl]
  simp only[iW]
  rw[(Bs.own og).str,hidx,bE,aQ.bV hc1',(hbs.keep k3 (by simp)).str,qN,Ol]
  rw[dQ,dH,hidx,bE,aQ.bV hc1',(hbs.keep k3 (by simp)).len]
  have h1:=hsum i hi
  have h2:=hwb w[i] (List.getElem_mem _)
  rw[addN (by omega),← UE hlt]
  refine Ll og (by omega) fun M4 k4 x4=>?_
  rw[gB (by omega)]
  exact hnext _ _ _ (by omega) ⟨i + 1,rfl,rfl,hlt,k2.trans (k3.bu k4 fun x hx=>.inl (Own.blk og x hx).1)⟩
 ·have hil:i=w.length:=by have:=of_decide_eq_false hge; omega
  subst hil
  rw[List.take_length]
  refine C.by_ (hst.keep k12 (by simp)) hn fun T' M3 hT' _ k3=>?_
  rw[aau hT' hup hf,bX,show((vI w:Int) != (vI w:Int))=false by simp]
  simp only[bU]
  have k13:=k12.trans k3
  refine C.want (hst.keep k13 (by simp)) (aD.keep hl k13 (by simp)) (by omega) hlx fun av M4 k4 ha=>?_
  have k14:=k13.trans k4
  refine C.Xq (hw.keep k14 (by simp)) (by omega) (aD.keep hl k14 (by simp)) (by omega) hlx fun bv M5 k5 ob=>?_
  rw[← hf,YM] at ha
  have k15:=k14.trans k5
  have hwr:(gq w l).length≤1000000:=by
   have:=rE (p:=fun s=>bY s && !(fW w s).isSome) (l:=l) (acc:=[])
   simp only[List.length_nil] at this
   unfold gq gD; omega
  refine hT (aD.keep ha.sl k5 (by simp)) (Own.gJ ob) (by omega) (by omega) ?_
  rw[decide_eq_true rfl,dO,dQ,show(!true)=false from rfl,dH]
  refine aG (fun m ys M'=>∃ i:Nat,m=l.length - i∧ys=[N .i64 (i:Int)]∧i≤l.length∧ae [] M M') _ ⟨0,rfl,rfl,Nat.zero_le _,k15⟩ ?_
  rintro next m ys M6 hnext ⟨i,rfl,rfl,hi,k6⟩
  simp only[aC]
  rw[aD.len hl,fE]
  refine aJ (fun hlt=>?_) (fun _=>hQ M6)
  have hlt:i<l.length:=of_decide_eq_true hlt
  obtain⟨b,o,hbn,hbb,hidx,hld⟩:=Sl.at hl 1 (i:Int) hlt
  have hc:=fO.1 hld
  have cl:∀ {M' : RM},ae [] M M'→M'.cell b o=some (St l[i]):=fun k=>by rw[k.cell hbn (by simp)]; exact hc
  rw[hidx,aQ.bV (cl k6)]
  refine C.H7 (hst.keep k6 (by simp)) fun pv M7 k7 hpv=>?_
  have k07:=k6.trans k7
  rw[cz,dD,hidx,aQ.bV (cl k07)]
  refine C.Ut (hw.keep k07 (by simp)) (by omega) hwb fun qv M8 k8 hqv=>?_
  have k08:=k07.trans k8
  rw[hf] at hqv ⊢
  rw[cz,dD,hidx,aQ.bV (cl k08)]
  refine adW C.get (hst.keep k08 (by simp)) fun gv M9 k9 hgv=>?_
  have k09:=k08.trans k9
  rw[cz,dD,hidx,aQ.bV (cl k09)]
  refine abm C.find (hw.keep k09 (by simp)) (by omega) fun fn hfn=>?_
  rw[hf] at hfn
  rw[bX,show(((gZ f l[i]).2:Int) != ((gZ f l[i]).2:Int))=false by simp]
  simp only[iW]
  rw[(hpv.bs.keep (k8.trans k9) (by simp)).str,(hqv.bs.keep k9 (by simp)).str,qN,Ol,dQ]
  simp only[iW]
  rw[fV,hfn]
  refine Nk ?_
  rw[dQ]
  simp only[iW]
  rw[dO]
  have hb:(f l[i]).isSome=false→gv=bA:=fun h=>hgv (by simpa using h)
  cases hsb:(f l[i]).isSome
  case' false =>
   rw[show(!false)=true from rfl]
   simp only[dY]
   rw[hb hsb,(qg (n0:=0) (M:=M9)).bs.len,bX,show((([] : Str).length:Int) != 0)=false by rfl]
   try simp only[iW]
   rw[dX]
   try simp only[iW]
   rw[dQ]
  case' true =>
   rw[show(!true)=false from rfl]
   simp only[Ld]
   try simp only[iW]
   rw[dQ]
   try simp only[iW]
   rw[dQ]
  all_goals
   simp only[iW,bU]
   rw[hidx,aQ.bV (cl k09)]
   rw[hidx,aQ.bV (cl k09)]
   simp only[SQ]
   refine C.miss (hst.keep k09 (by simp)) fun mv M10 k10 hmv=>?_
   have VM:=k09.trans k10
   rw[aQ.bV (cl VM)]
   refine⟨rfl, ?_⟩
   refine C.Xn (hw.keep VM (by simp)) (by omega) hwb fun nv2 M11 k11 hnv=>?_
   rw[← hf,YL] at hmv
   have hlm:(uH w l[i]).length≤1000000:=VE
   refine hT (aD.keep hmv.sl k11 (by simp)) hnv.sl (by omega) (by omega) ?_
   rw[decide_eq_true rfl,dO,dQ,show(!true)=false from rfl,dH,gB (by omega)]
   exact hnext _ _ _ (by omega) ⟨i + 1,rfl,rfl,hlt,VM.trans k11⟩
structure Pl (TSt TB TS base:Nat) (M0 M:RM) (sb:Nat) (wv sv:AV) (w:List bL) (seen:List Str) (W S:Nat→Prop) (n:Nat) : Prop where
 be:base=M0.next
 kp:ae [] M0 M
 st:kJ TSt M sb (fW w) W n
 wa:pz M base TB wv w S
 ow:Ow bO M base TS sv seen
 up:Up w
 len:w.length≤n
 big:∀ x∈w,x.2.length≤100000
 sn:∀ x∈seen,x.length=64
 sl:seen.length≤n
 gF:base≤M.next
 jE:∀ x,W x→(base≤x∧x<M.next)∧x ∉ ah wv∧¬ S x∧x ∉ ah sv
 qx:∀ x,S x→(base≤x∧x<M.next)∧x ∉ ah sv
 BN:∀ x∈ah sv,x ∉ ah wv
section
variable {TSt TB TS base sb n:Nat} {M0 M M' : RM} {wv sv:AV} {w:List bL} {seen:List Str} {W S:Nat→Prop} {ks:List Nat}
theorem Pl.keep (h:Pl TSt TB TS base M0 M sb wv sv w seen W S n) (k:ae ks M M') (hk:∀ x∈ks,¬ W x∧¬ S x∧x ∉ ah wv∧x ∉ ah sv) (hkb:∀ x∈ks,base≤x) : Pl TSt TB TS base M0 M' sb wv sv w seen W S n where
 be:=h.be
 kp:=h.kp.bu k fun x hx=>.inl (by rw[← h.be]; exact hkb x hx)
 st:=h.st.keep k fun x hx=>(hk x hx).1
 wa:=h.wa.keep k (fun x hx hm=>(hk x hm).2.2.1 hx) fun x hx=>(hk x hx).2.1
 ow:=Own.keep h.ow k fun x hx hm=>(hk x hm).2.2.2 hx
 up:=h.up
 len:=h.len
 big:=h.big
 sn:=h.sn
 sl:=h.sl
 gF:=Nat.le_trans h.gF k.next
 jE x hx:=let ⟨a,b⟩:=h.jE x hx; ⟨⟨a.1,Nat.lt_of_lt_of_le a.2 k.next⟩,b⟩
 qx x hx:=let ⟨a,b⟩:=h.qx x hx; ⟨⟨a.1,Nat.lt_of_lt_of_le a.2 k.next⟩,b⟩
 BN:=h.BN
theorem Pl.ou (h:Pl TSt TB TS base M0 M sb wv sv w seen W S n) (k:ae [] M M') : Pl TSt TB TS base M0 M' sb wv sv w seen W S n:=h.keep k (by simp) (by simp)
theorem Pl.more (h:Pl TSt TB TS base M0 M sb wv sv w seen W S n) {m:Nat} (hm:n≤m) : Pl TSt TB TS base M0 M sb wv sv w seen W S m where
 be:=h.be
 kp:=h.kp
 st:=let ⟨T,a,b⟩:=h.st; ⟨T,a,Nat.le_trans b hm⟩
 wa:=h.wa
 ow:=h.ow
 up:=h.up
 len:=Nat.le_trans h.len hm
 big:=h.big
 sn:=h.sn
 sl:=Nat.le_trans h.sl hm
 gF:=h.gF
 jE:=h.jE
 qx:=h.qx
 BN:=h.BN
theorem Pl.see (h:Pl TSt TB TS base M0 M sb wv sv w seen W S n) {sv' : AV} {s:Str} (hs:s.length=64) (hn:seen.length + 1≤n) (o:Ow bO M' base TS sv' (seen++[s])) (k:ae (ah sv) M M') (hv:sv'=sv∨∀ b∈ah sv',M.next≤b) :
  Pl TSt TB TS base M0 M' sb wv sv' w (seen++[s]) W S n where
 be:=h.be
 kp:=h.kp.bu k fun x hx=>.inl (by rw[← h.be]; exact(Own.blk h.ow x hx).1)
 st:=h.st.keep k fun x hx hW=>(h.jE x hW).2.2.2 hx
 wa:=h.wa.keep k (fun x hx hm=>h.BN x hm hx) fun x hx hS=>(h.qx x hS).2 hx
 ow:=o
 up:=h.up
 len:=h.len
 big:=h.big
 sn x hx:=by
  rcases List.mem_append.1 hx with hx | hx
  ·exact h.sn x hx
  ·simp at hx; subst hx; exact hs
 sl:=by simpa using hn
 gF:=Nat.le_trans h.gF k.next
 jE x hx:=by
  obtain⟨a,b,c,d⟩:=h.jE x hx
  refine⟨⟨a.1,Nat.lt_of_lt_of_le a.2 k.next⟩,b,c,fun hm=>?_⟩
  rcases hv with rfl | hv
  ·exact d hm
  ·have:=hv x hm; omega
 qx x hx:=by
  obtain⟨a,d⟩:=h.qx x hx
  refine⟨⟨a.1,Nat.lt_of_lt_of_le a.2 k.next⟩,fun hm=>?_⟩
  rcases hv with rfl | hv
  ·exact d hm
  ·have:=hv x hm; omega
 BN x hx hm:=by
  rcases hv with rfl | hv
  ·exact h.BN x hx hm
  ·have:=hv x hx; have:=(h.wa.blk x hm).2; omega
end
theorem Pl.aew {TSt TB TS base sb n:Nat} {M0 M M1 M2:RM} {wv wv' sv:AV} {w:List bL} {seen:List Str} {W S W' S' : Nat→Prop} {ks:List Nat} {b:Str} (h:Pl TSt TB TS base M0 M sb wv sv w seen W S n)
  (hb:b.length≤100000) (h1:kJ TSt M1 sb (oH (fW w) b) W' (n + 1)) (k1:ae ks M M1) (hks:∀ x∈ks,W x) (hW:∀ x,W' x→W x∨M.next≤x)
  (k2:ae [] M1 M2) (h2:pz M2 base TB wv' (oN w b) S') (hS:∀ x,S' x→(S x∨M1.next≤x)∧x<M2.next) (hv:∀ x∈ah wv',x∈ah wv∨M1.next≤x) :
  Pl TSt TB TS base M0 M2 sb wv' sv (oN w b) seen W' S' (n + 1) where
 be:=h.be
 kp:=(h.kp.bu k1 fun x hx=>.inl (by rw[← h.be]; exact(h.jE x (hks x hx)).1.1)).trans k2
 st:=by rw[Zk]; exact h1.keep k2 (by simp)
 wa:=h2
 ow:=Own.keep (Own.keep h.ow k1 fun x hx hm=>(h.jE x (hks x hm)).2.2.2 hx) k2 (by simp)
 up:=Zb h.up b
 len:=Nat.le_trans X0 (Nat.succ_le_succ h.len)
 big x hx:=by
  rcases put_mem hx with rfl | hx
  ·exact hb
  ·exact h.big x hx
 sn:=h.sn
 sl:=Nat.le_succ_of_le h.sl
 gF:=Nat.le_trans h.gF (Nat.le_trans k1.next k2.next)
 jE x hx:=by
  have hn1:=k1.next
  have hn2:=k2.next
  have hb:=h.gF
  have hlt:x<M1.next:=by obtain⟨T,hT,_⟩:=h1; exact hT.lt x hx
  have hx' : (base≤x)∧x ∉ ah wv∧¬ S x∧x ∉ ah sv:=by
   rcases hW x hx with hx | hx
   ·obtain⟨a,b,c,d⟩:=h.jE x hx; exact⟨a.1,b,c,d⟩
   ·refine⟨by omega,fun hm=>?_,fun hm=>?_,fun hm=>?_⟩
    ·have:=(h.wa.blk x hm).2; omega
    ·have:=(h.qx x hm).1.2; omega
    ·have:=(Own.blk h.ow x hm).2; omega
  refine⟨⟨hx'.1,by omega⟩,fun hm=>?_,fun hm=>?_,hx'.2.2.2⟩
  ·rcases hv x hm with hm | hm
   ·exact hx'.2.1 hm
   ·omega
  ·rcases(hS x hm).1 with hm | hm
   ·exact hx'.2.2.1 hm
   ·omega
 qx x hx:=by
  have hn1:=k1.next
  obtain⟨a,b⟩:=hS x hx
  rcases a with a | a
  ·exact⟨⟨(h.qx x a).1.1,b⟩,(h.qx x a).2⟩
  ·have hb:=h.gF
   exact⟨⟨by omega,b⟩,fun hm=>by have:=(Own.blk h.ow x hm).2; omega⟩
 BN x hx hm:=by
  have hn1:=k1.next
  rcases hv x hm with hm | hm
  ·exact h.BN x hx hm
  ·have:=(Own.blk h.ow x hx).2; omega
theorem Pl.kept {TSt TB TS base sb n:Nat} {M0 M M1 M2:RM} {wv wv' sv:AV} {w:List bL} {seen:List Str} {W S:Nat→Prop} {ks:List Nat} {l:List Str} {T:List eQ} (h:Pl TSt TB TS base M0 M sb wv sv w seen W S n)
  (k1:ae [] M M1) (h1:pz M1 M.next TB wv' (w.filter fun x=>decide (x.1∈iA (fW w) l)) S)
  (h2:kS TSt M2 sb (T.filter fun t=>iq (fW w) l t.1) (fun s=>if iq (fW w) l s then fW w s else none) W) (hT:T.length≤n) (k2:ae ks M1 M2) (hks:∀ x∈ks,W x) :
  Pl TSt TB TS base M0 M2 sb wv' sv (w.filter fun x=>decide (x.1∈iA (fW w) l)) seen W S n:=by
 have hn1:=k1.next
 have hn2:=k2.next
 have hb:=h.gF
 have he:fW (w.filter fun x=>decide (x.1∈iA (fW w) l))=fun s=>if iq (fW w) l s then fW w s else none:=by
  funext s
  rw[wX (k:=fun s=>decide (s∈iA (fW w) l)),OL]
 have vV:∀ x,W x→x<M.next:=fun x hx=>(h.jE x hx).1.2
 have hv:=h1.blk
 refine⟨h.be,(h.kp.trans k1).bu k2 (fun x hx=>.inl (by rw[← h.be]; exact(h.jE x (hks x hx)).1.1)), ?_, ?_, ?_, ?_, ?_, ?_,h.sn,h.sl,by omega, ?_, ?_, ?_⟩
 ·rw[he]; exact⟨_,h2,Nat.le_trans (List.length_filter_le _ _) hT⟩
 ·exact(h1.keep k2 (fun x hx hm=>by have:=vV x (hks x hm); have:=(hv x hx).1; omega) fun x hx hS=>(h.jE x (hks x hx)).2.2.1 hS).low h.gF
 ·exact Own.keep (Own.keep h.ow k1 (by simp)) k2 fun x hx hm=>(h.jE x (hks x hm)).2.2.2 hx
 ·exact List.Pairwise.filter _ h.up
 ·exact Nat.le_trans (List.length_filter_le _ _) h.len
 ·exact fun x hx=>h.big x (List.mem_filter.1 hx).1
 ·intro x hx
  obtain⟨a,b,c,d⟩:=h.jE x hx
  exact⟨⟨a.1,by omega⟩,fun hm=>by have:=(hv x hm).1; omega,c,d⟩
 ·intro x hx
  obtain⟨a,d⟩:=h.qx x hx
  exact⟨⟨a.1,by omega⟩,d⟩
 ·intro x hx hm
  have:=(hv x hm).1
  have:=(Own.blk h.ow x hx).2
  omega
theorem Q5 {TS sb:Nat} {M:RM} {T:List eQ} {W:Nat→Prop} {w:List bL} (h:kS TS M sb T (fW w) W) (hw:Up w) (l:List Str) :
  (T.filter fun t=>iq (fW w) l t.1).length=(w.filter fun x=>decide (x.1∈iA (fW w) l)).length∧T.length=w.length:=by
 have hp:=JX h hw rfl
 have h1:(T.filter fun t=>iq (fW w) l t.1).length=((fA T).filter fun s=>iq (fW w) l s).length:=by
  unfold fA; rw[List.filter_map,List.length_map]; rfl
 have h2:(w.filter fun x=>decide (x.1∈iA (fW w) l)).length=((w.map (·.1)).filter fun s=>iq (fW w) l s).length:=by
  rw[List.filter_map,List.length_map]
  congr 2
  funext x
  exact OL.symm
 refine⟨by rw[h1,h2]; exact(hp.filter _).length_eq, ?_⟩
 have:=hp.length_eq
 simpa [fA] using this
theorem Pl.start {TSt TB TS sb:Nat} {M0 M:RM} {W:Nat→Prop} (k:ae [] M0 M) (h:kJ TSt M sb (fun _=>none) W 0) (hW:∀ x,W x→M0.next≤x) : Pl TSt TB TS M0.next M0 M sb bA bA [] [] W (fun _=>False) 0:=by
 have hn:=k.next
 refine⟨rfl,k,h,pz.nil,.nil,.nil,Nat.le_refl _,by simp,by simp,Nat.le_refl _,by omega, ?_,fun x hx=>hx.elim,by simp[ah]⟩
 intro x hx
 obtain⟨T,hT,_⟩:=h
 exact⟨⟨hW x hx,hT.lt x hx⟩,by simp[ah],id,by simp[ah]⟩
theorem U4 {TSt TB TS T8 base sb n:Nat} {M0 M:RM} {wv sv gv:AV} {w:List bL} {seen gl:List Str} {W S G:Nat→Prop} {qB Ig Bt:au} {Q:ak} {K:AV→RM→Prop}
  (hP:OI TSt qB) (hN:rQ Ig) (hR:EP TB Bt) (h:Pl TSt TB TS base M0 M sb wv sv w seen W S n) (hg:fw kY M gv gl G) (hG:∀ x,G x→x<M.next∧¬ W x) (hgb:∀ b∈gl,b.length≤100000)
  (hgl:gl.length≤100) (hn:n≤900000) (hK:∀ wv' w' W' S' M',Pl TSt TB TS base M0 M' sb wv' sv w' seen W' S' (n + gl.length)→K wv' M') :
  aX (fun Yx Ck aaA=>aU gv fun t149=>af .lss (aa Ck 1) t149 fun t150=>az t150 ( bn T8 0 [(N .u8 0)] [] fun acM acQ=>aO acM acQ aaA fun t153 aaa=>aI gv (aa Ck 1) 1 fun t156=>ag aaa t156 fun t157=>appW T8 1 1 [(N .u8 0)] false t153 t157 aaa fun t158 ZK=>aI gv (aa Ck 1) 1 fun t164=>ag ZK t164 fun t165=>qB [.ptr sb 0,t158] ZK fun t161 aaL=>ag aaL t164 fun YW=>(YW=t165∧Ig [t165] aaL fun t166 ZV=>iN .neq t161 t166 fun t167=>az t167 ( Q (Bo false) ZV) ( aX (fun YN QV Xc=>aU t158 fun t170=>af .lss (aa QV 0) t170 fun t171=>az t171 ( aI t158 (aa QV 0) 1 fun t176=>aS Xc t176 (N .u8 99) 1 fun acL=>af .add (aa QV 0) (N .i64 1) fun t173=>YN [t173] acL) ( aI gv (aa Ck 1) 1 fun t180=>ag Xc t180 fun t181=>Bt [(aa Ck 0),t181] Xc fun t182 aco=>af .add (aa Ck 1) (N .i64 1) fun t152=>Yx [t182,t152] aco)) [(N .i64 0)] ZV))) ( K (aa Ck 0) aaA)) [wv,(N .i64 0)] M:=by
 refine aG (fun m ys M2=>∃ (i:Nat) (wv2:AV) (w2:List bL) (W2 S2:Nat→Prop),m=gl.length - i∧ys=[wv2,N .i64 (i:Int)]∧i≤gl.length∧Pl TSt TB TS base M0 M2 sb wv2 sv w2 seen W2 S2 (n + i)∧fw kY M2 gv gl G∧∀ x,G x→x<M2.next∧¬ W2 x)
  _ ⟨0,wv,w,W,S,rfl,rfl,Nat.zero_le _,h,hg,hG⟩ ?_
 rintro next m ys M2 hnext ⟨i,wv2,w2,W2,S2,rfl,rfl,hi,h2,hg2,hG2⟩
 simp only[aC,bF]
 rw[hg2.len,fE]
 refine aJ (fun hlt=>?_) (fun hge=>?_)
 ·have hlt:i<gl.length:=of_decide_eq_true hlt
  obtain⟨b,o,cs,hbn,hbb,hidx,hld,v,rfl,hb2,hbG⟩:=hg2.at (i:=i) 1 (i:Int) hlt
  have hb2:Bs M2 v gl[i]:=hb2
  have hGv:∀ x∈ah gv,G x:=by obtain⟨_,_,h,_⟩:=hg2; exact h
  have hbl:=hgb gl[i] (List.getElem_mem _)
  have hc2:=fO.1 hld
  rw[BF,aL]
  have k3:ae [] M2 (M2.push (.row [] false T8 0)):=(ae.refl _ _).push _
  have o3:Ow BY (M2.push (.row [] false T8 0)) M2.next T8 (.slc M2.next 0 0 (.ex 0)) []:=Ow.lit BY M2
  have x3:(M2.push (.row [] false T8 0)).next=M2.next + 1:=rfl
  generalize M2.push (.row [] false T8 0)=M3 at *
  have hc3:M3.cell b o=some v:=by rw[k3.cell hbn (by simp)]; exact hc2
  rw[hidx,aQ.bV hc3]
  refine iE (E:=BY) o3 (by omega) (by decide) (hb2.keep k3 (by simp)).sl (by simp; omega) (by simp; omega) fun u M4 o4 k4 hn4 hu4=>?_
  rw[List.nil_append] at o4
  have k24:ae [] M2 M4:=k3.bu k4 (fun x hx=>.inl (by simp[ah] at hx; omega))
  have hc4:M4.cell b o=some v:=by rw[k24.cell hbn (by simp)]; exact hc2
  have hub:=Own.blk o4
  rw[hidx,aQ.bV hc4]
  have h4:=h2.ou k24
  refine hP h4.st (Bs.own o4) (by omega) fun M5 W5 ks5 Gv k5 Mw hW5 hs5=>?_
  have hWG:∀ x,G x→x ∉ ks5:=fun x hx hm=>(hG2 x hx).2 (Mw x hm)
  have hc5:M5.cell b o=some v:=by rw[k5.cell (by omega) (hWG b (hGv b hbb))]; exact hc4
  rw[aQ.bV hc5]
  refine⟨rfl, ?_⟩
  have hb5:Bs M5 v gl[i]:=(hb2.keep k24 (by simp)).keep k5 fun x hx=>hWG x (hbG x hx)
  refine hN hb5 (by omega) fun M6 k6=>?_
  rw[qN,Ol,dH]
  have hn5:=k5.next
  have hn6:=k6.next
  have vV:∀ x,W2 x→x<M2.next:=fun x hx=>(h2.jE x hx).1.2
  have hu5:∀ x∈ah u,¬ W5 x:=fun x hx hm=>by
   have h1:=hub x hx
   rcases hW5 x hm with hm | hm
   ·have:=vV x hm; omega
   ·omega
  have o6:Ow BY M6 M2.next T8 u gl[i]:=Own.keep (Own.keep o4 k5 fun x hx hm=>by have:=hub x hx; have:=vV x (Mw x hm); omega) k6 (by simp)
  refine Ll o6 (by omega) fun M7 k7 x7=>?_
  have hGu:∀ x,x<M2.next→x ∉ ah u:=fun x hx hm=>by have:=hub x hm; omega
  have hc7:M7.cell b o=some v:=by rw[k7.cell (by omega) (hGu b hbn),k6.cell (by omega) (by simp)]; exact hc5
  rw[hidx,aQ.bV hc7]
  have BL:∀ x∈ah v,x<M2.next:=hb2.lt
  have hb7:Bs M7 v gl[i]:=(hb5.keep k6 (by simp)).keep k7 fun x hx=>hGu x (BL x hx)
  have k27:ae ks5 M2 M7:=(((ae.refl ks5 M2).bu k24 (by simp)).bu k5 (fun x hx=>.inr hx)).bu k6 (by simp) |>.bu k7 (fun x hx=>.inl (hub x hx).1)
  have adm:=h2.wa.keep k27 (fun x hx hm=>(h2.jE x (Mw x hm)).2.1 hx) fun x hx=>(h2.jE x (Mw x hx)).2.2.1
  have hbase:=h2.gF
  refine hR adm (by omega) (by have:=h2.len; omega) hb7 (by omega) (fun x hx=>by have:=(h2.qx x hx).1.2; omega) fun wv8 M8 S8 k8 h8 hS8 hv8=>?_
  rw[gB (by omega)]
  have hn8:=k8.next
  refine hnext _ _ _ (by omega) ⟨i + 1,wv8,_,W5,S8,rfl,rfl,hlt,h2.aew (hgb _ (List.getElem_mem _)) ((Gv.keep k6 (by simp)).keep k7 hu5) k27 Mw (fun x hx=>(hW5 x hx).imp id fun h=>by omega) k8 h8 hS8 hv8, ?_, ?_⟩
  ·exact(hg2.keep k27 (fun x hx hm=>hWG x hm hx)).keep k8 (by simp)
  ·intro x hx
   refine⟨by have:=(hG2 x hx).1; omega,fun hm=>?_⟩
   rcases hW5 x hm with hm | hm
   ·exact(hG2 x hx).2 hm
   ·have:=(hG2 x hx).1; omega
 ·have:i=gl.length:=by have:=of_decide_eq_false hge; omega
  subst this
  exact hK _ _ _ _ _ h2
theorem YR {α:Type} {R:mF α} {M:RM} {v u:AV} {xs ys:List α} {S:Nat→Prop} {base T bytes:Nat} {zs:List AV} {K:ak} (ho:gI R M base T v xs S) (hu:fw R M u ys S) (hb:base≤M.next) (hs:1≤R.size)
  (hd:∀ b∈ah v,¬ S b) (hS:∀ b,S b→b<M.next) (hn:(xs.length + ys.length) * bytes≤140737488355328) (hn2:xs.length + ys.length≤140737488355328)
  (hK:∀ v' M',gI R M' base T v' (xs++ys) S→ae (ah v) M M'→M.next≤M'.next→(v'=v∨∀ b∈ah v',M.next≤b)→(∀ b∈ah v',¬ S b)→K v' M') :
  appW T R.size bytes zs false v u M K:=by
 obtain⟨ds,h1,h2⟩:=ho
 obtain⟨cs,g1,g2,g3⟩:=hu
 refine qH h1 hb hs (aD.mr g1 _) g3.len g3.one hn hn2 ?_
 intro v' M' q1 q2 q3 q4
 refine hK v' M' ⟨_,by simpa using q1,(h2.keep q2 hd).append (g3.keep q2 hd)⟩ q2 q3 q4 ?_
 rcases q4 with rfl | q4
 ·exact hd
 ·intro b hb hSb
  have:=q4 b hb
  have:=hS b hSb
  omega
theorem Uc {TS ab:Nat} {M:RM} {sv x0 x1 x3:AV} {at' : Int} {pp:Bool} {TA:Nat} {seen:List Str} {K:AV→RM→Prop} (hs:Sl bO M sv seen) (hsl:seen.length≤1000) (ha:M.heap ab=some (.row [x0,x1,N .i64 at',x3] pp TA 0)) (hab:ab<M.next)
  (hK:∀ l pv M',ae [] M M'→Ow bO M' M.next TS pv l→l.length≤1000→K pv M') :
  aX (fun Yh wY aac=>aU sv fun t54=>af .lss (aa wY 1) t54 fun t55=>ax t55 true (fun ade=>ade (aa wY 1) aac) (fun k=>k .undef aac) fun t57 Zw=>ax t55 true (fun aeu=>af .lss t57 (N .i64 30) fun t58=>aeu t58 Zw) (fun k=>k .undef Zw) fun Z0 Ho=>aV t55 Z0 (Bo false) fun t59=>az t59 ( ek (fun aaE=>bT (.ptr ab 0) 2 fun t62=>ag Ho t62 fun t63=>eD .u64 (aa wY 1) fun t65=>iX .shr t63 t65 fun t66=>af .and t66 (N .i64 1) fun t67=>af .eql t67 (N .i64 1) fun t68=>az t68 ( aI sv (aa wY 1) 1 fun t72=>ag Ho t72 fun t73=>bn TS 1 [(St [])] [(0,1,t73)] fun acs adB=>aO acs adB Ho fun t74 aea=>appW TS 1 16 [(St [])] false (aa wY 0) t74 aea fun t75 aeA=>aaE [t75] aeA) ( aaE [(aa wY 0)] Ho)) (fun abj acG=>af .add (aa wY 1) (N .i64 1) fun t61=>Yh [(aa abj 0),t61] acG)) ( K (aa wY 0) Ho)) [(.sc (.slice none 0 0)),(N .i64 0)] M:=by
 simp only[Sha.dW]
 refine aG (fun m ys M2=>∃ (i:Nat) (pv:AV) (l:List Str),m=seen.length - i∧ys=[pv,N .i64 (i:Int)]∧i≤seen.length∧ae [] M M2∧Ow bO M2 M.next TS pv l∧l.length≤i) _ ⟨0,bA,[],rfl,rfl,Nat.zero_le _,ae.refl _ _,.nil,Nat.le_refl _⟩ ?_
 rintro next m ys M2 hnext ⟨i,pv,l,rfl,rfl,hi,k2,o2,hl⟩
 simp only[aC,bF]
 rw[aD.len hs,fE]
 have stop:K pv M2:=hK l pv M2 k2 o2 (by omega)
 by_cases hlt:i<seen.length
 ·rw[decide_eq_true hlt]
  simp only[fH]
  rw[dK,dX]
  refine aJ (fun _=>?_) (fun _=>stop)
  refine dh (fun zs M'=>∃ pv' l',zs=[pv']∧ae [] M M'∧Ow bO M' M.next TS pv' l'∧l'.length≤i + 1) ?_ ?_
  ·rintro zs M' ⟨pv',l',rfl,c1,c2,c3⟩
   simp only[aC]
   rw[gB (by omega)]
   exact hnext _ _ _ (by omega) ⟨i + 1,pv',l',rfl,rfl,hlt,c1,c2,c3⟩
  intro J hJ
  rw[uZ,aF (k2.aB ha hab (by simp)) rfl,cZ,iD]
  refine⟨by show(0:Int)≤(i:Int) % 18446744073709551616; omega, ?_⟩
  rw[dB,bS]
  refine aJ (fun _=>?_) (fun _=>hJ _ _ ⟨pv,l,rfl,k2,o2,by omega⟩)
  refine gG (aD.keep hs k2 (by simp)) hlt ?_
  rw[fq (x:=St seen[i]) (size:=1) rfl rfl rfl,aL]
  refine fP (E:=bO) (a:=seen[i]) o2 (by have:=k2.next; omega) (by decide) (by omega) (by omega) fun v4 M4 o4 k4 hn4 hv4=>?_
  exact hJ _ _ ⟨v4,_,rfl,k2.bu k4 (fun x hx=>.inl (Own.blk o2 x hx).1),o4,by simp; omega⟩
 ·rw[decide_eq_false hlt]
  simp only[jv]
  rw[dQ,dH]
  exact stop
theorem VZ {M:RM} {b o n:Nat} {cs:List AV} {K:AV→Prop} (h:M.loads b o n=some cs) : dE M (.ptr b o) n K=K (.agg cs):=by
 simp[si,h]
theorem ZT (x:Int) : ∃ k:Nat,k≤255∧nI .i64 x 255=(k:Int):=by
 have h:(BitVec.ofInt 64 x &&& BitVec.ofInt 64 255).toNat≤255:=by rw[BitVec.toNat_and]; exact Nat.le_trans Nat.and_le_right (by decide)
 refine⟨_,h, ?_⟩
 show IntKind.wrap .i64 ((BitVec.ofInt 64 x &&& BitVec.ofInt 64 255).toNat:Int)=_
 exact aP (by omega) (by omega)
theorem and1 (x:Int) : ∃ k:Nat,k≤1∧nI .i64 x 1=(k:Int):=by
 have h:(BitVec.ofInt 64 x &&& BitVec.ofInt 64 1).toNat≤1:=by rw[BitVec.toNat_and]; exact Nat.le_trans Nat.and_le_right (by decide)
 refine⟨_,h, ?_⟩
 show IntKind.wrap .i64 ((BitVec.ofInt 64 x &&& BitVec.ofInt 64 1).toNat:Int)=_
 exact aP (by omega) (by omega)
theorem MO {T:Nat} {M:RM} {v:AV} {b:Str} {K:ak} (h:Bs M v b)
  (hK:∀ gv M',ae [] M M'→fw kY M' gv [b] (fun x=>x∈ah v∨x∈ah gv)→(∀ x∈ah gv,M.next≤x∧x<M'.next)→K gv M') :
  bn T 1 [(.sc (.slice none 0 0))] [(0,1,v)] fun r f=>aO r f M fun t M1=>appW T 1 24 [(.sc (.slice none 0 0))] false (.sc (.slice none 0 0)) t M1 K:=by
 have hc:v.cells=[v]:=aD.cells h.sl
 rw[fq (x:=v) (size:=1) (by rw[hc]; rfl) (by rw[hc]; simp[aD.one h.sl]) rfl,aL,hc]
 refine gI.app (R:=kY) (a:=b) (xs:=[]) (S:=fun x=>x∈ah v) (base:=M.next) .nil ⟨v,rfl,h,fun x hx=>hx⟩ (Nat.le_refl _) (Nat.le_refl 1) (by simp[ah]) (fun x hx=>h.lt x hx) (by decide) (by decide) fun gv M' o k hn _ hd=>?_
 obtain⟨cs,q1,q2⟩:=o
 exact hK gv M' (k.mono (by simp[ah])) ⟨cs,q1.gJ,fun x hx=>Or.inr hx,q2.mono fun x hx=>Or.inl hx⟩ q1.blk
theorem MB {n:Nat} {b:Str} : ∀ x∈bD n b,x.length≤n:=by
 intro x hx
 obtain⟨k,_,rfl⟩:=List.mem_map.1 hx
 rw[List.length_take]; omega
theorem De:∀ l:List Str,(l.flatMap qG).length=32 * l.length
 | []=>rfl
 | x :: l=>by rw[List.flatMap_cons,List.length_append,De l,oI,List.length_cons]; omega
theorem WE {b:Str} (h:b.length≤1000) : (oP b).length≤1000:=by
 unfold oP
 have h1:=Ay (v:=b.length) (by omega)
 rw[List.length_append,De,eF]
 unfold dN
 omega
abbrev Rl:=Int × Int × Int × Str
def Sc:mF Rl where
 size:=4
 rel M cs x S:=∃ v,cs=[N .i64 x.1,N .i64 x.2.1,N .i64 x.2.2.1,v]∧Bs M v x.2.2.2∧∀ d∈ah v,S d
 len h:=by obtain⟨v,rfl,_⟩:=h; rfl
 one h:=by obtain⟨v,rfl,h,_⟩:=h; simp[aD.one h.sl]; exact⟨rfl,rfl,rfl⟩
 mono h hs:=by obtain⟨v,rfl,h,k⟩:=h; exact⟨v,rfl,h,fun x hx=>hs x (k x hx)⟩
 lt h:=by obtain⟨v,rfl,h,k⟩:=h; exact⟨v,rfl,h,fun x hx=>⟨k x hx,h.lt x hx⟩⟩
 keep h hk hb:=by obtain⟨v,rfl,h,k⟩:=h; exact⟨v,rfl,h.keep hk (fun x hx hm=>hb x hm (k x hx)),k⟩
def Uw (c:au) : Prop:=∀ {M:RM} {S0:Nat→Prop} {av tv:AV} {acts:List Rl} {l:List Str} {Q:ak},fw Sc M av acts S0→Sl bO M tv l→(∀ x∈l,x.length≤281474976710656)→(∀ M',Q (Bo true) M')→c [av,tv] M Q
theorem Sd {TSt TA TB T2 TS T8:Nat} {ca zO cPh cCh cMf cNm cRK cK qB Bt cT:au} (hA:Iy ca) (acX:AB TSt zO) (hPh:ES cPh) (hCh:tX T2 cCh) (hMf:uW cMf) (hNm:rQ cNm)
  (hRK:GQ TB cRK) (hK:Mi TSt cK) (adQ:OI TSt qB) (abI:EP TB Bt) (hT:NB TSt cT) :
  Uw fun args M Q=>∃ a0 a1,args=[a0,a1]∧mo ca zO TA cPh cCh cMf T2 cNm TS cRK cK T8 qB Bt cT a0 a1 M Q:=by
 intro M S0 av tv acts l Q RY hl hlx hQ
 refine⟨_,_,rfl, ?_⟩
 unfold mo
 refine hA fun M1 k1=>?_
 rw[dO,show(!true)=false from rfl,dH,RY.len,fZ]
 by_cases h25:(acts.length:Int) > 25
 ·rw[decide_eq_true h25]
  simp only[gp]
  rw[dX,fo]; exact hQ M1
 rw[decide_eq_false h25]
 simp only[bU]
 rw[aD.len hl,fZ,dQ]
 refine aJ (fun _=>hQ M1) (fun h20=>?_)
 have h20:=of_decide_eq_false h20
 refine acX fun sb M2 W k2 hst hW=>?_
 have p2:Pl TSt TB TS M1.next M1 M2 sb bA bA [] [] W (fun _=>False) 0:=Pl.start k2 hst hW
 have Z6:=RY.keep k1 (by simp)
 have hl1:=aD.keep hl k1 (by simp)
 refine aG (fun m ys M3=>∃ (i:Nat) (wv sv:AV) (w:List bL) (seen:List Str) (W S:Nat→Prop),m=acts.length - i∧ys=[wv,sv,N .i64 (i:Int)]∧i≤acts.length∧Pl TSt TB TS M1.next M1 M3 sb wv sv w seen W S (7 * i))
  _ ⟨0,bA,bA,[],[],W,_,rfl,rfl,Nat.zero_le _,p2⟩ ?_
 rintro next m ys M3 hnext ⟨i,wv,sv,w,seen,W,S,rfl,rfl,hi,p3⟩
 simp only[aC,bF]
 rw[RY.len,fE]
 refine aJ (fun hlt=>?_) (fun hge=>?_)
 ·have hlt:i<acts.length:=of_decide_eq_true hlt
  simp only[Sha.dW]
  refine dh (fun zs M'=>∃ (wv sv:AV) (w:List bL) (seen:List Str) (W S:Nat→Prop),zs=[wv,sv]∧Pl TSt TB TS M1.next M1 M' sb wv sv w seen W S (7 * (i + 1))) ?_ ?_
  ·rintro zs M' ⟨wv',sv',w',seen',W',S',rfl,p⟩
   simp only[aC,bF]
   rw[gB (by omega)]
   exact hnext _ _ _ (by omega) ⟨i + 1,_,_,_,_,_,_,rfl,rfl,hlt,p⟩
  intro J hJ
  have ha3:=Z6.lt.keep p3.kp (by simp)
  obtain⟨b,o,cs,hbn,hbb,hidx,hld,dv,rfl,hd,hdS⟩:=ha3.at (i:=i) 4 (i:Int) hlt
  generalize acts[i]=ac at hd hld
  obtain⟨op,nn,at',data⟩:=ac
  dsimp only at hld
  have hd:Bs M3 dv data:=hd
  rw[hidx,VZ hld]
  refine wV (K:=fun t Gf=>_) (z:=_) (cs:=_) 4 rfl rfl (by simp[aD.one hd.sl]; exact⟨rfl,rfl,rfl⟩) fun M4 k4 n4 x4=>?_
  rw[bE,Nat.zero_add,aF n4 rfl,dB]
  obtain⟨ln,hln,hle⟩:=ZT nn
  obtain⟨fr,hfr,hfe⟩:=and1 nn
  rw[hle,bE,Nat.zero_add,aF n4 rfl,dB,hfe,cZ,wrap_u8,Nat.mod_eq_of_lt (by omega)]
  refine hPh (by omega) (by omega) fun pv M5 k5 hpv=>?_
  refine hCh hpv.bs (by rw[jT]; omega) fun cv M6 k6 ocv=>?_
  have k36:=(k4.trans k5).trans k6
  have p6:=p3.ou k36
  have n6:=(k5.trans k6).aB n4 (by omega) (by simp)
  refine dh (fun zs M'=>∃ (wv sv gv:AV) (w:List bL) (seen:List Str) (W S G:Nat→Prop) (gl:List Str),zs=[wv,sv,gv]∧Pl TSt TB TS M1.next M1 M' sb wv sv w seen W S (7 * i + 1)∧fw kY M' gv gl G ∧
    (∀ x,G x→x<M'.next∧¬ W x)∧(∀ b∈gl,b.length≤100000)∧gl.length≤6) ?_ ?_
  ·rintro zs M' ⟨wv',sv',gv,w',seen',W',S',G,gl,rfl,p,hg,hG,hgb,hgl⟩
   simp only[aC,bF]
   refine U4 (K:=fun wv=>J [wv,sv']) adQ hNm abI p hg hG hgb (by omega) (by omega) fun wv2 w2 W2 S2 M2' p2'=>?_
   exact hJ _ _ ⟨_,_,_,_,_,_,rfl,p2'.more (by omega)⟩
  intro J2 hJ2
  rw[bE,Nat.zero_add,aF n6 rfl]
  have hn4:M3.next<M6.next:=by have:=k5.next; have:=k6.next; omega
  refine dh (fun zs M'=>∃ c:Bool,zs=[Bo c]∧M'=M6) ?_ ?_
  ·rintro zs M6' ⟨c,rfl,rfl⟩
   simp only[aC]
   refine aJ (fun _=>?_) (fun _=>?_)
   ·have h45:=k4.next
    have h56:=k5.next
    have h66:=k6.next
    have ac1:Bs M6' pv (eB ln fr):=hpv.bs.keep k6 (by simp)
    refine hMf ac1 (by rw[jT]; omega) fun mv M7 k7 hmv=>?_
    have h67:=k7.next
    have hmc:mv.cells=[mv]:=aD.cells hmv.bs.sl
    have hmb:(oP (eB ln fr)).length≤1000:=WE (by rw[jT]; omega)
    rw[fq (x:=mv) (size:=1) (by rw[hmc]; rfl) (by rw[hmc]; simp[aD.one hmv.bs.sl]) rfl,aL,hmc]
    refine gI.app (R:=kY) (a:=oP (eB ln fr)) (xs:=[]) (S:=fun x=>M4.next≤x∧x<M7.next) (base:=M7.next) .nil ⟨mv,rfl,hmv.bs,fun x hx=>⟨by have:=hmv.new x hx; omega,hmv.bs.lt x hx⟩⟩ (Nat.le_refl _) (Nat.le_refl 1) (by simp[ah]) (fun x hx=>hx.2) (by decide) (by decide) fun gv M8 o8 k8 h78 _ hd8=>?_
    have k8:ae [] M7 M8:=k8.mono (by simp[ah])
    have hg8:=o8.blk
    have k68:=k7.trans k8
    have p8:=p6.ou k68
    have s8:fw kY M8 gv [oP (eB ln fr)] (fun x=>M4.next≤x∧x<M8.next):=(gI.mono o8 (fun x hx=>⟨hx.1,by omega⟩)).xO (S:=fun x=>M4.next≤x∧x<M8.next) fun x h1 h2=>⟨by omega,h2⟩
    obtain⟨b',o',cs',acI,ad6,SI,Xh,cw,rfl,hcw,Zg⟩:=s8.at (i:=0) 1 (0:Int) (by simp)
    have hcw:Bs M8 cw (oP (eB ln fr)):=hcw
    have QW:∀ (K:AV→Prop),aI gv (N .i64 0) 1 K=K (.ptr b' o'):=fun K=>SI .i64 K
    rw[QW,aQ.bV (fO.1 Xh)]
    refine hNm hcw (by omega) fun M9 k9=>?_
    have p9:=p8.ou k9
    have h89:=k9.next
    rw[fq (x:=St (bM (oP (eB ln fr)))) (size:=1) rfl rfl rfl,aL]
    refine fP (E:=bO) (a:=bM (oP (eB ln fr))) p9.ow p9.gF (by decide) (by have:=p9.sl; omega) (by have:=p9.sl; omega) fun sv10 M10 o10 k10 V7 DZ=>?_
    have p10:=(p9.more (m:=7 * i + 1) (by omega)).see (su _) (by have:=p9.sl; omega) o10 k10 DZ
    have vV:∀ x,W x→x<M3.next:=fun x hm=>(p3.jE x hm).1.2
    have aet:∀ x,S x→x<M3.next:=fun x hm=>(p3.qx x hm).1.2
    have NG:∀ x∈ah sv,x<M3.next:=fun x hm=>(Own.blk p3.ow x hm).2
    have acF:∀ x∈ah wv,x<M3.next:=fun x hm=>(p3.wa.blk x hm).2
    have n10:=k10.aB (k9.aB (k68.aB n6 hn4 (by simp)) (by omega) (by simp)) (by omega) (fun hm=>by have:=NG _ hm; omega)
    have aan:gI kY M10 M7.next T2 gv [oP (eB ln fr)] (fun x=>M4.next≤x∧x<M7.next):=(gI.keep o8 k9 (by simp) (by simp)).keep k10 (fun x hx hm=>by have:=NG x hx; omega) (fun x hx hm=>by have:=NG x hm; have:=(hg8 x hx).1; omega)
    rw[bE,Nat.zero_add,aF n10 rfl,bS]
    refine aJ (fun _=>?_) (fun _=>?_)
    ·have scv:fw kY M10 cv (bD 64 (eB ln fr)) (fun x=>M4.next≤x∧x<M7.next):=by
      have s6:fw kY M6' cv (bD 64 (eB ln fr)) (fun x=>M4.next≤x∧x<M7.next):=(ocv.mono fun x hx=>⟨hpv.new x hx,by have:=hpv.bs.lt x hx; omega⟩).xO fun x h1 h2=>⟨by omega,by omega⟩
      exact((s6.keep k68 (by simp)).keep k9 (by simp)).keep k10 fun x hx hm=>by have:=NG x hx; omega
     have hcl:(bD 64 (eB ln fr)).length≤5:=by rw[eF]; unfold dN; rw[jT]; omega
     refine YR (R:=kY) aan scv (by omega) (Nat.le_refl 1) (fun x hx hm=>by have:=(hg8 x hx).1; omega) (fun x hx=>by omega) (by simp; omega) (by simp; omega) fun adC M11 o11 k11 aaf aaj hd11=>?_
     have p11:=p10.keep k11 (fun x hx=>by
      have h1:=hg8 x hx
      refine⟨fun hm=>by have:=vV x hm; omega,fun hm=>by have:=aet x hm; omega,fun hm=>by have:=acF x hm; omega,fun hm=>?_⟩
      rcases DZ with rfl | DZ
      ·have:=NG x hm; omega
      ·have:=DZ x hm; omega) fun x hx=>by have:=hg8 x hx; have:=p3.gF; omega
     have s11:fw kY M11 adC ([oP (eB ln fr)]++bD 64 (eB ln fr)) (fun x=>M4.next≤x∧x<M11.next):=(gI.mono o11 (fun x hx=>⟨hx.1,by omega⟩)).xO (S:=fun x=>M4.next≤x∧x<M11.next) fun x h1 h2=>⟨by omega,h2⟩
     refine hJ2 _ _ ⟨_,_,_,_,_,_,_,fun x=>M4.next≤x∧x<M11.next,_,rfl,p11,s11,fun x hx=>⟨hx.2,fun hm=>by have:=vV x hm; omega⟩, ?_,by simp; omega⟩
     intro b hb
     rcases List.mem_append.1 hb with hb | hb
     ·simp at hb; subst hb; omega
     ·have:=MB b hb; omega
    ·have s10:fw kY M10 gv [oP (eB ln fr)] (fun x=>M4.next≤x∧x<M10.next):=(gI.mono aan (fun x hx=>⟨hx.1,by omega⟩)).xO (S:=fun x=>M4.next≤x∧x<M10.next) fun x h1 h2=>⟨by omega,h2⟩
     refine hJ2 _ _ ⟨_,_,_,_,_,_,_,fun x=>M4.next≤x∧x<M10.next,_,rfl,p10,s10,fun x hx=>⟨hx.2,fun hm=>by have:=vV x hm; omega⟩, ?_,by simp⟩
     intro b hb
     simp at hb; subst hb; omega
   ·rw[bS]
    refine aJ (fun _=>?_) (fun _=>?_)
    ·have hnone:∀ M',M'=M6'→J2 [wv,sv,bA] M':=fun M' e=>by
      subst e
      exact hJ2 _ _ ⟨_,_,_,_,_,_,_,fun _=>False,[],rfl,p6.more (by omega),fw.nil,fun x hx=>hx.elim,by simp,by simp⟩
     rw[bE,Nat.zero_add,aF n6 rfl,fV]
     by_cases h0:at' ≥ 0
     ·rw[decide_eq_true h0]
      simp only[fH]
      rw[bE,Nat.zero_add,aF n6 rfl,ocv.len,dK,dX]
      refine aJ (fun h1=>?_) (fun _=>hnone _ rfl)
      have h1:=of_decide_eq_true h1
      obtain⟨j,rfl⟩:=Int.eq_ofNat_of_zero_le h0
      have hj:j<(bD 64 (eB ln fr)).length:=by omega
      have scv:fw kY M6' cv (bD 64 (eB ln fr)) (fun x=>x∈ah pv∨(M5.next≤x∧x<M6'.next)):=(ocv.mono fun x hx=>Or.inl hx).xO fun x h1 h2=>Or.inr ⟨h1,h2⟩
      rw[bE,Nat.zero_add,aF n6 rfl]
      obtain⟨b',o',cs',acI,ad6,SI,Xh,cw,rfl,hcw,Zg⟩:=scv.at (i:=j) 1 (j:Int) hj
      have hcw:Bs M6' cw (bD 64 (eB ln fr))[j]:=hcw
      rw[SI,aQ.bV (fO.1 Xh)]
      refine MO (T:=T2) hcw fun gv M7 k7 o7 hgv=>?_
      have p7:=p6.ou k7
      have hG:∀ x,(x∈ah cw∨x∈ah gv)→x<M7.next∧¬ W x:=fun x hx=>by
       have h5:=k5.next
       have h67:=k7.next
       have h45:=k4.next
       have vV:W x→x<M3.next:=fun hm=>(p3.jE x hm).1.2
       rcases hx with hx | hx
       ·refine⟨Nat.lt_of_lt_of_le (hcw.lt x hx) h67,fun hm=>?_⟩
        have:=vV hm
        rcases Zg x hx with h | h
        ·have:=hpv.new x h; omega
        ·omega
       ·have h1:=hgv x hx
        exact⟨h1.2,fun hm=>by have:=vV hm; omega⟩
      refine hJ2 _ _ ⟨_,_,_,_,_,_,_,_,[(bD 64 (eB ln fr))[j]],rfl,p7.more (by omega),o7,hG, ?_,by simp⟩
      intro b hb
      simp at hb; subst hb
      have:=MB (n:=64) (b:=eB ln fr) _ (List.getElem_mem hj)
      omega
     ·rw[decide_eq_false h0]
      simp only[jv]
      rw[dQ,dH]
      exact hnone _ rfl
    ·rw[bS]
     refine aJ (fun _=>?_) (fun _=>?_)
     ·have hd6:=hd.keep k36 (by simp)
      have hdl:∀ x∈ah dv,x<M1.next:=fun x hx=>(hdS x hx).2
      rw[bE,Nat.zero_add,aF n6 rfl,hd6.len,fZ]
      refine aJ (fun _=>hQ _) (fun XP=>?_)
      have XP:¬ (data.length:Int) > 1000:=of_decide_eq_false XP
      rw[bE,Nat.zero_add,aF n6 rfl]
      refine MO (T:=T2) hd6 fun gv M7 k7 o7 hgv=>?_
      have p7:=p6.ou k7
      have hd7:=hd6.keep k7 (by simp)
      rw[bE,Nat.zero_add,aF (k7.aB n6 hn4 (by simp)) rfl]
      refine hNm hd7 (by omega) fun M8 k8=>?_
      have p8:=p7.ou k8
      rw[fq (x:=St (bM data)) (size:=1) rfl rfl rfl,aL]
      refine fP (E:=bO) (a:=bM data) p8.ow p8.gF (by decide) (by have:=p8.sl; omega) (by have:=p8.sl; omega) fun sv9 M9 o9 k9 hn9 hv9=>?_
      have p9:=(p8.more (m:=7 * i + 1) (by omega)).see (su _) (by have:=p8.sl; omega) o9 k9 hv9
      have hgW:∀ x,(x∈ah dv∨x∈ah gv)→x<M8.next∧¬ W x∧x ∉ ah sv:=fun x hx=>by
       have hb6:=p6.gF
       have h78:=k8.next
       have h67:=k7.next
       rcases hx with hx | hx
       ·have h1:=hdl x hx
        exact⟨by omega,fun hm=>by have:=(p6.jE x hm).1.1; omega,fun hm=>by have:=(Own.blk p6.ow x hm).1; omega⟩
       ·have h1:=hgv x hx
        exact⟨by omega,fun hm=>by have:=(p6.jE x hm).1.2; omega,fun hm=>by have:=(Own.blk p6.ow x hm).2; omega⟩
      refine hJ2 _ _ ⟨_,_,_,_,_,_,_,fun x=>x∈ah dv∨x∈ah gv,[data],rfl,p9, ?_, ?_, ?_,by simp⟩
      ·exact(o7.keep k8 (by simp)).keep k9 fun x hx hG=>(hgW x hG).2.2 hx
      ·exact fun x hx=>⟨Nat.lt_of_lt_of_le (hgW x hx).1 k9.next,(hgW x hx).2.1⟩
      ·intro b hb; simp at hb; subst hb; omega
     ·simp only[← Sha.dW]
      refine Uc (K:=fun pv Ho=>cRK [wv,pv] Ho fun t78 aej=>cK [.ptr sb 0,pv] aej fun t81 ZZ=>aU wv fun t83=>aU t78 fun t85=>af .sub t83 t85 fun t86=>af .neq t81 t86 fun t87=>az t87 (Q (Bo false) ZZ) (J2 [t78,sv,bA] ZZ)) (Own.gJ p6.ow) (by have:=p6.sl; omega) n6 hn4 fun lp pv7 M7 k7 o7 hlp=>?_
      have p7:=p6.ou k7
      refine hRK p7.wa (p7.gF) (by have:=p7.len; omega) (fun x hx=>Nat.le_trans (p7.big x hx) (by decide)) (Own.gJ o7) (by omega) fun wv8 M8 k8 h8=>?_
      have p8:=p7.ou k8
      obtain⟨T,hT8,hTn⟩:=p8.st
      obtain⟨f1,f2⟩:=Q5 hT8 p8.up lp
      refine hK hT8 (by omega) (aD.keep (Own.gJ o7) k8 (by simp)) (by omega) fun M9 ks9 hT9 k9 acO=>?_
      have hfl:=List.length_filter_le (fun x:bL=>decide (x.1∈iA (fW w) lp)) w
      have hlen:=p8.len
      rw[p7.wa.xO.len,h8.xO.len,f1,f2,gM,aP (by omega) (by omega),bX,show((((w.length - (w.filter fun x=>decide (x.1∈iA (fW w) lp)).length:Nat) : Int)) != ((w.length:Int) - ((w.filter fun x=>decide (x.1∈iA (fW w) lp)).length:Int)))=false by rw[bne_eq_false_iff_eq]; omega,dH]
      have p9:=Pl.kept p7 k8 h8 hT9 hTn k9 acO
      exact hJ2 _ _ ⟨_,_,_,_,_,_,_,fun _=>False,[],rfl,p9.more (by omega),fw.nil,fun x hx=>hx.elim,by simp,by simp⟩
  ·intro J3 hJ3
   rw[bS]
   refine aJ (fun h=>?_) (fun _=>?_)
   ·exact hJ3 _ _ ⟨_,rfl,rfl⟩
   ·rw[bS]
    exact hJ3 _ _ ⟨_,rfl,rfl⟩
 ·rw[BF,aL]
  have k4:ae [] M3 (M3.push (.row [] false TS 0)):=(ae.refl _ _).push _
  have o4:Ow bO (M3.push (.row [] false TS 0)) M3.next TS (.slc M3.next 0 0 (.ex 0)) []:=Ow.lit bO M3
  have x4:(M3.push (.row [] false TS 0)).next=M3.next + 1:=rfl
  generalize M3.push (.row [] false TS 0)=M4 at *
  have hsl:=p3.sl
  refine iE (E:=bO) o4 (by omega) (by decide) (Own.gJ (p3.ou k4).ow) (by simp; omega) (by simp; omega) fun u M5 o5 k5 hn5 hu5=>?_
  rw[List.nil_append] at o5
  have k35:ae [] M3 M5:=k4.bu k5 (fun x hx=>.inl (by simp[ah] at hx; omega))
  have p5:=p3.ou k35
  have hl5:=aD.keep hl1 p5.kp (by simp)
  refine iE (E:=bO) o5 (by omega) (by decide) hl5 (by omega) (by omega) fun u6 M6 o6 k6 hn6 hu6=>?_
  have k36:ae [] M3 M6:=k35.bu k6 (fun x hx=>.inl (Own.blk o5 x hx).1)
  have p6:=p3.ou k36
  refine hT p6.st (by omega) p6.wa.xO p6.up rfl (by have:=p6.len; omega) (fun x hx=>Nat.le_trans (p6.big x hx) (by decide)) (Own.gJ o6) (by simp; omega) (fun x hx=>?_) fun M'=>hQ M'
  rcases List.mem_append.1 hx with hx | hx
  ·rw[p6.sn x hx]; decide
  ·exact hlx x hx
end Go.Ab.Bl
